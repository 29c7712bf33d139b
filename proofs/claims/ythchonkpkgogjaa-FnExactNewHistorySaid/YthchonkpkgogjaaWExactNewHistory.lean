/- Walks of functions that FnExactNewHistory reaches: what each returns, and that it leaves the memory that was there alone. -/
import Derived.Test.YthchonkpkgogjaaKF
import Derived.Test.YthchonkpkgogjaaKG
import Derived.Test.YthchonkpkgogjaaKH
import Derived.Test.YthchonkpkgogjaaKI
import Derived.Test.YthchonkpkgogjaaKJ
import Derived.Test.YthchonkpkgogjaaKM
import Derived.Test.YthchonkpkgogjaaKN
import Derived.Test.YthchonkpkgogjaaKO
import Derived.Test.YthchonkpkgogjaaKP
import Derived.Test.YthchonkpkgogjaaKQ
import Derived.Test.YthchonkpkgogjaaKR
import Derived.Test.YthchonkpkgogjaaKS
import Derived.Test.YthchonkpkgogjaaKT
import Derived.Test.YthchonkpkgogjaaKU
import Derived.Test.YthchonkpkgogjaaKV
import Derived.Test.YthchonkpkgogjaaKX
import Derived.Test.YthchonkpkgogjaaKY
import Derived.Test.YthchonkpkgogjaaKZ
import Derived.Test.YthchonkpkgogjaaJA
import Derived.Test.YthchonkpkgogjaaJB
import Derived.Test.YthchonkpkgogjaaJC
import Derived.Test.YthchonkpkgogjaaJD
import Derived.Test.YthchonkpkgogjaaJE
import Derived.Test.YthchonkpkgogjaaJF
import Derived.Test.YthchonkpkgogjaaJG
import Derived.Test.YthchonkpkgogjaaJH
import Derived.Test.YthchonkpkgogjaaJI
import Derived.Test.YthchonkpkgogjaaJK
import Derived.Test.YthchonkpkgogjaaJM
import Derived.Test.YthchonkpkgogjaaJN
import Derived.Test.YthchonkpkgogjaaProg
namespace Go.Proofs.Ythchonkpkgogjaa
open Go.KLib Go.Shelf
set_option maxRecDepth 20000
set_option linter.unusedVariables false
set_option linter.unusedSimpArgs false
namespace TExactNewHistory
theorem agg164 : aggB Try.prog 164 = some true := by kernel_rfl
theorem agg166 : aggB Try.prog 166 = some true := by kernel_rfl
theorem agg27 : aggB Try.prog 27 = some false := by kernel_rfl
theorem agg29 : aggB Try.prog 29 = some true := by kernel_rfl
theorem agg3 : aggB Try.prog 3 = some false := by kernel_rfl
theorem agg33 : aggB Try.prog 33 = some false := by kernel_rfl
theorem agg34 : aggB Try.prog 34 = some false := by kernel_rfl
theorem agg40 : aggB Try.prog 40 = some false := by kernel_rfl
theorem agg42 : aggB Try.prog 42 = some true := by kernel_rfl
theorem by164 : bytesB Try.prog 164 = some 32 := by kernel_rfl
theorem by3 : bytesB Try.prog 3 = some 8 := by kernel_rfl
theorem el27 : elB Try.prog 27 = some 42 := by kernel_rfl
theorem el33 : elB Try.prog 33 = some 3 := by kernel_rfl
theorem el34 : elB Try.prog 34 = some 166 := by kernel_rfl
theorem el40 : elB Try.prog 40 = some 164 := by kernel_rfl
theorem fa164_0 : faB Try.prog 164 0 = some 0 := by kernel_rfl
theorem fa164_1 : faB Try.prog 164 1 = some 1 := by kernel_rfl
theorem fa164_2 : faB Try.prog 164 2 = some 2 := by kernel_rfl
theorem fa164_3 : faB Try.prog 164 3 = some 3 := by kernel_rfl
theorem fa166_0 : faB Try.prog 166 0 = some 0 := by kernel_rfl
theorem fa166_1 : faB Try.prog 166 1 = some 1 := by kernel_rfl
theorem fa166_2 : faB Try.prog 166 2 = some 2 := by kernel_rfl
theorem fa166_3 : faB Try.prog 166 3 = some 3 := by kernel_rfl
theorem fa29_0 : faB Try.prog 29 0 = some 0 := by kernel_rfl
theorem fa29_1 : faB Try.prog 29 1 = some 1 := by kernel_rfl
theorem fa36_0 : faB Try.prog 36 0 = some 0 := by kernel_rfl
theorem fa36_1 : faB Try.prog 36 1 = some 1 := by kernel_rfl
theorem fa42_0 : faB Try.prog 42 0 = some 0 := by kernel_rfl
theorem fa42_1 : faB Try.prog 42 1 = some 1 := by kernel_rfl
theorem fk132 : fnB Try.prog 132 = true := by kernel_rfl
theorem fk133 : fnB Try.prog 133 = true := by kernel_rfl
theorem fk134 : fnB Try.prog 134 = true := by kernel_rfl
theorem fk135 : fnB Try.prog 135 = true := by kernel_rfl
theorem fk136 : fnB Try.prog 136 = true := by kernel_rfl
theorem fk172 : fnB Try.prog 172 = true := by kernel_rfl
theorem fk173 : fnB Try.prog 173 = true := by kernel_rfl
theorem fk22 : fnB Try.prog 22 = true := by kernel_rfl
theorem fk69 : fnB Try.prog 69 = true := by kernel_rfl
theorem fk70 : fnB Try.prog 70 = true := by kernel_rfl
theorem fk71 : fnB Try.prog 71 = true := by kernel_rfl
theorem fk72 : fnB Try.prog 72 = true := by kernel_rfl
theorem fk74 : fnB Try.prog 74 = true := by kernel_rfl
theorem fk75 : fnB Try.prog 75 = true := by kernel_rfl
theorem fk76 : fnB Try.prog 76 = true := by kernel_rfl
theorem fk77 : fnB Try.prog 77 = true := by kernel_rfl
theorem fk78 : fnB Try.prog 78 = true := by kernel_rfl
theorem fk79 : fnB Try.prog 79 = true := by kernel_rfl
theorem fk80 : fnB Try.prog 80 = true := by kernel_rfl
theorem fk81 : fnB Try.prog 81 = true := by kernel_rfl
theorem fk82 : fnB Try.prog 82 = true := by kernel_rfl
theorem fk93 : fnB Try.prog 93 = true := by kernel_rfl
theorem fk94 : fnB Try.prog 94 = true := by kernel_rfl
theorem fk95 : fnB Try.prog 95 = true := by kernel_rfl
theorem fk96 : fnB Try.prog 96 = true := by kernel_rfl
theorem mixed : Try.prog.follows .mixedOrders = true := by kernel_rfl
theorem pl29 : placesB Try.prog 29 = some [(0, 1), (1, 1)] := by kernel_rfl
theorem pl42 : placesB Try.prog 42 = some [(0, 1), (1, 1)] := by kernel_rfl
theorem sz164 : sizeB Try.prog 164 = some 4 := by kernel_rfl
theorem sz166 : sizeB Try.prog 166 = some 4 := by kernel_rfl
theorem sz29 : sizeB Try.prog 29 = some 2 := by kernel_rfl
theorem sz3 : sizeB Try.prog 3 = some 1 := by kernel_rfl
theorem sz33 : sizeB Try.prog 33 = some 1 := by kernel_rfl
theorem sz40 : sizeB Try.prog 40 = some 1 := by kernel_rfl
theorem sz42 : sizeB Try.prog 42 = some 2 := by kernel_rfl
theorem zr164 : zeroB Try.prog 164 = some (.agg #[.int .i64 0, .int .i64 0, .int .i64 0, .int .i64 0]) := by kernel_rfl
theorem zr29 : zeroB Try.prog 29 = some (.agg #[.int .i64 0, .slice none 0 0]) := by kernel_rfl
theorem zr3 : zeroB Try.prog 3 = some (.int .i64 0) := by kernel_rfl
theorem zr42 : zeroB Try.prog 42 = some (.agg #[.slice none 0 0, .slice none 0 0]) := by kernel_rfl
end TExactNewHistory
open TExactNewHistory

/-- impl.within -/
theorem c_impl_within {w : World} (n : Int) (a : Int) (b : Int) :
    Ctr Try.prog 94 #[(.int .i64 n), (.int .i64 a), (.int .i64 b)] w (fun v w' => v = .bool (decide (a ≤ n ∧ n ≤ b)) ∧ Ch [] w w') := by
  have E := Ch.refl [] w
  refine Ctr_of_W (N := 15) (vs0 := [(.int .i64 n), (.int .i64 a), (.int .i64 b)]) Try.func94 rfl rfl rfl ?_
  refine W_seq fun _K_1 _hK_1 => ?_
  refine W_region ?_
  refine WL_step rfl rfl (r_assign rfl) ?_
  refine WL_nil ?_
  refine thn_nrm (_hK_1 _ _ ?_)
  clear _hK_1
  refine W_seq fun _K_2 _hK_2 => ?_
  refine W_region ?_
  refine WL_step rfl rfl (r_move rfl) ?_
  refine WL_step rfl rfl (r_move rfl) ?_
  refine WL_step rfl rfl (r_geq rfl rfl) ?_
  refine WL_step rfl rfl (r_move rfl) ?_
  refine WL_split (d := 10) rfl (fun _h10 => ?_) (fun _h10 => ?_)
  · have _kb_3 := _h10
    have _h10 := bt_d _h10
    refine WL_step rfl rfl (r_move rfl) ?_
    refine WL_step rfl rfl (r_move rfl) ?_
    refine WL_step rfl rfl (r_leq rfl rfl) ?_
    refine WL_step rfl rfl (r_pickT rfl rfl) ?_
    refine WL_step rfl rfl (r_assign rfl) ?_
    refine WL_nil ?_
    refine thn_nrm (_hK_2 _ _ ?_)
    clear _hK_2
    refine W_ret ?_
    exact ret_intro [_] ⟨rfl, trivial⟩ ⟨congrArg Value.bool (by first | rfl | (rw [Bool.eq_iff_iff]; simp <;> omega) | (rw [Bool.eq_iff_iff]; simp_all; done) | simp_all), E⟩
  · have _kb_3 := _h10
    have _h10 := bf_d _h10
    refine WL_skip rfl rfl ?_
    refine WL_skip rfl rfl ?_
    refine WL_skip rfl rfl ?_
    refine WL_step rfl rfl (r_pickF rfl rfl) ?_
    refine WL_step rfl rfl (r_assign rfl) ?_
    refine WL_nil ?_
    refine thn_nrm (_hK_2 _ _ ?_)
    clear _hK_2
    refine W_ret ?_
    exact ret_intro [_] ⟨rfl, trivial⟩ ⟨congrArg Value.bool (by first | rfl | (rw [Bool.eq_iff_iff]; simp <;> omega) | (rw [Bool.eq_iff_iff]; simp_all; done) | simp_all), E⟩

/-- impl.edgeOk -/
theorem c_impl_edgeOk {w : World} (e : GEdge) (n : Int) (hn : 0 ≤ n ∧ n ≤ 9223372036854775807) :
    Ctr Try.prog 173 #[(.agg #[(.int .i64 e.id), (.int .i64 e.f), (.int .i64 e.t), (.int .i64 e.label)]), (.int .i64 n)] w (fun v w' => v = .bool (tt (EdgeOk (n - 1) e)) ∧ Ch [] w w') := by
  have E := Ch.refl [] w
  refine Ctr_of_W (N := 27) (vs0 := [(.agg #[(.int .i64 e.id), (.int .i64 e.f), (.int .i64 e.t), (.int .i64 e.label)]), (.int .i64 n)]) Try.func173 rfl rfl rfl ?_
  refine W_seq fun _K_1 _hK_1 => ?_
  refine W_region ?_
  refine WL_s rfl rfl ?_
  refine s_box rfl fun _b2 _w_2 _m2 _cw_2 _e2 => ?_
  have _cw_2z := _cw_2.size
  have E := E.trans _cw_2
  have _z2 := _m2.lt
  replace _m2 : Blk _w_2 _b2 164 [(.int .i64 e.id), (.int .i64 e.f), (.int .i64 e.t), (.int .i64 e.label)] := _m2
  refine WL_step rfl rfl (r_assign rfl) ?_
  refine WL_nil ?_
  refine thn_nrm (_hK_1 _ _ ?_)
  clear _hK_1
  refine W_seq fun _K_3 _hK_3 => ?_
  refine W_region ?_
  refine WL_step rfl rfl (r_fieldAddr fa164_0 rfl) ?_
  refine WL_step rfl rfl (r_loadAt _m2.at_ agg3 rfl rfl) ?_
  refine WL_s rfl rfl ?_
  refine Step.call (r_call (xs := [.tmp 6, .const (Go.Value.int Go.IntKind.i64 1), .const (Go.Value.int Go.IntKind.i64 99)]) fk94 rfl) (c_impl_within _ _ _ ) fun _v7 _w_4 _q7 => ?_
  obtain ⟨rfl, _cw_4⟩ := _q7
  have _cw_4z := _cw_4.size
  have E := E.trans _cw_4
  refine WL_step rfl rfl (r_move rfl) ?_
  refine WL_split (d := 8) rfl (fun _h8 => ?_) (fun _h8 => ?_)
  · have _kb_5 := _h8
    have _h8 := bt_d _h8
    refine WL_step rfl rfl (r_fieldAddr fa164_1 rfl) ?_
    have _f_6 := (_m2.ch0 _cw_4)
    refine WL_step rfl rfl (r_loadAt _f_6.at_ agg3 rfl rfl) ?_
    refine WL_step rfl rfl (r_move rfl) ?_
    refine WL_step rfl rfl (r_sub (by omega) rfl rfl) ?_
    refine WL_s rfl rfl ?_
    refine Step.call (r_call (xs := [.tmp 10, .const (Go.Value.int Go.IntKind.i64 0), .tmp 12]) fk94 rfl) (c_impl_within _ _ _ ) fun _v13 _w_7 _q13 => ?_
    obtain ⟨rfl, _cw_7⟩ := _q13
    have _cw_7z := _cw_7.size
    have E := E.trans _cw_7
    refine WL_step rfl rfl (r_pickT rfl rfl) ?_
    refine WL_step rfl rfl (r_move rfl) ?_
    refine WL_split (d := 15) rfl (fun _h15 => ?_) (fun _h15 => ?_)
    · have _kb_8 := _h15
      have _h15 := bt_d _h15
      refine WL_step rfl rfl (r_fieldAddr fa164_2 rfl) ?_
      have _f_9 := (_f_6.ch0 _cw_7)
      refine WL_step rfl rfl (r_loadAt _f_9.at_ agg3 rfl rfl) ?_
      refine WL_step rfl rfl (r_move rfl) ?_
      refine WL_step rfl rfl (r_sub (by omega) rfl rfl) ?_
      refine WL_s rfl rfl ?_
      refine Step.call (r_call (xs := [.tmp 17, .const (Go.Value.int Go.IntKind.i64 0), .tmp 19]) fk94 rfl) (c_impl_within _ _ _ ) fun _v20 _w_10 _q20 => ?_
      obtain ⟨rfl, _cw_10⟩ := _q20
      have _cw_10z := _cw_10.size
      have E := E.trans _cw_10
      refine WL_step rfl rfl (r_pickT rfl rfl) ?_
      refine WL_step rfl rfl (r_move rfl) ?_
      refine WL_split (d := 22) rfl (fun _h22 => ?_) (fun _h22 => ?_)
      · have _kb_11 := _h22
        have _h22 := bt_d _h22
        refine WL_step rfl rfl (r_fieldAddr fa164_3 rfl) ?_
        have _f_12 := (_f_9.ch0 _cw_10)
        refine WL_step rfl rfl (r_loadAt _f_12.at_ agg3 rfl rfl) ?_
        refine WL_s rfl rfl ?_
        refine Step.call (r_call (xs := [.tmp 24, .const (Go.Value.int Go.IntKind.i64 0), .const (Go.Value.int Go.IntKind.i64 2)]) fk94 rfl) (c_impl_within _ _ _ ) fun _v25 _w_13 _q25 => ?_
        obtain ⟨rfl, _cw_13⟩ := _q25
        have _cw_13z := _cw_13.size
        have E := E.trans _cw_13
        refine WL_step rfl rfl (r_pickT rfl rfl) ?_
        refine WL_step rfl rfl (r_assign rfl) ?_
        refine WL_nil ?_
        refine thn_nrm (_hK_3 _ _ ?_)
        clear _hK_3
        refine W_ret ?_
        exact ret_intro [_] ⟨rfl, trivial⟩ ⟨congrArg Value.bool (by first | exact tt_false (fun q => by unfold EdgeOk at q; omega) | (rw [tt_dec]; exact tt_eq ⟨fun q => by unfold EdgeOk; omega, fun q => by unfold EdgeOk at q; omega⟩)), E⟩
      · have _kb_11 := _h22
        have _h22 := bf_d _h22
        refine WL_skip rfl rfl ?_
        refine WL_skip rfl rfl ?_
        refine WL_skip rfl rfl ?_
        refine WL_step rfl rfl (r_pickF rfl rfl) ?_
        refine WL_step rfl rfl (r_assign rfl) ?_
        refine WL_nil ?_
        refine thn_nrm (_hK_3 _ _ ?_)
        clear _hK_3
        refine W_ret ?_
        exact ret_intro [_] ⟨rfl, trivial⟩ ⟨congrArg Value.bool (by first | exact tt_false (fun q => by unfold EdgeOk at q; omega) | (rw [tt_dec]; exact tt_eq ⟨fun q => by unfold EdgeOk; omega, fun q => by unfold EdgeOk at q; omega⟩)), E⟩
    · have _kb_8 := _h15
      have _h15 := bf_d _h15
      refine WL_skip rfl rfl ?_
      refine WL_skip rfl rfl ?_
      refine WL_skip rfl rfl ?_
      refine WL_skip rfl rfl ?_
      refine WL_skip rfl rfl ?_
      refine WL_step rfl rfl (r_pickF rfl rfl) ?_
      refine WL_step rfl rfl (r_move rfl) ?_
      refine WL_skip rfl rfl ?_
      refine WL_skip rfl rfl ?_
      refine WL_skip rfl rfl ?_
      refine WL_step rfl rfl (r_pickF rfl rfl) ?_
      refine WL_step rfl rfl (r_assign rfl) ?_
      refine WL_nil ?_
      refine thn_nrm (_hK_3 _ _ ?_)
      clear _hK_3
      refine W_ret ?_
      exact ret_intro [_] ⟨rfl, trivial⟩ ⟨congrArg Value.bool (by first | exact tt_false (fun q => by unfold EdgeOk at q; omega) | (rw [tt_dec]; exact tt_eq ⟨fun q => by unfold EdgeOk; omega, fun q => by unfold EdgeOk at q; omega⟩)), E⟩
  · have _kb_5 := _h8
    have _h8 := bf_d _h8
    refine WL_skip rfl rfl ?_
    refine WL_skip rfl rfl ?_
    refine WL_skip rfl rfl ?_
    refine WL_skip rfl rfl ?_
    refine WL_skip rfl rfl ?_
    refine WL_step rfl rfl (r_pickF rfl rfl) ?_
    refine WL_step rfl rfl (r_move rfl) ?_
    refine WL_skip rfl rfl ?_
    refine WL_skip rfl rfl ?_
    refine WL_skip rfl rfl ?_
    refine WL_skip rfl rfl ?_
    refine WL_skip rfl rfl ?_
    refine WL_step rfl rfl (r_pickF rfl rfl) ?_
    refine WL_step rfl rfl (r_move rfl) ?_
    refine WL_skip rfl rfl ?_
    refine WL_skip rfl rfl ?_
    refine WL_skip rfl rfl ?_
    refine WL_step rfl rfl (r_pickF rfl rfl) ?_
    refine WL_step rfl rfl (r_assign rfl) ?_
    refine WL_nil ?_
    refine thn_nrm (_hK_3 _ _ ?_)
    clear _hK_3
    refine W_ret ?_
    exact ret_intro [_] ⟨rfl, trivial⟩ ⟨congrArg Value.bool (by first | exact tt_false (fun q => by unfold EdgeOk at q; omega) | (rw [tt_dec]; exact tt_eq ⟨fun q => by unfold EdgeOk; omega, fun q => by unfold EdgeOk at q; omega⟩)), E⟩

/-- impl.IsValidGraph -/
theorem c_impl_IsValidGraph {w : World} {LL_gV _B_gV : Nat} {_v_gV : Value} {gV : List Int} (_h_gV : Ls ics 1 w LL_gV _B_gV _v_gV gV) {LL_gE _B_gE : Nat} {_v_gE : Value} {gE : List GEdge} (_h_gE : Ls GEdge.cs 4 w LL_gE _B_gE _v_gE gE) :
    Ctr Try.prog 132 #[(.agg #[_v_gV, _v_gE])] w (fun v w' => v = .bool (tt (ValidG gV gE)) ∧ Ch [] w w') := by
  obtain ⟨_A_gV, _C_gV, _e1_gV⟩ := _h_gV.val
  subst _e1_gV
  have _l_gV := _h_gV.len
  have _h_gV := _h_gV.here (by decide)
  obtain ⟨_A_gE, _C_gE, _e1_gE⟩ := _h_gE.val
  subst _e1_gE
  have _l_gE := _h_gE.len
  have _h_gE := _h_gE.here (by decide)
  have E := Ch.refl [] w
  refine Ctr_of_W (N := 59) (vs0 := [(.agg #[(.slice _A_gV gV.length _C_gV), (.slice _A_gE gE.length _C_gE)])]) Try.func132 rfl rfl rfl ?_
  refine W_seq fun _K_1 _hK_1 => ?_
  refine W_region ?_
  refine WL_s rfl rfl ?_
  refine s_box rfl fun _b1 _w_2 _m1 _cw_2 _e1 => ?_
  have _cw_2z := _cw_2.size
  have E := E.trans _cw_2
  have _z1 := _m1.lt
  replace _m1 : Blk _w_2 _b1 42 [(.slice _A_gV gV.length _C_gV), (.slice _A_gE gE.length _C_gE)] := _m1
  refine WL_step rfl rfl (r_assign rfl) ?_
  refine WL_nil ?_
  refine thn_nrm (_hK_1 _ _ ?_)
  clear _hK_1
  refine W_seq fun _K_3 _hK_3 => ?_
  refine W_region ?_
  refine WL_step rfl rfl (r_fieldAddr fa42_0 rfl) ?_
  refine WL_step rfl rfl (r_loadAt _m1.at_ agg33 rfl rfl) ?_
  refine WL_step rfl rfl (r_len (by rw [el33]; rfl) rfl) ?_
  refine WL_step rfl rfl (r_assign rfl) ?_
  refine WL_nil ?_
  refine thn_nrm (_hK_3 _ _ ?_)
  clear _hK_3
  refine W_seq fun _K_4 _hK_4 => ?_
  refine W_seq fun _K_5 _hK_5 => ?_
  refine W_region ?_
  refine WL_step rfl rfl (r_fieldAddr fa42_0 rfl) ?_
  refine WL_step rfl rfl (r_loadAt _m1.at_ agg33 rfl rfl) ?_
  refine WL_step rfl rfl (r_len (by rw [el33]; rfl) rfl) ?_
  refine WL_step rfl rfl (r_move rfl) ?_
  refine WL_nil ?_
  refine thn_nrm (_hK_5 _ _ ?_)
  clear _hK_5
  refine W_block ?_
  refine W_loop (σ := Nat) (fun (k : Nat) => [(1, (.pointer (some ⟨_b1, 0, none⟩))), (3, (.int .i64 ((gV.length : Nat) : Int))), (12, (.slice _A_gV gV.length _C_gV)), (13, (.int .i64 ((gV.length : Nat) : Int))), (14, (.int .i64 ((k : Nat) : Int)))]) (fun (k : Nat) wx => Ch [] w wx ∧ _w_2.heap.size ≤ wx.heap.size ∧ (k ≤ gV.length) ∧ (ValsP gV k) ∧ Blk wx _b1 42 [(.slice _A_gV gV.length _C_gV), (.slice _A_gE gE.length _C_gE)]) (fun (k : Nat) => gV.length - k) 0 (Sub.cons rfl (Sub.cons rfl (Sub.cons rfl (Sub.cons rfl (Sub.cons rfl (Sub.nil _)))))) ⟨E, (Nat.le_refl _), (by omega), (vals_zero _), _m1⟩ ?_
  rintro k _wr_6 ⟨E, _zz0, _hk, hv, _F0_0⟩
  have _E0h := E
  have _E0hz := _E0h.size
  have _F0_0z := _F0_0.lt
  refine W_seq fun _K_7 _hK_7 => ?_
  refine W_region ?_
  refine WL_step rfl rfl (r_lss rfl rfl) ?_
  refine WL_nil ?_
  refine thn_nrm (_hK_7 _ _ ?_)
  clear _hK_7
  refine W_seq fun _K_8 _hK_8 => ?_
  refine W_cond rfl (fun _h15 => ?_) (fun _h15 => ?_)
  · have _kb_9 := _h15
    have _h15 := bt_d _h15
    refine W_skip ?_
    refine thn_nrm (_hK_8 _ _ ?_)
    clear _hK_8
    refine W_seq fun _K_10 _hK_10 => ?_
    refine W_block ?_
    refine W_seq fun _K_11 _hK_11 => ?_
    refine W_region ?_
    refine WL_s rfl rfl ?_
    have _f_12 := (_h_gV.ch0 _E0h)
    refine (s_index _f_12 ics_len el33 sz3 rfl rfl rfl (by omega) fun _p16 _y16 _hy16 _a16 => ?_)
    refine WL_step rfl rfl (r_loadAt0 _a16 agg3 rfl rfl) ?_
    refine WL_step rfl rfl (r_assign rfl) ?_
    refine WL_nil ?_
    refine thn_nrm (_hK_11 _ _ ?_)
    clear _hK_11
    refine W_seq fun _K_13 _hK_13 => ?_
    refine W_region ?_
    refine WL_step rfl rfl (r_move rfl) ?_
    refine WL_s rfl rfl ?_
    refine Step.call (r_call (xs := [.tmp 18, .const (Go.Value.int Go.IntKind.i64 0), .const (Go.Value.int Go.IntKind.i64 2)]) fk94 rfl) (c_impl_within _ _ _ ) fun _v19 _w_14 _q19 => ?_
    obtain ⟨rfl, _cw_14⟩ := _q19
    have _cw_14z := _cw_14.size
    have E := E.trans _cw_14
    refine WL_step rfl rfl (r_not rfl) ?_
    refine WL_nil ?_
    refine thn_nrm (_hK_13 _ _ ?_)
    clear _hK_13
    refine W_cond rfl (fun _h20 => ?_) (fun _h20 => ?_)
    · have _kb_15 := _h20
      have _h20 := bf_d (bt_n _h20)
      refine W_seq fun _K_16 _hK_16 => ?_
      refine W_region ?_
      refine WL_step rfl rfl (r_assign rfl) ?_
      refine WL_nil ?_
      refine thn_nrm (_hK_16 _ _ ?_)
      clear _hK_16
      refine W_ret (inB_ret (thn_ret (thn_ret (inB_ret (thn_ret ?_)))))
      clear _hK_4 _hK_10
      exact ret_intro [_] ⟨rfl, trivial⟩ ⟨congrArg Value.bool (by first | exact tt_false (fun q => _h20 (vals_val q _hy16)) | exact tt_false (fun q => _h34 (edge_val q _hy28)) | exact tt_false (fun q => by have _e2 := gedge_lt2 q _hy28 _hy42 (by omega); omega) | exact vg_y hv (by omega) hE (by omega) (by omega) | exact tt_false (fun q => by have _e2 := q.2.2.1; omega)), E⟩
    · have _kb_15 := _h20
      have _h20 := bt_d (bf_n _h20)
      refine W_skip ?_
      refine inB_nrm ?_
      refine thn_nrm (_hK_10 _ _ ?_)
      clear _hK_10
      refine W_region ?_
      refine WL_step rfl rfl (r_add (by omega) rfl rfl) ?_
      refine WL_step rfl rfl (r_move rfl) ?_
      refine WL_nil ?_
      have _f_17 := (_F0_0.ch0 _cw_14)
      exact thn_nrm (Exists.intro (k + 1) ⟨⟨E, (by omega), (by omega), (vals_step hv _hy16 _h20), _f_17⟩, Sub.cons rfl (Sub.cons rfl (Sub.cons rfl (Sub.cons rfl (Sub.cons rfl (Sub.nil _))))), (by first | omega | (dsimp only; omega))⟩)
  · have _kb_9 := _h15
    have _h15 := bf_d _h15
    refine W_exit (thn_exit (thn_exit (inB_hit ?_)))
    refine thn_nrm (_hK_4 _ _ ?_)
    clear _hK_4
    refine W_seq fun _K_18 _hK_18 => ?_
    refine W_seq fun _K_19 _hK_19 => ?_
    refine W_region ?_
    refine WL_step rfl rfl (r_fieldAddr fa42_1 rfl) ?_
    refine WL_step rfl rfl (r_loadAt _F0_0.at_ agg40 rfl rfl) ?_
    refine WL_step rfl rfl (r_len (by rw [el40]; rfl) rfl) ?_
    refine WL_step rfl rfl (r_move rfl) ?_
    refine WL_nil ?_
    refine thn_nrm (_hK_19 _ _ ?_)
    clear _hK_19
    refine W_block ?_
    refine W_loop (σ := Nat) (fun (q : Nat) => [(1, (.pointer (some ⟨_b1, 0, none⟩))), (3, (.int .i64 ((gV.length : Nat) : Int))), (23, (.slice _A_gE gE.length _C_gE)), (24, (.int .i64 ((gE.length : Nat) : Int))), (25, (.int .i64 ((q : Nat) : Int)))]) (fun (q : Nat) wx => Ch [] w wx ∧ _wr_6.heap.size ≤ wx.heap.size ∧ (q ≤ gE.length) ∧ (EdgesP ((gV.length : Int) - 1) gE q) ∧ Blk wx _b1 42 [(.slice _A_gV gV.length _C_gV), (.slice _A_gE gE.length _C_gE)]) (fun (q : Nat) => gE.length - q) 0 (Sub.cons rfl (Sub.cons rfl (Sub.cons rfl (Sub.cons rfl (Sub.cons rfl (Sub.nil _)))))) ⟨E, (Nat.le_refl _), (by omega), (edges_zero _ _), _F0_0⟩ ?_
    rintro q _wr_20 ⟨E, _zz1, hq, hE, _F1_0⟩
    have _E1h := E
    have _E1hz := _E1h.size
    have _F1_0z := _F1_0.lt
    refine W_seq fun _K_21 _hK_21 => ?_
    refine W_region ?_
    refine WL_step rfl rfl (r_lss rfl rfl) ?_
    refine WL_nil ?_
    refine thn_nrm (_hK_21 _ _ ?_)
    clear _hK_21
    refine W_seq fun _K_22 _hK_22 => ?_
    refine W_cond rfl (fun _h26 => ?_) (fun _h26 => ?_)
    · have _kb_23 := _h26
      have _h26 := bt_d _h26
      refine W_skip ?_
      refine thn_nrm (_hK_22 _ _ ?_)
      clear _hK_22
      refine W_seq fun _K_24 _hK_24 => ?_
      refine W_block ?_
      refine W_seq fun _K_25 _hK_25 => ?_
      refine W_region ?_
      refine WL_step rfl rfl (r_move rfl) ?_
      refine WL_s rfl rfl ?_
      have _f_26 := (_h_gE.ch0 _E1h)
      refine (s_index _f_26 GEdge.len el40 sz164 rfl rfl rfl (by omega) fun _p28 _y28 _hy28 _a28 => ?_)
      refine WL_step rfl rfl (r_loadAtA0 _a28 agg164 sz164 rfl) ?_
      refine WL_s rfl rfl ?_
      refine s_alloc zr164 fun _b7 _w_27 _m7 _cw_27 _e7 => ?_
      have _cw_27z := _cw_27.size
      have E := E.trans _cw_27
      have _z7 := _m7.lt
      replace _m7 : Blk _w_27 _b7 164 [(.int .i64 0), (.int .i64 0), (.int .i64 0), (.int .i64 0)] := _m7
      refine WL_step rfl rfl (r_assign rfl) ?_
      refine WL_s rfl rfl ?_
      refine s_storeA (off := 0) 4 _m7 sz164 rfl (us := [(.int .i64 _y28.id), (.int .i64 _y28.f), (.int .i64 _y28.t), (.int .i64 _y28.label)]) rfl rfl rfl rfl fun _w_28 _m_29 _cw_28 => ?_
      have _cw_28z := _cw_28.size
      have E := E.step _cw_28 (fun i hi => .inl (by have _h1 := List.mem_singleton.1 hi; omega))
      replace _m_29 : Blk _w_28 _b7 164 [(.int .i64 _y28.id), (.int .i64 _y28.f), (.int .i64 _y28.t), (.int .i64 _y28.label)] := _m_29
      refine WL_nil ?_
      refine thn_nrm (_hK_25 _ _ ?_)
      clear _hK_25
      refine W_seq fun _K_30 _hK_30 => ?_
      refine W_drawC [] 20 mixed rfl fun _w_31 _cw_31 => ?_
      have _cw_31z := _cw_31.size
      have E := E.trans _cw_31
      have _f_32 := (_m_29.ch0 _cw_31)
      refine DR_s 0 rfl (by kernel_rfl) rfl rfl (t_loadAtA0 _f_32.at_ (fun i hi => absurd hi List.not_mem_nil) agg164 sz164 rfl ?_)
      refine DR_s 1 rfl (by kernel_rfl) rfl rfl (t_v (fun _ => (r_move rfl)) ?_)
      refine DR_one 2 (by kernel_rfl) ?_
      refine DO_s rfl rfl rfl ?_
      refine Step.call (r_call (xs := [.tmp 30, .tmp 31]) fk173 rfl) (c_impl_edgeOk _y28 _ (by omega)) fun _v32 _w_33 _q32 => ?_
      obtain ⟨rfl, _cw_33⟩ := _q32
      have _cw_33z := _cw_33.size
      have E := E.trans _cw_33
      have _S_34 : Ch [] _w_31 _w_33 := ((Ch.refl _ _).trans _cw_33)
      refine ⟨_S_34, ?_⟩
      refine DR_s 3 rfl (by kernel_rfl) rfl rfl (t_v (fun _ => (r_not rfl)) ?_)
      refine DR_s 4 rfl (by kernel_rfl) rfl rfl (t_v (fun _ => (r_move rfl)) ?_)
      refine DR_split (d := 34) rfl (fun _h34 => ?_) (fun _h34 => ?_)
      · have _kb_35 := _h34
        have _h34 := bf_t (bt_n _h34)
        refine DR_skip 5 rfl (by kernel_rfl) rfl rfl ?_
        refine DR_skip 6 rfl (by kernel_rfl) rfl rfl ?_
        refine DR_skip 7 rfl (by kernel_rfl) rfl rfl ?_
        refine DR_skip 8 rfl (by kernel_rfl) rfl rfl ?_
        refine DR_skip 9 rfl (by kernel_rfl) rfl rfl ?_
        refine DR_skip 10 rfl (by kernel_rfl) rfl rfl ?_
        refine DR_skip 11 rfl (by kernel_rfl) rfl rfl ?_
        refine DR_skip 12 rfl (by kernel_rfl) rfl rfl ?_
        refine DR_skip 13 rfl (by kernel_rfl) rfl rfl ?_
        refine DR_skip 14 rfl (by kernel_rfl) rfl rfl ?_
        refine DR_skip 15 rfl (by kernel_rfl) rfl rfl ?_
        refine DR_skip 16 rfl (by kernel_rfl) rfl rfl ?_
        refine DR_skip 17 rfl (by kernel_rfl) rfl rfl ?_
        refine DR_skip 18 rfl (by kernel_rfl) rfl rfl ?_
        refine DR_s 19 rfl (by kernel_rfl) rfl rfl (t_v (fun _ => (r_pickT rfl rfl)) ?_)
        refine DR_done (by kernel_rfl) ?_
        refine thn_nrm (_hK_30 _ _ ?_)
        clear _hK_30
        refine W_condT rfl ?_
        refine W_seq fun _K_36 _hK_36 => ?_
        refine W_region ?_
        refine WL_step rfl rfl (r_assign rfl) ?_
        refine WL_nil ?_
        refine thn_nrm (_hK_36 _ _ ?_)
        clear _hK_36
        refine W_ret (inB_ret (thn_ret (thn_ret (inB_ret (thn_ret ?_)))))
        clear _hK_8 _hK_18 _hK_24
        exact ret_intro [_] ⟨rfl, trivial⟩ ⟨congrArg Value.bool (by first | exact tt_false (fun q => _h20 (vals_val q _hy16)) | exact tt_false (fun q => _h34 (edge_val q _hy28)) | exact tt_false (fun q => by have _e2 := gedge_lt2 q _hy28 _hy42 (by omega); omega) | exact vg_y hv (by omega) hE (by omega) (by omega) | exact tt_false (fun q => by have _e2 := q.2.2.1; omega)), E⟩
      · have _kb_35 := _h34
        have _h34 := bt_t (bf_n _h34)
        refine DR_s 5 rfl (by kernel_rfl) rfl rfl (t_v (fun _ => (r_move rfl)) ?_)
        refine DR_s 6 rfl (by kernel_rfl) rfl rfl (t_v (fun _ => (r_gtr rfl rfl)) ?_)
        refine DR_s 7 rfl (by kernel_rfl) rfl rfl (t_v (fun _ => (r_move rfl)) ?_)
        refine DR_split (d := 37) rfl (fun _h37 => ?_) (fun _h37 => ?_)
        · have _kb_37 := _h37
          have _h37 := bt_d _h37
          refine DR_s 8 rfl (by kernel_rfl) rfl rfl (t_v (fun _ => (r_fieldAddr fa42_1 rfl)) ?_)
          have _f_38 := (((_F1_0.ch0 _cw_27).ch _cw_28 (fun hm => by have _h1 := List.mem_singleton.1 hm; omega)).ch0 _cw_31)
          refine DR_s 9 rfl (by kernel_rfl) rfl rfl (t_loadAt _f_38.at_ (fun i hi => absurd hi List.not_mem_nil) agg40 rfl rfl ?_)
          refine DR_s 10 rfl (by kernel_rfl) rfl rfl (t_v (fun _ => (r_move rfl)) ?_)
          refine DR_s 11 rfl (by kernel_rfl) rfl rfl (t_v (fun _ => (r_sub (by omega) rfl rfl)) ?_)
          have _f_39 := (((_f_26.ch0 _cw_27).ch _cw_28 (fun i hi => by have _h1 := List.mem_singleton.1 hi; omega)).ch0 _cw_31)
          refine DR_s 12 rfl (by kernel_rfl) rfl rfl (t_index (j := (((q : Nat) : Int) - 1).toNat) _f_39 GEdge.len el40 sz164 rfl rfl (by omega) (by omega) fun _p42 _y42 _hy42 _a42 => ?_)
          refine DR_s 13 rfl (by kernel_rfl) rfl rfl (t_v (fun _ => (r_fieldAddr fa164_0 rfl)) ?_)
          refine DR_s 14 rfl (by kernel_rfl) rfl rfl (t_loadAt _a42 (fun i hi => absurd hi List.not_mem_nil) agg3 rfl rfl ?_)
          refine DR_s 15 rfl (by kernel_rfl) rfl rfl (t_v (fun _ => (r_fieldAddr fa164_0 rfl)) ?_)
          refine DR_s 16 rfl (by kernel_rfl) rfl rfl (t_loadAt _f_32.at_ (fun i hi => absurd hi List.not_mem_nil) agg3 rfl rfl ?_)
          refine DR_s 17 rfl (by kernel_rfl) rfl rfl (t_v (fun _ => (r_geq rfl rfl)) ?_)
          refine DR_s 18 rfl (by kernel_rfl) rfl rfl (t_v (fun _ => (r_pickT rfl rfl)) ?_)
          refine DR_s 19 rfl (by kernel_rfl) rfl rfl (t_v (fun _ => (r_pickF rfl rfl)) ?_)
          refine DR_done (by kernel_rfl) ?_
          refine thn_nrm (_hK_30 _ _ ?_)
          clear _hK_30
          refine W_cond rfl (fun _h49 => ?_) (fun _h49 => ?_)
          · have _kb_40 := _h49
            have _h49 := bt_d _h49
            refine W_seq fun _K_41 _hK_41 => ?_
            refine W_region ?_
            refine WL_step rfl rfl (r_assign rfl) ?_
            refine WL_nil ?_
            refine thn_nrm (_hK_41 _ _ ?_)
            clear _hK_41
            refine W_ret (inB_ret (thn_ret (thn_ret (inB_ret (thn_ret ?_)))))
            clear _hK_8 _hK_18 _hK_24
            exact ret_intro [_] ⟨rfl, trivial⟩ ⟨congrArg Value.bool (by first | exact tt_false (fun q => _h20 (vals_val q _hy16)) | exact tt_false (fun q => _h34 (edge_val q _hy28)) | exact tt_false (fun q => by have _e2 := gedge_lt2 q _hy28 _hy42 (by omega); omega) | exact vg_y hv (by omega) hE (by omega) (by omega) | exact tt_false (fun q => by have _e2 := q.2.2.1; omega)), E⟩
          · have _kb_40 := _h49
            have _h49 := bf_d _h49
            refine W_skip ?_
            refine inB_nrm ?_
            refine thn_nrm (_hK_24 _ _ ?_)
            clear _hK_24
            refine W_region ?_
            refine WL_step rfl rfl (r_add (by omega) rfl rfl) ?_
            refine WL_step rfl rfl (r_move rfl) ?_
            refine WL_nil ?_
            have _f_42 := (_f_38.ch0 _cw_33)
            exact thn_nrm (Exists.intro (q + 1) ⟨⟨E, (by omega), (by omega), (by first | exact edges_step0 hE _hy28 _h34 (by omega) | (exact edges_stepj hE _hy28 _h34 _hy42 (by omega) (by first | omega | (rw [_u9]; omega)))), _f_42⟩, Sub.cons rfl (Sub.cons rfl (Sub.cons rfl (Sub.cons rfl (Sub.cons rfl (Sub.nil _))))), (by first | omega | (dsimp only; omega))⟩)
        · have _kb_37 := _h37
          have _h37 := bf_d _h37
          refine DR_skip 8 rfl (by kernel_rfl) rfl rfl ?_
          refine DR_skip 9 rfl (by kernel_rfl) rfl rfl ?_
          refine DR_skip 10 rfl (by kernel_rfl) rfl rfl ?_
          refine DR_skip 11 rfl (by kernel_rfl) rfl rfl ?_
          refine DR_skip 12 rfl (by kernel_rfl) rfl rfl ?_
          refine DR_skip 13 rfl (by kernel_rfl) rfl rfl ?_
          refine DR_skip 14 rfl (by kernel_rfl) rfl rfl ?_
          refine DR_skip 15 rfl (by kernel_rfl) rfl rfl ?_
          refine DR_skip 16 rfl (by kernel_rfl) rfl rfl ?_
          refine DR_skip 17 rfl (by kernel_rfl) rfl rfl ?_
          refine DR_s 18 rfl (by kernel_rfl) rfl rfl (t_v (fun _ => (r_pickF rfl rfl)) ?_)
          refine DR_s 19 rfl (by kernel_rfl) rfl rfl (t_v (fun _ => (r_pickF rfl rfl)) ?_)
          refine DR_done (by kernel_rfl) ?_
          refine thn_nrm (_hK_30 _ _ ?_)
          clear _hK_30
          refine W_condF rfl ?_
          refine W_skip ?_
          refine inB_nrm ?_
          refine thn_nrm (_hK_24 _ _ ?_)
          clear _hK_24
          refine W_region ?_
          refine WL_step rfl rfl (r_add (by omega) rfl rfl) ?_
          refine WL_step rfl rfl (r_move rfl) ?_
          refine WL_nil ?_
          have _f_43 := ((((_F1_0.ch0 _cw_27).ch _cw_28 (fun hm => by have _h1 := List.mem_singleton.1 hm; omega)).ch0 _cw_31).ch0 _cw_33)
          exact thn_nrm (Exists.intro (q + 1) ⟨⟨E, (by omega), (by omega), (by first | exact edges_step0 hE _hy28 _h34 (by omega) | (exact edges_stepj hE _hy28 _h34 _hy42 (by omega) (by first | omega | (rw [_u9]; omega)))), _f_43⟩, Sub.cons rfl (Sub.cons rfl (Sub.cons rfl (Sub.cons rfl (Sub.cons rfl (Sub.nil _))))), (by first | omega | (dsimp only; omega))⟩)
    · have _kb_23 := _h26
      have _h26 := bf_d _h26
      refine W_exit (thn_exit (thn_exit (inB_hit ?_)))
      refine thn_nrm (_hK_18 _ _ ?_)
      clear _hK_18
      refine W_seq fun _K_44 _hK_44 => ?_
      refine W_region ?_
      refine WL_step rfl rfl (r_move rfl) ?_
      refine WL_s rfl rfl ?_
      refine Step.call (r_call (xs := [.tmp 51, .const (Go.Value.int Go.IntKind.i64 1), .const (Go.Value.int Go.IntKind.i64 5)]) fk94 rfl) (c_impl_within _ _ _ ) fun _v52 _w_45 _q52 => ?_
      obtain ⟨rfl, _cw_45⟩ := _q52
      have _cw_45z := _cw_45.size
      have E := E.trans _cw_45
      refine WL_step rfl rfl (r_move rfl) ?_
      refine WL_split (d := 53) rfl (fun _h53 => ?_) (fun _h53 => ?_)
      · have _kb_46 := _h53
        have _h53 := bt_d _h53
        refine WL_step rfl rfl (r_fieldAddr fa42_1 rfl) ?_
        have _f_47 := (_F1_0.ch0 _cw_45)
        refine WL_step rfl rfl (r_loadAt _f_47.at_ agg40 rfl rfl) ?_
        refine WL_step rfl rfl (r_len (by rw [el40]; rfl) rfl) ?_
        refine WL_step rfl rfl (r_leq rfl rfl) ?_
        refine WL_step rfl rfl (r_pickT rfl rfl) ?_
        refine WL_step rfl rfl (r_assign rfl) ?_
        refine WL_nil ?_
        refine thn_nrm (_hK_44 _ _ ?_)
        clear _hK_44
        refine W_ret ?_
        clear _hK_8 _hK_22
        exact ret_intro [_] ⟨rfl, trivial⟩ ⟨congrArg Value.bool (by first | exact tt_false (fun q => _h20 (vals_val q _hy16)) | exact tt_false (fun q => _h34 (edge_val q _hy28)) | exact tt_false (fun q => by have _e2 := gedge_lt2 q _hy28 _hy42 (by omega); omega) | exact vg_y hv (by omega) hE (by omega) (by omega) | exact tt_false (fun q => by have _e2 := q.2.2.1; omega)), E⟩
      · have _kb_46 := _h53
        have _h53 := bf_d _h53
        refine WL_skip rfl rfl ?_
        refine WL_skip rfl rfl ?_
        refine WL_skip rfl rfl ?_
        refine WL_skip rfl rfl ?_
        refine WL_step rfl rfl (r_pickF rfl rfl) ?_
        refine WL_step rfl rfl (r_assign rfl) ?_
        refine WL_nil ?_
        refine thn_nrm (_hK_44 _ _ ?_)
        clear _hK_44
        refine W_ret ?_
        clear _hK_8 _hK_22
        exact ret_intro [_] ⟨rfl, trivial⟩ ⟨congrArg Value.bool (by first | exact tt_false (fun q => _h20 (vals_val q _hy16)) | exact tt_false (fun q => _h34 (edge_val q _hy28)) | exact tt_false (fun q => by have _e2 := gedge_lt2 q _hy28 _hy42 (by omega); omega) | exact vg_y hv (by omega) hE (by omega) (by omega) | exact tt_false (fun q => by have _e2 := q.2.2.1; omega)), E⟩

/-- slices.Equal[[]int,int] -/
theorem c_slices_Equal_int_int {w : World} {LL_a _B_a : Nat} {_v_a : Value} {a : List Int} (_h_a : Ls ics 1 w LL_a _B_a _v_a a) {LL_b _B_b : Nat} {_v_b : Value} {b : List Int} (_h_b : Ls ics 1 w LL_b _B_b _v_b b) :
    Ctr Try.prog 133 #[_v_a, _v_b] w (fun v w' => v = .bool (decide (a = b)) ∧ Ch [] w w') := by
  obtain ⟨_A_a, _C_a, _e1_a⟩ := _h_a.val
  subst _e1_a
  have _l_a := _h_a.len
  have _h_a := _h_a.here (by decide)
  obtain ⟨_A_b, _C_b, _e1_b⟩ := _h_b.val
  subst _e1_b
  have _l_b := _h_b.len
  have _h_b := _h_b.here (by decide)
  have E := Ch.refl [] w
  refine Ctr_of_W (N := 26) (vs0 := [(.slice _A_a a.length _C_a), (.slice _A_b b.length _C_b)]) Try.func133 rfl rfl rfl ?_
  refine W_seq fun _K_1 _hK_1 => ?_
  refine W_region ?_
  refine WL_step rfl rfl (r_assign rfl) ?_
  refine WL_nil ?_
  refine thn_nrm (_hK_1 _ _ ?_)
  clear _hK_1
  refine W_seq fun _K_2 _hK_2 => ?_
  refine W_seq fun _K_3 _hK_3 => ?_
  refine W_region ?_
  refine WL_step rfl rfl (r_move rfl) ?_
  refine WL_step rfl rfl (r_len (by rw [el33]; rfl) rfl) ?_
  refine WL_step rfl rfl (r_move rfl) ?_
  refine WL_step rfl rfl (r_len (by rw [el33]; rfl) rfl) ?_
  refine WL_step rfl rfl (r_neq rfl rfl) ?_
  refine WL_nil ?_
  refine thn_nrm (_hK_3 _ _ ?_)
  clear _hK_3
  refine W_cond rfl (fun _h10 => ?_) (fun _h10 => ?_)
  · have _kb_4 := _h10
    have _h10 := bf_d (bt_n _h10)
    refine W_seq fun _K_5 _hK_5 => ?_
    refine W_region ?_
    refine WL_step rfl rfl (r_assign rfl) ?_
    refine WL_nil ?_
    refine thn_nrm (_hK_5 _ _ ?_)
    clear _hK_5
    refine W_ret (thn_ret ?_)
    clear _hK_2
    exact ret_intro [_] ⟨rfl, trivial⟩ ⟨congrArg Value.bool (decide_eq_false (fun e => _h10 (by rw [e]))).symm, E⟩
  · have _kb_4 := _h10
    have _h10 := bt_d (bf_n _h10)
    refine W_skip ?_
    refine thn_nrm (_hK_2 _ _ ?_)
    clear _hK_2
    refine W_seq fun _K_6 _hK_6 => ?_
    refine W_seq fun _K_7 _hK_7 => ?_
    refine W_region ?_
    refine WL_step rfl rfl (r_move rfl) ?_
    refine WL_step rfl rfl (r_len (by rw [el33]; rfl) rfl) ?_
    refine WL_step rfl rfl (r_move rfl) ?_
    refine WL_nil ?_
    refine thn_nrm (_hK_7 _ _ ?_)
    clear _hK_7
    refine W_block ?_
    refine W_loop (σ := Nat) (fun (k : Nat) => [(0, (.slice _A_a a.length _C_a)), (1, (.slice _A_b b.length _C_b)), (12, (.int .i64 ((a.length : Nat) : Int))), (13, (.int .i64 ((k : Nat) : Int)))]) (fun (k : Nat) wx => Ch [] w wx ∧ w.heap.size ≤ wx.heap.size ∧ (k ≤ a.length) ∧ (a.take k = b.take k)) (fun (k : Nat) => a.length - k) 0 (Sub.cons rfl (Sub.cons rfl (Sub.cons rfl (Sub.cons rfl (Sub.nil _))))) ⟨E, (Nat.le_refl _), (by omega), rfl⟩ ?_
    rintro k _wr_8 ⟨E, _zz0, _hk, _ht⟩
    have _E0h := E
    have _E0hz := _E0h.size
    refine W_seq fun _K_9 _hK_9 => ?_
    refine W_region ?_
    refine WL_step rfl rfl (r_lss rfl rfl) ?_
    refine WL_nil ?_
    refine thn_nrm (_hK_9 _ _ ?_)
    clear _hK_9
    refine W_seq fun _K_10 _hK_10 => ?_
    refine W_cond rfl (fun _h14 => ?_) (fun _h14 => ?_)
    · have _kb_11 := _h14
      have _h14 := bt_d _h14
      refine W_skip ?_
      refine thn_nrm (_hK_10 _ _ ?_)
      clear _hK_10
      refine W_seq fun _K_12 _hK_12 => ?_
      refine W_block ?_
      refine W_seq fun _K_13 _hK_13 => ?_
      refine W_region ?_
      refine WL_step rfl rfl (r_move rfl) ?_
      refine WL_step rfl rfl (r_assign rfl) ?_
      refine WL_nil ?_
      refine thn_nrm (_hK_13 _ _ ?_)
      clear _hK_13
      refine W_seq fun _K_14 _hK_14 => ?_
      refine W_drawC [] 9 mixed rfl fun _w_15 _cw_15 => ?_
      have _cw_15z := _cw_15.size
      have E := E.trans _cw_15
      refine DR_s 0 rfl (by kernel_rfl) rfl rfl (t_v (fun _ => (r_move rfl)) ?_)
      refine DR_s 1 rfl (by kernel_rfl) rfl rfl (t_v (fun _ => (r_move rfl)) ?_)
      have _f_16 := ((_h_a.ch0 _E0h).ch0 _cw_15)
      refine DR_s 2 rfl (by kernel_rfl) rfl rfl (t_index _f_16 ics_len el33 sz3 rfl rfl rfl (by omega) fun _p18 _y18 _hy18 _a18 => ?_)
      refine DR_s 3 rfl (by kernel_rfl) rfl rfl (t_loadAt0 _a18 (fun i hi => absurd hi List.not_mem_nil) agg3 rfl rfl ?_)
      refine DR_s 4 rfl (by kernel_rfl) rfl rfl (t_v (fun _ => (r_move rfl)) ?_)
      refine DR_s 5 rfl (by kernel_rfl) rfl rfl (t_v (fun _ => (r_move rfl)) ?_)
      have _f_17 := ((_h_b.ch0 _E0h).ch0 _cw_15)
      refine DR_s 6 rfl (by kernel_rfl) rfl rfl (t_index _f_17 ics_len el33 sz3 rfl rfl rfl (by omega) fun _p22 _y22 _hy22 _a22 => ?_)
      refine DR_s 7 rfl (by kernel_rfl) rfl rfl (t_loadAt0 _a22 (fun i hi => absurd hi List.not_mem_nil) agg3 rfl rfl ?_)
      refine DR_s 8 rfl (by kernel_rfl) rfl rfl (t_v (fun _ => (r_neq rfl rfl)) ?_)
      refine DR_done (by kernel_rfl) ?_
      refine thn_nrm (_hK_14 _ _ ?_)
      clear _hK_14
      refine W_cond rfl (fun _h24 => ?_) (fun _h24 => ?_)
      · have _kb_18 := _h24
        have _h24 := bf_d (bt_n _h24)
        refine W_seq fun _K_19 _hK_19 => ?_
        refine W_region ?_
        refine WL_step rfl rfl (r_assign rfl) ?_
        refine WL_nil ?_
        refine thn_nrm (_hK_19 _ _ ?_)
        clear _hK_19
        refine W_ret (inB_ret (thn_ret (thn_ret (inB_ret (thn_ret ?_)))))
        clear _hK_6 _hK_12
        exact ret_intro [_] ⟨rfl, trivial⟩ ⟨congrArg Value.bool (decide_eq_false (ne_of_get _hy18 _hy22 _h24)).symm, E⟩
      · have _kb_18 := _h24
        have _h24 := bt_d (bf_n _h24)
        refine W_skip ?_
        refine inB_nrm ?_
        refine thn_nrm (_hK_12 _ _ ?_)
        clear _hK_12
        refine W_region ?_
        refine WL_step rfl rfl (r_add (by omega) rfl rfl) ?_
        refine WL_step rfl rfl (r_move rfl) ?_
        refine WL_nil ?_
        exact thn_nrm (Exists.intro (k + 1) ⟨⟨E, (by omega), (by omega), (take_eq_succ _ht _hy18 _hy22 _h24)⟩, Sub.cons rfl (Sub.cons rfl (Sub.cons rfl (Sub.cons rfl (Sub.nil _)))), (by first | omega | (dsimp only; omega))⟩)
    · have _kb_11 := _h14
      have _h14 := bf_d _h14
      refine W_exit (thn_exit (thn_exit (inB_hit ?_)))
      refine thn_nrm (_hK_6 _ _ ?_)
      clear _hK_6
      refine W_seq fun _K_20 _hK_20 => ?_
      refine W_region ?_
      refine WL_step rfl rfl (r_assign rfl) ?_
      refine WL_nil ?_
      refine thn_nrm (_hK_20 _ _ ?_)
      clear _hK_20
      refine W_ret ?_
      clear _hK_10
      exact ret_intro [_] ⟨rfl, trivial⟩ ⟨congrArg Value.bool (decide_eq_true (eq_of_take _ht (by omega) (by omega))).symm, E⟩

/-- impl.IsValidHistory -/
theorem c_impl_IsValidHistory {w : World} (hF : Int) {LL_shG _B_shG : Nat} {_v_shG : Value} {shG : List Gv} (_h_shG : Ls Gv.cs 2 w LL_shG _B_shG _v_shG shG) {LR_hG BB_hG : Nat} {hG : List GD} (_rd_hG : RdG w LR_hG BB_hG shG hG) :
    Ctr Try.prog 69 #[(.agg #[(.int .i64 hF), _v_shG])] w (fun v w' => v = .bool (tt (ValidH hF hG)) ∧ Ch [] w w') := by
  obtain ⟨_A_shG, _C_shG, _e1_shG⟩ := _h_shG.val
  subst _e1_shG
  have _l_shG := _h_shG.len
  have _h_shG := _h_shG.here (by decide)
  have _rd_hG := _rd_hG.here
  have _rl_hG := _rd_hG.1
  have E := Ch.refl [] w
  refine Ctr_of_W (N := 43) (vs0 := [(.agg #[(.int .i64 hF), (.slice _A_shG shG.length _C_shG)])]) Try.func69 rfl rfl rfl ?_
  refine W_seq fun _K_1 _hK_1 => ?_
  refine W_region ?_
  refine WL_s rfl rfl ?_
  refine s_box rfl fun _b1 _w_2 _m1 _cw_2 _e1 => ?_
  have _cw_2z := _cw_2.size
  have E := E.trans _cw_2
  have _z1 := _m1.lt
  replace _m1 : Blk _w_2 _b1 29 [(.int .i64 hF), (.slice _A_shG shG.length _C_shG)] := _m1
  refine WL_step rfl rfl (r_assign rfl) ?_
  refine WL_nil ?_
  refine thn_nrm (_hK_1 _ _ ?_)
  clear _hK_1
  refine W_seq fun _K_3 _hK_3 => ?_
  refine W_region ?_
  refine WL_step rfl rfl (r_fieldAddr fa29_1 rfl) ?_
  refine WL_step rfl rfl (r_loadAt _m1.at_ agg27 rfl rfl) ?_
  refine WL_step rfl rfl (r_len (by rw [el27]; rfl) rfl) ?_
  refine WL_step rfl rfl (r_assign rfl) ?_
  refine WL_nil ?_
  refine thn_nrm (_hK_3 _ _ ?_)
  clear _hK_3
  refine W_seq fun _K_4 _hK_4 => ?_
  refine W_seq fun _K_5 _hK_5 => ?_
  refine W_region ?_
  refine WL_step rfl rfl (r_move rfl) ?_
  refine WL_s rfl rfl ?_
  refine Step.call (r_call (xs := [.tmp 9, .const (Go.Value.int Go.IntKind.i64 1), .const (Go.Value.int Go.IntKind.i64 8)]) fk94 rfl) (c_impl_within _ _ _ ) fun _v10 _w_6 _q10 => ?_
  obtain ⟨rfl, _cw_6⟩ := _q10
  have _cw_6z := _cw_6.size
  have E := E.trans _cw_6
  refine WL_step rfl rfl (r_not rfl) ?_
  refine WL_step rfl rfl (r_move rfl) ?_
  refine WL_split (d := 12) rfl (fun _h12 => ?_) (fun _h12 => ?_)
  · have _kb_7 := _h12
    have _h12 := bf_d (bt_n _h12)
    refine WL_skip rfl rfl ?_
    refine WL_skip rfl rfl ?_
    refine WL_skip rfl rfl ?_
    refine WL_skip rfl rfl ?_
    refine WL_skip rfl rfl ?_
    refine WL_skip rfl rfl ?_
    refine WL_skip rfl rfl ?_
    refine WL_step rfl rfl (r_pickT rfl rfl) ?_
    refine WL_nil ?_
    refine thn_nrm (_hK_5 _ _ ?_)
    clear _hK_5
    refine W_condT rfl ?_
    refine W_seq fun _K_8 _hK_8 => ?_
    refine W_region ?_
    refine WL_step rfl rfl (r_assign rfl) ?_
    refine WL_nil ?_
    refine thn_nrm (_hK_8 _ _ ?_)
    clear _hK_8
    refine W_ret (thn_ret ?_)
    clear _hK_4
    exact ret_intro [_] ⟨rfl, trivial⟩ ⟨congrArg Value.bool (by first | exact tt_false (fun q => _h31 (valh_val q _hys26)) | exact tt_false (fun q => _h41 (valh_same q _hys26 _hys36)) | exact vh_t hs (by omega) (by omega) (by omega) | exact tt_false (fun q => by have _e2 := q.2; omega)), E⟩
  · have _kb_7 := _h12
    have _h12 := bt_d (bf_n _h12)
    refine WL_step rfl rfl (r_fieldAddr fa29_0 rfl) ?_
    have _f_9 := (_m1.ch0 _cw_6)
    refine WL_step rfl rfl (r_loadAt _f_9.at_ agg3 rfl rfl) ?_
    refine WL_step rfl rfl (r_move rfl) ?_
    refine WL_step rfl rfl (r_sub (by omega) rfl rfl) ?_
    refine WL_step rfl rfl (r_add (by omega) rfl rfl) ?_
    refine WL_s rfl rfl ?_
    refine Step.call (r_call (xs := [.tmp 14, .const (Go.Value.int Go.IntKind.i64 1), .tmp 17]) fk94 rfl) (c_impl_within _ _ _ ) fun _v18 _w_10 _q18 => ?_
    obtain ⟨rfl, _cw_10⟩ := _q18
    have _cw_10z := _cw_10.size
    have E := E.trans _cw_10
    refine WL_step rfl rfl (r_not rfl) ?_
    refine WL_step rfl rfl (r_pickF rfl rfl) ?_
    refine WL_nil ?_
    refine thn_nrm (_hK_5 _ _ ?_)
    clear _hK_5
    refine W_cond rfl (fun _h20 => ?_) (fun _h20 => ?_)
    · have _kb_11 := _h20
      have _h20 := bf_d (bt_n _h20)
      refine W_seq fun _K_12 _hK_12 => ?_
      refine W_region ?_
      refine WL_step rfl rfl (r_assign rfl) ?_
      refine WL_nil ?_
      refine thn_nrm (_hK_12 _ _ ?_)
      clear _hK_12
      refine W_ret (thn_ret ?_)
      clear _hK_4
      exact ret_intro [_] ⟨rfl, trivial⟩ ⟨congrArg Value.bool (by first | exact tt_false (fun q => _h31 (valh_val q _hys26)) | exact tt_false (fun q => _h41 (valh_same q _hys26 _hys36)) | exact vh_t hs (by omega) (by omega) (by omega) | exact tt_false (fun q => by have _e2 := q.2; omega)), E⟩
    · have _kb_11 := _h20
      have _h20 := bt_d (bf_n _h20)
      refine W_skip ?_
      refine thn_nrm (_hK_4 _ _ ?_)
      clear _hK_4
      refine W_seq fun _K_13 _hK_13 => ?_
      refine W_seq fun _K_14 _hK_14 => ?_
      refine W_region ?_
      refine WL_step rfl rfl (r_fieldAddr fa29_1 rfl) ?_
      have _f_15 := (_f_9.ch0 _cw_10)
      refine WL_step rfl rfl (r_loadAt _f_15.at_ agg27 rfl rfl) ?_
      refine WL_step rfl rfl (r_len (by rw [el27]; rfl) rfl) ?_
      refine WL_step rfl rfl (r_move rfl) ?_
      refine WL_nil ?_
      refine thn_nrm (_hK_14 _ _ ?_)
      clear _hK_14
      refine W_block ?_
      refine W_loop (σ := Nat) (fun (k : Nat) => [(1, (.pointer (some ⟨_b1, 0, none⟩))), (22, (.slice _A_shG shG.length _C_shG)), (23, (.int .i64 ((shG.length : Nat) : Int))), (24, (.int .i64 ((k : Nat) : Int)))]) (fun (k : Nat) wx => Ch [] w wx ∧ _w_10.heap.size ≤ wx.heap.size ∧ (k ≤ hG.length) ∧ (SameV hG k) ∧ Blk wx _b1 29 [(.int .i64 hF), (.slice _A_shG shG.length _C_shG)]) (fun (k : Nat) => hG.length - k) 0 (Sub.cons rfl (Sub.cons rfl (Sub.cons rfl (Sub.cons rfl (Sub.nil _))))) ⟨E, (Nat.le_refl _), (by omega), (same_zero _), _f_15⟩ ?_
      rintro k _wr_16 ⟨E, _zz0, _hk, hs, _F0_0⟩
      have _E0h := E
      have _E0hz := _E0h.size
      have _F0_0z := _F0_0.lt
      refine W_seq fun _K_17 _hK_17 => ?_
      refine W_region ?_
      refine WL_step rfl rfl (r_lss rfl rfl) ?_
      refine WL_nil ?_
      refine thn_nrm (_hK_17 _ _ ?_)
      clear _hK_17
      refine W_seq fun _K_18 _hK_18 => ?_
      refine W_cond rfl (fun _h25 => ?_) (fun _h25 => ?_)
      · have _kb_19 := _h25
        have _h25 := bt_d _h25
        refine W_skip ?_
        refine thn_nrm (_hK_18 _ _ ?_)
        clear _hK_18
        refine W_seq fun _K_20 _hK_20 => ?_
        refine W_block ?_
        refine W_seq fun _K_21 _hK_21 => ?_
        refine W_region ?_
        refine WL_s rfl rfl ?_
        have _f_22 := (_h_shG.ch0 _E0h)
        refine (s_index _f_22 Gv.len el27 sz42 rfl rfl rfl (by omega) fun _p26 _y26 _hy26 _a26 => ?_)
        have _f_23 := (_rd_hG.ch0 _E0h)
        obtain ⟨_ys26, _hys26, _fs26, fe26⟩ := _f_23.get _hy26
        obtain ⟨⟨_A26, _n26, _C26⟩, ⟨Ae26, ne26, Ce26⟩⟩ := _y26
        obtain rfl := _fs26.eqn
        obtain rfl := fe26.eqn
        have _l26 := _fs26.len
        have le26 := fe26.len
        replace _fs26 : Ls ics 1 _wr_16 LR_hG w.heap.size (.slice _A26 _ys26.V.length _C26) _ys26.V := _fs26
        replace fe26 : Ls GEdge.cs 4 _wr_16 LR_hG w.heap.size (.slice Ae26 _ys26.E.length Ce26) _ys26.E := fe26
        refine WL_step rfl rfl (r_loadAtA0 _a26 agg42 sz42 rfl) ?_
        refine WL_s rfl rfl ?_
        refine s_alloc zr42 fun _b5 _w_24 _m5 _cw_24 _e5 => ?_
        have _cw_24z := _cw_24.size
        have E := E.trans _cw_24
        have _z5 := _m5.lt
        replace _m5 : Blk _w_24 _b5 42 [(.slice none 0 0), (.slice none 0 0)] := _m5
        refine WL_s rfl rfl ?_
        refine s_storeA (off := 0) 2 _m5 sz42 rfl (us := [(.slice _A26 _ys26.V.length _C26), (.slice Ae26 _ys26.E.length Ce26)]) rfl rfl rfl rfl fun _w_25 _m_26 _cw_25 => ?_
        have _cw_25z := _cw_25.size
        have E := E.step _cw_25 (fun i hi => .inl (by have _h1 := List.mem_singleton.1 hi; omega))
        replace _m_26 : Blk _w_25 _b5 42 [(.slice _A26 _ys26.V.length _C26), (.slice Ae26 _ys26.E.length Ce26)] := _m_26
        refine WL_nil ?_
        refine thn_nrm (_hK_21 _ _ ?_)
        clear _hK_21
        refine W_seq fun _K_27 _hK_27 => ?_
        refine W_drawC [] 14 mixed rfl fun _w_28 _cw_28 => ?_
        have _cw_28z := _cw_28.size
        have E := E.trans _cw_28
        have _f_29 := (_m_26.ch0 _cw_28)
        refine DR_s 0 rfl (by kernel_rfl) rfl rfl (t_loadAtA0 _f_29.at_ (fun i hi => absurd hi List.not_mem_nil) agg42 sz42 rfl ?_)
        refine DR_one 1 (by kernel_rfl) ?_
        refine DO_s rfl rfl rfl ?_
        have _f_30 := (((_fs26.ch0 _cw_24).ch _cw_25 (fun i hi => by have _h1 := List.mem_singleton.1 hi; omega)).ch0 _cw_28)
        have _f_31 := (((fe26.ch0 _cw_24).ch _cw_25 (fun i hi => by have _h1 := List.mem_singleton.1 hi; omega)).ch0 _cw_28)
        refine Step.call (r_call (xs := [.tmp 28]) fk132 rfl) (c_impl_IsValidGraph _f_30 _f_31 ) fun _v29 _w_32 _q29 => ?_
        obtain ⟨rfl, _cw_32⟩ := _q29
        have _cw_32z := _cw_32.size
        have E := E.trans _cw_32
        have _S_33 : Ch [] _w_28 _w_32 := ((Ch.refl _ _).trans _cw_32)
        refine ⟨_S_33, ?_⟩
        refine DR_s 2 rfl (by kernel_rfl) rfl rfl (t_v (fun _ => (r_not rfl)) ?_)
        refine DR_s 3 rfl (by kernel_rfl) rfl rfl (t_v (fun _ => (r_move rfl)) ?_)
        refine DR_split (d := 31) rfl (fun _h31 => ?_) (fun _h31 => ?_)
        · have _kb_34 := _h31
          have _h31 := bf_t (bt_n _h31)
          refine DR_skip 4 rfl (by kernel_rfl) rfl rfl ?_
          refine DR_skip 5 rfl (by kernel_rfl) rfl rfl ?_
          refine DR_skip 6 rfl (by kernel_rfl) rfl rfl ?_
          refine DR_skip 7 rfl (by kernel_rfl) rfl rfl ?_
          refine DR_skip 8 rfl (by kernel_rfl) rfl rfl ?_
          refine DR_skip 9 rfl (by kernel_rfl) rfl rfl ?_
          refine DR_skip 10 rfl (by kernel_rfl) rfl rfl ?_
          refine DR_skip 11 rfl (by kernel_rfl) rfl rfl ?_
          refine DR_skip 12 rfl (by kernel_rfl) rfl rfl ?_
          refine DR_s 13 rfl (by kernel_rfl) rfl rfl (t_v (fun _ => (r_pickT rfl rfl)) ?_)
          refine DR_done (by kernel_rfl) ?_
          refine thn_nrm (_hK_27 _ _ ?_)
          clear _hK_27
          refine W_condT rfl ?_
          refine W_seq fun _K_35 _hK_35 => ?_
          refine W_region ?_
          refine WL_step rfl rfl (r_assign rfl) ?_
          refine WL_nil ?_
          refine thn_nrm (_hK_35 _ _ ?_)
          clear _hK_35
          refine W_ret (inB_ret (thn_ret (thn_ret (inB_ret (thn_ret ?_)))))
          clear _hK_13 _hK_20
          exact ret_intro [_] ⟨rfl, trivial⟩ ⟨congrArg Value.bool (by first | exact tt_false (fun q => _h31 (valh_val q _hys26)) | exact tt_false (fun q => _h41 (valh_same q _hys26 _hys36)) | exact vh_t hs (by omega) (by omega) (by omega) | exact tt_false (fun q => by have _e2 := q.2; omega)), E⟩
        · have _kb_34 := _h31
          have _h31 := bt_t (bf_n _h31)
          refine DR_s 4 rfl (by kernel_rfl) rfl rfl (t_v (fun _ => (r_fieldAddr fa42_0 rfl)) ?_)
          refine DR_s 5 rfl (by kernel_rfl) rfl rfl (t_loadAt _f_29.at_ (fun i hi => absurd hi List.not_mem_nil) agg33 rfl rfl ?_)
          refine DR_s 6 rfl (by kernel_rfl) rfl rfl (t_v (fun _ => (r_fieldAddr fa29_1 rfl)) ?_)
          have _f_36 := (((_F0_0.ch0 _cw_24).ch _cw_25 (fun hm => by have _h1 := List.mem_singleton.1 hm; omega)).ch0 _cw_28)
          refine DR_s 7 rfl (by kernel_rfl) rfl rfl (t_loadAt _f_36.at_ (fun i hi => absurd hi List.not_mem_nil) agg27 rfl rfl ?_)
          have _f_37 := (((_f_22.ch0 _cw_24).ch _cw_25 (fun i hi => by have _h1 := List.mem_singleton.1 hi; omega)).ch0 _cw_28)
          have _f_38 := (((_f_23.ch0 _cw_24).ch _cw_25 (fun i hi => by have _h1 := List.mem_singleton.1 hi; omega)).ch0 _cw_28)
          refine DR_s 8 rfl (by kernel_rfl) rfl rfl (t_index (j := 0) _f_37 Gv.len el27 sz42 rfl rfl rfl (by omega) fun _p36 _y36 _hy36 _a36 => ?_)
          obtain ⟨_ys36, _hys36, _fs36, fe36⟩ := _f_38.get _hy36
          obtain ⟨⟨_A36, _n36, _C36⟩, ⟨Ae36, ne36, Ce36⟩⟩ := _y36
          obtain rfl := _fs36.eqn
          obtain rfl := fe36.eqn
          have _l36 := _fs36.len
          have le36 := fe36.len
          replace _fs36 : Ls ics 1 _w_28 LR_hG w.heap.size (.slice _A36 _ys36.V.length _C36) _ys36.V := _fs36
          replace fe36 : Ls GEdge.cs 4 _w_28 LR_hG w.heap.size (.slice Ae36 _ys36.E.length Ce36) _ys36.E := fe36
          refine DR_s 9 rfl (by kernel_rfl) rfl rfl (t_v (fun _ => (r_fieldAddr fa42_0 rfl)) ?_)
          refine DR_s 10 rfl (by kernel_rfl) rfl rfl (t_loadAt _a36 (fun i hi => absurd hi List.not_mem_nil) agg33 rfl rfl ?_)
          refine DR_one 11 (by kernel_rfl) ?_
          refine DO_s rfl rfl rfl ?_
          have _f_39 := (_f_30.ch0 _cw_32)
          have _f_40 := (_fs36.ch0 _cw_32)
          refine Step.call (r_call (xs := [.tmp 33, .tmp 38]) fk133 rfl) (c_slices_Equal_int_int _f_39 _f_40 ) fun _v39 _w_41 _q39 => ?_
          obtain ⟨rfl, _cw_41⟩ := _q39
          have _cw_41z := _cw_41.size
          have E := E.trans _cw_41
          have _S_42 : Ch [] _w_28 _w_41 := (_S_33.trans _cw_41)
          refine ⟨_S_42, ?_⟩
          refine DR_s 12 rfl (by kernel_rfl) rfl rfl (t_v (fun _ => (r_not rfl)) ?_)
          refine DR_s 13 rfl (by kernel_rfl) rfl rfl (t_v (fun _ => (r_pickF rfl rfl)) ?_)
          refine DR_done (by kernel_rfl) ?_
          refine thn_nrm (_hK_27 _ _ ?_)
          clear _hK_27
          refine W_cond rfl (fun _h41 => ?_) (fun _h41 => ?_)
          · have _kb_43 := _h41
            have _h41 := bf_d (bt_n _h41)
            refine W_seq fun _K_44 _hK_44 => ?_
            refine W_region ?_
            refine WL_step rfl rfl (r_assign rfl) ?_
            refine WL_nil ?_
            refine thn_nrm (_hK_44 _ _ ?_)
            clear _hK_44
            refine W_ret (inB_ret (thn_ret (thn_ret (inB_ret (thn_ret ?_)))))
            clear _hK_13 _hK_20
            exact ret_intro [_] ⟨rfl, trivial⟩ ⟨congrArg Value.bool (by first | exact tt_false (fun q => _h31 (valh_val q _hys26)) | exact tt_false (fun q => _h41 (valh_same q _hys26 _hys36)) | exact vh_t hs (by omega) (by omega) (by omega) | exact tt_false (fun q => by have _e2 := q.2; omega)), E⟩
          · have _kb_43 := _h41
            have _h41 := bt_d (bf_n _h41)
            refine W_skip ?_
            refine inB_nrm ?_
            refine thn_nrm (_hK_20 _ _ ?_)
            clear _hK_20
            refine W_region ?_
            refine WL_step rfl rfl (r_add (by omega) rfl rfl) ?_
            refine WL_step rfl rfl (r_move rfl) ?_
            refine WL_nil ?_
            have _f_45 := ((_f_36.ch0 _cw_32).ch0 _cw_41)
            exact thn_nrm (Exists.intro (k + 1) ⟨⟨E, (by omega), (by omega), (same_step hs _hys26 _hys36 _h31 _h41), _f_45⟩, Sub.cons rfl (Sub.cons rfl (Sub.cons rfl (Sub.cons rfl (Sub.nil _)))), (by first | omega | (dsimp only; omega))⟩)
      · have _kb_19 := _h25
        have _h25 := bf_d _h25
        refine W_exit (thn_exit (thn_exit (inB_hit ?_)))
        refine thn_nrm (_hK_13 _ _ ?_)
        clear _hK_13
        refine W_seq fun _K_46 _hK_46 => ?_
        refine W_region ?_
        refine WL_step rfl rfl (r_assign rfl) ?_
        refine WL_nil ?_
        refine thn_nrm (_hK_46 _ _ ?_)
        clear _hK_46
        refine W_ret ?_
        clear _hK_18
        exact ret_intro [_] ⟨rfl, trivial⟩ ⟨congrArg Value.bool (by first | exact tt_false (fun q => _h31 (valh_val q _hys26)) | exact tt_false (fun q => _h41 (valh_same q _hys26 _hys36)) | exact vh_t hs (by omega) (by omega) (by omega) | exact tt_false (fun q => by have _e2 := q.2; omega)), E⟩

/-- impl.copyInts -/
theorem c_impl_copyInts {w : World} {LL_l _B_l : Nat} {_v_l : Value} {l : List Int} (_h_l : Ls ics 1 w LL_l _B_l _v_l l) (hb : l.length ≤ 4194304) :
    Ctr Try.prog 135 #[_v_l] w (fun v w' => Ol ics 3 1 w' v (l) ∧ Lo w.heap.size v ∧ Ch [] w w') := by
  obtain ⟨_A_l, _C_l, _e1_l⟩ := _h_l.val
  subst _e1_l
  have _l_l := _h_l.len
  have _h_l := _h_l.here (by decide)
  have E := Ch.refl [] w
  refine Ctr_of_W (N := 6) (vs0 := [(.slice _A_l l.length _C_l)]) Try.func135 rfl rfl rfl ?_
  refine W_seq fun _K_1 _hK_1 => ?_
  refine W_region ?_
  refine WL_step rfl rfl (r_assign rfl) ?_
  refine WL_nil ?_
  refine thn_nrm (_hK_1 _ _ ?_)
  clear _hK_1
  refine W_seq fun _K_2 _hK_2 => ?_
  refine W_region ?_
  refine WL_s rfl rfl ?_
  refine s_buildSlice0 (k := 1) ics el33 sz3 fun _v3 _w_3 _q3 _lo3 _cw_3 => ?_
  have _cw_3z := _cw_3.size
  have E := E.trans _cw_3
  obtain ⟨_Av3, _Cv3, _ev3⟩ := _q3.val
  subst _ev3
  have _lv3 := _q3.len
  have _hiv3 := _q3.lt
  refine WL_step rfl rfl (r_move rfl) ?_
  refine WL_s rfl rfl ?_
  have _f_5 := (_h_l.ch0 _cw_3)
  refine s_append (cs := ics) el33 sz3 by3 zr3 rfl (by decide) ics_one _q3 _f_5 rfl rfl (by first | omega | (simp only [List.length_append, List.length_nil, List.length_cons, List.length_replicate, List.length_set, List.length_reverse, List.length_map] at *; omega) | (simp at *; omega)) (by first | omega | (simp only [List.length_append, List.length_nil, List.length_cons, List.length_replicate, List.length_set, List.length_reverse, List.length_map] at *; omega) | (simp at *; omega)) _lo3 (by omega) fun _v5 _w_4 _q5 _lo5 _ap5 _cw_4 => ?_
  have _cw_4z := _cw_4.size
  have E := E.step _cw_4 (fun i hi => .inl (by have _h1 := _lo3 _ hi; omega))
  replace _q5 : Ol ics 3 1 _w_4 _v5 l := _q5
  obtain ⟨_Av5, _Cv5, _ev5⟩ := _q5.val
  subst _ev5
  have _lv5 := _q5.len
  have _hiv5 := _q5.lt
  refine WL_step rfl rfl (r_assign rfl) ?_
  refine WL_nil ?_
  refine thn_nrm (_hK_2 _ _ ?_)
  clear _hK_2
  refine W_ret ?_
  have _o_6 : Ol ics 3 1 _w_4 (.slice _Av5 (l).length _Cv5) (l) := by
    have hx := _q5
    first | exact hx | simpa using hx
  exact ret_intro [_] ⟨rfl, trivial⟩ ⟨_o_6, Lo.down _lo5 (by omega), E⟩

/-- impl.copyGraph -/
theorem c_impl_copyGraph {w : World} {LL_gV _B_gV : Nat} {_v_gV : Value} {gV : List Int} (_h_gV : Ls ics 1 w LL_gV _B_gV _v_gV gV) {LL_gE _B_gE : Nat} {_v_gE : Value} {gE : List GEdge} (_h_gE : Ls GEdge.cs 4 w LL_gE _B_gE _v_gE gE) (hb : gV.length ≤ 4194304 ∧ gE.length ≤ 4194304) :
    Ctr Try.prog 76 #[(.agg #[_v_gV, _v_gE])] w (fun v w' => ∃ (u0x0 : Value) (u0x1 : Value), v = .agg #[u0x0, u0x1] ∧ Ol ics 3 1 w' u0x0 (gV) ∧ Lo w.heap.size u0x0 ∧ Ol GEdge.cs 164 4 w' u0x1 (gE) ∧ Lo w.heap.size u0x1 ∧ (∀ g ∈ bl u0x0, g ∉ bl u0x1) ∧ Ch [] w w') := by
  obtain ⟨_A_gV, _C_gV, _e1_gV⟩ := _h_gV.val
  subst _e1_gV
  have _l_gV := _h_gV.len
  have _h_gV := _h_gV.here (by decide)
  obtain ⟨_A_gE, _C_gE, _e1_gE⟩ := _h_gE.val
  subst _e1_gE
  have _l_gE := _h_gE.len
  have _h_gE := _h_gE.here (by decide)
  have E := Ch.refl [] w
  refine Ctr_of_W (N := 11) (vs0 := [(.agg #[(.slice _A_gV gV.length _C_gV), (.slice _A_gE gE.length _C_gE)])]) Try.func76 rfl rfl rfl ?_
  refine W_seq fun _K_1 _hK_1 => ?_
  refine W_region ?_
  refine WL_s rfl rfl ?_
  refine s_box rfl fun _b1 _w_2 _m1 _cw_2 _e1 => ?_
  have _cw_2z := _cw_2.size
  have E := E.trans _cw_2
  have _z1 := _m1.lt
  replace _m1 : Blk _w_2 _b1 42 [(.slice _A_gV gV.length _C_gV), (.slice _A_gE gE.length _C_gE)] := _m1
  refine WL_s rfl rfl ?_
  refine s_alloc zr42 fun _b2 _w_3 _m2 _cw_3 _e2 => ?_
  have _cw_3z := _cw_3.size
  have E := E.trans _cw_3
  have _z2 := _m2.lt
  replace _m2 : Blk _w_3 _b2 42 [(.slice none 0 0), (.slice none 0 0)] := _m2
  refine WL_nil ?_
  refine thn_nrm (_hK_1 _ _ ?_)
  clear _hK_1
  refine W_seq fun _K_4 _hK_4 => ?_
  refine W_drawC [_b2] 9 mixed rfl fun _w_5 _cw_5 => ?_
  have _cw_5z := _cw_5.size
  have E := E.trans _cw_5
  refine DR_s 0 rfl (by kernel_rfl) rfl rfl (t_v (fun _ => (r_fieldAddr fa42_0 rfl)) ?_)
  have _f_6 := ((_m1.ch0 _cw_3).ch0 _cw_5)
  refine DR_s 1 rfl (by kernel_rfl) rfl rfl (t_loadAt _f_6.at_ (fun i hm => by have _h1 := List.mem_singleton.1 hm; omega) agg33 rfl rfl ?_)
  refine DR_s 4 rfl (by kernel_rfl) rfl rfl (t_v (fun _ => (r_fieldAddr fa42_1 rfl)) ?_)
  refine DR_s 5 rfl (by kernel_rfl) rfl rfl (t_loadAt _f_6.at_ (fun i hm => by have _h1 := List.mem_singleton.1 hm; omega) agg40 rfl rfl ?_)
  refine DR_two 2 3 (by kernel_rfl) ?_ ?_
  · refine DO_s rfl rfl rfl ?_
    have _f_7 := (((_h_gV.ch0 _cw_2).ch0 _cw_3).ch0 _cw_5)
    refine Step.call (r_call (xs := [.tmp 4]) fk135 rfl) (c_impl_copyInts _f_7 (by omega)) fun _v5 _w_8 _q5 => ?_
    obtain ⟨_q5, _lo5, _cw_8⟩ := _q5
    have _cw_8z := _cw_8.size
    have E := E.trans _cw_8
    obtain ⟨_Av5, _Cv5, _ev5⟩ := _q5.val
    subst _ev5
    have _lv5 := _q5.len
    have _hiv5 := _q5.lt
    have _S_9 : Ch [_b2] _w_5 _w_8 := ((Ch.refl _ _).trans _cw_8.of_nil)
    refine ⟨_S_9, ?_⟩
    refine DR_one 3 (by kernel_rfl) ?_
    refine DO_s rfl rfl rfl ?_
    refine s_buildSlice0 (k := 4) GEdge.cs el40 sz164 fun _v6 _w_10 _q6 _lo6 _cw_10 => ?_
    have _cw_10z := _cw_10.size
    have E := E.trans _cw_10
    obtain ⟨_Av6, _Cv6, _ev6⟩ := _q6.val
    subst _ev6
    have _lv6 := _q6.len
    have _hiv6 := _q6.lt
    have _S_11 : Ch [_b2] _w_5 _w_10 := (_S_9.trans _cw_10.of_nil)
    refine ⟨_S_11, ?_⟩
    refine DR_one 6 (by kernel_rfl) ?_
    refine DO_s rfl rfl rfl ?_
    have _f_13 := (((((_h_gE.ch0 _cw_2).ch0 _cw_3).ch0 _cw_5).ch0 _cw_8).ch0 _cw_10)
    refine s_append (cs := GEdge.cs) el40 sz164 by164 zr164 rfl (by decide) GEdge.one _q6 _f_13 rfl rfl (by first | omega | (simp only [List.length_append, List.length_nil, List.length_cons, List.length_replicate, List.length_set, List.length_reverse, List.length_map] at *; omega) | (simp at *; omega)) (by first | omega | (simp only [List.length_append, List.length_nil, List.length_cons, List.length_replicate, List.length_set, List.length_reverse, List.length_map] at *; omega) | (simp at *; omega)) _lo6 (by omega) fun _v9 _w_12 _q9 _lo9 _ap9 _cw_12 => ?_
    have _cw_12z := _cw_12.size
    have E := E.step _cw_12 (fun i hi => .inl (by have _h1 := _lo6 _ hi; omega))
    replace _q9 : Ol GEdge.cs 164 4 _w_12 _v9 gE := _q9
    obtain ⟨_Av9, _Cv9, _ev9⟩ := _q9.val
    subst _ev9
    have _lv9 := _q9.len
    have _hiv9 := _q9.lt
    have _S_14 : Ch [_b2] _w_5 _w_12 := (_S_11.step _cw_12 (fun i hm => by left; have _h1 := _lo6 _ hm; have _h2 := _hiv6 _ hm; omega))
    refine ⟨_S_14, ?_⟩
    refine DR_s 7 rfl (by kernel_rfl) rfl rfl (t_v (fun _ => (r_build (parts := [(0, .tmp 5), (1, .tmp 9)]) (cells := [(.slice _Av5 (gV).length _Cv5), (.slice _Av9 (gE).length _Cv9)]) zr42 pl42 rfl rfl)) ?_)
    refine DR_one 8 (by kernel_rfl) ?_
    refine DO_s rfl rfl rfl ?_
    have _f_15 := ((((_m2.ch0 _cw_5).ch0 _cw_8).ch0 _cw_10).ch _cw_12 (fun hm => by have _h1 := _lo6 _ hm; have _h2 := _hiv6 _ hm; omega))
    refine s_storeA (off := 0) 2 _f_15 sz42 rfl (us := [(.slice _Av5 (gV).length _Cv5), (.slice _Av9 (gE).length _Cv9)]) rfl rfl rfl rfl fun _w_16 _m_17 _cw_16 => ?_
    have _cw_16z := _cw_16.size
    have E := E.step _cw_16 (fun i hi => .inl (by have _h1 := List.mem_singleton.1 hi; omega))
    replace _m_17 : Blk _w_16 _b2 42 [(.slice _Av5 (gV).length _Cv5), (.slice _Av9 (gE).length _Cv9)] := _m_17
    have _S_18 : Ch [_b2] _w_5 _w_16 := (_S_14.step _cw_16 (fun i hm => by have _h0 := List.mem_singleton.1 hm; exact .inr (by rw [_h0]; exact (List.mem_singleton.2 rfl))))
    refine ⟨_S_18, ?_⟩
    refine DR_done (by kernel_rfl) ?_
    refine thn_nrm (_hK_4 _ _ ?_)
    clear _hK_4
    refine W_ret ?_
    have _f_19 := (((_q5.ch0 _cw_10).ch _cw_12 (fun g hg hm => by have _h1 := _lo6 _ hm; have _h2 := _hiv6 _ hm; have _h3 := _lo5 _ hg; have _h4 := _hiv5 _ hg; omega)).ch _cw_16 (fun g hg hm => by have _h0 := List.mem_singleton.1 hm; have _h2 := _lo5 _ hg; have _h3 := _hiv5 _ hg; omega))
    have _o_20 : Ol ics 3 1 _w_16 (.slice _Av5 (gV).length _Cv5) (gV) := by
      have hx := _f_19
      first | exact hx | simpa using hx
    have _f_21 := (_q9.ch _cw_16 (fun g hg hm => by have _h0 := List.mem_singleton.1 hm; rcases _ap9 with ea | ea; (rw [ea] at hg; have _h2 := _lo6 _ hg; have _h3 := _hiv6 _ hg; omega); (have z2hg := _hiv9 _ hg; rw [ea] at hg; have _z1 := List.mem_singleton.1 hg; omega)))
    have _o_22 : Ol GEdge.cs 164 4 _w_16 (.slice _Av9 (gE).length _Cv9) (gE) := by
      have hx := _f_21
      first | exact hx | simpa using hx
    exact ret_intro [_] (resOf_loadA _m_17 rfl agg42 sz42 trivial) ⟨(.slice _Av5 (gV).length _Cv5), (.slice _Av9 (gE).length _Cv9), rfl, _o_20, (Lo.down _lo5 (by omega)), _o_22, (Lo.down _lo9 (by omega)), (fun g hm hg => by rcases _ap9 with ea | ea; (rw [ea] at hg; have _h1 := _lo5 _ hm; have _h2 := _hiv5 _ hm; have _h3 := _lo6 _ hg; have _h4 := _hiv6 _ hg; omega); (have z2hg := _hiv9 _ hg; rw [ea] at hg; have _z1 := List.mem_singleton.1 hg; have _h1 := _lo5 _ hm; have _h2 := _hiv5 _ hm; omega)), E⟩
  · refine DO_s rfl rfl rfl ?_
    refine s_buildSlice0 (k := 4) GEdge.cs el40 sz164 fun _v6 _w_23 _q6 _lo6 _cw_23 => ?_
    have _cw_23z := _cw_23.size
    have E := E.trans _cw_23
    obtain ⟨_Av6, _Cv6, _ev6⟩ := _q6.val
    subst _ev6
    have _lv6 := _q6.len
    have _hiv6 := _q6.lt
    have _S_24 : Ch [_b2] _w_5 _w_23 := ((Ch.refl _ _).trans _cw_23.of_nil)
    refine ⟨_S_24, ?_⟩
    refine DR_one 2 (by kernel_rfl) ?_
    refine DO_s rfl rfl rfl ?_
    have _f_25 := ((((_h_gV.ch0 _cw_2).ch0 _cw_3).ch0 _cw_5).ch0 _cw_23)
    refine Step.call (r_call (xs := [.tmp 4]) fk135 rfl) (c_impl_copyInts _f_25 (by omega)) fun _v5 _w_26 _q5 => ?_
    obtain ⟨_q5, _lo5, _cw_26⟩ := _q5
    have _cw_26z := _cw_26.size
    have E := E.trans _cw_26
    obtain ⟨_Av5, _Cv5, _ev5⟩ := _q5.val
    subst _ev5
    have _lv5 := _q5.len
    have _hiv5 := _q5.lt
    have _S_27 : Ch [_b2] _w_5 _w_26 := (_S_24.trans _cw_26.of_nil)
    refine ⟨_S_27, ?_⟩
    refine DR_one 6 (by kernel_rfl) ?_
    refine DO_s rfl rfl rfl ?_
    have _f_29 := (_q6.ch0 _cw_26)
    have _f_30 := (((((_h_gE.ch0 _cw_2).ch0 _cw_3).ch0 _cw_5).ch0 _cw_23).ch0 _cw_26)
    refine s_append (cs := GEdge.cs) el40 sz164 by164 zr164 rfl (by decide) GEdge.one _f_29 _f_30 rfl rfl (by first | omega | (simp only [List.length_append, List.length_nil, List.length_cons, List.length_replicate, List.length_set, List.length_reverse, List.length_map] at *; omega) | (simp at *; omega)) (by first | omega | (simp only [List.length_append, List.length_nil, List.length_cons, List.length_replicate, List.length_set, List.length_reverse, List.length_map] at *; omega) | (simp at *; omega)) _lo6 (by omega) fun _v9 _w_28 _q9 _lo9 _ap9 _cw_28 => ?_
    have _cw_28z := _cw_28.size
    have E := E.step _cw_28 (fun i hi => .inl (by have _h1 := _lo6 _ hi; omega))
    replace _q9 : Ol GEdge.cs 164 4 _w_28 _v9 gE := _q9
    obtain ⟨_Av9, _Cv9, _ev9⟩ := _q9.val
    subst _ev9
    have _lv9 := _q9.len
    have _hiv9 := _q9.lt
    have _S_31 : Ch [_b2] _w_5 _w_28 := (_S_27.step _cw_28 (fun i hm => by left; have _h1 := _lo6 _ hm; have _h2 := _hiv6 _ hm; omega))
    refine ⟨_S_31, ?_⟩
    refine DR_s 7 rfl (by kernel_rfl) rfl rfl (t_v (fun _ => (r_build (parts := [(0, .tmp 5), (1, .tmp 9)]) (cells := [(.slice _Av5 (gV).length _Cv5), (.slice _Av9 (gE).length _Cv9)]) zr42 pl42 rfl rfl)) ?_)
    refine DR_one 8 (by kernel_rfl) ?_
    refine DO_s rfl rfl rfl ?_
    have _f_32 := ((((_m2.ch0 _cw_5).ch0 _cw_23).ch0 _cw_26).ch _cw_28 (fun hm => by have _h1 := _lo6 _ hm; have _h2 := _hiv6 _ hm; omega))
    refine s_storeA (off := 0) 2 _f_32 sz42 rfl (us := [(.slice _Av5 (gV).length _Cv5), (.slice _Av9 (gE).length _Cv9)]) rfl rfl rfl rfl fun _w_33 _m_34 _cw_33 => ?_
    have _cw_33z := _cw_33.size
    have E := E.step _cw_33 (fun i hi => .inl (by have _h1 := List.mem_singleton.1 hi; omega))
    replace _m_34 : Blk _w_33 _b2 42 [(.slice _Av5 (gV).length _Cv5), (.slice _Av9 (gE).length _Cv9)] := _m_34
    have _S_35 : Ch [_b2] _w_5 _w_33 := (_S_31.step _cw_33 (fun i hm => by have _h0 := List.mem_singleton.1 hm; exact .inr (by rw [_h0]; exact (List.mem_singleton.2 rfl))))
    refine ⟨_S_35, ?_⟩
    refine DR_done (by kernel_rfl) ?_
    refine thn_nrm (_hK_4 _ _ ?_)
    clear _hK_4
    refine W_ret ?_
    have _f_36 := ((_q5.ch _cw_28 (fun g hg hm => by have _h1 := _lo6 _ hm; have _h2 := _hiv6 _ hm; have _h3 := _lo5 _ hg; have _h4 := _hiv5 _ hg; omega)).ch _cw_33 (fun g hg hm => by have _h0 := List.mem_singleton.1 hm; have _h2 := _lo5 _ hg; have _h3 := _hiv5 _ hg; omega))
    have _o_37 : Ol ics 3 1 _w_33 (.slice _Av5 (gV).length _Cv5) (gV) := by
      have hx := _f_36
      first | exact hx | simpa using hx
    have _f_38 := (_q9.ch _cw_33 (fun g hg hm => by have _h0 := List.mem_singleton.1 hm; rcases _ap9 with ea | ea; (rw [ea] at hg; have _h2 := _lo6 _ hg; have _h3 := _hiv6 _ hg; omega); (have z2hg := _hiv9 _ hg; rw [ea] at hg; have _z1 := List.mem_singleton.1 hg; omega)))
    have _o_39 : Ol GEdge.cs 164 4 _w_33 (.slice _Av9 (gE).length _Cv9) (gE) := by
      have hx := _f_38
      first | exact hx | simpa using hx
    exact ret_intro [_] (resOf_loadA _m_34 rfl agg42 sz42 trivial) ⟨(.slice _Av5 (gV).length _Cv5), (.slice _Av9 (gE).length _Cv9), rfl, _o_37, (Lo.down _lo5 (by omega)), _o_39, (Lo.down _lo9 (by omega)), (fun g hm hg => by rcases _ap9 with ea | ea; (rw [ea] at hg; have _h1 := _lo5 _ hm; have _h2 := _hiv5 _ hm; have _h3 := _lo6 _ hg; have _h4 := _hiv6 _ hg; omega); (have z2hg := _hiv9 _ hg; rw [ea] at hg; have _z1 := List.mem_singleton.1 hg; have _h1 := _lo5 _ hm; have _h2 := _hiv5 _ hm; omega)), E⟩

/-- impl.NewHistory -/
theorem c_impl_NewHistory {w : World} {LL_gV _B_gV : Nat} {_v_gV : Value} {gV : List Int} (_h_gV : Ls ics 1 w LL_gV _B_gV _v_gV gV) {LL_gE _B_gE : Nat} {_v_gE : Value} {gE : List GEdge} (_h_gE : Ls GEdge.cs 4 w LL_gE _B_gE _v_gE gE) (n : Int) (hb : gV.length ≤ 4194304 ∧ gE.length ≤ 4194304) :
    Ctr Try.prog 21 #[(.agg #[_v_gV, _v_gE]), (.int .i64 n)] w (fun v w' => ∃ (u0x1 : Value) (vs0x1 : List Gv), v = .tuple #[.agg #[.int .i64 (nhF gV gE n), u0x1], .bool (tt (ValidH n [⟨gV, gE⟩]))] ∧ Ol Gv.cs 42 2 w' u0x1 vs0x1 ∧ Lo w.heap.size u0x1 ∧ OdG 3 164 w' w.heap.size w'.heap.size vs0x1 (nhG gV gE n) ∧ SepH u0x1 vs0x1 ∧ Ch [] w w') := by
  obtain ⟨_A_gV, _C_gV, _e1_gV⟩ := _h_gV.val
  subst _e1_gV
  have _l_gV := _h_gV.len
  have _h_gV := _h_gV.here (by decide)
  obtain ⟨_A_gE, _C_gE, _e1_gE⟩ := _h_gE.val
  subst _e1_gE
  have _l_gE := _h_gE.len
  have _h_gE := _h_gE.here (by decide)
  have E := Ch.refl [] w
  refine Ctr_of_W (N := 17) (vs0 := [(.agg #[(.slice _A_gV gV.length _C_gV), (.slice _A_gE gE.length _C_gE)]), (.int .i64 n)]) Try.func21 rfl rfl rfl ?_
  refine W_seq fun _K_1 _hK_1 => ?_
  refine W_region ?_
  refine WL_s rfl rfl ?_
  refine s_box rfl fun _b2 _w_2 _m2 _cw_2 _e2 => ?_
  have _cw_2z := _cw_2.size
  have E := E.trans _cw_2
  have _z2 := _m2.lt
  replace _m2 : Blk _w_2 _b2 42 [(.slice _A_gV gV.length _C_gV), (.slice _A_gE gE.length _C_gE)] := _m2
  refine WL_s rfl rfl ?_
  refine s_alloc zr29 fun _b4 _w_3 _m4 _cw_3 _e4 => ?_
  have _cw_3z := _cw_3.size
  have E := E.trans _cw_3
  have _z4 := _m4.lt
  replace _m4 : Blk _w_3 _b4 29 [(.int .i64 0), (.slice none 0 0)] := _m4
  refine WL_step rfl rfl (r_assign rfl) ?_
  refine WL_nil ?_
  refine thn_nrm (_hK_1 _ _ ?_)
  clear _hK_1
  refine W_seq fun _K_4 _hK_4 => ?_
  refine W_region ?_
  refine WL_step rfl rfl (r_move rfl) ?_
  have _f_5 := (_m2.ch0 _cw_3)
  refine WL_step rfl rfl (r_loadAtA0 _f_5.at_ agg42 sz42 rfl) ?_
  refine WL_s rfl rfl ?_
  have _f_6 := ((_h_gV.ch0 _cw_2).ch0 _cw_3)
  have _f_7 := ((_h_gE.ch0 _cw_2).ch0 _cw_3)
  refine Step.call (r_call (xs := [.tmp 8]) fk76 rfl) (c_impl_copyGraph _f_6 _f_7 (by omega)) fun _v9 _w_8 _q9 => ?_
  obtain ⟨u9_0x0, u9_0x1, rfl, _q_u9_0x0, _lo_u9_0x0, _q_u9_0x1, _lo_u9_0x1, _dj_u9_0x0_u9_0x1, _cw_8⟩ := _q9
  have _cw_8z := _cw_8.size
  have E := E.trans _cw_8
  obtain ⟨Au9_0x0, Cu9_0x0, eu9_0x0⟩ := _q_u9_0x0.val
  subst eu9_0x0
  have lu9_0x0 := _q_u9_0x0.len
  have _hiu9_0x0 := _q_u9_0x0.lt
  obtain ⟨Au9_0x1, Cu9_0x1, eu9_0x1⟩ := _q_u9_0x1.val
  subst eu9_0x1
  have lu9_0x1 := _q_u9_0x1.len
  have _hiu9_0x1 := _q_u9_0x1.lt
  refine WL_s rfl rfl ?_
  refine s_buildSlice (cs := Gv.cs) (parts := [(0, .tmp 9)]) (⟨⟨none, 0, 0⟩, ⟨none, 0, 0⟩⟩ : Gv) [(⟨(⟨Au9_0x0, (gV).length, Cu9_0x0⟩ : Sv), (⟨Au9_0x1, (gE).length, Cu9_0x1⟩ : Sv)⟩ : Gv)] el27 sz42 zr42 Gv.len (by decide) rfl rfl rfl (by decide) (by decide) rfl fun _v10 _w_9 _q10 _lo10 _cw_9 => ?_
  have _cw_9z := _cw_9.size
  have E := E.trans _cw_9
  obtain ⟨_Av10, _Cv10, _ev10⟩ := _q10.val
  subst _ev10
  have _lv10 := _q10.len
  have _hiv10 := _q10.lt
  have _f_10 := (_q_u9_0x0.ch0 _cw_9)
  have _f_11 := (_q_u9_0x1.ch0 _cw_9)
  have od10 : OdG 3 164 _w_9 _w_3.heap.size _w_9.heap.size ([(⟨(⟨Au9_0x0, (gV).length, Cu9_0x0⟩ : Sv), (⟨Au9_0x1, (gE).length, Cu9_0x1⟩ : Sv)⟩ : Gv)]) ([(⟨gV, gE⟩ : GD)]) := OdG.snoc (hi := _w_3.heap.size) (vs := []) (xs := []) OdG.nil _f_10 _f_11 (Lo.down _lo_u9_0x0 (by omega)) (Lo.down _lo_u9_0x1 (by omega)) (fun g hg => by have _h1 := _hiu9_0x0 g hg; omega) (fun g hg => by have _h1 := _hiu9_0x1 g hg; omega) (fun g hm hg => by exact _dj_u9_0x0_u9_0x1 _ hm hg) (by omega) (by omega)
  have spn10 : SepH (.slice _Av10 ([(⟨(⟨Au9_0x0, (gV).length, Cu9_0x0⟩ : Sv), (⟨Au9_0x1, (gE).length, Cu9_0x1⟩ : Sv)⟩ : Gv)]).length _Cv10) [(⟨(⟨Au9_0x0, (gV).length, Cu9_0x0⟩ : Sv), (⟨Au9_0x1, (gE).length, Cu9_0x1⟩ : Sv)⟩ : Gv)] := fun u hu => by rw [List.mem_singleton.1 hu]; exact ⟨fun g hg hm => by have _h1 := _hiu9_0x0 _ hg; have _h2 := _lo10 _ hm; omega, fun g hg hm => by have _h1 := _hiu9_0x1 _ hg; have _h2 := _lo10 _ hm; omega⟩
  refine WL_step rfl rfl (r_build (parts := [(0, .tmp 7), (1, .tmp 10)]) (cells := [(.int .i64 n), (.slice _Av10 ([(⟨(⟨Au9_0x0, (gV).length, Cu9_0x0⟩ : Sv), (⟨Au9_0x1, (gE).length, Cu9_0x1⟩ : Sv)⟩ : Gv)]).length _Cv10)]) zr29 pl29 rfl rfl) ?_
  refine WL_s rfl rfl ?_
  refine s_alloc zr29 fun _b6 _w_12 _m6 _cw_12 _e6 => ?_
  have _cw_12z := _cw_12.size
  have E := E.trans _cw_12
  have _z6 := _m6.lt
  replace _m6 : Blk _w_12 _b6 29 [(.int .i64 0), (.slice none 0 0)] := _m6
  refine WL_s rfl rfl ?_
  refine s_storeA (off := 0) 2 _m6 sz29 rfl (us := [(.int .i64 n), (.slice _Av10 ([(⟨(⟨Au9_0x0, (gV).length, Cu9_0x0⟩ : Sv), (⟨Au9_0x1, (gE).length, Cu9_0x1⟩ : Sv)⟩ : Gv)]).length _Cv10)]) rfl rfl rfl rfl fun _w_13 _m_14 _cw_13 => ?_
  have _cw_13z := _cw_13.size
  have E := E.step _cw_13 (fun i hi => .inl (by have _h1 := List.mem_singleton.1 hi; omega))
  replace _m_14 : Blk _w_13 _b6 29 [(.int .i64 n), (.slice _Av10 ([(⟨(⟨Au9_0x0, (gV).length, Cu9_0x0⟩ : Sv), (⟨Au9_0x1, (gE).length, Cu9_0x1⟩ : Sv)⟩ : Gv)]).length _Cv10)] := _m_14
  refine WL_nil ?_
  refine thn_nrm (_hK_4 _ _ ?_)
  clear _hK_4
  refine W_seq fun _K_15 _hK_15 => ?_
  refine W_seq fun _K_16 _hK_16 => ?_
  refine W_region ?_
  refine WL_step rfl rfl (r_loadAtA0 _m_14.at_ agg29 sz29 rfl) ?_
  refine WL_s rfl rfl ?_
  have _f_17 := ((_q10.ch0 _cw_12).ch _cw_13 (fun g hg hm => by have _h0 := List.mem_singleton.1 hm; have _h2 := _lo10 _ hg; have _h3 := _hiv10 _ hg; omega))
  have _f_18 := ((od10.ch0 _cw_12).ch _cw_13 (fun i hi => by have _h1 := List.mem_singleton.1 hi; omega))
  refine Step.call (r_call (xs := [.tmp 12]) fk69 rfl) (c_impl_IsValidHistory _ _f_17.ls _f_18.rdg ) fun _v13 _w_19 _q13 => ?_
  obtain ⟨rfl, _cw_19⟩ := _q13
  have _cw_19z := _cw_19.size
  have E := E.trans _cw_19
  refine WL_step rfl rfl (r_not rfl) ?_
  refine WL_nil ?_
  refine thn_nrm (_hK_16 _ _ ?_)
  clear _hK_16
  refine W_cond rfl (fun _h14 => ?_) (fun _h14 => ?_)
  · have _kb_20 := _h14
    have _h14 := bf_t (bt_n _h14)
    refine W_seq fun _K_21 _hK_21 => ?_
    refine W_region ?_
    refine WL_step rfl rfl (r_build (parts := []) (cells := [(.int .i64 0), (.slice none 0 0)]) zr29 pl29 rfl rfl) ?_
    refine WL_s rfl rfl ?_
    have _f_22 := (((((_m4.ch0 _cw_8).ch0 _cw_9).ch0 _cw_12).ch _cw_13 (fun hm => by have _h1 := List.mem_singleton.1 hm; omega)).ch0 _cw_19)
    refine s_storeA (off := 0) 2 _f_22 sz29 rfl (us := [(.int .i64 0), (.slice none 0 0)]) rfl rfl rfl rfl fun _w_23 _m_24 _cw_23 => ?_
    have _cw_23z := _cw_23.size
    have E := E.step _cw_23 (fun i hi => .inl (by have _h1 := List.mem_singleton.1 hi; omega))
    replace _m_24 : Blk _w_23 _b4 29 [(.int .i64 0), (.slice none 0 0)] := _m_24
    refine WL_step rfl rfl (r_assign rfl) ?_
    refine WL_nil ?_
    refine thn_nrm (_hK_21 _ _ ?_)
    clear _hK_21
    refine W_ret (thn_ret ?_)
    clear _hK_15
    exact ret_intro [_, _] (resOf_loadA _m_24 rfl agg29 sz29 ⟨rfl, trivial⟩) ⟨(.slice none 0 0), [], ((congrArg (fun zq => (Value.tuple #[.agg #[.int .i64 zq, (.slice none 0 0)], .bool false])) (by first | exact nhF_n _h14 | exact nhF_y _h14)).trans (congrArg (fun zq => (Value.tuple #[.agg #[.int .i64 (nhF gV gE n), (.slice none 0 0)], .bool zq])) (by first | exact tt_false _h14 | exact tt_true _h14))), (Ol.nil _), (Lo.nil _), (by rw [← nhG_n _h14]; exact OdG.nil), (fun u hu => by cases hu), E⟩
  · have _kb_20 := _h14
    have _h14 := bt_t (bf_n _h14)
    refine W_skip ?_
    refine thn_nrm (_hK_15 _ _ ?_)
    clear _hK_15
    refine W_seq fun _K_25 _hK_25 => ?_
    refine W_region ?_
    have _f_26 := (_m_14.ch0 _cw_19)
    refine WL_step rfl rfl (r_loadAtA0 _f_26.at_ agg29 sz29 rfl) ?_
    refine WL_s rfl rfl ?_
    have _f_27 := (((((_m4.ch0 _cw_8).ch0 _cw_9).ch0 _cw_12).ch _cw_13 (fun hm => by have _h1 := List.mem_singleton.1 hm; omega)).ch0 _cw_19)
    refine s_storeA (off := 0) 2 _f_27 sz29 rfl (us := [(.int .i64 n), (.slice _Av10 ([(⟨(⟨Au9_0x0, (gV).length, Cu9_0x0⟩ : Sv), (⟨Au9_0x1, (gE).length, Cu9_0x1⟩ : Sv)⟩ : Gv)]).length _Cv10)]) rfl rfl rfl rfl fun _w_28 _m_29 _cw_28 => ?_
    have _cw_28z := _cw_28.size
    have E := E.step _cw_28 (fun i hi => .inl (by have _h1 := List.mem_singleton.1 hi; omega))
    replace _m_29 : Blk _w_28 _b4 29 [(.int .i64 n), (.slice _Av10 ([(⟨(⟨Au9_0x0, (gV).length, Cu9_0x0⟩ : Sv), (⟨Au9_0x1, (gE).length, Cu9_0x1⟩ : Sv)⟩ : Gv)]).length _Cv10)] := _m_29
    refine WL_step rfl rfl (r_assign rfl) ?_
    refine WL_nil ?_
    refine thn_nrm (_hK_25 _ _ ?_)
    clear _hK_25
    refine W_ret ?_
    have _f_32 := ((_f_17.ch0 _cw_19).ch _cw_28 (fun g hg hm => by have _h0 := List.mem_singleton.1 hm; have _h2 := _lo10 _ hg; have _h3 := _hiv10 _ hg; omega))
    have _f_33 := ((_f_18.ch0 _cw_19).ch _cw_28 (fun i hi => by have _h1 := List.mem_singleton.1 hi; omega))
    have _o_30 : Ol Gv.cs 42 2 _w_28 (.slice _Av10 ([(⟨(⟨Au9_0x0, (gV).length, Cu9_0x0⟩ : Sv), (⟨Au9_0x1, (gE).length, Cu9_0x1⟩ : Sv)⟩ : Gv)]).length _Cv10) ([(⟨(⟨Au9_0x0, (gV).length, Cu9_0x0⟩ : Sv), (⟨Au9_0x1, (gE).length, Cu9_0x1⟩ : Sv)⟩ : Gv)]) := by
      have hx := _f_32
      exact hx
    have _o_31 : OdG 3 164 _w_28 w.heap.size _w_28.heap.size ([(⟨(⟨Au9_0x0, (gV).length, Cu9_0x0⟩ : Sv), (⟨Au9_0x1, (gE).length, Cu9_0x1⟩ : Sv)⟩ : Gv)]) (nhG gV gE n) := by
      have hx := _f_33.up (lo' := w.heap.size) (hi' := _w_28.heap.size) (by omega) (by omega)
      rw [← nhG_y _h14]; exact hx
    exact ret_intro [_, _] (resOf_loadA _m_29 rfl agg29 sz29 ⟨rfl, trivial⟩) ⟨(.slice _Av10 ([(⟨(⟨Au9_0x0, (gV).length, Cu9_0x0⟩ : Sv), (⟨Au9_0x1, (gE).length, Cu9_0x1⟩ : Sv)⟩ : Gv)]).length _Cv10), ([(⟨(⟨Au9_0x0, (gV).length, Cu9_0x0⟩ : Sv), (⟨Au9_0x1, (gE).length, Cu9_0x1⟩ : Sv)⟩ : Gv)]), ((congrArg (fun zq => (Value.tuple #[.agg #[.int .i64 zq, (.slice _Av10 ([(⟨(⟨Au9_0x0, (gV).length, Cu9_0x0⟩ : Sv), (⟨Au9_0x1, (gE).length, Cu9_0x1⟩ : Sv)⟩ : Gv)]).length _Cv10)], .bool true])) (by first | exact nhF_n _h14 | exact nhF_y _h14)).trans (congrArg (fun zq => (Value.tuple #[.agg #[.int .i64 (nhF gV gE n), (.slice _Av10 ([(⟨(⟨Au9_0x0, (gV).length, Cu9_0x0⟩ : Sv), (⟨Au9_0x1, (gE).length, Cu9_0x1⟩ : Sv)⟩ : Gv)]).length _Cv10)], .bool zq])) (by first | exact tt_false _h14 | exact tt_true _h14))), _o_30, (Lo.down _lo10 (by omega)), _o_31, spn10, E⟩

/-- laws.eqEdge -/
theorem c_laws_eqEdge {w : World} (a : GEdge) (b : GEdge) :
    Ctr Try.prog 136 #[(.agg #[(.int .i64 a.id), (.int .i64 a.f), (.int .i64 a.t), (.int .i64 a.label)]), (.agg #[(.int .i64 b.id), (.int .i64 b.f), (.int .i64 b.t), (.int .i64 b.label)])] w (fun v w' => v = .bool (decide (a = b)) ∧ Ch [] w w') := by
  have E := Ch.refl [] w
  refine Ctr_of_W (N := 25) (vs0 := [(.agg #[(.int .i64 a.id), (.int .i64 a.f), (.int .i64 a.t), (.int .i64 a.label)]), (.agg #[(.int .i64 b.id), (.int .i64 b.f), (.int .i64 b.t), (.int .i64 b.label)])]) Try.func136 rfl rfl rfl ?_
  refine W_seq fun _K_1 _hK_1 => ?_
  refine W_region ?_
  refine WL_s rfl rfl ?_
  refine s_box rfl fun _b2 _w_2 _m2 _cw_2 _e2 => ?_
  have _cw_2z := _cw_2.size
  have E := E.trans _cw_2
  have _z2 := _m2.lt
  replace _m2 : Blk _w_2 _b2 164 [(.int .i64 a.id), (.int .i64 a.f), (.int .i64 a.t), (.int .i64 a.label)] := _m2
  refine WL_s rfl rfl ?_
  refine s_box rfl fun _b3 _w_3 _m3 _cw_3 _e3 => ?_
  have _cw_3z := _cw_3.size
  have E := E.trans _cw_3
  have _z3 := _m3.lt
  replace _m3 : Blk _w_3 _b3 164 [(.int .i64 b.id), (.int .i64 b.f), (.int .i64 b.t), (.int .i64 b.label)] := _m3
  refine WL_step rfl rfl (r_assign rfl) ?_
  refine WL_nil ?_
  refine thn_nrm (_hK_1 _ _ ?_)
  clear _hK_1
  refine W_seq fun _K_4 _hK_4 => ?_
  refine W_seq fun _K_5 _hK_5 => ?_
  refine W_region ?_
  refine WL_step rfl rfl (r_fieldAddr fa164_0 rfl) ?_
  have _f_6 := (_m2.ch0 _cw_3)
  refine WL_step rfl rfl (r_loadAt _f_6.at_ agg3 rfl rfl) ?_
  refine WL_step rfl rfl (r_fieldAddr fa164_0 rfl) ?_
  refine WL_step rfl rfl (r_loadAt _m3.at_ agg3 rfl rfl) ?_
  refine WL_step rfl rfl (r_neq rfl rfl) ?_
  refine WL_nil ?_
  refine thn_nrm (_hK_5 _ _ ?_)
  clear _hK_5
  refine W_cond rfl (fun _h9 => ?_) (fun _h9 => ?_)
  · have _kb_7 := _h9
    have _h9 := bf_d (bt_n _h9)
    refine W_seq fun _K_8 _hK_8 => ?_
    refine W_region ?_
    refine WL_step rfl rfl (r_assign rfl) ?_
    refine WL_nil ?_
    refine thn_nrm (_hK_8 _ _ ?_)
    clear _hK_8
    refine W_ret (thn_ret ?_)
    clear _hK_4
    exact ret_intro [_] ⟨rfl, trivial⟩ ⟨congrArg Value.bool (decide_eq_false (fun e => _h9 (by rw [e]))).symm, E⟩
  · have _kb_7 := _h9
    have _h9 := bt_d (bf_n _h9)
    refine W_skip ?_
    refine thn_nrm (_hK_4 _ _ ?_)
    clear _hK_4
    refine W_seq fun _K_9 _hK_9 => ?_
    refine W_seq fun _K_10 _hK_10 => ?_
    refine W_region ?_
    refine WL_step rfl rfl (r_fieldAddr fa164_1 rfl) ?_
    refine WL_step rfl rfl (r_loadAt _f_6.at_ agg3 rfl rfl) ?_
    refine WL_step rfl rfl (r_fieldAddr fa164_1 rfl) ?_
    refine WL_step rfl rfl (r_loadAt _m3.at_ agg3 rfl rfl) ?_
    refine WL_step rfl rfl (r_neq rfl rfl) ?_
    refine WL_nil ?_
    refine thn_nrm (_hK_10 _ _ ?_)
    clear _hK_10
    refine W_cond rfl (fun _h14 => ?_) (fun _h14 => ?_)
    · have _kb_11 := _h14
      have _h14 := bf_d (bt_n _h14)
      refine W_seq fun _K_12 _hK_12 => ?_
      refine W_region ?_
      refine WL_step rfl rfl (r_assign rfl) ?_
      refine WL_nil ?_
      refine thn_nrm (_hK_12 _ _ ?_)
      clear _hK_12
      refine W_ret (thn_ret ?_)
      clear _hK_9
      exact ret_intro [_] ⟨rfl, trivial⟩ ⟨congrArg Value.bool (decide_eq_false (fun e => _h14 (by rw [e]))).symm, E⟩
    · have _kb_11 := _h14
      have _h14 := bt_d (bf_n _h14)
      refine W_skip ?_
      refine thn_nrm (_hK_9 _ _ ?_)
      clear _hK_9
      refine W_seq fun _K_13 _hK_13 => ?_
      refine W_seq fun _K_14 _hK_14 => ?_
      refine W_region ?_
      refine WL_step rfl rfl (r_fieldAddr fa164_2 rfl) ?_
      refine WL_step rfl rfl (r_loadAt _f_6.at_ agg3 rfl rfl) ?_
      refine WL_step rfl rfl (r_fieldAddr fa164_2 rfl) ?_
      refine WL_step rfl rfl (r_loadAt _m3.at_ agg3 rfl rfl) ?_
      refine WL_step rfl rfl (r_neq rfl rfl) ?_
      refine WL_nil ?_
      refine thn_nrm (_hK_14 _ _ ?_)
      clear _hK_14
      refine W_cond rfl (fun _h19 => ?_) (fun _h19 => ?_)
      · have _kb_15 := _h19
        have _h19 := bf_d (bt_n _h19)
        refine W_seq fun _K_16 _hK_16 => ?_
        refine W_region ?_
        refine WL_step rfl rfl (r_assign rfl) ?_
        refine WL_nil ?_
        refine thn_nrm (_hK_16 _ _ ?_)
        clear _hK_16
        refine W_ret (thn_ret ?_)
        clear _hK_13
        exact ret_intro [_] ⟨rfl, trivial⟩ ⟨congrArg Value.bool (decide_eq_false (fun e => _h19 (by rw [e]))).symm, E⟩
      · have _kb_15 := _h19
        have _h19 := bt_d (bf_n _h19)
        refine W_skip ?_
        refine thn_nrm (_hK_13 _ _ ?_)
        clear _hK_13
        refine W_seq fun _K_17 _hK_17 => ?_
        refine W_seq fun _K_18 _hK_18 => ?_
        refine W_region ?_
        refine WL_step rfl rfl (r_fieldAddr fa164_3 rfl) ?_
        refine WL_step rfl rfl (r_loadAt _f_6.at_ agg3 rfl rfl) ?_
        refine WL_step rfl rfl (r_fieldAddr fa164_3 rfl) ?_
        refine WL_step rfl rfl (r_loadAt _m3.at_ agg3 rfl rfl) ?_
        refine WL_step rfl rfl (r_neq rfl rfl) ?_
        refine WL_nil ?_
        refine thn_nrm (_hK_18 _ _ ?_)
        clear _hK_18
        refine W_cond rfl (fun _h24 => ?_) (fun _h24 => ?_)
        · have _kb_19 := _h24
          have _h24 := bf_d (bt_n _h24)
          refine W_seq fun _K_20 _hK_20 => ?_
          refine W_region ?_
          refine WL_step rfl rfl (r_assign rfl) ?_
          refine WL_nil ?_
          refine thn_nrm (_hK_20 _ _ ?_)
          clear _hK_20
          refine W_ret (thn_ret ?_)
          clear _hK_17
          exact ret_intro [_] ⟨rfl, trivial⟩ ⟨congrArg Value.bool (decide_eq_false (fun e => _h24 (by rw [e]))).symm, E⟩
        · have _kb_19 := _h24
          have _h24 := bt_d (bf_n _h24)
          refine W_skip ?_
          refine thn_nrm (_hK_17 _ _ ?_)
          clear _hK_17
          refine W_seq fun _K_21 _hK_21 => ?_
          refine W_region ?_
          refine WL_step rfl rfl (r_assign rfl) ?_
          refine WL_nil ?_
          refine thn_nrm (_hK_21 _ _ ?_)
          clear _hK_21
          refine W_ret ?_
          exact ret_intro [_] ⟨rfl, trivial⟩ ⟨congrArg Value.bool (decide_eq_true (GEdge.inj (by rw [_h9, _h14, _h19, _h24]))).symm, E⟩

/-- laws.eqEdgeS -/
theorem c_laws_eqEdgeS {w : World} {LL_a _B_a : Nat} {_v_a : Value} {a : List GEdge} (_h_a : Ls GEdge.cs 4 w LL_a _B_a _v_a a) {LL_b _B_b : Nat} {_v_b : Value} {b : List GEdge} (_h_b : Ls GEdge.cs 4 w LL_b _B_b _v_b b) :
    Ctr Try.prog 78 #[_v_a, _v_b] w (fun v w' => v = .bool (decide (a = b)) ∧ Ch [] w w') := by
  obtain ⟨_A_a, _C_a, _e1_a⟩ := _h_a.val
  subst _e1_a
  have _l_a := _h_a.len
  have _h_a := _h_a.here (by decide)
  obtain ⟨_A_b, _C_b, _e1_b⟩ := _h_b.val
  subst _e1_b
  have _l_b := _h_b.len
  have _h_b := _h_b.here (by decide)
  have E := Ch.refl [] w
  refine Ctr_of_W (N := 27) (vs0 := [(.slice _A_a a.length _C_a), (.slice _A_b b.length _C_b)]) Try.func78 rfl rfl rfl ?_
  refine W_seq fun _K_1 _hK_1 => ?_
  refine W_region ?_
  refine WL_step rfl rfl (r_assign rfl) ?_
  refine WL_nil ?_
  refine thn_nrm (_hK_1 _ _ ?_)
  clear _hK_1
  refine W_seq fun _K_2 _hK_2 => ?_
  refine W_seq fun _K_3 _hK_3 => ?_
  refine W_region ?_
  refine WL_step rfl rfl (r_move rfl) ?_
  refine WL_step rfl rfl (r_len (by rw [el40]; rfl) rfl) ?_
  refine WL_step rfl rfl (r_move rfl) ?_
  refine WL_step rfl rfl (r_len (by rw [el40]; rfl) rfl) ?_
  refine WL_step rfl rfl (r_neq rfl rfl) ?_
  refine WL_nil ?_
  refine thn_nrm (_hK_3 _ _ ?_)
  clear _hK_3
  refine W_cond rfl (fun _h10 => ?_) (fun _h10 => ?_)
  · have _kb_4 := _h10
    have _h10 := bf_d (bt_n _h10)
    refine W_seq fun _K_5 _hK_5 => ?_
    refine W_region ?_
    refine WL_step rfl rfl (r_assign rfl) ?_
    refine WL_nil ?_
    refine thn_nrm (_hK_5 _ _ ?_)
    clear _hK_5
    refine W_ret (thn_ret ?_)
    clear _hK_2
    exact ret_intro [_] ⟨rfl, trivial⟩ ⟨congrArg Value.bool (decide_eq_false (fun e => _h10 (by rw [e]))).symm, E⟩
  · have _kb_4 := _h10
    have _h10 := bt_d (bf_n _h10)
    refine W_skip ?_
    refine thn_nrm (_hK_2 _ _ ?_)
    clear _hK_2
    refine W_seq fun _K_6 _hK_6 => ?_
    refine W_seq fun _K_7 _hK_7 => ?_
    refine W_region ?_
    refine WL_step rfl rfl (r_assign rfl) ?_
    refine WL_nil ?_
    refine thn_nrm (_hK_7 _ _ ?_)
    clear _hK_7
    refine W_block ?_
    refine W_loop (σ := Nat) (fun (k : Nat) => [(0, (.slice _A_a a.length _C_a)), (1, (.slice _A_b b.length _C_b)), (5, (.int .i64 ((k : Nat) : Int)))]) (fun (k : Nat) wx => Ch [] w wx ∧ w.heap.size ≤ wx.heap.size ∧ (k ≤ a.length) ∧ (a.take k = b.take k)) (fun (k : Nat) => a.length - k) 0 (Sub.cons rfl (Sub.cons rfl (Sub.cons rfl (Sub.nil _)))) ⟨E, (Nat.le_refl _), (by omega), rfl⟩ ?_
    rintro k _wr_8 ⟨E, _zz0, _hk, _ht⟩
    have _E0h := E
    have _E0hz := _E0h.size
    refine W_seq fun _K_9 _hK_9 => ?_
    refine W_seq fun _K_10 _hK_10 => ?_
    refine W_region ?_
    refine WL_step rfl rfl (r_move rfl) ?_
    refine WL_step rfl rfl (r_move rfl) ?_
    refine WL_step rfl rfl (r_len (by rw [el40]; rfl) rfl) ?_
    refine WL_step rfl rfl (r_lss rfl rfl) ?_
    refine WL_nil ?_
    refine thn_nrm (_hK_10 _ _ ?_)
    clear _hK_10
    refine W_cond rfl (fun _h14 => ?_) (fun _h14 => ?_)
    · have _kb_11 := _h14
      have _h14 := bt_d _h14
      refine W_skip ?_
      refine thn_nrm (_hK_9 _ _ ?_)
      clear _hK_9
      refine W_seq fun _K_12 _hK_12 => ?_
      refine W_block ?_
      refine W_seq fun _K_13 _hK_13 => ?_
      refine W_drawC [] 10 mixed rfl fun _w_14 _cw_14 => ?_
      have _cw_14z := _cw_14.size
      have E := E.trans _cw_14
      refine DR_s 0 rfl (by kernel_rfl) rfl rfl (t_v (fun _ => (r_move rfl)) ?_)
      refine DR_s 1 rfl (by kernel_rfl) rfl rfl (t_v (fun _ => (r_move rfl)) ?_)
      have _f_15 := ((_h_a.ch0 _E0h).ch0 _cw_14)
      refine DR_s 2 rfl (by kernel_rfl) rfl rfl (t_index _f_15 GEdge.len el40 sz164 rfl rfl rfl (by omega) fun _p19 _y19 _hy19 _a19 => ?_)
      refine DR_s 3 rfl (by kernel_rfl) rfl rfl (t_loadAtA0 _a19 (fun i hi => absurd hi List.not_mem_nil) agg164 sz164 rfl ?_)
      refine DR_s 4 rfl (by kernel_rfl) rfl rfl (t_v (fun _ => (r_move rfl)) ?_)
      refine DR_s 5 rfl (by kernel_rfl) rfl rfl (t_v (fun _ => (r_move rfl)) ?_)
      have _f_16 := ((_h_b.ch0 _E0h).ch0 _cw_14)
      refine DR_s 6 rfl (by kernel_rfl) rfl rfl (t_index _f_16 GEdge.len el40 sz164 rfl rfl rfl (by omega) fun _p23 _y23 _hy23 _a23 => ?_)
      refine DR_s 7 rfl (by kernel_rfl) rfl rfl (t_loadAtA0 _a23 (fun i hi => absurd hi List.not_mem_nil) agg164 sz164 rfl ?_)
      refine DR_one 8 (by kernel_rfl) ?_
      refine DO_s rfl rfl rfl ?_
      refine Step.call (r_call (xs := [.tmp 20, .tmp 24]) fk136 rfl) (c_laws_eqEdge _y19 _y23 ) fun _v25 _w_17 _q25 => ?_
      obtain ⟨rfl, _cw_17⟩ := _q25
      have _cw_17z := _cw_17.size
      have E := E.trans _cw_17
      have _S_18 : Ch [] _w_14 _w_17 := ((Ch.refl _ _).trans _cw_17)
      refine ⟨_S_18, ?_⟩
      refine DR_s 9 rfl (by kernel_rfl) rfl rfl (t_v (fun _ => (r_not rfl)) ?_)
      refine DR_done (by kernel_rfl) ?_
      refine thn_nrm (_hK_13 _ _ ?_)
      clear _hK_13
      refine W_cond rfl (fun _h26 => ?_) (fun _h26 => ?_)
      · have _kb_19 := _h26
        have _h26 := bf_d (bt_n _h26)
        refine W_seq fun _K_20 _hK_20 => ?_
        refine W_region ?_
        refine WL_step rfl rfl (r_assign rfl) ?_
        refine WL_nil ?_
        refine thn_nrm (_hK_20 _ _ ?_)
        clear _hK_20
        refine W_ret (inB_ret (thn_ret (thn_ret (inB_ret (thn_ret ?_)))))
        clear _hK_6 _hK_12
        exact ret_intro [_] ⟨rfl, trivial⟩ ⟨congrArg Value.bool (decide_eq_false (ne_of_get _hy19 _hy23 _h26)).symm, E⟩
      · have _kb_19 := _h26
        have _h26 := bt_d (bf_n _h26)
        refine W_skip ?_
        refine inB_nrm ?_
        refine thn_nrm (_hK_12 _ _ ?_)
        clear _hK_12
        refine W_region ?_
        refine WL_step rfl rfl (r_move rfl) ?_
        refine WL_step rfl rfl (r_add (by omega) rfl rfl) ?_
        refine WL_step rfl rfl (r_assign rfl) ?_
        refine WL_nil ?_
        exact thn_nrm (Exists.intro (k + 1) ⟨⟨E, (by omega), (by omega), (take_eq_succ _ht _hy19 _hy23 _h26)⟩, Sub.cons rfl (Sub.cons rfl (Sub.cons rfl (Sub.nil _))), (by first | omega | (dsimp only; omega))⟩)
    · have _kb_11 := _h14
      have _h14 := bf_d _h14
      refine W_exit (thn_exit (thn_exit (inB_hit ?_)))
      refine thn_nrm (_hK_6 _ _ ?_)
      clear _hK_6
      refine W_seq fun _K_21 _hK_21 => ?_
      refine W_region ?_
      refine WL_step rfl rfl (r_assign rfl) ?_
      refine WL_nil ?_
      refine thn_nrm (_hK_21 _ _ ?_)
      clear _hK_21
      refine W_ret ?_
      clear _hK_9
      exact ret_intro [_] ⟨rfl, trivial⟩ ⟨congrArg Value.bool (decide_eq_true (eq_of_take _ht (by omega) (by omega))).symm, E⟩

/-- laws.eqIntS -/
theorem c_laws_eqIntS {w : World} {LL_a _B_a : Nat} {_v_a : Value} {a : List Int} (_h_a : Ls ics 1 w LL_a _B_a _v_a a) {LL_b _B_b : Nat} {_v_b : Value} {b : List Int} (_h_b : Ls ics 1 w LL_b _B_b _v_b b) :
    Ctr Try.prog 77 #[_v_a, _v_b] w (fun v w' => v = .bool (decide (a = b)) ∧ Ch [] w w') := by
  obtain ⟨_A_a, _C_a, _e1_a⟩ := _h_a.val
  subst _e1_a
  have _l_a := _h_a.len
  have _h_a := _h_a.here (by decide)
  obtain ⟨_A_b, _C_b, _e1_b⟩ := _h_b.val
  subst _e1_b
  have _l_b := _h_b.len
  have _h_b := _h_b.here (by decide)
  have E := Ch.refl [] w
  refine Ctr_of_W (N := 26) (vs0 := [(.slice _A_a a.length _C_a), (.slice _A_b b.length _C_b)]) Try.func77 rfl rfl rfl ?_
  refine W_seq fun _K_1 _hK_1 => ?_
  refine W_region ?_
  refine WL_step rfl rfl (r_assign rfl) ?_
  refine WL_nil ?_
  refine thn_nrm (_hK_1 _ _ ?_)
  clear _hK_1
  refine W_seq fun _K_2 _hK_2 => ?_
  refine W_seq fun _K_3 _hK_3 => ?_
  refine W_region ?_
  refine WL_step rfl rfl (r_move rfl) ?_
  refine WL_step rfl rfl (r_len (by rw [el33]; rfl) rfl) ?_
  refine WL_step rfl rfl (r_move rfl) ?_
  refine WL_step rfl rfl (r_len (by rw [el33]; rfl) rfl) ?_
  refine WL_step rfl rfl (r_neq rfl rfl) ?_
  refine WL_nil ?_
  refine thn_nrm (_hK_3 _ _ ?_)
  clear _hK_3
  refine W_cond rfl (fun _h10 => ?_) (fun _h10 => ?_)
  · have _kb_4 := _h10
    have _h10 := bf_d (bt_n _h10)
    refine W_seq fun _K_5 _hK_5 => ?_
    refine W_region ?_
    refine WL_step rfl rfl (r_assign rfl) ?_
    refine WL_nil ?_
    refine thn_nrm (_hK_5 _ _ ?_)
    clear _hK_5
    refine W_ret (thn_ret ?_)
    clear _hK_2
    exact ret_intro [_] ⟨rfl, trivial⟩ ⟨congrArg Value.bool (decide_eq_false (fun e => _h10 (by rw [e]))).symm, E⟩
  · have _kb_4 := _h10
    have _h10 := bt_d (bf_n _h10)
    refine W_skip ?_
    refine thn_nrm (_hK_2 _ _ ?_)
    clear _hK_2
    refine W_seq fun _K_6 _hK_6 => ?_
    refine W_seq fun _K_7 _hK_7 => ?_
    refine W_region ?_
    refine WL_step rfl rfl (r_assign rfl) ?_
    refine WL_nil ?_
    refine thn_nrm (_hK_7 _ _ ?_)
    clear _hK_7
    refine W_block ?_
    refine W_loop (σ := Nat) (fun (k : Nat) => [(0, (.slice _A_a a.length _C_a)), (1, (.slice _A_b b.length _C_b)), (5, (.int .i64 ((k : Nat) : Int)))]) (fun (k : Nat) wx => Ch [] w wx ∧ w.heap.size ≤ wx.heap.size ∧ (k ≤ a.length) ∧ (a.take k = b.take k)) (fun (k : Nat) => a.length - k) 0 (Sub.cons rfl (Sub.cons rfl (Sub.cons rfl (Sub.nil _)))) ⟨E, (Nat.le_refl _), (by omega), rfl⟩ ?_
    rintro k _wr_8 ⟨E, _zz0, _hk, _ht⟩
    have _E0h := E
    have _E0hz := _E0h.size
    refine W_seq fun _K_9 _hK_9 => ?_
    refine W_seq fun _K_10 _hK_10 => ?_
    refine W_region ?_
    refine WL_step rfl rfl (r_move rfl) ?_
    refine WL_step rfl rfl (r_move rfl) ?_
    refine WL_step rfl rfl (r_len (by rw [el33]; rfl) rfl) ?_
    refine WL_step rfl rfl (r_lss rfl rfl) ?_
    refine WL_nil ?_
    refine thn_nrm (_hK_10 _ _ ?_)
    clear _hK_10
    refine W_cond rfl (fun _h14 => ?_) (fun _h14 => ?_)
    · have _kb_11 := _h14
      have _h14 := bt_d _h14
      refine W_skip ?_
      refine thn_nrm (_hK_9 _ _ ?_)
      clear _hK_9
      refine W_seq fun _K_12 _hK_12 => ?_
      refine W_block ?_
      refine W_seq fun _K_13 _hK_13 => ?_
      refine W_drawC [] 9 mixed rfl fun _w_14 _cw_14 => ?_
      have _cw_14z := _cw_14.size
      have E := E.trans _cw_14
      refine DR_s 0 rfl (by kernel_rfl) rfl rfl (t_v (fun _ => (r_move rfl)) ?_)
      refine DR_s 1 rfl (by kernel_rfl) rfl rfl (t_v (fun _ => (r_move rfl)) ?_)
      have _f_15 := ((_h_a.ch0 _E0h).ch0 _cw_14)
      refine DR_s 2 rfl (by kernel_rfl) rfl rfl (t_index _f_15 ics_len el33 sz3 rfl rfl rfl (by omega) fun _p19 _y19 _hy19 _a19 => ?_)
      refine DR_s 3 rfl (by kernel_rfl) rfl rfl (t_loadAt0 _a19 (fun i hi => absurd hi List.not_mem_nil) agg3 rfl rfl ?_)
      refine DR_s 4 rfl (by kernel_rfl) rfl rfl (t_v (fun _ => (r_move rfl)) ?_)
      refine DR_s 5 rfl (by kernel_rfl) rfl rfl (t_v (fun _ => (r_move rfl)) ?_)
      have _f_16 := ((_h_b.ch0 _E0h).ch0 _cw_14)
      refine DR_s 6 rfl (by kernel_rfl) rfl rfl (t_index _f_16 ics_len el33 sz3 rfl rfl rfl (by omega) fun _p23 _y23 _hy23 _a23 => ?_)
      refine DR_s 7 rfl (by kernel_rfl) rfl rfl (t_loadAt0 _a23 (fun i hi => absurd hi List.not_mem_nil) agg3 rfl rfl ?_)
      refine DR_s 8 rfl (by kernel_rfl) rfl rfl (t_v (fun _ => (r_neq rfl rfl)) ?_)
      refine DR_done (by kernel_rfl) ?_
      refine thn_nrm (_hK_13 _ _ ?_)
      clear _hK_13
      refine W_cond rfl (fun _h25 => ?_) (fun _h25 => ?_)
      · have _kb_17 := _h25
        have _h25 := bf_d (bt_n _h25)
        refine W_seq fun _K_18 _hK_18 => ?_
        refine W_region ?_
        refine WL_step rfl rfl (r_assign rfl) ?_
        refine WL_nil ?_
        refine thn_nrm (_hK_18 _ _ ?_)
        clear _hK_18
        refine W_ret (inB_ret (thn_ret (thn_ret (inB_ret (thn_ret ?_)))))
        clear _hK_6 _hK_12
        exact ret_intro [_] ⟨rfl, trivial⟩ ⟨congrArg Value.bool (decide_eq_false (ne_of_get _hy19 _hy23 _h25)).symm, E⟩
      · have _kb_17 := _h25
        have _h25 := bt_d (bf_n _h25)
        refine W_skip ?_
        refine inB_nrm ?_
        refine thn_nrm (_hK_12 _ _ ?_)
        clear _hK_12
        refine W_region ?_
        refine WL_step rfl rfl (r_move rfl) ?_
        refine WL_step rfl rfl (r_add (by omega) rfl rfl) ?_
        refine WL_step rfl rfl (r_assign rfl) ?_
        refine WL_nil ?_
        exact thn_nrm (Exists.intro (k + 1) ⟨⟨E, (by omega), (by omega), (take_eq_succ _ht _hy19 _hy23 _h25)⟩, Sub.cons rfl (Sub.cons rfl (Sub.cons rfl (Sub.nil _))), (by first | omega | (dsimp only; omega))⟩)
    · have _kb_11 := _h14
      have _h14 := bf_d _h14
      refine W_exit (thn_exit (thn_exit (inB_hit ?_)))
      refine thn_nrm (_hK_6 _ _ ?_)
      clear _hK_6
      refine W_seq fun _K_19 _hK_19 => ?_
      refine W_region ?_
      refine WL_step rfl rfl (r_assign rfl) ?_
      refine WL_nil ?_
      refine thn_nrm (_hK_19 _ _ ?_)
      clear _hK_19
      refine W_ret ?_
      clear _hK_9
      exact ret_intro [_] ⟨rfl, trivial⟩ ⟨congrArg Value.bool (decide_eq_true (eq_of_take _ht (by omega) (by omega))).symm, E⟩

/-- laws.eqGraph -/
theorem c_laws_eqGraph {w : World} {LL_aV _B_aV : Nat} {_v_aV : Value} {aV : List Int} (_h_aV : Ls ics 1 w LL_aV _B_aV _v_aV aV) {LL_aE _B_aE : Nat} {_v_aE : Value} {aE : List GEdge} (_h_aE : Ls GEdge.cs 4 w LL_aE _B_aE _v_aE aE) {LL_bV _B_bV : Nat} {_v_bV : Value} {bV : List Int} (_h_bV : Ls ics 1 w LL_bV _B_bV _v_bV bV) {LL_bE _B_bE : Nat} {_v_bE : Value} {bE : List GEdge} (_h_bE : Ls GEdge.cs 4 w LL_bE _B_bE _v_bE bE) :
    Ctr Try.prog 22 #[(.agg #[_v_aV, _v_aE]), (.agg #[_v_bV, _v_bE])] w (fun v w' => v = .bool (decide (aV = bV ∧ aE = bE)) ∧ Ch [] w w') := by
  obtain ⟨_A_aV, _C_aV, _e1_aV⟩ := _h_aV.val
  subst _e1_aV
  have _l_aV := _h_aV.len
  have _h_aV := _h_aV.here (by decide)
  obtain ⟨_A_aE, _C_aE, _e1_aE⟩ := _h_aE.val
  subst _e1_aE
  have _l_aE := _h_aE.len
  have _h_aE := _h_aE.here (by decide)
  obtain ⟨_A_bV, _C_bV, _e1_bV⟩ := _h_bV.val
  subst _e1_bV
  have _l_bV := _h_bV.len
  have _h_bV := _h_bV.here (by decide)
  obtain ⟨_A_bE, _C_bE, _e1_bE⟩ := _h_bE.val
  subst _e1_bE
  have _l_bE := _h_bE.len
  have _h_bE := _h_bE.here (by decide)
  have E := Ch.refl [] w
  refine Ctr_of_W (N := 17) (vs0 := [(.agg #[(.slice _A_aV aV.length _C_aV), (.slice _A_aE aE.length _C_aE)]), (.agg #[(.slice _A_bV bV.length _C_bV), (.slice _A_bE bE.length _C_bE)])]) Try.func22 rfl rfl rfl ?_
  refine W_seq fun _K_1 _hK_1 => ?_
  refine W_region ?_
  refine WL_s rfl rfl ?_
  refine s_box rfl fun _b2 _w_2 _m2 _cw_2 _e2 => ?_
  have _cw_2z := _cw_2.size
  have E := E.trans _cw_2
  have _z2 := _m2.lt
  replace _m2 : Blk _w_2 _b2 42 [(.slice _A_aV aV.length _C_aV), (.slice _A_aE aE.length _C_aE)] := _m2
  refine WL_s rfl rfl ?_
  refine s_box rfl fun _b3 _w_3 _m3 _cw_3 _e3 => ?_
  have _cw_3z := _cw_3.size
  have E := E.trans _cw_3
  have _z3 := _m3.lt
  replace _m3 : Blk _w_3 _b3 42 [(.slice _A_bV bV.length _C_bV), (.slice _A_bE bE.length _C_bE)] := _m3
  refine WL_step rfl rfl (r_assign rfl) ?_
  refine WL_nil ?_
  refine thn_nrm (_hK_1 _ _ ?_)
  clear _hK_1
  refine W_seq fun _K_4 _hK_4 => ?_
  refine W_seq fun _K_5 _hK_5 => ?_
  refine W_region ?_
  refine WL_step rfl rfl (r_fieldAddr fa42_0 rfl) ?_
  have _f_6 := (_m2.ch0 _cw_3)
  refine WL_step rfl rfl (r_loadAt _f_6.at_ agg33 rfl rfl) ?_
  refine WL_step rfl rfl (r_fieldAddr fa42_0 rfl) ?_
  refine WL_step rfl rfl (r_loadAt _m3.at_ agg33 rfl rfl) ?_
  refine WL_s rfl rfl ?_
  have _f_7 := ((_h_aV.ch0 _cw_2).ch0 _cw_3)
  have _f_8 := ((_h_bV.ch0 _cw_2).ch0 _cw_3)
  refine Step.call (r_call (xs := [.tmp 6, .tmp 8]) fk77 rfl) (c_laws_eqIntS _f_7 _f_8 ) fun _v9 _w_9 _q9 => ?_
  obtain ⟨rfl, _cw_9⟩ := _q9
  have _cw_9z := _cw_9.size
  have E := E.trans _cw_9
  refine WL_step rfl rfl (r_not rfl) ?_
  refine WL_nil ?_
  refine thn_nrm (_hK_5 _ _ ?_)
  clear _hK_5
  refine W_cond rfl (fun _h10 => ?_) (fun _h10 => ?_)
  · have _kb_10 := _h10
    have _h10 := bf_d (bt_n _h10)
    refine W_seq fun _K_11 _hK_11 => ?_
    refine W_region ?_
    refine WL_step rfl rfl (r_assign rfl) ?_
    refine WL_nil ?_
    refine thn_nrm (_hK_11 _ _ ?_)
    clear _hK_11
    refine W_ret (thn_ret ?_)
    clear _hK_4
    exact ret_intro [_] ⟨rfl, trivial⟩ ⟨congrArg Value.bool (by simp_all), E⟩
  · have _kb_10 := _h10
    have _h10 := bt_d (bf_n _h10)
    refine W_skip ?_
    refine thn_nrm (_hK_4 _ _ ?_)
    clear _hK_4
    refine W_seq fun _K_12 _hK_12 => ?_
    refine W_seq fun _K_13 _hK_13 => ?_
    refine W_region ?_
    refine WL_step rfl rfl (r_fieldAddr fa42_1 rfl) ?_
    have _f_14 := (_f_6.ch0 _cw_9)
    refine WL_step rfl rfl (r_loadAt _f_14.at_ agg40 rfl rfl) ?_
    refine WL_step rfl rfl (r_fieldAddr fa42_1 rfl) ?_
    have _f_15 := (_m3.ch0 _cw_9)
    refine WL_step rfl rfl (r_loadAt _f_15.at_ agg40 rfl rfl) ?_
    refine WL_s rfl rfl ?_
    have _f_16 := (((_h_aE.ch0 _cw_2).ch0 _cw_3).ch0 _cw_9)
    have _f_17 := (((_h_bE.ch0 _cw_2).ch0 _cw_3).ch0 _cw_9)
    refine Step.call (r_call (xs := [.tmp 12, .tmp 14]) fk78 rfl) (c_laws_eqEdgeS _f_16 _f_17 ) fun _v15 _w_18 _q15 => ?_
    obtain ⟨rfl, _cw_18⟩ := _q15
    have _cw_18z := _cw_18.size
    have E := E.trans _cw_18
    refine WL_step rfl rfl (r_not rfl) ?_
    refine WL_nil ?_
    refine thn_nrm (_hK_13 _ _ ?_)
    clear _hK_13
    refine W_cond rfl (fun _h16 => ?_) (fun _h16 => ?_)
    · have _kb_19 := _h16
      have _h16 := bf_d (bt_n _h16)
      refine W_seq fun _K_20 _hK_20 => ?_
      refine W_region ?_
      refine WL_step rfl rfl (r_assign rfl) ?_
      refine WL_nil ?_
      refine thn_nrm (_hK_20 _ _ ?_)
      clear _hK_20
      refine W_ret (thn_ret ?_)
      clear _hK_12
      exact ret_intro [_] ⟨rfl, trivial⟩ ⟨congrArg Value.bool (by simp_all), E⟩
    · have _kb_19 := _h16
      have _h16 := bt_d (bf_n _h16)
      refine W_skip ?_
      refine thn_nrm (_hK_12 _ _ ?_)
      clear _hK_12
      refine W_seq fun _K_21 _hK_21 => ?_
      refine W_region ?_
      refine WL_step rfl rfl (r_assign rfl) ?_
      refine WL_nil ?_
      refine thn_nrm (_hK_21 _ _ ?_)
      clear _hK_21
      refine W_ret ?_
      exact ret_intro [_] ⟨rfl, trivial⟩ ⟨congrArg Value.bool (by simp_all), E⟩

/-- laws.eqGraphS -/
theorem c_laws_eqGraphS {w : World} {LL_sa _B_sa : Nat} {_v_sa : Value} {sa : List Gv} (_h_sa : Ls Gv.cs 2 w LL_sa _B_sa _v_sa sa) {LR_a BB_a : Nat} {a : List GD} (_rd_a : RdG w LR_a BB_a sa a) {LL_sb _B_sb : Nat} {_v_sb : Value} {sb : List Gv} (_h_sb : Ls Gv.cs 2 w LL_sb _B_sb _v_sb sb) {LR_b BB_b : Nat} {b : List GD} (_rd_b : RdG w LR_b BB_b sb b) :
    Ctr Try.prog 70 #[_v_sa, _v_sb] w (fun v w' => v = .bool (tt (a = b)) ∧ Ch [] w w') := by
  obtain ⟨_A_sa, _C_sa, _e1_sa⟩ := _h_sa.val
  subst _e1_sa
  have _l_sa := _h_sa.len
  have _h_sa := _h_sa.here (by decide)
  have _rd_a := _rd_a.here
  have _rl_a := _rd_a.1
  obtain ⟨_A_sb, _C_sb, _e1_sb⟩ := _h_sb.val
  subst _e1_sb
  have _l_sb := _h_sb.len
  have _h_sb := _h_sb.here (by decide)
  have _rd_b := _rd_b.here
  have _rl_b := _rd_b.1
  have E := Ch.refl [] w
  refine Ctr_of_W (N := 27) (vs0 := [(.slice _A_sa sa.length _C_sa), (.slice _A_sb sb.length _C_sb)]) Try.func70 rfl rfl rfl ?_
  refine W_seq fun _K_1 _hK_1 => ?_
  refine W_region ?_
  refine WL_step rfl rfl (r_assign rfl) ?_
  refine WL_nil ?_
  refine thn_nrm (_hK_1 _ _ ?_)
  clear _hK_1
  refine W_seq fun _K_2 _hK_2 => ?_
  refine W_seq fun _K_3 _hK_3 => ?_
  refine W_region ?_
  refine WL_step rfl rfl (r_move rfl) ?_
  refine WL_step rfl rfl (r_len (by rw [el27]; rfl) rfl) ?_
  refine WL_step rfl rfl (r_move rfl) ?_
  refine WL_step rfl rfl (r_len (by rw [el27]; rfl) rfl) ?_
  refine WL_step rfl rfl (r_neq rfl rfl) ?_
  refine WL_nil ?_
  refine thn_nrm (_hK_3 _ _ ?_)
  clear _hK_3
  refine W_cond rfl (fun _h10 => ?_) (fun _h10 => ?_)
  · have _kb_4 := _h10
    have _h10 := bf_d (bt_n _h10)
    refine W_seq fun _K_5 _hK_5 => ?_
    refine W_region ?_
    refine WL_step rfl rfl (r_assign rfl) ?_
    refine WL_nil ?_
    refine thn_nrm (_hK_5 _ _ ?_)
    clear _hK_5
    refine W_ret (thn_ret ?_)
    clear _hK_2
    exact ret_intro [_] ⟨rfl, trivial⟩ ⟨congrArg Value.bool (tt_false (fun e => _h10 (by rw [_rl_a, _rl_b, e]))), E⟩
  · have _kb_4 := _h10
    have _h10 := bt_d (bf_n _h10)
    refine W_skip ?_
    refine thn_nrm (_hK_2 _ _ ?_)
    clear _hK_2
    refine W_seq fun _K_6 _hK_6 => ?_
    refine W_seq fun _K_7 _hK_7 => ?_
    refine W_region ?_
    refine WL_step rfl rfl (r_assign rfl) ?_
    refine WL_nil ?_
    refine thn_nrm (_hK_7 _ _ ?_)
    clear _hK_7
    refine W_block ?_
    refine W_loop (σ := Nat) (fun (k : Nat) => [(0, (.slice _A_sa sa.length _C_sa)), (1, (.slice _A_sb sb.length _C_sb)), (5, (.int .i64 ((k : Nat) : Int)))]) (fun (k : Nat) wx => Ch [] w wx ∧ w.heap.size ≤ wx.heap.size ∧ (k ≤ a.length) ∧ (a.take k = b.take k)) (fun (k : Nat) => a.length - k) 0 (Sub.cons rfl (Sub.cons rfl (Sub.cons rfl (Sub.nil _)))) ⟨E, (Nat.le_refl _), (by omega), rfl⟩ ?_
    rintro k _wr_8 ⟨E, _zz0, _hk, _ht⟩
    have _E0h := E
    have _E0hz := _E0h.size
    refine W_seq fun _K_9 _hK_9 => ?_
    refine W_seq fun _K_10 _hK_10 => ?_
    refine W_region ?_
    refine WL_step rfl rfl (r_move rfl) ?_
    refine WL_step rfl rfl (r_move rfl) ?_
    refine WL_step rfl rfl (r_len (by rw [el27]; rfl) rfl) ?_
    refine WL_step rfl rfl (r_lss rfl rfl) ?_
    refine WL_nil ?_
    refine thn_nrm (_hK_10 _ _ ?_)
    clear _hK_10
    refine W_cond rfl (fun _h14 => ?_) (fun _h14 => ?_)
    · have _kb_11 := _h14
      have _h14 := bt_d _h14
      refine W_skip ?_
      refine thn_nrm (_hK_9 _ _ ?_)
      clear _hK_9
      refine W_seq fun _K_12 _hK_12 => ?_
      refine W_block ?_
      refine W_seq fun _K_13 _hK_13 => ?_
      refine W_drawC [] 10 mixed rfl fun _w_14 _cw_14 => ?_
      have _cw_14z := _cw_14.size
      have E := E.trans _cw_14
      refine DR_s 0 rfl (by kernel_rfl) rfl rfl (t_v (fun _ => (r_move rfl)) ?_)
      refine DR_s 1 rfl (by kernel_rfl) rfl rfl (t_v (fun _ => (r_move rfl)) ?_)
      have _f_15 := ((_h_sa.ch0 _E0h).ch0 _cw_14)
      have _f_16 := ((_rd_a.ch0 _E0h).ch0 _cw_14)
      refine DR_s 2 rfl (by kernel_rfl) rfl rfl (t_index _f_15 Gv.len el27 sz42 rfl rfl rfl (by omega) fun _p19 _y19 _hy19 _a19 => ?_)
      obtain ⟨_ys19, _hys19, _fs19, fe19⟩ := _f_16.get _hy19
      obtain ⟨⟨_A19, _n19, _C19⟩, ⟨Ae19, ne19, Ce19⟩⟩ := _y19
      obtain rfl := _fs19.eqn
      obtain rfl := fe19.eqn
      have _l19 := _fs19.len
      have le19 := fe19.len
      replace _fs19 : Ls ics 1 _w_14 LR_a w.heap.size (.slice _A19 _ys19.V.length _C19) _ys19.V := _fs19
      replace fe19 : Ls GEdge.cs 4 _w_14 LR_a w.heap.size (.slice Ae19 _ys19.E.length Ce19) _ys19.E := fe19
      refine DR_s 3 rfl (by kernel_rfl) rfl rfl (t_loadAtA0 _a19 (fun i hi => absurd hi List.not_mem_nil) agg42 sz42 rfl ?_)
      refine DR_s 4 rfl (by kernel_rfl) rfl rfl (t_v (fun _ => (r_move rfl)) ?_)
      refine DR_s 5 rfl (by kernel_rfl) rfl rfl (t_v (fun _ => (r_move rfl)) ?_)
      have _f_17 := ((_h_sb.ch0 _E0h).ch0 _cw_14)
      have _f_18 := ((_rd_b.ch0 _E0h).ch0 _cw_14)
      refine DR_s 6 rfl (by kernel_rfl) rfl rfl (t_index _f_17 Gv.len el27 sz42 rfl rfl rfl (by omega) fun _p23 _y23 _hy23 _a23 => ?_)
      obtain ⟨_ys23, _hys23, _fs23, fe23⟩ := _f_18.get _hy23
      obtain ⟨⟨_A23, _n23, _C23⟩, ⟨Ae23, ne23, Ce23⟩⟩ := _y23
      obtain rfl := _fs23.eqn
      obtain rfl := fe23.eqn
      have _l23 := _fs23.len
      have le23 := fe23.len
      replace _fs23 : Ls ics 1 _w_14 LR_b w.heap.size (.slice _A23 _ys23.V.length _C23) _ys23.V := _fs23
      replace fe23 : Ls GEdge.cs 4 _w_14 LR_b w.heap.size (.slice Ae23 _ys23.E.length Ce23) _ys23.E := fe23
      refine DR_s 7 rfl (by kernel_rfl) rfl rfl (t_loadAtA0 _a23 (fun i hi => absurd hi List.not_mem_nil) agg42 sz42 rfl ?_)
      refine DR_one 8 (by kernel_rfl) ?_
      refine DO_s rfl rfl rfl ?_
      refine Step.call (r_call (xs := [.tmp 20, .tmp 24]) fk22 rfl) (c_laws_eqGraph _fs19 fe19 _fs23 fe23 ) fun _v25 _w_19 _q25 => ?_
      obtain ⟨rfl, _cw_19⟩ := _q25
      have _cw_19z := _cw_19.size
      have E := E.trans _cw_19
      have _S_20 : Ch [] _w_14 _w_19 := ((Ch.refl _ _).trans _cw_19)
      refine ⟨_S_20, ?_⟩
      refine DR_s 9 rfl (by kernel_rfl) rfl rfl (t_v (fun _ => (r_not rfl)) ?_)
      refine DR_done (by kernel_rfl) ?_
      refine thn_nrm (_hK_13 _ _ ?_)
      clear _hK_13
      refine W_cond rfl (fun _h26 => ?_) (fun _h26 => ?_)
      · have _kb_21 := _h26
        have _h26 := bf_d (bt_n _h26)
        refine W_seq fun _K_22 _hK_22 => ?_
        refine W_region ?_
        refine WL_step rfl rfl (r_assign rfl) ?_
        refine WL_nil ?_
        refine thn_nrm (_hK_22 _ _ ?_)
        clear _hK_22
        refine W_ret (inB_ret (thn_ret (thn_ret (inB_ret (thn_ret ?_)))))
        clear _hK_6 _hK_12
        exact ret_intro [_] ⟨rfl, trivial⟩ ⟨congrArg Value.bool (tt_false (ne_of_get _hys19 _hys23 (fun e => _h26 ⟨by rw [e], by rw [e]⟩))), E⟩
      · have _kb_21 := _h26
        have _h26 := bt_d (bf_n _h26)
        refine W_skip ?_
        refine inB_nrm ?_
        refine thn_nrm (_hK_12 _ _ ?_)
        clear _hK_12
        refine W_region ?_
        refine WL_step rfl rfl (r_move rfl) ?_
        refine WL_step rfl rfl (r_add (by omega) rfl rfl) ?_
        refine WL_step rfl rfl (r_assign rfl) ?_
        refine WL_nil ?_
        exact thn_nrm (Exists.intro (k + 1) ⟨⟨E, (by omega), (by omega), (take_eq_succ _ht _hys19 _hys23 (GD.ext2 _h26.1 _h26.2))⟩, Sub.cons rfl (Sub.cons rfl (Sub.cons rfl (Sub.nil _))), (by first | omega | (dsimp only; omega))⟩)
    · have _kb_11 := _h14
      have _h14 := bf_d _h14
      refine W_exit (thn_exit (thn_exit (inB_hit ?_)))
      refine thn_nrm (_hK_6 _ _ ?_)
      clear _hK_6
      refine W_seq fun _K_23 _hK_23 => ?_
      refine W_region ?_
      refine WL_step rfl rfl (r_assign rfl) ?_
      refine WL_nil ?_
      refine thn_nrm (_hK_23 _ _ ?_)
      clear _hK_23
      refine W_ret ?_
      clear _hK_9
      exact ret_intro [_] ⟨rfl, trivial⟩ ⟨congrArg Value.bool (tt_true (eq_of_take _ht (by omega) (by omega))), E⟩

/-- laws.eqHistory -/
theorem c_laws_eqHistory {w : World} (aF : Int) {LL_saG _B_saG : Nat} {_v_saG : Value} {saG : List Gv} (_h_saG : Ls Gv.cs 2 w LL_saG _B_saG _v_saG saG) {LR_aG BB_aG : Nat} {aG : List GD} (_rd_aG : RdG w LR_aG BB_aG saG aG) (bF : Int) {LL_sbG _B_sbG : Nat} {_v_sbG : Value} {sbG : List Gv} (_h_sbG : Ls Gv.cs 2 w LL_sbG _B_sbG _v_sbG sbG) {LR_bG BB_bG : Nat} {bG : List GD} (_rd_bG : RdG w LR_bG BB_bG sbG bG) :
    Ctr Try.prog 17 #[(.agg #[(.int .i64 aF), _v_saG]), (.agg #[(.int .i64 bF), _v_sbG])] w (fun v w' => v = .bool (tt (aF = bF ∧ aG = bG)) ∧ Ch [] w w') := by
  obtain ⟨_A_saG, _C_saG, _e1_saG⟩ := _h_saG.val
  subst _e1_saG
  have _l_saG := _h_saG.len
  have _h_saG := _h_saG.here (by decide)
  have _rd_aG := _rd_aG.here
  have _rl_aG := _rd_aG.1
  obtain ⟨_A_sbG, _C_sbG, _e1_sbG⟩ := _h_sbG.val
  subst _e1_sbG
  have _l_sbG := _h_sbG.len
  have _h_sbG := _h_sbG.here (by decide)
  have _rd_bG := _rd_bG.here
  have _rl_bG := _rd_bG.1
  have E := Ch.refl [] w
  refine Ctr_of_W (N := 16) (vs0 := [(.agg #[(.int .i64 aF), (.slice _A_saG saG.length _C_saG)]), (.agg #[(.int .i64 bF), (.slice _A_sbG sbG.length _C_sbG)])]) Try.func17 rfl rfl rfl ?_
  refine W_seq fun _K_1 _hK_1 => ?_
  refine W_region ?_
  refine WL_s rfl rfl ?_
  refine s_box rfl fun _b2 _w_2 _m2 _cw_2 _e2 => ?_
  have _cw_2z := _cw_2.size
  have E := E.trans _cw_2
  have _z2 := _m2.lt
  replace _m2 : Blk _w_2 _b2 29 [(.int .i64 aF), (.slice _A_saG saG.length _C_saG)] := _m2
  refine WL_s rfl rfl ?_
  refine s_box rfl fun _b3 _w_3 _m3 _cw_3 _e3 => ?_
  have _cw_3z := _cw_3.size
  have E := E.trans _cw_3
  have _z3 := _m3.lt
  replace _m3 : Blk _w_3 _b3 29 [(.int .i64 bF), (.slice _A_sbG sbG.length _C_sbG)] := _m3
  refine WL_step rfl rfl (r_assign rfl) ?_
  refine WL_nil ?_
  refine thn_nrm (_hK_1 _ _ ?_)
  clear _hK_1
  refine W_seq fun _K_4 _hK_4 => ?_
  refine W_seq fun _K_5 _hK_5 => ?_
  refine W_region ?_
  refine WL_step rfl rfl (r_fieldAddr fa29_0 rfl) ?_
  have _f_6 := (_m2.ch0 _cw_3)
  refine WL_step rfl rfl (r_loadAt _f_6.at_ agg3 rfl rfl) ?_
  refine WL_step rfl rfl (r_fieldAddr fa29_0 rfl) ?_
  refine WL_step rfl rfl (r_loadAt _m3.at_ agg3 rfl rfl) ?_
  refine WL_step rfl rfl (r_neq rfl rfl) ?_
  refine WL_nil ?_
  refine thn_nrm (_hK_5 _ _ ?_)
  clear _hK_5
  refine W_cond rfl (fun _h9 => ?_) (fun _h9 => ?_)
  · have _kb_7 := _h9
    have _h9 := bf_d (bt_n _h9)
    refine W_seq fun _K_8 _hK_8 => ?_
    refine W_region ?_
    refine WL_step rfl rfl (r_assign rfl) ?_
    refine WL_nil ?_
    refine thn_nrm (_hK_8 _ _ ?_)
    clear _hK_8
    refine W_ret (thn_ret ?_)
    clear _hK_4
    exact ret_intro [_] ⟨rfl, trivial⟩ ⟨congrArg Value.bool (tt_false (fun e => _h9 e.1)), E⟩
  · have _kb_7 := _h9
    have _h9 := bt_d (bf_n _h9)
    refine W_skip ?_
    refine thn_nrm (_hK_4 _ _ ?_)
    clear _hK_4
    refine W_seq fun _K_9 _hK_9 => ?_
    refine W_seq fun _K_10 _hK_10 => ?_
    refine W_region ?_
    refine WL_step rfl rfl (r_fieldAddr fa29_1 rfl) ?_
    refine WL_step rfl rfl (r_loadAt _f_6.at_ agg27 rfl rfl) ?_
    refine WL_step rfl rfl (r_fieldAddr fa29_1 rfl) ?_
    refine WL_step rfl rfl (r_loadAt _m3.at_ agg27 rfl rfl) ?_
    refine WL_s rfl rfl ?_
    have _f_11 := ((_h_saG.ch0 _cw_2).ch0 _cw_3)
    have _f_12 := ((_rd_aG.ch0 _cw_2).ch0 _cw_3)
    have _f_13 := ((_h_sbG.ch0 _cw_2).ch0 _cw_3)
    have _f_14 := ((_rd_bG.ch0 _cw_2).ch0 _cw_3)
    refine Step.call (r_call (xs := [.tmp 11, .tmp 13]) fk70 rfl) (c_laws_eqGraphS _f_11 _f_12 _f_13 _f_14 ) fun _v14 _w_15 _q14 => ?_
    obtain ⟨rfl, _cw_15⟩ := _q14
    have _cw_15z := _cw_15.size
    have E := E.trans _cw_15
    refine WL_step rfl rfl (r_not rfl) ?_
    refine WL_nil ?_
    refine thn_nrm (_hK_10 _ _ ?_)
    clear _hK_10
    refine W_cond rfl (fun _h15 => ?_) (fun _h15 => ?_)
    · have _kb_16 := _h15
      have _h15 := bf_t (bt_n _h15)
      refine W_seq fun _K_17 _hK_17 => ?_
      refine W_region ?_
      refine WL_step rfl rfl (r_assign rfl) ?_
      refine WL_nil ?_
      refine thn_nrm (_hK_17 _ _ ?_)
      clear _hK_17
      refine W_ret (thn_ret ?_)
      clear _hK_9
      exact ret_intro [_] ⟨rfl, trivial⟩ ⟨congrArg Value.bool (tt_false (fun e => _h15 e.2)), E⟩
    · have _kb_16 := _h15
      have _h15 := bt_t (bf_n _h15)
      refine W_skip ?_
      refine thn_nrm (_hK_9 _ _ ?_)
      clear _hK_9
      refine W_seq fun _K_18 _hK_18 => ?_
      refine W_region ?_
      refine WL_step rfl rfl (r_assign rfl) ?_
      refine WL_nil ?_
      refine thn_nrm (_hK_18 _ _ ?_)
      clear _hK_18
      refine W_ret ?_
      exact ret_intro [_] ⟨rfl, trivial⟩ ⟨congrArg Value.bool (tt_true ⟨_h9, _h15⟩), E⟩

/-- laws.heldEdgeS -/
theorem c_laws_heldEdgeS {w : World} {LL_a _B_a : Nat} {_v_a : Value} {a : List GEdge} (_h_a : Ls GEdge.cs 4 w LL_a _B_a _v_a a) (k : Int) (_hk0 : 0 ≤ k) (hkk : k + 4 * a.length ≤ 4611686018427387904) :
    Ctr Try.prog 96 #[_v_a, (.int .i64 k)] w (fun v w' => v = .int .i64 (if a = mkGEdge k a.length then k + 4 * a.length else -1) ∧ Ch [] w w') := by
  obtain ⟨_A_a, _C_a, _e1_a⟩ := _h_a.val
  subst _e1_a
  have _l_a := _h_a.len
  have _h_a := _h_a.here (by decide)
  have E := Ch.refl [] w
  refine Ctr_of_W (N := 49) (vs0 := [(.slice _A_a a.length _C_a), (.int .i64 k)]) Try.func96 rfl rfl rfl ?_
  refine W_seq fun _K_1 _hK_1 => ?_
  refine W_region ?_
  refine WL_step rfl rfl (r_assign rfl) ?_
  refine WL_nil ?_
  refine thn_nrm (_hK_1 _ _ ?_)
  clear _hK_1
  refine W_seq fun _K_2 _hK_2 => ?_
  refine W_seq fun _K_3 _hK_3 => ?_
  refine W_region ?_
  refine WL_step rfl rfl (r_assign rfl) ?_
  refine WL_nil ?_
  refine thn_nrm (_hK_3 _ _ ?_)
  clear _hK_3
  refine W_block ?_
  refine W_loop (σ := Nat × Int) (fun ⟨i, kk⟩ => [(0, (.slice _A_a a.length _C_a)), (1, (.int .i64 kk)), (5, (.int .i64 ((i : Nat) : Int)))]) (fun ⟨i, kk⟩ wx => Ch [] w wx ∧ w.heap.size ≤ wx.heap.size ∧ (i ≤ a.length) ∧ (kk = k + 4 * i) ∧ (a.take i = mkGEdge k i)) (fun ⟨i, kk⟩ => a.length - i) (0, k) (Sub.cons rfl (Sub.cons rfl (Sub.cons rfl (Sub.nil _)))) ⟨E, (Nat.le_refl _), (by omega), (by omega), rfl⟩ ?_
  rintro ⟨i, kk⟩ _wr_4 ⟨E, _zz0, hi, hq, _ht⟩
  have _E0h := E
  have _E0hz := _E0h.size
  refine W_seq fun _K_5 _hK_5 => ?_
  refine W_seq fun _K_6 _hK_6 => ?_
  refine W_region ?_
  refine WL_step rfl rfl (r_move rfl) ?_
  refine WL_step rfl rfl (r_move rfl) ?_
  refine WL_step rfl rfl (r_len (by rw [el40]; rfl) rfl) ?_
  refine WL_step rfl rfl (r_lss rfl rfl) ?_
  refine WL_nil ?_
  refine thn_nrm (_hK_6 _ _ ?_)
  clear _hK_6
  refine W_cond rfl (fun _h9 => ?_) (fun _h9 => ?_)
  · have _kb_7 := _h9
    have _h9 := bt_d _h9
    refine W_skip ?_
    refine thn_nrm (_hK_5 _ _ ?_)
    clear _hK_5
    refine W_seq fun _K_8 _hK_8 => ?_
    refine W_block ?_
    refine W_seq fun _K_9 _hK_9 => ?_
    refine W_seq fun _K_10 _hK_10 => ?_
    refine W_region ?_
    refine WL_step rfl rfl (r_move rfl) ?_
    refine WL_step rfl rfl (r_move rfl) ?_
    refine WL_s rfl rfl ?_
    have _f_11 := (_h_a.ch0 _E0h)
    refine (s_index _f_11 GEdge.len el40 sz164 rfl rfl rfl (by omega) fun _p14 _y14 _hy14 _a14 => ?_)
    refine WL_step rfl rfl (r_fieldAddr fa164_0 rfl) ?_
    refine WL_step rfl rfl (r_loadAt _a14 agg3 rfl rfl) ?_
    refine WL_step rfl rfl (r_move rfl) ?_
    refine WL_step rfl rfl (r_neq rfl rfl) ?_
    refine WL_nil ?_
    refine thn_nrm (_hK_10 _ _ ?_)
    clear _hK_10
    refine W_cond rfl (fun _h18 => ?_) (fun _h18 => ?_)
    · have _kb_12 := _h18
      have _h18 := bf_d (bt_n _h18)
      refine W_seq fun _K_13 _hK_13 => ?_
      refine W_region ?_
      refine WL_step rfl rfl (r_assign rfl) ?_
      refine WL_nil ?_
      refine thn_nrm (_hK_13 _ _ ?_)
      clear _hK_13
      refine W_ret (thn_ret (inB_ret (thn_ret (thn_ret (inB_ret (thn_ret ?_))))))
      clear _hK_2 _hK_8 _hK_9
      exact ret_intro [_] ⟨rfl, trivial⟩ ⟨congrArg (Value.int .i64) (if_neg (fun e => _h18 (by have _e2 := (heldGEdge_get e _hy14).1; omega))).symm, E⟩
    · have _kb_12 := _h18
      have _h18 := bt_d (bf_n _h18)
      refine W_skip ?_
      refine thn_nrm (_hK_9 _ _ ?_)
      clear _hK_9
      refine W_seq fun _K_14 _hK_14 => ?_
      refine W_region ?_
      refine WL_step rfl rfl (r_move rfl) ?_
      refine WL_step rfl rfl (r_add (by omega) rfl rfl) ?_
      refine WL_step rfl rfl (r_assign rfl) ?_
      refine WL_nil ?_
      refine thn_nrm (_hK_14 _ _ ?_)
      clear _hK_14
      refine W_seq fun _K_15 _hK_15 => ?_
      refine W_seq fun _K_16 _hK_16 => ?_
      refine W_region ?_
      refine WL_step rfl rfl (r_move rfl) ?_
      refine WL_step rfl rfl (r_move rfl) ?_
      refine WL_s rfl rfl ?_
      refine (s_index _f_11 GEdge.len el40 sz164 rfl rfl rfl (by omega) fun _p23 _y23 _hy23 _a23 => ?_)
      refine WL_step rfl rfl (r_fieldAddr fa164_1 rfl) ?_
      refine WL_step rfl rfl (r_loadAt _a23 agg3 rfl rfl) ?_
      refine WL_step rfl rfl (r_move rfl) ?_
      refine WL_step rfl rfl (r_neq rfl rfl) ?_
      refine WL_nil ?_
      refine thn_nrm (_hK_16 _ _ ?_)
      clear _hK_16
      refine W_cond rfl (fun _h27 => ?_) (fun _h27 => ?_)
      · have _kb_17 := _h27
        have _h27 := bf_d (bt_n _h27)
        refine W_seq fun _K_18 _hK_18 => ?_
        refine W_region ?_
        refine WL_step rfl rfl (r_assign rfl) ?_
        refine WL_nil ?_
        refine thn_nrm (_hK_18 _ _ ?_)
        clear _hK_18
        refine W_ret (thn_ret (inB_ret (thn_ret (thn_ret (inB_ret (thn_ret ?_))))))
        clear _hK_2 _hK_8 _hK_15
        exact ret_intro [_] ⟨rfl, trivial⟩ ⟨congrArg (Value.int .i64) (if_neg (fun e => _h27 (by have _e2 := (heldGEdge_get e _hy23).2.1; omega))).symm, E⟩
      · have _kb_17 := _h27
        have _h27 := bt_d (bf_n _h27)
        refine W_skip ?_
        refine thn_nrm (_hK_15 _ _ ?_)
        clear _hK_15
        refine W_seq fun _K_19 _hK_19 => ?_
        refine W_region ?_
        refine WL_step rfl rfl (r_move rfl) ?_
        refine WL_step rfl rfl (r_add (by omega) rfl rfl) ?_
        refine WL_step rfl rfl (r_assign rfl) ?_
        refine WL_nil ?_
        refine thn_nrm (_hK_19 _ _ ?_)
        clear _hK_19
        refine W_seq fun _K_20 _hK_20 => ?_
        refine W_seq fun _K_21 _hK_21 => ?_
        refine W_region ?_
        refine WL_step rfl rfl (r_move rfl) ?_
        refine WL_step rfl rfl (r_move rfl) ?_
        refine WL_s rfl rfl ?_
        refine (s_index _f_11 GEdge.len el40 sz164 rfl rfl rfl (by omega) fun _p32 _y32 _hy32 _a32 => ?_)
        refine WL_step rfl rfl (r_fieldAddr fa164_2 rfl) ?_
        refine WL_step rfl rfl (r_loadAt _a32 agg3 rfl rfl) ?_
        refine WL_step rfl rfl (r_move rfl) ?_
        refine WL_step rfl rfl (r_neq rfl rfl) ?_
        refine WL_nil ?_
        refine thn_nrm (_hK_21 _ _ ?_)
        clear _hK_21
        refine W_cond rfl (fun _h36 => ?_) (fun _h36 => ?_)
        · have _kb_22 := _h36
          have _h36 := bf_d (bt_n _h36)
          refine W_seq fun _K_23 _hK_23 => ?_
          refine W_region ?_
          refine WL_step rfl rfl (r_assign rfl) ?_
          refine WL_nil ?_
          refine thn_nrm (_hK_23 _ _ ?_)
          clear _hK_23
          refine W_ret (thn_ret (inB_ret (thn_ret (thn_ret (inB_ret (thn_ret ?_))))))
          clear _hK_2 _hK_8 _hK_20
          exact ret_intro [_] ⟨rfl, trivial⟩ ⟨congrArg (Value.int .i64) (if_neg (fun e => _h36 (by have _e2 := (heldGEdge_get e _hy32).2.2.1; omega))).symm, E⟩
        · have _kb_22 := _h36
          have _h36 := bt_d (bf_n _h36)
          refine W_skip ?_
          refine thn_nrm (_hK_20 _ _ ?_)
          clear _hK_20
          refine W_seq fun _K_24 _hK_24 => ?_
          refine W_region ?_
          refine WL_step rfl rfl (r_move rfl) ?_
          refine WL_step rfl rfl (r_add (by omega) rfl rfl) ?_
          refine WL_step rfl rfl (r_assign rfl) ?_
          refine WL_nil ?_
          refine thn_nrm (_hK_24 _ _ ?_)
          clear _hK_24
          refine W_seq fun _K_25 _hK_25 => ?_
          refine W_seq fun _K_26 _hK_26 => ?_
          refine W_region ?_
          refine WL_step rfl rfl (r_move rfl) ?_
          refine WL_step rfl rfl (r_move rfl) ?_
          refine WL_s rfl rfl ?_
          refine (s_index _f_11 GEdge.len el40 sz164 rfl rfl rfl (by omega) fun _p41 _y41 _hy41 _a41 => ?_)
          refine WL_step rfl rfl (r_fieldAddr fa164_3 rfl) ?_
          refine WL_step rfl rfl (r_loadAt _a41 agg3 rfl rfl) ?_
          refine WL_step rfl rfl (r_move rfl) ?_
          refine WL_step rfl rfl (r_neq rfl rfl) ?_
          refine WL_nil ?_
          refine thn_nrm (_hK_26 _ _ ?_)
          clear _hK_26
          refine W_cond rfl (fun _h45 => ?_) (fun _h45 => ?_)
          · have _kb_27 := _h45
            have _h45 := bf_d (bt_n _h45)
            refine W_seq fun _K_28 _hK_28 => ?_
            refine W_region ?_
            refine WL_step rfl rfl (r_assign rfl) ?_
            refine WL_nil ?_
            refine thn_nrm (_hK_28 _ _ ?_)
            clear _hK_28
            refine W_ret (thn_ret (inB_ret (thn_ret (thn_ret (inB_ret (thn_ret ?_))))))
            clear _hK_2 _hK_8 _hK_25
            exact ret_intro [_] ⟨rfl, trivial⟩ ⟨congrArg (Value.int .i64) (if_neg (fun e => _h45 (by have _e2 := (heldGEdge_get e _hy41).2.2.2; omega))).symm, E⟩
          · have _kb_27 := _h45
            have _h45 := bt_d (bf_n _h45)
            refine W_skip ?_
            refine thn_nrm (_hK_25 _ _ ?_)
            clear _hK_25
            refine W_region ?_
            refine WL_step rfl rfl (r_move rfl) ?_
            refine WL_step rfl rfl (r_add (by omega) rfl rfl) ?_
            refine WL_step rfl rfl (r_assign rfl) ?_
            refine WL_nil ?_
            refine inB_nrm ?_
            refine thn_nrm (_hK_8 _ _ ?_)
            clear _hK_8
            refine W_region ?_
            refine WL_step rfl rfl (r_move rfl) ?_
            refine WL_step rfl rfl (r_add (by omega) rfl rfl) ?_
            refine WL_step rfl rfl (r_assign rfl) ?_
            refine WL_nil ?_
            exact thn_nrm (Exists.intro ((i + 1), ((((kk + 1) + 1) + 1) + 1)) ⟨⟨E, (by omega), (by omega), (by omega), (heldGEdge_step _ht hq _hy14 _h18 _hy23 _h27 _hy32 _h36 _hy41 _h45)⟩, Sub.cons rfl (Sub.cons rfl (Sub.cons rfl (Sub.nil _))), (by first | omega | (dsimp only; omega))⟩)
  · have _kb_7 := _h9
    have _h9 := bf_d _h9
    refine W_exit (thn_exit (thn_exit (inB_hit ?_)))
    refine thn_nrm (_hK_2 _ _ ?_)
    clear _hK_2
    refine W_seq fun _K_29 _hK_29 => ?_
    refine W_region ?_
    refine WL_step rfl rfl (r_move rfl) ?_
    refine WL_step rfl rfl (r_assign rfl) ?_
    refine WL_nil ?_
    refine thn_nrm (_hK_29 _ _ ?_)
    clear _hK_29
    refine W_ret ?_
    clear _hK_5
    exact ret_intro [_] ⟨rfl, trivial⟩ ⟨congrArg (Value.int .i64) (by rw [if_pos (heldGEdge_all _ht (by omega) (by omega))]; omega), E⟩

/-- laws.heldIntS -/
theorem c_laws_heldIntS {w : World} {LL_a _B_a : Nat} {_v_a : Value} {a : List Int} (_h_a : Ls ics 1 w LL_a _B_a _v_a a) (k : Int) (_hk0 : 0 ≤ k) (hkk : k + a.length ≤ 4611686018427387904) :
    Ctr Try.prog 95 #[_v_a, (.int .i64 k)] w (fun v w' => v = .int .i64 (if a = mkInt k a.length then k + a.length else -1) ∧ Ch [] w w') := by
  obtain ⟨_A_a, _C_a, _e1_a⟩ := _h_a.val
  subst _e1_a
  have _l_a := _h_a.len
  have _h_a := _h_a.here (by decide)
  have E := Ch.refl [] w
  refine Ctr_of_W (N := 21) (vs0 := [(.slice _A_a a.length _C_a), (.int .i64 k)]) Try.func95 rfl rfl rfl ?_
  refine W_seq fun _K_1 _hK_1 => ?_
  refine W_region ?_
  refine WL_step rfl rfl (r_assign rfl) ?_
  refine WL_nil ?_
  refine thn_nrm (_hK_1 _ _ ?_)
  clear _hK_1
  refine W_seq fun _K_2 _hK_2 => ?_
  refine W_seq fun _K_3 _hK_3 => ?_
  refine W_region ?_
  refine WL_step rfl rfl (r_assign rfl) ?_
  refine WL_nil ?_
  refine thn_nrm (_hK_3 _ _ ?_)
  clear _hK_3
  refine W_block ?_
  refine W_loop (σ := Nat × Int) (fun ⟨i, kk⟩ => [(0, (.slice _A_a a.length _C_a)), (1, (.int .i64 kk)), (5, (.int .i64 ((i : Nat) : Int)))]) (fun ⟨i, kk⟩ wx => Ch [] w wx ∧ w.heap.size ≤ wx.heap.size ∧ (i ≤ a.length) ∧ (kk = k + i) ∧ (a.take i = mkInt k i)) (fun ⟨i, kk⟩ => a.length - i) (0, k) (Sub.cons rfl (Sub.cons rfl (Sub.cons rfl (Sub.nil _)))) ⟨E, (Nat.le_refl _), (by omega), (by omega), rfl⟩ ?_
  rintro ⟨i, kk⟩ _wr_4 ⟨E, _zz0, hi, hq, _ht⟩
  have _E0h := E
  have _E0hz := _E0h.size
  refine W_seq fun _K_5 _hK_5 => ?_
  refine W_seq fun _K_6 _hK_6 => ?_
  refine W_region ?_
  refine WL_step rfl rfl (r_move rfl) ?_
  refine WL_step rfl rfl (r_move rfl) ?_
  refine WL_step rfl rfl (r_len (by rw [el33]; rfl) rfl) ?_
  refine WL_step rfl rfl (r_lss rfl rfl) ?_
  refine WL_nil ?_
  refine thn_nrm (_hK_6 _ _ ?_)
  clear _hK_6
  refine W_cond rfl (fun _h9 => ?_) (fun _h9 => ?_)
  · have _kb_7 := _h9
    have _h9 := bt_d _h9
    refine W_skip ?_
    refine thn_nrm (_hK_5 _ _ ?_)
    clear _hK_5
    refine W_seq fun _K_8 _hK_8 => ?_
    refine W_block ?_
    refine W_seq fun _K_9 _hK_9 => ?_
    refine W_seq fun _K_10 _hK_10 => ?_
    refine W_region ?_
    refine WL_step rfl rfl (r_move rfl) ?_
    refine WL_step rfl rfl (r_move rfl) ?_
    refine WL_s rfl rfl ?_
    have _f_11 := (_h_a.ch0 _E0h)
    refine (s_index _f_11 ics_len el33 sz3 rfl rfl rfl (by omega) fun _p14 _y14 _hy14 _a14 => ?_)
    refine WL_step rfl rfl (r_loadAt0 _a14 agg3 rfl rfl) ?_
    refine WL_step rfl rfl (r_move rfl) ?_
    refine WL_step rfl rfl (r_neq rfl rfl) ?_
    refine WL_nil ?_
    refine thn_nrm (_hK_10 _ _ ?_)
    clear _hK_10
    refine W_cond rfl (fun _h17 => ?_) (fun _h17 => ?_)
    · have _kb_12 := _h17
      have _h17 := bf_d (bt_n _h17)
      refine W_seq fun _K_13 _hK_13 => ?_
      refine W_region ?_
      refine WL_step rfl rfl (r_assign rfl) ?_
      refine WL_nil ?_
      refine thn_nrm (_hK_13 _ _ ?_)
      clear _hK_13
      refine W_ret (thn_ret (inB_ret (thn_ret (thn_ret (inB_ret (thn_ret ?_))))))
      clear _hK_2 _hK_8 _hK_9
      exact ret_intro [_] ⟨rfl, trivial⟩ ⟨congrArg (Value.int .i64) (if_neg (fun e => _h17 (by have _e2 := (heldInt_get e _hy14); omega))).symm, E⟩
    · have _kb_12 := _h17
      have _h17 := bt_d (bf_n _h17)
      refine W_skip ?_
      refine thn_nrm (_hK_9 _ _ ?_)
      clear _hK_9
      refine W_region ?_
      refine WL_step rfl rfl (r_move rfl) ?_
      refine WL_step rfl rfl (r_add (by omega) rfl rfl) ?_
      refine WL_step rfl rfl (r_assign rfl) ?_
      refine WL_nil ?_
      refine inB_nrm ?_
      refine thn_nrm (_hK_8 _ _ ?_)
      clear _hK_8
      refine W_region ?_
      refine WL_step rfl rfl (r_move rfl) ?_
      refine WL_step rfl rfl (r_add (by omega) rfl rfl) ?_
      refine WL_step rfl rfl (r_assign rfl) ?_
      refine WL_nil ?_
      exact thn_nrm (Exists.intro ((i + 1), (kk + 1)) ⟨⟨E, (by omega), (by omega), (by omega), (heldInt_step _ht hq _hy14 _h17)⟩, Sub.cons rfl (Sub.cons rfl (Sub.cons rfl (Sub.nil _))), (by first | omega | (dsimp only; omega))⟩)
  · have _kb_7 := _h9
    have _h9 := bf_d _h9
    refine W_exit (thn_exit (thn_exit (inB_hit ?_)))
    refine thn_nrm (_hK_2 _ _ ?_)
    clear _hK_2
    refine W_seq fun _K_14 _hK_14 => ?_
    refine W_region ?_
    refine WL_step rfl rfl (r_move rfl) ?_
    refine WL_step rfl rfl (r_assign rfl) ?_
    refine WL_nil ?_
    refine thn_nrm (_hK_14 _ _ ?_)
    clear _hK_14
    refine W_ret ?_
    clear _hK_5
    exact ret_intro [_] ⟨rfl, trivial⟩ ⟨congrArg (Value.int .i64) (by rw [if_pos (heldInt_all _ht (by omega) (by omega))]; omega), E⟩

/-- laws.heldGraphS -/
theorem c_laws_heldGraphS {w : World} {LL_sa _B_sa : Nat} {_v_sa : Value} {sa : List Gv} (_h_sa : Ls Gv.cs 2 w LL_sa _B_sa _v_sa sa) {LR_a BB_a : Nat} {a : List GD} (_rd_a : RdG w LR_a BB_a sa a) (k : Int) (_hk0 : 0 ≤ k) (hkk : k + 4 * gsize a ≤ 4611686018427387904) :
    Ctr Try.prog 82 #[_v_sa, (.int .i64 k)] w (fun v w' => v = .int .i64 (heldGR k a) ∧ Ch [] w w') := by
  obtain ⟨_A_sa, _C_sa, _e1_sa⟩ := _h_sa.val
  subst _e1_sa
  have _l_sa := _h_sa.len
  have _h_sa := _h_sa.here (by decide)
  have _rd_a := _rd_a.here
  have _rl_a := _rd_a.1
  have E := Ch.refl [] w
  refine Ctr_of_W (N := 31) (vs0 := [(.slice _A_sa sa.length _C_sa), (.int .i64 k)]) Try.func82 rfl rfl rfl ?_
  refine W_seq fun _K_1 _hK_1 => ?_
  refine W_region ?_
  refine WL_step rfl rfl (r_assign rfl) ?_
  refine WL_nil ?_
  refine thn_nrm (_hK_1 _ _ ?_)
  clear _hK_1
  refine W_seq fun _K_2 _hK_2 => ?_
  refine W_seq fun _K_3 _hK_3 => ?_
  refine W_region ?_
  refine WL_step rfl rfl (r_assign rfl) ?_
  refine WL_nil ?_
  refine thn_nrm (_hK_3 _ _ ?_)
  clear _hK_3
  refine W_block ?_
  refine W_loop (σ := Nat × Int) (fun ⟨i, kk⟩ => [(0, (.slice _A_sa sa.length _C_sa)), (1, (.int .i64 kk)), (5, (.int .i64 ((i : Nat) : Int)))]) (fun ⟨i, kk⟩ wx => Ch [] w wx ∧ w.heap.size ≤ wx.heap.size ∧ (i ≤ a.length) ∧ (kk = k + gmark (a.take i)) ∧ (a.take i = mkGS k (a.take i))) (fun ⟨i, kk⟩ => a.length - i) (0, k) (Sub.cons rfl (Sub.cons rfl (Sub.cons rfl (Sub.nil _)))) ⟨E, (Nat.le_refl _), (by omega), (by simp [gmark]), (by simp [mkGS])⟩ ?_
  rintro ⟨i, kk⟩ _wr_4 ⟨E, _zz0, hi, hq, _ht⟩
  have _E0h := E
  have _E0hz := _E0h.size
  refine W_seq fun _K_5 _hK_5 => ?_
  refine W_seq fun _K_6 _hK_6 => ?_
  refine W_region ?_
  refine WL_step rfl rfl (r_move rfl) ?_
  refine WL_step rfl rfl (r_move rfl) ?_
  refine WL_step rfl rfl (r_len (by rw [el27]; rfl) rfl) ?_
  refine WL_step rfl rfl (r_lss rfl rfl) ?_
  refine WL_nil ?_
  refine thn_nrm (_hK_6 _ _ ?_)
  clear _hK_6
  refine W_cond rfl (fun _h9 => ?_) (fun _h9 => ?_)
  · have _kb_7 := _h9
    have _h9 := bt_d _h9
    refine W_skip ?_
    refine thn_nrm (_hK_5 _ _ ?_)
    clear _hK_5
    refine W_seq fun _K_8 _hK_8 => ?_
    refine W_block ?_
    refine W_seq fun _K_9 _hK_9 => ?_
    refine W_region ?_
    refine WL_step rfl rfl (r_move rfl) ?_
    refine WL_step rfl rfl (r_move rfl) ?_
    refine WL_s rfl rfl ?_
    have _f_10 := (_h_sa.ch0 _E0h)
    refine (s_index _f_10 Gv.len el27 sz42 rfl rfl rfl (by omega) fun _p14 _y14 _hy14 _a14 => ?_)
    have _f_11 := (_rd_a.ch0 _E0h)
    obtain ⟨_ys14, _hys14, _fs14, fe14⟩ := _f_11.get _hy14
    obtain ⟨⟨_A14, _n14, _C14⟩, ⟨Ae14, ne14, Ce14⟩⟩ := _y14
    obtain rfl := _fs14.eqn
    obtain rfl := fe14.eqn
    have _l14 := _fs14.len
    have le14 := fe14.len
    replace _fs14 : Ls ics 1 _wr_4 LR_a w.heap.size (.slice _A14 _ys14.V.length _C14) _ys14.V := _fs14
    replace fe14 : Ls GEdge.cs 4 _wr_4 LR_a w.heap.size (.slice Ae14 _ys14.E.length Ce14) _ys14.E := fe14
    have fl9 := gmark_take _hys14
    have gl9 := gmark_le _hys14
    refine WL_step rfl rfl (r_fieldAddr fa42_0 rfl) ?_
    refine WL_step rfl rfl (r_loadAt _a14 agg33 rfl rfl) ?_
    refine WL_step rfl rfl (r_move rfl) ?_
    refine WL_s rfl rfl ?_
    refine Step.call (r_call (xs := [.tmp 16, .tmp 17]) fk95 rfl) (c_laws_heldIntS _fs14 _ (by omega) (by first | omega | (simp <;> omega))) fun _v18 _w_12 _q18 => ?_
    obtain ⟨rfl, _cw_12⟩ := _q18
    have _cw_12z := _cw_12.size
    have E := E.trans _cw_12
    refine WL_step rfl rfl (r_assign rfl) ?_
    refine WL_nil ?_
    refine thn_nrm (_hK_9 _ _ ?_)
    clear _hK_9
    refine W_seq fun _K_13 _hK_13 => ?_
    refine W_seq fun _K_14 _hK_14 => ?_
    refine W_region ?_
    refine WL_step rfl rfl (r_move rfl) ?_
    refine WL_step rfl rfl (r_lss rfl rfl) ?_
    refine WL_nil ?_
    refine thn_nrm (_hK_14 _ _ ?_)
    clear _hK_14
    refine W_cond rfl (fun _h20 => ?_) (fun _h20 => ?_)
    · have _kb_15 := _h20
      have _h20 := bt_d _h20
      first | have _v20 := held_pos _h20 | skip
      refine W_seq fun _K_16 _hK_16 => ?_
      refine W_region ?_
      refine WL_step rfl rfl (r_assign rfl) ?_
      refine WL_nil ?_
      refine thn_nrm (_hK_16 _ _ ?_)
      clear _hK_16
      refine W_ret (thn_ret (inB_ret (thn_ret (thn_ret (inB_ret (thn_ret ?_))))))
      clear _hK_2 _hK_8 _hK_13
      exact ret_intro [_] ⟨rfl, trivial⟩ ⟨congrArg (Value.int .i64) (by first | exact heldGR_n (held_bad _hys14 hq (fun c => held_neg _h20 (by omega) c.1)) | exact heldGR_n (held_bad _hys14 hq (fun c => held_neg _h29 (by rw [_v20.2]; omega) (by rw [_v20.2, ← _u23]; exact c.2))) | exact heldGR_y _ht hq (by omega)), E⟩
    · have _kb_15 := _h20
      have _h20 := bf_d _h20
      first | have _v20 := held_pos _h20 | skip
      refine W_skip ?_
      refine thn_nrm (_hK_13 _ _ ?_)
      clear _hK_13
      refine W_seq fun _K_17 _hK_17 => ?_
      refine W_region ?_
      refine WL_step rfl rfl (r_move rfl) ?_
      refine WL_step rfl rfl (r_move rfl) ?_
      refine WL_s rfl rfl ?_
      have _f_18 := (_f_10.ch0 _cw_12)
      refine (s_index _f_18 Gv.len el27 sz42 rfl rfl rfl (by omega) fun _p23 _y23 _hy23 _a23 => ?_)
      have _f_19 := (_f_11.ch0 _cw_12)
      obtain ⟨_ys23, _hys23, _fs23, fe23⟩ := _f_19.get _hy23
      obtain ⟨⟨_A23, _n23, _C23⟩, ⟨Ae23, ne23, Ce23⟩⟩ := _y23
      obtain rfl := _fs23.eqn
      obtain rfl := fe23.eqn
      have _l23 := _fs23.len
      have le23 := fe23.len
      replace _fs23 : Ls ics 1 _w_12 LR_a w.heap.size (.slice _A23 _ys23.V.length _C23) _ys23.V := _fs23
      replace fe23 : Ls GEdge.cs 4 _w_12 LR_a w.heap.size (.slice Ae23 _ys23.E.length Ce23) _ys23.E := fe23
      have _u23 := get_uniq _hys14 _hys23
      have w23 : _ys14.E.length = _ys23.E.length := by rw [_u23]
      refine WL_step rfl rfl (r_fieldAddr fa42_1 rfl) ?_
      refine WL_step rfl rfl (r_loadAt _a23 agg40 rfl rfl) ?_
      refine WL_step rfl rfl (r_move rfl) ?_
      refine WL_s rfl rfl ?_
      refine Step.call (r_call (xs := [.tmp 25, .tmp 26]) fk96 rfl) (c_laws_heldEdgeS fe23 _ (by omega) (by first | omega | (simp <;> omega))) fun _v27 _w_20 _q27 => ?_
      obtain ⟨rfl, _cw_20⟩ := _q27
      have _cw_20z := _cw_20.size
      have E := E.trans _cw_20
      refine WL_step rfl rfl (r_assign rfl) ?_
      refine WL_nil ?_
      refine thn_nrm (_hK_17 _ _ ?_)
      clear _hK_17
      refine W_seq fun _K_21 _hK_21 => ?_
      refine W_region ?_
      refine WL_step rfl rfl (r_move rfl) ?_
      refine WL_step rfl rfl (r_lss rfl rfl) ?_
      refine WL_nil ?_
      refine thn_nrm (_hK_21 _ _ ?_)
      clear _hK_21
      refine W_cond rfl (fun _h29 => ?_) (fun _h29 => ?_)
      · have _kb_22 := _h29
        have _h29 := bt_d _h29
        first | have _v29 := held_pos _h29 | skip
        refine W_seq fun _K_23 _hK_23 => ?_
        refine W_region ?_
        refine WL_step rfl rfl (r_assign rfl) ?_
        refine WL_nil ?_
        refine thn_nrm (_hK_23 _ _ ?_)
        clear _hK_23
        refine W_ret (inB_ret (thn_ret (thn_ret (inB_ret (thn_ret ?_)))))
        clear _hK_2 _hK_8
        exact ret_intro [_] ⟨rfl, trivial⟩ ⟨congrArg (Value.int .i64) (by first | exact heldGR_n (held_bad _hys14 hq (fun c => held_neg _h20 (by omega) c.1)) | exact heldGR_n (held_bad _hys14 hq (fun c => held_neg _h29 (by rw [_v20.2]; omega) (by rw [_v20.2, ← _u23]; exact c.2))) | exact heldGR_y _ht hq (by omega)), E⟩
      · have _kb_22 := _h29
        have _h29 := bf_d _h29
        first | have _v29 := held_pos _h29 | skip
        refine W_skip ?_
        refine inB_nrm ?_
        refine thn_nrm (_hK_8 _ _ ?_)
        clear _hK_8
        refine W_region ?_
        refine WL_step rfl rfl (r_move rfl) ?_
        refine WL_step rfl rfl (r_add (by omega) rfl rfl) ?_
        refine WL_step rfl rfl (r_assign rfl) ?_
        refine WL_nil ?_
        exact thn_nrm (Exists.intro ((i + 1), (if _ys23.E = mkGEdge (if _ys14.V = mkInt kk _ys14.V.length then kk + _ys14.V.length else -1) _ys23.E.length then (if _ys14.V = mkInt kk _ys14.V.length then kk + _ys14.V.length else -1) + 4 * _ys23.E.length else -1)) ⟨⟨E, (by omega), (by omega), (by rw [_v29.2, _v20.2]; omega), (held_gs _ht _hys14 hq _v20.1 (by have _z9 := _v29.1; rw [_v20.2, ← _u23] at _z9; exact _z9))⟩, Sub.cons rfl (Sub.cons rfl (Sub.cons rfl (Sub.nil _))), (by first | omega | (dsimp only; omega))⟩)
  · have _kb_7 := _h9
    have _h9 := bf_d _h9
    refine W_exit (thn_exit (thn_exit (inB_hit ?_)))
    refine thn_nrm (_hK_2 _ _ ?_)
    clear _hK_2
    refine W_seq fun _K_24 _hK_24 => ?_
    refine W_region ?_
    refine WL_step rfl rfl (r_move rfl) ?_
    refine WL_step rfl rfl (r_assign rfl) ?_
    refine WL_nil ?_
    refine thn_nrm (_hK_24 _ _ ?_)
    clear _hK_24
    refine W_ret ?_
    clear _hK_5
    exact ret_intro [_] ⟨rfl, trivial⟩ ⟨congrArg (Value.int .i64) (by first | exact heldGR_n (held_bad _hys14 hq (fun c => held_neg _h20 (by omega) c.1)) | exact heldGR_n (held_bad _hys14 hq (fun c => held_neg _h29 (by rw [_v20.2]; omega) (by rw [_v20.2, ← _u23]; exact c.2))) | exact heldGR_y _ht hq (by omega)), E⟩

/-- laws.heldHistory -/
theorem c_laws_heldHistory {w : World} (aF : Int) {LL_saG _B_saG : Nat} {_v_saG : Value} {saG : List Gv} (_h_saG : Ls Gv.cs 2 w LL_saG _B_saG _v_saG saG) {LR_aG BB_aG : Nat} {aG : List GD} (_rd_aG : RdG w LR_aG BB_aG saG aG) (k : Int) (_hk0 : 0 ≤ k) (hkk : k + 4 * gsize aG ≤ 4611686018427387904) :
    Ctr Try.prog 25 #[(.agg #[(.int .i64 aF), _v_saG]), (.int .i64 k)] w (fun v w' => v = .int .i64 (heldGR k aG) ∧ Ch [] w w') := by
  obtain ⟨_A_saG, _C_saG, _e1_saG⟩ := _h_saG.val
  subst _e1_saG
  have _l_saG := _h_saG.len
  have _h_saG := _h_saG.here (by decide)
  have _rd_aG := _rd_aG.here
  have _rl_aG := _rd_aG.1
  have E := Ch.refl [] w
  refine Ctr_of_W (N := 12) (vs0 := [(.agg #[(.int .i64 aF), (.slice _A_saG saG.length _C_saG)]), (.int .i64 k)]) Try.func25 rfl rfl rfl ?_
  refine W_seq fun _K_1 _hK_1 => ?_
  refine W_region ?_
  refine WL_s rfl rfl ?_
  refine s_box rfl fun _b2 _w_2 _m2 _cw_2 _e2 => ?_
  have _cw_2z := _cw_2.size
  have E := E.trans _cw_2
  have _z2 := _m2.lt
  replace _m2 : Blk _w_2 _b2 29 [(.int .i64 aF), (.slice _A_saG saG.length _C_saG)] := _m2
  refine WL_step rfl rfl (r_assign rfl) ?_
  refine WL_nil ?_
  refine thn_nrm (_hK_1 _ _ ?_)
  clear _hK_1
  refine W_seq fun _K_3 _hK_3 => ?_
  refine W_region ?_
  refine WL_step rfl rfl (r_fieldAddr fa29_1 rfl) ?_
  refine WL_step rfl rfl (r_loadAt _m2.at_ agg27 rfl rfl) ?_
  refine WL_step rfl rfl (r_move rfl) ?_
  refine WL_s rfl rfl ?_
  have _f_4 := (_h_saG.ch0 _cw_2)
  have _f_5 := (_rd_aG.ch0 _cw_2)
  refine Step.call (r_call (xs := [.tmp 6, .tmp 7]) fk82 rfl) (c_laws_heldGraphS _f_4 _f_5 _ (by omega) (by first | omega | (simp <;> omega))) fun _v8 _w_6 _q8 => ?_
  obtain ⟨rfl, _cw_6⟩ := _q8
  have _cw_6z := _cw_6.size
  have E := E.trans _cw_6
  refine WL_step rfl rfl (r_assign rfl) ?_
  refine WL_nil ?_
  refine thn_nrm (_hK_3 _ _ ?_)
  clear _hK_3
  refine W_seq fun _K_7 _hK_7 => ?_
  refine W_seq fun _K_8 _hK_8 => ?_
  refine W_region ?_
  refine WL_step rfl rfl (r_move rfl) ?_
  refine WL_step rfl rfl (r_lss rfl rfl) ?_
  refine WL_nil ?_
  refine thn_nrm (_hK_8 _ _ ?_)
  clear _hK_8
  refine W_cond rfl (fun _h10 => ?_) (fun _h10 => ?_)
  · have _kb_9 := _h10
    have _h10 := bt_d _h10
    refine W_seq fun _K_10 _hK_10 => ?_
    refine W_region ?_
    refine WL_step rfl rfl (r_assign rfl) ?_
    refine WL_nil ?_
    refine thn_nrm (_hK_10 _ _ ?_)
    clear _hK_10
    refine W_ret (thn_ret ?_)
    clear _hK_7
    exact ret_intro [_] ⟨rfl, trivial⟩ ⟨congrArg (Value.int .i64) (by first | rfl | exact heldGR_neg (by omega) (by omega)), E⟩
  · have _kb_9 := _h10
    have _h10 := bf_d _h10
    refine W_skip ?_
    refine thn_nrm (_hK_7 _ _ ?_)
    clear _hK_7
    refine W_seq fun _K_11 _hK_11 => ?_
    refine W_region ?_
    refine WL_step rfl rfl (r_move rfl) ?_
    refine WL_step rfl rfl (r_assign rfl) ?_
    refine WL_nil ?_
    refine thn_nrm (_hK_11 _ _ ?_)
    clear _hK_11
    refine W_ret ?_
    exact ret_intro [_] ⟨rfl, trivial⟩ ⟨congrArg (Value.int .i64) (by first | rfl | exact heldGR_neg (by omega) (by omega)), E⟩

/-- laws.markEdgeS -/
theorem c_laws_markEdgeS {w : World} {e_a : Nat} {_v_a : Value} {a : List GEdge} (_h_a : Ol GEdge.cs e_a 4 w _v_a a) (k : Int) (_hk0 : 0 ≤ k) (hkk : k + 4 * a.length ≤ 4611686018427387904) :
    Ctr Try.prog 80 #[_v_a, (.int .i64 k)] w (fun v w' => v = .int .i64 (k + 4 * a.length) ∧ Ol GEdge.cs e_a 4 w' _v_a (mkGEdge k a.length) ∧ Ch (bl _v_a) w w') := by
  obtain ⟨_A_a, _C_a, _e1_a⟩ := _h_a.val
  subst _e1_a
  have _l_a := _h_a.len
  have _lt_a := _h_a.lt
  have E := Ch.refl (bl (.slice _A_a a.length _C_a)) w
  refine Ctr_of_W (N := 41) (vs0 := [(.slice _A_a a.length _C_a), (.int .i64 k)]) Try.func80 rfl rfl rfl ?_
  refine W_seq fun _K_1 _hK_1 => ?_
  refine W_region ?_
  refine WL_step rfl rfl (r_assign rfl) ?_
  refine WL_nil ?_
  refine thn_nrm (_hK_1 _ _ ?_)
  clear _hK_1
  refine W_seq fun _K_2 _hK_2 => ?_
  refine W_seq fun _K_3 _hK_3 => ?_
  refine W_region ?_
  refine WL_step rfl rfl (r_assign rfl) ?_
  refine WL_nil ?_
  refine thn_nrm (_hK_3 _ _ ?_)
  clear _hK_3
  refine W_block ?_
  have _oi_4 : Ol GEdge.cs e_a 4 w (.slice _A_a a.length _C_a) (mkGEdge k 0 ++ a.drop 0) := by
    have hx := _h_a
    simpa [mkGEdge] using hx
  refine W_loop (σ := Nat × Int) (fun ⟨i, kk⟩ => [(0, (.slice _A_a a.length _C_a)), (1, (.int .i64 kk)), (4, (.int .i64 0)), (5, (.int .i64 ((i : Nat) : Int)))]) (fun ⟨i, kk⟩ wx => Ch (bl (.slice _A_a a.length _C_a)) w wx ∧ w.heap.size ≤ wx.heap.size ∧ (i ≤ a.length) ∧ (kk = k + 4 * i) ∧ Ol GEdge.cs e_a 4 wx (.slice _A_a a.length _C_a) (mkGEdge k i ++ a.drop i)) (fun ⟨i, kk⟩ => a.length - i) (0, k) (Sub.cons rfl (Sub.cons rfl (Sub.cons rfl (Sub.cons rfl (Sub.nil _))))) ⟨E, (Nat.le_refl _), (by omega), (by omega), _oi_4⟩ ?_
  rintro ⟨i, kk⟩ _wr_5 ⟨E, _zz0, hi, hq, _o0_0⟩
  have _E0h := E
  have _E0hz := _E0h.size
  refine W_seq fun _K_6 _hK_6 => ?_
  refine W_seq fun _K_7 _hK_7 => ?_
  refine W_region ?_
  refine WL_step rfl rfl (r_move rfl) ?_
  refine WL_step rfl rfl (r_move rfl) ?_
  refine WL_step rfl rfl (r_len (by rw [el40]; rfl) rfl) ?_
  refine WL_step rfl rfl (r_lss rfl rfl) ?_
  refine WL_nil ?_
  refine thn_nrm (_hK_7 _ _ ?_)
  clear _hK_7
  refine W_cond rfl (fun _h9 => ?_) (fun _h9 => ?_)
  · have _kb_8 := _h9
    have _h9 := bt_d _h9
    refine W_skip ?_
    refine thn_nrm (_hK_6 _ _ ?_)
    clear _hK_6
    refine W_seq fun _K_9 _hK_9 => ?_
    refine W_block ?_
    refine W_seq fun _K_10 _hK_10 => ?_
    refine W_region ?_
    refine WL_step rfl rfl (r_move rfl) ?_
    refine WL_step rfl rfl (r_move rfl) ?_
    refine WL_step rfl rfl (r_move rfl) ?_
    refine WL_s rfl rfl ?_
    refine s_indexO (j := i) _o0_0 el40 sz164 rfl rfl rfl (by first | omega | (simp [mkGEdge] <;> omega)) fun _g15 _o15 _cp15 _q15 => ?_
    refine WL_step rfl rfl (r_fieldAddr fa164_0 rfl) ?_
    refine WL_s rfl rfl ?_
    obtain ⟨ye_13, hy_14⟩ := get_some (xs := mkGEdge k i ++ a.drop i) (j := i) (by first | omega | (simp [mkGEdge] <;> omega))
    refine s_storeF (j := i) 0 (⟨ye_13.id, ye_13.f, ye_13.t, ye_13.label⟩ : GEdge) (⟨kk, ye_13.f, ye_13.t, ye_13.label⟩ : GEdge) _o0_0 _q15 hy_14 GEdge.len rfl sz3 rfl rfl rfl rfl fun _w_11 _o_12 _cw_11 => ?_
    have _cw_11z := _cw_11.size
    have E := E.trans _cw_11
    refine WL_nil ?_
    refine thn_nrm (_hK_10 _ _ ?_)
    clear _hK_10
    refine W_seq fun _K_15 _hK_15 => ?_
    refine W_region ?_
    refine WL_step rfl rfl (r_move rfl) ?_
    refine WL_step rfl rfl (r_add (by omega) rfl rfl) ?_
    refine WL_step rfl rfl (r_assign rfl) ?_
    refine WL_nil ?_
    refine thn_nrm (_hK_15 _ _ ?_)
    clear _hK_15
    refine W_seq fun _K_16 _hK_16 => ?_
    refine W_region ?_
    refine WL_step rfl rfl (r_move rfl) ?_
    refine WL_step rfl rfl (r_move rfl) ?_
    refine WL_step rfl rfl (r_move rfl) ?_
    refine WL_s rfl rfl ?_
    refine s_indexO (j := i) _o_12 el40 sz164 rfl rfl rfl (by first | omega | (simp [mkGEdge] <;> omega)) fun _g22 _o22 _cp22 _q22 => ?_
    refine WL_step rfl rfl (r_fieldAddr fa164_1 rfl) ?_
    refine WL_s rfl rfl ?_
    refine s_storeF (j := i) 1 (⟨kk, ye_13.f, ye_13.t, ye_13.label⟩ : GEdge) (⟨kk, (kk + 1), ye_13.t, ye_13.label⟩ : GEdge) _o_12 _q22 (get_set hy_14 _) GEdge.len rfl sz3 rfl rfl rfl rfl fun _w_17 _o_18 _cw_17 => ?_
    rw [List.set_set] at _o_18
    have _cw_17z := _cw_17.size
    have E := E.trans _cw_17
    refine WL_nil ?_
    refine thn_nrm (_hK_16 _ _ ?_)
    clear _hK_16
    refine W_seq fun _K_19 _hK_19 => ?_
    refine W_region ?_
    refine WL_step rfl rfl (r_move rfl) ?_
    refine WL_step rfl rfl (r_add (by omega) rfl rfl) ?_
    refine WL_step rfl rfl (r_assign rfl) ?_
    refine WL_nil ?_
    refine thn_nrm (_hK_19 _ _ ?_)
    clear _hK_19
    refine W_seq fun _K_20 _hK_20 => ?_
    refine W_region ?_
    refine WL_step rfl rfl (r_move rfl) ?_
    refine WL_step rfl rfl (r_move rfl) ?_
    refine WL_step rfl rfl (r_move rfl) ?_
    refine WL_s rfl rfl ?_
    refine s_indexO (j := i) _o_18 el40 sz164 rfl rfl rfl (by first | omega | (simp [mkGEdge] <;> omega)) fun _g29 _o29 _cp29 _q29 => ?_
    refine WL_step rfl rfl (r_fieldAddr fa164_2 rfl) ?_
    refine WL_s rfl rfl ?_
    refine s_storeF (j := i) 2 (⟨kk, (kk + 1), ye_13.t, ye_13.label⟩ : GEdge) (⟨kk, (kk + 1), ((kk + 1) + 1), ye_13.label⟩ : GEdge) _o_18 _q29 (get_set hy_14 _) GEdge.len rfl sz3 rfl rfl rfl rfl fun _w_21 _o_22 _cw_21 => ?_
    rw [List.set_set] at _o_22
    have _cw_21z := _cw_21.size
    have E := E.trans _cw_21
    refine WL_nil ?_
    refine thn_nrm (_hK_20 _ _ ?_)
    clear _hK_20
    refine W_seq fun _K_23 _hK_23 => ?_
    refine W_region ?_
    refine WL_step rfl rfl (r_move rfl) ?_
    refine WL_step rfl rfl (r_add (by omega) rfl rfl) ?_
    refine WL_step rfl rfl (r_assign rfl) ?_
    refine WL_nil ?_
    refine thn_nrm (_hK_23 _ _ ?_)
    clear _hK_23
    refine W_seq fun _K_24 _hK_24 => ?_
    refine W_region ?_
    refine WL_step rfl rfl (r_move rfl) ?_
    refine WL_step rfl rfl (r_move rfl) ?_
    refine WL_step rfl rfl (r_move rfl) ?_
    refine WL_s rfl rfl ?_
    refine s_indexO (j := i) _o_22 el40 sz164 rfl rfl rfl (by first | omega | (simp [mkGEdge] <;> omega)) fun _g36 _o36 _cp36 _q36 => ?_
    refine WL_step rfl rfl (r_fieldAddr fa164_3 rfl) ?_
    refine WL_s rfl rfl ?_
    refine s_storeF (j := i) 3 (⟨kk, (kk + 1), ((kk + 1) + 1), ye_13.label⟩ : GEdge) (⟨kk, (kk + 1), ((kk + 1) + 1), (((kk + 1) + 1) + 1)⟩ : GEdge) _o_22 _q36 (get_set hy_14 _) GEdge.len rfl sz3 rfl rfl rfl rfl fun _w_25 _o_26 _cw_25 => ?_
    rw [List.set_set] at _o_26
    have _cw_25z := _cw_25.size
    have E := E.trans _cw_25
    refine WL_nil ?_
    refine thn_nrm (_hK_24 _ _ ?_)
    clear _hK_24
    refine W_region ?_
    refine WL_step rfl rfl (r_move rfl) ?_
    refine WL_step rfl rfl (r_add (by omega) rfl rfl) ?_
    refine WL_step rfl rfl (r_assign rfl) ?_
    refine WL_nil ?_
    refine inB_nrm ?_
    refine thn_nrm (_hK_9 _ _ ?_)
    clear _hK_9
    refine W_region ?_
    refine WL_step rfl rfl (r_move rfl) ?_
    refine WL_step rfl rfl (r_add (by omega) rfl rfl) ?_
    refine WL_step rfl rfl (r_assign rfl) ?_
    refine WL_nil ?_
    have _on_27 : Ol GEdge.cs e_a 4 _w_25 (.slice _A_a a.length _C_a) (mkGEdge k (i + 1) ++ a.drop (i + 1)) := by
      have hx := _o_26
      rwa [mkGEdge_step a (by omega) hq] at hx
    exact thn_nrm (Exists.intro ((i + 1), ((((kk + 1) + 1) + 1) + 1)) ⟨⟨E, (by omega), (by omega), (by omega), _on_27⟩, Sub.cons rfl (Sub.cons rfl (Sub.cons rfl (Sub.cons rfl (Sub.nil _)))), (by first | omega | (dsimp only; omega))⟩)
  · have _kb_8 := _h9
    have _h9 := bf_d _h9
    refine W_exit (thn_exit (thn_exit (inB_hit ?_)))
    refine thn_nrm (_hK_2 _ _ ?_)
    clear _hK_2
    refine W_seq fun _K_28 _hK_28 => ?_
    refine W_region ?_
    refine WL_step rfl rfl (r_move rfl) ?_
    refine WL_step rfl rfl (r_assign rfl) ?_
    refine WL_nil ?_
    refine thn_nrm (_hK_28 _ _ ?_)
    clear _hK_28
    refine W_ret ?_
    clear _hK_6
    have _o_29 : Ol GEdge.cs e_a 4 _wr_5 (.slice _A_a a.length _C_a) (mkGEdge k a.length) := by
      have hx := _o0_0
      have _e1 : i = a.length := (by omega); subst _e1; simpa using hx
    exact ret_intro [_] ⟨rfl, trivial⟩ ⟨congrArg (Value.int .i64) (by omega), _o_29, E⟩

/-- laws.markIntS -/
theorem c_laws_markIntS {w : World} {e_a : Nat} {_v_a : Value} {a : List Int} (_h_a : Ol ics e_a 1 w _v_a a) (k : Int) (_hk0 : 0 ≤ k) (hkk : k + a.length ≤ 4611686018427387904) :
    Ctr Try.prog 79 #[_v_a, (.int .i64 k)] w (fun v w' => v = .int .i64 (k + a.length) ∧ Ol ics e_a 1 w' _v_a (mkInt k a.length) ∧ Ch (bl _v_a) w w') := by
  obtain ⟨_A_a, _C_a, _e1_a⟩ := _h_a.val
  subst _e1_a
  have _l_a := _h_a.len
  have _lt_a := _h_a.lt
  have E := Ch.refl (bl (.slice _A_a a.length _C_a)) w
  refine Ctr_of_W (N := 19) (vs0 := [(.slice _A_a a.length _C_a), (.int .i64 k)]) Try.func79 rfl rfl rfl ?_
  refine W_seq fun _K_1 _hK_1 => ?_
  refine W_region ?_
  refine WL_step rfl rfl (r_assign rfl) ?_
  refine WL_nil ?_
  refine thn_nrm (_hK_1 _ _ ?_)
  clear _hK_1
  refine W_seq fun _K_2 _hK_2 => ?_
  refine W_seq fun _K_3 _hK_3 => ?_
  refine W_region ?_
  refine WL_step rfl rfl (r_assign rfl) ?_
  refine WL_nil ?_
  refine thn_nrm (_hK_3 _ _ ?_)
  clear _hK_3
  refine W_block ?_
  have _oi_4 : Ol ics e_a 1 w (.slice _A_a a.length _C_a) (mkInt k 0 ++ a.drop 0) := by
    have hx := _h_a
    simpa [mkInt] using hx
  refine W_loop (σ := Nat × Int) (fun ⟨i, kk⟩ => [(0, (.slice _A_a a.length _C_a)), (1, (.int .i64 kk)), (4, (.int .i64 0)), (5, (.int .i64 ((i : Nat) : Int)))]) (fun ⟨i, kk⟩ wx => Ch (bl (.slice _A_a a.length _C_a)) w wx ∧ w.heap.size ≤ wx.heap.size ∧ (i ≤ a.length) ∧ (kk = k + i) ∧ Ol ics e_a 1 wx (.slice _A_a a.length _C_a) (mkInt k i ++ a.drop i)) (fun ⟨i, kk⟩ => a.length - i) (0, k) (Sub.cons rfl (Sub.cons rfl (Sub.cons rfl (Sub.cons rfl (Sub.nil _))))) ⟨E, (Nat.le_refl _), (by omega), (by omega), _oi_4⟩ ?_
  rintro ⟨i, kk⟩ _wr_5 ⟨E, _zz0, hi, hq, _o0_0⟩
  have _E0h := E
  have _E0hz := _E0h.size
  refine W_seq fun _K_6 _hK_6 => ?_
  refine W_seq fun _K_7 _hK_7 => ?_
  refine W_region ?_
  refine WL_step rfl rfl (r_move rfl) ?_
  refine WL_step rfl rfl (r_move rfl) ?_
  refine WL_step rfl rfl (r_len (by rw [el33]; rfl) rfl) ?_
  refine WL_step rfl rfl (r_lss rfl rfl) ?_
  refine WL_nil ?_
  refine thn_nrm (_hK_7 _ _ ?_)
  clear _hK_7
  refine W_cond rfl (fun _h9 => ?_) (fun _h9 => ?_)
  · have _kb_8 := _h9
    have _h9 := bt_d _h9
    refine W_skip ?_
    refine thn_nrm (_hK_6 _ _ ?_)
    clear _hK_6
    refine W_seq fun _K_9 _hK_9 => ?_
    refine W_block ?_
    refine W_seq fun _K_10 _hK_10 => ?_
    refine W_region ?_
    refine WL_step rfl rfl (r_move rfl) ?_
    refine WL_step rfl rfl (r_move rfl) ?_
    refine WL_step rfl rfl (r_move rfl) ?_
    refine WL_s rfl rfl ?_
    refine s_indexO (j := i) _o0_0 el33 sz3 rfl rfl rfl (by first | omega | (simp [mkInt] <;> omega)) fun _g15 _o15 _cp15 _q15 => ?_
    refine WL_s rfl rfl ?_
    refine s_storeO (j := i) kk _o0_0 _q15 ics_len sz3 rfl rfl rfl rfl (by first | omega | (simp [mkInt] <;> omega)) fun _w_11 _o_12 _cw_11 => ?_
    have _cw_11z := _cw_11.size
    have E := E.trans _cw_11
    refine WL_nil ?_
    refine thn_nrm (_hK_10 _ _ ?_)
    clear _hK_10
    refine W_region ?_
    refine WL_step rfl rfl (r_move rfl) ?_
    refine WL_step rfl rfl (r_add (by omega) rfl rfl) ?_
    refine WL_step rfl rfl (r_assign rfl) ?_
    refine WL_nil ?_
    refine inB_nrm ?_
    refine thn_nrm (_hK_9 _ _ ?_)
    clear _hK_9
    refine W_region ?_
    refine WL_step rfl rfl (r_move rfl) ?_
    refine WL_step rfl rfl (r_add (by omega) rfl rfl) ?_
    refine WL_step rfl rfl (r_assign rfl) ?_
    refine WL_nil ?_
    have _on_13 : Ol ics e_a 1 _w_11 (.slice _A_a a.length _C_a) (mkInt k (i + 1) ++ a.drop (i + 1)) := by
      have hx := _o_12
      rwa [mkInt_step a (by omega) hq] at hx
    exact thn_nrm (Exists.intro ((i + 1), (kk + 1)) ⟨⟨E, (by omega), (by omega), (by omega), _on_13⟩, Sub.cons rfl (Sub.cons rfl (Sub.cons rfl (Sub.cons rfl (Sub.nil _)))), (by first | omega | (dsimp only; omega))⟩)
  · have _kb_8 := _h9
    have _h9 := bf_d _h9
    refine W_exit (thn_exit (thn_exit (inB_hit ?_)))
    refine thn_nrm (_hK_2 _ _ ?_)
    clear _hK_2
    refine W_seq fun _K_14 _hK_14 => ?_
    refine W_region ?_
    refine WL_step rfl rfl (r_move rfl) ?_
    refine WL_step rfl rfl (r_assign rfl) ?_
    refine WL_nil ?_
    refine thn_nrm (_hK_14 _ _ ?_)
    clear _hK_14
    refine W_ret ?_
    clear _hK_6
    have _o_15 : Ol ics e_a 1 _wr_5 (.slice _A_a a.length _C_a) (mkInt k a.length) := by
      have hx := _o0_0
      have _e1 : i = a.length := (by omega); subst _e1; simpa using hx
    exact ret_intro [_] ⟨rfl, trivial⟩ ⟨congrArg (Value.int .i64) (by omega), _o_15, E⟩

/-- laws.markGraph -/
theorem c_laws_markGraph {w : World} {e_aV : Nat} {_v_aV : Value} {aV : List Int} (_h_aV : Ol ics e_aV 1 w _v_aV aV) {e_aE : Nat} {_v_aE : Value} {aE : List GEdge} (_h_aE : Ol GEdge.cs e_aE 4 w _v_aE aE) (_dj_a : ∀ g ∈ bl _v_aV, g ∉ bl _v_aE) (k : Int) (_hk0 : 0 ≤ k) (hkk : k + aV.length + 4 * aE.length ≤ 4611686018427387904) :
    Ctr Try.prog 23 #[(.agg #[_v_aV, _v_aE]), (.int .i64 k)] w (fun v w' => v = .int .i64 (k + aV.length + 4 * aE.length) ∧ Ol ics e_aV 1 w' _v_aV (mkInt k aV.length) ∧ Ol GEdge.cs e_aE 4 w' _v_aE (mkGEdge (k + aV.length) aE.length) ∧ Ch (bl _v_aV ++ bl _v_aE) w w') := by
  obtain ⟨_A_aV, _C_aV, _e1_aV⟩ := _h_aV.val
  subst _e1_aV
  have _l_aV := _h_aV.len
  have _lt_aV := _h_aV.lt
  obtain ⟨_A_aE, _C_aE, _e1_aE⟩ := _h_aE.val
  subst _e1_aE
  have _l_aE := _h_aE.len
  have _lt_aE := _h_aE.lt
  have E := Ch.refl (bl (.slice _A_aV aV.length _C_aV) ++ bl (.slice _A_aE aE.length _C_aE)) w
  refine Ctr_of_W (N := 14) (vs0 := [(.agg #[(.slice _A_aV aV.length _C_aV), (.slice _A_aE aE.length _C_aE)]), (.int .i64 k)]) Try.func23 rfl rfl rfl ?_
  refine W_seq fun _K_1 _hK_1 => ?_
  refine W_region ?_
  refine WL_s rfl rfl ?_
  refine s_box rfl fun _b2 _w_2 _m2 _cw_2 _e2 => ?_
  have _cw_2z := _cw_2.size
  have E := E.trans _cw_2.of_nil
  have _z2 := _m2.lt
  replace _m2 : Blk _w_2 _b2 42 [(.slice _A_aV aV.length _C_aV), (.slice _A_aE aE.length _C_aE)] := _m2
  refine WL_step rfl rfl (r_assign rfl) ?_
  refine WL_nil ?_
  refine thn_nrm (_hK_1 _ _ ?_)
  clear _hK_1
  refine W_seq fun _K_3 _hK_3 => ?_
  refine W_region ?_
  refine WL_step rfl rfl (r_fieldAddr fa42_0 rfl) ?_
  refine WL_step rfl rfl (r_loadAt _m2.at_ agg33 rfl rfl) ?_
  refine WL_step rfl rfl (r_move rfl) ?_
  refine WL_s rfl rfl ?_
  have _f_4 := (_h_aV.ch0 _cw_2)
  refine Step.call (r_call (xs := [.tmp 6, .tmp 7]) fk79 rfl) (c_laws_markIntS _f_4 _ (by omega) (by first | omega | (simp <;> omega))) fun _v8 _w_5 _q8 => ?_
  obtain ⟨rfl, _q8, _cw_5⟩ := _q8
  have _cw_5z := _cw_5.size
  have E := E.step _cw_5 (fun i hm => .inr (List.mem_append_left _ hm))
  refine WL_step rfl rfl (r_assign rfl) ?_
  refine WL_nil ?_
  refine thn_nrm (_hK_3 _ _ ?_)
  clear _hK_3
  refine W_seq fun _K_6 _hK_6 => ?_
  refine W_region ?_
  refine WL_step rfl rfl (r_fieldAddr fa42_1 rfl) ?_
  have _f_7 := (_m2.ch _cw_5 (fun hm => by have _h1 := _lt_aV _ hm; have _h2 := _lt_aV _ hm; omega))
  refine WL_step rfl rfl (r_loadAt _f_7.at_ agg40 rfl rfl) ?_
  refine WL_step rfl rfl (r_move rfl) ?_
  refine WL_s rfl rfl ?_
  have _f_8 := ((_h_aE.ch0 _cw_2).ch _cw_5 (fun g hg hm => by exact _dj_a _ hm hg))
  refine Step.call (r_call (xs := [.tmp 10, .tmp 11]) fk80 rfl) (c_laws_markEdgeS _f_8 _ (by omega) (by first | omega | (simp <;> omega))) fun _v12 _w_9 _q12 => ?_
  obtain ⟨rfl, _q12, _cw_9⟩ := _q12
  have _cw_9z := _cw_9.size
  have E := E.step _cw_9 (fun i hm => .inr (List.mem_append_right _ hm))
  refine WL_step rfl rfl (r_assign rfl) ?_
  refine WL_nil ?_
  refine thn_nrm (_hK_6 _ _ ?_)
  clear _hK_6
  refine W_seq fun _K_10 _hK_10 => ?_
  refine W_region ?_
  refine WL_step rfl rfl (r_move rfl) ?_
  refine WL_step rfl rfl (r_assign rfl) ?_
  refine WL_nil ?_
  refine thn_nrm (_hK_10 _ _ ?_)
  clear _hK_10
  refine W_ret ?_
  have _f_12 := (_q8.ch _cw_9 (fun g hg hm => by exact _dj_a _ hg hm))
  have _o_11 : Ol ics e_aV 1 _w_9 (.slice _A_aV aV.length _C_aV) (mkInt k aV.length) := _f_12
  have _o_13 : Ol GEdge.cs e_aE 4 _w_9 (.slice _A_aE aE.length _C_aE) (mkGEdge (k + aV.length) aE.length) := _q12
  exact ret_intro [_] ⟨rfl, trivial⟩ ⟨congrArg (Value.int .i64) rfl, _o_11, _o_13, E⟩

/-- laws.markGraphS -/
theorem c_laws_markGraphS {w : World} {e_sa ea_a eb_a lo9_a hi9_a : Nat} {_v_sa : Value} {sa : List Gv} {a : List GD} (_h_sa : Ol Gv.cs e_sa 2 w _v_sa sa) (_od_a : OdG ea_a eb_a w lo9_a hi9_a sa a) (_ro_a : ∀ g ∈ bl _v_sa, lo9_a ≤ g ∧ g < hi9_a) (_sp_a : SepH _v_sa sa) (_hh_a : hi9_a ≤ w.heap.size) (k : Int) (_hk0 : 0 ≤ k) (hkk : k + 4 * gsize a ≤ 4611686018427387904) :
    Ctr Try.prog 81 #[_v_sa, (.int .i64 k)] w (fun v w' => v = .int .i64 (k + gmark a) ∧ OdG ea_a eb_a w' lo9_a hi9_a sa (mkGS k a) ∧ Ol Gv.cs e_sa 2 w' _v_sa sa ∧ Ch (Rg lo9_a hi9_a) w w') := by
  obtain ⟨_A_sa, _C_sa, _e1_sa⟩ := _h_sa.val
  subst _e1_sa
  have _l_sa := _h_sa.len
  have _lo_sa : Lo lo9_a (.slice _A_sa sa.length _C_sa) := fun g hg => (_ro_a g hg).1
  have hi_sa : ∀ g ∈ bl (.slice _A_sa sa.length _C_sa), g < hi9_a := fun g hg => (_ro_a g hg).2
  have _rl_a := _od_a.1
  have E := Ch.refl (Rg lo9_a hi9_a) w
  refine Ctr_of_W (N := 27) (vs0 := [(.slice _A_sa sa.length _C_sa), (.int .i64 k)]) Try.func81 rfl rfl rfl ?_
  refine W_seq fun _K_1 _hK_1 => ?_
  refine W_region ?_
  refine WL_step rfl rfl (r_assign rfl) ?_
  refine WL_nil ?_
  refine thn_nrm (_hK_1 _ _ ?_)
  clear _hK_1
  refine W_seq fun _K_2 _hK_2 => ?_
  refine W_seq fun _K_3 _hK_3 => ?_
  refine W_region ?_
  refine WL_step rfl rfl (r_assign rfl) ?_
  refine WL_nil ?_
  refine thn_nrm (_hK_3 _ _ ?_)
  clear _hK_3
  refine W_block ?_
  refine W_loop (σ := Nat × Int × List GD) (fun ⟨i, kk, zs⟩ => [(0, (.slice _A_sa sa.length _C_sa)), (1, (.int .i64 kk)), (4, (.int .i64 0)), (5, (.int .i64 ((i : Nat) : Int)))]) (fun ⟨i, kk, zs⟩ wx => Ch (Rg lo9_a hi9_a) w wx ∧ w.heap.size ≤ wx.heap.size ∧ (i ≤ a.length) ∧ (kk = k + gmark (a.take i)) ∧ (zs = mkGS k (a.take i) ++ a.drop i) ∧ Ol Gv.cs e_sa 2 wx (.slice _A_sa sa.length _C_sa) sa ∧ OdG ea_a eb_a wx lo9_a hi9_a sa zs) (fun ⟨i, kk, zs⟩ => a.length - i) (0, k, a) (Sub.cons rfl (Sub.cons rfl (Sub.cons rfl (Sub.cons rfl (Sub.nil _))))) ⟨E, (Nat.le_refl _), (by omega), (by simp [gmark]), (by simp [mkGS]), _h_sa, _od_a⟩ ?_
  rintro ⟨i, kk, zs⟩ _wr_4 ⟨E, _zz0, hi, hq, hz, _F0_0, od⟩
  have _E0h := E
  have _E0hz := _E0h.size
  refine W_seq fun _K_5 _hK_5 => ?_
  refine W_seq fun _K_6 _hK_6 => ?_
  refine W_region ?_
  refine WL_step rfl rfl (r_move rfl) ?_
  refine WL_step rfl rfl (r_move rfl) ?_
  refine WL_step rfl rfl (r_len (by rw [el27]; rfl) rfl) ?_
  refine WL_step rfl rfl (r_lss rfl rfl) ?_
  refine WL_nil ?_
  refine thn_nrm (_hK_6 _ _ ?_)
  clear _hK_6
  refine W_cond rfl (fun _h9 => ?_) (fun _h9 => ?_)
  · have _kb_7 := _h9
    have _h9 := bt_d _h9
    refine W_skip ?_
    refine thn_nrm (_hK_5 _ _ ?_)
    clear _hK_5
    refine W_seq fun _K_8 _hK_8 => ?_
    refine W_block ?_
    refine W_seq fun _K_9 _hK_9 => ?_
    refine W_region ?_
    refine WL_step rfl rfl (r_move rfl) ?_
    refine WL_step rfl rfl (r_move rfl) ?_
    refine WL_s rfl rfl ?_
    refine (s_index _F0_0.ls Gv.len el27 sz42 rfl rfl rfl (by omega) fun _p14 _y14 _hy14 _a14 => ?_)
    have _sm14 := _sp_a _ (mem_of_get _hy14)
    have _hyo14 := _hy14
    obtain ⟨_ys14, _hys14, _fs14, fe14, _rs14, re14, dd14⟩ := od.get _hy14
    obtain ⟨⟨_A14, _n14, _C14⟩, ⟨Ae14, ne14, Ce14⟩⟩ := _y14
    obtain rfl := _fs14.ls.eqn
    obtain rfl := fe14.ls.eqn
    have _l14 := _fs14.len
    have le14 := fe14.len
    have _lo14 : Lo lo9_a (.slice _A14 _ys14.V.length _C14) := fun g hg => (_rs14 g hg).1
    have hi14 : ∀ g ∈ bl (.slice _A14 _ys14.V.length _C14), g < hi9_a := fun g hg => (_rs14 g hg).2
    replace _fs14 : Ol ics ea_a 1 _wr_4 (.slice _A14 _ys14.V.length _C14) _ys14.V := _fs14
    have _lo214 : Lo lo9_a (.slice Ae14 _ys14.E.length Ce14) := fun g hg => (re14 g hg).1
    have hi214 : ∀ g ∈ bl (.slice Ae14 _ys14.E.length Ce14), g < hi9_a := fun g hg => (re14 g hg).2
    replace fe14 : Ol GEdge.cs eb_a 4 _wr_4 (.slice Ae14 _ys14.E.length Ce14) _ys14.E := fe14
    have hz9 := mkGS_at hz hi (Nat.le_refl _) _hys14
    have fl9 := gmark_take hz9
    have gl9 := gmark_le hz9
    refine WL_step rfl rfl (r_fieldAddr fa42_0 rfl) ?_
    refine WL_step rfl rfl (r_loadAt _a14 agg33 rfl rfl) ?_
    refine WL_step rfl rfl (r_move rfl) ?_
    refine WL_s rfl rfl ?_
    refine Step.call (r_call (xs := [.tmp 16, .tmp 17]) fk79 rfl) (c_laws_markIntS _fs14 _ (by omega) (by first | omega | (simp <;> omega))) fun _v18 _w_10 _q18 => ?_
    obtain ⟨rfl, _q18, _cw_10⟩ := _q18
    have _cw_10z := _cw_10.size
    have E := E.step _cw_10 (fun i hm => by have _h1 := _lo14 _ hm; have _h2 := hi14 _ hm; first | (left; omega) | (right; exact rg_mem (by omega)))
    have ov9 := OdG.setV od _hyo14 _hys14 _cw_10 _q18
    refine WL_step rfl rfl (r_assign rfl) ?_
    refine WL_nil ?_
    refine thn_nrm (_hK_9 _ _ ?_)
    clear _hK_9
    refine W_region ?_
    refine WL_step rfl rfl (r_move rfl) ?_
    refine WL_step rfl rfl (r_move rfl) ?_
    refine WL_s rfl rfl ?_
    have _f_11 := (_F0_0.ch _cw_10 (fun g hg hm => by exact _sm14.1 _ hm hg))
    refine (s_index _f_11.ls Gv.len el27 sz42 rfl rfl rfl (by omega) fun _p21 _y21 _hy21 _a21 => ?_)
    have _sm21 := _sp_a _ (mem_of_get _hy21)
    have _hyo21 := _hy21
    obtain ⟨_ys21, _hys21, _fs21, fe21, _rs21, re21, dd21⟩ := ov9.get _hy21
    obtain ⟨⟨_A21, _n21, _C21⟩, ⟨Ae21, ne21, Ce21⟩⟩ := _y21
    obtain rfl := _fs21.ls.eqn
    obtain rfl := fe21.ls.eqn
    have _l21 := _fs21.len
    have le21 := fe21.len
    have _lo21 : Lo lo9_a (.slice _A21 _ys21.V.length _C21) := fun g hg => (_rs21 g hg).1
    have hi21 : ∀ g ∈ bl (.slice _A21 _ys21.V.length _C21), g < hi9_a := fun g hg => (_rs21 g hg).2
    replace _fs21 : Ol ics ea_a 1 _w_10 (.slice _A21 _ys21.V.length _C21) _ys21.V := _fs21
    have _lo221 : Lo lo9_a (.slice Ae21 _ys21.E.length Ce21) := fun g hg => (re21 g hg).1
    have hi221 : ∀ g ∈ bl (.slice Ae21 _ys21.E.length Ce21), g < hi9_a := fun g hg => (re21 g hg).2
    replace fe21 : Ol GEdge.cs eb_a 4 _w_10 (.slice Ae21 _ys21.E.length Ce21) _ys21.E := fe21
    have _e21 := set_el _hys14 _hys21
    have _e22 := congrArg (fun z => z.E.length) _e21
    dsimp only at _e22
    refine WL_step rfl rfl (r_fieldAddr fa42_1 rfl) ?_
    refine WL_step rfl rfl (r_loadAt _a21 agg40 rfl rfl) ?_
    refine WL_step rfl rfl (r_move rfl) ?_
    refine WL_s rfl rfl ?_
    refine Step.call (r_call (xs := [.tmp 23, .tmp 24]) fk80 rfl) (c_laws_markEdgeS fe21 _ (by omega) (by first | omega | (simp <;> omega))) fun _v25 _w_12 _q25 => ?_
    obtain ⟨rfl, _q25, _cw_12⟩ := _q25
    have _cw_12z := _cw_12.size
    have E := E.step _cw_12 (fun i hm => by have _h1 := _lo221 _ hm; have _h2 := hi221 _ hm; first | (left; omega) | (right; exact rg_mem (by omega)))
    refine WL_step rfl rfl (r_assign rfl) ?_
    refine WL_nil ?_
    refine inB_nrm ?_
    refine thn_nrm (_hK_8 _ _ ?_)
    clear _hK_8
    refine W_region ?_
    refine WL_step rfl rfl (r_move rfl) ?_
    refine WL_step rfl rfl (r_add (by omega) rfl rfl) ?_
    refine WL_step rfl rfl (r_assign rfl) ?_
    refine WL_nil ?_
    have _f_13 := (_f_11.ch _cw_12 (fun g hg hm => by exact _sm21.2 _ hm hg))
    exact thn_nrm (Exists.intro ((i + 1), ((kk + _ys14.V.length) + 4 * _ys21.E.length), (((zs.set i ⟨mkInt kk _ys14.V.length, _ys14.E⟩)).set i ⟨_ys21.V, mkGEdge (kk + _ys14.V.length) _ys21.E.length⟩)) ⟨⟨E, (by omega), (by omega), (by omega), (by rw [List.set_set, _e21]; exact mkGS_set hz hz9 hq), _f_13, (OdG.setE ov9 _hyo21 _hys21 _cw_12 _q25)⟩, Sub.cons rfl (Sub.cons rfl (Sub.cons rfl (Sub.cons rfl (Sub.nil _)))), (by first | omega | (dsimp only; omega))⟩)
  · have _kb_7 := _h9
    have _h9 := bf_d _h9
    refine W_exit (thn_exit (thn_exit (inB_hit ?_)))
    refine thn_nrm (_hK_2 _ _ ?_)
    clear _hK_2
    refine W_seq fun _K_14 _hK_14 => ?_
    refine W_region ?_
    refine WL_step rfl rfl (r_move rfl) ?_
    refine WL_step rfl rfl (r_assign rfl) ?_
    refine WL_nil ?_
    refine thn_nrm (_hK_14 _ _ ?_)
    clear _hK_14
    refine W_ret ?_
    clear _hK_5
    exact ret_intro [_] ⟨rfl, trivial⟩ ⟨congrArg (Value.int .i64) (by have _h9 := gmark_all (show a.length ≤ i by omega); omega), (by rw [← mkGS_end hz (by omega)]; exact od), _F0_0, E⟩

/-- laws.markHistory -/
theorem c_laws_markHistory {w : World} (aF : Int) {e_saG ea_aG eb_aG lo9_aG hi9_aG : Nat} {_v_saG : Value} {saG : List Gv} {aG : List GD} (_h_saG : Ol Gv.cs e_saG 2 w _v_saG saG) (_od_aG : OdG ea_aG eb_aG w lo9_aG hi9_aG saG aG) (_ro_aG : ∀ g ∈ bl _v_saG, lo9_aG ≤ g ∧ g < hi9_aG) (_sp_aG : SepH _v_saG saG) (_hh_aG : hi9_aG ≤ w.heap.size) (k : Int) (_hk0 : 0 ≤ k) (hkk : k + 4 * gsize aG ≤ 4611686018427387904) :
    Ctr Try.prog 24 #[(.agg #[(.int .i64 aF), _v_saG]), (.int .i64 k)] w (fun v w' => v = .int .i64 (k + gmark aG) ∧ OdG ea_aG eb_aG w' lo9_aG hi9_aG saG (mkGS k aG) ∧ Ol Gv.cs e_saG 2 w' _v_saG saG ∧ Ch (Rg lo9_aG hi9_aG) w w') := by
  obtain ⟨_A_saG, _C_saG, _e1_saG⟩ := _h_saG.val
  subst _e1_saG
  have _l_saG := _h_saG.len
  have _lo_saG : Lo lo9_aG (.slice _A_saG saG.length _C_saG) := fun g hg => (_ro_aG g hg).1
  have hi_saG : ∀ g ∈ bl (.slice _A_saG saG.length _C_saG), g < hi9_aG := fun g hg => (_ro_aG g hg).2
  have _rl_aG := _od_aG.1
  have E := Ch.refl (Rg lo9_aG hi9_aG) w
  refine Ctr_of_W (N := 10) (vs0 := [(.agg #[(.int .i64 aF), (.slice _A_saG saG.length _C_saG)]), (.int .i64 k)]) Try.func24 rfl rfl rfl ?_
  refine W_seq fun _K_1 _hK_1 => ?_
  refine W_region ?_
  refine WL_s rfl rfl ?_
  refine s_box rfl fun _b2 _w_2 _m2 _cw_2 _e2 => ?_
  have _cw_2z := _cw_2.size
  have E := E.trans _cw_2.of_nil
  have _z2 := _m2.lt
  replace _m2 : Blk _w_2 _b2 29 [(.int .i64 aF), (.slice _A_saG saG.length _C_saG)] := _m2
  refine WL_step rfl rfl (r_assign rfl) ?_
  refine WL_nil ?_
  refine thn_nrm (_hK_1 _ _ ?_)
  clear _hK_1
  refine W_seq fun _K_3 _hK_3 => ?_
  refine W_region ?_
  refine WL_step rfl rfl (r_fieldAddr fa29_1 rfl) ?_
  refine WL_step rfl rfl (r_loadAt _m2.at_ agg27 rfl rfl) ?_
  refine WL_step rfl rfl (r_move rfl) ?_
  refine WL_s rfl rfl ?_
  have _f_4 := (_h_saG.ch0 _cw_2)
  have _f_5 := (_od_aG.ch0 _cw_2)
  refine Step.call (r_call (xs := [.tmp 6, .tmp 7]) fk81 rfl) (c_laws_markGraphS _f_4 (_f_5.up (lo' := lo9_aG) (hi' := hi9_aG) (by omega) (by omega)) (fun g hm => by have _h1 := _lo_saG _ hm; have _h2 := hi_saG _ hm; omega) _sp_aG (by omega) _ (by omega) (by first | omega | (simp <;> omega))) fun _v8 _w_6 _q8 => ?_
  obtain ⟨rfl, _q8, rq8, _cw_6⟩ := _q8
  have _cw_6z := _cw_6.size
  have E := E.step _cw_6 (fun i hm => by have _h1 := mem_rg hm; first | (left; omega) | (right; exact rg_mem (by omega)))
  refine WL_step rfl rfl (r_assign rfl) ?_
  refine WL_nil ?_
  refine thn_nrm (_hK_3 _ _ ?_)
  clear _hK_3
  refine W_seq fun _K_7 _hK_7 => ?_
  refine W_region ?_
  refine WL_step rfl rfl (r_move rfl) ?_
  refine WL_step rfl rfl (r_assign rfl) ?_
  refine WL_nil ?_
  refine thn_nrm (_hK_7 _ _ ?_)
  clear _hK_7
  refine W_ret ?_
  exact ret_intro [_] ⟨rfl, trivial⟩ ⟨congrArg (Value.int .i64) rfl, _q8, rq8, E⟩

/-- laws.szEdgeS -/
theorem c_laws_szEdgeS {w : World} {LL_a _B_a : Nat} {_v_a : Value} {a : List GEdge} (_h_a : Ls GEdge.cs 4 w LL_a _B_a _v_a a) (left : Int) (hl : left ≤ 1048576) (_h0 : 0 ≤ left) :
    Ctr Try.prog 72 #[_v_a, (.int .i64 left)] w (fun v w' => v = .int .i64 (if left < a.length then -1 else left - a.length) ∧ Ch [] w w') := by
  obtain ⟨_A_a, _C_a, _e1_a⟩ := _h_a.val
  subst _e1_a
  have _l_a := _h_a.len
  have _h_a := _h_a.here (by decide)
  have E := Ch.refl [] w
  refine Ctr_of_W (N := 12) (vs0 := [(.slice _A_a a.length _C_a), (.int .i64 left)]) Try.func72 rfl rfl rfl ?_
  refine W_seq fun _K_1 _hK_1 => ?_
  refine W_region ?_
  refine WL_step rfl rfl (r_assign rfl) ?_
  refine WL_nil ?_
  refine thn_nrm (_hK_1 _ _ ?_)
  clear _hK_1
  refine W_seq fun _K_2 _hK_2 => ?_
  refine W_region ?_
  refine WL_step rfl rfl (r_move rfl) ?_
  refine WL_step rfl rfl (r_move rfl) ?_
  refine WL_step rfl rfl (r_len (by rw [el34]; rfl) rfl) ?_
  refine WL_step rfl rfl (r_sub (by omega) rfl rfl) ?_
  refine WL_step rfl rfl (r_assign rfl) ?_
  refine WL_nil ?_
  refine thn_nrm (_hK_2 _ _ ?_)
  clear _hK_2
  refine W_seq fun _K_3 _hK_3 => ?_
  refine W_seq fun _K_4 _hK_4 => ?_
  refine W_region ?_
  refine WL_step rfl rfl (r_move rfl) ?_
  refine WL_step rfl rfl (r_lss rfl rfl) ?_
  refine WL_nil ?_
  refine thn_nrm (_hK_4 _ _ ?_)
  clear _hK_4
  refine W_cond rfl (fun _h10 => ?_) (fun _h10 => ?_)
  · have _kb_5 := _h10
    have _h10 := bt_d _h10
    refine W_seq fun _K_6 _hK_6 => ?_
    refine W_region ?_
    refine WL_step rfl rfl (r_assign rfl) ?_
    refine WL_nil ?_
    refine thn_nrm (_hK_6 _ _ ?_)
    clear _hK_6
    refine W_ret (thn_ret ?_)
    clear _hK_3
    exact ret_intro [_] ⟨rfl, trivial⟩ ⟨congrArg (Value.int .i64) (if_pos (by omega)).symm, E⟩
  · have _kb_5 := _h10
    have _h10 := bf_d _h10
    refine W_skip ?_
    refine thn_nrm (_hK_3 _ _ ?_)
    clear _hK_3
    refine W_seq fun _K_7 _hK_7 => ?_
    refine W_region ?_
    refine WL_step rfl rfl (r_move rfl) ?_
    refine WL_step rfl rfl (r_assign rfl) ?_
    refine WL_nil ?_
    refine thn_nrm (_hK_7 _ _ ?_)
    clear _hK_7
    refine W_ret ?_
    exact ret_intro [_] ⟨rfl, trivial⟩ ⟨congrArg (Value.int .i64) (if_neg (by omega)).symm, E⟩

/-- laws.szIntS -/
theorem c_laws_szIntS {w : World} {LL_a _B_a : Nat} {_v_a : Value} {a : List Int} (_h_a : Ls ics 1 w LL_a _B_a _v_a a) (left : Int) (hl : left ≤ 1048576) (_h0 : 0 ≤ left) :
    Ctr Try.prog 71 #[_v_a, (.int .i64 left)] w (fun v w' => v = .int .i64 (if left < a.length then -1 else left - a.length) ∧ Ch [] w w') := by
  obtain ⟨_A_a, _C_a, _e1_a⟩ := _h_a.val
  subst _e1_a
  have _l_a := _h_a.len
  have _h_a := _h_a.here (by decide)
  have E := Ch.refl [] w
  refine Ctr_of_W (N := 12) (vs0 := [(.slice _A_a a.length _C_a), (.int .i64 left)]) Try.func71 rfl rfl rfl ?_
  refine W_seq fun _K_1 _hK_1 => ?_
  refine W_region ?_
  refine WL_step rfl rfl (r_assign rfl) ?_
  refine WL_nil ?_
  refine thn_nrm (_hK_1 _ _ ?_)
  clear _hK_1
  refine W_seq fun _K_2 _hK_2 => ?_
  refine W_region ?_
  refine WL_step rfl rfl (r_move rfl) ?_
  refine WL_step rfl rfl (r_move rfl) ?_
  refine WL_step rfl rfl (r_len (by rw [el33]; rfl) rfl) ?_
  refine WL_step rfl rfl (r_sub (by omega) rfl rfl) ?_
  refine WL_step rfl rfl (r_assign rfl) ?_
  refine WL_nil ?_
  refine thn_nrm (_hK_2 _ _ ?_)
  clear _hK_2
  refine W_seq fun _K_3 _hK_3 => ?_
  refine W_seq fun _K_4 _hK_4 => ?_
  refine W_region ?_
  refine WL_step rfl rfl (r_move rfl) ?_
  refine WL_step rfl rfl (r_lss rfl rfl) ?_
  refine WL_nil ?_
  refine thn_nrm (_hK_4 _ _ ?_)
  clear _hK_4
  refine W_cond rfl (fun _h10 => ?_) (fun _h10 => ?_)
  · have _kb_5 := _h10
    have _h10 := bt_d _h10
    refine W_seq fun _K_6 _hK_6 => ?_
    refine W_region ?_
    refine WL_step rfl rfl (r_assign rfl) ?_
    refine WL_nil ?_
    refine thn_nrm (_hK_6 _ _ ?_)
    clear _hK_6
    refine W_ret (thn_ret ?_)
    clear _hK_3
    exact ret_intro [_] ⟨rfl, trivial⟩ ⟨congrArg (Value.int .i64) (if_pos (by omega)).symm, E⟩
  · have _kb_5 := _h10
    have _h10 := bf_d _h10
    refine W_skip ?_
    refine thn_nrm (_hK_3 _ _ ?_)
    clear _hK_3
    refine W_seq fun _K_7 _hK_7 => ?_
    refine W_region ?_
    refine WL_step rfl rfl (r_move rfl) ?_
    refine WL_step rfl rfl (r_assign rfl) ?_
    refine WL_nil ?_
    refine thn_nrm (_hK_7 _ _ ?_)
    clear _hK_7
    refine W_ret ?_
    exact ret_intro [_] ⟨rfl, trivial⟩ ⟨congrArg (Value.int .i64) (if_neg (by omega)).symm, E⟩

/-- laws.szGraph -/
theorem c_laws_szGraph {w : World} {LL_aV _B_aV : Nat} {_v_aV : Value} {aV : List Int} (_h_aV : Ls ics 1 w LL_aV _B_aV _v_aV aV) {LL_aE _B_aE : Nat} {_v_aE : Value} {aE : List GEdge} (_h_aE : Ls GEdge.cs 4 w LL_aE _B_aE _v_aE aE) (left : Int) (hl : left ≤ 1048576) (_h0 : 0 ≤ left) :
    Ctr Try.prog 18 #[(.agg #[_v_aV, _v_aE]), (.int .i64 left)] w (fun v w' => v = .int .i64 (if left < aV.length + aE.length then -1 else left - aV.length - aE.length) ∧ Ch [] w w') := by
  obtain ⟨_A_aV, _C_aV, _e1_aV⟩ := _h_aV.val
  subst _e1_aV
  have _l_aV := _h_aV.len
  have _h_aV := _h_aV.here (by decide)
  obtain ⟨_A_aE, _C_aE, _e1_aE⟩ := _h_aE.val
  subst _e1_aE
  have _l_aE := _h_aE.len
  have _h_aE := _h_aE.here (by decide)
  have E := Ch.refl [] w
  refine Ctr_of_W (N := 18) (vs0 := [(.agg #[(.slice _A_aV aV.length _C_aV), (.slice _A_aE aE.length _C_aE)]), (.int .i64 left)]) Try.func18 rfl rfl rfl ?_
  refine W_seq fun _K_1 _hK_1 => ?_
  refine W_region ?_
  refine WL_s rfl rfl ?_
  refine s_box rfl fun _b2 _w_2 _m2 _cw_2 _e2 => ?_
  have _cw_2z := _cw_2.size
  have E := E.trans _cw_2
  have _z2 := _m2.lt
  replace _m2 : Blk _w_2 _b2 36 [(.slice _A_aV aV.length _C_aV), (.slice _A_aE aE.length _C_aE)] := _m2
  refine WL_step rfl rfl (r_assign rfl) ?_
  refine WL_nil ?_
  refine thn_nrm (_hK_1 _ _ ?_)
  clear _hK_1
  refine W_seq fun _K_3 _hK_3 => ?_
  refine W_region ?_
  refine WL_step rfl rfl (r_fieldAddr fa36_0 rfl) ?_
  refine WL_step rfl rfl (r_loadAt _m2.at_ agg33 rfl rfl) ?_
  refine WL_step rfl rfl (r_move rfl) ?_
  refine WL_s rfl rfl ?_
  have _f_4 := (_h_aV.ch0 _cw_2)
  refine Step.call (r_call (xs := [.tmp 6, .tmp 7]) fk71 rfl) (c_laws_szIntS _f_4 _ (by omega) (by omega)) fun _v8 _w_5 _q8 => ?_
  obtain ⟨rfl, _cw_5⟩ := _q8
  have _cw_5z := _cw_5.size
  have E := E.trans _cw_5
  refine WL_step rfl rfl (r_assign rfl) ?_
  refine WL_nil ?_
  refine thn_nrm (_hK_3 _ _ ?_)
  clear _hK_3
  refine W_seq fun _K_6 _hK_6 => ?_
  refine W_seq fun _K_7 _hK_7 => ?_
  refine W_region ?_
  refine WL_step rfl rfl (r_move rfl) ?_
  refine WL_step rfl rfl (r_lss rfl rfl) ?_
  refine WL_nil ?_
  refine thn_nrm (_hK_7 _ _ ?_)
  clear _hK_7
  refine W_cond rfl (fun _h10 => ?_) (fun _h10 => ?_)
  · have _kb_8 := _h10
    have _h10 := bt_d _h10
    refine W_seq fun _K_9 _hK_9 => ?_
    refine W_region ?_
    refine WL_step rfl rfl (r_assign rfl) ?_
    refine WL_nil ?_
    refine thn_nrm (_hK_9 _ _ ?_)
    clear _hK_9
    refine W_ret (thn_ret ?_)
    clear _hK_6
    exact ret_intro [_] ⟨rfl, trivial⟩ ⟨congrArg (Value.int .i64) (by repeat (first | omega | split)), E⟩
  · have _kb_8 := _h10
    have _h10 := bf_d _h10
    refine W_skip ?_
    refine thn_nrm (_hK_6 _ _ ?_)
    clear _hK_6
    refine W_seq fun _K_10 _hK_10 => ?_
    refine W_region ?_
    refine WL_step rfl rfl (r_fieldAddr fa36_1 rfl) ?_
    have _f_11 := (_m2.ch0 _cw_5)
    refine WL_step rfl rfl (r_loadAt _f_11.at_ agg34 rfl rfl) ?_
    refine WL_step rfl rfl (r_move rfl) ?_
    refine WL_s rfl rfl ?_
    have _f_12 := ((_h_aE.ch0 _cw_2).ch0 _cw_5)
    refine Step.call (r_call (xs := [.tmp 12, .tmp 13]) fk72 rfl) (c_laws_szEdgeS _f_12 _ (by omega) (by omega)) fun _v14 _w_13 _q14 => ?_
    obtain ⟨rfl, _cw_13⟩ := _q14
    have _cw_13z := _cw_13.size
    have E := E.trans _cw_13
    refine WL_step rfl rfl (r_assign rfl) ?_
    refine WL_nil ?_
    refine thn_nrm (_hK_10 _ _ ?_)
    clear _hK_10
    refine W_seq fun _K_14 _hK_14 => ?_
    refine W_seq fun _K_15 _hK_15 => ?_
    refine W_region ?_
    refine WL_step rfl rfl (r_move rfl) ?_
    refine WL_step rfl rfl (r_lss rfl rfl) ?_
    refine WL_nil ?_
    refine thn_nrm (_hK_15 _ _ ?_)
    clear _hK_15
    refine W_cond rfl (fun _h16 => ?_) (fun _h16 => ?_)
    · have _kb_16 := _h16
      have _h16 := bt_d _h16
      refine W_seq fun _K_17 _hK_17 => ?_
      refine W_region ?_
      refine WL_step rfl rfl (r_assign rfl) ?_
      refine WL_nil ?_
      refine thn_nrm (_hK_17 _ _ ?_)
      clear _hK_17
      refine W_ret (thn_ret ?_)
      clear _hK_14
      exact ret_intro [_] ⟨rfl, trivial⟩ ⟨congrArg (Value.int .i64) (by repeat (first | omega | split)), E⟩
    · have _kb_16 := _h16
      have _h16 := bf_d _h16
      refine W_skip ?_
      refine thn_nrm (_hK_14 _ _ ?_)
      clear _hK_14
      refine W_seq fun _K_18 _hK_18 => ?_
      refine W_region ?_
      refine WL_step rfl rfl (r_move rfl) ?_
      refine WL_step rfl rfl (r_assign rfl) ?_
      refine WL_nil ?_
      refine thn_nrm (_hK_18 _ _ ?_)
      clear _hK_18
      refine W_ret ?_
      exact ret_intro [_] ⟨rfl, trivial⟩ ⟨congrArg (Value.int .i64) (by repeat (first | omega | split)), E⟩

/-- laws.toEdge -/
theorem c_laws_toEdge {w : World} (a : GEdge) :
    Ctr Try.prog 134 #[(.agg #[(.int .i64 a.id), (.int .i64 a.f), (.int .i64 a.t), (.int .i64 a.label)])] w (fun v w' => v = .agg (GEdge.cs (a)).toArray ∧ Ch [] w w') := by
  have E := Ch.refl [] w
  refine Ctr_of_W (N := 17) (vs0 := [(.agg #[(.int .i64 a.id), (.int .i64 a.f), (.int .i64 a.t), (.int .i64 a.label)])]) Try.func134 rfl rfl rfl ?_
  refine W_seq fun _K_1 _hK_1 => ?_
  refine W_region ?_
  refine WL_s rfl rfl ?_
  refine s_box rfl fun _b1 _w_2 _m1 _cw_2 _e1 => ?_
  have _cw_2z := _cw_2.size
  have E := E.trans _cw_2
  have _z1 := _m1.lt
  replace _m1 : Blk _w_2 _b1 166 [(.int .i64 a.id), (.int .i64 a.f), (.int .i64 a.t), (.int .i64 a.label)] := _m1
  refine WL_s rfl rfl ?_
  refine s_alloc zr164 fun _b2 _w_3 _m2 _cw_3 _e2 => ?_
  have _cw_3z := _cw_3.size
  have E := E.trans _cw_3
  have _z2 := _m2.lt
  replace _m2 : Blk _w_3 _b2 164 [(.int .i64 0), (.int .i64 0), (.int .i64 0), (.int .i64 0)] := _m2
  refine WL_nil ?_
  refine thn_nrm (_hK_1 _ _ ?_)
  clear _hK_1
  refine W_seq fun _K_4 _hK_4 => ?_
  refine W_region ?_
  refine WL_s rfl rfl ?_
  refine s_alloc zr164 fun _b3 _w_5 _m3 _cw_5 _e3 => ?_
  have _cw_5z := _cw_5.size
  have E := E.trans _cw_5
  have _z3 := _m3.lt
  replace _m3 : Blk _w_5 _b3 164 [(.int .i64 0), (.int .i64 0), (.int .i64 0), (.int .i64 0)] := _m3
  refine WL_nil ?_
  refine thn_nrm (_hK_4 _ _ ?_)
  clear _hK_4
  refine W_seq fun _K_6 _hK_6 => ?_
  refine W_region ?_
  refine WL_step rfl rfl (r_fieldAddr fa166_0 rfl) ?_
  have _f_7 := ((_m1.ch0 _cw_3).ch0 _cw_5)
  refine WL_step rfl rfl (r_loadAt _f_7.at_ agg3 rfl rfl) ?_
  refine WL_step rfl rfl (r_fieldAddr fa164_0 rfl) ?_
  refine WL_s rfl rfl ?_
  refine s_store1 (off := 0) _m3 sz3 rfl rfl rfl rfl fun _w_8 _m_9 _cw_8 => ?_
  have _cw_8z := _cw_8.size
  have E := E.step _cw_8 (fun i hi => .inl (by have _h1 := List.mem_singleton.1 hi; omega))
  replace _m_9 : Blk _w_8 _b3 164 [(.int .i64 a.id), (.int .i64 0), (.int .i64 0), (.int .i64 0)] := _m_9
  refine WL_nil ?_
  refine thn_nrm (_hK_6 _ _ ?_)
  clear _hK_6
  refine W_seq fun _K_10 _hK_10 => ?_
  refine W_region ?_
  refine WL_step rfl rfl (r_fieldAddr fa166_1 rfl) ?_
  have _f_11 := (_f_7.ch _cw_8 (fun hm => by have _h1 := List.mem_singleton.1 hm; omega))
  refine WL_step rfl rfl (r_loadAt _f_11.at_ agg3 rfl rfl) ?_
  refine WL_step rfl rfl (r_fieldAddr fa164_1 rfl) ?_
  refine WL_s rfl rfl ?_
  refine s_store1 (off := 1) _m_9 sz3 rfl rfl rfl rfl fun _w_12 _m_13 _cw_12 => ?_
  have _cw_12z := _cw_12.size
  have E := E.step _cw_12 (fun i hi => .inl (by have _h1 := List.mem_singleton.1 hi; omega))
  replace _m_13 : Blk _w_12 _b3 164 [(.int .i64 a.id), (.int .i64 a.f), (.int .i64 0), (.int .i64 0)] := _m_13
  refine WL_nil ?_
  refine thn_nrm (_hK_10 _ _ ?_)
  clear _hK_10
  refine W_seq fun _K_14 _hK_14 => ?_
  refine W_region ?_
  refine WL_step rfl rfl (r_fieldAddr fa166_2 rfl) ?_
  have _f_15 := (_f_11.ch _cw_12 (fun hm => by have _h1 := List.mem_singleton.1 hm; omega))
  refine WL_step rfl rfl (r_loadAt _f_15.at_ agg3 rfl rfl) ?_
  refine WL_step rfl rfl (r_fieldAddr fa164_2 rfl) ?_
  refine WL_s rfl rfl ?_
  refine s_store1 (off := 2) _m_13 sz3 rfl rfl rfl rfl fun _w_16 _m_17 _cw_16 => ?_
  have _cw_16z := _cw_16.size
  have E := E.step _cw_16 (fun i hi => .inl (by have _h1 := List.mem_singleton.1 hi; omega))
  replace _m_17 : Blk _w_16 _b3 164 [(.int .i64 a.id), (.int .i64 a.f), (.int .i64 a.t), (.int .i64 0)] := _m_17
  refine WL_nil ?_
  refine thn_nrm (_hK_14 _ _ ?_)
  clear _hK_14
  refine W_seq fun _K_18 _hK_18 => ?_
  refine W_region ?_
  refine WL_step rfl rfl (r_fieldAddr fa166_3 rfl) ?_
  have _f_19 := (_f_15.ch _cw_16 (fun hm => by have _h1 := List.mem_singleton.1 hm; omega))
  refine WL_step rfl rfl (r_loadAt _f_19.at_ agg3 rfl rfl) ?_
  refine WL_step rfl rfl (r_fieldAddr fa164_3 rfl) ?_
  refine WL_s rfl rfl ?_
  refine s_store1 (off := 3) _m_17 sz3 rfl rfl rfl rfl fun _w_20 _m_21 _cw_20 => ?_
  have _cw_20z := _cw_20.size
  have E := E.step _cw_20 (fun i hi => .inl (by have _h1 := List.mem_singleton.1 hi; omega))
  replace _m_21 : Blk _w_20 _b3 164 [(.int .i64 a.id), (.int .i64 a.f), (.int .i64 a.t), (.int .i64 a.label)] := _m_21
  refine WL_nil ?_
  refine thn_nrm (_hK_18 _ _ ?_)
  clear _hK_18
  refine W_seq fun _K_22 _hK_22 => ?_
  refine W_region ?_
  refine WL_step rfl rfl (r_loadAtA0 _m_21.at_ agg164 sz164 rfl) ?_
  refine WL_s rfl rfl ?_
  have _f_23 := (((((_m2.ch0 _cw_5).ch _cw_8 (fun hm => by have _h1 := List.mem_singleton.1 hm; omega)).ch _cw_12 (fun hm => by have _h1 := List.mem_singleton.1 hm; omega)).ch _cw_16 (fun hm => by have _h1 := List.mem_singleton.1 hm; omega)).ch _cw_20 (fun hm => by have _h1 := List.mem_singleton.1 hm; omega))
  refine s_storeA (off := 0) 4 _f_23 sz164 rfl (us := [(.int .i64 a.id), (.int .i64 a.f), (.int .i64 a.t), (.int .i64 a.label)]) rfl rfl rfl rfl fun _w_24 _m_25 _cw_24 => ?_
  have _cw_24z := _cw_24.size
  have E := E.step _cw_24 (fun i hi => .inl (by have _h1 := List.mem_singleton.1 hi; omega))
  replace _m_25 : Blk _w_24 _b2 164 [(.int .i64 a.id), (.int .i64 a.f), (.int .i64 a.t), (.int .i64 a.label)] := _m_25
  refine WL_nil ?_
  refine thn_nrm (_hK_22 _ _ ?_)
  clear _hK_22
  refine W_ret ?_
  exact ret_intro [_] (resOf_loadA _m_25 rfl agg164 sz164 trivial) ⟨by simp [packed, GEdge.cs], E⟩

/-- laws.toEdgeS -/
theorem c_laws_toEdgeS {w : World} {LL_a _B_a : Nat} {_v_a : Value} {a : List GEdge} (_h_a : Ls GEdge.cs 4 w LL_a _B_a _v_a a) (hb : a.length ≤ 1048576) :
    Ctr Try.prog 75 #[_v_a] w (fun v w' => Ol GEdge.cs 164 4 w' v (a) ∧ Lo w.heap.size v ∧ Ch [] w w') := by
  obtain ⟨_A_a, _C_a, _e1_a⟩ := _h_a.val
  subst _e1_a
  have _l_a := _h_a.len
  have _h_a := _h_a.here (by decide)
  have E := Ch.refl [] w
  refine Ctr_of_W (N := 23) (vs0 := [(.slice _A_a a.length _C_a)]) Try.func75 rfl rfl rfl ?_
  refine W_seq fun _K_1 _hK_1 => ?_
  refine W_region ?_
  refine WL_step rfl rfl (r_assign rfl) ?_
  refine WL_nil ?_
  refine thn_nrm (_hK_1 _ _ ?_)
  clear _hK_1
  refine W_seq fun _K_2 _hK_2 => ?_
  refine W_region ?_
  refine WL_step rfl rfl (r_move rfl) ?_
  refine WL_step rfl rfl (r_len (by rw [el34]; rfl) rfl) ?_
  refine WL_s rfl rfl ?_
  refine s_make (cs := GEdge.cs) (⟨0, 0, 0, 0⟩ : GEdge) el40 sz164 by164 zr164 GEdge.len (by decide) rfl rfl (by omega) (by omega) fun _v7 _w_3 _q7 _lo7 _cw_3 => ?_
  have _cw_3z := _cw_3.size
  have E := E.trans _cw_3
  obtain ⟨_Av7, _Cv7, _ev7⟩ := _q7.val
  subst _ev7
  have _lv7 := _q7.len
  have _hiv7 := _q7.lt
  refine WL_step rfl rfl (r_assign rfl) ?_
  refine WL_nil ?_
  refine thn_nrm (_hK_2 _ _ ?_)
  clear _hK_2
  refine W_seq fun _K_4 _hK_4 => ?_
  refine W_seq fun _K_5 _hK_5 => ?_
  refine W_region ?_
  refine WL_step rfl rfl (r_assign rfl) ?_
  refine WL_nil ?_
  refine thn_nrm (_hK_5 _ _ ?_)
  clear _hK_5
  refine W_block ?_
  have _oi_6 : Ol GEdge.cs 164 4 _w_3 (.slice _Av7 ((List.replicate a.length (⟨0, 0, 0, 0⟩ : GEdge))).length _Cv7) (a.take 0 ++ List.replicate (a.length - 0) (⟨0, 0, 0, 0⟩ : GEdge)) := by
    have hx := _q7
    simpa using hx
  refine W_loop (σ := Nat) (fun (k : Nat) => [(0, (.slice _A_a a.length _C_a)), (2, (.slice none 0 0)), (3, (.slice _Av7 ((List.replicate a.length (⟨0, 0, 0, 0⟩ : GEdge))).length _Cv7)), (4, (.int .i64 ((k : Nat) : Int)))]) (fun (k : Nat) wx => Ch [] w wx ∧ _w_3.heap.size ≤ wx.heap.size ∧ (k ≤ a.length) ∧ Ol GEdge.cs 164 4 wx (.slice _Av7 ((List.replicate a.length (⟨0, 0, 0, 0⟩ : GEdge))).length _Cv7) (a.take k ++ List.replicate (a.length - k) (⟨0, 0, 0, 0⟩ : GEdge))) (fun (k : Nat) => a.length - k) 0 (Sub.cons rfl (Sub.cons rfl (Sub.cons rfl (Sub.cons rfl (Sub.nil _))))) ⟨E, (Nat.le_refl _), (by omega), _oi_6⟩ ?_
  rintro k _wr_7 ⟨E, _zz0, _hk, _o0_3⟩
  have _E0h := E
  have _E0hz := _E0h.size
  refine W_seq fun _K_8 _hK_8 => ?_
  refine W_seq fun _K_9 _hK_9 => ?_
  refine W_region ?_
  refine WL_step rfl rfl (r_move rfl) ?_
  refine WL_step rfl rfl (r_move rfl) ?_
  refine WL_step rfl rfl (r_len (by rw [el34]; rfl) rfl) ?_
  refine WL_step rfl rfl (r_lss rfl rfl) ?_
  refine WL_nil ?_
  refine thn_nrm (_hK_9 _ _ ?_)
  clear _hK_9
  refine W_cond rfl (fun _h11 => ?_) (fun _h11 => ?_)
  · have _kb_10 := _h11
    have _h11 := bt_d _h11
    refine W_skip ?_
    refine thn_nrm (_hK_8 _ _ ?_)
    clear _hK_8
    refine W_seq fun _K_11 _hK_11 => ?_
    refine W_block ?_
    refine W_region ?_
    refine WL_step rfl rfl (r_move rfl) ?_
    refine WL_step rfl rfl (r_move rfl) ?_
    refine WL_step rfl rfl (r_move rfl) ?_
    refine WL_step rfl rfl (r_move rfl) ?_
    refine WL_s rfl rfl ?_
    have _f_12 := (_h_a.ch0 _E0h)
    refine (s_index _f_12 GEdge.len el34 sz166 rfl rfl rfl (by omega) fun _p18 _y18 _hy18 _a18 => ?_)
    refine WL_step rfl rfl (r_loadAtA0 _a18 agg166 sz166 rfl) ?_
    refine WL_s rfl rfl ?_
    refine Step.call (r_call (xs := [.tmp 19]) fk134 rfl) (c_laws_toEdge _y18 ) fun _v20 _w_13 _q20 => ?_
    obtain ⟨rfl, _cw_13⟩ := _q20
    have _cw_13z := _cw_13.size
    have E := E.trans _cw_13
    refine WL_s rfl rfl ?_
    have _f_14 := (_o0_3.ch0 _cw_13)
    refine s_indexO (j := k) _f_14 el40 sz164 rfl rfl rfl (by simp; omega) fun _g21 _o21 _cp21 _q21 => ?_
    refine WL_s rfl rfl ?_
    refine s_storeO (j := k) _y18 _f_14 _q21 GEdge.len sz164 rfl rfl rfl rfl (by simp; omega) fun _w_15 _o_16 _cw_15 => ?_
    have _cw_15z := _cw_15.size
    have E := E.step _cw_15 (fun i hi => .inl (by have _h1 := _lo7 _ hi; omega))
    refine WL_nil ?_
    refine inB_nrm ?_
    refine thn_nrm (_hK_11 _ _ ?_)
    clear _hK_11
    refine W_region ?_
    refine WL_step rfl rfl (r_move rfl) ?_
    refine WL_step rfl rfl (r_add (by omega) rfl rfl) ?_
    refine WL_step rfl rfl (r_assign rfl) ?_
    refine WL_nil ?_
    have _on_17 : Ol GEdge.cs 164 4 _w_15 (.slice _Av7 ((List.replicate a.length (⟨0, 0, 0, 0⟩ : GEdge))).length _Cv7) (a.take (k + 1) ++ List.replicate (a.length - (k + 1)) (⟨0, 0, 0, 0⟩ : GEdge)) := by
      have hx := _o_16
      rwa [fill_step a (⟨0, 0, 0, 0⟩ : GEdge) _hy18] at hx
    exact thn_nrm (Exists.intro (k + 1) ⟨⟨E, (by omega), (by omega), _on_17⟩, Sub.cons rfl (Sub.cons rfl (Sub.cons rfl (Sub.cons rfl (Sub.nil _)))), (by first | omega | (dsimp only; omega))⟩)
  · have _kb_10 := _h11
    have _h11 := bf_d _h11
    refine W_exit (thn_exit (thn_exit (inB_hit ?_)))
    refine thn_nrm (_hK_4 _ _ ?_)
    clear _hK_4
    refine W_seq fun _K_18 _hK_18 => ?_
    refine W_region ?_
    refine WL_step rfl rfl (r_move rfl) ?_
    refine WL_step rfl rfl (r_assign rfl) ?_
    refine WL_nil ?_
    refine thn_nrm (_hK_18 _ _ ?_)
    clear _hK_18
    refine W_ret ?_
    clear _hK_8
    have _o_19 : Ol GEdge.cs 164 4 _wr_7 (.slice _Av7 ((List.replicate a.length (⟨0, 0, 0, 0⟩ : GEdge))).length _Cv7) (a) := by
      have hx := _o0_3
      simpa [List.take_of_length_le (show a.length ≤ k by omega), show a.length - k = 0 by omega] using hx
    exact ret_intro [_] ⟨rfl, trivial⟩ ⟨_o_19, Lo.down _lo7 (by omega), E⟩

/-- laws.toIntS -/
theorem c_laws_toIntS {w : World} {LL_a _B_a : Nat} {_v_a : Value} {a : List Int} (_h_a : Ls ics 1 w LL_a _B_a _v_a a) (hb : a.length ≤ 1048576) :
    Ctr Try.prog 74 #[_v_a] w (fun v w' => Ol ics 3 1 w' v (a) ∧ Lo w.heap.size v ∧ Ch [] w w') := by
  obtain ⟨_A_a, _C_a, _e1_a⟩ := _h_a.val
  subst _e1_a
  have _l_a := _h_a.len
  have _h_a := _h_a.here (by decide)
  have E := Ch.refl [] w
  refine Ctr_of_W (N := 22) (vs0 := [(.slice _A_a a.length _C_a)]) Try.func74 rfl rfl rfl ?_
  refine W_seq fun _K_1 _hK_1 => ?_
  refine W_region ?_
  refine WL_step rfl rfl (r_assign rfl) ?_
  refine WL_nil ?_
  refine thn_nrm (_hK_1 _ _ ?_)
  clear _hK_1
  refine W_seq fun _K_2 _hK_2 => ?_
  refine W_region ?_
  refine WL_step rfl rfl (r_move rfl) ?_
  refine WL_step rfl rfl (r_len (by rw [el33]; rfl) rfl) ?_
  refine WL_s rfl rfl ?_
  refine s_make (cs := ics) (0 : Int) el33 sz3 by3 zr3 ics_len (by decide) rfl rfl (by omega) (by omega) fun _v7 _w_3 _q7 _lo7 _cw_3 => ?_
  have _cw_3z := _cw_3.size
  have E := E.trans _cw_3
  obtain ⟨_Av7, _Cv7, _ev7⟩ := _q7.val
  subst _ev7
  have _lv7 := _q7.len
  have _hiv7 := _q7.lt
  refine WL_step rfl rfl (r_assign rfl) ?_
  refine WL_nil ?_
  refine thn_nrm (_hK_2 _ _ ?_)
  clear _hK_2
  refine W_seq fun _K_4 _hK_4 => ?_
  refine W_seq fun _K_5 _hK_5 => ?_
  refine W_region ?_
  refine WL_step rfl rfl (r_assign rfl) ?_
  refine WL_nil ?_
  refine thn_nrm (_hK_5 _ _ ?_)
  clear _hK_5
  refine W_block ?_
  have _oi_6 : Ol ics 3 1 _w_3 (.slice _Av7 ((List.replicate a.length (0 : Int))).length _Cv7) (a.take 0 ++ List.replicate (a.length - 0) (0 : Int)) := by
    have hx := _q7
    simpa using hx
  refine W_loop (σ := Nat) (fun (k : Nat) => [(0, (.slice _A_a a.length _C_a)), (2, (.slice none 0 0)), (3, (.slice _Av7 ((List.replicate a.length (0 : Int))).length _Cv7)), (4, (.int .i64 ((k : Nat) : Int)))]) (fun (k : Nat) wx => Ch [] w wx ∧ _w_3.heap.size ≤ wx.heap.size ∧ (k ≤ a.length) ∧ Ol ics 3 1 wx (.slice _Av7 ((List.replicate a.length (0 : Int))).length _Cv7) (a.take k ++ List.replicate (a.length - k) (0 : Int))) (fun (k : Nat) => a.length - k) 0 (Sub.cons rfl (Sub.cons rfl (Sub.cons rfl (Sub.cons rfl (Sub.nil _))))) ⟨E, (Nat.le_refl _), (by omega), _oi_6⟩ ?_
  rintro k _wr_7 ⟨E, _zz0, _hk, _o0_3⟩
  have _E0h := E
  have _E0hz := _E0h.size
  refine W_seq fun _K_8 _hK_8 => ?_
  refine W_seq fun _K_9 _hK_9 => ?_
  refine W_region ?_
  refine WL_step rfl rfl (r_move rfl) ?_
  refine WL_step rfl rfl (r_move rfl) ?_
  refine WL_step rfl rfl (r_len (by rw [el33]; rfl) rfl) ?_
  refine WL_step rfl rfl (r_lss rfl rfl) ?_
  refine WL_nil ?_
  refine thn_nrm (_hK_9 _ _ ?_)
  clear _hK_9
  refine W_cond rfl (fun _h11 => ?_) (fun _h11 => ?_)
  · have _kb_10 := _h11
    have _h11 := bt_d _h11
    refine W_skip ?_
    refine thn_nrm (_hK_8 _ _ ?_)
    clear _hK_8
    refine W_seq fun _K_11 _hK_11 => ?_
    refine W_block ?_
    refine W_region ?_
    refine WL_step rfl rfl (r_move rfl) ?_
    refine WL_step rfl rfl (r_move rfl) ?_
    refine WL_step rfl rfl (r_move rfl) ?_
    refine WL_step rfl rfl (r_move rfl) ?_
    refine WL_s rfl rfl ?_
    have _f_12 := (_h_a.ch0 _E0h)
    refine (s_index _f_12 ics_len el33 sz3 rfl rfl rfl (by omega) fun _p18 _y18 _hy18 _a18 => ?_)
    refine WL_step rfl rfl (r_loadAt0 _a18 agg3 rfl rfl) ?_
    refine WL_s rfl rfl ?_
    refine s_indexO (j := k) _o0_3 el33 sz3 rfl rfl rfl (by simp; omega) fun _g20 _o20 _cp20 _q20 => ?_
    refine WL_s rfl rfl ?_
    refine s_storeO (j := k) _y18 _o0_3 _q20 ics_len sz3 rfl rfl rfl rfl (by simp; omega) fun _w_13 _o_14 _cw_13 => ?_
    have _cw_13z := _cw_13.size
    have E := E.step _cw_13 (fun i hi => .inl (by have _h1 := _lo7 _ hi; omega))
    refine WL_nil ?_
    refine inB_nrm ?_
    refine thn_nrm (_hK_11 _ _ ?_)
    clear _hK_11
    refine W_region ?_
    refine WL_step rfl rfl (r_move rfl) ?_
    refine WL_step rfl rfl (r_add (by omega) rfl rfl) ?_
    refine WL_step rfl rfl (r_assign rfl) ?_
    refine WL_nil ?_
    have _on_15 : Ol ics 3 1 _w_13 (.slice _Av7 ((List.replicate a.length (0 : Int))).length _Cv7) (a.take (k + 1) ++ List.replicate (a.length - (k + 1)) (0 : Int)) := by
      have hx := _o_14
      rwa [fill_step a (0 : Int) _hy18] at hx
    exact thn_nrm (Exists.intro (k + 1) ⟨⟨E, (by omega), (by omega), _on_15⟩, Sub.cons rfl (Sub.cons rfl (Sub.cons rfl (Sub.cons rfl (Sub.nil _)))), (by first | omega | (dsimp only; omega))⟩)
  · have _kb_10 := _h11
    have _h11 := bf_d _h11
    refine W_exit (thn_exit (thn_exit (inB_hit ?_)))
    refine thn_nrm (_hK_4 _ _ ?_)
    clear _hK_4
    refine W_seq fun _K_16 _hK_16 => ?_
    refine W_region ?_
    refine WL_step rfl rfl (r_move rfl) ?_
    refine WL_step rfl rfl (r_assign rfl) ?_
    refine WL_nil ?_
    refine thn_nrm (_hK_16 _ _ ?_)
    clear _hK_16
    refine W_ret ?_
    clear _hK_8
    have _o_17 : Ol ics 3 1 _wr_7 (.slice _Av7 ((List.replicate a.length (0 : Int))).length _Cv7) (a) := by
      have hx := _o0_3
      simpa [List.take_of_length_le (show a.length ≤ k by omega), show a.length - k = 0 by omega] using hx
    exact ret_intro [_] ⟨rfl, trivial⟩ ⟨_o_17, Lo.down _lo7 (by omega), E⟩

/-- laws.toGraph -/
theorem c_laws_toGraph {w : World} {LL_aV _B_aV : Nat} {_v_aV : Value} {aV : List Int} (_h_aV : Ls ics 1 w LL_aV _B_aV _v_aV aV) {LL_aE _B_aE : Nat} {_v_aE : Value} {aE : List GEdge} (_h_aE : Ls GEdge.cs 4 w LL_aE _B_aE _v_aE aE) (hb : aV.length + aE.length ≤ 1048576) :
    Ctr Try.prog 20 #[(.agg #[_v_aV, _v_aE])] w (fun v w' => ∃ (u0x0 : Value) (u0x1 : Value), v = .agg #[u0x0, u0x1] ∧ Ol ics 3 1 w' u0x0 (aV) ∧ Lo w.heap.size u0x0 ∧ Ol GEdge.cs 164 4 w' u0x1 (aE) ∧ Lo w.heap.size u0x1 ∧ (∀ g ∈ bl u0x0, g ∉ bl u0x1) ∧ Ch [] w w') := by
  obtain ⟨_A_aV, _C_aV, _e1_aV⟩ := _h_aV.val
  subst _e1_aV
  have _l_aV := _h_aV.len
  have _h_aV := _h_aV.here (by decide)
  obtain ⟨_A_aE, _C_aE, _e1_aE⟩ := _h_aE.val
  subst _e1_aE
  have _l_aE := _h_aE.len
  have _h_aE := _h_aE.here (by decide)
  have E := Ch.refl [] w
  refine Ctr_of_W (N := 13) (vs0 := [(.agg #[(.slice _A_aV aV.length _C_aV), (.slice _A_aE aE.length _C_aE)])]) Try.func20 rfl rfl rfl ?_
  refine W_seq fun _K_1 _hK_1 => ?_
  refine W_region ?_
  refine WL_s rfl rfl ?_
  refine s_box rfl fun _b1 _w_2 _m1 _cw_2 _e1 => ?_
  have _cw_2z := _cw_2.size
  have E := E.trans _cw_2
  have _z1 := _m1.lt
  replace _m1 : Blk _w_2 _b1 36 [(.slice _A_aV aV.length _C_aV), (.slice _A_aE aE.length _C_aE)] := _m1
  refine WL_s rfl rfl ?_
  refine s_alloc zr42 fun _b2 _w_3 _m2 _cw_3 _e2 => ?_
  have _cw_3z := _cw_3.size
  have E := E.trans _cw_3
  have _z2 := _m2.lt
  replace _m2 : Blk _w_3 _b2 42 [(.slice none 0 0), (.slice none 0 0)] := _m2
  refine WL_nil ?_
  refine thn_nrm (_hK_1 _ _ ?_)
  clear _hK_1
  refine W_seq fun _K_4 _hK_4 => ?_
  refine W_region ?_
  refine WL_s rfl rfl ?_
  refine s_alloc zr42 fun _b3 _w_5 _m3 _cw_5 _e3 => ?_
  have _cw_5z := _cw_5.size
  have E := E.trans _cw_5
  have _z3 := _m3.lt
  replace _m3 : Blk _w_5 _b3 42 [(.slice none 0 0), (.slice none 0 0)] := _m3
  refine WL_nil ?_
  refine thn_nrm (_hK_4 _ _ ?_)
  clear _hK_4
  refine W_seq fun _K_6 _hK_6 => ?_
  refine W_region ?_
  refine WL_step rfl rfl (r_fieldAddr fa36_0 rfl) ?_
  have _f_7 := ((_m1.ch0 _cw_3).ch0 _cw_5)
  refine WL_step rfl rfl (r_loadAt _f_7.at_ agg33 rfl rfl) ?_
  refine WL_s rfl rfl ?_
  have _f_8 := (((_h_aV.ch0 _cw_2).ch0 _cw_3).ch0 _cw_5)
  refine Step.call (r_call (xs := [.tmp 5]) fk74 rfl) (c_laws_toIntS _f_8 (by omega)) fun _v6 _w_9 _q6 => ?_
  obtain ⟨_q6, _lo6, _cw_9⟩ := _q6
  have _cw_9z := _cw_9.size
  have E := E.trans _cw_9
  obtain ⟨_Av6, _Cv6, _ev6⟩ := _q6.val
  subst _ev6
  have _lv6 := _q6.len
  have _hiv6 := _q6.lt
  refine WL_step rfl rfl (r_fieldAddr fa42_0 rfl) ?_
  refine WL_s rfl rfl ?_
  have _f_10 := (_m3.ch0 _cw_9)
  refine s_store1 (off := 0) _f_10 sz33 rfl rfl rfl rfl fun _w_11 _m_12 _cw_11 => ?_
  have _cw_11z := _cw_11.size
  have E := E.step _cw_11 (fun i hi => .inl (by have _h1 := List.mem_singleton.1 hi; omega))
  replace _m_12 : Blk _w_11 _b3 42 [(.slice _Av6 (aV).length _Cv6), (.slice none 0 0)] := _m_12
  refine WL_nil ?_
  refine thn_nrm (_hK_6 _ _ ?_)
  clear _hK_6
  refine W_seq fun _K_13 _hK_13 => ?_
  refine W_region ?_
  refine WL_step rfl rfl (r_fieldAddr fa36_1 rfl) ?_
  have _f_14 := ((_f_7.ch0 _cw_9).ch _cw_11 (fun hm => by have _h1 := List.mem_singleton.1 hm; omega))
  refine WL_step rfl rfl (r_loadAt _f_14.at_ agg34 rfl rfl) ?_
  refine WL_s rfl rfl ?_
  have _f_15 := (((((_h_aE.ch0 _cw_2).ch0 _cw_3).ch0 _cw_5).ch0 _cw_9).ch _cw_11 (fun i hi => by have _h1 := List.mem_singleton.1 hi; omega))
  refine Step.call (r_call (xs := [.tmp 9]) fk75 rfl) (c_laws_toEdgeS _f_15 (by omega)) fun _v10 _w_16 _q10 => ?_
  obtain ⟨_q10, _lo10, _cw_16⟩ := _q10
  have _cw_16z := _cw_16.size
  have E := E.trans _cw_16
  obtain ⟨_Av10, _Cv10, _ev10⟩ := _q10.val
  subst _ev10
  have _lv10 := _q10.len
  have _hiv10 := _q10.lt
  refine WL_step rfl rfl (r_fieldAddr fa42_1 rfl) ?_
  refine WL_s rfl rfl ?_
  have _f_17 := (_m_12.ch0 _cw_16)
  refine s_store1 (off := 1) _f_17 sz40 rfl rfl rfl rfl fun _w_18 _m_19 _cw_18 => ?_
  have _cw_18z := _cw_18.size
  have E := E.step _cw_18 (fun i hi => .inl (by have _h1 := List.mem_singleton.1 hi; omega))
  replace _m_19 : Blk _w_18 _b3 42 [(.slice _Av6 (aV).length _Cv6), (.slice _Av10 (aE).length _Cv10)] := _m_19
  refine WL_nil ?_
  refine thn_nrm (_hK_13 _ _ ?_)
  clear _hK_13
  refine W_seq fun _K_20 _hK_20 => ?_
  refine W_region ?_
  refine WL_step rfl rfl (r_loadAtA0 _m_19.at_ agg42 sz42 rfl) ?_
  refine WL_s rfl rfl ?_
  have _f_21 := (((((_m2.ch0 _cw_5).ch0 _cw_9).ch _cw_11 (fun hm => by have _h1 := List.mem_singleton.1 hm; omega)).ch0 _cw_16).ch _cw_18 (fun hm => by have _h1 := List.mem_singleton.1 hm; omega))
  refine s_storeA (off := 0) 2 _f_21 sz42 rfl (us := [(.slice _Av6 (aV).length _Cv6), (.slice _Av10 (aE).length _Cv10)]) rfl rfl rfl rfl fun _w_22 _m_23 _cw_22 => ?_
  have _cw_22z := _cw_22.size
  have E := E.step _cw_22 (fun i hi => .inl (by have _h1 := List.mem_singleton.1 hi; omega))
  replace _m_23 : Blk _w_22 _b2 42 [(.slice _Av6 (aV).length _Cv6), (.slice _Av10 (aE).length _Cv10)] := _m_23
  refine WL_nil ?_
  refine thn_nrm (_hK_20 _ _ ?_)
  clear _hK_20
  refine W_ret ?_
  have _f_24 := ((((_q6.ch _cw_11 (fun g hg hm => by have _h0 := List.mem_singleton.1 hm; have _h2 := _lo6 _ hg; have _h3 := _hiv6 _ hg; omega)).ch0 _cw_16).ch _cw_18 (fun g hg hm => by have _h0 := List.mem_singleton.1 hm; have _h2 := _lo6 _ hg; have _h3 := _hiv6 _ hg; omega)).ch _cw_22 (fun g hg hm => by have _h0 := List.mem_singleton.1 hm; have _h2 := _lo6 _ hg; have _h3 := _hiv6 _ hg; omega))
  have _o_25 : Ol ics 3 1 _w_22 (.slice _Av6 (aV).length _Cv6) (aV) := by
    have hx := _f_24
    first | exact hx | simpa using hx
  have _f_26 := ((_q10.ch _cw_18 (fun g hg hm => by have _h0 := List.mem_singleton.1 hm; have _h2 := _lo10 _ hg; have _h3 := _hiv10 _ hg; omega)).ch _cw_22 (fun g hg hm => by have _h0 := List.mem_singleton.1 hm; have _h2 := _lo10 _ hg; have _h3 := _hiv10 _ hg; omega))
  have _o_27 : Ol GEdge.cs 164 4 _w_22 (.slice _Av10 (aE).length _Cv10) (aE) := by
    have hx := _f_26
    first | exact hx | simpa using hx
  exact ret_intro [_] (resOf_loadA _m_23 rfl agg42 sz42 trivial) ⟨(.slice _Av6 (aV).length _Cv6), (.slice _Av10 (aE).length _Cv10), rfl, _o_25, (Lo.down _lo6 (by omega)), _o_27, (Lo.down _lo10 (by omega)), (fun g hm hg => by have _h1 := _lo6 _ hm; have _h2 := _hiv6 _ hm; have _h3 := _lo10 _ hg; have _h4 := _hiv10 _ hg; omega), E⟩

/-- spec.l1In -/
theorem c_spec_l1In {w : World} (n : Int) (a : Int) (b : Int) :
    Ctr Try.prog 93 #[(.int .i64 n), (.int .i64 a), (.int .i64 b)] w (fun v w' => v = .bool (decide (a ≤ n ∧ n ≤ b)) ∧ Ch [] w w') := by
  have E := Ch.refl [] w
  refine Ctr_of_W (N := 15) (vs0 := [(.int .i64 n), (.int .i64 a), (.int .i64 b)]) Try.func93 rfl rfl rfl ?_
  refine W_seq fun _K_1 _hK_1 => ?_
  refine W_region ?_
  refine WL_step rfl rfl (r_assign rfl) ?_
  refine WL_nil ?_
  refine thn_nrm (_hK_1 _ _ ?_)
  clear _hK_1
  refine W_seq fun _K_2 _hK_2 => ?_
  refine W_region ?_
  refine WL_step rfl rfl (r_move rfl) ?_
  refine WL_step rfl rfl (r_move rfl) ?_
  refine WL_step rfl rfl (r_geq rfl rfl) ?_
  refine WL_step rfl rfl (r_move rfl) ?_
  refine WL_split (d := 10) rfl (fun _h10 => ?_) (fun _h10 => ?_)
  · have _kb_3 := _h10
    have _h10 := bt_d _h10
    refine WL_step rfl rfl (r_move rfl) ?_
    refine WL_step rfl rfl (r_move rfl) ?_
    refine WL_step rfl rfl (r_leq rfl rfl) ?_
    refine WL_step rfl rfl (r_pickT rfl rfl) ?_
    refine WL_step rfl rfl (r_assign rfl) ?_
    refine WL_nil ?_
    refine thn_nrm (_hK_2 _ _ ?_)
    clear _hK_2
    refine W_ret ?_
    exact ret_intro [_] ⟨rfl, trivial⟩ ⟨congrArg Value.bool (by first | rfl | (rw [Bool.eq_iff_iff]; simp <;> omega) | (rw [Bool.eq_iff_iff]; simp_all; done) | simp_all), E⟩
  · have _kb_3 := _h10
    have _h10 := bf_d _h10
    refine WL_skip rfl rfl ?_
    refine WL_skip rfl rfl ?_
    refine WL_skip rfl rfl ?_
    refine WL_step rfl rfl (r_pickF rfl rfl) ?_
    refine WL_step rfl rfl (r_assign rfl) ?_
    refine WL_nil ?_
    refine thn_nrm (_hK_2 _ _ ?_)
    clear _hK_2
    refine W_ret ?_
    exact ret_intro [_] ⟨rfl, trivial⟩ ⟨congrArg Value.bool (by first | rfl | (rw [Bool.eq_iff_iff]; simp <;> omega) | (rw [Bool.eq_iff_iff]; simp_all; done) | simp_all), E⟩

/-- spec.l3Edge -/
theorem c_spec_l3Edge {w : World} {LL_gV _B_gV : Nat} {_v_gV : Value} {gV : List Int} (_h_gV : Ls ics 1 w LL_gV _B_gV _v_gV gV) {LL_gE _B_gE : Nat} {_v_gE : Value} {gE : List GEdge} (_h_gE : Ls GEdge.cs 4 w LL_gE _B_gE _v_gE gE) (e : GEdge) :
    Ctr Try.prog 172 #[(.agg #[_v_gV, _v_gE]), (.agg #[(.int .i64 e.id), (.int .i64 e.f), (.int .i64 e.t), (.int .i64 e.label)])] w (fun v w' => v = .bool (tt (EdgeOk ((gV.length : Int) - 1) e)) ∧ Ch [] w w') := by
  obtain ⟨_A_gV, _C_gV, _e1_gV⟩ := _h_gV.val
  subst _e1_gV
  have _l_gV := _h_gV.len
  have _h_gV := _h_gV.here (by decide)
  obtain ⟨_A_gE, _C_gE, _e1_gE⟩ := _h_gE.val
  subst _e1_gE
  have _l_gE := _h_gE.len
  have _h_gE := _h_gE.here (by decide)
  have E := Ch.refl [] w
  refine Ctr_of_W (N := 30) (vs0 := [(.agg #[(.slice _A_gV gV.length _C_gV), (.slice _A_gE gE.length _C_gE)]), (.agg #[(.int .i64 e.id), (.int .i64 e.f), (.int .i64 e.t), (.int .i64 e.label)])]) Try.func172 rfl rfl rfl ?_
  refine W_seq fun _K_1 _hK_1 => ?_
  refine W_region ?_
  refine WL_s rfl rfl ?_
  refine s_box rfl fun _b2 _w_2 _m2 _cw_2 _e2 => ?_
  have _cw_2z := _cw_2.size
  have E := E.trans _cw_2
  have _z2 := _m2.lt
  replace _m2 : Blk _w_2 _b2 42 [(.slice _A_gV gV.length _C_gV), (.slice _A_gE gE.length _C_gE)] := _m2
  refine WL_s rfl rfl ?_
  refine s_box rfl fun _b3 _w_3 _m3 _cw_3 _e3 => ?_
  have _cw_3z := _cw_3.size
  have E := E.trans _cw_3
  have _z3 := _m3.lt
  replace _m3 : Blk _w_3 _b3 164 [(.int .i64 e.id), (.int .i64 e.f), (.int .i64 e.t), (.int .i64 e.label)] := _m3
  refine WL_step rfl rfl (r_assign rfl) ?_
  refine WL_nil ?_
  refine thn_nrm (_hK_1 _ _ ?_)
  clear _hK_1
  refine W_seq fun _K_4 _hK_4 => ?_
  refine W_region ?_
  refine WL_step rfl rfl (r_fieldAddr fa42_0 rfl) ?_
  have _f_5 := (_m2.ch0 _cw_3)
  refine WL_step rfl rfl (r_loadAt _f_5.at_ agg33 rfl rfl) ?_
  refine WL_step rfl rfl (r_len (by rw [el33]; rfl) rfl) ?_
  refine WL_step rfl rfl (r_sub (by omega) rfl rfl) ?_
  refine WL_step rfl rfl (r_assign rfl) ?_
  refine WL_nil ?_
  refine thn_nrm (_hK_4 _ _ ?_)
  clear _hK_4
  refine W_seq fun _K_6 _hK_6 => ?_
  refine W_region ?_
  refine WL_step rfl rfl (r_fieldAddr fa164_0 rfl) ?_
  refine WL_step rfl rfl (r_loadAt _m3.at_ agg3 rfl rfl) ?_
  refine WL_s rfl rfl ?_
  refine Step.call (r_call (xs := [.tmp 11, .const (Go.Value.int Go.IntKind.i64 1), .const (Go.Value.int Go.IntKind.i64 99)]) fk93 rfl) (c_spec_l1In _ _ _ ) fun _v12 _w_7 _q12 => ?_
  obtain ⟨rfl, _cw_7⟩ := _q12
  have _cw_7z := _cw_7.size
  have E := E.trans _cw_7
  refine WL_step rfl rfl (r_move rfl) ?_
  refine WL_split (d := 13) rfl (fun _h13 => ?_) (fun _h13 => ?_)
  · have _kb_8 := _h13
    have _h13 := bt_d _h13
    refine WL_step rfl rfl (r_fieldAddr fa164_1 rfl) ?_
    have _f_9 := (_m3.ch0 _cw_7)
    refine WL_step rfl rfl (r_loadAt _f_9.at_ agg3 rfl rfl) ?_
    refine WL_step rfl rfl (r_move rfl) ?_
    refine WL_s rfl rfl ?_
    refine Step.call (r_call (xs := [.tmp 15, .const (Go.Value.int Go.IntKind.i64 0), .tmp 16]) fk93 rfl) (c_spec_l1In _ _ _ ) fun _v17 _w_10 _q17 => ?_
    obtain ⟨rfl, _cw_10⟩ := _q17
    have _cw_10z := _cw_10.size
    have E := E.trans _cw_10
    refine WL_step rfl rfl (r_pickT rfl rfl) ?_
    refine WL_step rfl rfl (r_move rfl) ?_
    refine WL_split (d := 19) rfl (fun _h19 => ?_) (fun _h19 => ?_)
    · have _kb_11 := _h19
      have _h19 := bt_d _h19
      refine WL_step rfl rfl (r_fieldAddr fa164_2 rfl) ?_
      have _f_12 := (_f_9.ch0 _cw_10)
      refine WL_step rfl rfl (r_loadAt _f_12.at_ agg3 rfl rfl) ?_
      refine WL_step rfl rfl (r_move rfl) ?_
      refine WL_s rfl rfl ?_
      refine Step.call (r_call (xs := [.tmp 21, .const (Go.Value.int Go.IntKind.i64 0), .tmp 22]) fk93 rfl) (c_spec_l1In _ _ _ ) fun _v23 _w_13 _q23 => ?_
      obtain ⟨rfl, _cw_13⟩ := _q23
      have _cw_13z := _cw_13.size
      have E := E.trans _cw_13
      refine WL_step rfl rfl (r_pickT rfl rfl) ?_
      refine WL_step rfl rfl (r_move rfl) ?_
      refine WL_split (d := 25) rfl (fun _h25 => ?_) (fun _h25 => ?_)
      · have _kb_14 := _h25
        have _h25 := bt_d _h25
        refine WL_step rfl rfl (r_fieldAddr fa164_3 rfl) ?_
        have _f_15 := (_f_12.ch0 _cw_13)
        refine WL_step rfl rfl (r_loadAt _f_15.at_ agg3 rfl rfl) ?_
        refine WL_s rfl rfl ?_
        refine Step.call (r_call (xs := [.tmp 27, .const (Go.Value.int Go.IntKind.i64 0), .const (Go.Value.int Go.IntKind.i64 2)]) fk93 rfl) (c_spec_l1In _ _ _ ) fun _v28 _w_16 _q28 => ?_
        obtain ⟨rfl, _cw_16⟩ := _q28
        have _cw_16z := _cw_16.size
        have E := E.trans _cw_16
        refine WL_step rfl rfl (r_pickT rfl rfl) ?_
        refine WL_step rfl rfl (r_assign rfl) ?_
        refine WL_nil ?_
        refine thn_nrm (_hK_6 _ _ ?_)
        clear _hK_6
        refine W_ret ?_
        exact ret_intro [_] ⟨rfl, trivial⟩ ⟨congrArg Value.bool (by first | exact tt_false (fun q => by unfold EdgeOk at q; omega) | (rw [tt_dec]; exact tt_eq ⟨fun q => by unfold EdgeOk; omega, fun q => by unfold EdgeOk at q; omega⟩)), E⟩
      · have _kb_14 := _h25
        have _h25 := bf_d _h25
        refine WL_skip rfl rfl ?_
        refine WL_skip rfl rfl ?_
        refine WL_skip rfl rfl ?_
        refine WL_step rfl rfl (r_pickF rfl rfl) ?_
        refine WL_step rfl rfl (r_assign rfl) ?_
        refine WL_nil ?_
        refine thn_nrm (_hK_6 _ _ ?_)
        clear _hK_6
        refine W_ret ?_
        exact ret_intro [_] ⟨rfl, trivial⟩ ⟨congrArg Value.bool (by first | exact tt_false (fun q => by unfold EdgeOk at q; omega) | (rw [tt_dec]; exact tt_eq ⟨fun q => by unfold EdgeOk; omega, fun q => by unfold EdgeOk at q; omega⟩)), E⟩
    · have _kb_11 := _h19
      have _h19 := bf_d _h19
      refine WL_skip rfl rfl ?_
      refine WL_skip rfl rfl ?_
      refine WL_skip rfl rfl ?_
      refine WL_skip rfl rfl ?_
      refine WL_step rfl rfl (r_pickF rfl rfl) ?_
      refine WL_step rfl rfl (r_move rfl) ?_
      refine WL_skip rfl rfl ?_
      refine WL_skip rfl rfl ?_
      refine WL_skip rfl rfl ?_
      refine WL_step rfl rfl (r_pickF rfl rfl) ?_
      refine WL_step rfl rfl (r_assign rfl) ?_
      refine WL_nil ?_
      refine thn_nrm (_hK_6 _ _ ?_)
      clear _hK_6
      refine W_ret ?_
      exact ret_intro [_] ⟨rfl, trivial⟩ ⟨congrArg Value.bool (by first | exact tt_false (fun q => by unfold EdgeOk at q; omega) | (rw [tt_dec]; exact tt_eq ⟨fun q => by unfold EdgeOk; omega, fun q => by unfold EdgeOk at q; omega⟩)), E⟩
  · have _kb_8 := _h13
    have _h13 := bf_d _h13
    refine WL_skip rfl rfl ?_
    refine WL_skip rfl rfl ?_
    refine WL_skip rfl rfl ?_
    refine WL_skip rfl rfl ?_
    refine WL_step rfl rfl (r_pickF rfl rfl) ?_
    refine WL_step rfl rfl (r_move rfl) ?_
    refine WL_skip rfl rfl ?_
    refine WL_skip rfl rfl ?_
    refine WL_skip rfl rfl ?_
    refine WL_skip rfl rfl ?_
    refine WL_step rfl rfl (r_pickF rfl rfl) ?_
    refine WL_step rfl rfl (r_move rfl) ?_
    refine WL_skip rfl rfl ?_
    refine WL_skip rfl rfl ?_
    refine WL_skip rfl rfl ?_
    refine WL_step rfl rfl (r_pickF rfl rfl) ?_
    refine WL_step rfl rfl (r_assign rfl) ?_
    refine WL_nil ?_
    refine thn_nrm (_hK_6 _ _ ?_)
    clear _hK_6
    refine W_ret ?_
    exact ret_intro [_] ⟨rfl, trivial⟩ ⟨congrArg Value.bool (by first | exact tt_false (fun q => by unfold EdgeOk at q; omega) | (rw [tt_dec]; exact tt_eq ⟨fun q => by unfold EdgeOk; omega, fun q => by unfold EdgeOk at q; omega⟩)), E⟩

/-- spec.IsValidGraph -/
theorem c_spec_IsValidGraph {w : World} {LL_gV _B_gV : Nat} {_v_gV : Value} {gV : List Int} (_h_gV : Ls ics 1 w LL_gV _B_gV _v_gV gV) {LL_gE _B_gE : Nat} {_v_gE : Value} {gE : List GEdge} (_h_gE : Ls GEdge.cs 4 w LL_gE _B_gE _v_gE gE) :
    Ctr Try.prog 130 #[(.agg #[_v_gV, _v_gE])] w (fun v w' => v = .bool (tt (ValidG gV gE)) ∧ Ch [] w w') := by
  obtain ⟨_A_gV, _C_gV, _e1_gV⟩ := _h_gV.val
  subst _e1_gV
  have _l_gV := _h_gV.len
  have _h_gV := _h_gV.here (by decide)
  obtain ⟨_A_gE, _C_gE, _e1_gE⟩ := _h_gE.val
  subst _e1_gE
  have _l_gE := _h_gE.len
  have _h_gE := _h_gE.here (by decide)
  have E := Ch.refl [] w
  refine Ctr_of_W (N := 64) (vs0 := [(.agg #[(.slice _A_gV gV.length _C_gV), (.slice _A_gE gE.length _C_gE)])]) Try.func130 rfl rfl rfl ?_
  refine W_seq fun _K_1 _hK_1 => ?_
  refine W_region ?_
  refine WL_s rfl rfl ?_
  refine s_box rfl fun _b1 _w_2 _m1 _cw_2 _e1 => ?_
  have _cw_2z := _cw_2.size
  have E := E.trans _cw_2
  have _z1 := _m1.lt
  replace _m1 : Blk _w_2 _b1 42 [(.slice _A_gV gV.length _C_gV), (.slice _A_gE gE.length _C_gE)] := _m1
  refine WL_step rfl rfl (r_assign rfl) ?_
  refine WL_nil ?_
  refine thn_nrm (_hK_1 _ _ ?_)
  clear _hK_1
  refine W_seq fun _K_3 _hK_3 => ?_
  refine W_seq fun _K_4 _hK_4 => ?_
  refine W_region ?_
  refine WL_step rfl rfl (r_assign rfl) ?_
  refine WL_nil ?_
  refine thn_nrm (_hK_4 _ _ ?_)
  clear _hK_4
  refine W_block ?_
  refine W_loop (σ := Nat) (fun (k : Nat) => [(1, (.pointer (some ⟨_b1, 0, none⟩))), (3, (.int .i64 ((k : Nat) : Int)))]) (fun (k : Nat) wx => Ch [] w wx ∧ _w_2.heap.size ≤ wx.heap.size ∧ (k ≤ gV.length) ∧ (ValsP gV k) ∧ Blk wx _b1 42 [(.slice _A_gV gV.length _C_gV), (.slice _A_gE gE.length _C_gE)]) (fun (k : Nat) => gV.length - k) 0 (Sub.cons rfl (Sub.cons rfl (Sub.nil _))) ⟨E, (Nat.le_refl _), (by omega), (vals_zero _), _m1⟩ ?_
  rintro k _wr_5 ⟨E, _zz0, _hk, hv, _F0_0⟩
  have _E0h := E
  have _E0hz := _E0h.size
  have _F0_0z := _F0_0.lt
  refine W_seq fun _K_6 _hK_6 => ?_
  refine W_seq fun _K_7 _hK_7 => ?_
  refine W_region ?_
  refine WL_step rfl rfl (r_move rfl) ?_
  refine WL_step rfl rfl (r_fieldAddr fa42_0 rfl) ?_
  refine WL_step rfl rfl (r_loadAt _F0_0.at_ agg33 rfl rfl) ?_
  refine WL_step rfl rfl (r_len (by rw [el33]; rfl) rfl) ?_
  refine WL_step rfl rfl (r_lss rfl rfl) ?_
  refine WL_nil ?_
  refine thn_nrm (_hK_7 _ _ ?_)
  clear _hK_7
  refine W_cond rfl (fun _h9 => ?_) (fun _h9 => ?_)
  · have _kb_8 := _h9
    have _h9 := bt_d _h9
    refine W_skip ?_
    refine thn_nrm (_hK_6 _ _ ?_)
    clear _hK_6
    refine W_seq fun _K_9 _hK_9 => ?_
    refine W_block ?_
    refine W_seq fun _K_10 _hK_10 => ?_
    refine W_region ?_
    refine WL_step rfl rfl (r_fieldAddr fa42_0 rfl) ?_
    refine WL_step rfl rfl (r_loadAt _F0_0.at_ agg33 rfl rfl) ?_
    refine WL_step rfl rfl (r_move rfl) ?_
    refine WL_s rfl rfl ?_
    have _f_11 := (_h_gV.ch0 _E0h)
    refine (s_index _f_11 ics_len el33 sz3 rfl rfl rfl (by omega) fun _p15 _y15 _hy15 _a15 => ?_)
    refine WL_step rfl rfl (r_loadAt0 _a15 agg3 rfl rfl) ?_
    refine WL_s rfl rfl ?_
    refine Step.call (r_call (xs := [.tmp 16, .const (Go.Value.int Go.IntKind.i64 0), .const (Go.Value.int Go.IntKind.i64 2)]) fk93 rfl) (c_spec_l1In _ _ _ ) fun _v17 _w_12 _q17 => ?_
    obtain ⟨rfl, _cw_12⟩ := _q17
    have _cw_12z := _cw_12.size
    have E := E.trans _cw_12
    refine WL_step rfl rfl (r_not rfl) ?_
    refine WL_nil ?_
    refine thn_nrm (_hK_10 _ _ ?_)
    clear _hK_10
    refine W_cond rfl (fun _h18 => ?_) (fun _h18 => ?_)
    · have _kb_13 := _h18
      have _h18 := bf_d (bt_n _h18)
      refine W_seq fun _K_14 _hK_14 => ?_
      refine W_region ?_
      refine WL_step rfl rfl (r_assign rfl) ?_
      refine WL_nil ?_
      refine thn_nrm (_hK_14 _ _ ?_)
      clear _hK_14
      refine W_ret (inB_ret (thn_ret (thn_ret (inB_ret (thn_ret ?_)))))
      clear _hK_3 _hK_9
      exact ret_intro [_] ⟨rfl, trivial⟩ ⟨congrArg Value.bool (by first | exact tt_false (fun q => _h18 (vals_val q _hy15)) | exact tt_false (fun q => _h34 (edge_val q _hy30)) | exact tt_false (fun q => by have _e2 := gedge_lt2 q _hy48 _hy42 (by omega); omega) | exact vg_y hv (by omega) hE (by omega) (by omega) | exact tt_false (fun q => by have _e2 := q.2.2.1; omega)), E⟩
    · have _kb_13 := _h18
      have _h18 := bt_d (bf_n _h18)
      refine W_skip ?_
      refine inB_nrm ?_
      refine thn_nrm (_hK_9 _ _ ?_)
      clear _hK_9
      refine W_region ?_
      refine WL_step rfl rfl (r_move rfl) ?_
      refine WL_step rfl rfl (r_add (by omega) rfl rfl) ?_
      refine WL_step rfl rfl (r_assign rfl) ?_
      refine WL_nil ?_
      have _f_15 := (_F0_0.ch0 _cw_12)
      exact thn_nrm (Exists.intro (k + 1) ⟨⟨E, (by omega), (by omega), (vals_step hv _hy15 _h18), _f_15⟩, Sub.cons rfl (Sub.cons rfl (Sub.nil _)), (by first | omega | (dsimp only; omega))⟩)
  · have _kb_8 := _h9
    have _h9 := bf_d _h9
    refine W_exit (thn_exit (thn_exit (inB_hit ?_)))
    refine thn_nrm (_hK_3 _ _ ?_)
    clear _hK_3
    refine W_seq fun _K_16 _hK_16 => ?_
    refine W_seq fun _K_17 _hK_17 => ?_
    refine W_region ?_
    refine WL_step rfl rfl (r_assign rfl) ?_
    refine WL_nil ?_
    refine thn_nrm (_hK_17 _ _ ?_)
    clear _hK_17
    refine W_block ?_
    refine W_loop (σ := Nat) (fun (q : Nat) => [(1, (.pointer (some ⟨_b1, 0, none⟩))), (4, (.int .i64 ((q : Nat) : Int)))]) (fun (q : Nat) wx => Ch [] w wx ∧ _wr_5.heap.size ≤ wx.heap.size ∧ (q ≤ gE.length) ∧ (EdgesP ((gV.length : Int) - 1) gE q) ∧ Blk wx _b1 42 [(.slice _A_gV gV.length _C_gV), (.slice _A_gE gE.length _C_gE)]) (fun (q : Nat) => gE.length - q) 0 (Sub.cons rfl (Sub.cons rfl (Sub.nil _))) ⟨E, (Nat.le_refl _), (by omega), (edges_zero _ _), _F0_0⟩ ?_
    rintro q _wr_18 ⟨E, _zz1, hq, hE, _F1_0⟩
    have _E1h := E
    have _E1hz := _E1h.size
    have _F1_0z := _F1_0.lt
    refine W_seq fun _K_19 _hK_19 => ?_
    refine W_seq fun _K_20 _hK_20 => ?_
    refine W_region ?_
    refine WL_step rfl rfl (r_move rfl) ?_
    refine WL_step rfl rfl (r_fieldAddr fa42_1 rfl) ?_
    refine WL_step rfl rfl (r_loadAt _F1_0.at_ agg40 rfl rfl) ?_
    refine WL_step rfl rfl (r_len (by rw [el40]; rfl) rfl) ?_
    refine WL_step rfl rfl (r_lss rfl rfl) ?_
    refine WL_nil ?_
    refine thn_nrm (_hK_20 _ _ ?_)
    clear _hK_20
    refine W_cond rfl (fun _h23 => ?_) (fun _h23 => ?_)
    · have _kb_21 := _h23
      have _h23 := bt_d _h23
      refine W_skip ?_
      refine thn_nrm (_hK_19 _ _ ?_)
      clear _hK_19
      refine W_seq fun _K_22 _hK_22 => ?_
      refine W_block ?_
      refine W_seq fun _K_23 _hK_23 => ?_
      refine W_drawC [] 28 mixed rfl fun _w_24 _cw_24 => ?_
      have _cw_24z := _cw_24.size
      have E := E.trans _cw_24
      have _f_25 := (_F1_0.ch0 _cw_24)
      refine DR_s 0 rfl (by kernel_rfl) rfl rfl (t_loadAtA0 _f_25.at_ (fun i hi => absurd hi List.not_mem_nil) agg42 sz42 rfl ?_)
      refine DR_s 1 rfl (by kernel_rfl) rfl rfl (t_v (fun _ => (r_fieldAddr fa42_1 rfl)) ?_)
      refine DR_s 2 rfl (by kernel_rfl) rfl rfl (t_loadAt _f_25.at_ (fun i hi => absurd hi List.not_mem_nil) agg40 rfl rfl ?_)
      refine DR_s 3 rfl (by kernel_rfl) rfl rfl (t_v (fun _ => (r_move rfl)) ?_)
      have _f_26 := ((_h_gE.ch0 _E1h).ch0 _cw_24)
      refine DR_s 4 rfl (by kernel_rfl) rfl rfl (t_index _f_26 GEdge.len el40 sz164 rfl rfl rfl (by omega) fun _p30 _y30 _hy30 _a30 => ?_)
      refine DR_s 5 rfl (by kernel_rfl) rfl rfl (t_loadAtA0 _a30 (fun i hi => absurd hi List.not_mem_nil) agg164 sz164 rfl ?_)
      refine DR_one 6 (by kernel_rfl) ?_
      refine DO_s rfl rfl rfl ?_
      have _f_27 := ((_h_gV.ch0 _E1h).ch0 _cw_24)
      refine Step.call (r_call (xs := [.tmp 26, .tmp 31]) fk172 rfl) (c_spec_l3Edge _f_27 _f_26 _y30 ) fun _v32 _w_28 _q32 => ?_
      obtain ⟨rfl, _cw_28⟩ := _q32
      have _cw_28z := _cw_28.size
      have E := E.trans _cw_28
      have _S_29 : Ch [] _w_24 _w_28 := ((Ch.refl _ _).trans _cw_28)
      refine ⟨_S_29, ?_⟩
      refine DR_s 7 rfl (by kernel_rfl) rfl rfl (t_v (fun _ => (r_not rfl)) ?_)
      refine DR_s 8 rfl (by kernel_rfl) rfl rfl (t_v (fun _ => (r_move rfl)) ?_)
      refine DR_split (d := 34) rfl (fun _h34 => ?_) (fun _h34 => ?_)
      · have _kb_30 := _h34
        have _h34 := bf_t (bt_n _h34)
        refine DR_skip 9 rfl (by kernel_rfl) rfl rfl ?_
        refine DR_skip 10 rfl (by kernel_rfl) rfl rfl ?_
        refine DR_skip 11 rfl (by kernel_rfl) rfl rfl ?_
        refine DR_skip 12 rfl (by kernel_rfl) rfl rfl ?_
        refine DR_skip 13 rfl (by kernel_rfl) rfl rfl ?_
        refine DR_skip 14 rfl (by kernel_rfl) rfl rfl ?_
        refine DR_skip 15 rfl (by kernel_rfl) rfl rfl ?_
        refine DR_skip 16 rfl (by kernel_rfl) rfl rfl ?_
        refine DR_skip 17 rfl (by kernel_rfl) rfl rfl ?_
        refine DR_skip 18 rfl (by kernel_rfl) rfl rfl ?_
        refine DR_skip 19 rfl (by kernel_rfl) rfl rfl ?_
        refine DR_skip 20 rfl (by kernel_rfl) rfl rfl ?_
        refine DR_skip 21 rfl (by kernel_rfl) rfl rfl ?_
        refine DR_skip 22 rfl (by kernel_rfl) rfl rfl ?_
        refine DR_skip 23 rfl (by kernel_rfl) rfl rfl ?_
        refine DR_skip 24 rfl (by kernel_rfl) rfl rfl ?_
        refine DR_skip 25 rfl (by kernel_rfl) rfl rfl ?_
        refine DR_skip 26 rfl (by kernel_rfl) rfl rfl ?_
        refine DR_s 27 rfl (by kernel_rfl) rfl rfl (t_v (fun _ => (r_pickT rfl rfl)) ?_)
        refine DR_done (by kernel_rfl) ?_
        refine thn_nrm (_hK_23 _ _ ?_)
        clear _hK_23
        refine W_condT rfl ?_
        refine W_seq fun _K_31 _hK_31 => ?_
        refine W_region ?_
        refine WL_step rfl rfl (r_assign rfl) ?_
        refine WL_nil ?_
        refine thn_nrm (_hK_31 _ _ ?_)
        clear _hK_31
        refine W_ret (inB_ret (thn_ret (thn_ret (inB_ret (thn_ret ?_)))))
        clear _hK_6 _hK_16 _hK_22
        exact ret_intro [_] ⟨rfl, trivial⟩ ⟨congrArg Value.bool (by first | exact tt_false (fun q => _h18 (vals_val q _hy15)) | exact tt_false (fun q => _h34 (edge_val q _hy30)) | exact tt_false (fun q => by have _e2 := gedge_lt2 q _hy48 _hy42 (by omega); omega) | exact vg_y hv (by omega) hE (by omega) (by omega) | exact tt_false (fun q => by have _e2 := q.2.2.1; omega)), E⟩
      · have _kb_30 := _h34
        have _h34 := bt_t (bf_n _h34)
        refine DR_s 9 rfl (by kernel_rfl) rfl rfl (t_v (fun _ => (r_move rfl)) ?_)
        refine DR_s 10 rfl (by kernel_rfl) rfl rfl (t_v (fun _ => (r_gtr rfl rfl)) ?_)
        refine DR_s 11 rfl (by kernel_rfl) rfl rfl (t_v (fun _ => (r_move rfl)) ?_)
        refine DR_split (d := 37) rfl (fun _h37 => ?_) (fun _h37 => ?_)
        · have _kb_32 := _h37
          have _h37 := bt_d _h37
          refine DR_s 12 rfl (by kernel_rfl) rfl rfl (t_v (fun _ => (r_fieldAddr fa42_1 rfl)) ?_)
          refine DR_s 13 rfl (by kernel_rfl) rfl rfl (t_loadAt _f_25.at_ (fun i hi => absurd hi List.not_mem_nil) agg40 rfl rfl ?_)
          refine DR_s 14 rfl (by kernel_rfl) rfl rfl (t_v (fun _ => (r_move rfl)) ?_)
          refine DR_s 15 rfl (by kernel_rfl) rfl rfl (t_v (fun _ => (r_sub (by omega) rfl rfl)) ?_)
          refine DR_s 16 rfl (by kernel_rfl) rfl rfl (t_index (j := (((q : Nat) : Int) - 1).toNat) _f_26 GEdge.len el40 sz164 rfl rfl (by omega) (by omega) fun _p42 _y42 _hy42 _a42 => ?_)
          refine DR_s 17 rfl (by kernel_rfl) rfl rfl (t_v (fun _ => (r_fieldAddr fa164_0 rfl)) ?_)
          refine DR_s 18 rfl (by kernel_rfl) rfl rfl (t_loadAt _a42 (fun i hi => absurd hi List.not_mem_nil) agg3 rfl rfl ?_)
          refine DR_s 19 rfl (by kernel_rfl) rfl rfl (t_v (fun _ => (r_fieldAddr fa42_1 rfl)) ?_)
          refine DR_s 20 rfl (by kernel_rfl) rfl rfl (t_loadAt _f_25.at_ (fun i hi => absurd hi List.not_mem_nil) agg40 rfl rfl ?_)
          refine DR_s 21 rfl (by kernel_rfl) rfl rfl (t_v (fun _ => (r_move rfl)) ?_)
          refine DR_s 22 rfl (by kernel_rfl) rfl rfl (t_index _f_26 GEdge.len el40 sz164 rfl rfl rfl (by omega) fun _p48 _y48 _hy48 _a48 => ?_)
          refine DR_s 23 rfl (by kernel_rfl) rfl rfl (t_v (fun _ => (r_fieldAddr fa164_0 rfl)) ?_)
          refine DR_s 24 rfl (by kernel_rfl) rfl rfl (t_loadAt _a48 (fun i hi => absurd hi List.not_mem_nil) agg3 rfl rfl ?_)
          refine DR_s 25 rfl (by kernel_rfl) rfl rfl (t_v (fun _ => (r_geq rfl rfl)) ?_)
          refine DR_s 26 rfl (by kernel_rfl) rfl rfl (t_v (fun _ => (r_pickT rfl rfl)) ?_)
          refine DR_s 27 rfl (by kernel_rfl) rfl rfl (t_v (fun _ => (r_pickF rfl rfl)) ?_)
          refine DR_done (by kernel_rfl) ?_
          refine thn_nrm (_hK_23 _ _ ?_)
          clear _hK_23
          refine W_cond rfl (fun _h53 => ?_) (fun _h53 => ?_)
          · have _kb_33 := _h53
            have _h53 := bt_d _h53
            refine W_seq fun _K_34 _hK_34 => ?_
            refine W_region ?_
            refine WL_step rfl rfl (r_assign rfl) ?_
            refine WL_nil ?_
            refine thn_nrm (_hK_34 _ _ ?_)
            clear _hK_34
            refine W_ret (inB_ret (thn_ret (thn_ret (inB_ret (thn_ret ?_)))))
            clear _hK_6 _hK_16 _hK_22
            exact ret_intro [_] ⟨rfl, trivial⟩ ⟨congrArg Value.bool (by first | exact tt_false (fun q => _h18 (vals_val q _hy15)) | exact tt_false (fun q => _h34 (edge_val q _hy30)) | exact tt_false (fun q => by have _e2 := gedge_lt2 q _hy48 _hy42 (by omega); omega) | exact vg_y hv (by omega) hE (by omega) (by omega) | exact tt_false (fun q => by have _e2 := q.2.2.1; omega)), E⟩
          · have _kb_33 := _h53
            have _h53 := bf_d _h53
            refine W_skip ?_
            refine inB_nrm ?_
            refine thn_nrm (_hK_22 _ _ ?_)
            clear _hK_22
            refine W_region ?_
            refine WL_step rfl rfl (r_move rfl) ?_
            refine WL_step rfl rfl (r_add (by omega) rfl rfl) ?_
            refine WL_step rfl rfl (r_assign rfl) ?_
            refine WL_nil ?_
            have _f_35 := (_f_25.ch0 _cw_28)
            exact thn_nrm (Exists.intro (q + 1) ⟨⟨E, (by omega), (by omega), (by first | exact edges_step0 hE _hy30 _h34 (by omega) | (have _u9 := get_uniq _hy30 _hy48; exact edges_stepj hE _hy30 _h34 _hy42 (by omega) (by first | omega | (rw [_u9]; omega)))), _f_35⟩, Sub.cons rfl (Sub.cons rfl (Sub.nil _)), (by first | omega | (dsimp only; omega))⟩)
        · have _kb_32 := _h37
          have _h37 := bf_d _h37
          refine DR_skip 12 rfl (by kernel_rfl) rfl rfl ?_
          refine DR_skip 13 rfl (by kernel_rfl) rfl rfl ?_
          refine DR_skip 14 rfl (by kernel_rfl) rfl rfl ?_
          refine DR_skip 15 rfl (by kernel_rfl) rfl rfl ?_
          refine DR_skip 16 rfl (by kernel_rfl) rfl rfl ?_
          refine DR_skip 17 rfl (by kernel_rfl) rfl rfl ?_
          refine DR_skip 18 rfl (by kernel_rfl) rfl rfl ?_
          refine DR_skip 19 rfl (by kernel_rfl) rfl rfl ?_
          refine DR_skip 20 rfl (by kernel_rfl) rfl rfl ?_
          refine DR_skip 21 rfl (by kernel_rfl) rfl rfl ?_
          refine DR_skip 22 rfl (by kernel_rfl) rfl rfl ?_
          refine DR_skip 23 rfl (by kernel_rfl) rfl rfl ?_
          refine DR_skip 24 rfl (by kernel_rfl) rfl rfl ?_
          refine DR_skip 25 rfl (by kernel_rfl) rfl rfl ?_
          refine DR_s 26 rfl (by kernel_rfl) rfl rfl (t_v (fun _ => (r_pickF rfl rfl)) ?_)
          refine DR_s 27 rfl (by kernel_rfl) rfl rfl (t_v (fun _ => (r_pickF rfl rfl)) ?_)
          refine DR_done (by kernel_rfl) ?_
          refine thn_nrm (_hK_23 _ _ ?_)
          clear _hK_23
          refine W_condF rfl ?_
          refine W_skip ?_
          refine inB_nrm ?_
          refine thn_nrm (_hK_22 _ _ ?_)
          clear _hK_22
          refine W_region ?_
          refine WL_step rfl rfl (r_move rfl) ?_
          refine WL_step rfl rfl (r_add (by omega) rfl rfl) ?_
          refine WL_step rfl rfl (r_assign rfl) ?_
          refine WL_nil ?_
          have _f_36 := (_f_25.ch0 _cw_28)
          exact thn_nrm (Exists.intro (q + 1) ⟨⟨E, (by omega), (by omega), (by first | exact edges_step0 hE _hy30 _h34 (by omega) | (have _u9 := get_uniq _hy30 _hy48; exact edges_stepj hE _hy30 _h34 _hy42 (by omega) (by first | omega | (rw [_u9]; omega)))), _f_36⟩, Sub.cons rfl (Sub.cons rfl (Sub.nil _)), (by first | omega | (dsimp only; omega))⟩)
    · have _kb_21 := _h23
      have _h23 := bf_d _h23
      refine W_exit (thn_exit (thn_exit (inB_hit ?_)))
      refine thn_nrm (_hK_16 _ _ ?_)
      clear _hK_16
      refine W_seq fun _K_37 _hK_37 => ?_
      refine W_region ?_
      refine WL_step rfl rfl (r_fieldAddr fa42_0 rfl) ?_
      refine WL_step rfl rfl (r_loadAt _F1_0.at_ agg33 rfl rfl) ?_
      refine WL_step rfl rfl (r_len (by rw [el33]; rfl) rfl) ?_
      refine WL_s rfl rfl ?_
      refine Step.call (r_call (xs := [.tmp 56, .const (Go.Value.int Go.IntKind.i64 1), .const (Go.Value.int Go.IntKind.i64 5)]) fk93 rfl) (c_spec_l1In _ _ _ ) fun _v57 _w_38 _q57 => ?_
      obtain ⟨rfl, _cw_38⟩ := _q57
      have _cw_38z := _cw_38.size
      have E := E.trans _cw_38
      refine WL_step rfl rfl (r_move rfl) ?_
      refine WL_split (d := 58) rfl (fun _h58 => ?_) (fun _h58 => ?_)
      · have _kb_39 := _h58
        have _h58 := bt_d _h58
        refine WL_step rfl rfl (r_fieldAddr fa42_1 rfl) ?_
        have _f_40 := (_F1_0.ch0 _cw_38)
        refine WL_step rfl rfl (r_loadAt _f_40.at_ agg40 rfl rfl) ?_
        refine WL_step rfl rfl (r_len (by rw [el40]; rfl) rfl) ?_
        refine WL_step rfl rfl (r_leq rfl rfl) ?_
        refine WL_step rfl rfl (r_pickT rfl rfl) ?_
        refine WL_step rfl rfl (r_assign rfl) ?_
        refine WL_nil ?_
        refine thn_nrm (_hK_37 _ _ ?_)
        clear _hK_37
        refine W_ret ?_
        clear _hK_6 _hK_19
        exact ret_intro [_] ⟨rfl, trivial⟩ ⟨congrArg Value.bool (by first | exact tt_false (fun q => _h18 (vals_val q _hy15)) | exact tt_false (fun q => _h34 (edge_val q _hy30)) | exact tt_false (fun q => by have _e2 := gedge_lt2 q _hy48 _hy42 (by omega); omega) | exact vg_y hv (by omega) hE (by omega) (by omega) | exact tt_false (fun q => by have _e2 := q.2.2.1; omega)), E⟩
      · have _kb_39 := _h58
        have _h58 := bf_d _h58
        refine WL_skip rfl rfl ?_
        refine WL_skip rfl rfl ?_
        refine WL_skip rfl rfl ?_
        refine WL_skip rfl rfl ?_
        refine WL_step rfl rfl (r_pickF rfl rfl) ?_
        refine WL_step rfl rfl (r_assign rfl) ?_
        refine WL_nil ?_
        refine thn_nrm (_hK_37 _ _ ?_)
        clear _hK_37
        refine W_ret ?_
        clear _hK_6 _hK_19
        exact ret_intro [_] ⟨rfl, trivial⟩ ⟨congrArg Value.bool (by first | exact tt_false (fun q => _h18 (vals_val q _hy15)) | exact tt_false (fun q => _h34 (edge_val q _hy30)) | exact tt_false (fun q => by have _e2 := gedge_lt2 q _hy48 _hy42 (by omega); omega) | exact vg_y hv (by omega) hE (by omega) (by omega) | exact tt_false (fun q => by have _e2 := q.2.2.1; omega)), E⟩

end Go.Proofs.Ythchonkpkgogjaa
