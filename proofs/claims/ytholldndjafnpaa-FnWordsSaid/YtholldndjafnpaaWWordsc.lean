/- Walks of functions that FnWords reaches: what each returns, and that it leaves the memory that was there alone. -/
import Derived.Test.YtholldndjafnpaaLibA
import Derived.Test.YtholldndjafnpaaLibB
import Derived.Test.YtholldndjafnpaaWWords
import Derived.Test.YtholldndjafnpaaWWordsb
import Derived.Test.YtholldndjafnpaaProg
namespace Go.Proofs.Ytholldndjafnpaa
open Go.KLib Go.Shelf
set_option maxHeartbeats 1000000
set_option maxRecDepth 20000
set_option linter.unusedVariables false
set_option linter.unusedSimpArgs false
namespace TWordsc
theorem agg24 : aggB Try.prog 24 = some false := by kernel_rfl
theorem agg3 : aggB Try.prog 3 = some false := by kernel_rfl
theorem agg4 : aggB Try.prog 4 = some false := by kernel_rfl
theorem agg65 : aggB Try.prog 65 = some false := by kernel_rfl
theorem agg67 : aggB Try.prog 67 = some true := by kernel_rfl
theorem by126 : bytesB Try.prog 126 = some 32 := by kernel_rfl
theorem by24 : bytesB Try.prog 24 = some 24 := by kernel_rfl
theorem by3 : bytesB Try.prog 3 = some 8 := by kernel_rfl
theorem by4 : bytesB Try.prog 4 = some 1 := by kernel_rfl
theorem el194 : elB Try.prog 194 = some 24 := by kernel_rfl
theorem el24 : elB Try.prog 24 = some 4 := by kernel_rfl
theorem el30 : elB Try.prog 30 = some 3 := by kernel_rfl
theorem el65 : elB Try.prog 65 = some 126 := by kernel_rfl
theorem fa126_0 : faB Try.prog 126 0 = some 0 := by kernel_rfl
theorem fa126_1 : faB Try.prog 126 1 = some 1 := by kernel_rfl
theorem fa67_0 : faB Try.prog 67 0 = some 0 := by kernel_rfl
theorem fk118 : fnB Try.prog 118 = true := by kernel_rfl
theorem fk120 : fnB Try.prog 120 = true := by kernel_rfl
theorem fk121 : fnB Try.prog 121 = true := by kernel_rfl
theorem fk125 : fnB Try.prog 125 = true := by kernel_rfl
theorem fk126 : fnB Try.prog 126 = true := by kernel_rfl
theorem fk127 : fnB Try.prog 127 = true := by kernel_rfl
theorem fk133 : fnB Try.prog 133 = true := by kernel_rfl
theorem fk147 : fnB Try.prog 147 = true := by kernel_rfl
theorem fk157 : fnB Try.prog 157 = true := by kernel_rfl
theorem fk177 : fnB Try.prog 177 = true := by kernel_rfl
theorem fk178 : fnB Try.prog 178 = true := by kernel_rfl
theorem fk180 : fnB Try.prog 180 = true := by kernel_rfl
theorem fk181 : fnB Try.prog 181 = true := by kernel_rfl
theorem fk182 : fnB Try.prog 182 = true := by kernel_rfl
theorem fk184 : fnB Try.prog 184 = true := by kernel_rfl
theorem fk201 : fnB Try.prog 201 = true := by kernel_rfl
theorem fk202 : fnB Try.prog 202 = true := by kernel_rfl
theorem fk217 : fnB Try.prog 217 = true := by kernel_rfl
theorem fk74 : fnB Try.prog 74 = true := by kernel_rfl
theorem fk76 : fnB Try.prog 76 = true := by kernel_rfl
theorem mixed : Try.prog.follows .mixedOrders = true := by kernel_rfl
theorem pl126 : placesB Try.prog 126 = some [(0, 1), (1, 1), (2, 1), (3, 1)] := by kernel_rfl
theorem pl67 : placesB Try.prog 67 = some [(0, 1)] := by kernel_rfl
theorem sz126 : sizeB Try.prog 126 = some 4 := by kernel_rfl
theorem sz24 : sizeB Try.prog 24 = some 1 := by kernel_rfl
theorem sz3 : sizeB Try.prog 3 = some 1 := by kernel_rfl
theorem sz4 : sizeB Try.prog 4 = some 1 := by kernel_rfl
theorem sz65 : sizeB Try.prog 65 = some 1 := by kernel_rfl
theorem sz67 : sizeB Try.prog 67 = some 1 := by kernel_rfl
theorem zr126 : zeroB Try.prog 126 = some (.agg #[.int .i64 0, .int .i64 0, .int .i64 0, .int .i64 0]) := by kernel_rfl
theorem zr24 : zeroB Try.prog 24 = some (.slice none 0 0) := by kernel_rfl
theorem zr3 : zeroB Try.prog 3 = some (.int .i64 0) := by kernel_rfl
theorem zr4 : zeroB Try.prog 4 = some (.bool false) := by kernel_rfl
theorem zr67 : zeroB Try.prog 67 = some (.agg #[.slice none 0 0]) := by kernel_rfl
end TWordsc
open TWordsc

/-- spec.l8Make -/
theorem c_spec_l8Make_n : ∀ (n : Nat) {w : World} {b_c : Nat} (_h_c : Cu w b_c) (deep : Int) (hd : 0 ≤ deep ∧ deep ≤ 3) (hsz : deep.toNat < n),
    Ctr Try.prog 202 #[(.pointer (some ⟨b_c, 0, none⟩)), (.int .i64 deep)] w (fun v w' => ∃ (xq0 : List Token) (ud0x0 : Value), v = .agg #[ud0x0] ∧ Ol Token.cs 126 4 w' ud0x0 (xq0) ∧ Lo w.heap.size ud0x0 ∧ (1 ≤ xq0.length ∧ xq0.length + 1 ≤ 2 ^ (deep.toNat + 1)) ∧ Cu w' b_c ∧ Ch [b_c] w w') := by
  intro n
  induction n with
  | zero => intros; omega
  | succ n ih =>
  intro w b_c _h_c deep hd hsz
  have _zb_c := _h_c.lt
  have E := Ch.refl [b_c] w
  refine Ctr_of_W (N := 70) (vs0 := [(.pointer (some ⟨b_c, 0, none⟩)), (.int .i64 deep)]) Try.func202 rfl rfl rfl ?_
  refine W_seq fun _K_1 _hK_1 => ?_
  refine W_region ?_
  refine WL_s rfl rfl ?_
  refine s_alloc zr67 fun _b4 _w_2 _m4 _cw_2 _e4 => ?_
  have _cw_2z := _cw_2.size
  have E := E.trans _cw_2.of_nil
  have _z4 := _m4.lt
  replace _m4 : Blk _w_2 _b4 67 [(.slice none 0 0)] := _m4
  refine WL_nil ?_
  refine thn_nrm (_hK_1 _ _ ?_)
  clear _hK_1
  refine W_seq fun _K_3 _hK_3 => ?_
  refine W_seq fun _K_4 _hK_4 => ?_
  refine W_region ?_
  refine WL_step rfl rfl (r_move rfl) ?_
  refine WL_step rfl rfl (r_eql rfl rfl) ?_
  refine WL_nil ?_
  refine thn_nrm (_hK_4 _ _ ?_)
  clear _hK_4
  refine W_cond rfl (fun _h7 => ?_) (fun _h7 => ?_)
  · have _kb_5 := _h7
    have _h7 := bt_d _h7
    refine W_seq fun _K_6 _hK_6 => ?_
    refine W_seq fun _K_7 _hK_7 => ?_
    refine W_region ?_
    refine WL_step rfl rfl (r_move rfl) ?_
    refine WL_s rfl rfl ?_
    have _f_8 := (_h_c.ch0 _cw_2)
    refine Step.call (r_call (xs := [.tmp 8, .const (Go.Value.int Go.IntKind.i64 12)]) fk157 rfl) (c_spec_l1Once _f_8 _ (by omega)) fun _v9 _w_9 _q9 => ?_
    obtain ⟨x9q0, rfl, cu9, _cw_9⟩ := _q9
    have _cw_9z := _cw_9.size
    have E := E.trans _cw_9
    refine WL_nil ?_
    refine thn_nrm (_hK_7 _ _ ?_)
    clear _hK_7
    refine W_cond rfl (fun _h9 => ?_) (fun _h9 => ?_)
    · have _kb_10 := _h9
      refine W_seq fun _K_11 _hK_11 => ?_
      refine W_region ?_
      refine WL_step rfl rfl (r_move rfl) ?_
      refine WL_s rfl rfl ?_
      refine s_buildSlice (cs := ics) (parts := [(0, .const (Go.Value.int Go.IntKind.i64 1)), (1, .const (Go.Value.int Go.IntKind.i64 2))]) (0 : Int) [1, 2] el30 sz3 zr3 ics_len (by decide) rfl rfl rfl (by decide) (by decide) rfl fun _v11 _w_12 _q11 _lo11 _cw_12 => ?_
      have _cw_12z := _cw_12.size
      have E := E.trans _cw_12.of_nil
      obtain ⟨_Av11, _Cv11, _ev11⟩ := _q11.val
      subst _ev11
      have _lv11 := _q11.len
      have _hiv11 := _q11.lt
      refine WL_s rfl rfl ?_
      have _f_13 := (cu9.ch0 _cw_12)
      refine Step.call (r_call (xs := [.tmp 10, .tmp 11]) fk147 rfl) (c_spec_l1PickInt _f_13 _q11 (by decide) _w_9.heap.size (by omega) _lo11) fun _v12 _w_14 _q12 => ?_
      obtain ⟨x12q0, rfl, pt12_0, cu12, _cw_14⟩ := _q12
      have _cw_14z := _cw_14.size
      have E := E.trans _cw_14
      refine WL_s rfl rfl ?_
      refine Step.call (r_call (xs := [.tmp 12]) fk118 rfl) (c_spec_l8Leaf _ ) fun _v13 _w_15 _q13 => ?_
      obtain ⟨_u13, rfl, _q13, _lo13, _cw_15⟩ := _q13
      have _cw_15z := _cw_15.size
      have E := E.trans _cw_15.of_nil
      obtain ⟨_Au13, _Cu13, _eu13⟩ := _q13.val
      subst _eu13
      have _lu13 := _q13.len
      have _hiu13 := _q13.lt
      refine WL_s rfl rfl ?_
      have _f_16 := ((((_m4.ch _cw_9 (fun hm => by have _h1 := List.mem_singleton.1 hm; omega)).ch0 _cw_12).ch _cw_14 (fun hm => by have _h1 := List.mem_singleton.1 hm; omega)).ch0 _cw_15)
      refine s_storeA (off := 0) 1 _f_16 sz67 rfl (us := [(.slice _Au13 ([(⟨x12q0, 0, 0, 0⟩ : Token)]).length _Cu13)]) rfl rfl rfl rfl fun _w_17 _m_18 _cw_17 => ?_
      have _cw_17z := _cw_17.size
      have E := E.step _cw_17 (fun i hi => .inl (by have _h1 := List.mem_singleton.1 hi; omega))
      replace _m_18 : Blk _w_17 _b4 67 [(.slice _Au13 ([(⟨x12q0, 0, 0, 0⟩ : Token)]).length _Cu13)] := _m_18
      refine WL_nil ?_
      refine thn_nrm (_hK_11 _ _ ?_)
      clear _hK_11
      refine W_ret (thn_ret (thn_ret ?_))
      clear _hK_3 _hK_6
      have _f_19 := (_q13.ch _cw_17 (fun g hg hm => by have _h0 := List.mem_singleton.1 hm; have _h2 := _lo13 _ hg; have _h3 := _hiu13 _ hg; omega))
      have _o_20 : Ol Token.cs 126 4 _w_17 (.slice _Au13 ([(⟨x12q0, 0, 0, 0⟩ : Token)]).length _Cu13) ([(⟨x12q0, 0, 0, 0⟩ : Token)]) := by
        have hx := _f_19
        first | exact hx | simpa using hx
      have _f_21 := ((cu12.ch0 _cw_15).ch _cw_17 (fun i hm => by have _h1 := List.mem_singleton.1 hm; omega))
      exact ret_intro [_] (resOf_loadA _m_18 rfl agg67 sz67 trivial) ⟨([(⟨x12q0, 0, 0, 0⟩ : Token)]), (.slice _Au13 ([(⟨x12q0, 0, 0, 0⟩ : Token)]).length _Cu13), rfl, _o_20, (Lo.down _lo13 (by omega)), (by first | exact mk_leaf (by omega) | exact mk_two pt26_0 pt30_0 rfl (by omega) | exact mk_two pt39_0 pt43_0 rfl (by omega) | exact mk_one pt51_0 rfl (by omega) | exact mk_one pt61_0 rfl (by omega)), _f_21, E⟩
    · have _kb_10 := _h9
      refine W_skip ?_
      refine thn_nrm (_hK_6 _ _ ?_)
      clear _hK_6
      refine W_seq fun _K_22 _hK_22 => ?_
      refine W_region ?_
      refine WL_step rfl rfl (r_move rfl) ?_
      refine WL_s rfl rfl ?_
      refine s_buildSlice (cs := ics) (parts := [(0, .const (Go.Value.int Go.IntKind.i64 0)), (1, .const (Go.Value.int Go.IntKind.i64 0)), (2, .const (Go.Value.int Go.IntKind.i64 2)), (3, .const (Go.Value.int Go.IntKind.i64 2)), (4, .const (Go.Value.int Go.IntKind.i64 1)), (5, .const (Go.Value.int Go.IntKind.i64 4)), (6, .const (Go.Value.int Go.IntKind.i64 3)), (7, .const (Go.Value.int Go.IntKind.i64 6)), (8, .const (Go.Value.int Go.IntKind.i64 7))]) (0 : Int) [0, 0, 2, 2, 1, 4, 3, 6, 7] el30 sz3 zr3 ics_len (by decide) rfl rfl rfl (by decide) (by decide) rfl fun _v15 _w_23 _q15 _lo15 _cw_23 => ?_
      have _cw_23z := _cw_23.size
      have E := E.trans _cw_23.of_nil
      obtain ⟨_Av15, _Cv15, _ev15⟩ := _q15.val
      subst _ev15
      have _lv15 := _q15.len
      have _hiv15 := _q15.lt
      refine WL_s rfl rfl ?_
      have _f_24 := (cu9.ch0 _cw_23)
      refine Step.call (r_call (xs := [.tmp 14, .tmp 15]) fk147 rfl) (c_spec_l1PickInt _f_24 _q15 (by decide) _w_9.heap.size (by omega) _lo15) fun _v16 _w_25 _q16 => ?_
      obtain ⟨x16q0, rfl, pt16_0, cu16, _cw_25⟩ := _q16
      have _cw_25z := _cw_25.size
      have E := E.trans _cw_25
      refine WL_s rfl rfl ?_
      refine Step.call (r_call (xs := [.tmp 16]) fk217 rfl) (c_spec_LetterExpr _ ) fun _v17 _w_26 _q17 => ?_
      obtain ⟨_u17, rfl, _q17, _lo17, _cw_26⟩ := _q17
      have _cw_26z := _cw_26.size
      have E := E.trans _cw_26.of_nil
      obtain ⟨_Au17, _Cu17, _eu17⟩ := _q17.val
      subst _eu17
      have _lu17 := _q17.len
      have _hiu17 := _q17.lt
      refine WL_s rfl rfl ?_
      have _f_27 := ((((_m4.ch _cw_9 (fun hm => by have _h1 := List.mem_singleton.1 hm; omega)).ch0 _cw_23).ch _cw_25 (fun hm => by have _h1 := List.mem_singleton.1 hm; omega)).ch0 _cw_26)
      refine s_storeA (off := 0) 1 _f_27 sz67 rfl (us := [(.slice _Au17 ([(⟨3, x16q0, 0, 0⟩ : Token)]).length _Cu17)]) rfl rfl rfl rfl fun _w_28 _m_29 _cw_28 => ?_
      have _cw_28z := _cw_28.size
      have E := E.step _cw_28 (fun i hi => .inl (by have _h1 := List.mem_singleton.1 hi; omega))
      replace _m_29 : Blk _w_28 _b4 67 [(.slice _Au17 ([(⟨3, x16q0, 0, 0⟩ : Token)]).length _Cu17)] := _m_29
      refine WL_nil ?_
      refine thn_nrm (_hK_22 _ _ ?_)
      clear _hK_22
      refine W_ret (thn_ret ?_)
      clear _hK_3
      have _f_30 := (_q17.ch _cw_28 (fun g hg hm => by have _h0 := List.mem_singleton.1 hm; have _h2 := _lo17 _ hg; have _h3 := _hiu17 _ hg; omega))
      have _o_31 : Ol Token.cs 126 4 _w_28 (.slice _Au17 ([(⟨3, x16q0, 0, 0⟩ : Token)]).length _Cu17) ([(⟨3, x16q0, 0, 0⟩ : Token)]) := by
        have hx := _f_30
        first | exact hx | simpa using hx
      have _f_32 := ((cu16.ch0 _cw_26).ch _cw_28 (fun i hm => by have _h1 := List.mem_singleton.1 hm; omega))
      exact ret_intro [_] (resOf_loadA _m_29 rfl agg67 sz67 trivial) ⟨([(⟨3, x16q0, 0, 0⟩ : Token)]), (.slice _Au17 ([(⟨3, x16q0, 0, 0⟩ : Token)]).length _Cu17), rfl, _o_31, (Lo.down _lo17 (by omega)), (by first | exact mk_leaf (by omega) | exact mk_two pt26_0 pt30_0 rfl (by omega) | exact mk_two pt39_0 pt43_0 rfl (by omega) | exact mk_one pt51_0 rfl (by omega) | exact mk_one pt61_0 rfl (by omega)), _f_32, E⟩
  · have _kb_5 := _h7
    have _h7 := bf_d _h7
    refine W_skip ?_
    refine thn_nrm (_hK_3 _ _ ?_)
    clear _hK_3
    refine W_seq fun _K_33 _hK_33 => ?_
    refine W_seq fun _K_34 _hK_34 => ?_
    refine W_region ?_
    refine WL_step rfl rfl (r_move rfl) ?_
    refine WL_s rfl rfl ?_
    have _f_35 := (_h_c.ch0 _cw_2)
    refine Step.call (r_call (xs := [.tmp 18, .const (Go.Value.int Go.IntKind.i64 6)]) fk76 rfl) (c_spec_l1Below _f_35 _ (by omega)) fun _v19 _w_36 _q19 => ?_
    obtain ⟨x19q0, rfl, pt19_0, cu19, _cw_36⟩ := _q19
    have _cw_36z := _cw_36.size
    have E := E.trans _cw_36
    refine WL_nil ?_
    refine thn_nrm (_hK_34 _ _ ?_)
    clear _hK_34
    refine W_block ?_
    refine W_seq fun _K_37 _hK_37 => ?_
    refine W_seq fun _K_38 _hK_38 => ?_
    refine W_region ?_
    refine WL_step rfl rfl (r_eql rfl rfl) ?_
    refine WL_step rfl rfl (r_assign rfl) ?_
    refine WL_nil ?_
    refine thn_nrm (_hK_38 _ _ ?_)
    clear _hK_38
    refine W_cond rfl (fun _h20 => ?_) (fun _h20 => ?_)
    · have _kb_39 := _h20
      have _h20 := bt_d _h20
      refine W_skip ?_
      refine thn_nrm (_hK_37 _ _ ?_)
      clear _hK_37
      refine W_condTk rfl _kb_39 ?_
      refine W_seq fun _K_40 _hK_40 => ?_
      refine W_region ?_
      refine WL_step rfl rfl (r_move rfl) ?_
      refine WL_step rfl rfl (r_move rfl) ?_
      refine WL_step rfl rfl (r_sub (by omega) rfl rfl) ?_
      refine WL_s rfl rfl ?_
      refine Step.call (r_call (xs := [.tmp 23, .tmp 25]) fk202 rfl) (ih cu19 _ (by omega) (by omega)) fun _v26 _w_41 _q26 => ?_
      obtain ⟨x26q0, u26d0x0, rfl, _q_u26d0x0, _lo_u26d0x0, pt26_0, cu26, _cw_41⟩ := _q26
      have _cw_41z := _cw_41.size
      have E := E.trans _cw_41
      obtain ⟨Au26d0x0, Cu26d0x0, eu26d0x0⟩ := _q_u26d0x0.val
      subst eu26d0x0
      have lu26d0x0 := _q_u26d0x0.len
      have _hiu26d0x0 := _q_u26d0x0.lt
      have mb26 := mk_le pt26_0 (by omega)
      refine WL_step rfl rfl (r_move rfl) ?_
      refine WL_step rfl rfl (r_move rfl) ?_
      refine WL_step rfl rfl (r_sub (by omega) rfl rfl) ?_
      refine WL_s rfl rfl ?_
      refine Step.call (r_call (xs := [.tmp 27, .tmp 29]) fk202 rfl) (ih cu26 _ (by omega) (by omega)) fun _v30 _w_42 _q30 => ?_
      obtain ⟨x30q0, u30d0x0, rfl, _q_u30d0x0, _lo_u30d0x0, pt30_0, cu30, _cw_42⟩ := _q30
      have _cw_42z := _cw_42.size
      have E := E.trans _cw_42
      obtain ⟨Au30d0x0, Cu30d0x0, eu30d0x0⟩ := _q_u30d0x0.val
      subst eu30d0x0
      have lu30d0x0 := _q_u30d0x0.len
      have _hiu30d0x0 := _q_u30d0x0.lt
      have mb30 := mk_le pt30_0 (by omega)
      refine WL_step rfl rfl (r_build (parts := [(0, .const (Go.Value.int Go.IntKind.i64 4))]) (cells := [(.int .i64 4), (.int .i64 0), (.int .i64 0), (.int .i64 0)]) zr126 pl126 rfl rfl) ?_
      refine WL_s rfl rfl ?_
      have _f_43 := (_q_u26d0x0.ch _cw_42 (fun g hg hm => by have _h0 := List.mem_singleton.1 hm; have _h2 := _lo_u26d0x0 _ hg; have _h3 := _hiu26d0x0 _ hg; omega))
      refine Step.call (r_call (xs := [.tmp 26, .tmp 30, .tmp 31]) fk120 rfl) (c_spec_l8Join _f_43.ls _q_u30d0x0.ls ⟨4, 0, 0, 0⟩ (by first | omega | (simp only [List.length_nil]; omega))) fun _v32 _w_44 _q32 => ?_
      obtain ⟨_u32, rfl, _q32, _lo32, _cw_44⟩ := _q32
      have _cw_44z := _cw_44.size
      have E := E.trans _cw_44.of_nil
      obtain ⟨_Au32, _Cu32, _eu32⟩ := _q32.val
      subst _eu32
      have _lu32 := _q32.len
      have _hiu32 := _q32.lt
      refine WL_s rfl rfl ?_
      have _f_45 := ((((_m4.ch _cw_36 (fun hm => by have _h1 := List.mem_singleton.1 hm; omega)).ch _cw_41 (fun hm => by have _h1 := List.mem_singleton.1 hm; omega)).ch _cw_42 (fun hm => by have _h1 := List.mem_singleton.1 hm; omega)).ch0 _cw_44)
      refine s_storeA (off := 0) 1 _f_45 sz67 rfl (us := [(.slice _Au32 (x26q0 ++ x30q0 ++ [(⟨4, 0, 0, 0⟩ : Token)]).length _Cu32)]) rfl rfl rfl rfl fun _w_46 _m_47 _cw_46 => ?_
      have _cw_46z := _cw_46.size
      have E := E.step _cw_46 (fun i hi => .inl (by have _h1 := List.mem_singleton.1 hi; omega))
      replace _m_47 : Blk _w_46 _b4 67 [(.slice _Au32 (x26q0 ++ x30q0 ++ [(⟨4, 0, 0, 0⟩ : Token)]).length _Cu32)] := _m_47
      refine WL_nil ?_
      refine thn_nrm (_hK_40 _ _ ?_)
      clear _hK_40
      refine W_ret (inB_ret (thn_ret ?_))
      clear _hK_33
      have _f_48 := (_q32.ch _cw_46 (fun g hg hm => by have _h0 := List.mem_singleton.1 hm; have _h2 := _lo32 _ hg; have _h3 := _hiu32 _ hg; omega))
      have _o_49 : Ol Token.cs 126 4 _w_46 (.slice _Au32 (x26q0 ++ x30q0 ++ [(⟨4, 0, 0, 0⟩ : Token)]).length _Cu32) (x26q0 ++ x30q0 ++ [(⟨4, 0, 0, 0⟩ : Token)]) := by
        have hx := _f_48
        first | exact hx | simpa using hx
      have _f_50 := ((cu30.ch0 _cw_44).ch _cw_46 (fun i hm => by have _h1 := List.mem_singleton.1 hm; omega))
      exact ret_intro [_] (resOf_loadA _m_47 rfl agg67 sz67 trivial) ⟨(x26q0 ++ x30q0 ++ [(⟨4, 0, 0, 0⟩ : Token)]), (.slice _Au32 (x26q0 ++ x30q0 ++ [(⟨4, 0, 0, 0⟩ : Token)]).length _Cu32), rfl, _o_49, (Lo.down _lo32 (by omega)), (by first | exact mk_leaf (by omega) | exact mk_two pt26_0 pt30_0 rfl (by omega) | exact mk_two pt39_0 pt43_0 rfl (by omega) | exact mk_one pt51_0 rfl (by omega) | exact mk_one pt61_0 rfl (by omega)), _f_50, E⟩
    · have _kb_39 := _h20
      have _h20 := bf_d _h20
      refine W_region ?_
      refine WL_step rfl rfl (r_eql rfl rfl) ?_
      refine WL_step rfl rfl (r_assign rfl) ?_
      refine WL_nil ?_
      refine thn_nrm (_hK_37 _ _ ?_)
      clear _hK_37
      refine W_cond rfl (fun _h20 => ?_) (fun _h20 => ?_)
      · have _kb_51 := _h20
        have _h20 := bt_d _h20
        refine W_seq fun _K_52 _hK_52 => ?_
        refine W_region ?_
        refine WL_step rfl rfl (r_move rfl) ?_
        refine WL_step rfl rfl (r_move rfl) ?_
        refine WL_step rfl rfl (r_sub (by omega) rfl rfl) ?_
        refine WL_s rfl rfl ?_
        refine Step.call (r_call (xs := [.tmp 23, .tmp 25]) fk202 rfl) (ih cu19 _ (by omega) (by omega)) fun _v26 _w_53 _q26 => ?_
        obtain ⟨x26q0, u26d0x0, rfl, _q_u26d0x0, _lo_u26d0x0, pt26_0, cu26, _cw_53⟩ := _q26
        have _cw_53z := _cw_53.size
        have E := E.trans _cw_53
        obtain ⟨Au26d0x0, Cu26d0x0, eu26d0x0⟩ := _q_u26d0x0.val
        subst eu26d0x0
        have lu26d0x0 := _q_u26d0x0.len
        have _hiu26d0x0 := _q_u26d0x0.lt
        have mb26 := mk_le pt26_0 (by omega)
        refine WL_step rfl rfl (r_move rfl) ?_
        refine WL_step rfl rfl (r_move rfl) ?_
        refine WL_step rfl rfl (r_sub (by omega) rfl rfl) ?_
        refine WL_s rfl rfl ?_
        refine Step.call (r_call (xs := [.tmp 27, .tmp 29]) fk202 rfl) (ih cu26 _ (by omega) (by omega)) fun _v30 _w_54 _q30 => ?_
        obtain ⟨x30q0, u30d0x0, rfl, _q_u30d0x0, _lo_u30d0x0, pt30_0, cu30, _cw_54⟩ := _q30
        have _cw_54z := _cw_54.size
        have E := E.trans _cw_54
        obtain ⟨Au30d0x0, Cu30d0x0, eu30d0x0⟩ := _q_u30d0x0.val
        subst eu30d0x0
        have lu30d0x0 := _q_u30d0x0.len
        have _hiu30d0x0 := _q_u30d0x0.lt
        have mb30 := mk_le pt30_0 (by omega)
        refine WL_step rfl rfl (r_build (parts := [(0, .const (Go.Value.int Go.IntKind.i64 4))]) (cells := [(.int .i64 4), (.int .i64 0), (.int .i64 0), (.int .i64 0)]) zr126 pl126 rfl rfl) ?_
        refine WL_s rfl rfl ?_
        have _f_55 := (_q_u26d0x0.ch _cw_54 (fun g hg hm => by have _h0 := List.mem_singleton.1 hm; have _h2 := _lo_u26d0x0 _ hg; have _h3 := _hiu26d0x0 _ hg; omega))
        refine Step.call (r_call (xs := [.tmp 26, .tmp 30, .tmp 31]) fk120 rfl) (c_spec_l8Join _f_55.ls _q_u30d0x0.ls ⟨4, 0, 0, 0⟩ (by first | omega | (simp only [List.length_nil]; omega))) fun _v32 _w_56 _q32 => ?_
        obtain ⟨_u32, rfl, _q32, _lo32, _cw_56⟩ := _q32
        have _cw_56z := _cw_56.size
        have E := E.trans _cw_56.of_nil
        obtain ⟨_Au32, _Cu32, _eu32⟩ := _q32.val
        subst _eu32
        have _lu32 := _q32.len
        have _hiu32 := _q32.lt
        refine WL_s rfl rfl ?_
        have _f_57 := ((((_m4.ch _cw_36 (fun hm => by have _h1 := List.mem_singleton.1 hm; omega)).ch _cw_53 (fun hm => by have _h1 := List.mem_singleton.1 hm; omega)).ch _cw_54 (fun hm => by have _h1 := List.mem_singleton.1 hm; omega)).ch0 _cw_56)
        refine s_storeA (off := 0) 1 _f_57 sz67 rfl (us := [(.slice _Au32 (x26q0 ++ x30q0 ++ [(⟨4, 0, 0, 0⟩ : Token)]).length _Cu32)]) rfl rfl rfl rfl fun _w_58 _m_59 _cw_58 => ?_
        have _cw_58z := _cw_58.size
        have E := E.step _cw_58 (fun i hi => .inl (by have _h1 := List.mem_singleton.1 hi; omega))
        replace _m_59 : Blk _w_58 _b4 67 [(.slice _Au32 (x26q0 ++ x30q0 ++ [(⟨4, 0, 0, 0⟩ : Token)]).length _Cu32)] := _m_59
        refine WL_nil ?_
        refine thn_nrm (_hK_52 _ _ ?_)
        clear _hK_52
        refine W_ret (inB_ret (thn_ret ?_))
        clear _hK_33
        have _f_60 := (_q32.ch _cw_58 (fun g hg hm => by have _h0 := List.mem_singleton.1 hm; have _h2 := _lo32 _ hg; have _h3 := _hiu32 _ hg; omega))
        have _o_61 : Ol Token.cs 126 4 _w_58 (.slice _Au32 (x26q0 ++ x30q0 ++ [(⟨4, 0, 0, 0⟩ : Token)]).length _Cu32) (x26q0 ++ x30q0 ++ [(⟨4, 0, 0, 0⟩ : Token)]) := by
          have hx := _f_60
          first | exact hx | simpa using hx
        have _f_62 := ((cu30.ch0 _cw_56).ch _cw_58 (fun i hm => by have _h1 := List.mem_singleton.1 hm; omega))
        exact ret_intro [_] (resOf_loadA _m_59 rfl agg67 sz67 trivial) ⟨(x26q0 ++ x30q0 ++ [(⟨4, 0, 0, 0⟩ : Token)]), (.slice _Au32 (x26q0 ++ x30q0 ++ [(⟨4, 0, 0, 0⟩ : Token)]).length _Cu32), rfl, _o_61, (Lo.down _lo32 (by omega)), (by first | exact mk_leaf (by omega) | exact mk_two pt26_0 pt30_0 rfl (by omega) | exact mk_two pt39_0 pt43_0 rfl (by omega) | exact mk_one pt51_0 rfl (by omega) | exact mk_one pt61_0 rfl (by omega)), _f_62, E⟩
      · have _kb_51 := _h20
        have _h20 := bf_d _h20
        refine W_seq fun _K_63 _hK_63 => ?_
        refine W_seq fun _K_64 _hK_64 => ?_
        refine W_region ?_
        refine WL_step rfl rfl (r_eql rfl rfl) ?_
        refine WL_step rfl rfl (r_assign rfl) ?_
        refine WL_nil ?_
        refine thn_nrm (_hK_64 _ _ ?_)
        clear _hK_64
        refine W_cond rfl (fun _h33 => ?_) (fun _h33 => ?_)
        · have _kb_65 := _h33
          have _h33 := bt_d _h33
          refine W_skip ?_
          refine thn_nrm (_hK_63 _ _ ?_)
          clear _hK_63
          refine W_condTk rfl _kb_65 ?_
          refine W_seq fun _K_66 _hK_66 => ?_
          refine W_region ?_
          refine WL_step rfl rfl (r_move rfl) ?_
          refine WL_step rfl rfl (r_move rfl) ?_
          refine WL_step rfl rfl (r_sub (by omega) rfl rfl) ?_
          refine WL_s rfl rfl ?_
          refine Step.call (r_call (xs := [.tmp 36, .tmp 38]) fk202 rfl) (ih cu19 _ (by omega) (by omega)) fun _v39 _w_67 _q39 => ?_
          obtain ⟨x39q0, u39d0x0, rfl, _q_u39d0x0, _lo_u39d0x0, pt39_0, cu39, _cw_67⟩ := _q39
          have _cw_67z := _cw_67.size
          have E := E.trans _cw_67
          obtain ⟨Au39d0x0, Cu39d0x0, eu39d0x0⟩ := _q_u39d0x0.val
          subst eu39d0x0
          have lu39d0x0 := _q_u39d0x0.len
          have _hiu39d0x0 := _q_u39d0x0.lt
          have mb39 := mk_le pt39_0 (by omega)
          refine WL_step rfl rfl (r_move rfl) ?_
          refine WL_step rfl rfl (r_move rfl) ?_
          refine WL_step rfl rfl (r_sub (by omega) rfl rfl) ?_
          refine WL_s rfl rfl ?_
          refine Step.call (r_call (xs := [.tmp 40, .tmp 42]) fk202 rfl) (ih cu39 _ (by omega) (by omega)) fun _v43 _w_68 _q43 => ?_
          obtain ⟨x43q0, u43d0x0, rfl, _q_u43d0x0, _lo_u43d0x0, pt43_0, cu43, _cw_68⟩ := _q43
          have _cw_68z := _cw_68.size
          have E := E.trans _cw_68
          obtain ⟨Au43d0x0, Cu43d0x0, eu43d0x0⟩ := _q_u43d0x0.val
          subst eu43d0x0
          have lu43d0x0 := _q_u43d0x0.len
          have _hiu43d0x0 := _q_u43d0x0.lt
          have mb43 := mk_le pt43_0 (by omega)
          refine WL_step rfl rfl (r_build (parts := [(0, .const (Go.Value.int Go.IntKind.i64 5))]) (cells := [(.int .i64 5), (.int .i64 0), (.int .i64 0), (.int .i64 0)]) zr126 pl126 rfl rfl) ?_
          refine WL_s rfl rfl ?_
          have _f_69 := (_q_u39d0x0.ch _cw_68 (fun g hg hm => by have _h0 := List.mem_singleton.1 hm; have _h2 := _lo_u39d0x0 _ hg; have _h3 := _hiu39d0x0 _ hg; omega))
          refine Step.call (r_call (xs := [.tmp 39, .tmp 43, .tmp 44]) fk120 rfl) (c_spec_l8Join _f_69.ls _q_u43d0x0.ls ⟨5, 0, 0, 0⟩ (by first | omega | (simp only [List.length_nil]; omega))) fun _v45 _w_70 _q45 => ?_
          obtain ⟨_u45, rfl, _q45, _lo45, _cw_70⟩ := _q45
          have _cw_70z := _cw_70.size
          have E := E.trans _cw_70.of_nil
          obtain ⟨_Au45, _Cu45, _eu45⟩ := _q45.val
          subst _eu45
          have _lu45 := _q45.len
          have _hiu45 := _q45.lt
          refine WL_s rfl rfl ?_
          have _f_71 := ((((_m4.ch _cw_36 (fun hm => by have _h1 := List.mem_singleton.1 hm; omega)).ch _cw_67 (fun hm => by have _h1 := List.mem_singleton.1 hm; omega)).ch _cw_68 (fun hm => by have _h1 := List.mem_singleton.1 hm; omega)).ch0 _cw_70)
          refine s_storeA (off := 0) 1 _f_71 sz67 rfl (us := [(.slice _Au45 (x39q0 ++ x43q0 ++ [(⟨5, 0, 0, 0⟩ : Token)]).length _Cu45)]) rfl rfl rfl rfl fun _w_72 _m_73 _cw_72 => ?_
          have _cw_72z := _cw_72.size
          have E := E.step _cw_72 (fun i hi => .inl (by have _h1 := List.mem_singleton.1 hi; omega))
          replace _m_73 : Blk _w_72 _b4 67 [(.slice _Au45 (x39q0 ++ x43q0 ++ [(⟨5, 0, 0, 0⟩ : Token)]).length _Cu45)] := _m_73
          refine WL_nil ?_
          refine thn_nrm (_hK_66 _ _ ?_)
          clear _hK_66
          refine W_ret (inB_ret (thn_ret ?_))
          clear _hK_33
          have _f_74 := (_q45.ch _cw_72 (fun g hg hm => by have _h0 := List.mem_singleton.1 hm; have _h2 := _lo45 _ hg; have _h3 := _hiu45 _ hg; omega))
          have _o_75 : Ol Token.cs 126 4 _w_72 (.slice _Au45 (x39q0 ++ x43q0 ++ [(⟨5, 0, 0, 0⟩ : Token)]).length _Cu45) (x39q0 ++ x43q0 ++ [(⟨5, 0, 0, 0⟩ : Token)]) := by
            have hx := _f_74
            first | exact hx | simpa using hx
          have _f_76 := ((cu43.ch0 _cw_70).ch _cw_72 (fun i hm => by have _h1 := List.mem_singleton.1 hm; omega))
          exact ret_intro [_] (resOf_loadA _m_73 rfl agg67 sz67 trivial) ⟨(x39q0 ++ x43q0 ++ [(⟨5, 0, 0, 0⟩ : Token)]), (.slice _Au45 (x39q0 ++ x43q0 ++ [(⟨5, 0, 0, 0⟩ : Token)]).length _Cu45), rfl, _o_75, (Lo.down _lo45 (by omega)), (by first | exact mk_leaf (by omega) | exact mk_two pt26_0 pt30_0 rfl (by omega) | exact mk_two pt39_0 pt43_0 rfl (by omega) | exact mk_one pt51_0 rfl (by omega) | exact mk_one pt61_0 rfl (by omega)), _f_76, E⟩
        · have _kb_65 := _h33
          have _h33 := bf_d _h33
          refine W_region ?_
          refine WL_step rfl rfl (r_eql rfl rfl) ?_
          refine WL_step rfl rfl (r_assign rfl) ?_
          refine WL_nil ?_
          refine thn_nrm (_hK_63 _ _ ?_)
          clear _hK_63
          refine W_cond rfl (fun _h33 => ?_) (fun _h33 => ?_)
          · have _kb_77 := _h33
            have _h33 := bt_d _h33
            refine W_seq fun _K_78 _hK_78 => ?_
            refine W_region ?_
            refine WL_step rfl rfl (r_move rfl) ?_
            refine WL_step rfl rfl (r_move rfl) ?_
            refine WL_step rfl rfl (r_sub (by omega) rfl rfl) ?_
            refine WL_s rfl rfl ?_
            refine Step.call (r_call (xs := [.tmp 36, .tmp 38]) fk202 rfl) (ih cu19 _ (by omega) (by omega)) fun _v39 _w_79 _q39 => ?_
            obtain ⟨x39q0, u39d0x0, rfl, _q_u39d0x0, _lo_u39d0x0, pt39_0, cu39, _cw_79⟩ := _q39
            have _cw_79z := _cw_79.size
            have E := E.trans _cw_79
            obtain ⟨Au39d0x0, Cu39d0x0, eu39d0x0⟩ := _q_u39d0x0.val
            subst eu39d0x0
            have lu39d0x0 := _q_u39d0x0.len
            have _hiu39d0x0 := _q_u39d0x0.lt
            have mb39 := mk_le pt39_0 (by omega)
            refine WL_step rfl rfl (r_move rfl) ?_
            refine WL_step rfl rfl (r_move rfl) ?_
            refine WL_step rfl rfl (r_sub (by omega) rfl rfl) ?_
            refine WL_s rfl rfl ?_
            refine Step.call (r_call (xs := [.tmp 40, .tmp 42]) fk202 rfl) (ih cu39 _ (by omega) (by omega)) fun _v43 _w_80 _q43 => ?_
            obtain ⟨x43q0, u43d0x0, rfl, _q_u43d0x0, _lo_u43d0x0, pt43_0, cu43, _cw_80⟩ := _q43
            have _cw_80z := _cw_80.size
            have E := E.trans _cw_80
            obtain ⟨Au43d0x0, Cu43d0x0, eu43d0x0⟩ := _q_u43d0x0.val
            subst eu43d0x0
            have lu43d0x0 := _q_u43d0x0.len
            have _hiu43d0x0 := _q_u43d0x0.lt
            have mb43 := mk_le pt43_0 (by omega)
            refine WL_step rfl rfl (r_build (parts := [(0, .const (Go.Value.int Go.IntKind.i64 5))]) (cells := [(.int .i64 5), (.int .i64 0), (.int .i64 0), (.int .i64 0)]) zr126 pl126 rfl rfl) ?_
            refine WL_s rfl rfl ?_
            have _f_81 := (_q_u39d0x0.ch _cw_80 (fun g hg hm => by have _h0 := List.mem_singleton.1 hm; have _h2 := _lo_u39d0x0 _ hg; have _h3 := _hiu39d0x0 _ hg; omega))
            refine Step.call (r_call (xs := [.tmp 39, .tmp 43, .tmp 44]) fk120 rfl) (c_spec_l8Join _f_81.ls _q_u43d0x0.ls ⟨5, 0, 0, 0⟩ (by first | omega | (simp only [List.length_nil]; omega))) fun _v45 _w_82 _q45 => ?_
            obtain ⟨_u45, rfl, _q45, _lo45, _cw_82⟩ := _q45
            have _cw_82z := _cw_82.size
            have E := E.trans _cw_82.of_nil
            obtain ⟨_Au45, _Cu45, _eu45⟩ := _q45.val
            subst _eu45
            have _lu45 := _q45.len
            have _hiu45 := _q45.lt
            refine WL_s rfl rfl ?_
            have _f_83 := ((((_m4.ch _cw_36 (fun hm => by have _h1 := List.mem_singleton.1 hm; omega)).ch _cw_79 (fun hm => by have _h1 := List.mem_singleton.1 hm; omega)).ch _cw_80 (fun hm => by have _h1 := List.mem_singleton.1 hm; omega)).ch0 _cw_82)
            refine s_storeA (off := 0) 1 _f_83 sz67 rfl (us := [(.slice _Au45 (x39q0 ++ x43q0 ++ [(⟨5, 0, 0, 0⟩ : Token)]).length _Cu45)]) rfl rfl rfl rfl fun _w_84 _m_85 _cw_84 => ?_
            have _cw_84z := _cw_84.size
            have E := E.step _cw_84 (fun i hi => .inl (by have _h1 := List.mem_singleton.1 hi; omega))
            replace _m_85 : Blk _w_84 _b4 67 [(.slice _Au45 (x39q0 ++ x43q0 ++ [(⟨5, 0, 0, 0⟩ : Token)]).length _Cu45)] := _m_85
            refine WL_nil ?_
            refine thn_nrm (_hK_78 _ _ ?_)
            clear _hK_78
            refine W_ret (inB_ret (thn_ret ?_))
            clear _hK_33
            have _f_86 := (_q45.ch _cw_84 (fun g hg hm => by have _h0 := List.mem_singleton.1 hm; have _h2 := _lo45 _ hg; have _h3 := _hiu45 _ hg; omega))
            have _o_87 : Ol Token.cs 126 4 _w_84 (.slice _Au45 (x39q0 ++ x43q0 ++ [(⟨5, 0, 0, 0⟩ : Token)]).length _Cu45) (x39q0 ++ x43q0 ++ [(⟨5, 0, 0, 0⟩ : Token)]) := by
              have hx := _f_86
              first | exact hx | simpa using hx
            have _f_88 := ((cu43.ch0 _cw_82).ch _cw_84 (fun i hm => by have _h1 := List.mem_singleton.1 hm; omega))
            exact ret_intro [_] (resOf_loadA _m_85 rfl agg67 sz67 trivial) ⟨(x39q0 ++ x43q0 ++ [(⟨5, 0, 0, 0⟩ : Token)]), (.slice _Au45 (x39q0 ++ x43q0 ++ [(⟨5, 0, 0, 0⟩ : Token)]).length _Cu45), rfl, _o_87, (Lo.down _lo45 (by omega)), (by first | exact mk_leaf (by omega) | exact mk_two pt26_0 pt30_0 rfl (by omega) | exact mk_two pt39_0 pt43_0 rfl (by omega) | exact mk_one pt51_0 rfl (by omega) | exact mk_one pt61_0 rfl (by omega)), _f_88, E⟩
          · have _kb_77 := _h33
            have _h33 := bf_d _h33
            refine W_seq fun _K_89 _hK_89 => ?_
            refine W_region ?_
            refine WL_step rfl rfl (r_eql rfl rfl) ?_
            refine WL_step rfl rfl (r_assign rfl) ?_
            refine WL_nil ?_
            refine thn_nrm (_hK_89 _ _ ?_)
            clear _hK_89
            refine W_cond rfl (fun _h46 => ?_) (fun _h46 => ?_)
            · have _kb_90 := _h46
              have _h46 := bt_d _h46
              refine W_seq fun _K_91 _hK_91 => ?_
              refine W_region ?_
              refine WL_step rfl rfl (r_move rfl) ?_
              refine WL_step rfl rfl (r_move rfl) ?_
              refine WL_step rfl rfl (r_sub (by omega) rfl rfl) ?_
              refine WL_s rfl rfl ?_
              refine Step.call (r_call (xs := [.tmp 48, .tmp 50]) fk202 rfl) (ih cu19 _ (by omega) (by omega)) fun _v51 _w_92 _q51 => ?_
              obtain ⟨x51q0, u51d0x0, rfl, _q_u51d0x0, _lo_u51d0x0, pt51_0, cu51, _cw_92⟩ := _q51
              have _cw_92z := _cw_92.size
              have E := E.trans _cw_92
              obtain ⟨Au51d0x0, Cu51d0x0, eu51d0x0⟩ := _q_u51d0x0.val
              subst eu51d0x0
              have lu51d0x0 := _q_u51d0x0.len
              have _hiu51d0x0 := _q_u51d0x0.lt
              have mb51 := mk_le pt51_0 (by omega)
              refine WL_step rfl rfl (r_build (parts := []) (cells := [(.slice none 0 0)]) zr67 pl67 rfl rfl) ?_
              refine WL_step rfl rfl (r_build (parts := [(0, .const (Go.Value.int Go.IntKind.i64 6))]) (cells := [(.int .i64 6), (.int .i64 0), (.int .i64 0), (.int .i64 0)]) zr126 pl126 rfl rfl) ?_
              refine WL_s rfl rfl ?_
              refine Step.call (r_call (xs := [.tmp 51, .tmp 52, .tmp 53]) fk120 rfl) (c_spec_l8Join _q_u51d0x0.ls (Ls.nil (cs := Token.cs) (k := 4) _ 0 0) ⟨6, 0, 0, 0⟩ (by first | omega | (simp only [List.length_nil]; omega))) fun _v54 _w_93 _q54 => ?_
              obtain ⟨_u54, rfl, _q54, _lo54, _cw_93⟩ := _q54
              have _cw_93z := _cw_93.size
              have E := E.trans _cw_93.of_nil
              obtain ⟨_Au54, _Cu54, _eu54⟩ := _q54.val
              subst _eu54
              have _lu54 := _q54.len
              have _hiu54 := _q54.lt
              refine WL_s rfl rfl ?_
              have _f_94 := (((_m4.ch _cw_36 (fun hm => by have _h1 := List.mem_singleton.1 hm; omega)).ch _cw_92 (fun hm => by have _h1 := List.mem_singleton.1 hm; omega)).ch0 _cw_93)
              refine s_storeA (off := 0) 1 _f_94 sz67 rfl (us := [(.slice _Au54 (x51q0 ++ [] ++ [(⟨6, 0, 0, 0⟩ : Token)]).length _Cu54)]) rfl rfl rfl rfl fun _w_95 _m_96 _cw_95 => ?_
              have _cw_95z := _cw_95.size
              have E := E.step _cw_95 (fun i hi => .inl (by have _h1 := List.mem_singleton.1 hi; omega))
              replace _m_96 : Blk _w_95 _b4 67 [(.slice _Au54 (x51q0 ++ [] ++ [(⟨6, 0, 0, 0⟩ : Token)]).length _Cu54)] := _m_96
              refine WL_nil ?_
              refine thn_nrm (_hK_91 _ _ ?_)
              clear _hK_91
              refine W_ret (inB_ret (thn_ret ?_))
              clear _hK_33
              have _f_97 := (_q54.ch _cw_95 (fun g hg hm => by have _h0 := List.mem_singleton.1 hm; have _h2 := _lo54 _ hg; have _h3 := _hiu54 _ hg; omega))
              have _o_98 : Ol Token.cs 126 4 _w_95 (.slice _Au54 (x51q0 ++ [] ++ [(⟨6, 0, 0, 0⟩ : Token)]).length _Cu54) (x51q0 ++ [] ++ [(⟨6, 0, 0, 0⟩ : Token)]) := by
                have hx := _f_97
                first | exact hx | simpa using hx
              have _f_99 := ((cu51.ch0 _cw_93).ch _cw_95 (fun i hm => by have _h1 := List.mem_singleton.1 hm; omega))
              exact ret_intro [_] (resOf_loadA _m_96 rfl agg67 sz67 trivial) ⟨(x51q0 ++ [] ++ [(⟨6, 0, 0, 0⟩ : Token)]), (.slice _Au54 (x51q0 ++ [] ++ [(⟨6, 0, 0, 0⟩ : Token)]).length _Cu54), rfl, _o_98, (Lo.down _lo54 (by omega)), (by first | exact mk_leaf (by omega) | exact mk_two pt26_0 pt30_0 rfl (by omega) | exact mk_two pt39_0 pt43_0 rfl (by omega) | exact mk_one pt51_0 rfl (by omega) | exact mk_one pt61_0 rfl (by omega)), _f_99, E⟩
            · have _kb_90 := _h46
              have _h46 := bf_d _h46
              refine W_skip ?_
              refine inB_nrm ?_
              refine thn_nrm (_hK_33 _ _ ?_)
              clear _hK_33
              refine W_seq fun _K_100 _hK_100 => ?_
              refine W_region ?_
              refine WL_step rfl rfl (r_move rfl) ?_
              refine WL_s rfl rfl ?_
              refine Step.call (r_call (xs := [.tmp 55, .const (Go.Value.int Go.IntKind.i64 3)]) fk76 rfl) (c_spec_l1Below cu19 _ (by omega)) fun _v56 _w_101 _q56 => ?_
              obtain ⟨x56q0, rfl, pt56_0, cu56, _cw_101⟩ := _q56
              have _cw_101z := _cw_101.size
              have E := E.trans _cw_101
              refine WL_step rfl rfl (r_add (by omega) rfl rfl) ?_
              refine WL_step rfl rfl (r_assign rfl) ?_
              refine WL_nil ?_
              refine thn_nrm (_hK_100 _ _ ?_)
              clear _hK_100
              refine W_seq fun _K_102 _hK_102 => ?_
              refine W_region ?_
              refine WL_step rfl rfl (r_move rfl) ?_
              refine WL_step rfl rfl (r_move rfl) ?_
              refine WL_step rfl rfl (r_sub (by omega) rfl rfl) ?_
              refine WL_s rfl rfl ?_
              refine Step.call (r_call (xs := [.tmp 58, .tmp 60]) fk202 rfl) (ih cu56 _ (by omega) (by omega)) fun _v61 _w_103 _q61 => ?_
              obtain ⟨x61q0, u61d0x0, rfl, _q_u61d0x0, _lo_u61d0x0, pt61_0, cu61, _cw_103⟩ := _q61
              have _cw_103z := _cw_103.size
              have E := E.trans _cw_103
              obtain ⟨Au61d0x0, Cu61d0x0, eu61d0x0⟩ := _q_u61d0x0.val
              subst eu61d0x0
              have lu61d0x0 := _q_u61d0x0.len
              have _hiu61d0x0 := _q_u61d0x0.lt
              have mb61 := mk_le pt61_0 (by omega)
              refine WL_step rfl rfl (r_build (parts := []) (cells := [(.slice none 0 0)]) zr67 pl67 rfl rfl) ?_
              refine WL_step rfl rfl (r_move rfl) ?_
              refine WL_step rfl rfl (r_move rfl) ?_
              refine WL_step rfl rfl (r_add (by omega) rfl rfl) ?_
              refine WL_s rfl rfl ?_
              refine Step.call (r_call (xs := [.tmp 63, .tmp 65]) fk76 rfl) (c_spec_l1Below cu61 _ (by omega)) fun _v66 _w_104 _q66 => ?_
              obtain ⟨x66q0, rfl, pt66_0, cu66, _cw_104⟩ := _q66
              have _cw_104z := _cw_104.size
              have E := E.trans _cw_104
              refine WL_step rfl rfl (r_move rfl) ?_
              refine WL_step rfl rfl (r_build (parts := [(0, .const (Go.Value.int Go.IntKind.i64 7)), (2, .tmp 66), (3, .tmp 67)]) (cells := [(.int .i64 7), (.int .i64 0), (.int .i64 x66q0), (.int .i64 (1 + x56q0))]) zr126 pl126 rfl rfl) ?_
              refine WL_s rfl rfl ?_
              have _f_105 := (_q_u61d0x0.ch _cw_104 (fun g hg hm => by have _h0 := List.mem_singleton.1 hm; have _h2 := _lo_u61d0x0 _ hg; have _h3 := _hiu61d0x0 _ hg; omega))
              refine Step.call (r_call (xs := [.tmp 61, .tmp 62, .tmp 68]) fk120 rfl) (c_spec_l8Join _f_105.ls (Ls.nil (cs := Token.cs) (k := 4) _ 0 0) ⟨7, 0, x66q0, (1 + x56q0)⟩ (by first | omega | (simp only [List.length_nil]; omega))) fun _v69 _w_106 _q69 => ?_
              obtain ⟨_u69, rfl, _q69, _lo69, _cw_106⟩ := _q69
              have _cw_106z := _cw_106.size
              have E := E.trans _cw_106.of_nil
              obtain ⟨_Au69, _Cu69, _eu69⟩ := _q69.val
              subst _eu69
              have _lu69 := _q69.len
              have _hiu69 := _q69.lt
              refine WL_s rfl rfl ?_
              have _f_107 := (((((_m4.ch _cw_36 (fun hm => by have _h1 := List.mem_singleton.1 hm; omega)).ch _cw_101 (fun hm => by have _h1 := List.mem_singleton.1 hm; omega)).ch _cw_103 (fun hm => by have _h1 := List.mem_singleton.1 hm; omega)).ch _cw_104 (fun hm => by have _h1 := List.mem_singleton.1 hm; omega)).ch0 _cw_106)
              refine s_storeA (off := 0) 1 _f_107 sz67 rfl (us := [(.slice _Au69 (x61q0 ++ [] ++ [(⟨7, 0, x66q0, (1 + x56q0)⟩ : Token)]).length _Cu69)]) rfl rfl rfl rfl fun _w_108 _m_109 _cw_108 => ?_
              have _cw_108z := _cw_108.size
              have E := E.step _cw_108 (fun i hi => .inl (by have _h1 := List.mem_singleton.1 hi; omega))
              replace _m_109 : Blk _w_108 _b4 67 [(.slice _Au69 (x61q0 ++ [] ++ [(⟨7, 0, x66q0, (1 + x56q0)⟩ : Token)]).length _Cu69)] := _m_109
              refine WL_nil ?_
              refine thn_nrm (_hK_102 _ _ ?_)
              clear _hK_102
              refine W_ret ?_
              have _f_110 := (_q69.ch _cw_108 (fun g hg hm => by have _h0 := List.mem_singleton.1 hm; have _h2 := _lo69 _ hg; have _h3 := _hiu69 _ hg; omega))
              have _o_111 : Ol Token.cs 126 4 _w_108 (.slice _Au69 (x61q0 ++ [] ++ [(⟨7, 0, x66q0, (1 + x56q0)⟩ : Token)]).length _Cu69) (x61q0 ++ [] ++ [(⟨7, 0, x66q0, (1 + x56q0)⟩ : Token)]) := by
                have hx := _f_110
                first | exact hx | simpa using hx
              have _f_112 := ((cu66.ch0 _cw_106).ch _cw_108 (fun i hm => by have _h1 := List.mem_singleton.1 hm; omega))
              exact ret_intro [_] (resOf_loadA _m_109 rfl agg67 sz67 trivial) ⟨(x61q0 ++ [] ++ [(⟨7, 0, x66q0, (1 + x56q0)⟩ : Token)]), (.slice _Au69 (x61q0 ++ [] ++ [(⟨7, 0, x66q0, (1 + x56q0)⟩ : Token)]).length _Cu69), rfl, _o_111, (Lo.down _lo69 (by omega)), (by first | exact mk_leaf (by omega) | exact mk_two pt26_0 pt30_0 rfl (by omega) | exact mk_two pt39_0 pt43_0 rfl (by omega) | exact mk_one pt51_0 rfl (by omega) | exact mk_one pt61_0 rfl (by omega)), _f_112, E⟩
theorem c_spec_l8Make {w : World} {b_c : Nat} (_h_c : Cu w b_c) (deep : Int) (hd : 0 ≤ deep ∧ deep ≤ 3) :
    Ctr Try.prog 202 #[(.pointer (some ⟨b_c, 0, none⟩)), (.int .i64 deep)] w (fun v w' => ∃ (xq0 : List Token) (ud0x0 : Value), v = .agg #[ud0x0] ∧ Ol Token.cs 126 4 w' ud0x0 (xq0) ∧ Lo w.heap.size ud0x0 ∧ (1 ≤ xq0.length ∧ xq0.length + 1 ≤ 2 ^ (deep.toNat + 1)) ∧ Cu w' b_c ∧ Ch [b_c] w w') := c_spec_l8Make_n _ _h_c deep hd (Nat.lt_succ_self _)

/-- spec.l8Expr -/
theorem c_spec_l8Expr {w : World} {b_c : Nat} (_h_c : Cu w b_c) :
    Ctr Try.prog 177 #[(.pointer (some ⟨b_c, 0, none⟩))] w (fun v w' => ∃ (xq0 : List Token) (ud0x0 : Value), v = .agg #[ud0x0] ∧ Ol Token.cs 126 4 w' ud0x0 (xq0) ∧ Lo w.heap.size ud0x0 ∧ (1 ≤ xq0.length ∧ xq0.length ≤ 24) ∧ Cu w' b_c ∧ Ch [b_c] w w') := by
  have _zb_c := _h_c.lt
  have E := Ch.refl [b_c] w
  refine Ctr_of_W (N := 12) (vs0 := [(.pointer (some ⟨b_c, 0, none⟩))]) Try.func177 rfl rfl rfl ?_
  refine W_seq fun _K_1 _hK_1 => ?_
  refine W_region ?_
  refine WL_s rfl rfl ?_
  refine s_alloc zr67 fun _b2 _w_2 _m2 _cw_2 _e2 => ?_
  have _cw_2z := _cw_2.size
  have E := E.trans _cw_2.of_nil
  have _z2 := _m2.lt
  replace _m2 : Blk _w_2 _b2 67 [(.slice none 0 0)] := _m2
  refine WL_nil ?_
  refine thn_nrm (_hK_1 _ _ ?_)
  clear _hK_1
  refine W_seq fun _K_3 _hK_3 => ?_
  refine W_seq fun _K_4 _hK_4 => ?_
  refine W_region ?_
  refine WL_step rfl rfl (r_move rfl) ?_
  refine WL_s rfl rfl ?_
  have _f_5 := (_h_c.ch0 _cw_2)
  refine Step.call (r_call (xs := [.tmp 3, .const (Go.Value.int Go.IntKind.i64 2)]) fk157 rfl) (c_spec_l1Once _f_5 _ (by omega)) fun _v4 _w_6 _q4 => ?_
  obtain ⟨x4q0, rfl, cu4, _cw_6⟩ := _q4
  have _cw_6z := _cw_6.size
  have E := E.trans _cw_6
  refine WL_nil ?_
  refine thn_nrm (_hK_4 _ _ ?_)
  clear _hK_4
  refine W_cond rfl (fun _h4 => ?_) (fun _h4 => ?_)
  · have _kb_7 := _h4
    refine W_seq fun _K_8 _hK_8 => ?_
    refine W_region ?_
    refine WL_step rfl rfl (r_move rfl) ?_
    refine WL_s rfl rfl ?_
    refine Step.call (r_call (xs := [.tmp 5]) fk201 rfl) (c_spec_l8Known cu4 ) fun _v6 _w_9 _q6 => ?_
    obtain ⟨x6q0, u6d0x0, rfl, _q_u6d0x0, _lo_u6d0x0, pt6_0, cu6, _cw_9⟩ := _q6
    have _cw_9z := _cw_9.size
    have E := E.trans _cw_9
    obtain ⟨Au6d0x0, Cu6d0x0, eu6d0x0⟩ := _q_u6d0x0.val
    subst eu6d0x0
    have lu6d0x0 := _q_u6d0x0.len
    have _hiu6d0x0 := _q_u6d0x0.lt
    refine WL_s rfl rfl ?_
    have _f_10 := ((_m2.ch _cw_6 (fun hm => by have _h1 := List.mem_singleton.1 hm; omega)).ch _cw_9 (fun hm => by have _h1 := List.mem_singleton.1 hm; omega))
    refine s_storeA (off := 0) 1 _f_10 sz67 rfl (us := [(.slice Au6d0x0 (x6q0).length Cu6d0x0)]) rfl rfl rfl rfl fun _w_11 _m_12 _cw_11 => ?_
    have _cw_11z := _cw_11.size
    have E := E.step _cw_11 (fun i hi => .inl (by have _h1 := List.mem_singleton.1 hi; omega))
    replace _m_12 : Blk _w_11 _b2 67 [(.slice Au6d0x0 (x6q0).length Cu6d0x0)] := _m_12
    refine WL_nil ?_
    refine thn_nrm (_hK_8 _ _ ?_)
    clear _hK_8
    refine W_ret (thn_ret ?_)
    clear _hK_3
    have _f_13 := (_q_u6d0x0.ch _cw_11 (fun g hg hm => by have _h0 := List.mem_singleton.1 hm; have _h2 := _lo_u6d0x0 _ hg; have _h3 := _hiu6d0x0 _ hg; omega))
    have _o_14 : Ol Token.cs 126 4 _w_11 (.slice Au6d0x0 (x6q0).length Cu6d0x0) (x6q0) := by
      have hx := _f_13
      first | exact hx | simpa using hx
    have _f_15 := (cu6.ch _cw_11 (fun i hm => by have _h1 := List.mem_singleton.1 hm; omega))
    exact ret_intro [_] (resOf_loadA _m_12 rfl agg67 sz67 trivial) ⟨x6q0, (.slice Au6d0x0 (x6q0).length Cu6d0x0), rfl, _o_14, (Lo.down _lo_u6d0x0 (by omega)), pt6_0, _f_15, E⟩
  · have _kb_7 := _h4
    refine W_skip ?_
    refine thn_nrm (_hK_3 _ _ ?_)
    clear _hK_3
    refine W_seq fun _K_16 _hK_16 => ?_
    refine W_region ?_
    refine WL_step rfl rfl (r_move rfl) ?_
    refine WL_step rfl rfl (r_move rfl) ?_
    refine WL_s rfl rfl ?_
    refine Step.call (r_call (xs := [.tmp 8, .const (Go.Value.int Go.IntKind.i64 3)]) fk76 rfl) (c_spec_l1Below cu4 _ (by omega)) fun _v9 _w_17 _q9 => ?_
    obtain ⟨x9q0, rfl, pt9_0, cu9, _cw_17⟩ := _q9
    have _cw_17z := _cw_17.size
    have E := E.trans _cw_17
    refine WL_step rfl rfl (r_add (by omega) rfl rfl) ?_
    refine WL_s rfl rfl ?_
    refine Step.call (r_call (xs := [.tmp 7, .tmp 10]) fk202 rfl) (c_spec_l8Make cu9 _ (by omega)) fun _v11 _w_18 _q11 => ?_
    obtain ⟨x11q0, u11d0x0, rfl, _q_u11d0x0, _lo_u11d0x0, pt11_0, cu11, _cw_18⟩ := _q11
    have _cw_18z := _cw_18.size
    have E := E.trans _cw_18
    obtain ⟨Au11d0x0, Cu11d0x0, eu11d0x0⟩ := _q_u11d0x0.val
    subst eu11d0x0
    have lu11d0x0 := _q_u11d0x0.len
    have _hiu11d0x0 := _q_u11d0x0.lt
    refine WL_s rfl rfl ?_
    have _f_19 := (((_m2.ch _cw_6 (fun hm => by have _h1 := List.mem_singleton.1 hm; omega)).ch _cw_17 (fun hm => by have _h1 := List.mem_singleton.1 hm; omega)).ch _cw_18 (fun hm => by have _h1 := List.mem_singleton.1 hm; omega))
    refine s_storeA (off := 0) 1 _f_19 sz67 rfl (us := [(.slice Au11d0x0 (x11q0).length Cu11d0x0)]) rfl rfl rfl rfl fun _w_20 _m_21 _cw_20 => ?_
    have _cw_20z := _cw_20.size
    have E := E.step _cw_20 (fun i hi => .inl (by have _h1 := List.mem_singleton.1 hi; omega))
    replace _m_21 : Blk _w_20 _b2 67 [(.slice Au11d0x0 (x11q0).length Cu11d0x0)] := _m_21
    refine WL_nil ?_
    refine thn_nrm (_hK_16 _ _ ?_)
    clear _hK_16
    refine W_ret ?_
    have _f_22 := (_q_u11d0x0.ch _cw_20 (fun g hg hm => by have _h0 := List.mem_singleton.1 hm; have _h2 := _lo_u11d0x0 _ hg; have _h3 := _hiu11d0x0 _ hg; omega))
    have _o_23 : Ol Token.cs 126 4 _w_20 (.slice Au11d0x0 (x11q0).length Cu11d0x0) (x11q0) := by
      have hx := _f_22
      first | exact hx | simpa using hx
    have _f_24 := (cu11.ch _cw_20 (fun i hm => by have _h1 := List.mem_singleton.1 hm; omega))
    exact ret_intro [_] (resOf_loadA _m_21 rfl agg67 sz67 trivial) ⟨x11q0, (.slice Au11d0x0 (x11q0).length Cu11d0x0), rfl, _o_23, (Lo.down _lo_u11d0x0 (by omega)), (by have _h9 := mk_le pt11_0 (by omega); omega), _f_24, E⟩

/-- spec.l8Any -/
theorem c_spec_l8Any {w : World} {b_c : Nat} (_h_c : Cu w b_c) :
    Ctr Try.prog 125 #[(.pointer (some ⟨b_c, 0, none⟩))] w (fun v w' => ∃ (xq0 : List Token) (ud0x0 : Value), v = .agg #[ud0x0] ∧ Ol Token.cs 126 4 w' ud0x0 (xq0) ∧ Lo w.heap.size ud0x0 ∧ (0 ≤ xq0.length ∧ xq0.length ≤ 26) ∧ Cu w' b_c ∧ Ch [b_c] w w') := by
  have _zb_c := _h_c.lt
  have E := Ch.refl [b_c] w
  refine Ctr_of_W (N := 55) (vs0 := [(.pointer (some ⟨b_c, 0, none⟩))]) Try.func125 rfl rfl rfl ?_
  refine W_seq fun _K_1 _hK_1 => ?_
  refine W_region ?_
  refine WL_s rfl rfl ?_
  refine s_alloc zr67 fun _b2 _w_2 _m2 _cw_2 _e2 => ?_
  have _cw_2z := _cw_2.size
  have E := E.trans _cw_2.of_nil
  have _z2 := _m2.lt
  replace _m2 : Blk _w_2 _b2 67 [(.slice none 0 0)] := _m2
  refine WL_nil ?_
  refine thn_nrm (_hK_1 _ _ ?_)
  clear _hK_1
  refine W_seq fun _K_3 _hK_3 => ?_
  refine W_region ?_
  refine WL_step rfl rfl (r_move rfl) ?_
  refine WL_s rfl rfl ?_
  have _f_4 := (_h_c.ch0 _cw_2)
  refine Step.call (r_call (xs := [.tmp 4]) fk177 rfl) (c_spec_l8Expr _f_4 ) fun _v5 _w_5 _q5 => ?_
  obtain ⟨x5q0, u5d0x0, rfl, _q_u5d0x0, _lo_u5d0x0, pt5_0, cu5, _cw_5⟩ := _q5
  have _cw_5z := _cw_5.size
  have E := E.trans _cw_5
  obtain ⟨Au5d0x0, Cu5d0x0, eu5d0x0⟩ := _q_u5d0x0.val
  subst eu5d0x0
  have lu5d0x0 := _q_u5d0x0.len
  have _hiu5d0x0 := _q_u5d0x0.lt
  refine WL_s rfl rfl ?_
  refine s_alloc zr67 fun _b3 _w_6 _m3 _cw_6 _e3 => ?_
  have _cw_6z := _cw_6.size
  have E := E.trans _cw_6.of_nil
  have _z3 := _m3.lt
  replace _m3 : Blk _w_6 _b3 67 [(.slice none 0 0)] := _m3
  refine WL_s rfl rfl ?_
  refine s_storeA (off := 0) 1 _m3 sz67 rfl (us := [(.slice Au5d0x0 (x5q0).length Cu5d0x0)]) rfl rfl rfl rfl fun _w_7 _m_8 _cw_7 => ?_
  have _cw_7z := _cw_7.size
  have E := E.step _cw_7 (fun i hi => .inl (by have _h1 := List.mem_singleton.1 hi; omega))
  replace _m_8 : Blk _w_7 _b3 67 [(.slice Au5d0x0 (x5q0).length Cu5d0x0)] := _m_8
  refine WL_nil ?_
  refine thn_nrm (_hK_3 _ _ ?_)
  clear _hK_3
  refine W_seq fun _K_9 _hK_9 => ?_
  refine W_seq fun _K_10 _hK_10 => ?_
  refine W_region ?_
  refine WL_step rfl rfl (r_move rfl) ?_
  refine WL_s rfl rfl ?_
  have _f_11 := ((cu5.ch0 _cw_6).ch _cw_7 (fun i hm => by have _h1 := List.mem_singleton.1 hm; omega))
  refine Step.call (r_call (xs := [.tmp 6, .const (Go.Value.int Go.IntKind.i64 14)]) fk76 rfl) (c_spec_l1Below _f_11 _ (by omega)) fun _v7 _w_12 _q7 => ?_
  obtain ⟨x7q0, rfl, pt7_0, cu7, _cw_12⟩ := _q7
  have _cw_12z := _cw_12.size
  have E := E.trans _cw_12
  refine WL_nil ?_
  refine thn_nrm (_hK_10 _ _ ?_)
  clear _hK_10
  refine W_block ?_
  refine W_seq fun _K_13 _hK_13 => ?_
  refine W_region ?_
  refine WL_step rfl rfl (r_eql rfl rfl) ?_
  refine WL_step rfl rfl (r_assign rfl) ?_
  refine WL_nil ?_
  refine thn_nrm (_hK_13 _ _ ?_)
  clear _hK_13
  refine W_cond rfl (fun _h8 => ?_) (fun _h8 => ?_)
  · have _kb_14 := _h8
    have _h8 := bt_d _h8
    refine W_region ?_
    refine WL_step rfl rfl (r_fieldAddr fa67_0 rfl) ?_
    have _f_15 := (_m_8.ch _cw_12 (fun hm => by have _h1 := List.mem_singleton.1 hm; omega))
    refine WL_step rfl rfl (r_loadAt _f_15.at_ agg65 rfl rfl) ?_
    refine WL_s rfl rfl ?_
    have _f_16 := (((_q_u5d0x0.ch0 _cw_6).ch _cw_7 (fun g hg hm => by have _h0 := List.mem_singleton.1 hm; have _h2 := _lo_u5d0x0 _ hg; have _h3 := _hiu5d0x0 _ hg; omega)).ch _cw_12 (fun g hg hm => by have _h0 := List.mem_singleton.1 hm; have _h2 := _lo_u5d0x0 _ hg; have _h3 := _hiu5d0x0 _ hg; omega))
    refine (s_cutO (ys := (x5q0.drop 1)) 1 x5q0.length _f_16 Token.len el65 sz126 rfl ⟨_, _, rfl, by omega⟩ rfl (by omega) (by omega) (cut_all _ _) fun _v12 _q12 _bb12 _ln12 => ?_)
    obtain ⟨_A12, _C12, _e12⟩ := _q12.val
    subst _e12
    have _l12 := _q12.len
    have hi12 := _q12.lt
    refine WL_step rfl rfl (r_fieldAddr fa67_0 rfl) ?_
    refine WL_s rfl rfl ?_
    refine s_store1 (off := 0) _f_15 sz65 rfl rfl rfl rfl fun _w_17 _m_18 _cw_17 => ?_
    have _cw_17z := _cw_17.size
    have E := E.step _cw_17 (fun i hi => .inl (by have _h1 := List.mem_singleton.1 hi; omega))
    replace _m_18 : Blk _w_17 _b3 67 [(.slice _A12 ((x5q0.drop 1)).length _C12)] := _m_18
    refine WL_nil ?_
    refine inB_nrm ?_
    refine thn_nrm (_hK_9 _ _ ?_)
    clear _hK_9
    refine W_seq fun _K_19 _hK_19 => ?_
    refine W_region ?_
    refine WL_step rfl rfl (r_loadAtA0 _m_18.at_ agg67 sz67 rfl) ?_
    refine WL_s rfl rfl ?_
    have _f_20 := (((((_m2.ch _cw_5 (fun hm => by have _h1 := List.mem_singleton.1 hm; omega)).ch0 _cw_6).ch _cw_7 (fun hm => by have _h1 := List.mem_singleton.1 hm; omega)).ch _cw_12 (fun hm => by have _h1 := List.mem_singleton.1 hm; omega)).ch _cw_17 (fun hm => by have _h1 := List.mem_singleton.1 hm; omega))
    refine s_storeA (off := 0) 1 _f_20 sz67 rfl (us := [(.slice _A12 ((x5q0.drop 1)).length _C12)]) rfl rfl rfl rfl fun _w_21 _m_22 _cw_21 => ?_
    have _cw_21z := _cw_21.size
    have E := E.step _cw_21 (fun i hi => .inl (by have _h1 := List.mem_singleton.1 hi; omega))
    replace _m_22 : Blk _w_21 _b2 67 [(.slice _A12 ((x5q0.drop 1)).length _C12)] := _m_22
    refine WL_nil ?_
    refine thn_nrm (_hK_19 _ _ ?_)
    clear _hK_19
    refine W_ret ?_
    have _f_23 := ((_q12.ch _cw_17 (fun g hg hm => by have _h0 := List.mem_singleton.1 hm; rw [_bb12] at hg; have _h2 := _lo_u5d0x0 _ hg; have _h3 := _hiu5d0x0 _ hg; omega)).ch _cw_21 (fun g hg hm => by have _h0 := List.mem_singleton.1 hm; rw [_bb12] at hg; have _h2 := _lo_u5d0x0 _ hg; have _h3 := _hiu5d0x0 _ hg; omega))
    have _o_24 : Ol Token.cs 126 4 _w_21 (.slice _A12 ((x5q0.drop 1)).length _C12) ((x5q0.drop 1)) := by
      have hx := _f_23
      first | exact hx | simpa using hx
    have _f_25 := ((cu7.ch _cw_17 (fun i hm => by have _h1 := List.mem_singleton.1 hm; omega)).ch _cw_21 (fun i hm => by have _h1 := List.mem_singleton.1 hm; omega))
    exact ret_intro [_] (resOf_loadA _m_22 rfl agg67 sz67 trivial) ⟨(x5q0.drop 1), (.slice _A12 ((x5q0.drop 1)).length _C12), rfl, _o_24, (Lo.down (fun g hg => _lo_u5d0x0 g (_bb12 ▸ hg)) (by omega)), (by first | omega | (simp only [List.length_drop, List.length_set, List.length_append, List.length_singleton]; omega)), _f_25, E⟩
  · have _kb_14 := _h8
    have _h8 := bf_d _h8
    refine W_seq fun _K_26 _hK_26 => ?_
    refine W_region ?_
    refine WL_step rfl rfl (r_eql rfl rfl) ?_
    refine WL_step rfl rfl (r_assign rfl) ?_
    refine WL_nil ?_
    refine thn_nrm (_hK_26 _ _ ?_)
    clear _hK_26
    refine W_cond rfl (fun _h14 => ?_) (fun _h14 => ?_)
    · have _kb_27 := _h14
      have _h14 := bt_d _h14
      refine W_drawC ([b_c] ++ (bl (.slice Au5d0x0 (x5q0).length Cu5d0x0))) 13 mixed rfl fun _w_28 _cw_28 => ?_
      have _cw_28z := _cw_28.size
      have E := E.trans _cw_28.of_nil
      refine DR_s 0 rfl (by kernel_rfl) rfl rfl (t_v (fun _ => (r_fieldAddr fa67_0 rfl)) ?_)
      have _f_29 := ((_m_8.ch _cw_12 (fun hm => by have _h1 := List.mem_singleton.1 hm; omega)).ch0 _cw_28)
      refine DR_s 1 rfl (by kernel_rfl) rfl rfl (t_loadAt _f_29.at_ (fun i hm => by rcases List.mem_append.1 hm with hm | hm; (have _h1 := List.mem_singleton.1 hm; omega); (have _h1 := _lo_u5d0x0 _ hm; have _h2 := _hiu5d0x0 _ hm; omega)) agg65 rfl rfl ?_)
      refine DR_s 2 rfl (by kernel_rfl) rfl rfl (t_v (fun _ => (r_move rfl)) ?_)
      refine DR_s 4 rfl (by kernel_rfl) rfl rfl (t_v (fun _ => (r_move rfl)) ?_)
      refine DR_s 6 rfl (by kernel_rfl) rfl rfl (t_v (fun _ => (r_move rfl)) ?_)
      refine DR_s 8 rfl (by kernel_rfl) rfl rfl (t_v (fun _ => (r_move rfl)) ?_)
      refine DR_one 3 (by kernel_rfl) ?_
      refine DO_s rfl rfl rfl ?_
      have _f_30 := (cu7.ch0 _cw_28)
      refine Step.call (r_call (xs := [.tmp 18, .const (Go.Value.int Go.IntKind.i64 9)]) fk76 rfl) (c_spec_l1Below _f_30 _ (by omega)) fun _v19 _w_31 _q19 => ?_
      obtain ⟨x19q0, rfl, pt19_0, cu19, _cw_31⟩ := _q19
      have _cw_31z := _cw_31.size
      have E := E.trans _cw_31
      have _S_32 : Ch ([b_c] ++ (bl (.slice Au5d0x0 (x5q0).length Cu5d0x0))) _w_28 _w_31 := ((Ch.refl _ _).step _cw_31 (fun i hm => by have _h0 := List.mem_singleton.1 hm; exact .inr (by rw [_h0]; exact (List.mem_append_left _ (List.mem_singleton.2 rfl)))))
      refine ⟨_S_32, ?_⟩
      refine DR_one 5 (by kernel_rfl) ?_
      refine DO_s rfl rfl rfl ?_
      refine Step.call (r_call (xs := [.tmp 20, .const (Go.Value.int Go.IntKind.i64 10)]) fk76 rfl) (c_spec_l1Below cu19 _ (by omega)) fun _v21 _w_33 _q21 => ?_
      obtain ⟨x21q0, rfl, pt21_0, cu21, _cw_33⟩ := _q21
      have _cw_33z := _cw_33.size
      have E := E.trans _cw_33
      have _S_34 : Ch ([b_c] ++ (bl (.slice Au5d0x0 (x5q0).length Cu5d0x0))) _w_28 _w_33 := (_S_32.step _cw_33 (fun i hm => by have _h0 := List.mem_singleton.1 hm; exact .inr (by rw [_h0]; exact (List.mem_append_left _ (List.mem_singleton.2 rfl)))))
      refine ⟨_S_34, ?_⟩
      refine DR_one 7 (by kernel_rfl) ?_
      refine DO_s rfl rfl rfl ?_
      refine Step.call (r_call (xs := [.tmp 22, .const (Go.Value.int Go.IntKind.i64 3)]) fk76 rfl) (c_spec_l1Below cu21 _ (by omega)) fun _v23 _w_35 _q23 => ?_
      obtain ⟨x23q0, rfl, pt23_0, cu23, _cw_35⟩ := _q23
      have _cw_35z := _cw_35.size
      have E := E.trans _cw_35
      have _S_36 : Ch ([b_c] ++ (bl (.slice Au5d0x0 (x5q0).length Cu5d0x0))) _w_28 _w_35 := (_S_34.step _cw_35 (fun i hm => by have _h0 := List.mem_singleton.1 hm; exact .inr (by rw [_h0]; exact (List.mem_append_left _ (List.mem_singleton.2 rfl)))))
      refine ⟨_S_36, ?_⟩
      refine DR_one 9 (by kernel_rfl) ?_
      refine DO_s rfl rfl rfl ?_
      refine Step.call (r_call (xs := [.tmp 24, .const (Go.Value.int Go.IntKind.i64 5)]) fk76 rfl) (c_spec_l1Below cu23 _ (by omega)) fun _v25 _w_37 _q25 => ?_
      obtain ⟨x25q0, rfl, pt25_0, cu25, _cw_37⟩ := _q25
      have _cw_37z := _cw_37.size
      have E := E.trans _cw_37
      have _S_38 : Ch ([b_c] ++ (bl (.slice Au5d0x0 (x5q0).length Cu5d0x0))) _w_28 _w_37 := (_S_36.step _cw_37 (fun i hm => by have _h0 := List.mem_singleton.1 hm; exact .inr (by rw [_h0]; exact (List.mem_append_left _ (List.mem_singleton.2 rfl)))))
      refine ⟨_S_38, ?_⟩
      refine DR_s 10 rfl (by kernel_rfl) rfl rfl (t_v (fun _ => (r_build (parts := [(0, .tmp 19), (1, .tmp 21), (2, .tmp 23), (3, .tmp 25)]) (cells := [(.int .i64 x19q0), (.int .i64 x21q0), (.int .i64 x23q0), (.int .i64 x25q0)]) zr126 pl126 rfl rfl)) ?_)
      refine DR_one 11 (by kernel_rfl) ?_
      refine DO_s rfl rfl rfl ?_
      have _f_39 := ((((((((_q_u5d0x0.ch0 _cw_6).ch _cw_7 (fun g hg hm => by have _h0 := List.mem_singleton.1 hm; have _h2 := _lo_u5d0x0 _ hg; have _h3 := _hiu5d0x0 _ hg; omega)).ch _cw_12 (fun g hg hm => by have _h0 := List.mem_singleton.1 hm; have _h2 := _lo_u5d0x0 _ hg; have _h3 := _hiu5d0x0 _ hg; omega)).ch0 _cw_28).ch _cw_31 (fun g hg hm => by have _h0 := List.mem_singleton.1 hm; have _h2 := _lo_u5d0x0 _ hg; have _h3 := _hiu5d0x0 _ hg; omega)).ch _cw_33 (fun g hg hm => by have _h0 := List.mem_singleton.1 hm; have _h2 := _lo_u5d0x0 _ hg; have _h3 := _hiu5d0x0 _ hg; omega)).ch _cw_35 (fun g hg hm => by have _h0 := List.mem_singleton.1 hm; have _h2 := _lo_u5d0x0 _ hg; have _h3 := _hiu5d0x0 _ hg; omega)).ch _cw_37 (fun g hg hm => by have _h0 := List.mem_singleton.1 hm; have _h2 := _lo_u5d0x0 _ hg; have _h3 := _hiu5d0x0 _ hg; omega))
      refine s_indexO (j := 0) _f_39 el65 sz126 rfl rfl rfl (by omega) fun _g27 _o27 _cp27 _q27 => ?_
      refine ⟨_S_38, ?_⟩
      refine DR_one 12 (by kernel_rfl) ?_
      refine DO_s rfl rfl rfl ?_
      refine s_storeO (j := 0) (⟨x19q0, x21q0, x23q0, x25q0⟩) _f_39 _q27 Token.len sz126 rfl rfl rfl rfl (by omega) fun _w_40 _o_41 _cw_40 => ?_
      have _cw_40z := _cw_40.size
      have E := E.step _cw_40 (fun i hi => .inl (by have _h1 := _lo_u5d0x0 _ hi; omega))
      have _S_42 : Ch ([b_c] ++ (bl (.slice Au5d0x0 (x5q0).length Cu5d0x0))) _w_28 _w_40 := (_S_38.step _cw_40 (fun i hm => by exact .inr (List.mem_append_right _ hm)))
      refine ⟨_S_42, ?_⟩
      refine DR_done (by kernel_rfl) ?_
      refine inB_nrm ?_
      refine thn_nrm (_hK_9 _ _ ?_)
      clear _hK_9
      refine W_seq fun _K_43 _hK_43 => ?_
      refine W_region ?_
      have _f_44 := (((((_f_29.ch _cw_31 (fun hm => by have _h1 := List.mem_singleton.1 hm; omega)).ch _cw_33 (fun hm => by have _h1 := List.mem_singleton.1 hm; omega)).ch _cw_35 (fun hm => by have _h1 := List.mem_singleton.1 hm; omega)).ch _cw_37 (fun hm => by have _h1 := List.mem_singleton.1 hm; omega)).ch _cw_40 (fun hm => by have _h1 := _lo_u5d0x0 _ hm; have _h2 := _hiu5d0x0 _ hm; omega))
      refine WL_step rfl rfl (r_loadAtA0 _f_44.at_ agg67 sz67 rfl) ?_
      refine WL_s rfl rfl ?_
      have _f_45 := ((((((((((_m2.ch _cw_5 (fun hm => by have _h1 := List.mem_singleton.1 hm; omega)).ch0 _cw_6).ch _cw_7 (fun hm => by have _h1 := List.mem_singleton.1 hm; omega)).ch _cw_12 (fun hm => by have _h1 := List.mem_singleton.1 hm; omega)).ch0 _cw_28).ch _cw_31 (fun hm => by have _h1 := List.mem_singleton.1 hm; omega)).ch _cw_33 (fun hm => by have _h1 := List.mem_singleton.1 hm; omega)).ch _cw_35 (fun hm => by have _h1 := List.mem_singleton.1 hm; omega)).ch _cw_37 (fun hm => by have _h1 := List.mem_singleton.1 hm; omega)).ch _cw_40 (fun hm => by have _h1 := _lo_u5d0x0 _ hm; have _h2 := _hiu5d0x0 _ hm; omega))
      refine s_storeA (off := 0) 1 _f_45 sz67 rfl (us := [(.slice Au5d0x0 (x5q0).length Cu5d0x0)]) rfl rfl rfl rfl fun _w_46 _m_47 _cw_46 => ?_
      have _cw_46z := _cw_46.size
      have E := E.step _cw_46 (fun i hi => .inl (by have _h1 := List.mem_singleton.1 hi; omega))
      replace _m_47 : Blk _w_46 _b2 67 [(.slice Au5d0x0 (x5q0).length Cu5d0x0)] := _m_47
      refine WL_nil ?_
      refine thn_nrm (_hK_43 _ _ ?_)
      clear _hK_43
      refine W_ret ?_
      have _f_48 := (_o_41.ch _cw_46 (fun g hg hm => by have _h0 := List.mem_singleton.1 hm; have _h2 := _lo_u5d0x0 _ hg; have _h3 := _hiu5d0x0 _ hg; omega))
      have _o_49 : Ol Token.cs 126 4 _w_46 (.slice Au5d0x0 (x5q0).length Cu5d0x0) ((x5q0.set 0 (⟨x19q0, x21q0, x23q0, x25q0⟩))) := by
        have hx := _f_48
        first | exact hx | simpa using hx
      have _f_50 := ((cu25.ch _cw_40 (fun i hm => by have _h1 := _lo_u5d0x0 _ hm; have _h2 := _hiu5d0x0 _ hm; omega)).ch _cw_46 (fun i hm => by have _h1 := List.mem_singleton.1 hm; omega))
      exact ret_intro [_] (resOf_loadA _m_47 rfl agg67 sz67 trivial) ⟨(x5q0.set 0 (⟨x19q0, x21q0, x23q0, x25q0⟩)), (.slice Au5d0x0 (x5q0).length Cu5d0x0), rfl, _o_49, (Lo.down _lo_u5d0x0 (by omega)), (by first | omega | (simp only [List.length_drop, List.length_set, List.length_append, List.length_singleton]; omega)), _f_50, E⟩
    · have _kb_27 := _h14
      have _h14 := bf_d _h14
      refine W_seq fun _K_51 _hK_51 => ?_
      refine W_region ?_
      refine WL_step rfl rfl (r_eql rfl rfl) ?_
      refine WL_step rfl rfl (r_assign rfl) ?_
      refine WL_nil ?_
      refine thn_nrm (_hK_51 _ _ ?_)
      clear _hK_51
      refine W_cond rfl (fun _h28 => ?_) (fun _h28 => ?_)
      · have _kb_52 := _h28
        have _h28 := bt_d _h28
        refine W_seq fun _K_53 _hK_53 => ?_
        refine W_block ?_
        have _f_54 := (((_q_u5d0x0.ch0 _cw_6).ch _cw_7 (fun g hg hm => by have _h0 := List.mem_singleton.1 hm; have _h2 := _lo_u5d0x0 _ hg; have _h3 := _hiu5d0x0 _ hg; omega)).ch _cw_12 (fun g hg hm => by have _h0 := List.mem_singleton.1 hm; have _h2 := _lo_u5d0x0 _ hg; have _h3 := _hiu5d0x0 _ hg; omega))
        have _oi_55 : Ol Token.cs 126 4 _w_12 (.slice Au5d0x0 (x5q0).length Cu5d0x0) (x5q0) := by
          have hx := _f_54
          exact hx
        have _f_56 := (_m_8.ch _cw_12 (fun hm => by have _h1 := List.mem_singleton.1 hm; omega))
        have _f_57 := ((((_m2.ch _cw_5 (fun hm => by have _h1 := List.mem_singleton.1 hm; omega)).ch0 _cw_6).ch _cw_7 (fun hm => by have _h1 := List.mem_singleton.1 hm; omega)).ch _cw_12 (fun hm => by have _h1 := List.mem_singleton.1 hm; omega))
        refine W_loop (σ := List Token × Value) (fun ⟨us, uv⟩ => [(0, (.pointer (some ⟨b_c, 0, none⟩))), (2, (.pointer (some ⟨_b2, 0, none⟩))), (3, (.pointer (some ⟨_b3, 0, none⟩)))]) (fun ⟨us, uv⟩ wx => Ch [b_c] w wx ∧ _w_12.heap.size ≤ wx.heap.size ∧ (us.length ≤ 24) ∧ Cu wx b_c ∧ Blk wx _b2 67 [(.slice none 0 0)] ∧ Ol Token.cs 126 4 wx uv us ∧ Lo _w_2.heap.size uv ∧ Blk wx _b3 67 [uv] ∧ (_b3 ∉ bl uv)) (fun ⟨us, uv⟩ => 24 - us.length) (x5q0, (.slice Au5d0x0 (x5q0).length Cu5d0x0)) (Sub.cons rfl (Sub.cons rfl (Sub.cons rfl (Sub.nil _)))) ⟨E, (Nat.le_refl _), (by omega), cu7, _f_57, _oi_55, _lo_u5d0x0, _f_56, (fun hm => by have _h1 := _lo_u5d0x0 _ hm; have _h2 := _hiu5d0x0 _ hm; omega)⟩ ?_
        rintro ⟨us, uv⟩ _wr_58 ⟨E, _zz0, hu, _F0_0, _F0_1, _o0_3, _lo0_3, _m0_3, _nb0_3⟩
        have _E0h := E
        have _E0hz := _E0h.size
        have _F0_1z := _F0_1.lt
        obtain ⟨Auv, Cuv, euv⟩ := _o0_3.val
        subst euv
        have luv := _o0_3.len
        have _hiuv := _o0_3.lt
        refine W_seq fun _K_59 _hK_59 => ?_
        refine W_seq fun _K_60 _hK_60 => ?_
        refine W_region ?_
        refine WL_step rfl rfl (r_fieldAddr fa67_0 rfl) ?_
        refine WL_step rfl rfl (r_loadAt _m0_3.at_ agg65 rfl rfl) ?_
        refine WL_step rfl rfl (r_len (by rw [el65]; rfl) rfl) ?_
        refine WL_step rfl rfl (r_gtr rfl rfl) ?_
        refine WL_step rfl rfl (r_move rfl) ?_
        refine WL_split (d := 34) rfl (fun _h34 => ?_) (fun _h34 => ?_)
        · have _kb_61 := _h34
          have _h34 := bt_d _h34
          refine WL_step rfl rfl (r_fieldAddr fa67_0 rfl) ?_
          refine WL_step rfl rfl (r_loadAt _m0_3.at_ agg65 rfl rfl) ?_
          refine WL_step rfl rfl (r_len (by rw [el65]; rfl) rfl) ?_
          refine WL_step rfl rfl (r_lss rfl rfl) ?_
          refine WL_step rfl rfl (r_pickT rfl rfl) ?_
          refine WL_nil ?_
          refine thn_nrm (_hK_60 _ _ ?_)
          clear _hK_60
          refine W_cond rfl (fun _h39 => ?_) (fun _h39 => ?_)
          · have _kb_62 := _h39
            have _h39 := bt_d _h39
            refine W_skip ?_
            refine thn_nrm (_hK_59 _ _ ?_)
            clear _hK_59
            refine W_block ?_
            refine W_region ?_
            refine WL_step rfl rfl (r_fieldAddr fa67_0 rfl) ?_
            refine WL_step rfl rfl (r_loadAt _m0_3.at_ agg65 rfl rfl) ?_
            refine WL_step rfl rfl (r_build (parts := [(0, .const (Go.Value.int Go.IntKind.i64 6))]) (cells := [(.int .i64 6), (.int .i64 0), (.int .i64 0), (.int .i64 0)]) zr126 pl126 rfl rfl) ?_
            refine WL_s rfl rfl ?_
            refine s_buildSlice (cs := Token.cs) (parts := [(0, .tmp 42)]) (⟨0, 0, 0, 0⟩ : Token) [(⟨6, 0, 0, 0⟩ : Token)] el65 sz126 zr126 Token.len (by decide) rfl rfl rfl (by decide) (by decide) rfl fun _v43 _w_63 _q43 _lo43 _cw_63 => ?_
            have _cw_63z := _cw_63.size
            have E := E.trans _cw_63.of_nil
            obtain ⟨_Av43, _Cv43, _ev43⟩ := _q43.val
            subst _ev43
            have _lv43 := _q43.len
            have _hiv43 := _q43.lt
            refine WL_s rfl rfl ?_
            have _f_65 := (_o0_3.ch0 _cw_63)
            refine s_append (cs := Token.cs) el65 sz126 by126 zr126 rfl (by decide) Token.one _f_65 _q43.ls rfl rfl (by first | omega | (simp only [List.length_append, List.length_nil, List.length_cons, List.length_replicate, List.length_set, List.length_reverse, List.length_map] at *; omega) | (simp at *; omega)) (by first | omega | (simp only [List.length_append, List.length_nil, List.length_cons, List.length_replicate, List.length_set, List.length_reverse, List.length_map] at *; omega) | (simp at *; omega)) _lo0_3 (by omega) fun _v44 _w_64 _q44 _lo44 _ap44 _cw_64 => ?_
            have _cw_64z := _cw_64.size
            have E := E.step _cw_64 (fun i hi => .inl (by have _h1 := _lo0_3 _ hi; omega))
            obtain ⟨_Av44, _Cv44, _ev44⟩ := _q44.val
            subst _ev44
            have _lv44 := _q44.len
            have _hiv44 := _q44.lt
            refine WL_step rfl rfl (r_fieldAddr fa67_0 rfl) ?_
            refine WL_s rfl rfl ?_
            have _f_66 := ((_m0_3.ch0 _cw_63).ch _cw_64 (fun hm => by exact _nb0_3 (by first | exact hm | exact _h0 ▸ hm)))
            refine s_store1 (off := 0) _f_66 sz65 rfl rfl rfl rfl fun _w_67 _m_68 _cw_67 => ?_
            have _cw_67z := _cw_67.size
            have E := E.step _cw_67 (fun i hi => .inl (by have _h1 := List.mem_singleton.1 hi; omega))
            replace _m_68 : Blk _w_67 _b3 67 [(.slice _Av44 ((us ++ [(⟨6, 0, 0, 0⟩ : Token)])).length _Cv44)] := _m_68
            refine WL_nil ?_
            refine inB_nrm ?_
            have _f_70 := (_q44.ch _cw_67 (fun g hg hm => by have _h0 := List.mem_singleton.1 hm; rcases _ap44 with ea | ea; (rw [ea] at hg; exact _nb0_3 (by first | exact hg | exact _h0 ▸ hg)); (rw [ea] at hg; have _z1 := List.mem_singleton.1 hg; omega)))
            have _on_69 : Ol Token.cs 126 4 _w_67 (.slice _Av44 ((us ++ [(⟨6, 0, 0, 0⟩ : Token)])).length _Cv44) ((us ++ [(⟨6, 0, 0, 0⟩ : Token)])) := by
              have hx := _f_70
              exact hx
            have _f_71 := (((_F0_0.ch0 _cw_63).ch _cw_64 (fun i hm => by have _h1 := _lo0_3 _ hm; have _h2 := _hiuv _ hm; omega)).ch _cw_67 (fun i hm => by have _h1 := List.mem_singleton.1 hm; omega))
            have _f_72 := (((_F0_1.ch0 _cw_63).ch _cw_64 (fun hm => by have _h1 := _lo0_3 _ hm; have _h2 := _hiuv _ hm; omega)).ch _cw_67 (fun hm => by have _h1 := List.mem_singleton.1 hm; omega))
            exact thn_nrm (Exists.intro ((us ++ [(⟨6, 0, 0, 0⟩ : Token)]), (.slice _Av44 ((us ++ [(⟨6, 0, 0, 0⟩ : Token)])).length _Cv44)) ⟨⟨E, (by omega), (by simp only [List.length_append, List.length_singleton]; omega), _f_71, _f_72, _on_69, (Lo.down _lo44 (by omega)), _m_68, (fun hm => by rcases _ap44 with ea | ea; (rw [ea] at hm; exact _nb0_3 (by first | exact hm | exact _h0 ▸ hm)); (rw [ea] at hm; have _z1 := List.mem_singleton.1 hm; omega))⟩, Sub.cons rfl (Sub.cons rfl (Sub.cons rfl (Sub.nil _))), (by simp only [List.length_append, List.length_singleton]; omega)⟩)
          · have _kb_62 := _h39
            have _h39 := bf_d _h39
            refine W_exit (thn_exit (thn_exit (inB_hit ?_)))
            refine thn_nrm (_hK_53 _ _ ?_)
            clear _hK_53
            refine W_seq fun _K_73 _hK_73 => ?_
            refine W_region ?_
            refine WL_step rfl rfl (r_move rfl) ?_
            refine WL_s rfl rfl ?_
            refine Step.call (r_call (xs := [.tmp 46, .const (Go.Value.int Go.IntKind.i64 2)]) fk157 rfl) (c_spec_l1Once _F0_0 _ (by omega)) fun _v47 _w_74 _q47 => ?_
            obtain ⟨x47q0, rfl, cu47, _cw_74⟩ := _q47
            have _cw_74z := _cw_74.size
            have E := E.trans _cw_74
            refine WL_nil ?_
            refine thn_nrm (_hK_73 _ _ ?_)
            clear _hK_73
            refine W_cond rfl (fun _h47 => ?_) (fun _h47 => ?_)
            · have _kb_75 := _h47
              refine W_region ?_
              refine WL_step rfl rfl (r_fieldAddr fa67_0 rfl) ?_
              have _f_76 := (_m0_3.ch _cw_74 (fun hm => by have _h1 := List.mem_singleton.1 hm; omega))
              refine WL_step rfl rfl (r_loadAt _f_76.at_ agg65 rfl rfl) ?_
              refine WL_step rfl rfl (r_build (parts := [(0, .const (Go.Value.int Go.IntKind.i64 6))]) (cells := [(.int .i64 6), (.int .i64 0), (.int .i64 0), (.int .i64 0)]) zr126 pl126 rfl rfl) ?_
              refine WL_s rfl rfl ?_
              refine s_buildSlice (cs := Token.cs) (parts := [(0, .tmp 50)]) (⟨0, 0, 0, 0⟩ : Token) [(⟨6, 0, 0, 0⟩ : Token)] el65 sz126 zr126 Token.len (by decide) rfl rfl rfl (by decide) (by decide) rfl fun _v51 _w_77 _q51 _lo51 _cw_77 => ?_
              have _cw_77z := _cw_77.size
              have E := E.trans _cw_77.of_nil
              obtain ⟨_Av51, _Cv51, _ev51⟩ := _q51.val
              subst _ev51
              have _lv51 := _q51.len
              have _hiv51 := _q51.lt
              refine WL_s rfl rfl ?_
              have _f_79 := ((_o0_3.ch _cw_74 (fun g hg hm => by have _h0 := List.mem_singleton.1 hm; have _h2 := _lo0_3 _ hg; have _h3 := _hiuv _ hg; omega)).ch0 _cw_77)
              refine s_append (cs := Token.cs) el65 sz126 by126 zr126 rfl (by decide) Token.one _f_79 _q51.ls rfl rfl (by first | omega | (simp only [List.length_append, List.length_nil, List.length_cons, List.length_replicate, List.length_set, List.length_reverse, List.length_map] at *; omega) | (simp at *; omega)) (by first | omega | (simp only [List.length_append, List.length_nil, List.length_cons, List.length_replicate, List.length_set, List.length_reverse, List.length_map] at *; omega) | (simp at *; omega)) _lo0_3 (by omega) fun _v52 _w_78 _q52 _lo52 _ap52 _cw_78 => ?_
              have _cw_78z := _cw_78.size
              have E := E.step _cw_78 (fun i hi => .inl (by have _h1 := _lo0_3 _ hi; omega))
              obtain ⟨_Av52, _Cv52, _ev52⟩ := _q52.val
              subst _ev52
              have _lv52 := _q52.len
              have _hiv52 := _q52.lt
              refine WL_step rfl rfl (r_fieldAddr fa67_0 rfl) ?_
              refine WL_s rfl rfl ?_
              have _f_80 := ((_f_76.ch0 _cw_77).ch _cw_78 (fun hm => by exact _nb0_3 (by first | exact hm | exact _h0 ▸ hm)))
              refine s_store1 (off := 0) _f_80 sz65 rfl rfl rfl rfl fun _w_81 _m_82 _cw_81 => ?_
              have _cw_81z := _cw_81.size
              have E := E.step _cw_81 (fun i hi => .inl (by have _h1 := List.mem_singleton.1 hi; omega))
              replace _m_82 : Blk _w_81 _b3 67 [(.slice _Av52 ((us ++ [(⟨6, 0, 0, 0⟩ : Token)])).length _Cv52)] := _m_82
              refine WL_nil ?_
              refine inB_nrm ?_
              refine thn_nrm (_hK_9 _ _ ?_)
              clear _hK_9
              refine W_seq fun _K_83 _hK_83 => ?_
              refine W_region ?_
              refine WL_step rfl rfl (r_loadAtA0 _m_82.at_ agg67 sz67 rfl) ?_
              refine WL_s rfl rfl ?_
              have _f_84 := ((((_F0_1.ch _cw_74 (fun hm => by have _h1 := List.mem_singleton.1 hm; omega)).ch0 _cw_77).ch _cw_78 (fun hm => by have _h1 := _lo0_3 _ hm; have _h2 := _hiuv _ hm; omega)).ch _cw_81 (fun hm => by have _h1 := List.mem_singleton.1 hm; omega))
              refine s_storeA (off := 0) 1 _f_84 sz67 rfl (us := [(.slice _Av52 ((us ++ [(⟨6, 0, 0, 0⟩ : Token)])).length _Cv52)]) rfl rfl rfl rfl fun _w_85 _m_86 _cw_85 => ?_
              have _cw_85z := _cw_85.size
              have E := E.step _cw_85 (fun i hi => .inl (by have _h1 := List.mem_singleton.1 hi; omega))
              replace _m_86 : Blk _w_85 _b2 67 [(.slice _Av52 ((us ++ [(⟨6, 0, 0, 0⟩ : Token)])).length _Cv52)] := _m_86
              refine WL_nil ?_
              refine thn_nrm (_hK_83 _ _ ?_)
              clear _hK_83
              refine W_ret ?_
              clear _hK_59
              have _f_87 := ((_q52.ch _cw_81 (fun g hg hm => by have _h0 := List.mem_singleton.1 hm; rcases _ap52 with ea | ea; (rw [ea] at hg; exact _nb0_3 (by first | exact hg | exact _h0 ▸ hg)); (rw [ea] at hg; have _z1 := List.mem_singleton.1 hg; omega))).ch _cw_85 (fun g hg hm => by have _h0 := List.mem_singleton.1 hm; rcases _ap52 with ea | ea; (rw [ea] at hg; have _h2 := _lo0_3 _ hg; have _h3 := _hiuv _ hg; omega); (rw [ea] at hg; have _z1 := List.mem_singleton.1 hg; omega)))
              have _o_88 : Ol Token.cs 126 4 _w_85 (.slice _Av52 ((us ++ [(⟨6, 0, 0, 0⟩ : Token)])).length _Cv52) ((us ++ [(⟨6, 0, 0, 0⟩ : Token)])) := by
                have hx := _f_87
                first | exact hx | simpa using hx
              have _f_89 := ((((cu47.ch0 _cw_77).ch _cw_78 (fun i hm => by have _h1 := _lo0_3 _ hm; have _h2 := _hiuv _ hm; omega)).ch _cw_81 (fun i hm => by have _h1 := List.mem_singleton.1 hm; omega)).ch _cw_85 (fun i hm => by have _h1 := List.mem_singleton.1 hm; omega))
              exact ret_intro [_] (resOf_loadA _m_86 rfl agg67 sz67 trivial) ⟨(us ++ [(⟨6, 0, 0, 0⟩ : Token)]), (.slice _Av52 ((us ++ [(⟨6, 0, 0, 0⟩ : Token)])).length _Cv52), rfl, _o_88, (Lo.down _lo52 (by omega)), (by first | omega | (simp only [List.length_drop, List.length_set, List.length_append, List.length_singleton]; omega)), _f_89, E⟩
            · have _kb_75 := _h47
              refine W_skip ?_
              refine inB_nrm ?_
              refine thn_nrm (_hK_9 _ _ ?_)
              clear _hK_9
              refine W_seq fun _K_90 _hK_90 => ?_
              refine W_region ?_
              have _f_91 := (_m0_3.ch _cw_74 (fun hm => by have _h1 := List.mem_singleton.1 hm; omega))
              refine WL_step rfl rfl (r_loadAtA0 _f_91.at_ agg67 sz67 rfl) ?_
              refine WL_s rfl rfl ?_
              have _f_92 := (_F0_1.ch _cw_74 (fun hm => by have _h1 := List.mem_singleton.1 hm; omega))
              refine s_storeA (off := 0) 1 _f_92 sz67 rfl (us := [(.slice Auv (us).length Cuv)]) rfl rfl rfl rfl fun _w_93 _m_94 _cw_93 => ?_
              have _cw_93z := _cw_93.size
              have E := E.step _cw_93 (fun i hi => .inl (by have _h1 := List.mem_singleton.1 hi; omega))
              replace _m_94 : Blk _w_93 _b2 67 [(.slice Auv (us).length Cuv)] := _m_94
              refine WL_nil ?_
              refine thn_nrm (_hK_90 _ _ ?_)
              clear _hK_90
              refine W_ret ?_
              clear _hK_59
              have _f_95 := ((_o0_3.ch _cw_74 (fun g hg hm => by have _h0 := List.mem_singleton.1 hm; have _h2 := _lo0_3 _ hg; have _h3 := _hiuv _ hg; omega)).ch _cw_93 (fun g hg hm => by have _h0 := List.mem_singleton.1 hm; have _h2 := _lo0_3 _ hg; have _h3 := _hiuv _ hg; omega))
              have _o_96 : Ol Token.cs 126 4 _w_93 (.slice Auv (us).length Cuv) (us) := by
                have hx := _f_95
                first | exact hx | simpa using hx
              have _f_97 := (cu47.ch _cw_93 (fun i hm => by have _h1 := List.mem_singleton.1 hm; omega))
              exact ret_intro [_] (resOf_loadA _m_94 rfl agg67 sz67 trivial) ⟨us, (.slice Auv (us).length Cuv), rfl, _o_96, (Lo.down _lo0_3 (by omega)), (by first | omega | (simp only [List.length_drop, List.length_set, List.length_append, List.length_singleton]; omega)), _f_97, E⟩
        · have _kb_61 := _h34
          have _h34 := bf_d _h34
          refine WL_skip rfl rfl ?_
          refine WL_skip rfl rfl ?_
          refine WL_skip rfl rfl ?_
          refine WL_skip rfl rfl ?_
          refine WL_step rfl rfl (r_pickF rfl rfl) ?_
          refine WL_nil ?_
          refine thn_nrm (_hK_60 _ _ ?_)
          clear _hK_60
          refine W_condF rfl ?_
          refine W_exit (thn_exit (thn_exit (inB_hit ?_)))
          refine thn_nrm (_hK_53 _ _ ?_)
          clear _hK_53
          refine W_seq fun _K_98 _hK_98 => ?_
          refine W_region ?_
          refine WL_step rfl rfl (r_move rfl) ?_
          refine WL_s rfl rfl ?_
          refine Step.call (r_call (xs := [.tmp 46, .const (Go.Value.int Go.IntKind.i64 2)]) fk157 rfl) (c_spec_l1Once _F0_0 _ (by omega)) fun _v47 _w_99 _q47 => ?_
          obtain ⟨x47q0, rfl, cu47, _cw_99⟩ := _q47
          have _cw_99z := _cw_99.size
          have E := E.trans _cw_99
          refine WL_nil ?_
          refine thn_nrm (_hK_98 _ _ ?_)
          clear _hK_98
          refine W_cond rfl (fun _h47 => ?_) (fun _h47 => ?_)
          · have _kb_100 := _h47
            refine W_region ?_
            refine WL_step rfl rfl (r_fieldAddr fa67_0 rfl) ?_
            have _f_101 := (_m0_3.ch _cw_99 (fun hm => by have _h1 := List.mem_singleton.1 hm; omega))
            refine WL_step rfl rfl (r_loadAt _f_101.at_ agg65 rfl rfl) ?_
            refine WL_step rfl rfl (r_build (parts := [(0, .const (Go.Value.int Go.IntKind.i64 6))]) (cells := [(.int .i64 6), (.int .i64 0), (.int .i64 0), (.int .i64 0)]) zr126 pl126 rfl rfl) ?_
            refine WL_s rfl rfl ?_
            refine s_buildSlice (cs := Token.cs) (parts := [(0, .tmp 50)]) (⟨0, 0, 0, 0⟩ : Token) [(⟨6, 0, 0, 0⟩ : Token)] el65 sz126 zr126 Token.len (by decide) rfl rfl rfl (by decide) (by decide) rfl fun _v51 _w_102 _q51 _lo51 _cw_102 => ?_
            have _cw_102z := _cw_102.size
            have E := E.trans _cw_102.of_nil
            obtain ⟨_Av51, _Cv51, _ev51⟩ := _q51.val
            subst _ev51
            have _lv51 := _q51.len
            have _hiv51 := _q51.lt
            refine WL_s rfl rfl ?_
            have _f_104 := ((_o0_3.ch _cw_99 (fun g hg hm => by have _h0 := List.mem_singleton.1 hm; have _h2 := _lo0_3 _ hg; have _h3 := _hiuv _ hg; omega)).ch0 _cw_102)
            refine s_append (cs := Token.cs) el65 sz126 by126 zr126 rfl (by decide) Token.one _f_104 _q51.ls rfl rfl (by first | omega | (simp only [List.length_append, List.length_nil, List.length_cons, List.length_replicate, List.length_set, List.length_reverse, List.length_map] at *; omega) | (simp at *; omega)) (by first | omega | (simp only [List.length_append, List.length_nil, List.length_cons, List.length_replicate, List.length_set, List.length_reverse, List.length_map] at *; omega) | (simp at *; omega)) _lo0_3 (by omega) fun _v52 _w_103 _q52 _lo52 _ap52 _cw_103 => ?_
            have _cw_103z := _cw_103.size
            have E := E.step _cw_103 (fun i hi => .inl (by have _h1 := _lo0_3 _ hi; omega))
            obtain ⟨_Av52, _Cv52, _ev52⟩ := _q52.val
            subst _ev52
            have _lv52 := _q52.len
            have _hiv52 := _q52.lt
            refine WL_step rfl rfl (r_fieldAddr fa67_0 rfl) ?_
            refine WL_s rfl rfl ?_
            have _f_105 := ((_f_101.ch0 _cw_102).ch _cw_103 (fun hm => by exact _nb0_3 (by first | exact hm | exact _h0 ▸ hm)))
            refine s_store1 (off := 0) _f_105 sz65 rfl rfl rfl rfl fun _w_106 _m_107 _cw_106 => ?_
            have _cw_106z := _cw_106.size
            have E := E.step _cw_106 (fun i hi => .inl (by have _h1 := List.mem_singleton.1 hi; omega))
            replace _m_107 : Blk _w_106 _b3 67 [(.slice _Av52 ((us ++ [(⟨6, 0, 0, 0⟩ : Token)])).length _Cv52)] := _m_107
            refine WL_nil ?_
            refine inB_nrm ?_
            refine thn_nrm (_hK_9 _ _ ?_)
            clear _hK_9
            refine W_seq fun _K_108 _hK_108 => ?_
            refine W_region ?_
            refine WL_step rfl rfl (r_loadAtA0 _m_107.at_ agg67 sz67 rfl) ?_
            refine WL_s rfl rfl ?_
            have _f_109 := ((((_F0_1.ch _cw_99 (fun hm => by have _h1 := List.mem_singleton.1 hm; omega)).ch0 _cw_102).ch _cw_103 (fun hm => by have _h1 := _lo0_3 _ hm; have _h2 := _hiuv _ hm; omega)).ch _cw_106 (fun hm => by have _h1 := List.mem_singleton.1 hm; omega))
            refine s_storeA (off := 0) 1 _f_109 sz67 rfl (us := [(.slice _Av52 ((us ++ [(⟨6, 0, 0, 0⟩ : Token)])).length _Cv52)]) rfl rfl rfl rfl fun _w_110 _m_111 _cw_110 => ?_
            have _cw_110z := _cw_110.size
            have E := E.step _cw_110 (fun i hi => .inl (by have _h1 := List.mem_singleton.1 hi; omega))
            replace _m_111 : Blk _w_110 _b2 67 [(.slice _Av52 ((us ++ [(⟨6, 0, 0, 0⟩ : Token)])).length _Cv52)] := _m_111
            refine WL_nil ?_
            refine thn_nrm (_hK_108 _ _ ?_)
            clear _hK_108
            refine W_ret ?_
            clear _hK_59
            have _f_112 := ((_q52.ch _cw_106 (fun g hg hm => by have _h0 := List.mem_singleton.1 hm; rcases _ap52 with ea | ea; (rw [ea] at hg; exact _nb0_3 (by first | exact hg | exact _h0 ▸ hg)); (rw [ea] at hg; have _z1 := List.mem_singleton.1 hg; omega))).ch _cw_110 (fun g hg hm => by have _h0 := List.mem_singleton.1 hm; rcases _ap52 with ea | ea; (rw [ea] at hg; have _h2 := _lo0_3 _ hg; have _h3 := _hiuv _ hg; omega); (rw [ea] at hg; have _z1 := List.mem_singleton.1 hg; omega)))
            have _o_113 : Ol Token.cs 126 4 _w_110 (.slice _Av52 ((us ++ [(⟨6, 0, 0, 0⟩ : Token)])).length _Cv52) ((us ++ [(⟨6, 0, 0, 0⟩ : Token)])) := by
              have hx := _f_112
              first | exact hx | simpa using hx
            have _f_114 := ((((cu47.ch0 _cw_102).ch _cw_103 (fun i hm => by have _h1 := _lo0_3 _ hm; have _h2 := _hiuv _ hm; omega)).ch _cw_106 (fun i hm => by have _h1 := List.mem_singleton.1 hm; omega)).ch _cw_110 (fun i hm => by have _h1 := List.mem_singleton.1 hm; omega))
            exact ret_intro [_] (resOf_loadA _m_111 rfl agg67 sz67 trivial) ⟨(us ++ [(⟨6, 0, 0, 0⟩ : Token)]), (.slice _Av52 ((us ++ [(⟨6, 0, 0, 0⟩ : Token)])).length _Cv52), rfl, _o_113, (Lo.down _lo52 (by omega)), (by first | omega | (simp only [List.length_drop, List.length_set, List.length_append, List.length_singleton]; omega)), _f_114, E⟩
          · have _kb_100 := _h47
            refine W_skip ?_
            refine inB_nrm ?_
            refine thn_nrm (_hK_9 _ _ ?_)
            clear _hK_9
            refine W_seq fun _K_115 _hK_115 => ?_
            refine W_region ?_
            have _f_116 := (_m0_3.ch _cw_99 (fun hm => by have _h1 := List.mem_singleton.1 hm; omega))
            refine WL_step rfl rfl (r_loadAtA0 _f_116.at_ agg67 sz67 rfl) ?_
            refine WL_s rfl rfl ?_
            have _f_117 := (_F0_1.ch _cw_99 (fun hm => by have _h1 := List.mem_singleton.1 hm; omega))
            refine s_storeA (off := 0) 1 _f_117 sz67 rfl (us := [(.slice Auv (us).length Cuv)]) rfl rfl rfl rfl fun _w_118 _m_119 _cw_118 => ?_
            have _cw_118z := _cw_118.size
            have E := E.step _cw_118 (fun i hi => .inl (by have _h1 := List.mem_singleton.1 hi; omega))
            replace _m_119 : Blk _w_118 _b2 67 [(.slice Auv (us).length Cuv)] := _m_119
            refine WL_nil ?_
            refine thn_nrm (_hK_115 _ _ ?_)
            clear _hK_115
            refine W_ret ?_
            clear _hK_59
            have _f_120 := ((_o0_3.ch _cw_99 (fun g hg hm => by have _h0 := List.mem_singleton.1 hm; have _h2 := _lo0_3 _ hg; have _h3 := _hiuv _ hg; omega)).ch _cw_118 (fun g hg hm => by have _h0 := List.mem_singleton.1 hm; have _h2 := _lo0_3 _ hg; have _h3 := _hiuv _ hg; omega))
            have _o_121 : Ol Token.cs 126 4 _w_118 (.slice Auv (us).length Cuv) (us) := by
              have hx := _f_120
              first | exact hx | simpa using hx
            have _f_122 := (cu47.ch _cw_118 (fun i hm => by have _h1 := List.mem_singleton.1 hm; omega))
            exact ret_intro [_] (resOf_loadA _m_119 rfl agg67 sz67 trivial) ⟨us, (.slice Auv (us).length Cuv), rfl, _o_121, (Lo.down _lo0_3 (by omega)), (by first | omega | (simp only [List.length_drop, List.length_set, List.length_append, List.length_singleton]; omega)), _f_122, E⟩
      · have _kb_52 := _h28
        have _h28 := bf_d _h28
        refine W_skip ?_
        refine inB_nrm ?_
        refine thn_nrm (_hK_9 _ _ ?_)
        clear _hK_9
        refine W_seq fun _K_123 _hK_123 => ?_
        refine W_region ?_
        have _f_124 := (_m_8.ch _cw_12 (fun hm => by have _h1 := List.mem_singleton.1 hm; omega))
        refine WL_step rfl rfl (r_loadAtA0 _f_124.at_ agg67 sz67 rfl) ?_
        refine WL_s rfl rfl ?_
        have _f_125 := ((((_m2.ch _cw_5 (fun hm => by have _h1 := List.mem_singleton.1 hm; omega)).ch0 _cw_6).ch _cw_7 (fun hm => by have _h1 := List.mem_singleton.1 hm; omega)).ch _cw_12 (fun hm => by have _h1 := List.mem_singleton.1 hm; omega))
        refine s_storeA (off := 0) 1 _f_125 sz67 rfl (us := [(.slice Au5d0x0 (x5q0).length Cu5d0x0)]) rfl rfl rfl rfl fun _w_126 _m_127 _cw_126 => ?_
        have _cw_126z := _cw_126.size
        have E := E.step _cw_126 (fun i hi => .inl (by have _h1 := List.mem_singleton.1 hi; omega))
        replace _m_127 : Blk _w_126 _b2 67 [(.slice Au5d0x0 (x5q0).length Cu5d0x0)] := _m_127
        refine WL_nil ?_
        refine thn_nrm (_hK_123 _ _ ?_)
        clear _hK_123
        refine W_ret ?_
        have _f_128 := ((((_q_u5d0x0.ch0 _cw_6).ch _cw_7 (fun g hg hm => by have _h0 := List.mem_singleton.1 hm; have _h2 := _lo_u5d0x0 _ hg; have _h3 := _hiu5d0x0 _ hg; omega)).ch _cw_12 (fun g hg hm => by have _h0 := List.mem_singleton.1 hm; have _h2 := _lo_u5d0x0 _ hg; have _h3 := _hiu5d0x0 _ hg; omega)).ch _cw_126 (fun g hg hm => by have _h0 := List.mem_singleton.1 hm; have _h2 := _lo_u5d0x0 _ hg; have _h3 := _hiu5d0x0 _ hg; omega))
        have _o_129 : Ol Token.cs 126 4 _w_126 (.slice Au5d0x0 (x5q0).length Cu5d0x0) (x5q0) := by
          have hx := _f_128
          first | exact hx | simpa using hx
        have _f_130 := (cu7.ch _cw_126 (fun i hm => by have _h1 := List.mem_singleton.1 hm; omega))
        exact ret_intro [_] (resOf_loadA _m_127 rfl agg67 sz67 trivial) ⟨x5q0, (.slice Au5d0x0 (x5q0).length Cu5d0x0), rfl, _o_129, (Lo.down _lo_u5d0x0 (by omega)), (by first | omega | (simp only [List.length_drop, List.length_set, List.length_append, List.length_singleton]; omega)), _f_130, E⟩

/-- spec.l4Set -/
theorem c_spec_l4Set {w : World} (m : Int) (_m0 : 0 ≤ m) (_m1 : m < 1073741824) :
    Ctr Try.prog 184 #[(.int .i64 m)] w (fun v w' => Ol ics 3 1 w' v (bitsL m.toNat 30) ∧ Lo w.heap.size v ∧ Ch [] w w') := by
  have E := Ch.refl [] w
  refine Ctr_of_W (N := 20) (vs0 := [(.int .i64 m)]) Try.func184 rfl rfl rfl ?_
  refine W_seq fun _K_1 _hK_1 => ?_
  refine W_region ?_
  refine WL_step rfl rfl (r_assign rfl) ?_
  refine WL_nil ?_
  refine thn_nrm (_hK_1 _ _ ?_)
  clear _hK_1
  refine W_seq fun _K_2 _hK_2 => ?_
  refine W_region ?_
  refine WL_s rfl rfl ?_
  refine s_buildSlice0 (k := 1) ics el30 sz3 fun _v5 _w_3 _q5 _lo5 _cw_3 => ?_
  have _cw_3z := _cw_3.size
  have E := E.trans _cw_3
  obtain ⟨_Av5, _Cv5, _ev5⟩ := _q5.val
  subst _ev5
  have _lv5 := _q5.len
  have _hiv5 := _q5.lt
  refine WL_step rfl rfl (r_assign rfl) ?_
  refine WL_nil ?_
  refine thn_nrm (_hK_2 _ _ ?_)
  clear _hK_2
  refine W_seq fun _K_4 _hK_4 => ?_
  refine W_seq fun _K_5 _hK_5 => ?_
  refine W_region ?_
  refine WL_step rfl rfl (r_assign rfl) ?_
  refine WL_nil ?_
  refine thn_nrm (_hK_5 _ _ ?_)
  clear _hK_5
  refine W_block ?_
  have _oi_6 : Ol ics 3 1 _w_3 (.slice _Av5 (([] : List Int)).length _Cv5) (bitsL m.toNat 0) := by
    have hx := _q5
    simpa [bitsL] using hx
  refine W_loop (σ := Nat × Value) (fun ⟨i, sv⟩ => [(0, (.int .i64 m)), (2, (.slice none 0 0)), (3, sv), (4, (.int .i64 ((i : Nat) : Int)))]) (fun ⟨i, sv⟩ wx => Ch [] w wx ∧ _w_3.heap.size ≤ wx.heap.size ∧ (i ≤ 30) ∧ Ol ics 3 1 wx sv (bitsL m.toNat i) ∧ Lo w.heap.size sv) (fun ⟨i, sv⟩ => 30 - i) (0, (.slice _Av5 (([] : List Int)).length _Cv5)) (Sub.cons rfl (Sub.cons rfl (Sub.cons rfl (Sub.cons rfl (Sub.nil _))))) ⟨E, (Nat.le_refl _), (by omega), _oi_6, _lo5⟩ ?_
  rintro ⟨i, sv⟩ _wr_7 ⟨E, _zz0, hi, _o0_3, _lo0_3⟩
  have _E0h := E
  have _E0hz := _E0h.size
  obtain ⟨Asv, Csv, esv⟩ := _o0_3.val
  subst esv
  have lsv := _o0_3.len
  have hisv := _o0_3.lt
  refine W_seq fun _K_8 _hK_8 => ?_
  refine W_seq fun _K_9 _hK_9 => ?_
  refine W_region ?_
  refine WL_step rfl rfl (r_move rfl) ?_
  refine WL_step rfl rfl (r_lss rfl rfl) ?_
  refine WL_nil ?_
  refine thn_nrm (_hK_9 _ _ ?_)
  clear _hK_9
  refine W_cond rfl (fun _h7 => ?_) (fun _h7 => ?_)
  · have _kb_10 := _h7
    have _h7 := bt_d _h7
    refine W_skip ?_
    refine thn_nrm (_hK_8 _ _ ?_)
    clear _hK_8
    refine W_seq fun _K_11 _hK_11 => ?_
    refine W_block ?_
    refine W_seq fun _K_12 _hK_12 => ?_
    refine W_region ?_
    refine WL_step rfl rfl (r_move rfl) ?_
    refine WL_step rfl rfl (r_move rfl) ?_
    refine WL_step rfl rfl (r_shr (by omega) rfl rfl) ?_
    refine WL_step rfl rfl (r_and rfl rfl) ?_
    refine WL_step rfl rfl (r_eql rfl rfl) ?_
    refine WL_nil ?_
    refine thn_nrm (_hK_12 _ _ ?_)
    clear _hK_12
    refine W_cond rfl (fun _h14 => ?_) (fun _h14 => ?_)
    · have _kb_13 := _h14
      have _h14 := bt_d _h14
      refine W_region ?_
      refine WL_step rfl rfl (r_move rfl) ?_
      refine WL_step rfl rfl (r_move rfl) ?_
      refine WL_s rfl rfl ?_
      refine s_buildSlice (cs := ics) (parts := [(0, .tmp 16)]) (0 : Int) [((i : Nat) : Int)] el30 sz3 zr3 ics_len (by decide) rfl rfl rfl (by decide) (by decide) rfl fun _v17 _w_14 _q17 _lo17 _cw_14 => ?_
      have _cw_14z := _cw_14.size
      have E := E.trans _cw_14
      obtain ⟨_Av17, _Cv17, _ev17⟩ := _q17.val
      subst _ev17
      have _lv17 := _q17.len
      have _hiv17 := _q17.lt
      refine WL_s rfl rfl ?_
      have _f_16 := (_o0_3.ch0 _cw_14)
      refine s_append (cs := ics) el30 sz3 by3 zr3 rfl (by decide) ics_one _f_16 _q17.ls rfl rfl (by have _h9 := bitsL_len m.toNat i; simp only [List.length_singleton]; omega) (by have _h9 := bitsL_len m.toNat i; simp only [List.length_singleton]; omega) _lo0_3 (by omega) fun _v18 _w_15 _q18 _lo18 _ap18 _cw_15 => ?_
      have _cw_15z := _cw_15.size
      have E := E.step _cw_15 (fun i hi => .inl (by have _h1 := _lo0_3 _ hi; omega))
      obtain ⟨_Av18, _Cv18, _ev18⟩ := _q18.val
      subst _ev18
      have _lv18 := _q18.len
      have _hiv18 := _q18.lt
      refine WL_step rfl rfl (r_assign rfl) ?_
      refine WL_nil ?_
      refine inB_nrm ?_
      refine thn_nrm (_hK_11 _ _ ?_)
      clear _hK_11
      refine W_region ?_
      refine WL_step rfl rfl (r_move rfl) ?_
      refine WL_step rfl rfl (r_add (by omega) rfl rfl) ?_
      refine WL_step rfl rfl (r_assign rfl) ?_
      refine WL_nil ?_
      have _on_17 : Ol ics 3 1 _w_15 (.slice _Av18 ((bitsL m.toNat i ++ [((i : Nat) : Int)])).length _Cv18) (bitsL m.toNat (i + 1)) := by
        have hx := _q18
        first | exact hx.eq (bitsL_y _h14 _m0 (by omega) (by omega)) | exact hx.eq (bitsL_n _h14 _m0 (by omega) (by omega))
      exact thn_nrm (Exists.intro ((i + 1), (.slice _Av18 ((bitsL m.toNat i ++ [((i : Nat) : Int)])).length _Cv18)) ⟨⟨E, (by omega), (by omega), _on_17, (Lo.down _lo18 (by omega))⟩, Sub.cons rfl (Sub.cons rfl (Sub.cons rfl (Sub.cons rfl (Sub.nil _)))), (by first | omega | (dsimp only; omega))⟩)
    · have _kb_13 := _h14
      have _h14 := bf_d _h14
      refine W_skip ?_
      refine inB_nrm ?_
      refine thn_nrm (_hK_11 _ _ ?_)
      clear _hK_11
      refine W_region ?_
      refine WL_step rfl rfl (r_move rfl) ?_
      refine WL_step rfl rfl (r_add (by omega) rfl rfl) ?_
      refine WL_step rfl rfl (r_assign rfl) ?_
      refine WL_nil ?_
      have _on_18 : Ol ics 3 1 _wr_7 (.slice Asv (bitsL m.toNat i).length Csv) (bitsL m.toNat (i + 1)) := by
        have hx := _o0_3
        first | exact hx.eq (bitsL_y _h14 _m0 (by omega) (by omega)) | exact hx.eq (bitsL_n _h14 _m0 (by omega) (by omega))
      exact thn_nrm (Exists.intro ((i + 1), (.slice Asv (bitsL m.toNat i).length Csv)) ⟨⟨E, (by omega), (by omega), _on_18, (Lo.down _lo0_3 (by omega))⟩, Sub.cons rfl (Sub.cons rfl (Sub.cons rfl (Sub.cons rfl (Sub.nil _)))), (by first | omega | (dsimp only; omega))⟩)
  · have _kb_10 := _h7
    have _h7 := bf_d _h7
    refine W_exit (thn_exit (thn_exit (inB_hit ?_)))
    refine thn_nrm (_hK_4 _ _ ?_)
    clear _hK_4
    refine W_seq fun _K_19 _hK_19 => ?_
    refine W_region ?_
    refine WL_step rfl rfl (r_move rfl) ?_
    refine WL_step rfl rfl (r_assign rfl) ?_
    refine WL_nil ?_
    refine thn_nrm (_hK_19 _ _ ?_)
    clear _hK_19
    refine W_ret ?_
    clear _hK_8
    have _o_20 : Ol ics 3 1 _wr_7 (.slice Asv (bitsL m.toNat i).length Csv) (bitsL m.toNat 30) := by
      have hx := _o0_3
      exact hx.eq (by rw [show i = 30 by omega])
    exact ret_intro [_] ⟨rfl, trivial⟩ ⟨_o_20, Lo.down _lo0_3 (by omega), E⟩

/-- spec.Alphabet -/
theorem c_spec_Alphabet {w : World} {LL_e _B_e : Nat} {_v_e : Value} {e : List Token} (_h_e : Ls Token.cs 4 w LL_e _B_e _v_e e) :
    Ctr Try.prog 133 #[(.agg #[_v_e])] w (fun v w' => Ol ics 3 1 w' v (alphR e) ∧ Lo w.heap.size v ∧ Ch [] w w') := by
  obtain ⟨_A_e, _C_e, _e1_e⟩ := _h_e.val
  subst _e1_e
  have _l_e := _h_e.len
  have _h_e := _h_e.here (by decide)
  have E := Ch.refl [] w
  skip
  refine Ctr_of_W (N := 34) (vs0 := [(.agg #[(.slice _A_e e.length _C_e)])]) Try.func133 rfl rfl rfl ?_
  refine W_seq fun _K_1 _hK_1 => ?_
  refine W_region ?_
  refine WL_s rfl rfl ?_
  refine s_box rfl fun _b1 _w_2 _m1 _cw_2 _e1 => ?_
  have _cw_2z := _cw_2.size
  have E := E.trans _cw_2
  have _z1 := _m1.lt
  replace _m1 : Blk _w_2 _b1 67 [(.slice _A_e e.length _C_e)] := _m1
  refine WL_step rfl rfl (r_assign rfl) ?_
  refine WL_nil ?_
  refine thn_nrm (_hK_1 _ _ ?_)
  clear _hK_1
  refine W_seq fun _K_3 _hK_3 => ?_
  refine W_region ?_
  refine WL_step rfl rfl (r_assign rfl) ?_
  refine WL_nil ?_
  refine thn_nrm (_hK_3 _ _ ?_)
  clear _hK_3
  refine W_seq fun _K_4 _hK_4 => ?_
  refine W_seq fun _K_5 _hK_5 => ?_
  refine W_region ?_
  refine WL_step rfl rfl (r_assign rfl) ?_
  refine WL_nil ?_
  refine thn_nrm (_hK_5 _ _ ?_)
  clear _hK_5
  refine W_block ?_
  refine W_loop (σ := Nat × Int) (fun ⟨i, m⟩ => [(1, (.pointer (some ⟨_b1, 0, none⟩))), (2, (.slice none 0 0)), (3, (.int .i64 m)), (4, (.int .i64 ((i : Nat) : Int)))]) (fun ⟨i, m⟩ wx => Ch [] w wx ∧ _w_2.heap.size ≤ wx.heap.size ∧ (i ≤ e.length) ∧ (m = ((letM e i : Nat) : Int)) ∧ (0 < i → isE e = true) ∧ Blk wx _b1 67 [(.slice _A_e e.length _C_e)]) (fun ⟨i, m⟩ => e.length - i) (0, 0) (Sub.cons rfl (Sub.cons rfl (Sub.cons rfl (Sub.cons rfl (Sub.nil _))))) ⟨E, (Nat.le_refl _), (by omega), rfl, (fun h => absurd h (by omega)), _m1⟩ ?_
  rintro ⟨i, m⟩ _wr_6 ⟨E, _zz0, hi, hm, ho, _F0_0⟩
  have _E0h := E
  have _E0hz := _E0h.size
  have _F0_0z := _F0_0.lt
  have ml9 := letm_lt2 ho
  refine W_seq fun _K_7 _hK_7 => ?_
  refine W_seq fun _K_8 _hK_8 => ?_
  refine W_region ?_
  refine WL_step rfl rfl (r_move rfl) ?_
  refine WL_step rfl rfl (r_fieldAddr fa67_0 rfl) ?_
  refine WL_step rfl rfl (r_loadAt _F0_0.at_ agg65 rfl rfl) ?_
  refine WL_step rfl rfl (r_len (by rw [el65]; rfl) rfl) ?_
  refine WL_step rfl rfl (r_lss rfl rfl) ?_
  refine WL_step rfl rfl (r_move rfl) ?_
  refine WL_split (d := 10) rfl (fun _h10 => ?_) (fun _h10 => ?_)
  · have _kb_9 := _h10
    have _h10 := bt_d _h10
    refine WL_step rfl rfl (r_loadAtA0 _F0_0.at_ agg67 sz67 rfl) ?_
    refine WL_s rfl rfl ?_
    have _f_10 := (_h_e.ch0 _E0h)
    refine Step.call (r_call (xs := [.tmp 11]) fk121 rfl) (c_spec_IsExpr _f_10 ) fun _v12 _w_11 _q12 => ?_
    obtain ⟨rfl, _cw_11⟩ := _q12
    have _cw_11z := _cw_11.size
    have E := E.trans _cw_11
    refine WL_step rfl rfl (r_pickT rfl rfl) ?_
    refine WL_nil ?_
    refine thn_nrm (_hK_8 _ _ ?_)
    clear _hK_8
    refine W_cond rfl (fun _h13 => ?_) (fun _h13 => ?_)
    · have _kb_12 := _h13
      refine W_skip ?_
      refine thn_nrm (_hK_7 _ _ ?_)
      clear _hK_7
      refine W_seq fun _K_13 _hK_13 => ?_
      refine W_block ?_
      refine W_seq fun _K_14 _hK_14 => ?_
      refine W_region ?_
      refine WL_step rfl rfl (r_fieldAddr fa67_0 rfl) ?_
      have _f_15 := (_F0_0.ch0 _cw_11)
      refine WL_step rfl rfl (r_loadAt _f_15.at_ agg65 rfl rfl) ?_
      refine WL_step rfl rfl (r_move rfl) ?_
      refine WL_s rfl rfl ?_
      have _f_16 := (_f_10.ch0 _cw_11)
      refine (s_index _f_16 Token.len el65 sz126 rfl rfl rfl (by omega) fun _p19 _y19 _hy19 _a19 => ?_)
      refine WL_step rfl rfl (r_fieldAddr fa126_0 rfl) ?_
      refine WL_step rfl rfl (r_loadAt _a19 agg3 rfl rfl) ?_
      refine WL_step rfl rfl (r_eql rfl rfl) ?_
      refine WL_nil ?_
      refine thn_nrm (_hK_14 _ _ ?_)
      clear _hK_14
      refine W_cond rfl (fun _h22 => ?_) (fun _h22 => ?_)
      · have _kb_17 := _h22
        have _h22 := bt_d _h22
        refine W_region ?_
        refine WL_step rfl rfl (r_move rfl) ?_
        refine WL_step rfl rfl (r_fieldAddr fa67_0 rfl) ?_
        refine WL_step rfl rfl (r_loadAt _f_15.at_ agg65 rfl rfl) ?_
        refine WL_step rfl rfl (r_move rfl) ?_
        refine WL_s rfl rfl ?_
        refine (s_index _f_16 Token.len el65 sz126 rfl rfl rfl (by omega) fun _p27 _y27 _hy27 _a27 => ?_)
        have _u27 := get_uniq _hy19 _hy27
        have k27 := isE_letOk _h13 _y27 (mem_of_get _hy27) (by rw [← _u27]; exact _h22)
        refine WL_step rfl rfl (r_fieldAddr fa126_1 rfl) ?_
        refine WL_step rfl rfl (r_loadAt _a27 agg3 rfl rfl) ?_
        refine WL_step rfl rfl (r_shl (by omega) rfl rfl) ?_
        refine WL_step rfl rfl (r_or rfl rfl) ?_
        refine WL_step rfl rfl (r_assign rfl) ?_
        refine WL_nil ?_
        refine inB_nrm ?_
        refine thn_nrm (_hK_13 _ _ ?_)
        clear _hK_13
        refine W_region ?_
        refine WL_step rfl rfl (r_move rfl) ?_
        refine WL_step rfl rfl (r_add (by omega) rfl rfl) ?_
        refine WL_step rfl rfl (r_assign rfl) ?_
        refine WL_nil ?_
        exact thn_nrm (Exists.intro ((i + 1), (ior m (ishl 1 _y27.letter))) ⟨⟨E, (by omega), (by omega), (by first | exact letm_i _hy19 _hy27 hm _h22 _h13 | (rw [letm_n _hy19 _h22]; exact hm)), (fun _ => _h13), _f_15⟩, Sub.cons rfl (Sub.cons rfl (Sub.cons rfl (Sub.cons rfl (Sub.nil _)))), (by first | omega | (dsimp only; omega))⟩)
      · have _kb_17 := _h22
        have _h22 := bf_d _h22
        refine W_skip ?_
        refine inB_nrm ?_
        refine thn_nrm (_hK_13 _ _ ?_)
        clear _hK_13
        refine W_region ?_
        refine WL_step rfl rfl (r_move rfl) ?_
        refine WL_step rfl rfl (r_add (by omega) rfl rfl) ?_
        refine WL_step rfl rfl (r_assign rfl) ?_
        refine WL_nil ?_
        exact thn_nrm (Exists.intro ((i + 1), m) ⟨⟨E, (by omega), (by omega), (by first | exact letm_i _hy19 _hy27 hm _h22 _h13 | (rw [letm_n _hy19 _h22]; exact hm)), (fun _ => _h13), _f_15⟩, Sub.cons rfl (Sub.cons rfl (Sub.cons rfl (Sub.cons rfl (Sub.nil _)))), (by first | omega | (dsimp only; omega))⟩)
    · have _kb_12 := _h13
      refine W_exit (thn_exit (thn_exit (inB_hit ?_)))
      refine thn_nrm (_hK_4 _ _ ?_)
      clear _hK_4
      refine W_seq fun _K_18 _hK_18 => ?_
      refine W_region ?_
      refine WL_step rfl rfl (r_move rfl) ?_
      refine WL_s rfl rfl ?_
      refine Step.call (r_call (xs := [.tmp 32]) fk184 rfl) (c_spec_l4Set _ (by omega) (by omega)) fun _v33 _w_19 _q33 => ?_
      obtain ⟨_q33, _lo33, _cw_19⟩ := _q33
      have _cw_19z := _cw_19.size
      have E := E.trans _cw_19
      obtain ⟨_Av33, _Cv33, _ev33⟩ := _q33.val
      subst _ev33
      have _lv33 := _q33.len
      have _hiv33 := _q33.lt
      refine WL_step rfl rfl (r_assign rfl) ?_
      refine WL_nil ?_
      refine thn_nrm (_hK_18 _ _ ?_)
      clear _hK_18
      refine W_ret ?_
      clear _hK_7
      have _o_20 : Ol ics 3 1 _w_19 (.slice _Av33 (bitsL m.toNat 30).length _Cv33) (alphR e) := by
        have hx := _q33
        exact hx.eq (by rw [hm, Int.toNat_natCast]; first | exact alphR_end ho (.inl (by omega)) hi | exact alphR_end ho (.inr _h13) hi)
      exact ret_intro [_] ⟨rfl, trivial⟩ ⟨_o_20, Lo.down _lo33 (by omega), E⟩
  · have _kb_9 := _h10
    have _h10 := bf_d _h10
    refine WL_skip rfl rfl ?_
    refine WL_skip rfl rfl ?_
    refine WL_step rfl rfl (r_pickF rfl rfl) ?_
    refine WL_nil ?_
    refine thn_nrm (_hK_8 _ _ ?_)
    clear _hK_8
    refine W_condF rfl ?_
    refine W_exit (thn_exit (thn_exit (inB_hit ?_)))
    refine thn_nrm (_hK_4 _ _ ?_)
    clear _hK_4
    refine W_seq fun _K_21 _hK_21 => ?_
    refine W_region ?_
    refine WL_step rfl rfl (r_move rfl) ?_
    refine WL_s rfl rfl ?_
    refine Step.call (r_call (xs := [.tmp 32]) fk184 rfl) (c_spec_l4Set _ (by omega) (by omega)) fun _v33 _w_22 _q33 => ?_
    obtain ⟨_q33, _lo33, _cw_22⟩ := _q33
    have _cw_22z := _cw_22.size
    have E := E.trans _cw_22
    obtain ⟨_Av33, _Cv33, _ev33⟩ := _q33.val
    subst _ev33
    have _lv33 := _q33.len
    have _hiv33 := _q33.lt
    refine WL_step rfl rfl (r_assign rfl) ?_
    refine WL_nil ?_
    refine thn_nrm (_hK_21 _ _ ?_)
    clear _hK_21
    refine W_ret ?_
    clear _hK_7
    have _o_23 : Ol ics 3 1 _w_22 (.slice _Av33 (bitsL m.toNat 30).length _Cv33) (alphR e) := by
      have hx := _q33
      exact hx.eq (by rw [hm, Int.toNat_natCast]; first | exact alphR_end ho (.inl (by omega)) hi | exact alphR_end ho (.inr _h13) hi)
    exact ret_intro [_] ⟨rfl, trivial⟩ ⟨_o_23, Lo.down _lo33 (by omega), E⟩

/-- spec.l2Draw -/
theorem c_spec_l2Draw {w : World} {b_c : Nat} (_h_c : Cu w b_c) :
    Ctr Try.prog 178 #[(.pointer (some ⟨b_c, 0, none⟩))] w (fun v w' => ∃ (xq0 : Int) , v = .int .i64 xq0 ∧ (-1 ≤ xq0 ∧ xq0 ≤ 100) ∧ Cu w' b_c ∧ Ch [b_c] w w') := by
  have _zb_c := _h_c.lt
  have E := Ch.refl [b_c] w
  refine Ctr_of_W (N := 11) (vs0 := [(.pointer (some ⟨b_c, 0, none⟩))]) Try.func178 rfl rfl rfl ?_
  refine W_seq fun _K_1 _hK_1 => ?_
  refine W_region ?_
  refine WL_step rfl rfl (r_assign rfl) ?_
  refine WL_nil ?_
  refine thn_nrm (_hK_1 _ _ ?_)
  clear _hK_1
  refine W_seq fun _K_2 _hK_2 => ?_
  refine W_seq fun _K_3 _hK_3 => ?_
  refine W_region ?_
  refine WL_step rfl rfl (r_move rfl) ?_
  refine WL_s rfl rfl ?_
  refine Step.call (r_call (xs := [.tmp 3, .const (Go.Value.int Go.IntKind.i64 14)]) fk157 rfl) (c_spec_l1Once _h_c _ (by omega)) fun _v4 _w_4 _q4 => ?_
  obtain ⟨x4q0, rfl, cu4, _cw_4⟩ := _q4
  have _cw_4z := _cw_4.size
  have E := E.trans _cw_4
  refine WL_nil ?_
  refine thn_nrm (_hK_3 _ _ ?_)
  clear _hK_3
  refine W_cond rfl (fun _h4 => ?_) (fun _h4 => ?_)
  · have _kb_5 := _h4
    refine W_seq fun _K_6 _hK_6 => ?_
    refine W_region ?_
    refine WL_step rfl rfl (r_move rfl) ?_
    refine WL_s rfl rfl ?_
    refine s_buildSlice (cs := ics) (parts := [(0, .const (Go.Value.int Go.IntKind.i64 (-1))), (1, .const (Go.Value.int Go.IntKind.i64 9)), (2, .const (Go.Value.int Go.IntKind.i64 8)), (3, .const (Go.Value.int Go.IntKind.i64 100))]) (0 : Int) [(-1), 9, 8, 100] el30 sz3 zr3 ics_len (by decide) rfl rfl rfl (by decide) (by decide) rfl fun _v6 _w_7 _q6 _lo6 _cw_7 => ?_
    have _cw_7z := _cw_7.size
    have E := E.trans _cw_7.of_nil
    obtain ⟨_Av6, _Cv6, _ev6⟩ := _q6.val
    subst _ev6
    have _lv6 := _q6.len
    have _hiv6 := _q6.lt
    refine WL_s rfl rfl ?_
    have _f_8 := (cu4.ch0 _cw_7)
    refine Step.call (r_call (xs := [.tmp 5, .tmp 6]) fk147 rfl) (c_spec_l1PickInt _f_8 _q6 (by decide) _w_4.heap.size (by omega) _lo6) fun _v7 _w_9 _q7 => ?_
    obtain ⟨x7q0, rfl, pt7_0, cu7, _cw_9⟩ := _q7
    have _cw_9z := _cw_9.size
    have E := E.trans _cw_9
    refine WL_step rfl rfl (r_assign rfl) ?_
    refine WL_nil ?_
    refine thn_nrm (_hK_6 _ _ ?_)
    clear _hK_6
    refine W_ret (thn_ret ?_)
    clear _hK_2
    exact ret_intro [_] ⟨rfl, trivial⟩ ⟨x7q0, (congrArg (fun zq => (Value.int .i64 zq)) (by first | rfl | simp_all)), (by have _h9 := pt7_0; simp at _h9; omega), cu7, E⟩
  · have _kb_5 := _h4
    refine W_skip ?_
    refine thn_nrm (_hK_2 _ _ ?_)
    clear _hK_2
    refine W_seq fun _K_10 _hK_10 => ?_
    refine W_region ?_
    refine WL_step rfl rfl (r_move rfl) ?_
    refine WL_s rfl rfl ?_
    refine s_buildSlice (cs := ics) (parts := [(0, .const (Go.Value.int Go.IntKind.i64 0)), (1, .const (Go.Value.int Go.IntKind.i64 0)), (2, .const (Go.Value.int Go.IntKind.i64 0)), (3, .const (Go.Value.int Go.IntKind.i64 1)), (4, .const (Go.Value.int Go.IntKind.i64 2)), (5, .const (Go.Value.int Go.IntKind.i64 2)), (6, .const (Go.Value.int Go.IntKind.i64 3)), (7, .const (Go.Value.int Go.IntKind.i64 4)), (8, .const (Go.Value.int Go.IntKind.i64 6)), (9, .const (Go.Value.int Go.IntKind.i64 7))]) (0 : Int) [0, 0, 0, 1, 2, 2, 3, 4, 6, 7] el30 sz3 zr3 ics_len (by decide) rfl rfl rfl (by decide) (by decide) rfl fun _v9 _w_11 _q9 _lo9 _cw_11 => ?_
    have _cw_11z := _cw_11.size
    have E := E.trans _cw_11.of_nil
    obtain ⟨_Av9, _Cv9, _ev9⟩ := _q9.val
    subst _ev9
    have _lv9 := _q9.len
    have _hiv9 := _q9.lt
    refine WL_s rfl rfl ?_
    have _f_12 := (cu4.ch0 _cw_11)
    refine Step.call (r_call (xs := [.tmp 8, .tmp 9]) fk147 rfl) (c_spec_l1PickInt _f_12 _q9 (by decide) _w_4.heap.size (by omega) _lo9) fun _v10 _w_13 _q10 => ?_
    obtain ⟨x10q0, rfl, pt10_0, cu10, _cw_13⟩ := _q10
    have _cw_13z := _cw_13.size
    have E := E.trans _cw_13
    refine WL_step rfl rfl (r_assign rfl) ?_
    refine WL_nil ?_
    refine thn_nrm (_hK_10 _ _ ?_)
    clear _hK_10
    refine W_ret ?_
    exact ret_intro [_] ⟨rfl, trivial⟩ ⟨x10q0, (congrArg (fun zq => (Value.int .i64 zq)) (by first | rfl | simp_all)), (by have _h9 := pt10_0; simp at _h9; omega), cu10, E⟩

/-- spec.l9Near -/
theorem c_spec_l9Near {w : World} {b_c : Nat} (_h_c : Cu w b_c) {LL_e _B_e : Nat} {_v_e : Value} {e : List Token} (_h_e : Ls Token.cs 4 w LL_e _B_e _v_e e) (most : Int) (hb : e.length ≤ 1048576) (hm : 0 ≤ most ∧ most ≤ 20) (hq : b_c < LL_e) :
    Ctr Try.prog 126 #[(.pointer (some ⟨b_c, 0, none⟩)), (.agg #[_v_e]), (.int .i64 most)] w (fun v w' => ∃ (xq0 : List Int) (ud0 : Value), v = ud0 ∧ Ol ics 3 1 w' ud0 (xq0) ∧ Lo w.heap.size ud0 ∧ ((xq0.length : Int) ≤ most + 1) ∧ Cu w' b_c ∧ Ch [b_c] w w') := by
  have _zb_c := _h_c.lt
  obtain ⟨_A_e, _C_e, _e1_e⟩ := _h_e.val
  subst _e1_e
  have _l_e := _h_e.len
  have _h_e := _h_e.here (by decide)
  have E := Ch.refl [b_c] w
  have al9 := alphR_len e
  refine Ctr_of_W (N := 44) (vs0 := [(.pointer (some ⟨b_c, 0, none⟩)), (.agg #[(.slice _A_e e.length _C_e)]), (.int .i64 most)]) Try.func126 rfl rfl rfl ?_
  refine W_seq fun _K_1 _hK_1 => ?_
  refine W_region ?_
  refine WL_s rfl rfl ?_
  refine s_box rfl fun _b4 _w_2 _m4 _cw_2 _e4 => ?_
  have _cw_2z := _cw_2.size
  have E := E.trans _cw_2.of_nil
  have _z4 := _m4.lt
  replace _m4 : Blk _w_2 _b4 67 [(.slice _A_e e.length _C_e)] := _m4
  refine WL_step rfl rfl (r_assign rfl) ?_
  refine WL_nil ?_
  refine thn_nrm (_hK_1 _ _ ?_)
  clear _hK_1
  refine W_seq fun _K_3 _hK_3 => ?_
  refine W_region ?_
  refine WL_step rfl rfl (r_loadAtA0 _m4.at_ agg67 sz67 rfl) ?_
  refine WL_s rfl rfl ?_
  have _f_4 := (_h_e.ch0 _cw_2)
  refine Step.call (r_call (xs := [.tmp 10]) fk133 rfl) (c_spec_Alphabet _f_4 ) fun _v11 _w_5 _q11 => ?_
  obtain ⟨_q11, _lo11, _cw_5⟩ := _q11
  have _cw_5z := _cw_5.size
  have E := E.trans _cw_5.of_nil
  obtain ⟨_Av11, _Cv11, _ev11⟩ := _q11.val
  subst _ev11
  have _lv11 := _q11.len
  have _hiv11 := _q11.lt
  refine WL_step rfl rfl (r_assign rfl) ?_
  refine WL_nil ?_
  refine thn_nrm (_hK_3 _ _ ?_)
  clear _hK_3
  refine W_seq fun _K_6 _hK_6 => ?_
  refine W_region ?_
  refine WL_s rfl rfl ?_
  refine s_buildSlice0 (k := 1) ics el30 sz3 fun _v12 _w_7 _q12 _lo12 _cw_7 => ?_
  have _cw_7z := _cw_7.size
  have E := E.trans _cw_7.of_nil
  obtain ⟨_Av12, _Cv12, _ev12⟩ := _q12.val
  subst _ev12
  have _lv12 := _q12.len
  have _hiv12 := _q12.lt
  refine WL_step rfl rfl (r_assign rfl) ?_
  refine WL_nil ?_
  refine thn_nrm (_hK_6 _ _ ?_)
  clear _hK_6
  refine W_seq fun _K_8 _hK_8 => ?_
  refine W_seq fun _K_9 _hK_9 => ?_
  refine W_region ?_
  refine WL_step rfl rfl (r_move rfl) ?_
  refine WL_step rfl rfl (r_move rfl) ?_
  refine WL_step rfl rfl (r_add (by omega) rfl rfl) ?_
  refine WL_s rfl rfl ?_
  have _f_10 := (((_h_c.ch0 _cw_2).ch0 _cw_5).ch0 _cw_7)
  refine Step.call (r_call (xs := [.tmp 13, .tmp 15]) fk76 rfl) (c_spec_l1Below _f_10 _ (by omega)) fun _v16 _w_11 _q16 => ?_
  obtain ⟨x16q0, rfl, pt16_0, cu16, _cw_11⟩ := _q16
  have _cw_11z := _cw_11.size
  have E := E.trans _cw_11
  refine WL_step rfl rfl (r_assign rfl) ?_
  refine WL_nil ?_
  refine thn_nrm (_hK_9 _ _ ?_)
  clear _hK_9
  refine W_block ?_
  have _f_12 := (_q12.ch _cw_11 (fun g hg hm => by have _h0 := List.mem_singleton.1 hm; have _h2 := _lo12 _ hg; have _h3 := _hiv12 _ hg; omega))
  have _oi_13 : Ol ics 3 1 _w_11 (.slice _Av12 (([] : List Int)).length _Cv12) (([] : List Int)) := by
    have hx := _f_12
    exact hx
  have _f_14 := ((_q11.ch0 _cw_7).ch _cw_11 (fun g hg hm => by have _h0 := List.mem_singleton.1 hm; have _h2 := _lo11 _ hg; have _h3 := _hiv11 _ hg; omega))
  refine W_loop (σ := Int × List Int × Value) (fun ⟨q, ws, wv⟩ => [(0, (.pointer (some ⟨b_c, 0, none⟩))), (6, (.slice none 0 0)), (7, (.slice _Av11 (alphR e).length _Cv11)), (8, wv), (9, (.int .i64 q))]) (fun ⟨q, ws, wv⟩ wx => Ch [b_c] w wx ∧ _w_11.heap.size ≤ wx.heap.size ∧ (q ≤ most ∧ (ws.length : Int) + (if 0 < q then q else 0) ≤ most) ∧ Cu wx b_c ∧ Ol ics 3 1 wx (.slice _Av11 (alphR e).length _Cv11) (alphR e) ∧ Ol ics 3 1 wx wv ws ∧ Lo _w_5.heap.size wv) (fun ⟨q, ws, wv⟩ => q.toNat) (x16q0, ([] : List Int), (.slice _Av12 (([] : List Int)).length _Cv12)) (Sub.cons rfl (Sub.cons rfl (Sub.cons rfl (Sub.cons rfl (Sub.cons rfl (Sub.nil _)))))) ⟨E, (Nat.le_refl _), (by simp; split <;> omega), cu16, _f_14, _oi_13, _lo12⟩ ?_
  rintro ⟨q, ws, wv⟩ _wr_15 ⟨E, _zz0, hq2, _F0_0, _F0_1, _o0_8, _lo0_8⟩
  have _E0h := E
  have _E0hz := _E0h.size
  obtain ⟨Awv, Cwv, ewv⟩ := _o0_8.val
  subst ewv
  have lwv := _o0_8.len
  have hiwv := _o0_8.lt
  refine W_seq fun _K_16 _hK_16 => ?_
  refine W_seq fun _K_17 _hK_17 => ?_
  refine W_region ?_
  refine WL_step rfl rfl (r_move rfl) ?_
  refine WL_step rfl rfl (r_gtr rfl rfl) ?_
  refine WL_step rfl rfl (r_move rfl) ?_
  refine WL_split (d := 19) rfl (fun _h19 => ?_) (fun _h19 => ?_)
  · have _kb_18 := _h19
    have _h19 := bt_d _h19
    refine WL_step rfl rfl (r_move rfl) ?_
    refine WL_step rfl rfl (r_len (by rw [el30]; rfl) rfl) ?_
    refine WL_step rfl rfl (r_gtr rfl rfl) ?_
    refine WL_step rfl rfl (r_pickT rfl rfl) ?_
    refine WL_nil ?_
    refine thn_nrm (_hK_17 _ _ ?_)
    clear _hK_17
    refine W_cond rfl (fun _h23 => ?_) (fun _h23 => ?_)
    · have _kb_19 := _h23
      have _h23 := bt_d _h23
      refine W_skip ?_
      refine thn_nrm (_hK_16 _ _ ?_)
      clear _hK_16
      refine W_seq fun _K_20 _hK_20 => ?_
      refine W_block ?_
      refine W_region ?_
      refine WL_step rfl rfl (r_move rfl) ?_
      refine WL_step rfl rfl (r_move rfl) ?_
      refine WL_step rfl rfl (r_move rfl) ?_
      refine WL_step rfl rfl (r_move rfl) ?_
      refine WL_step rfl rfl (r_len (by rw [el30]; rfl) rfl) ?_
      refine WL_s rfl rfl ?_
      refine Step.call (r_call (xs := [.tmp 28, .tmp 30]) fk76 rfl) (c_spec_l1Below _F0_0 _ (by omega)) fun _v31 _w_21 _q31 => ?_
      obtain ⟨x31q0, rfl, pt31_0, cu31, _cw_21⟩ := _q31
      have _cw_21z := _cw_21.size
      have E := E.trans _cw_21
      refine WL_s rfl rfl ?_
      have _f_22 := (_F0_1.ch _cw_21 (fun g hg hm => by have _h0 := List.mem_singleton.1 hm; have _h2 := _lo11 _ hg; have _h3 := _hiv11 _ hg; omega))
      refine (s_index (j := x31q0.toNat) _f_22.ls ics_len el30 sz3 rfl rfl (by omega) (by omega) fun _p32 _y32 _hy32 _a32 => ?_)
      refine WL_step rfl rfl (r_loadAt0 _a32 agg3 rfl rfl) ?_
      refine WL_s rfl rfl ?_
      refine s_buildSlice (cs := ics) (parts := [(0, .tmp 33)]) (0 : Int) [_y32] el30 sz3 zr3 ics_len (by decide) rfl rfl rfl (by decide) (by decide) rfl fun _v34 _w_23 _q34 _lo34 _cw_23 => ?_
      have _cw_23z := _cw_23.size
      have E := E.trans _cw_23.of_nil
      obtain ⟨_Av34, _Cv34, _ev34⟩ := _q34.val
      subst _ev34
      have _lv34 := _q34.len
      have _hiv34 := _q34.lt
      refine WL_s rfl rfl ?_
      have _f_25 := ((_o0_8.ch _cw_21 (fun g hg hm => by have _h0 := List.mem_singleton.1 hm; have _h2 := _lo0_8 _ hg; have _h3 := hiwv _ hg; omega)).ch0 _cw_23)
      refine s_append (cs := ics) el30 sz3 by3 zr3 rfl (by decide) ics_one _f_25 _q34.ls rfl rfl (by first | omega | (simp only [List.length_append, List.length_nil, List.length_cons, List.length_replicate, List.length_set, List.length_reverse, List.length_map] at *; omega) | (simp at *; omega)) (by first | omega | (simp only [List.length_append, List.length_nil, List.length_cons, List.length_replicate, List.length_set, List.length_reverse, List.length_map] at *; omega) | (simp at *; omega)) _lo0_8 (by omega) fun _v35 _w_24 _q35 _lo35 _ap35 _cw_24 => ?_
      have _cw_24z := _cw_24.size
      have E := E.step _cw_24 (fun i hi => .inl (by have _h1 := _lo0_8 _ hi; omega))
      obtain ⟨_Av35, _Cv35, _ev35⟩ := _q35.val
      subst _ev35
      have _lv35 := _q35.len
      have _hiv35 := _q35.lt
      refine WL_step rfl rfl (r_assign rfl) ?_
      refine WL_nil ?_
      refine inB_nrm ?_
      refine thn_nrm (_hK_20 _ _ ?_)
      clear _hK_20
      refine W_region ?_
      refine WL_step rfl rfl (r_move rfl) ?_
      refine WL_step rfl rfl (r_sub (by omega) rfl rfl) ?_
      refine WL_step rfl rfl (r_assign rfl) ?_
      refine WL_nil ?_
      have _on_26 : Ol ics 3 1 _w_24 (.slice _Av35 ((ws ++ [_y32])).length _Cv35) ((ws ++ [_y32])) := by
        have hx := _q35
        exact hx
      have _f_27 := ((cu31.ch0 _cw_23).ch _cw_24 (fun i hm => by have _h1 := _lo0_8 _ hm; have _h2 := hiwv _ hm; omega))
      have _f_28 := ((_f_22.ch0 _cw_23).ch _cw_24 (fun g hg hm => by have _h1 := _lo0_8 _ hm; have _h2 := hiwv _ hm; have _h3 := _lo11 _ hg; have _h4 := _hiv11 _ hg; omega))
      exact thn_nrm (Exists.intro ((q - 1), (ws ++ [_y32]), (.slice _Av35 ((ws ++ [_y32])).length _Cv35)) ⟨⟨E, (by omega), (by simp only [List.length_append, List.length_singleton]; have _h9 := hq2.2; split at _h9 <;> split <;> omega), _f_27, _f_28, _on_26, (Lo.down _lo35 (by omega))⟩, Sub.cons rfl (Sub.cons rfl (Sub.cons rfl (Sub.cons rfl (Sub.cons rfl (Sub.nil _))))), (by first | omega | (dsimp only; omega))⟩)
    · have _kb_19 := _h23
      have _h23 := bf_d _h23
      refine W_exit (thn_exit (thn_exit (inB_hit ?_)))
      refine thn_nrm (_hK_8 _ _ ?_)
      clear _hK_8
      refine W_seq fun _K_29 _hK_29 => ?_
      refine W_seq fun _K_30 _hK_30 => ?_
      refine W_region ?_
      refine WL_step rfl rfl (r_move rfl) ?_
      refine WL_s rfl rfl ?_
      refine Step.call (r_call (xs := [.tmp 36, .const (Go.Value.int Go.IntKind.i64 8)]) fk157 rfl) (c_spec_l1Once _F0_0 _ (by omega)) fun _v37 _w_31 _q37 => ?_
      obtain ⟨x37q0, rfl, cu37, _cw_31⟩ := _q37
      have _cw_31z := _cw_31.size
      have E := E.trans _cw_31
      refine WL_nil ?_
      refine thn_nrm (_hK_30 _ _ ?_)
      clear _hK_30
      refine W_cond rfl (fun _h37 => ?_) (fun _h37 => ?_)
      · have _kb_32 := _h37
        refine W_region ?_
        refine WL_step rfl rfl (r_move rfl) ?_
        refine WL_step rfl rfl (r_move rfl) ?_
        refine WL_s rfl rfl ?_
        refine Step.call (r_call (xs := [.tmp 39]) fk178 rfl) (c_spec_l2Draw cu37 ) fun _v40 _w_33 _q40 => ?_
        obtain ⟨x40q0, rfl, pt40_0, cu40, _cw_33⟩ := _q40
        have _cw_33z := _cw_33.size
        have E := E.trans _cw_33
        refine WL_s rfl rfl ?_
        refine s_buildSlice (cs := ics) (parts := [(0, .tmp 40)]) (0 : Int) [x40q0] el30 sz3 zr3 ics_len (by decide) rfl rfl rfl (by decide) (by decide) rfl fun _v41 _w_34 _q41 _lo41 _cw_34 => ?_
        have _cw_34z := _cw_34.size
        have E := E.trans _cw_34.of_nil
        obtain ⟨_Av41, _Cv41, _ev41⟩ := _q41.val
        subst _ev41
        have _lv41 := _q41.len
        have _hiv41 := _q41.lt
        refine WL_s rfl rfl ?_
        have _f_36 := (((_o0_8.ch _cw_31 (fun g hg hm => by have _h0 := List.mem_singleton.1 hm; have _h2 := _lo0_8 _ hg; have _h3 := hiwv _ hg; omega)).ch _cw_33 (fun g hg hm => by have _h0 := List.mem_singleton.1 hm; have _h2 := _lo0_8 _ hg; have _h3 := hiwv _ hg; omega)).ch0 _cw_34)
        refine s_append (cs := ics) el30 sz3 by3 zr3 rfl (by decide) ics_one _f_36 _q41.ls rfl rfl (by first | omega | (simp only [List.length_append, List.length_nil, List.length_cons, List.length_replicate, List.length_set, List.length_reverse, List.length_map] at *; omega) | (simp at *; omega)) (by first | omega | (simp only [List.length_append, List.length_nil, List.length_cons, List.length_replicate, List.length_set, List.length_reverse, List.length_map] at *; omega) | (simp at *; omega)) _lo0_8 (by omega) fun _v42 _w_35 _q42 _lo42 _ap42 _cw_35 => ?_
        have _cw_35z := _cw_35.size
        have E := E.step _cw_35 (fun i hi => .inl (by have _h1 := _lo0_8 _ hi; omega))
        obtain ⟨_Av42, _Cv42, _ev42⟩ := _q42.val
        subst _ev42
        have _lv42 := _q42.len
        have _hiv42 := _q42.lt
        refine WL_step rfl rfl (r_assign rfl) ?_
        refine WL_nil ?_
        refine thn_nrm (_hK_29 _ _ ?_)
        clear _hK_29
        refine W_seq fun _K_37 _hK_37 => ?_
        refine W_region ?_
        refine WL_step rfl rfl (r_move rfl) ?_
        refine WL_step rfl rfl (r_assign rfl) ?_
        refine WL_nil ?_
        refine thn_nrm (_hK_37 _ _ ?_)
        clear _hK_37
        refine W_ret ?_
        clear _hK_16
        have _o_38 : Ol ics 3 1 _w_35 (.slice _Av42 ((ws ++ [x40q0])).length _Cv42) ((ws ++ [x40q0])) := by
          have hx := _q42
          first | exact hx | simpa using hx
        have _f_39 := ((cu40.ch0 _cw_34).ch _cw_35 (fun i hm => by have _h1 := _lo0_8 _ hm; have _h2 := hiwv _ hm; omega))
        exact ret_intro [_] ⟨rfl, trivial⟩ ⟨(ws ++ [x40q0]), (.slice _Av42 ((ws ++ [x40q0])).length _Cv42), rfl, _o_38, (Lo.down _lo42 (by omega)), (by have _h9 := hq2.2; split at _h9 <;> first | omega | (simp only [List.length_append, List.length_singleton]; omega)), _f_39, E⟩
      · have _kb_32 := _h37
        refine W_skip ?_
        refine thn_nrm (_hK_29 _ _ ?_)
        clear _hK_29
        refine W_seq fun _K_40 _hK_40 => ?_
        refine W_region ?_
        refine WL_step rfl rfl (r_move rfl) ?_
        refine WL_step rfl rfl (r_assign rfl) ?_
        refine WL_nil ?_
        refine thn_nrm (_hK_40 _ _ ?_)
        clear _hK_40
        refine W_ret ?_
        clear _hK_16
        have _f_41 := (_o0_8.ch _cw_31 (fun g hg hm => by have _h0 := List.mem_singleton.1 hm; have _h2 := _lo0_8 _ hg; have _h3 := hiwv _ hg; omega))
        have _o_42 : Ol ics 3 1 _w_31 (.slice Awv (ws).length Cwv) (ws) := by
          have hx := _f_41
          first | exact hx | simpa using hx
        exact ret_intro [_] ⟨rfl, trivial⟩ ⟨ws, (.slice Awv (ws).length Cwv), rfl, _o_42, (Lo.down _lo0_8 (by omega)), (by have _h9 := hq2.2; split at _h9 <;> first | omega | (simp only [List.length_append, List.length_singleton]; omega)), cu37, E⟩
  · have _kb_18 := _h19
    have _h19 := bf_d _h19
    refine WL_skip rfl rfl ?_
    refine WL_skip rfl rfl ?_
    refine WL_skip rfl rfl ?_
    refine WL_step rfl rfl (r_pickF rfl rfl) ?_
    refine WL_nil ?_
    refine thn_nrm (_hK_17 _ _ ?_)
    clear _hK_17
    refine W_condF rfl ?_
    refine W_exit (thn_exit (thn_exit (inB_hit ?_)))
    refine thn_nrm (_hK_8 _ _ ?_)
    clear _hK_8
    refine W_seq fun _K_43 _hK_43 => ?_
    refine W_seq fun _K_44 _hK_44 => ?_
    refine W_region ?_
    refine WL_step rfl rfl (r_move rfl) ?_
    refine WL_s rfl rfl ?_
    refine Step.call (r_call (xs := [.tmp 36, .const (Go.Value.int Go.IntKind.i64 8)]) fk157 rfl) (c_spec_l1Once _F0_0 _ (by omega)) fun _v37 _w_45 _q37 => ?_
    obtain ⟨x37q0, rfl, cu37, _cw_45⟩ := _q37
    have _cw_45z := _cw_45.size
    have E := E.trans _cw_45
    refine WL_nil ?_
    refine thn_nrm (_hK_44 _ _ ?_)
    clear _hK_44
    refine W_cond rfl (fun _h37 => ?_) (fun _h37 => ?_)
    · have _kb_46 := _h37
      refine W_region ?_
      refine WL_step rfl rfl (r_move rfl) ?_
      refine WL_step rfl rfl (r_move rfl) ?_
      refine WL_s rfl rfl ?_
      refine Step.call (r_call (xs := [.tmp 39]) fk178 rfl) (c_spec_l2Draw cu37 ) fun _v40 _w_47 _q40 => ?_
      obtain ⟨x40q0, rfl, pt40_0, cu40, _cw_47⟩ := _q40
      have _cw_47z := _cw_47.size
      have E := E.trans _cw_47
      refine WL_s rfl rfl ?_
      refine s_buildSlice (cs := ics) (parts := [(0, .tmp 40)]) (0 : Int) [x40q0] el30 sz3 zr3 ics_len (by decide) rfl rfl rfl (by decide) (by decide) rfl fun _v41 _w_48 _q41 _lo41 _cw_48 => ?_
      have _cw_48z := _cw_48.size
      have E := E.trans _cw_48.of_nil
      obtain ⟨_Av41, _Cv41, _ev41⟩ := _q41.val
      subst _ev41
      have _lv41 := _q41.len
      have _hiv41 := _q41.lt
      refine WL_s rfl rfl ?_
      have _f_50 := (((_o0_8.ch _cw_45 (fun g hg hm => by have _h0 := List.mem_singleton.1 hm; have _h2 := _lo0_8 _ hg; have _h3 := hiwv _ hg; omega)).ch _cw_47 (fun g hg hm => by have _h0 := List.mem_singleton.1 hm; have _h2 := _lo0_8 _ hg; have _h3 := hiwv _ hg; omega)).ch0 _cw_48)
      refine s_append (cs := ics) el30 sz3 by3 zr3 rfl (by decide) ics_one _f_50 _q41.ls rfl rfl (by first | omega | (simp only [List.length_append, List.length_nil, List.length_cons, List.length_replicate, List.length_set, List.length_reverse, List.length_map] at *; omega) | (simp at *; omega)) (by first | omega | (simp only [List.length_append, List.length_nil, List.length_cons, List.length_replicate, List.length_set, List.length_reverse, List.length_map] at *; omega) | (simp at *; omega)) _lo0_8 (by omega) fun _v42 _w_49 _q42 _lo42 _ap42 _cw_49 => ?_
      have _cw_49z := _cw_49.size
      have E := E.step _cw_49 (fun i hi => .inl (by have _h1 := _lo0_8 _ hi; omega))
      obtain ⟨_Av42, _Cv42, _ev42⟩ := _q42.val
      subst _ev42
      have _lv42 := _q42.len
      have _hiv42 := _q42.lt
      refine WL_step rfl rfl (r_assign rfl) ?_
      refine WL_nil ?_
      refine thn_nrm (_hK_43 _ _ ?_)
      clear _hK_43
      refine W_seq fun _K_51 _hK_51 => ?_
      refine W_region ?_
      refine WL_step rfl rfl (r_move rfl) ?_
      refine WL_step rfl rfl (r_assign rfl) ?_
      refine WL_nil ?_
      refine thn_nrm (_hK_51 _ _ ?_)
      clear _hK_51
      refine W_ret ?_
      clear _hK_16
      have _o_52 : Ol ics 3 1 _w_49 (.slice _Av42 ((ws ++ [x40q0])).length _Cv42) ((ws ++ [x40q0])) := by
        have hx := _q42
        first | exact hx | simpa using hx
      have _f_53 := ((cu40.ch0 _cw_48).ch _cw_49 (fun i hm => by have _h1 := _lo0_8 _ hm; have _h2 := hiwv _ hm; omega))
      exact ret_intro [_] ⟨rfl, trivial⟩ ⟨(ws ++ [x40q0]), (.slice _Av42 ((ws ++ [x40q0])).length _Cv42), rfl, _o_52, (Lo.down _lo42 (by omega)), (by have _h9 := hq2.2; split at _h9 <;> first | omega | (simp only [List.length_append, List.length_singleton]; omega)), _f_53, E⟩
    · have _kb_46 := _h37
      refine W_skip ?_
      refine thn_nrm (_hK_43 _ _ ?_)
      clear _hK_43
      refine W_seq fun _K_54 _hK_54 => ?_
      refine W_region ?_
      refine WL_step rfl rfl (r_move rfl) ?_
      refine WL_step rfl rfl (r_assign rfl) ?_
      refine WL_nil ?_
      refine thn_nrm (_hK_54 _ _ ?_)
      clear _hK_54
      refine W_ret ?_
      clear _hK_16
      have _f_55 := (_o0_8.ch _cw_45 (fun g hg hm => by have _h0 := List.mem_singleton.1 hm; have _h2 := _lo0_8 _ hg; have _h3 := hiwv _ hg; omega))
      have _o_56 : Ol ics 3 1 _w_45 (.slice Awv (ws).length Cwv) (ws) := by
        have hx := _f_55
        first | exact hx | simpa using hx
      exact ret_intro [_] ⟨rfl, trivial⟩ ⟨ws, (.slice Awv (ws).length Cwv), rfl, _o_56, (Lo.down _lo0_8 (by omega)), (by have _h9 := hq2.2; split at _h9 <;> first | omega | (simp only [List.length_append, List.length_singleton]; omega)), cu37, E⟩

/-- spec.DrawMatchesWord -/
theorem c_spec_DrawMatchesWord {w : World} {LL_code _B_code : Nat} {_v_code : Value} {code : List Int} (_h_code : Ls ucs 1 w LL_code _B_code _v_code code) (hb : code.length ≤ 4194304) :
    Ctr Try.prog 56 #[_v_code] w (fun v w' => ∃ (xq0 : List Token) (xq1 : List Int) (ud0x0 : Value) (ud1 : Value), v = .tuple #[.agg #[ud0x0], ud1] ∧ Ol Token.cs 126 4 w' ud0x0 (xq0) ∧ Lo w.heap.size ud0x0 ∧ Ol ics 3 1 w' ud1 (xq1) ∧ Lo w.heap.size ud1 ∧ (∀ g ∈ bl ud0x0, g ∉ bl ud1) ∧ (xq0.length ≤ 26) ∧ (xq1.length ≤ 6) ∧ Ch [] w w') := by
  obtain ⟨_A_code, _C_code, _e1_code⟩ := _h_code.val
  subst _e1_code
  have _l_code := _h_code.len
  have _h_code := _h_code.here (by decide)
  have E := Ch.refl [] w
  refine Ctr_of_W (N := 14) (vs0 := [(.slice _A_code code.length _C_code)]) Try.func56 rfl rfl rfl ?_
  refine W_seq fun _K_1 _hK_1 => ?_
  refine W_region ?_
  refine WL_s rfl rfl ?_
  refine s_alloc zr67 fun _b2 _w_2 _m2 _cw_2 _e2 => ?_
  have _cw_2z := _cw_2.size
  have E := E.trans _cw_2
  have _z2 := _m2.lt
  replace _m2 : Blk _w_2 _b2 67 [(.slice none 0 0)] := _m2
  refine WL_step rfl rfl (r_assign rfl) ?_
  refine WL_nil ?_
  refine thn_nrm (_hK_1 _ _ ?_)
  clear _hK_1
  refine W_seq fun _K_3 _hK_3 => ?_
  refine W_region ?_
  refine WL_step rfl rfl (r_move rfl) ?_
  refine WL_s rfl rfl ?_
  have _f_4 := (_h_code.ch0 _cw_2)
  refine Step.call (r_call (xs := [.tmp 6]) fk74 rfl) (c_spec_l1New _f_4 (by omega)) fun _v7 _w_5 _q7 => ?_
  obtain ⟨_b7, rfl, _m7, _e7, _cw_5⟩ := _q7
  have _cw_5z := _cw_5.size
  have E := E.trans _cw_5
  have _z7 := _m7.lt
  refine WL_step rfl rfl (r_assign rfl) ?_
  refine WL_nil ?_
  refine thn_nrm (_hK_3 _ _ ?_)
  clear _hK_3
  refine W_seq fun _K_6 _hK_6 => ?_
  refine W_region ?_
  refine WL_step rfl rfl (r_move rfl) ?_
  refine WL_s rfl rfl ?_
  refine Step.call (r_call (xs := [.tmp 8]) fk125 rfl) (c_spec_l8Any _m7 ) fun _v9 _w_7 _q9 => ?_
  obtain ⟨x9q0, u9d0x0, rfl, _q_u9d0x0, _lo_u9d0x0, pt9_0, cu9, _cw_7⟩ := _q9
  have _cw_7z := _cw_7.size
  have E := E.step _cw_7 (fun i hi => .inl (by have _h1 := List.mem_singleton.1 hi; omega))
  obtain ⟨Au9d0x0, Cu9d0x0, eu9d0x0⟩ := _q_u9d0x0.val
  subst eu9d0x0
  have lu9d0x0 := _q_u9d0x0.len
  have _hiu9d0x0 := _q_u9d0x0.lt
  refine WL_s rfl rfl ?_
  refine s_alloc zr67 fun _b5 _w_8 _m5 _cw_8 _e5 => ?_
  have _cw_8z := _cw_8.size
  have E := E.trans _cw_8
  have _z5 := _m5.lt
  replace _m5 : Blk _w_8 _b5 67 [(.slice none 0 0)] := _m5
  refine WL_s rfl rfl ?_
  refine s_storeA (off := 0) 1 _m5 sz67 rfl (us := [(.slice Au9d0x0 (x9q0).length Cu9d0x0)]) rfl rfl rfl rfl fun _w_9 _m_10 _cw_9 => ?_
  have _cw_9z := _cw_9.size
  have E := E.step _cw_9 (fun i hi => .inl (by have _h1 := List.mem_singleton.1 hi; omega))
  replace _m_10 : Blk _w_9 _b5 67 [(.slice Au9d0x0 (x9q0).length Cu9d0x0)] := _m_10
  refine WL_nil ?_
  refine thn_nrm (_hK_6 _ _ ?_)
  clear _hK_6
  refine W_seq fun _K_11 _hK_11 => ?_
  refine W_drawC ([_b7] ++ [_b2]) 6 mixed rfl fun _w_12 _cw_12 => ?_
  have _cw_12z := _cw_12.size
  have E := E.trans _cw_12
  have _f_13 := (_m_10.ch0 _cw_12)
  refine DR_s 0 rfl (by kernel_rfl) rfl rfl (t_loadAtA0 _f_13.at_ (fun i hm => by rcases List.mem_append.1 hm with hm | hm; (have _h1 := List.mem_singleton.1 hm; omega); (have _h1 := List.mem_singleton.1 hm; omega)) agg67 sz67 rfl ?_)
  refine DR_s 1 rfl (by kernel_rfl) rfl rfl (t_v (fun _ => (r_move rfl)) ?_)
  refine DR_s 2 rfl (by kernel_rfl) rfl rfl (t_loadAtA0 _f_13.at_ (fun i hm => by rcases List.mem_append.1 hm with hm | hm; (have _h1 := List.mem_singleton.1 hm; omega); (have _h1 := List.mem_singleton.1 hm; omega)) agg67 sz67 rfl ?_)
  refine DR_one 3 (by kernel_rfl) ?_
  refine DO_s rfl rfl rfl ?_
  have _f_14 := (((cu9.ch0 _cw_8).ch _cw_9 (fun i hm => by have _h1 := List.mem_singleton.1 hm; omega)).ch0 _cw_12)
  have _f_15 := (((_q_u9d0x0.ch0 _cw_8).ch _cw_9 (fun g hg hm => by have _h0 := List.mem_singleton.1 hm; have _h2 := _lo_u9d0x0 _ hg; have _h3 := _hiu9d0x0 _ hg; omega)).ch0 _cw_12)
  refine Step.call (r_call (xs := [.tmp 11, .tmp 12, .const (Go.Value.int Go.IntKind.i64 5)]) fk126 rfl) (c_spec_l9Near _f_14 (Ol.lsR _f_15 (lo := _) (hi := _) _lo_u9d0x0 _hiu9d0x0) _ (by omega) (by omega) (by omega)) fun _v13 _w_16 _q13 => ?_
  obtain ⟨x13q0, u13d0, rfl, _q_u13d0, _lo_u13d0, pt13_0, cu13, _cw_16⟩ := _q13
  have _cw_16z := _cw_16.size
  have E := E.step _cw_16 (fun i hi => .inl (by have _h1 := List.mem_singleton.1 hi; omega))
  obtain ⟨Au13d0, Cu13d0, eu13d0⟩ := _q_u13d0.val
  subst eu13d0
  have lu13d0 := _q_u13d0.len
  have _hiu13d0 := _q_u13d0.lt
  have _S_17 : Ch ([_b7] ++ [_b2]) _w_12 _w_16 := ((Ch.refl _ _).step _cw_16 (fun i hm => by have _h0 := List.mem_singleton.1 hm; exact .inr (by rw [_h0]; exact (List.mem_append_left _ (List.mem_singleton.2 rfl)))))
  refine ⟨_S_17, ?_⟩
  refine DR_one 4 (by kernel_rfl) ?_
  refine DO_s rfl rfl rfl ?_
  have _f_18 := ((((((_m2.ch0 _cw_5).ch _cw_7 (fun hm => by have _h1 := List.mem_singleton.1 hm; omega)).ch0 _cw_8).ch _cw_9 (fun hm => by have _h1 := List.mem_singleton.1 hm; omega)).ch0 _cw_12).ch _cw_16 (fun hm => by have _h1 := List.mem_singleton.1 hm; omega))
  refine s_storeA (off := 0) 1 _f_18 sz67 rfl (us := [(.slice Au9d0x0 (x9q0).length Cu9d0x0)]) rfl rfl rfl rfl fun _w_19 _m_20 _cw_19 => ?_
  have _cw_19z := _cw_19.size
  have E := E.step _cw_19 (fun i hi => .inl (by have _h1 := List.mem_singleton.1 hi; omega))
  replace _m_20 : Blk _w_19 _b2 67 [(.slice Au9d0x0 (x9q0).length Cu9d0x0)] := _m_20
  have _S_21 : Ch ([_b7] ++ [_b2]) _w_12 _w_19 := (_S_17.step _cw_19 (fun i hm => by have _h0 := List.mem_singleton.1 hm; exact .inr (by rw [_h0]; exact (List.mem_append_right _ (List.mem_singleton.2 rfl)))))
  refine ⟨_S_21, ?_⟩
  refine DR_s 5 rfl (by kernel_rfl) rfl rfl (t_v (fun _ => (r_assign rfl)) ?_)
  refine DR_done (by kernel_rfl) ?_
  refine thn_nrm (_hK_11 _ _ ?_)
  clear _hK_11
  refine W_ret ?_
  have _f_22 := ((_f_15.ch _cw_16 (fun g hg hm => by have _h0 := List.mem_singleton.1 hm; have _h2 := _lo_u9d0x0 _ hg; have _h3 := _hiu9d0x0 _ hg; omega)).ch _cw_19 (fun g hg hm => by have _h0 := List.mem_singleton.1 hm; have _h2 := _lo_u9d0x0 _ hg; have _h3 := _hiu9d0x0 _ hg; omega))
  have _o_23 : Ol Token.cs 126 4 _w_19 (.slice Au9d0x0 (x9q0).length Cu9d0x0) (x9q0) := by
    have hx := _f_22
    first | exact hx | simpa using hx
  have _f_24 := (_q_u13d0.ch _cw_19 (fun g hg hm => by have _h0 := List.mem_singleton.1 hm; have _h2 := _lo_u13d0 _ hg; have _h3 := _hiu13d0 _ hg; omega))
  have _o_25 : Ol ics 3 1 _w_19 (.slice Au13d0 (x13q0).length Cu13d0) (x13q0) := by
    have hx := _f_24
    first | exact hx | simpa using hx
  exact ret_intro [_, _] (resOf_loadA _m_20 rfl agg67 sz67 ⟨rfl, trivial⟩) ⟨x9q0, x13q0, (.slice Au9d0x0 (x9q0).length Cu9d0x0), (.slice Au13d0 (x13q0).length Cu13d0), rfl, _o_23, (Lo.down _lo_u9d0x0 (by omega)), _o_25, (Lo.down _lo_u13d0 (by omega)), (fun g hm hg => by have _h1 := _lo_u9d0x0 _ hm; have _h2 := _hiu9d0x0 _ hm; have _h3 := _lo_u13d0 _ hg; have _h4 := _hiu13d0 _ hg; omega), (by omega), (by omega), E⟩

/-- spec.DrawWordsUpTo -/
theorem c_spec_DrawWordsUpTo {w : World} {LL_code _B_code : Nat} {_v_code : Value} {code : List Int} (_h_code : Ls ucs 1 w LL_code _B_code _v_code code) (hb : code.length ≤ 4194304) :
    Ctr Try.prog 60 #[_v_code] w (fun v w' => ∃ (xq0 : List Token) (xq1 : Int) (ud0x0 : Value), v = .tuple #[.agg #[ud0x0], .int .i64 xq1] ∧ Ol Token.cs 126 4 w' ud0x0 (xq0) ∧ Lo w.heap.size ud0x0 ∧ (xq0.length ≤ 26) ∧ (-1 ≤ xq1 ∧ xq1 ≤ 4) ∧ Ch [] w w') := by
  obtain ⟨_A_code, _C_code, _e1_code⟩ := _h_code.val
  subst _e1_code
  have _l_code := _h_code.len
  have _h_code := _h_code.here (by decide)
  have E := Ch.refl [] w
  refine Ctr_of_W (N := 12) (vs0 := [(.slice _A_code code.length _C_code)]) Try.func60 rfl rfl rfl ?_
  refine W_seq fun _K_1 _hK_1 => ?_
  refine W_region ?_
  refine WL_s rfl rfl ?_
  refine s_alloc zr67 fun _b2 _w_2 _m2 _cw_2 _e2 => ?_
  have _cw_2z := _cw_2.size
  have E := E.trans _cw_2
  have _z2 := _m2.lt
  replace _m2 : Blk _w_2 _b2 67 [(.slice none 0 0)] := _m2
  refine WL_step rfl rfl (r_assign rfl) ?_
  refine WL_nil ?_
  refine thn_nrm (_hK_1 _ _ ?_)
  clear _hK_1
  refine W_seq fun _K_3 _hK_3 => ?_
  refine W_region ?_
  refine WL_step rfl rfl (r_move rfl) ?_
  refine WL_s rfl rfl ?_
  have _f_4 := (_h_code.ch0 _cw_2)
  refine Step.call (r_call (xs := [.tmp 5]) fk74 rfl) (c_spec_l1New _f_4 (by omega)) fun _v6 _w_5 _q6 => ?_
  obtain ⟨_b6, rfl, _m6, _e6, _cw_5⟩ := _q6
  have _cw_5z := _cw_5.size
  have E := E.trans _cw_5
  have _z6 := _m6.lt
  refine WL_step rfl rfl (r_assign rfl) ?_
  refine WL_nil ?_
  refine thn_nrm (_hK_3 _ _ ?_)
  clear _hK_3
  refine W_seq fun _K_6 _hK_6 => ?_
  refine W_region ?_
  refine WL_step rfl rfl (r_move rfl) ?_
  refine WL_s rfl rfl ?_
  refine Step.call (r_call (xs := [.tmp 7]) fk125 rfl) (c_spec_l8Any _m6 ) fun _v8 _w_7 _q8 => ?_
  obtain ⟨x8q0, u8d0x0, rfl, _q_u8d0x0, _lo_u8d0x0, pt8_0, cu8, _cw_7⟩ := _q8
  have _cw_7z := _cw_7.size
  have E := E.step _cw_7 (fun i hi => .inl (by have _h1 := List.mem_singleton.1 hi; omega))
  obtain ⟨Au8d0x0, Cu8d0x0, eu8d0x0⟩ := _q_u8d0x0.val
  subst eu8d0x0
  have lu8d0x0 := _q_u8d0x0.len
  have _hiu8d0x0 := _q_u8d0x0.lt
  refine WL_step rfl rfl (r_move rfl) ?_
  refine WL_s rfl rfl ?_
  refine Step.call (r_call (xs := [.tmp 9, .const (Go.Value.int Go.IntKind.i64 6)]) fk76 rfl) (c_spec_l1Below cu8 _ (by omega)) fun _v10 _w_8 _q10 => ?_
  obtain ⟨x10q0, rfl, pt10_0, cu10, _cw_8⟩ := _q10
  have _cw_8z := _cw_8.size
  have E := E.step _cw_8 (fun i hi => .inl (by have _h1 := List.mem_singleton.1 hi; omega))
  refine WL_step rfl rfl (r_sub (by omega) rfl rfl) ?_
  refine WL_s rfl rfl ?_
  have _f_9 := (((_m2.ch0 _cw_5).ch _cw_7 (fun hm => by have _h1 := List.mem_singleton.1 hm; omega)).ch _cw_8 (fun hm => by have _h1 := List.mem_singleton.1 hm; omega))
  refine s_storeA (off := 0) 1 _f_9 sz67 rfl (us := [(.slice Au8d0x0 (x8q0).length Cu8d0x0)]) rfl rfl rfl rfl fun _w_10 _m_11 _cw_10 => ?_
  have _cw_10z := _cw_10.size
  have E := E.step _cw_10 (fun i hi => .inl (by have _h1 := List.mem_singleton.1 hi; omega))
  replace _m_11 : Blk _w_10 _b2 67 [(.slice Au8d0x0 (x8q0).length Cu8d0x0)] := _m_11
  refine WL_step rfl rfl (r_assign rfl) ?_
  refine WL_nil ?_
  refine thn_nrm (_hK_6 _ _ ?_)
  clear _hK_6
  refine W_ret ?_
  have _f_12 := ((_q_u8d0x0.ch _cw_8 (fun g hg hm => by have _h0 := List.mem_singleton.1 hm; have _h2 := _lo_u8d0x0 _ hg; have _h3 := _hiu8d0x0 _ hg; omega)).ch _cw_10 (fun g hg hm => by have _h0 := List.mem_singleton.1 hm; have _h2 := _lo_u8d0x0 _ hg; have _h3 := _hiu8d0x0 _ hg; omega))
  have _o_13 : Ol Token.cs 126 4 _w_10 (.slice Au8d0x0 (x8q0).length Cu8d0x0) (x8q0) := by
    have hx := _f_12
    first | exact hx | simpa using hx
  exact ret_intro [_, _] (resOf_loadA _m_11 rfl agg67 sz67 ⟨rfl, trivial⟩) ⟨x8q0, (x10q0 - 1), (.slice Au8d0x0 (x8q0).length Cu8d0x0), (congrArg (fun zq => (Value.tuple #[.agg #[(.slice Au8d0x0 (x8q0).length Cu8d0x0)], .int .i64 zq])) (by first | rfl | simp_all)), _o_13, (Lo.down _lo_u8d0x0 (by omega)), (by omega), (by omega), E⟩

/-- spec.IsWord -/
theorem c_spec_IsWord {w : World} {LL_wd _B_wd : Nat} {_v_wd : Value} {wd : List Int} (_h_wd : Ls ics 1 w LL_wd _B_wd _v_wd wd) :
    Ctr Try.prog 57 #[_v_wd] w (fun v w' => v = .bool (tt (IsWd wd)) ∧ Ch [] w w') := by
  obtain ⟨_A_wd, _C_wd, _e1_wd⟩ := _h_wd.val
  subst _e1_wd
  have _l_wd := _h_wd.len
  have _h_wd := _h_wd.here (by decide)
  have E := Ch.refl [] w
  refine Ctr_of_W (N := 19) (vs0 := [(.slice _A_wd wd.length _C_wd)]) Try.func57 rfl rfl rfl ?_
  refine W_seq fun _K_1 _hK_1 => ?_
  refine W_region ?_
  refine WL_step rfl rfl (r_assign rfl) ?_
  refine WL_nil ?_
  refine thn_nrm (_hK_1 _ _ ?_)
  clear _hK_1
  refine W_seq fun _K_2 _hK_2 => ?_
  refine W_seq fun _K_3 _hK_3 => ?_
  refine W_region ?_
  refine WL_step rfl rfl (r_assign rfl) ?_
  refine WL_nil ?_
  refine thn_nrm (_hK_3 _ _ ?_)
  clear _hK_3
  refine W_block ?_
  refine W_loop (σ := Nat) (fun (k : Nat) => [(0, (.slice _A_wd wd.length _C_wd)), (3, (.int .i64 ((k : Nat) : Int)))]) (fun (k : Nat) wx => Ch [] w wx ∧ w.heap.size ≤ wx.heap.size ∧ (k ≤ wd.length) ∧ (WdP wd k)) (fun (k : Nat) => wd.length - k) 0 (Sub.cons rfl (Sub.cons rfl (Sub.nil _))) ⟨E, (Nat.le_refl _), (by omega), (wd_zero _)⟩ ?_
  rintro k _wr_4 ⟨E, _zz0, _hk, _ht⟩
  have _E0h := E
  have _E0hz := _E0h.size
  refine W_seq fun _K_5 _hK_5 => ?_
  refine W_seq fun _K_6 _hK_6 => ?_
  refine W_region ?_
  refine WL_step rfl rfl (r_move rfl) ?_
  refine WL_step rfl rfl (r_move rfl) ?_
  refine WL_step rfl rfl (r_len (by rw [el30]; rfl) rfl) ?_
  refine WL_step rfl rfl (r_lss rfl rfl) ?_
  refine WL_nil ?_
  refine thn_nrm (_hK_6 _ _ ?_)
  clear _hK_6
  refine W_cond rfl (fun _h7 => ?_) (fun _h7 => ?_)
  · have _kb_7 := _h7
    have _h7 := bt_d _h7
    refine W_skip ?_
    refine thn_nrm (_hK_5 _ _ ?_)
    clear _hK_5
    refine W_seq fun _K_8 _hK_8 => ?_
    refine W_block ?_
    refine W_seq fun _K_9 _hK_9 => ?_
    refine W_region ?_
    refine WL_step rfl rfl (r_move rfl) ?_
    refine WL_step rfl rfl (r_move rfl) ?_
    refine WL_s rfl rfl ?_
    have _f_10 := (_h_wd.ch0 _E0h)
    refine (s_index _f_10 ics_len el30 sz3 rfl rfl rfl (by omega) fun _p12 _y12 _hy12 _a12 => ?_)
    refine WL_step rfl rfl (r_loadAt0 _a12 agg3 rfl rfl) ?_
    refine WL_s rfl rfl ?_
    refine Step.call (r_call (xs := [.tmp 13]) fk127 rfl) (c_spec_l2Letter _ ) fun _v14 _w_11 _q14 => ?_
    obtain ⟨rfl, _cw_11⟩ := _q14
    have _cw_11z := _cw_11.size
    have E := E.trans _cw_11
    refine WL_step rfl rfl (r_not rfl) ?_
    refine WL_nil ?_
    refine thn_nrm (_hK_9 _ _ ?_)
    clear _hK_9
    refine W_cond rfl (fun _h15 => ?_) (fun _h15 => ?_)
    · have _kb_12 := _h15
      have _h15 := bf_d (bt_n _h15)
      refine W_seq fun _K_13 _hK_13 => ?_
      refine W_region ?_
      refine WL_step rfl rfl (r_assign rfl) ?_
      refine WL_nil ?_
      refine thn_nrm (_hK_13 _ _ ?_)
      clear _hK_13
      refine W_ret (inB_ret (thn_ret (thn_ret (inB_ret (thn_ret ?_)))))
      clear _hK_2 _hK_8
      exact ret_intro [_] ⟨rfl, trivial⟩ ⟨congrArg Value.bool (by first | exact tt_false (fun e => _h15 (wd_val e _hy12)) | (rw [tt_dec]; exact tt_eq ⟨fun e => ⟨wd_all _ht (by omega), by omega⟩, fun e => by have := e.2; omega⟩)), E⟩
    · have _kb_12 := _h15
      have _h15 := bt_d (bf_n _h15)
      refine W_skip ?_
      refine inB_nrm ?_
      refine thn_nrm (_hK_8 _ _ ?_)
      clear _hK_8
      refine W_region ?_
      refine WL_step rfl rfl (r_move rfl) ?_
      refine WL_step rfl rfl (r_add (by omega) rfl rfl) ?_
      refine WL_step rfl rfl (r_assign rfl) ?_
      refine WL_nil ?_
      exact thn_nrm (Exists.intro (k + 1) ⟨⟨E, (by omega), (by omega), (wd_step _ht _hy12 _h15)⟩, Sub.cons rfl (Sub.cons rfl (Sub.nil _)), (by first | omega | (dsimp only; omega))⟩)
  · have _kb_7 := _h7
    have _h7 := bf_d _h7
    refine W_exit (thn_exit (thn_exit (inB_hit ?_)))
    refine thn_nrm (_hK_2 _ _ ?_)
    clear _hK_2
    refine W_seq fun _K_14 _hK_14 => ?_
    refine W_region ?_
    refine WL_step rfl rfl (r_move rfl) ?_
    refine WL_step rfl rfl (r_len (by rw [el30]; rfl) rfl) ?_
    refine WL_step rfl rfl (r_leq rfl rfl) ?_
    refine WL_step rfl rfl (r_assign rfl) ?_
    refine WL_nil ?_
    refine thn_nrm (_hK_14 _ _ ?_)
    clear _hK_14
    refine W_ret ?_
    clear _hK_5
    exact ret_intro [_] ⟨rfl, trivial⟩ ⟨congrArg Value.bool (by first | exact tt_false (fun e => _h15 (wd_val e _hy12)) | (rw [tt_dec]; exact tt_eq ⟨fun e => ⟨wd_all _ht (by omega), by omega⟩, fun e => by have := e.2; omega⟩)), E⟩

/-- spec.l9Grid -/
theorem c_spec_l9Grid {w : World} (n : Nat) (same : Bool) (hb : n ≤ 4097) :
    Ctr Try.prog 180 #[(.int .i64 ((n : Nat) : Int)), (.bool same)] w (fun v w' => ∃ (_u0 : Value) (vs0 : List Sv), v = _u0 ∧ Ol Sv.cs 24 1 w' _u0 vs0 ∧ Lo w.heap.size _u0 ∧ Od bcs 4 1 w' w.heap.size w'.heap.size vs0 (grd n (idM same)) ∧ Sep _u0 vs0 ∧ Ch [] w w') := by
  have E := Ch.refl [] w
  refine Ctr_of_W (N := 25) (vs0 := [(.int .i64 ((n : Nat) : Int)), (.bool same)]) Try.func180 rfl rfl rfl ?_
  refine W_seq fun _K_1 _hK_1 => ?_
  refine W_region ?_
  refine WL_step rfl rfl (r_assign rfl) ?_
  refine WL_nil ?_
  refine thn_nrm (_hK_1 _ _ ?_)
  clear _hK_1
  refine W_seq fun _K_2 _hK_2 => ?_
  refine W_region ?_
  refine WL_s rfl rfl ?_
  refine s_buildSlice0 (k := 1) Sv.cs el194 sz24 fun _v8 _w_3 _q8 _lo8 _cw_3 => ?_
  have _cw_3z := _cw_3.size
  have E := E.trans _cw_3
  obtain ⟨_Av8, _Cv8, _ev8⟩ := _q8.val
  subst _ev8
  have _lv8 := _q8.len
  have _hiv8 := _q8.lt
  refine WL_step rfl rfl (r_assign rfl) ?_
  refine WL_nil ?_
  refine thn_nrm (_hK_2 _ _ ?_)
  clear _hK_2
  refine W_seq fun _K_4 _hK_4 => ?_
  refine W_seq fun _K_5 _hK_5 => ?_
  refine W_region ?_
  refine WL_step rfl rfl (r_assign rfl) ?_
  refine WL_nil ?_
  refine thn_nrm (_hK_5 _ _ ?_)
  clear _hK_5
  refine W_block ?_
  have _oi_6 : Ol Sv.cs 24 1 _w_3 (.slice _Av8 (([] : List Sv)).length _Cv8) (([] : List Sv)) := by
    have hx := _q8
    exact hx
  refine W_loop (σ := Nat × List Sv × Value) (fun ⟨i, vs, kv⟩ => [(0, (.int .i64 ((n : Nat) : Int))), (1, (.bool same)), (4, (.slice none 0 0)), (5, kv), (6, (.int .i64 ((i : Nat) : Int)))]) (fun ⟨i, vs, kv⟩ wx => Ch [] w wx ∧ _w_3.heap.size ≤ wx.heap.size ∧ (i ≤ n) ∧ (vs.length = i) ∧ Ol Sv.cs 24 1 wx kv vs ∧ Lo w.heap.size kv ∧ Od bcs 4 1 wx _w_3.heap.size wx.heap.size vs ((grd n (idM same)).take i) ∧ (Sep kv vs)) (fun ⟨i, vs, kv⟩ => n - i) (0, ([] : List Sv), (.slice _Av8 (([] : List Sv)).length _Cv8)) (Sub.cons rfl (Sub.cons rfl (Sub.cons rfl (Sub.cons rfl (Sub.cons rfl (Sub.nil _)))))) ⟨E, (Nat.le_refl _), (by omega), rfl, _oi_6, _lo8, Od.nil, (fun u hu => by cases hu)⟩ ?_
  rintro ⟨i, vs, kv⟩ _wr_7 ⟨E, _zz0, hi, hvl, _o0_5, _lo0_5, od, _spl0_5⟩
  have _E0h := E
  have _E0hz := _E0h.size
  obtain ⟨Akv, Ckv, ekv⟩ := _o0_5.val
  subst ekv
  have lkv := _o0_5.len
  have hikv := _o0_5.lt
  refine W_seq fun _K_8 _hK_8 => ?_
  refine W_seq fun _K_9 _hK_9 => ?_
  refine W_region ?_
  refine WL_step rfl rfl (r_move rfl) ?_
  refine WL_step rfl rfl (r_move rfl) ?_
  refine WL_step rfl rfl (r_lss rfl rfl) ?_
  refine WL_nil ?_
  refine thn_nrm (_hK_9 _ _ ?_)
  clear _hK_9
  refine W_cond rfl (fun _h11 => ?_) (fun _h11 => ?_)
  · have _kb_10 := _h11
    have _h11 := bt_d _h11
    refine W_skip ?_
    refine thn_nrm (_hK_8 _ _ ?_)
    clear _hK_8
    refine W_seq fun _K_11 _hK_11 => ?_
    refine W_block ?_
    refine W_seq fun _K_12 _hK_12 => ?_
    refine W_region ?_
    refine WL_step rfl rfl (r_move rfl) ?_
    refine WL_s rfl rfl ?_
    refine s_make (cs := bcs) false el24 sz4 by4 zr4 bcs_len (by decide) rfl rfl (by omega) (by omega) fun _v15 _w_13 _q15 _lo15 _cw_13 => ?_
    have _cw_13z := _cw_13.size
    have E := E.trans _cw_13
    obtain ⟨_Av15, _Cv15, _ev15⟩ := _q15.val
    subst _ev15
    have _lv15 := _q15.len
    have _hiv15 := _q15.lt
    refine WL_step rfl rfl (r_assign rfl) ?_
    refine WL_nil ?_
    refine thn_nrm (_hK_12 _ _ ?_)
    clear _hK_12
    refine W_seq fun _K_14 _hK_14 => ?_
    refine W_region ?_
    refine WL_step rfl rfl (r_move rfl) ?_
    refine WL_step rfl rfl (r_move rfl) ?_
    refine WL_step rfl rfl (r_move rfl) ?_
    refine WL_s rfl rfl ?_
    refine s_indexO (j := i) _q15 el24 sz4 rfl rfl rfl (by (simp; omega)) fun _g19 _o19 _cp19 _q19 => ?_
    refine WL_s rfl rfl ?_
    refine s_storeO (j := i) same _q15 _q19 bcs_len sz4 rfl rfl rfl rfl (by (simp; omega)) fun _w_15 _o_16 _cw_15 => ?_
    have _cw_15z := _cw_15.size
    have E := E.step _cw_15 (fun i hi => .inl (by have _h1 := _lo15 _ hi; omega))
    refine WL_nil ?_
    refine thn_nrm (_hK_14 _ _ ?_)
    clear _hK_14
    refine W_region ?_
    refine WL_step rfl rfl (r_move rfl) ?_
    refine WL_step rfl rfl (r_move rfl) ?_
    refine WL_s rfl rfl ?_
    refine s_buildSlice (cs := Sv.cs) (parts := [(0, .tmp 21)]) (⟨none, 0, 0⟩ : Sv) [(⟨_Av15, ((List.replicate n false)).length, _Cv15⟩ : Sv)] el194 sz24 zr24 Sv.len (by decide) rfl rfl rfl (by decide) (by decide) rfl fun _v22 _w_17 _q22 _lo22 _cw_17 => ?_
    have _cw_17z := _cw_17.size
    have E := E.trans _cw_17
    obtain ⟨_Av22, _Cv22, _ev22⟩ := _q22.val
    subst _ev22
    have _lv22 := _q22.len
    have _hiv22 := _q22.lt
    have _f_18 := (_o_16.ch0 _cw_17)
    have _rd22 : Rd bcs 1 _w_17 0 _w_17.heap.size ([(⟨_Av15, ((List.replicate n false)).length, _Cv15⟩ : Sv)]) ([((List.replicate n false).set i same)]) := (Rd.cons (_f_18.ls.up (by omega) (by omega)) Rd.nil)
    refine WL_s rfl rfl ?_
    have _f_20 := (((_o0_5.ch0 _cw_13).ch _cw_15 (fun g hg hm => by have _h1 := _lo15 _ hm; have _h2 := _hiv15 _ hm; have _h3 := _lo0_5 _ hg; have _h4 := hikv _ hg; omega)).ch0 _cw_17)
    refine s_append (cs := Sv.cs) el194 sz24 by24 zr24 rfl (by decide) Sv.one _f_20 _q22.ls rfl rfl (by simp only [List.length_singleton]; omega) (by simp only [List.length_singleton]; omega) _lo0_5 (by omega) fun _v23 _w_19 _q23 _lo23 _ap23 _cw_19 => ?_
    have _cw_19z := _cw_19.size
    have E := E.step _cw_19 (fun i hi => .inl (by have _h1 := _lo0_5 _ hi; omega))
    obtain ⟨_Av23, _Cv23, _ev23⟩ := _q23.val
    subst _ev23
    have _lv23 := _q23.len
    have _hiv23 := _q23.lt
    refine WL_step rfl rfl (r_assign rfl) ?_
    refine WL_nil ?_
    refine inB_nrm ?_
    refine thn_nrm (_hK_11 _ _ ?_)
    clear _hK_11
    refine W_region ?_
    refine WL_step rfl rfl (r_move rfl) ?_
    refine WL_step rfl rfl (r_add (by omega) rfl rfl) ?_
    refine WL_step rfl rfl (r_assign rfl) ?_
    refine WL_nil ?_
    have _on_21 : Ol Sv.cs 24 1 _w_19 (.slice _Av23 ((vs ++ [(⟨_Av15, ((List.replicate n false)).length, _Cv15⟩ : Sv)])).length _Cv23) ((vs ++ [(⟨_Av15, ((List.replicate n false)).length, _Cv15⟩ : Sv)])) := by
      have hx := _q23
      exact hx
    have _f_22 := ((((od.ch0 _cw_13).ch _cw_15 (fun i hm => by have _h1 := _lo15 _ hm; have _h2 := _hiv15 _ hm; omega)).ch0 _cw_17).chS _cw_19 _spl0_5)
    have _f_23 := (_f_18.ch _cw_19 (fun g hg hm => by have _h1 := _lo0_5 _ hm; have _h2 := hikv _ hm; have _h3 := _lo15 _ hg; have _h4 := _hiv15 _ hg; omega))
    exact thn_nrm (Exists.intro ((i + 1), (vs ++ [(⟨_Av15, ((List.replicate n false)).length, _Cv15⟩ : Sv)]), (.slice _Av23 ((vs ++ [(⟨_Av15, ((List.replicate n false)).length, _Cv15⟩ : Sv)])).length _Cv23)) ⟨⟨E, (by omega), (by omega), (by simp [hvl]), _on_21, (Lo.down _lo23 (by omega)), (by rw [take_snoc (grd_get (by omega))]; exact Od.snoc _f_22 (_f_23.eq (by exact row_id)) (Lo.down _lo15 (by omega)) (fun g hg => by have _h1 := _hiv15 g hg; omega) (by omega) (by omega)), (fun u hu g hg hm => by rcases List.mem_append.1 hu with hu | hu; (rcases _ap23 with ea | ea; (rw [ea] at hm; exact _spl0_5 _ hu _ hg hm); (rw [ea] at hm; have _z1 := List.mem_singleton.1 hm; have _h9 := _f_22.rng hu hg; omega)); (rw [List.mem_singleton.1 hu] at hg; replace hg : g ∈ bl (.slice _Av15 ((List.replicate n false)).length _Cv15) := hg; rcases _ap23 with ea | ea; (rw [ea] at hm; have _h1 := _lo0_5 _ hm; have _h2 := hikv _ hm; have _h3 := _lo15 _ hg; have _h4 := _hiv15 _ hg; omega); (rw [ea] at hm; have _z1 := List.mem_singleton.1 hm; have _h3 := _lo15 _ hg; have _h4 := _hiv15 _ hg; omega)))⟩, Sub.cons rfl (Sub.cons rfl (Sub.cons rfl (Sub.cons rfl (Sub.cons rfl (Sub.nil _))))), (by first | omega | (dsimp only; omega))⟩)
  · have _kb_10 := _h11
    have _h11 := bf_d _h11
    refine W_exit (thn_exit (thn_exit (inB_hit ?_)))
    refine thn_nrm (_hK_4 _ _ ?_)
    clear _hK_4
    refine W_seq fun _K_24 _hK_24 => ?_
    refine W_region ?_
    refine WL_step rfl rfl (r_move rfl) ?_
    refine WL_step rfl rfl (r_assign rfl) ?_
    refine WL_nil ?_
    refine thn_nrm (_hK_24 _ _ ?_)
    clear _hK_24
    refine W_ret ?_
    clear _hK_8
    have _o_25 : Ol Sv.cs 24 1 _wr_7 (.slice Akv (vs).length Ckv) vs := by
      have hx := _o0_5
      exact hx
    have _o_26 : Od bcs 4 1 _wr_7 w.heap.size _wr_7.heap.size vs (grd n (idM same)) := by
      have hx := od.up (lo' := w.heap.size) (hi' := _wr_7.heap.size) (by omega) (by omega)
      rwa [List.take_of_length_le (by rw [grd_len]; omega)] at hx
    exact ret_intro [_] ⟨rfl, trivial⟩ ⟨(.slice Akv (vs).length Ckv), vs, rfl, _o_25, (Lo.down _lo0_5 (by omega)), _o_26, _spl0_5, E⟩

/-- spec.l9Either -/
theorem c_spec_l9Either {w : World} {LL_sa _B_sa : Nat} {_v_sa : Value} {sa : List Sv} (_h_sa : Ls Sv.cs 1 w LL_sa _B_sa _v_sa sa) {LR_a BB_a : Nat} {a : List (List Bool)} (_rd_a : Rd bcs 1 w LR_a BB_a sa a) {LL_sb _B_sb : Nat} {_v_sb : Value} {sb : List Sv} (_h_sb : Ls Sv.cs 1 w LL_sb _B_sb _v_sb sb) {LR_b BB_b : Nat} {b : List (List Bool)} (_rd_b : Rd bcs 1 w LR_b BB_b sb b) (n : Nat) (A : Nat → Nat → Bool) (B : Nat → Nat → Bool) (ha : a = grd n A) (hb : b = grd n B) (ta : Tri A) (tb : Tri B) (hn : n ≤ 4097) :
    Ctr Try.prog 182 #[_v_sa, _v_sb] w (fun v w' => ∃ (_u0 : Value) (vs0 : List Sv), v = _u0 ∧ Ol Sv.cs 24 1 w' _u0 vs0 ∧ Lo w.heap.size _u0 ∧ Od bcs 4 1 w' w.heap.size w'.heap.size vs0 (grd n (oeM A B)) ∧ Sep _u0 vs0 ∧ Ch [] w w') := by
  obtain ⟨_A_sa, _C_sa, _e1_sa⟩ := _h_sa.val
  subst _e1_sa
  have _l_sa := _h_sa.len
  have _h_sa := _h_sa.here (by decide)
  have _rd_a := _rd_a.here (by decide)
  have _rl_a := _rd_a.1
  obtain ⟨_A_sb, _C_sb, _e1_sb⟩ := _h_sb.val
  subst _e1_sb
  have _l_sb := _h_sb.len
  have _h_sb := _h_sb.here (by decide)
  have _rd_b := _rd_b.here (by decide)
  have _rl_b := _rd_b.1
  have E := Ch.refl [] w
  have _ln9 : sa.length = n := (by rw [_rl_a, ha, grd_len]); have _ln8 : sb.length = n := (by rw [_rl_b, hb, grd_len])
  refine Ctr_of_W (N := 47) (vs0 := [(.slice _A_sa sa.length _C_sa), (.slice _A_sb sb.length _C_sb)]) Try.func182 rfl rfl rfl ?_
  refine W_seq fun _K_1 _hK_1 => ?_
  refine W_region ?_
  refine WL_step rfl rfl (r_assign rfl) ?_
  refine WL_nil ?_
  refine thn_nrm (_hK_1 _ _ ?_)
  clear _hK_1
  refine W_seq fun _K_2 _hK_2 => ?_
  refine W_region ?_
  refine WL_step rfl rfl (r_move rfl) ?_
  refine WL_step rfl rfl (r_len (by rw [el194]; rfl) rfl) ?_
  refine WL_s rfl rfl ?_
  refine Step.call (r_call (xs := [.tmp 9, .const (Go.Value.bool false)]) fk180 rfl) (c_spec_l9Grid sa.length _ (by omega)) fun _v10 _w_3 _q10 => ?_
  obtain ⟨u10_0, _vs10_0, rfl, _q_u10_0, _lo_u10_0, _od_vs10_0, _sep_vs10_0, _cw_3⟩ := _q10
  have _cw_3z := _cw_3.size
  have E := E.trans _cw_3
  obtain ⟨Au10_0, Cu10_0, eu10_0⟩ := _q_u10_0.val
  subst eu10_0
  have lu10_0 := _q_u10_0.len
  have _hiu10_0 := _q_u10_0.lt
  refine WL_step rfl rfl (r_assign rfl) ?_
  refine WL_nil ?_
  refine thn_nrm (_hK_2 _ _ ?_)
  clear _hK_2
  refine W_seq fun _K_4 _hK_4 => ?_
  refine W_seq fun _K_5 _hK_5 => ?_
  refine W_region ?_
  refine WL_step rfl rfl (r_assign rfl) ?_
  refine WL_nil ?_
  refine thn_nrm (_hK_5 _ _ ?_)
  clear _hK_5
  refine W_block ?_
  refine W_loop (σ := Nat) (fun (i : Nat) => [(0, (.slice _A_sa sa.length _C_sa)), (1, (.slice _A_sb sb.length _C_sb)), (4, (.slice none 0 0)), (5, (.slice Au10_0 (_vs10_0).length Cu10_0)), (6, (.int .i64 ((i : Nat) : Int)))]) (fun (i : Nat) wx => Ch [] w wx ∧ _w_3.heap.size ≤ wx.heap.size ∧ (i ≤ n) ∧ Ol Sv.cs 24 1 wx (.slice Au10_0 (_vs10_0).length Cu10_0) _vs10_0 ∧ Od bcs 4 1 wx w.heap.size _w_3.heap.size _vs10_0 (grd n (upt (oeM A B) i 0))) (fun (i : Nat) => n - i) 0 (Sub.cons rfl (Sub.cons rfl (Sub.cons rfl (Sub.cons rfl (Sub.cons rfl (Sub.nil _)))))) ⟨E, (Nat.le_refl _), (by omega), _q_u10_0, (_od_vs10_0.eq (by rw [_ln9]; exact upt_zero))⟩ ?_
  rintro i _wr_6 ⟨E, _zz0, hi, _F0_4, od⟩
  have _E0h := E
  have _E0hz := _E0h.size
  refine W_seq fun _K_7 _hK_7 => ?_
  refine W_seq fun _K_8 _hK_8 => ?_
  refine W_region ?_
  refine WL_step rfl rfl (r_move rfl) ?_
  refine WL_step rfl rfl (r_move rfl) ?_
  refine WL_step rfl rfl (r_len (by rw [el194]; rfl) rfl) ?_
  refine WL_step rfl rfl (r_lss rfl rfl) ?_
  refine WL_nil ?_
  refine thn_nrm (_hK_8 _ _ ?_)
  clear _hK_8
  refine W_cond rfl (fun _h14 => ?_) (fun _h14 => ?_)
  · have _kb_9 := _h14
    have _h14 := bt_d _h14
    refine W_skip ?_
    refine thn_nrm (_hK_7 _ _ ?_)
    clear _hK_7
    refine W_seq fun _K_10 _hK_10 => ?_
    refine W_block ?_
    refine W_seq fun _K_11 _hK_11 => ?_
    refine W_region ?_
    refine WL_step rfl rfl (r_move rfl) ?_
    refine WL_step rfl rfl (r_assign rfl) ?_
    refine WL_nil ?_
    refine thn_nrm (_hK_11 _ _ ?_)
    clear _hK_11
    refine W_block ?_
    refine W_loop (σ := Nat) (fun (j : Nat) => [(0, (.slice _A_sa sa.length _C_sa)), (1, (.slice _A_sb sb.length _C_sb)), (4, (.slice none 0 0)), (5, (.slice Au10_0 (_vs10_0).length Cu10_0)), (6, (.int .i64 ((i : Nat) : Int))), (7, (.int .i64 ((j : Nat) : Int))), (14, (.bool (decide (((i : Nat) : Int) < ((sa.length : Nat) : Int)))))]) (fun (j : Nat) wx => Ch [] w wx ∧ _wr_6.heap.size ≤ wx.heap.size ∧ (j ≤ n) ∧ Ol Sv.cs 24 1 wx (.slice Au10_0 (_vs10_0).length Cu10_0) _vs10_0 ∧ Od bcs 4 1 wx w.heap.size _w_3.heap.size _vs10_0 (grd n (upt (oeM A B) i j))) (fun (j : Nat) => n - j) i (Sub.cons rfl (Sub.cons rfl (Sub.cons rfl (Sub.cons rfl (Sub.cons rfl (Sub.cons rfl (Sub.cons rfl (Sub.nil _)))))))) ⟨E, (Nat.le_refl _), (by omega), _F0_4, (od.eq (upt_tri (ta.or tb)))⟩ ?_
    rintro j _wr_12 ⟨E, _zz1, hj, _F1_4, od⟩
    have _E1h := E
    have _E1hz := _E1h.size
    refine W_seq fun _K_13 _hK_13 => ?_
    refine W_seq fun _K_14 _hK_14 => ?_
    refine W_region ?_
    refine WL_step rfl rfl (r_move rfl) ?_
    refine WL_step rfl rfl (r_move rfl) ?_
    refine WL_step rfl rfl (r_len (by rw [el194]; rfl) rfl) ?_
    refine WL_step rfl rfl (r_lss rfl rfl) ?_
    refine WL_nil ?_
    refine thn_nrm (_hK_14 _ _ ?_)
    clear _hK_14
    refine W_cond rfl (fun _h21 => ?_) (fun _h21 => ?_)
    · have _kb_15 := _h21
      have _h21 := bt_d _h21
      refine W_skip ?_
      refine thn_nrm (_hK_13 _ _ ?_)
      clear _hK_13
      refine W_seq fun _K_16 _hK_16 => ?_
      refine W_block ?_
      have _ln924 := (od).1
      rw [grd_len] at _ln924
      obtain ⟨go924, hgo924, lso924⟩ := Ol.lsE _F1_4 (by omega)
      obtain ⟨_y924, _hy924⟩ := get_some (xs := _vs10_0) (j := i) (by omega)
      have _sm924 := _sep_vs10_0 _ (mem_of_get _hy924)
      obtain ⟨_ys924, _hys924, _fs924, _rs924⟩ := od.ownget _hy924
      obtain ⟨_A924, _n924, _C924⟩ := _y924
      obtain rfl := _fs924.ls.eqn
      have _l924 := _fs924.len
      have _lo924 : Lo w.heap.size (.slice _A924 _ys924.length _C924) := fun g hg => (_rs924 g hg).1
      have hi924 : ∀ g ∈ bl (.slice _A924 _ys924.length _C924), g < _w_3.heap.size := fun g hg => (_rs924 g hg).2
      replace _fs924 : Ol bcs 4 1 _wr_12 (.slice _A924 _ys924.length _C924) _ys924 := _fs924
      have rl924 := row_len rfl _hys924
      refine W_drawC (bl (.slice _A924 _ys924.length _C924)) 23 mixed rfl fun _w_17 _cw_17 => ?_
      have _cw_17z := _cw_17.size
      have E := E.trans _cw_17
      refine DR_s 0 rfl (by kernel_rfl) rfl rfl (t_v (fun _ => (r_move rfl)) ?_)
      refine DR_s 1 rfl (by kernel_rfl) rfl rfl (t_v (fun _ => (r_move rfl)) ?_)
      have _f_18 := (lso924.ch0 _cw_17)
      refine DR_s 2 rfl (by kernel_rfl) rfl rfl (t_index _f_18 Sv.len el194 sz24 rfl rfl rfl (by omega) fun _p26 _y26 _hy26 _a26 => ?_)
      obtain rfl := get_uniq _hy924 _hy26
      replace _a26 : At _w_17 go924 (go924 + 1) _p26 ([(.slice _A924 _ys924.length _C924)]) := _a26
      refine DR_s 3 rfl (by kernel_rfl) rfl rfl (t_loadAt0 _a26 (fun i hm => ne_blk (_sm924 i hm) hgo924) agg24 rfl rfl ?_)
      refine DR_s 4 rfl (by kernel_rfl) rfl rfl (t_v (fun _ => (r_move rfl)) ?_)
      refine DR_s 5 rfl (by kernel_rfl) rfl rfl (t_v (fun _ => (r_move rfl)) ?_)
      refine DR_s 6 rfl (by kernel_rfl) rfl rfl (t_v (fun _ => (r_move rfl)) ?_)
      have _f_19 := ((_h_sa.ch0 _E1h).ch0 _cw_17)
      have _f_20 := ((_rd_a.ch0 _E1h).ch0 _cw_17)
      refine DR_s 7 rfl (by kernel_rfl) rfl rfl (t_index _f_19 Sv.len el194 sz24 rfl rfl rfl (by omega) fun _p31 _y31 _hy31 _a31 => ?_)
      obtain ⟨_ys31, _hys31, _fs31⟩ := _f_20.get _hy31
      obtain ⟨_A31, _n31, _C31⟩ := _y31
      obtain rfl := _fs31.eqn
      have _l31 := _fs31.len
      replace _fs31 : Ls bcs 1 _w_17 LR_a w.heap.size (.slice _A31 _ys31.length _C31) _ys31 := _fs31
      replace _a31 : At _w_17 LL_sa w.heap.size _p31 ([(.slice _A31 _ys31.length _C31)]) := _a31
      have rl31 := row_len ha _hys31
      refine DR_s 8 rfl (by kernel_rfl) rfl rfl (t_loadAt0 _a31 (fun i hm => by have _h1 := _lo924 _ hm; have _h2 := hi924 _ hm; omega) agg24 rfl rfl ?_)
      refine DR_s 9 rfl (by kernel_rfl) rfl rfl (t_v (fun _ => (r_move rfl)) ?_)
      refine DR_s 10 rfl (by kernel_rfl) rfl rfl (t_index _fs31 bcs_len el24 sz4 rfl rfl rfl (by omega) fun _p34 _y34 _hy34 _a34 => ?_)
      refine DR_s 11 rfl (by kernel_rfl) rfl rfl (t_loadAt0 _a34 (fun i hm => by have _h1 := _lo924 _ hm; have _h2 := hi924 _ hm; omega) agg4 rfl rfl ?_)
      refine DR_s 12 rfl (by kernel_rfl) rfl rfl (t_v (fun _ => (r_move rfl)) ?_)
      refine DR_split (d := 36) rfl (fun _h36 => ?_) (fun _h36 => ?_)
      · have _kb_21 := _h36
        refine DR_skip 13 rfl (by kernel_rfl) rfl rfl ?_
        refine DR_skip 14 rfl (by kernel_rfl) rfl rfl ?_
        refine DR_skip 15 rfl (by kernel_rfl) rfl rfl ?_
        refine DR_skip 16 rfl (by kernel_rfl) rfl rfl ?_
        refine DR_skip 17 rfl (by kernel_rfl) rfl rfl ?_
        refine DR_skip 18 rfl (by kernel_rfl) rfl rfl ?_
        refine DR_skip 19 rfl (by kernel_rfl) rfl rfl ?_
        refine DR_s 20 rfl (by kernel_rfl) rfl rfl (t_v (fun _ => (r_pickT rfl rfl)) ?_)
        refine DR_one 21 (by kernel_rfl) ?_
        refine DO_s rfl rfl rfl ?_
        have _f_22 := (_fs924.ch0 _cw_17)
        refine s_indexO (j := j) _f_22 el24 sz4 rfl rfl rfl (by omega) fun _g45 _o45 _cp45 _q45 => ?_
        refine ⟨(Ch.refl _ _), ?_⟩
        refine DR_one 22 (by kernel_rfl) ?_
        refine DO_s rfl rfl rfl ?_
        refine s_storeO (j := j) true _f_22 _q45 bcs_len sz4 rfl rfl rfl rfl (by omega) fun _w_23 _o_24 _cw_23 => ?_
        have _f_25 := (od.ch0 _cw_17)
        have _cw_23z := _cw_23.size
        have E := E.step _cw_23 (fun i hi => .inl (by have _h1 := _lo924 _ hi; omega))
        have _od_26 := Od.set _f_25 _hy924 _hys924 _cw_23 _o_24
        have _S_27 : Ch (bl (.slice _A924 _ys924.length _C924)) _w_17 _w_23 := ((Ch.refl _ _).step _cw_23 (fun i hm => by exact .inr hm))
        refine ⟨_S_27, ?_⟩
        refine DR_done (by kernel_rfl) ?_
        refine inB_nrm ?_
        refine thn_nrm (_hK_16 _ _ ?_)
        clear _hK_16
        refine W_region ?_
        refine WL_step rfl rfl (r_move rfl) ?_
        refine WL_step rfl rfl (r_add (by omega) rfl rfl) ?_
        refine WL_step rfl rfl (r_assign rfl) ?_
        refine WL_nil ?_
        have _f_28 := ((_F1_4.ch0 _cw_17).ch _cw_23 (fun g hg hm => by exact _sm924 _ hm hg))
        exact thn_nrm (Exists.intro (j + 1) ⟨⟨E, (by omega), (by omega), _f_28, (_od_26.eq (upt_step rfl _hys924 (by first | (have _e1 := grd_y ha _hys31 _hy34; simp [oeM, ← _e1, _h36]; done) | (have _e1 := grd_y ha _hys31 _hy34; have _e2 := grd_y hb _hys39 _hy42; simp [oeM, ← _e1, ← _e2, _h36]; done))))⟩, Sub.cons rfl (Sub.cons rfl (Sub.cons rfl (Sub.cons rfl (Sub.cons rfl (Sub.cons rfl (Sub.cons rfl (Sub.nil _))))))), (by first | omega | (dsimp only; omega))⟩)
      · have _kb_21 := _h36
        refine DR_s 13 rfl (by kernel_rfl) rfl rfl (t_v (fun _ => (r_move rfl)) ?_)
        refine DR_s 14 rfl (by kernel_rfl) rfl rfl (t_v (fun _ => (r_move rfl)) ?_)
        have _f_29 := ((_h_sb.ch0 _E1h).ch0 _cw_17)
        have _f_30 := ((_rd_b.ch0 _E1h).ch0 _cw_17)
        refine DR_s 15 rfl (by kernel_rfl) rfl rfl (t_index _f_29 Sv.len el194 sz24 rfl rfl rfl (by omega) fun _p39 _y39 _hy39 _a39 => ?_)
        obtain ⟨_ys39, _hys39, _fs39⟩ := _f_30.get _hy39
        obtain ⟨_A39, _n39, _C39⟩ := _y39
        obtain rfl := _fs39.eqn
        have _l39 := _fs39.len
        replace _fs39 : Ls bcs 1 _w_17 LR_b w.heap.size (.slice _A39 _ys39.length _C39) _ys39 := _fs39
        replace _a39 : At _w_17 LL_sb w.heap.size _p39 ([(.slice _A39 _ys39.length _C39)]) := _a39
        have rl39 := row_len hb _hys39
        refine DR_s 16 rfl (by kernel_rfl) rfl rfl (t_loadAt0 _a39 (fun i hm => by have _h1 := _lo924 _ hm; have _h2 := hi924 _ hm; omega) agg24 rfl rfl ?_)
        refine DR_s 17 rfl (by kernel_rfl) rfl rfl (t_v (fun _ => (r_move rfl)) ?_)
        refine DR_s 18 rfl (by kernel_rfl) rfl rfl (t_index _fs39 bcs_len el24 sz4 rfl rfl rfl (by omega) fun _p42 _y42 _hy42 _a42 => ?_)
        refine DR_s 19 rfl (by kernel_rfl) rfl rfl (t_loadAt0 _a42 (fun i hm => by have _h1 := _lo924 _ hm; have _h2 := hi924 _ hm; omega) agg4 rfl rfl ?_)
        refine DR_s 20 rfl (by kernel_rfl) rfl rfl (t_v (fun _ => (r_pickF rfl rfl)) ?_)
        refine DR_one 21 (by kernel_rfl) ?_
        refine DO_s rfl rfl rfl ?_
        have _f_31 := (_fs924.ch0 _cw_17)
        refine s_indexO (j := j) _f_31 el24 sz4 rfl rfl rfl (by omega) fun _g45 _o45 _cp45 _q45 => ?_
        refine ⟨(Ch.refl _ _), ?_⟩
        refine DR_one 22 (by kernel_rfl) ?_
        refine DO_s rfl rfl rfl ?_
        refine s_storeO (j := j) _y42 _f_31 _q45 bcs_len sz4 rfl rfl rfl rfl (by omega) fun _w_32 _o_33 _cw_32 => ?_
        have _f_34 := (od.ch0 _cw_17)
        have _cw_32z := _cw_32.size
        have E := E.step _cw_32 (fun i hi => .inl (by have _h1 := _lo924 _ hi; omega))
        have _od_35 := Od.set _f_34 _hy924 _hys924 _cw_32 _o_33
        have _S_36 : Ch (bl (.slice _A924 _ys924.length _C924)) _w_17 _w_32 := ((Ch.refl _ _).step _cw_32 (fun i hm => by exact .inr hm))
        refine ⟨_S_36, ?_⟩
        refine DR_done (by kernel_rfl) ?_
        refine inB_nrm ?_
        refine thn_nrm (_hK_16 _ _ ?_)
        clear _hK_16
        refine W_region ?_
        refine WL_step rfl rfl (r_move rfl) ?_
        refine WL_step rfl rfl (r_add (by omega) rfl rfl) ?_
        refine WL_step rfl rfl (r_assign rfl) ?_
        refine WL_nil ?_
        have _f_37 := ((_F1_4.ch0 _cw_17).ch _cw_32 (fun g hg hm => by exact _sm924 _ hm hg))
        exact thn_nrm (Exists.intro (j + 1) ⟨⟨E, (by omega), (by omega), _f_37, (_od_35.eq (upt_step rfl _hys924 (by first | (have _e1 := grd_y ha _hys31 _hy34; simp [oeM, ← _e1, _h36]; done) | (have _e1 := grd_y ha _hys31 _hy34; have _e2 := grd_y hb _hys39 _hy42; simp [oeM, ← _e1, ← _e2, _h36]; done))))⟩, Sub.cons rfl (Sub.cons rfl (Sub.cons rfl (Sub.cons rfl (Sub.cons rfl (Sub.cons rfl (Sub.cons rfl (Sub.nil _))))))), (by first | omega | (dsimp only; omega))⟩)
    · have _kb_15 := _h21
      have _h21 := bf_d _h21
      refine W_exit (thn_exit (thn_exit (inB_hit ?_)))
      refine inB_nrm ?_
      refine thn_nrm (_hK_10 _ _ ?_)
      clear _hK_10
      refine W_region ?_
      refine WL_step rfl rfl (r_move rfl) ?_
      refine WL_step rfl rfl (r_add (by omega) rfl rfl) ?_
      refine WL_step rfl rfl (r_assign rfl) ?_
      refine WL_nil ?_
      exact thn_nrm (Exists.intro (i + 1) ⟨⟨E, (by omega), (by omega), _F1_4, (od.eq (upt_row (by omega)))⟩, Sub.cons rfl (Sub.cons rfl (Sub.cons rfl (Sub.cons rfl (Sub.cons rfl (Sub.nil _))))), (by first | omega | (dsimp only; omega))⟩)
  · have _kb_9 := _h14
    have _h14 := bf_d _h14
    refine W_exit (thn_exit (thn_exit (inB_hit ?_)))
    refine thn_nrm (_hK_4 _ _ ?_)
    clear _hK_4
    refine W_seq fun _K_38 _hK_38 => ?_
    refine W_region ?_
    refine WL_step rfl rfl (r_move rfl) ?_
    refine WL_step rfl rfl (r_assign rfl) ?_
    refine WL_nil ?_
    refine thn_nrm (_hK_38 _ _ ?_)
    clear _hK_38
    refine W_ret ?_
    clear _hK_7
    have _o_39 : Ol Sv.cs 24 1 _wr_6 (.slice Au10_0 (_vs10_0).length Cu10_0) _vs10_0 := by
      have hx := _F0_4
      exact hx
    have _o_40 : Od bcs 4 1 _wr_6 w.heap.size _wr_6.heap.size _vs10_0 (grd n (oeM A B)) := by
      have hx := od.up (lo' := w.heap.size) (hi' := _wr_6.heap.size) (by omega) (by omega)
      rwa [upt_all (by omega)] at hx
    exact ret_intro [_] ⟨rfl, trivial⟩ ⟨(.slice Au10_0 (_vs10_0).length Cu10_0), _vs10_0, rfl, _o_39, (Lo.down _lo_u10_0 (by omega)), _o_40, _sep_vs10_0, E⟩

/-- spec.l9Joined -/
theorem c_spec_l9Joined {w : World} {LL_sa _B_sa : Nat} {_v_sa : Value} {sa : List Sv} (_h_sa : Ls Sv.cs 1 w LL_sa _B_sa _v_sa sa) {LR_a BB_a : Nat} {a : List (List Bool)} (_rd_a : Rd bcs 1 w LR_a BB_a sa a) {LL_sb _B_sb : Nat} {_v_sb : Value} {sb : List Sv} (_h_sb : Ls Sv.cs 1 w LL_sb _B_sb _v_sb sb) {LR_b BB_b : Nat} {b : List (List Bool)} (_rd_b : Rd bcs 1 w LR_b BB_b sb b) (n : Nat) (A : Nat → Nat → Bool) (B : Nat → Nat → Bool) (ha : a = grd n A) (hb : b = grd n B) (ta : Tri A) (tb : Tri B) (hn : n ≤ 4097) :
    Ctr Try.prog 181 #[_v_sa, _v_sb] w (fun v w' => ∃ (_u0 : Value) (vs0 : List Sv), v = _u0 ∧ Ol Sv.cs 24 1 w' _u0 vs0 ∧ Lo w.heap.size _u0 ∧ Od bcs 4 1 w' w.heap.size w'.heap.size vs0 (grd n (mulM n A B)) ∧ Sep _u0 vs0 ∧ Ch [] w w') := by
  obtain ⟨_A_sa, _C_sa, _e1_sa⟩ := _h_sa.val
  subst _e1_sa
  have _l_sa := _h_sa.len
  have _h_sa := _h_sa.here (by decide)
  have _rd_a := _rd_a.here (by decide)
  have _rl_a := _rd_a.1
  obtain ⟨_A_sb, _C_sb, _e1_sb⟩ := _h_sb.val
  subst _e1_sb
  have _l_sb := _h_sb.len
  have _h_sb := _h_sb.here (by decide)
  have _rd_b := _rd_b.here (by decide)
  have _rl_b := _rd_b.1
  have E := Ch.refl [] w
  have _ln9 : sa.length = n := (by rw [_rl_a, ha, grd_len]); have _ln8 : sb.length = n := (by rw [_rl_b, hb, grd_len])
  refine Ctr_of_W (N := 64) (vs0 := [(.slice _A_sa sa.length _C_sa), (.slice _A_sb sb.length _C_sb)]) Try.func181 rfl rfl rfl ?_
  refine W_seq fun _K_1 _hK_1 => ?_
  refine W_region ?_
  refine WL_step rfl rfl (r_assign rfl) ?_
  refine WL_nil ?_
  refine thn_nrm (_hK_1 _ _ ?_)
  clear _hK_1
  refine W_seq fun _K_2 _hK_2 => ?_
  refine W_region ?_
  refine WL_step rfl rfl (r_move rfl) ?_
  refine WL_step rfl rfl (r_len (by rw [el194]; rfl) rfl) ?_
  refine WL_s rfl rfl ?_
  refine Step.call (r_call (xs := [.tmp 10, .const (Go.Value.bool false)]) fk180 rfl) (c_spec_l9Grid sa.length _ (by omega)) fun _v11 _w_3 _q11 => ?_
  obtain ⟨u11_0, _vs11_0, rfl, _q_u11_0, _lo_u11_0, _od_vs11_0, _sep_vs11_0, _cw_3⟩ := _q11
  have _cw_3z := _cw_3.size
  have E := E.trans _cw_3
  obtain ⟨Au11_0, Cu11_0, eu11_0⟩ := _q_u11_0.val
  subst eu11_0
  have lu11_0 := _q_u11_0.len
  have _hiu11_0 := _q_u11_0.lt
  refine WL_step rfl rfl (r_assign rfl) ?_
  refine WL_nil ?_
  refine thn_nrm (_hK_2 _ _ ?_)
  clear _hK_2
  refine W_seq fun _K_4 _hK_4 => ?_
  refine W_seq fun _K_5 _hK_5 => ?_
  refine W_region ?_
  refine WL_step rfl rfl (r_assign rfl) ?_
  refine WL_nil ?_
  refine thn_nrm (_hK_5 _ _ ?_)
  clear _hK_5
  refine W_block ?_
  refine W_loop (σ := Nat) (fun (i : Nat) => [(0, (.slice _A_sa sa.length _C_sa)), (1, (.slice _A_sb sb.length _C_sb)), (4, (.slice none 0 0)), (5, (.slice Au11_0 (_vs11_0).length Cu11_0)), (6, (.int .i64 ((i : Nat) : Int)))]) (fun (i : Nat) wx => Ch [] w wx ∧ _w_3.heap.size ≤ wx.heap.size ∧ (i ≤ n) ∧ Ol Sv.cs 24 1 wx (.slice Au11_0 (_vs11_0).length Cu11_0) _vs11_0 ∧ Od bcs 4 1 wx w.heap.size _w_3.heap.size _vs11_0 (grd n (mupt n A B i 0 0))) (fun (i : Nat) => n - i) 0 (Sub.cons rfl (Sub.cons rfl (Sub.cons rfl (Sub.cons rfl (Sub.cons rfl (Sub.nil _)))))) ⟨E, (Nat.le_refl _), (by omega), _q_u11_0, (_od_vs11_0.eq (by rw [_ln9]; exact mupt_zero))⟩ ?_
  rintro i _wr_6 ⟨E, _zz0, hi, _F0_4, od⟩
  have _E0h := E
  have _E0hz := _E0h.size
  refine W_seq fun _K_7 _hK_7 => ?_
  refine W_seq fun _K_8 _hK_8 => ?_
  refine W_region ?_
  refine WL_step rfl rfl (r_move rfl) ?_
  refine WL_step rfl rfl (r_move rfl) ?_
  refine WL_step rfl rfl (r_len (by rw [el194]; rfl) rfl) ?_
  refine WL_step rfl rfl (r_lss rfl rfl) ?_
  refine WL_nil ?_
  refine thn_nrm (_hK_8 _ _ ?_)
  clear _hK_8
  refine W_cond rfl (fun _h15 => ?_) (fun _h15 => ?_)
  · have _kb_9 := _h15
    have _h15 := bt_d _h15
    refine W_skip ?_
    refine thn_nrm (_hK_7 _ _ ?_)
    clear _hK_7
    refine W_seq fun _K_10 _hK_10 => ?_
    refine W_block ?_
    refine W_seq fun _K_11 _hK_11 => ?_
    refine W_region ?_
    refine WL_step rfl rfl (r_move rfl) ?_
    refine WL_step rfl rfl (r_assign rfl) ?_
    refine WL_nil ?_
    refine thn_nrm (_hK_11 _ _ ?_)
    clear _hK_11
    refine W_block ?_
    refine W_loop (σ := Nat) (fun (k : Nat) => [(0, (.slice _A_sa sa.length _C_sa)), (1, (.slice _A_sb sb.length _C_sb)), (4, (.slice none 0 0)), (5, (.slice Au11_0 (_vs11_0).length Cu11_0)), (6, (.int .i64 ((i : Nat) : Int))), (7, (.int .i64 ((k : Nat) : Int))), (15, (.bool (decide (((i : Nat) : Int) < ((sa.length : Nat) : Int)))))]) (fun (k : Nat) wx => Ch [] w wx ∧ _wr_6.heap.size ≤ wx.heap.size ∧ (k ≤ n) ∧ Ol Sv.cs 24 1 wx (.slice Au11_0 (_vs11_0).length Cu11_0) _vs11_0 ∧ Od bcs 4 1 wx w.heap.size _w_3.heap.size _vs11_0 (grd n (mupt n A B i k 0))) (fun (k : Nat) => n - k) i (Sub.cons rfl (Sub.cons rfl (Sub.cons rfl (Sub.cons rfl (Sub.cons rfl (Sub.cons rfl (Sub.cons rfl (Sub.nil _)))))))) ⟨E, (Nat.le_refl _), (by omega), _F0_4, (od.eq (mupt_triA ta))⟩ ?_
    rintro k _wr_12 ⟨E, _zz1, _hk, _F1_4, od⟩
    have _E1h := E
    have _E1hz := _E1h.size
    refine W_seq fun _K_13 _hK_13 => ?_
    refine W_seq fun _K_14 _hK_14 => ?_
    refine W_region ?_
    refine WL_step rfl rfl (r_move rfl) ?_
    refine WL_step rfl rfl (r_move rfl) ?_
    refine WL_step rfl rfl (r_len (by rw [el194]; rfl) rfl) ?_
    refine WL_step rfl rfl (r_lss rfl rfl) ?_
    refine WL_nil ?_
    refine thn_nrm (_hK_14 _ _ ?_)
    clear _hK_14
    refine W_cond rfl (fun _h22 => ?_) (fun _h22 => ?_)
    · have _kb_15 := _h22
      have _h22 := bt_d _h22
      refine W_skip ?_
      refine thn_nrm (_hK_13 _ _ ?_)
      clear _hK_13
      refine W_seq fun _K_16 _hK_16 => ?_
      refine W_block ?_
      refine W_seq fun _K_17 _hK_17 => ?_
      refine W_region ?_
      refine WL_step rfl rfl (r_move rfl) ?_
      refine WL_step rfl rfl (r_assign rfl) ?_
      refine WL_nil ?_
      refine thn_nrm (_hK_17 _ _ ?_)
      clear _hK_17
      refine W_block ?_
      refine W_loop (σ := Nat) (fun (j : Nat) => [(0, (.slice _A_sa sa.length _C_sa)), (1, (.slice _A_sb sb.length _C_sb)), (4, (.slice none 0 0)), (5, (.slice Au11_0 (_vs11_0).length Cu11_0)), (6, (.int .i64 ((i : Nat) : Int))), (7, (.int .i64 ((k : Nat) : Int))), (8, (.int .i64 ((j : Nat) : Int))), (15, (.bool (decide (((i : Nat) : Int) < ((sa.length : Nat) : Int))))), (22, (.bool (decide (((k : Nat) : Int) < ((sa.length : Nat) : Int)))))]) (fun (j : Nat) wx => Ch [] w wx ∧ _wr_12.heap.size ≤ wx.heap.size ∧ (j ≤ n) ∧ Ol Sv.cs 24 1 wx (.slice Au11_0 (_vs11_0).length Cu11_0) _vs11_0 ∧ Od bcs 4 1 wx w.heap.size _w_3.heap.size _vs11_0 (grd n (mupt n A B i k j))) (fun (j : Nat) => n - j) k (Sub.cons rfl (Sub.cons rfl (Sub.cons rfl (Sub.cons rfl (Sub.cons rfl (Sub.cons rfl (Sub.cons rfl (Sub.cons rfl (Sub.cons rfl (Sub.nil _)))))))))) ⟨E, (Nat.le_refl _), (by omega), _F1_4, (od.eq (mupt_triB tb))⟩ ?_
      rintro j _wr_18 ⟨E, _zz2, hj, _F2_4, od⟩
      have _E2h := E
      have _E2hz := _E2h.size
      refine W_seq fun _K_19 _hK_19 => ?_
      refine W_seq fun _K_20 _hK_20 => ?_
      refine W_region ?_
      refine WL_step rfl rfl (r_move rfl) ?_
      refine WL_step rfl rfl (r_move rfl) ?_
      refine WL_step rfl rfl (r_len (by rw [el194]; rfl) rfl) ?_
      refine WL_step rfl rfl (r_lss rfl rfl) ?_
      refine WL_step rfl rfl (r_move rfl) ?_
      refine WL_split (d := 30) rfl (fun _h30 => ?_) (fun _h30 => ?_)
      · have _kb_21 := _h30
        have _h30 := bt_d _h30
        refine WL_step rfl rfl (r_move rfl) ?_
        refine WL_step rfl rfl (r_move rfl) ?_
        refine WL_s rfl rfl ?_
        have _f_22 := (_h_sa.ch0 _E2h)
        refine (s_index _f_22 Sv.len el194 sz24 rfl rfl rfl (by omega) fun _p33 _y33 _hy33 _a33 => ?_)
        have _f_23 := (_rd_a.ch0 _E2h)
        obtain ⟨_ys33, _hys33, _fs33⟩ := _f_23.get _hy33
        obtain ⟨_A33, _n33, _C33⟩ := _y33
        obtain rfl := _fs33.eqn
        have _l33 := _fs33.len
        replace _fs33 : Ls bcs 1 _wr_18 LR_a w.heap.size (.slice _A33 _ys33.length _C33) _ys33 := _fs33
        replace _a33 : At _wr_18 LL_sa w.heap.size _p33 ([(.slice _A33 _ys33.length _C33)]) := _a33
        have rl33 := row_len ha _hys33
        refine WL_step rfl rfl (r_loadAt0 _a33 agg24 rfl rfl) ?_
        refine WL_step rfl rfl (r_move rfl) ?_
        refine WL_s rfl rfl ?_
        refine (s_index _fs33 bcs_len el24 sz4 rfl rfl rfl (by omega) fun _p36 _y36 _hy36 _a36 => ?_)
        have _e36 := grd_y ha _hys33 _hy36
        refine WL_step rfl rfl (r_loadAt0 _a36 agg4 rfl rfl) ?_
        refine WL_step rfl rfl (r_pickT rfl rfl) ?_
        refine WL_nil ?_
        refine thn_nrm (_hK_20 _ _ ?_)
        clear _hK_20
        refine W_cond rfl (fun _h38 => ?_) (fun _h38 => ?_)
        · have _kb_24 := _h38
          refine W_skip ?_
          refine thn_nrm (_hK_19 _ _ ?_)
          clear _hK_19
          refine W_seq fun _K_25 _hK_25 => ?_
          refine W_block ?_
          have _ln941 := (od).1
          rw [grd_len] at _ln941
          obtain ⟨go941, hgo941, lso941⟩ := Ol.lsE _F2_4 (by omega)
          obtain ⟨_y941, _hy941⟩ := get_some (xs := _vs11_0) (j := i) (by omega)
          have _sm941 := _sep_vs11_0 _ (mem_of_get _hy941)
          obtain ⟨_ys941, _hys941, _fs941, _rs941⟩ := od.ownget _hy941
          obtain ⟨_A941, _n941, _C941⟩ := _y941
          obtain rfl := _fs941.ls.eqn
          have _l941 := _fs941.len
          have _lo941 : Lo w.heap.size (.slice _A941 _ys941.length _C941) := fun g hg => (_rs941 g hg).1
          have hi941 : ∀ g ∈ bl (.slice _A941 _ys941.length _C941), g < _w_3.heap.size := fun g hg => (_rs941 g hg).2
          replace _fs941 : Ol bcs 4 1 _wr_18 (.slice _A941 _ys941.length _C941) _ys941 := _fs941
          have rl941 := row_len rfl _hys941
          refine W_drawC (bl (.slice _A941 _ys941.length _C941)) 23 mixed rfl fun _w_26 _cw_26 => ?_
          have _cw_26z := _cw_26.size
          have E := E.trans _cw_26
          refine DR_s 0 rfl (by kernel_rfl) rfl rfl (t_v (fun _ => (r_move rfl)) ?_)
          refine DR_s 1 rfl (by kernel_rfl) rfl rfl (t_v (fun _ => (r_move rfl)) ?_)
          have _f_27 := (lso941.ch0 _cw_26)
          refine DR_s 2 rfl (by kernel_rfl) rfl rfl (t_index _f_27 Sv.len el194 sz24 rfl rfl rfl (by omega) fun _p43 _y43 _hy43 _a43 => ?_)
          obtain rfl := get_uniq _hy941 _hy43
          replace _a43 : At _w_26 go941 (go941 + 1) _p43 ([(.slice _A941 _ys941.length _C941)]) := _a43
          refine DR_s 3 rfl (by kernel_rfl) rfl rfl (t_loadAt0 _a43 (fun i hm => ne_blk (_sm941 i hm) hgo941) agg24 rfl rfl ?_)
          refine DR_s 4 rfl (by kernel_rfl) rfl rfl (t_v (fun _ => (r_move rfl)) ?_)
          refine DR_s 5 rfl (by kernel_rfl) rfl rfl (t_v (fun _ => (r_move rfl)) ?_)
          refine DR_s 6 rfl (by kernel_rfl) rfl rfl (t_v (fun _ => (r_move rfl)) ?_)
          refine DR_s 7 rfl (by kernel_rfl) rfl rfl (t_index _f_27 Sv.len el194 sz24 rfl rfl rfl (by omega) fun _p48 _y48 _hy48 _a48 => ?_)
          obtain rfl := get_uniq _hy941 _hy48
          replace _a48 : At _w_26 go941 (go941 + 1) _p48 ([(.slice _A941 _ys941.length _C941)]) := _a48
          refine DR_s 8 rfl (by kernel_rfl) rfl rfl (t_loadAt0 _a48 (fun i hm => ne_blk (_sm941 i hm) hgo941) agg24 rfl rfl ?_)
          refine DR_s 9 rfl (by kernel_rfl) rfl rfl (t_v (fun _ => (r_move rfl)) ?_)
          refine DR_one 10 (by kernel_rfl) ?_
          refine DO_s rfl rfl rfl ?_
          have _f_28 := (_fs941.ch0 _cw_26)
          refine (s_index _f_28.ls bcs_len el24 sz4 rfl rfl rfl (by omega) fun _p51 _y51 _hy51 _a51 => ?_)
          refine ⟨(Ch.refl _ _), ?_⟩
          refine DR_one 11 (by kernel_rfl) ?_
          refine DO_s rfl rfl rfl ?_
          refine s_v (r_loadAt0 _a51 agg4 rfl rfl) ?_
          refine ⟨(Ch.refl _ _), ?_⟩
          refine DR_s 12 rfl (by kernel_rfl) rfl rfl (t_v (fun _ => (r_move rfl)) ?_)
          refine DR_split (d := 53) rfl (fun _h53 => ?_) (fun _h53 => ?_)
          · have _kb_29 := _h53
            refine DR_skip 13 rfl (by kernel_rfl) rfl rfl ?_
            refine DR_skip 14 rfl (by kernel_rfl) rfl rfl ?_
            refine DR_skip 15 rfl (by kernel_rfl) rfl rfl ?_
            refine DR_skip 16 rfl (by kernel_rfl) rfl rfl ?_
            refine DR_skip 17 rfl (by kernel_rfl) rfl rfl ?_
            refine DR_skip 18 rfl (by kernel_rfl) rfl rfl ?_
            refine DR_skip 19 rfl (by kernel_rfl) rfl rfl ?_
            refine DR_s 20 rfl (by kernel_rfl) rfl rfl (t_v (fun _ => (r_pickT rfl rfl)) ?_)
            refine DR_one 21 (by kernel_rfl) ?_
            refine DO_s rfl rfl rfl ?_
            refine s_indexO (j := j) _f_28 el24 sz4 rfl rfl rfl (by omega) fun _g62 _o62 _cp62 _q62 => ?_
            refine ⟨(Ch.refl _ _), ?_⟩
            refine DR_one 22 (by kernel_rfl) ?_
            refine DO_s rfl rfl rfl ?_
            refine s_storeO (j := j) true _f_28 _q62 bcs_len sz4 rfl rfl rfl rfl (by omega) fun _w_30 _o_31 _cw_30 => ?_
            have _f_32 := (od.ch0 _cw_26)
            have _cw_30z := _cw_30.size
            have E := E.step _cw_30 (fun i hi => .inl (by have _h1 := _lo941 _ hi; omega))
            have _od_33 := Od.set _f_32 _hy941 _hys941 _cw_30 _o_31
            have _S_34 : Ch (bl (.slice _A941 _ys941.length _C941)) _w_26 _w_30 := ((Ch.refl _ _).step _cw_30 (fun i hm => by exact .inr hm))
            refine ⟨_S_34, ?_⟩
            refine DR_done (by kernel_rfl) ?_
            refine inB_nrm ?_
            refine thn_nrm (_hK_25 _ _ ?_)
            clear _hK_25
            refine W_region ?_
            refine WL_step rfl rfl (r_move rfl) ?_
            refine WL_step rfl rfl (r_add (by omega) rfl rfl) ?_
            refine WL_step rfl rfl (r_assign rfl) ?_
            refine WL_nil ?_
            have _f_35 := ((_F2_4.ch0 _cw_26).ch _cw_30 (fun g hg hm => by exact _sm941 _ hm hg))
            exact thn_nrm (Exists.intro (j + 1) ⟨⟨E, (by omega), (by omega), _f_35, (_od_33.eq (mupt_step rfl _hys941 (by rw [← _e36]; exact _h38) (by first | (have _e1 := grd_y rfl _hys941 _hy51; simp [← _e1, _h53]; done) | (have _e1 := grd_y rfl _hys941 _hy51; have _e2 := grd_y hb _hys56 _hy59; simp [← _e1, ← _e2, _h53]; done))))⟩, Sub.cons rfl (Sub.cons rfl (Sub.cons rfl (Sub.cons rfl (Sub.cons rfl (Sub.cons rfl (Sub.cons rfl (Sub.cons rfl (Sub.cons rfl (Sub.nil _))))))))), (by first | omega | (dsimp only; omega))⟩)
          · have _kb_29 := _h53
            refine DR_s 13 rfl (by kernel_rfl) rfl rfl (t_v (fun _ => (r_move rfl)) ?_)
            refine DR_s 14 rfl (by kernel_rfl) rfl rfl (t_v (fun _ => (r_move rfl)) ?_)
            have _f_36 := ((_h_sb.ch0 _E2h).ch0 _cw_26)
            have _f_37 := ((_rd_b.ch0 _E2h).ch0 _cw_26)
            refine DR_s 15 rfl (by kernel_rfl) rfl rfl (t_index _f_36 Sv.len el194 sz24 rfl rfl rfl (by omega) fun _p56 _y56 _hy56 _a56 => ?_)
            obtain ⟨_ys56, _hys56, _fs56⟩ := _f_37.get _hy56
            obtain ⟨_A56, _n56, _C56⟩ := _y56
            obtain rfl := _fs56.eqn
            have _l56 := _fs56.len
            replace _fs56 : Ls bcs 1 _w_26 LR_b w.heap.size (.slice _A56 _ys56.length _C56) _ys56 := _fs56
            replace _a56 : At _w_26 LL_sb w.heap.size _p56 ([(.slice _A56 _ys56.length _C56)]) := _a56
            have rl56 := row_len hb _hys56
            refine DR_s 16 rfl (by kernel_rfl) rfl rfl (t_loadAt0 _a56 (fun i hm => by have _h1 := _lo941 _ hm; have _h2 := hi941 _ hm; omega) agg24 rfl rfl ?_)
            refine DR_s 17 rfl (by kernel_rfl) rfl rfl (t_v (fun _ => (r_move rfl)) ?_)
            refine DR_s 18 rfl (by kernel_rfl) rfl rfl (t_index _fs56 bcs_len el24 sz4 rfl rfl rfl (by omega) fun _p59 _y59 _hy59 _a59 => ?_)
            refine DR_s 19 rfl (by kernel_rfl) rfl rfl (t_loadAt0 _a59 (fun i hm => by have _h1 := _lo941 _ hm; have _h2 := hi941 _ hm; omega) agg4 rfl rfl ?_)
            refine DR_s 20 rfl (by kernel_rfl) rfl rfl (t_v (fun _ => (r_pickF rfl rfl)) ?_)
            refine DR_one 21 (by kernel_rfl) ?_
            refine DO_s rfl rfl rfl ?_
            refine s_indexO (j := j) _f_28 el24 sz4 rfl rfl rfl (by omega) fun _g62 _o62 _cp62 _q62 => ?_
            refine ⟨(Ch.refl _ _), ?_⟩
            refine DR_one 22 (by kernel_rfl) ?_
            refine DO_s rfl rfl rfl ?_
            refine s_storeO (j := j) _y59 _f_28 _q62 bcs_len sz4 rfl rfl rfl rfl (by omega) fun _w_38 _o_39 _cw_38 => ?_
            have _f_40 := (od.ch0 _cw_26)
            have _cw_38z := _cw_38.size
            have E := E.step _cw_38 (fun i hi => .inl (by have _h1 := _lo941 _ hi; omega))
            have _od_41 := Od.set _f_40 _hy941 _hys941 _cw_38 _o_39
            have _S_42 : Ch (bl (.slice _A941 _ys941.length _C941)) _w_26 _w_38 := ((Ch.refl _ _).step _cw_38 (fun i hm => by exact .inr hm))
            refine ⟨_S_42, ?_⟩
            refine DR_done (by kernel_rfl) ?_
            refine inB_nrm ?_
            refine thn_nrm (_hK_25 _ _ ?_)
            clear _hK_25
            refine W_region ?_
            refine WL_step rfl rfl (r_move rfl) ?_
            refine WL_step rfl rfl (r_add (by omega) rfl rfl) ?_
            refine WL_step rfl rfl (r_assign rfl) ?_
            refine WL_nil ?_
            have _f_43 := ((_F2_4.ch0 _cw_26).ch _cw_38 (fun g hg hm => by exact _sm941 _ hm hg))
            exact thn_nrm (Exists.intro (j + 1) ⟨⟨E, (by omega), (by omega), _f_43, (_od_41.eq (mupt_step rfl _hys941 (by rw [← _e36]; exact _h38) (by first | (have _e1 := grd_y rfl _hys941 _hy51; simp [← _e1, _h53]; done) | (have _e1 := grd_y rfl _hys941 _hy51; have _e2 := grd_y hb _hys56 _hy59; simp [← _e1, ← _e2, _h53]; done))))⟩, Sub.cons rfl (Sub.cons rfl (Sub.cons rfl (Sub.cons rfl (Sub.cons rfl (Sub.cons rfl (Sub.cons rfl (Sub.cons rfl (Sub.cons rfl (Sub.nil _))))))))), (by first | omega | (dsimp only; omega))⟩)
        · have _kb_24 := _h38
          refine W_exit (thn_exit (thn_exit (inB_hit ?_)))
          refine inB_nrm ?_
          refine thn_nrm (_hK_16 _ _ ?_)
          clear _hK_16
          refine W_region ?_
          refine WL_step rfl rfl (r_move rfl) ?_
          refine WL_step rfl rfl (r_add (by omega) rfl rfl) ?_
          refine WL_step rfl rfl (r_assign rfl) ?_
          refine WL_nil ?_
          exact thn_nrm (Exists.intro (k + 1) ⟨⟨E, (by omega), (by omega), _F2_4, (od.eq (by first | exact mupt_row (.inl (by omega)) | exact mupt_row (.inr (by rw [← _e36]; exact _h38))))⟩, Sub.cons rfl (Sub.cons rfl (Sub.cons rfl (Sub.cons rfl (Sub.cons rfl (Sub.cons rfl (Sub.cons rfl (Sub.nil _))))))), (by first | omega | (dsimp only; omega))⟩)
      · have _kb_21 := _h30
        have _h30 := bf_d _h30
        refine WL_skip rfl rfl ?_
        refine WL_skip rfl rfl ?_
        refine WL_skip rfl rfl ?_
        refine WL_skip rfl rfl ?_
        refine WL_skip rfl rfl ?_
        refine WL_skip rfl rfl ?_
        refine WL_skip rfl rfl ?_
        refine WL_step rfl rfl (r_pickF rfl rfl) ?_
        refine WL_nil ?_
        refine thn_nrm (_hK_20 _ _ ?_)
        clear _hK_20
        refine W_condF rfl ?_
        refine W_exit (thn_exit (thn_exit (inB_hit ?_)))
        refine inB_nrm ?_
        refine thn_nrm (_hK_16 _ _ ?_)
        clear _hK_16
        refine W_region ?_
        refine WL_step rfl rfl (r_move rfl) ?_
        refine WL_step rfl rfl (r_add (by omega) rfl rfl) ?_
        refine WL_step rfl rfl (r_assign rfl) ?_
        refine WL_nil ?_
        exact thn_nrm (Exists.intro (k + 1) ⟨⟨E, (by omega), (by omega), _F2_4, (od.eq (by first | exact mupt_row (.inl (by omega)) | exact mupt_row (.inr (by rw [← _e36]; exact _h38))))⟩, Sub.cons rfl (Sub.cons rfl (Sub.cons rfl (Sub.cons rfl (Sub.cons rfl (Sub.cons rfl (Sub.cons rfl (Sub.nil _))))))), (by first | omega | (dsimp only; omega))⟩)
    · have _kb_15 := _h22
      have _h22 := bf_d _h22
      refine W_exit (thn_exit (thn_exit (inB_hit ?_)))
      refine inB_nrm ?_
      refine thn_nrm (_hK_10 _ _ ?_)
      clear _hK_10
      refine W_region ?_
      refine WL_step rfl rfl (r_move rfl) ?_
      refine WL_step rfl rfl (r_add (by omega) rfl rfl) ?_
      refine WL_step rfl rfl (r_assign rfl) ?_
      refine WL_nil ?_
      exact thn_nrm (Exists.intro (i + 1) ⟨⟨E, (by omega), (by omega), _F1_4, (od.eq (mupt_next (by omega)))⟩, Sub.cons rfl (Sub.cons rfl (Sub.cons rfl (Sub.cons rfl (Sub.cons rfl (Sub.nil _))))), (by first | omega | (dsimp only; omega))⟩)
  · have _kb_9 := _h15
    have _h15 := bf_d _h15
    refine W_exit (thn_exit (thn_exit (inB_hit ?_)))
    refine thn_nrm (_hK_4 _ _ ?_)
    clear _hK_4
    refine W_seq fun _K_44 _hK_44 => ?_
    refine W_region ?_
    refine WL_step rfl rfl (r_move rfl) ?_
    refine WL_step rfl rfl (r_assign rfl) ?_
    refine WL_nil ?_
    refine thn_nrm (_hK_44 _ _ ?_)
    clear _hK_44
    refine W_ret ?_
    clear _hK_7
    have _o_45 : Ol Sv.cs 24 1 _wr_6 (.slice Au11_0 (_vs11_0).length Cu11_0) _vs11_0 := by
      have hx := _F0_4
      exact hx
    have _o_46 : Od bcs 4 1 _wr_6 w.heap.size _wr_6.heap.size _vs11_0 (grd n (mulM n A B)) := by
      have hx := od.up (lo' := w.heap.size) (hi' := _wr_6.heap.size) (by omega) (by omega)
      rwa [mupt_all (by omega)] at hx
    exact ret_intro [_] ⟨rfl, trivial⟩ ⟨(.slice Au11_0 (_vs11_0).length Cu11_0), _vs11_0, rfl, _o_45, (Lo.down _lo_u11_0 (by omega)), _o_46, _sep_vs11_0, E⟩

/-- spec.l9Repeated -/
theorem c_spec_l9Repeated {w : World} {LL_sa _B_sa : Nat} {_v_sa : Value} {sa : List Sv} (_h_sa : Ls Sv.cs 1 w LL_sa _B_sa _v_sa sa) {LR_a BB_a : Nat} {a : List (List Bool)} (_rd_a : Rd bcs 1 w LR_a BB_a sa a) (low : Int) (high : Int) (n : Nat) (A : Nat → Nat → Bool) (ha : a = grd n A) (ta : Tri A) (hn : n ≤ 4097) (hh : high ≤ 4294967296) :
    Ctr Try.prog 183 #[_v_sa, (.int .i64 low), (.int .i64 high)] w (fun v w' => ∃ (_u0 : Value) (vs0 : List Sv), v = _u0 ∧ Ol Sv.cs 24 1 w' _u0 vs0 ∧ Lo w.heap.size _u0 ∧ Od bcs 4 1 w' w.heap.size w'.heap.size vs0 (grd n (repM n A low (high + 1).toNat)) ∧ Sep _u0 vs0 ∧ Ch [] w w') := by
  obtain ⟨_A_sa, _C_sa, _e1_sa⟩ := _h_sa.val
  subst _e1_sa
  have _l_sa := _h_sa.len
  have _h_sa := _h_sa.here (by decide)
  have _rd_a := _rd_a.here (by decide)
  have _rl_a := _rd_a.1
  have E := Ch.refl [] w
  have _ln9 : sa.length = n := by rw [_rl_a, ha, grd_len]
  refine Ctr_of_W (N := 31) (vs0 := [(.slice _A_sa sa.length _C_sa), (.int .i64 low), (.int .i64 high)]) Try.func183 rfl rfl rfl ?_
  refine W_seq fun _K_1 _hK_1 => ?_
  refine W_region ?_
  refine WL_step rfl rfl (r_assign rfl) ?_
  refine WL_nil ?_
  refine thn_nrm (_hK_1 _ _ ?_)
  clear _hK_1
  refine W_seq fun _K_2 _hK_2 => ?_
  refine W_region ?_
  refine WL_step rfl rfl (r_move rfl) ?_
  refine WL_step rfl rfl (r_len (by rw [el194]; rfl) rfl) ?_
  refine WL_s rfl rfl ?_
  refine Step.call (r_call (xs := [.tmp 11, .const (Go.Value.bool false)]) fk180 rfl) (c_spec_l9Grid sa.length _ (by omega)) fun _v12 _w_3 _q12 => ?_
  obtain ⟨u12_0, _vs12_0, rfl, _q_u12_0, _lo_u12_0, _od_vs12_0, _sep_vs12_0, _cw_3⟩ := _q12
  have _cw_3z := _cw_3.size
  have E := E.trans _cw_3
  obtain ⟨Au12_0, Cu12_0, eu12_0⟩ := _q_u12_0.val
  subst eu12_0
  have lu12_0 := _q_u12_0.len
  have _hiu12_0 := _q_u12_0.lt
  refine WL_step rfl rfl (r_assign rfl) ?_
  refine WL_nil ?_
  refine thn_nrm (_hK_2 _ _ ?_)
  clear _hK_2
  refine W_seq fun _K_4 _hK_4 => ?_
  refine W_region ?_
  refine WL_step rfl rfl (r_move rfl) ?_
  refine WL_step rfl rfl (r_len (by rw [el194]; rfl) rfl) ?_
  refine WL_s rfl rfl ?_
  refine Step.call (r_call (xs := [.tmp 14, .const (Go.Value.bool true)]) fk180 rfl) (c_spec_l9Grid sa.length _ (by omega)) fun _v15 _w_5 _q15 => ?_
  obtain ⟨u15_0, _vs15_0, rfl, _q_u15_0, _lo_u15_0, _od_vs15_0, _sep_vs15_0, _cw_5⟩ := _q15
  have _cw_5z := _cw_5.size
  have E := E.trans _cw_5
  obtain ⟨Au15_0, Cu15_0, eu15_0⟩ := _q_u15_0.val
  subst eu15_0
  have lu15_0 := _q_u15_0.len
  have _hiu15_0 := _q_u15_0.lt
  refine WL_step rfl rfl (r_assign rfl) ?_
  refine WL_nil ?_
  refine thn_nrm (_hK_4 _ _ ?_)
  clear _hK_4
  refine W_seq fun _K_6 _hK_6 => ?_
  refine W_seq fun _K_7 _hK_7 => ?_
  refine W_region ?_
  refine WL_step rfl rfl (r_assign rfl) ?_
  refine WL_nil ?_
  refine thn_nrm (_hK_7 _ _ ?_)
  clear _hK_7
  refine W_block ?_
  have _f_8 := (_q_u12_0.ch0 _cw_5)
  have _oi_9 : Ol Sv.cs 24 1 _w_5 (.slice Au12_0 (_vs12_0).length Cu12_0) (_vs12_0) := by
    have hx := _f_8
    exact hx
  have _oi_10 : Ol Sv.cs 24 1 _w_5 (.slice Au15_0 (_vs15_0).length Cu15_0) (_vs15_0) := by
    have hx := _q_u15_0
    exact hx
  have _f_11 := (_od_vs12_0.ch0 _cw_5)
  refine W_loop (σ := Nat × List Sv × List Sv × Value × Value) (fun ⟨k, us, qs, ov, qv⟩ => [(0, (.slice _A_sa sa.length _C_sa)), (1, (.int .i64 low)), (2, (.int .i64 high)), (6, (.slice none 0 0)), (7, ov), (8, qv), (9, (.int .i64 ((k : Nat) : Int)))]) (fun ⟨k, us, qs, ov, qv⟩ wx => Ch [] w wx ∧ _w_5.heap.size ≤ wx.heap.size ∧ (k ≤ (high + 1).toNat) ∧ Ol Sv.cs 24 1 wx ov us ∧ Lo w.heap.size ov ∧ Ol Sv.cs 24 1 wx qv qs ∧ Lo _w_3.heap.size qv ∧ Od bcs 4 1 wx w.heap.size wx.heap.size us (grd n (repM n A low k)) ∧ Od bcs 4 1 wx w.heap.size wx.heap.size qs (grd n (powM n A k)) ∧ (Sep ov us) ∧ (Sep qv qs)) (fun ⟨k, us, qs, ov, qv⟩ => (high + 1).toNat - k) (0, _vs12_0, _vs15_0, (.slice Au12_0 (_vs12_0).length Cu12_0), (.slice Au15_0 (_vs15_0).length Cu15_0)) (Sub.cons rfl (Sub.cons rfl (Sub.cons rfl (Sub.cons rfl (Sub.cons rfl (Sub.cons rfl (Sub.cons rfl (Sub.nil _)))))))) ⟨E, (Nat.le_refl _), (by omega), _oi_9, _lo_u12_0, _oi_10, _lo_u15_0, ((_f_11.up (by omega) (by omega)).eq (by rw [_ln9]; exact rep_zero)), ((_od_vs15_0.up (by omega) (by omega)).eq (by rw [_ln9]; rfl)), _sep_vs12_0, _sep_vs15_0⟩ ?_
  rintro ⟨k, us, qs, ov, qv⟩ _wr_12 ⟨E, _zz0, _hk, _o0_7, _lo0_7, _o0_8, _lo0_8, od, oe, _spl0_7, _spl0_8⟩
  have _E0h := E
  have _E0hz := _E0h.size
  obtain ⟨Aov, Cov, eov⟩ := _o0_7.val
  subst eov
  have lov := _o0_7.len
  have hiov := _o0_7.lt
  obtain ⟨Aqv, Cqv, eqv⟩ := _o0_8.val
  subst eqv
  have lqv := _o0_8.len
  have hiqv := _o0_8.lt
  refine W_seq fun _K_13 _hK_13 => ?_
  refine W_seq fun _K_14 _hK_14 => ?_
  refine W_region ?_
  refine WL_step rfl rfl (r_move rfl) ?_
  refine WL_step rfl rfl (r_move rfl) ?_
  refine WL_step rfl rfl (r_leq rfl rfl) ?_
  refine WL_nil ?_
  refine thn_nrm (_hK_14 _ _ ?_)
  clear _hK_14
  refine W_cond rfl (fun _h18 => ?_) (fun _h18 => ?_)
  · have _kb_15 := _h18
    have _h18 := bt_d _h18
    refine W_skip ?_
    refine thn_nrm (_hK_13 _ _ ?_)
    clear _hK_13
    refine W_seq fun _K_16 _hK_16 => ?_
    refine W_block ?_
    refine W_seq fun _K_17 _hK_17 => ?_
    refine W_seq fun _K_18 _hK_18 => ?_
    refine W_region ?_
    refine WL_step rfl rfl (r_move rfl) ?_
    refine WL_step rfl rfl (r_move rfl) ?_
    refine WL_step rfl rfl (r_geq rfl rfl) ?_
    refine WL_nil ?_
    refine thn_nrm (_hK_18 _ _ ?_)
    clear _hK_18
    refine W_cond rfl (fun _h23 => ?_) (fun _h23 => ?_)
    · have _kb_19 := _h23
      have _h23 := bt_d _h23
      refine W_region ?_
      refine WL_step rfl rfl (r_move rfl) ?_
      refine WL_step rfl rfl (r_move rfl) ?_
      refine WL_s rfl rfl ?_
      refine Step.call (r_call (xs := [.tmp 24, .tmp 25]) fk182 rfl) (c_spec_l9Either _o0_7.ls od.rd _o0_8.ls oe.rd n (repM n A low k) (powM n A k) rfl rfl (rep_tri ta) (pow_tri ta _) hn) fun _v26 _w_20 _q26 => ?_
      obtain ⟨u26_0, _vs26_0, rfl, _q_u26_0, _lo_u26_0, _od_vs26_0, _sep_vs26_0, _cw_20⟩ := _q26
      have _cw_20z := _cw_20.size
      have E := E.trans _cw_20
      obtain ⟨Au26_0, Cu26_0, eu26_0⟩ := _q_u26_0.val
      subst eu26_0
      have lu26_0 := _q_u26_0.len
      have _hiu26_0 := _q_u26_0.lt
      refine WL_step rfl rfl (r_assign rfl) ?_
      refine WL_nil ?_
      refine thn_nrm (_hK_17 _ _ ?_)
      clear _hK_17
      refine W_region ?_
      refine WL_step rfl rfl (r_move rfl) ?_
      refine WL_step rfl rfl (r_move rfl) ?_
      refine WL_s rfl rfl ?_
      have _f_21 := (oe.ch0 _cw_20)
      have _f_22 := (_o0_8.ch0 _cw_20)
      have _f_23 := ((_rd_a.ch0 _E0h).ch0 _cw_20)
      have _f_24 := ((_h_sa.ch0 _E0h).ch0 _cw_20)
      refine Step.call (r_call (xs := [.tmp 27, .tmp 28]) fk181 rfl) (c_spec_l9Joined _f_22.ls _f_21.rd _f_24 _f_23 n (powM n A k) A rfl ha (pow_tri ta _) ta hn) fun _v29 _w_25 _q29 => ?_
      obtain ⟨u29_0, _vs29_0, rfl, _q_u29_0, _lo_u29_0, _od_vs29_0, _sep_vs29_0, _cw_25⟩ := _q29
      have _cw_25z := _cw_25.size
      have E := E.trans _cw_25
      obtain ⟨Au29_0, Cu29_0, eu29_0⟩ := _q_u29_0.val
      subst eu29_0
      have lu29_0 := _q_u29_0.len
      have _hiu29_0 := _q_u29_0.lt
      refine WL_step rfl rfl (r_assign rfl) ?_
      refine WL_nil ?_
      refine inB_nrm ?_
      refine thn_nrm (_hK_16 _ _ ?_)
      clear _hK_16
      refine W_region ?_
      refine WL_step rfl rfl (r_move rfl) ?_
      refine WL_step rfl rfl (r_add (by omega) rfl rfl) ?_
      refine WL_step rfl rfl (r_assign rfl) ?_
      refine WL_nil ?_
      have _f_27 := (_q_u26_0.ch0 _cw_25)
      have _on_26 : Ol Sv.cs 24 1 _w_25 (.slice Au26_0 (_vs26_0).length Cu26_0) (_vs26_0) := by
        have hx := _f_27
        exact hx
      have _on_28 : Ol Sv.cs 24 1 _w_25 (.slice Au29_0 (_vs29_0).length Cu29_0) (_vs29_0) := by
        have hx := _q_u29_0
        exact hx
      have _f_29 := (_od_vs26_0.ch0 _cw_25)
      exact thn_nrm (Exists.intro ((k + 1), _vs26_0, _vs29_0, (.slice Au26_0 (_vs26_0).length Cu26_0), (.slice Au29_0 (_vs29_0).length Cu29_0)) ⟨⟨E, (by omega), (by omega), _on_26, (Lo.down _lo_u26_0 (by omega)), _on_28, (Lo.down _lo_u29_0 (by omega)), ((_f_29.up (by omega) (by omega)).eq (rep_y (by omega))), ((_od_vs29_0.up (by omega) (by omega)).eq pw_succ), _sep_vs26_0, _sep_vs29_0⟩, Sub.cons rfl (Sub.cons rfl (Sub.cons rfl (Sub.cons rfl (Sub.cons rfl (Sub.cons rfl (Sub.cons rfl (Sub.nil _))))))), (by first | omega | (dsimp only; omega))⟩)
    · have _kb_19 := _h23
      have _h23 := bf_d _h23
      refine W_skip ?_
      refine thn_nrm (_hK_17 _ _ ?_)
      clear _hK_17
      refine W_region ?_
      refine WL_step rfl rfl (r_move rfl) ?_
      refine WL_step rfl rfl (r_move rfl) ?_
      refine WL_s rfl rfl ?_
      have _f_30 := (_rd_a.ch0 _E0h)
      have _f_31 := (_h_sa.ch0 _E0h)
      refine Step.call (r_call (xs := [.tmp 27, .tmp 28]) fk181 rfl) (c_spec_l9Joined _o0_8.ls oe.rd _f_31 _f_30 n (powM n A k) A rfl ha (pow_tri ta _) ta hn) fun _v29 _w_32 _q29 => ?_
      obtain ⟨u29_0, _vs29_0, rfl, _q_u29_0, _lo_u29_0, _od_vs29_0, _sep_vs29_0, _cw_32⟩ := _q29
      have _cw_32z := _cw_32.size
      have E := E.trans _cw_32
      obtain ⟨Au29_0, Cu29_0, eu29_0⟩ := _q_u29_0.val
      subst eu29_0
      have lu29_0 := _q_u29_0.len
      have _hiu29_0 := _q_u29_0.lt
      refine WL_step rfl rfl (r_assign rfl) ?_
      refine WL_nil ?_
      refine inB_nrm ?_
      refine thn_nrm (_hK_16 _ _ ?_)
      clear _hK_16
      refine W_region ?_
      refine WL_step rfl rfl (r_move rfl) ?_
      refine WL_step rfl rfl (r_add (by omega) rfl rfl) ?_
      refine WL_step rfl rfl (r_assign rfl) ?_
      refine WL_nil ?_
      have _f_34 := (_o0_7.ch0 _cw_32)
      have _on_33 : Ol Sv.cs 24 1 _w_32 (.slice Aov (us).length Cov) (us) := by
        have hx := _f_34
        exact hx
      have _on_35 : Ol Sv.cs 24 1 _w_32 (.slice Au29_0 (_vs29_0).length Cu29_0) (_vs29_0) := by
        have hx := _q_u29_0
        exact hx
      have _f_36 := (od.ch0 _cw_32)
      exact thn_nrm (Exists.intro ((k + 1), us, _vs29_0, (.slice Aov (us).length Cov), (.slice Au29_0 (_vs29_0).length Cu29_0)) ⟨⟨E, (by omega), (by omega), _on_33, (Lo.down _lo0_7 (by omega)), _on_35, (Lo.down _lo_u29_0 (by omega)), ((_f_36.up (by omega) (by omega)).eq (rep_n (by omega))), ((_od_vs29_0.up (by omega) (by omega)).eq pw_succ), _spl0_7, _sep_vs29_0⟩, Sub.cons rfl (Sub.cons rfl (Sub.cons rfl (Sub.cons rfl (Sub.cons rfl (Sub.cons rfl (Sub.cons rfl (Sub.nil _))))))), (by first | omega | (dsimp only; omega))⟩)
  · have _kb_15 := _h18
    have _h18 := bf_d _h18
    refine W_exit (thn_exit (thn_exit (inB_hit ?_)))
    refine thn_nrm (_hK_6 _ _ ?_)
    clear _hK_6
    refine W_seq fun _K_37 _hK_37 => ?_
    refine W_region ?_
    refine WL_step rfl rfl (r_move rfl) ?_
    refine WL_step rfl rfl (r_assign rfl) ?_
    refine WL_nil ?_
    refine thn_nrm (_hK_37 _ _ ?_)
    clear _hK_37
    refine W_ret ?_
    clear _hK_13
    have _o_38 : Ol Sv.cs 24 1 _wr_12 (.slice Aov (us).length Cov) us := by
      have hx := _o0_7
      exact hx
    have _o_39 : Od bcs 4 1 _wr_12 w.heap.size _wr_12.heap.size us (grd n (repM n A low (high + 1).toNat)) := by
      have hx := od.up (lo' := w.heap.size) (hi' := _wr_12.heap.size) (by omega) (by omega)
      rwa [show k = (high + 1).toNat by omega] at hx
    exact ret_intro [_] ⟨rfl, trivial⟩ ⟨(.slice Aov (us).length Cov), us, rfl, _o_38, (Lo.down _lo0_7 (by omega)), _o_39, _spl0_7, E⟩

end Go.Proofs.Ytholldndjafnpaa
