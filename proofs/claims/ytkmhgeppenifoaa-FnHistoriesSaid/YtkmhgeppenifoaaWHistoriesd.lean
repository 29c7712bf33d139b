/- Walks of functions that FnHistories reaches: what each returns, and that it leaves the memory that was there alone. -/
import Derived.Test.YtkmhgeppenifoaaLibA
import Derived.Test.YtkmhgeppenifoaaLibB
import Derived.Test.YtkmhgeppenifoaaWHistories
import Derived.Test.YtkmhgeppenifoaaWHistoriesb
import Derived.Test.YtkmhgeppenifoaaWHistoriesc
import Derived.Test.YtkmhgeppenifoaaProg
namespace Go.Proofs.Ytkmhgeppenifoaa
open Go.KLib Go.Shelf
set_option maxHeartbeats 1000000
set_option maxRecDepth 20000
set_option linter.unusedVariables false
set_option linter.unusedSimpArgs false
namespace THistoriesd
theorem agg22 : Yk Try.prog 22 = some false := by kernel_rfl
theorem agg34 : Yk Try.prog 34 = some false := by kernel_rfl
theorem agg36 : Yk Try.prog 36 = some true := by kernel_rfl
theorem agg55 : Yk Try.prog 55 = some false := by kernel_rfl
theorem agg57 : Yk Try.prog 57 = some true := by kernel_rfl
theorem by129 : Qo Try.prog 129 = some 32 := by kernel_rfl
theorem by3 : Qo Try.prog 3 = some 8 := by kernel_rfl
theorem el22 : elB Try.prog 22 = some 3 := by kernel_rfl
theorem el34 : elB Try.prog 34 = some 129 := by kernel_rfl
theorem el55 : elB Try.prog 55 = some 36 := by kernel_rfl
theorem fa36_0 : faB Try.prog 36 0 = some 0 := by kernel_rfl
theorem fa36_1 : faB Try.prog 36 1 = some 1 := by kernel_rfl
theorem fa57_1 : faB Try.prog 57 1 = some 1 := by kernel_rfl
theorem fk117 : fnB Try.prog 117 = true := by kernel_rfl
theorem fk133 : fnB Try.prog 133 = true := by kernel_rfl
theorem fk134 : fnB Try.prog 134 = true := by kernel_rfl
theorem fk21 : fnB Try.prog 21 = true := by kernel_rfl
theorem fk34 : fnB Try.prog 34 = true := by kernel_rfl
theorem fk83 : fnB Try.prog 83 = true := by kernel_rfl
theorem fk92 : fnB Try.prog 92 = true := by kernel_rfl
theorem fk95 : fnB Try.prog 95 = true := by kernel_rfl
theorem mixed : Try.prog.follows .mixedOrders = true := by kernel_rfl
theorem pl129 : Qu Try.prog 129 = some [(0, 1), (1, 1), (2, 1), (3, 1)] := by kernel_rfl
theorem pl36 : Qu Try.prog 36 = some [(0, 1), (1, 1)] := by kernel_rfl
theorem pl57 : Qu Try.prog 57 = some [(0, 1), (1, 1)] := by kernel_rfl
theorem sz129 : Ya Try.prog 129 = some 4 := by kernel_rfl
theorem sz22 : Ya Try.prog 22 = some 1 := by kernel_rfl
theorem sz3 : Ya Try.prog 3 = some 1 := by kernel_rfl
theorem sz34 : Ya Try.prog 34 = some 1 := by kernel_rfl
theorem sz36 : Ya Try.prog 36 = some 2 := by kernel_rfl
theorem sz57 : Ya Try.prog 57 = some 2 := by kernel_rfl
theorem zr129 : Yw Try.prog 129 = some (.agg #[.int .i64 0, .int .i64 0, .int .i64 0, .int .i64 0]) := by kernel_rfl
theorem zr3 : Yw Try.prog 3 = some (.int .i64 0) := by kernel_rfl
theorem zr36 : Yw Try.prog 36 = some (.agg #[.slice none 0 0, .slice none 0 0]) := by kernel_rfl
theorem zr57 : Yw Try.prog 57 = some (.agg #[.int .i64 0, .slice none 0 0]) := by kernel_rfl
end THistoriesd
open THistoriesd

/-- spec.l3Graph -/
theorem Zdd {w : World} {b_c : Nat} (gz : Cu w b_c) :
 Ctr Try.prog 134 #[(.pointer (some ⟨b_c, 0, none⟩))] w (fun v w' => ∃ (fw : List Int) (fx : List GEdge) (cY : Value) (cZ : Value), v = .agg #[cY, cZ] ∧ Ol ics 3 1 w' cY (fw) ∧ Lo w.heap.size cY ∧ Ol GEdge.cs 129 4 w' cZ (fx) ∧ Lo w.heap.size cZ ∧ (∀ g ∈ bl cY, g ∉ bl cZ) ∧ (Xn fw fx) ∧ Cu w' b_c ∧ Ch [b_c] w w') := by
 have lu := gz.lt
 have E := Ch.refl [b_c] w
 refine Yj (N := 57) (vs0 := [(.pointer (some ⟨b_c, 0, none⟩))]) Try.func134 rfl rfl rfl ?_
 refine Zh fun K1 H1 => ?_
 refine Zc (Zl rfl rfl ?_)
 refine Yd zr36 fun gq W2 hR C2 oz => ?_
 have oA := C2.size
 have E := E.trans C2.of_nil
 have oB := hR.lt
 replace hR : Blk W2 gq 36 [(.slice none 0 0), (.slice none 0 0)] := hR
 refine Ze (Zb (H1 _ _ ?_))
 refine Zh fun K3 H3 => ?_
 refine Zc (Za rfl rfl (Ys (parts := []) (cells := [(.slice none 0 0), (.slice none 0 0)]) zr36 pl36 rfl rfl) (Zl rfl rfl ?_))
 refine Yd zr36 fun y W4 hS C4 oC => ?_
 have oD := C4.size
 have E := E.trans C4.of_nil
 have oE := hS.lt
 replace hS : Blk W4 y 36 [(.slice none 0 0), (.slice none 0 0)] := hS
 refine Zl rfl rfl ?_
 refine Zk (off := 0) 2 hS sz36 rfl (us := [(.slice none 0 0), (.slice none 0 0)]) rfl rfl rfl rfl fun W5 fP C5 => ?_
 have oF := C5.size
 have E := E.step C5 (lS om)
 replace fP : Blk W5 y 36 [(.slice none 0 0), (.slice none 0 0)] := fP
 refine Ze (Zb (H3 _ _ ?_))
 refine Zh fun K7 H7 => ?_
 refine Zh fun K8 H8 => ?_
 refine Zc (Za rfl rfl (Zg rfl) (Zl rfl rfl ?_))
 refine Zq (cs := ics) (parts := [(0, .const (Go.Value.int Go.IntKind.i64 2)), (1, .const (Go.Value.int Go.IntKind.i64 3)), (2, .const (Go.Value.int Go.IntKind.i64 4)), (3, .const (Go.Value.int Go.IntKind.i64 4)), (4, .const (Go.Value.int Go.IntKind.i64 5))]) (0 : Int) [2, 3, 4, 4, 5] el22 sz3 zr3 Yx (by decide) rfl rfl rfl (by decide) (by decide) rfl fun oG W9 lv hX C9 => ?_
 have oH := C9.size
 have E := E.trans C9.of_nil
 obtain ⟨nh, ni, rfl, nj, lw⟩ := lv.opn
 refine Zl rfl rfl ?_
 have nk := (((gz.ch0 C2).ch0 C4).ch C5 (oS om)).ch0 C9
 refine Step.call (Zm (xs := [.tmp 8, .tmp 9]) fk117 rfl) (Zx nk lv (by decide) W5.heap.size om hX) fun nl gA hY => ?_
 obtain ⟨c0, rfl, fQ, hZ, hT⟩ := hY
 have nm := hT.size
 have E := E.trans hT
 have nn : 2 ≤ c0 ∧ c0 ≤ 5 := by have aw := fQ; simp at aw; omega
 refine Za rfl rfl (Zf rfl) (Ze (Zb (H8 _ _ ?_)))
 refine Yn ?_
 have fR : Ol ics 3 1 gA (.slice none 0 0) (([] : List Int)) := by
  have hx := Ol.nil (cs := ics) (e := 3) (k := 1) gA
  first | exact hx | simpa using hx
 have no := (fP.ch0 C9).ch hT (nS om)
 have np := (((hR.ch0 C4).ch C5 (nS om)).ch0 C9).ch hT (nS om)
 refine Ql (σ := Int × List Int × Value) (fun ⟨m, V, vv⟩ => [(0, (.pointer (some ⟨b_c, 0, none⟩))), (2, (.pointer (some ⟨gq, 0, none⟩))), (3, (.pointer (some ⟨y, 0, none⟩))), (4, (.int .i64 m))]) (fun ⟨m, V, vv⟩ wx => Ch [b_c] w wx ∧ gA.heap.size ≤ wx.heap.size ∧ (0 ≤ m ∧ (V.length : Int) + m = c0) ∧ (∀ v ∈ V, 0 ≤ v ∧ v ≤ 2) ∧ Cu wx b_c ∧ Blk wx gq 36 [(.slice none 0 0), (.slice none 0 0)] ∧ Ol ics 3 1 wx vv V ∧ Lo gA.heap.size vv ∧ Blk wx y 36 [vv, (.slice none 0 0)] ∧ (y ∉ bl vv)) (fun ⟨m, V, vv⟩ => m.toNat) (c0, ([] : List Int), (.slice none 0 0)) (sC4 rfl rfl rfl rfl (Sub.nil _)) ⟨E, (Nat.le_refl _), ⟨by omega, by simp⟩, (fun v h => by cases h), hZ, np, fR, (Lo.nil _), no, (fun hm => by cases hm)⟩ ?_
 rintro ⟨m, V, vv⟩ nq ⟨E, nr, hm, hV, c4, bj, bk, J, c1, af⟩
 have h0 := E
 have lx := h0.size
 have h1 := bj.lt
 obtain ⟨Avv, Cvv, rfl, lvv, an⟩ := bk.opn
 refine Zh fun oI ly => ?_
 refine Zh fun oJ ns => ?_
 refine Zc (Za rfl rfl (Zg rfl) (Za rfl rfl (Zcj rfl rfl) (Ze (Zb (ns _ _ ?_)))))
 refine Zz rfl (fun b2 => ?_) (fun b2 => ?_)
 ·have h2 := b2
  have b2 := Yt b2
  refine Yf ?_
  refine Zb (ly _ _ ?_)
  refine Zh fun oK h3 => ?_
  refine Yn ?_
  refine Yv ([b_c] ++ (bl (.slice Avv (V).length Cvv)) ++ [y]) 8 mixed rfl fun c5 c3 => ?_
  have nt := c3.size
  have E := E.trans c3.of_nil
  refine dV 0 rfl rfl rfl (fun _ => Zd fa36_0 rfl) (dV 2 rfl rfl rfl (fun _ => Zg rfl) ?_)
  refine Xd 1 3 (by kernel_rfl) ?_ ?_
  ·refine Zr rfl rfl rfl ?_
   have lz := c1.ch0 c3
   refine s_v (Zp lz.at_ agg22 rfl rfl) ?_
   refine ⟨(Ch.refl _ _), ?_⟩
   refine dO 3 (Zr rfl rfl rfl ?_)
   have nu := c4.ch0 c3
   refine Step.call (Zm (xs := [.tmp 17, .const (Go.Value.int Go.IntKind.i64 3)]) fk95 rfl) (Zs nu _ om) fun h4 nv fS => ?_
   obtain ⟨T, rfl, fT, ex, gr⟩ := fS
   have nw := gr.size
   have E := E.trans gr
   have fy : Ch ([b_c] ++ (bl (.slice Avv (V).length Cvv)) ++ [y]) c5 nv := ((Ch.refl _ _).step gr (fun i hm => by have r := List.mem_singleton.1 hm; exact .inr (by rw [r]; exact (List.mem_append_left _ (List.mem_append_left _ (List.mem_singleton.2 rfl))))))
   refine ⟨fy, ?_⟩
   refine dO 4 (Zr rfl rfl rfl ?_)
   refine Zq (cs := ics) (parts := [(0, .tmp 18)]) (0 : Int) [T] el22 sz3 zr3 Yx (by decide) rfl rfl rfl (by decide) (by decide) rfl fun gB nx bm fz fU => ?_
   have ny := fU.size
   have E := E.trans fU.of_nil
   obtain ⟨fA, fB, rfl, fC, c6⟩ := bm.opn
   have fD : Ch ([b_c] ++ (bl (.slice Avv (V).length Cvv)) ++ [y]) c5 nx := (fy.trans fU.of_nil)
   refine ⟨fD, ?_⟩
   refine dO 5 (Zr rfl rfl rfl ?_)
   have nz := ((bk.ch0 c3).ch gr (dS J an om)).ch0 fU
   refine Yg (cs := ics) el22 sz3 by3 zr3 rfl (by decide) Zca nz bm.ls rfl rfl bd bd J om fun gC nA bn bp aF gs => ?_
   have nB := gs.size
   have E := E.step gs (fun i hi => .inl (by have Q := J _ hi; omega))
   obtain ⟨ao, ap, rfl, fE, aq⟩ := bn.opn
   have fF : Ch ([b_c] ++ (bl (.slice Avv (V).length Cvv)) ++ [y]) c5 nA := (fD.step gs (fun i hm => by exact .inr (List.mem_append_left _ (List.mem_append_right _ hm))))
   refine ⟨fF, ?_⟩
   refine dV 6 rfl rfl rfl (fun _ => Zd fa36_0 rfl) (dO 7 (Zr rfl rfl rfl ?_))
   have nC := ((lz.ch gr (nS om)).ch0 fU).ch gs (fun hm => by exact af (by first | exact hm | exact r ▸ hm))
   refine Zy (off := 0) nC sz22 rfl rfl rfl rfl fun h5 c7 gt => ?_
   have nD := gt.size
   have E := E.step gt (lS om)
   replace c7 : Blk h5 y 36 [(.slice ao ((V ++ [T])).length ap), (.slice none 0 0)] := c7
   have gD : Ch ([b_c] ++ (bl (.slice Avv (V).length Cvv)) ++ [y]) c5 h5 := (fF.step gt (fun i hm => by have r := List.mem_singleton.1 hm; exact .inr (by rw [r]; exact (List.mem_append_right _ (List.mem_singleton.2 rfl)))))
   refine ⟨gD, ?_⟩
   refine Zw (by kernel_rfl) ?_
   refine Yc (Zb (h3 _ _ (Zc (Za rfl rfl (Zg rfl) (Za rfl rfl (Xe om rfl rfl) (Za rfl rfl (Zf rfl) (Ze ?_)))))))
   have nE := bn.ch gt (fun g hg hm => by have r := List.mem_singleton.1 hm; rcases aF with ea | ea; (rw [ea] at hg; exact af (by first | exact hg | exact r ▸ hg)); (have aj := aq _ hg; rw [ea] at hg; have U := List.mem_singleton.1 hg; omega))
   have fV : Ol ics 3 1 h5 (.slice ao ((V ++ [T])).length ap) ((V ++ [T])) := by
    have hx := nE
    exact hx
   have nF := ((ex.ch0 fU).ch gs (fun i hm => by have Q := J _ hm; have ak := an _ hm; omega)).ch gt (oS om)
   have nG := ((((bj.ch0 c3).ch gr (nS om)).ch0 fU).ch gs (fun hm => by have Q := J _ hm; have ak := an _ hm; omega)).ch gt (nS om)
   exact Zb (Exists.intro ((m - 1), (V ++ [T]), (.slice ao ((V ++ [T])).length ap)) ⟨⟨E, om, (by simp only [List.length_append, List.length_singleton]; omega), (Zfa hV om), nF, nG, fV, (Lo.down bp om), c7, (fun hm => by rcases aF with ea | ea; (rw [ea] at hm; exact af (by first | exact hm | exact r ▸ hm)); (have I := aq _ hm; rw [ea] at hm; have U := List.mem_singleton.1 hm; omega))⟩, sC4 rfl rfl rfl rfl (Sub.nil _), (by first | omega | (dsimp only; omega))⟩)
  refine Zr rfl rfl rfl ?_
  have nH := c4.ch0 c3
  refine Step.call (Zm (xs := [.tmp 17, .const (Go.Value.int Go.IntKind.i64 3)]) fk95 rfl) (Zs nH _ om) fun h4 nI fS => ?_
  obtain ⟨T, rfl, fT, ex, ey⟩ := fS
  have nJ := ey.size
  have E := E.trans ey
  have c2 : Ch ([b_c] ++ (bl (.slice Avv (V).length Cvv)) ++ [y]) c5 nI := ((Ch.refl _ _).step ey (fun i hm => by have r := List.mem_singleton.1 hm; exact .inr (by rw [r]; exact (List.mem_append_left _ (List.mem_append_left _ (List.mem_singleton.2 rfl))))))
  refine ⟨c2, ?_⟩
  refine Xd 1 4 (by kernel_rfl) ?_ ?_
  ·refine Zr rfl rfl rfl ?_
   have lA := (c1.ch0 c3).ch ey (nS om)
   refine s_v (Zp lA.at_ agg22 rfl rfl) ?_
   refine ⟨c2, ?_⟩
   refine dO 4 (Zr rfl rfl rfl ?_)
   refine Zq (cs := ics) (parts := [(0, .tmp 18)]) (0 : Int) [T] el22 sz3 zr3 Yx (by decide) rfl rfl rfl (by decide) (by decide) rfl fun gB nK bm fz fW => ?_
   have nL := fW.size
   have E := E.trans fW.of_nil
   obtain ⟨fA, fB, rfl, fC, c6⟩ := bm.opn
   have fG : Ch ([b_c] ++ (bl (.slice Avv (V).length Cvv)) ++ [y]) c5 nK := (c2.trans fW.of_nil)
   refine ⟨fG, ?_⟩
   refine dO 5 (Zr rfl rfl rfl ?_)
   have nM := ((bk.ch0 c3).ch ey (dS J an om)).ch0 fW
   refine Yg (cs := ics) el22 sz3 by3 zr3 rfl (by decide) Zca nM bm.ls rfl rfl bd bd J om fun gC nN bn bp aF gu => ?_
   have nO := gu.size
   have E := E.step gu (fun i hi => .inl (by have Q := J _ hi; omega))
   obtain ⟨ao, ap, rfl, fE, aq⟩ := bn.opn
   have fH : Ch ([b_c] ++ (bl (.slice Avv (V).length Cvv)) ++ [y]) c5 nN := (fG.step gu (fun i hm => by exact .inr (List.mem_append_left _ (List.mem_append_right _ hm))))
   refine ⟨fH, ?_⟩
   refine dV 6 rfl rfl rfl (fun _ => Zd fa36_0 rfl) (dO 7 (Zr rfl rfl rfl ?_))
   have nP := (lA.ch0 fW).ch gu (fun hm => by exact af (by first | exact hm | exact r ▸ hm))
   refine Zy (off := 0) nP sz22 rfl rfl rfl rfl fun h6 c8 gv => ?_
   have nQ := gv.size
   have E := E.step gv (lS om)
   replace c8 : Blk h6 y 36 [(.slice ao ((V ++ [T])).length ap), (.slice none 0 0)] := c8
   have gE : Ch ([b_c] ++ (bl (.slice Avv (V).length Cvv)) ++ [y]) c5 h6 := (fH.step gv (fun i hm => by have r := List.mem_singleton.1 hm; exact .inr (by rw [r]; exact (List.mem_append_right _ (List.mem_singleton.2 rfl)))))
   refine ⟨gE, ?_⟩
   refine Zw (by kernel_rfl) ?_
   refine Yc (Zb (h3 _ _ (Zc (Za rfl rfl (Zg rfl) (Za rfl rfl (Xe om rfl rfl) (Za rfl rfl (Zf rfl) (Ze ?_)))))))
   have nR := bn.ch gv (fun g hg hm => by have r := List.mem_singleton.1 hm; rcases aF with ea | ea; (rw [ea] at hg; exact af (by first | exact hg | exact r ▸ hg)); (have aj := aq _ hg; rw [ea] at hg; have U := List.mem_singleton.1 hg; omega))
   have fX : Ol ics 3 1 h6 (.slice ao ((V ++ [T])).length ap) ((V ++ [T])) := by
    have hx := nR
    exact hx
   have nT := ((ex.ch0 fW).ch gu (fun i hm => by have Q := J _ hm; have ak := an _ hm; omega)).ch gv (oS om)
   have nU := ((((bj.ch0 c3).ch ey (nS om)).ch0 fW).ch gu (fun hm => by have Q := J _ hm; have ak := an _ hm; omega)).ch gv (nS om)
   exact Zb (Exists.intro ((m - 1), (V ++ [T]), (.slice ao ((V ++ [T])).length ap)) ⟨⟨E, om, (by simp only [List.length_append, List.length_singleton]; omega), (Zfa hV om), nT, nU, fX, (Lo.down bp om), c8, (fun hm => by rcases aF with ea | ea; (rw [ea] at hm; exact af (by first | exact hm | exact r ▸ hm)); (have I := aq _ hm; rw [ea] at hm; have U := List.mem_singleton.1 hm; omega))⟩, sC4 rfl rfl rfl rfl (Sub.nil _), (by first | omega | (dsimp only; omega))⟩)
  refine Zr rfl rfl rfl ?_
  refine Zq (cs := ics) (parts := [(0, .tmp 18)]) (0 : Int) [T] el22 sz3 zr3 Yx (by decide) rfl rfl rfl (by decide) (by decide) rfl fun gB nV bm fz fY => ?_
  have nW := fY.size
  have E := E.trans fY.of_nil
  obtain ⟨fA, fB, rfl, fC, c6⟩ := bm.opn
  have c9 : Ch ([b_c] ++ (bl (.slice Avv (V).length Cvv)) ++ [y]) c5 nV := (c2.trans fY.of_nil)
  refine ⟨c9, ?_⟩
  refine dO 1 (Zr rfl rfl rfl ?_)
  have lB := ((c1.ch0 c3).ch ey (nS om)).ch0 fY
  refine s_v (Zp lB.at_ agg22 rfl rfl) ?_
  refine ⟨c9, ?_⟩
  refine dO 5 (Zr rfl rfl rfl ?_)
  have nX := ((bk.ch0 c3).ch ey (dS J an om)).ch0 fY
  refine Yg (cs := ics) el22 sz3 by3 zr3 rfl (by decide) Zca nX bm.ls rfl rfl bd bd J om fun gC nY bn bp aF gw => ?_
  have nZ := gw.size
  have E := E.step gw (fun i hi => .inl (by have Q := J _ hi; omega))
  obtain ⟨ao, ap, rfl, fE, aq⟩ := bn.opn
  have fI : Ch ([b_c] ++ (bl (.slice Avv (V).length Cvv)) ++ [y]) c5 nY := (c9.step gw (fun i hm => by exact .inr (List.mem_append_left _ (List.mem_append_right _ hm))))
  refine ⟨fI, ?_⟩
  refine dV 6 rfl rfl rfl (fun _ => Zd fa36_0 rfl) (dO 7 (Zr rfl rfl rfl ?_))
  have n0 := lB.ch gw (fun hm => by exact af (by first | exact hm | exact r ▸ hm))
  refine Zy (off := 0) n0 sz22 rfl rfl rfl rfl fun h7 da gx => ?_
  have n1 := gx.size
  have E := E.step gx (lS om)
  replace da : Blk h7 y 36 [(.slice ao ((V ++ [T])).length ap), (.slice none 0 0)] := da
  have gF : Ch ([b_c] ++ (bl (.slice Avv (V).length Cvv)) ++ [y]) c5 h7 := (fI.step gx (fun i hm => by have r := List.mem_singleton.1 hm; exact .inr (by rw [r]; exact (List.mem_append_right _ (List.mem_singleton.2 rfl)))))
  refine ⟨gF, ?_⟩
  refine Zw (by kernel_rfl) ?_
  refine Yc (Zb (h3 _ _ (Zc (Za rfl rfl (Zg rfl) (Za rfl rfl (Xe om rfl rfl) (Za rfl rfl (Zf rfl) (Ze ?_)))))))
  have n2 := bn.ch gx (fun g hg hm => by have r := List.mem_singleton.1 hm; rcases aF with ea | ea; (rw [ea] at hg; exact af (by first | exact hg | exact r ▸ hg)); (have aj := aq _ hg; rw [ea] at hg; have U := List.mem_singleton.1 hg; omega))
  have fZ : Ol ics 3 1 h7 (.slice ao ((V ++ [T])).length ap) ((V ++ [T])) := by
   have hx := n2
   exact hx
  have n3 := ((ex.ch0 fY).ch gw (fun i hm => by have Q := J _ hm; have ak := an _ hm; omega)).ch gx (oS om)
  have n4 := ((((bj.ch0 c3).ch ey (nS om)).ch0 fY).ch gw (fun hm => by have Q := J _ hm; have ak := an _ hm; omega)).ch gx (nS om)
  exact Zb (Exists.intro ((m - 1), (V ++ [T]), (.slice ao ((V ++ [T])).length ap)) ⟨⟨E, om, (by simp only [List.length_append, List.length_singleton]; omega), (Zfa hV om), n3, n4, fZ, (Lo.down bp om), da, (fun hm => by rcases aF with ea | ea; (rw [ea] at hm; exact af (by first | exact hm | exact r ▸ hm)); (have I := aq _ hm; rw [ea] at hm; have U := List.mem_singleton.1 hm; omega))⟩, sC4 rfl rfl rfl rfl (Sub.nil _), (by first | omega | (dsimp only; omega))⟩)
 have h2 := b2
 have b2 := Yu b2
 refine Xx (Yh (Yh (Xg ?_)))
 refine Zb (H7 _ _ ?_)
 refine Zh fun oL n5 => ?_
 refine Zc (Za rfl rfl (Zf rfl) (Ze (Zb (n5 _ _ ?_))))
 refine Zh fun oM n6 => ?_
 refine Zh fun oN n7 => ?_
 refine Zc (Za rfl rfl (Zg rfl) (Za rfl rfl (Zg rfl) (Zl rfl rfl ?_)))
 refine Zq (cs := ics) (parts := [(0, .const (Go.Value.int Go.IntKind.i64 4)), (1, .const (Go.Value.int Go.IntKind.i64 8)), (2, .const (Go.Value.int Go.IntKind.i64 11))]) (0 : Int) [4, 8, 11] el22 sz3 zr3 Yx (by decide) rfl rfl rfl (by decide) (by decide) rfl fun n8 oO gG gH gy => ?_
 have n9 := gy.size
 have E := E.trans gy.of_nil
 obtain ⟨lC, lD, rfl, lE, h8⟩ := gG.opn
 refine Zl rfl rfl ?_
 have oa := c4.ch0 gy
 refine Step.call (Zm (xs := [.tmp 23, .tmp 24]) fk117 rfl) (Zx oa gG (by decide) nq.heap.size om gH) fun ob oP h9 => ?_
 obtain ⟨fJ, rfl, f0, ia, gI⟩ := h9
 have oc := gI.size
 have E := E.trans gI
 have od : 4 ≤ fJ ∧ fJ ≤ 11 := by have aw := f0; simp at aw; omega
 refine Zl rfl rfl ?_
 refine Step.call (Zm (xs := [.tmp 22, .tmp 25]) fk95 rfl) (Zs ia _ om) fun oe gJ ib => ?_
 obtain ⟨gK, rfl, ic, ie, gL⟩ := ib
 have og := gL.size
 have E := E.trans gL
 refine Za rfl rfl (Zf rfl) (Ze (Zb (n7 _ _ ?_)))
 refine Yn ?_
 have oh := ((bk.ch0 gy).ch gI (dS J an om)).ch gL (dS J an om)
 have f1 : Ol ics 3 1 gJ (.slice Avv (V).length Cvv) (V) := by
  have hx := oh
  first | exact hx | simpa using hx
 have f2 : Ol GEdge.cs 129 4 gJ (.slice none 0 0) (([] : List GEdge)) := by
  have hx := Ol.nil (cs := GEdge.cs) (e := 129) (k := 4) gJ
  first | exact hx | simpa using hx
 have oi := ((c1.ch0 gy).ch gI (nS om)).ch gL (nS om)
 have oj := ((bj.ch0 gy).ch gI (nS om)).ch gL (nS om)
 refine Ql (σ := Int × Int × List GEdge × Value × Value) (fun ⟨n, id, es, vw, ev⟩ => [(0, (.pointer (some ⟨b_c, 0, none⟩))), (2, (.pointer (some ⟨gq, 0, none⟩))), (3, (.pointer (some ⟨y, 0, none⟩))), (5, (.int .i64 id)), (6, (.int .i64 n))]) (fun ⟨n, id, es, vw, ev⟩ wx => Ch [b_c] w wx ∧ gJ.heap.size ≤ wx.heap.size ∧ (0 ≤ n ∧ (es.length : Int) + n ≤ 10) ∧ (0 ≤ id ∧ id ≤ 3 * (es.length : Int)) ∧ (Zgc ((V.length : Int) - 1) id es) ∧ Cu wx b_c ∧ Blk wx gq 36 [(.slice none 0 0), (.slice none 0 0)] ∧ Ol ics 3 1 wx vw V ∧ Lo gA.heap.size vw ∧ Ol GEdge.cs 129 4 wx ev es ∧ Lo gJ.heap.size ev ∧ Blk wx y 36 [vw, ev] ∧ (y ∉ bl vw) ∧ (∀ g ∈ bl ev, g ∉ bl vw) ∧ (y ∉ bl ev)) (fun ⟨n, id, es, vw, ev⟩ => n.toNat) (gK, 0, ([] : List GEdge), (.slice Avv (V).length Cvv), (.slice none 0 0)) (sC4 rfl rfl rfl rfl (sC1 rfl (Sub.nil _))) ⟨E, (Nat.le_refl _), ⟨by omega, by simp; omega⟩, ⟨by omega, by simp⟩, (Zmn _ _), ie, oj, f1, J, f2, (Lo.nil _), oi, (fun hm => by exact af (by first | exact hm | exact r ▸ hm)), (fun g hm hg => by cases hm), (fun hm => by cases hm)⟩ ?_
 rintro ⟨n, id, es, vw, ev⟩ oQ ⟨E, ok, hn, hid, hE, fK, R, S, c, H, a, fL, x, o, l⟩
 have ig := E
 have lF := ig.size
 have ih := R.lt
 obtain ⟨Avw, Cvw, rfl, lvw, q⟩ := S.opn
 obtain ⟨Aev, Cev, rfl, lev, hiev⟩ := H.opn
 refine Zh fun oR lG => ?_
 refine Zh fun oT ol => ?_
 refine Zc (Za rfl rfl (Zg rfl) (Za rfl rfl (Zcj rfl rfl) (Ze (Zb (ol _ _ ?_)))))
 refine Zz rfl (fun b3 => ?_) (fun b3 => ?_)
 ·have ii := b3
  have b3 := Yt b3
  refine Yf ?_
  refine Zb (lG _ _ ?_)
  refine Zh fun oU bi => ?_
  refine Yn ?_
  refine Zh fun oV on => ?_
  refine Zc (Za rfl rfl (Zg rfl) (Za rfl rfl (Xc om rfl rfl) (Za rfl rfl (Zg rfl) (Zl rfl rfl ?_))))
  refine Step.call (Zm (xs := [.tmp 33, .const (Go.Value.int Go.IntKind.i64 3)]) fk95 rfl) (Zs fK _ om) fun oo oW ij => ?_
  obtain ⟨d, rfl, ik, db, Y⟩ := ij
  have op := Y.size
  have E := E.trans Y
  refine Za rfl rfl (Xc om rfl rfl) (Za rfl rfl (Zf rfl) (Ze (Zb (on _ _ ?_))))
  have hU := fL.ch Y (nS om)
  refine Zlf ([b_c] ++ (bl (.slice Aev (es).length Cev)) ++ [y]) 21 mixed rfl (hU.at_.cell 0 rfl) fun F P => ?_
  have oq := P.size
  have E := E.trans P.of_nil
  refine dV 0 rfl rfl rfl (fun _ => Zd fa36_1 rfl) (dV 2 rfl rfl rfl (fun _ => Zg rfl) (dV 3 rfl rfl rfl (fun _ => Zg rfl) (dV 4 rfl rfl rfl (fun _ => Zd fa36_0 rfl) ?_)))
  refine dT 5 rfl rfl rfl (Zje agg22 rfl ?_)
  refine dV 6 rfl rfl rfl (fun _ => Yr (by rw [el22]; rfl) rfl) (dV 8 rfl rfl rfl (fun _ => Zg rfl) (dV 9 rfl rfl rfl (fun _ => Zd fa36_0 rfl) ?_))
  refine dT 10 rfl rfl rfl (Zje agg22 rfl ?_)
  refine dV 11 rfl rfl rfl (fun _ => Yr (by rw [el22]; rfl) rfl) (dV 13 rfl rfl rfl (fun _ => Zg rfl) ?_)
  refine Zft 1 7 14 (by kernel_rfl) ?_ ?_ ?_
  ·refine Zr rfl rfl rfl ?_
   have hW := hU.ch0 P
   refine s_v (Zp hW.at_ agg34 rfl rfl) ?_
   refine ⟨⟨(Ch.refl _ _), hW.at_.cell 0 rfl⟩, ?_⟩
   refine Xd 7 14 (by kernel_rfl) ?_ ?_
   ·refine Zr rfl rfl rfl ?_
    have os := db.ch0 P
    refine Step.call (Zm (xs := [.tmp 39, .tmp 42]) fk95 rfl) (Zs os _ om) fun ez lH aN => ?_
    obtain ⟨j, rfl, aO, ay, ew⟩ := aN
    have ot := ew.size
    have E := E.trans ew
    have dc : Ch ([b_c] ++ (bl (.slice Aev (es).length Cev)) ++ [y]) F lH := ((Ch.refl _ _).step ew (fun i hm => by have r := List.mem_singleton.1 hm; exact .inr (by rw [r]; exact (List.mem_append_left _ (List.mem_append_left _ (List.mem_singleton.2 rfl))))))
    have il := hW.ch ew (nS om)
    refine ⟨⟨dc, il.at_.cell 0 rfl⟩, ?_⟩
    refine Xd 12 14 (by kernel_rfl) ?_ ?_
    ·refine Zr rfl rfl rfl ?_
     refine Step.call (Zm (xs := [.tmp 44, .tmp 47]) fk95 rfl) (Zs ay _ om) fun aJ lI ag => ?_
     obtain ⟨f, rfl, ah, ae, f3⟩ := ag
     have ou := f3.size
     have E := E.trans f3
     have fM : Ch ([b_c] ++ (bl (.slice Aev (es).length Cev)) ++ [y]) F lI := (dc.step f3 (fun i hm => by have r := List.mem_singleton.1 hm; exact .inr (by rw [r]; exact (List.mem_append_left _ (List.mem_append_left _ (List.mem_singleton.2 rfl))))))
     have lJ := il.ch f3 (nS om)
     refine ⟨⟨fM, lJ.at_.cell 0 rfl⟩, ?_⟩
     refine dO 14 (Zr rfl rfl rfl ?_)
     refine Zq (cs := ics) (parts := [(0, .const (Go.Value.int Go.IntKind.i64 0)), (1, .const (Go.Value.int Go.IntKind.i64 0)), (2, .const (Go.Value.int Go.IntKind.i64 1)), (3, .const (Go.Value.int Go.IntKind.i64 2))]) (0 : Int) [0, 0, 1, 2] el22 sz3 zr3 Yx (by decide) rfl rfl rfl (by decide) (by decide) rfl fun bq ov M A fN => ?_
     have ox := fN.size
     have E := E.trans fN.of_nil
     obtain ⟨aG, aH, rfl, aI, G⟩ := M.opn
     have fO : Ch ([b_c] ++ (bl (.slice Aev (es).length Cev)) ++ [y]) F ov := (fM.trans fN.of_nil)
     have gM := lJ.ch0 fN
     refine ⟨⟨fO, gM.at_.cell 0 rfl⟩, ?_⟩
     refine dO 15 (Zr rfl rfl rfl ?_)
     have im := ae.ch0 fN
     refine Step.call (Zm (xs := [.tmp 49, .tmp 50]) fk117 rfl) (Zx im M (by decide) lI.heap.size om A) fun aC io X => ?_
     obtain ⟨b, rfl, z, O, b4⟩ := X
     have lK := b4.size
     have E := E.trans b4
     have aD : 0 ≤ b ∧ b ≤ 2 := by have aw := z; simp at aw; omega
     have dd : Ch ([b_c] ++ (bl (.slice Aev (es).length Cev)) ++ [y]) F io := (fO.step b4 (fun i hm => by have r := List.mem_singleton.1 hm; exact .inr (by rw [r]; exact (List.mem_append_left _ (List.mem_append_left _ (List.mem_singleton.2 rfl))))))
     have gN := gM.ch b4 (nS om)
     refine ⟨⟨dd, gN.at_.cell 0 rfl⟩, ?_⟩
     refine dV 16 rfl rfl rfl (fun _ => Ys (parts := [(0, .tmp 38), (1, .tmp 43), (2, .tmp 48), (3, .tmp 51)]) (cells := [(.int .i64 ((id + 1) + d)), (.int .i64 j), (.int .i64 f), (.int .i64 b)]) zr129 pl129 rfl rfl) (dO 17 (Zr rfl rfl rfl ?_))
     refine Zq (cs := GEdge.cs) (parts := [(0, .tmp 52)]) (⟨0, 0, 0, 0⟩ : GEdge) [(⟨((id + 1) + d), j, f, b⟩ : GEdge)] el34 sz129 zr129 GEdge.len (by decide) rfl rfl rfl (by decide) (by decide) rfl fun au ip B Z br => ?_
     have lL := br.size
     have E := E.trans br.of_nil
     obtain ⟨aa, ab, rfl, ac, K⟩ := B.opn
     have de : Ch ([b_c] ++ (bl (.slice Aev (es).length Cev)) ++ [y]) F ip := (dd.trans br.of_nil)
     have gO := gN.ch0 br
     refine ⟨⟨de, gO.at_.cell 0 rfl⟩, ?_⟩
     refine dO 18 (Zr rfl rfl rfl ?_)
     have iq := ((((((H.ch Y (dS a hiev om)).ch0 P).ch ew (dS a hiev om)).ch f3 (dS a hiev om)).ch0 fN).ch b4 (dS a hiev om)).ch0 br
     refine Yg (cs := GEdge.cs) el34 sz129 by129 zr129 rfl (by decide) GEdge.one iq B.ls rfl rfl bd bd a om fun av ir C D s b5 => ?_
     have lM := b5.size
     have E := E.step b5 (fun i hi => .inl (by have Q := a _ hi; omega))
     obtain ⟨t, u, rfl, ad, p⟩ := C.opn
     have df : Ch ([b_c] ++ (bl (.slice Aev (es).length Cev)) ++ [y]) F ir := (de.step b5 (fun i hm => by exact .inr (List.mem_append_left _ (List.mem_append_right _ hm))))
     have gP := gO.ch b5 (fun hm => by exact l (by first | exact hm | exact r ▸ hm))
     refine ⟨⟨df, gP.at_.cell 0 rfl⟩, ?_⟩
     refine dV 19 rfl rfl rfl (fun _ => Zd fa36_1 rfl) (dO 20 (Zr rfl rfl rfl ?_))
     refine Zy (off := 1) gP sz34 rfl rfl rfl rfl fun eA aP b6 => ?_
     have lN := b6.size
     have E := E.step b6 (lS om)
     replace aP : Blk eA y 36 [(.slice Avw (V).length Cvw), (.slice t ((es ++ [(⟨((id + 1) + d), j, f, b⟩ : GEdge)])).length u)] := aP
     have f4 : Ch ([b_c] ++ (bl (.slice Aev (es).length Cev)) ++ [y]) F eA := (df.step b6 (fun i hm => by have r := List.mem_singleton.1 hm; exact .inr (by rw [r]; exact (List.mem_append_right _ (List.mem_singleton.2 rfl)))))
     refine ⟨⟨f4, aP.at_.cell 0 rfl⟩, ?_⟩
     refine Zw (by kernel_rfl) ?_
     refine Yc (Zb (bi _ _ (Zc (Za rfl rfl (Zg rfl) (Za rfl rfl (Xe om rfl rfl) (Za rfl rfl (Zf rfl) (Ze ?_)))))))
     have it := ((((((((S.ch Y (dS c q om)).ch0 P).ch ew (dS c q om)).ch f3 (dS c q om)).ch0 fN).ch b4 (dS c q om)).ch0 br).ch b5 (fun g hg hm => by exact o _ hm hg)).ch b6 (fun g hg hm => by have r := List.mem_singleton.1 hm; exact x (by first | exact hg | exact r ▸ hg))
     have eB : Ol ics 3 1 eA (.slice Avw (V).length Cvw) (V) := by
      have hx := it
      exact hx
     have iu := C.ch b6 (fun g hg hm => by have r := List.mem_singleton.1 hm; rcases s with ea | ea; (rw [ea] at hg; exact l (by first | exact hg | exact r ▸ hg)); (have aj := p _ hg; rw [ea] at hg; have U := List.mem_singleton.1 hg; omega))
     have eC : Ol GEdge.cs 129 4 eA (.slice t ((es ++ [(⟨((id + 1) + d), j, f, b⟩ : GEdge)])).length u) ((es ++ [(⟨((id + 1) + d), j, f, b⟩ : GEdge)])) := by
      have hx := iu
      exact hx
     have iv := ((O.ch0 br).ch b5 (fun i hm => by have Q := a _ hm; have ak := hiev _ hm; omega)).ch b6 (oS om)
     have iw := ((((((((R.ch Y (nS om)).ch0 P).ch ew (nS om)).ch f3 (nS om)).ch0 fN).ch b4 (nS om)).ch0 br).ch b5 (fun hm => by have Q := a _ hm; have ak := hiev _ hm; omega)).ch b6 (nS om)
     exact Zb (Exists.intro ((n - 1), ((id + 1) + d), (es ++ [(⟨((id + 1) + d), j, f, b⟩ : GEdge)]), (.slice Avw (V).length Cvw), (.slice t ((es ++ [(⟨((id + 1) + d), j, f, b⟩ : GEdge)])).length u)) ⟨⟨E, om, (by simp only [List.length_append, List.length_singleton]; omega), (by simp only [List.length_append, List.length_singleton]; omega), (Zah hE ⟨by dsimp only; omega, by dsimp only; omega, by dsimp only; omega, by dsimp only; omega⟩ (by dsimp only; omega)), iv, iw, eB, (Lo.down c om), eC, (Lo.down D om), aP, (fun hm => by exact x (by first | exact hm | exact r ▸ hm)), (fun g hm hg => by rcases s with ea | ea; (rw [ea] at hm; exact o _ hm hg); (have I := p _ hm; rw [ea] at hm; have U := List.mem_singleton.1 hm; have bs := c _ hg; have bu := q _ hg; omega)), (fun hm => by rcases s with ea | ea; (rw [ea] at hm; exact l (by first | exact hm | exact r ▸ hm)); (have I := p _ hm; rw [ea] at hm; have U := List.mem_singleton.1 hm; omega))⟩, sC4 rfl rfl rfl rfl (sC1 rfl (Sub.nil _)), (by first | omega | (dsimp only; omega))⟩)
    refine Zr rfl rfl rfl ?_
    refine Zq (cs := ics) (parts := [(0, .const (Go.Value.int Go.IntKind.i64 0)), (1, .const (Go.Value.int Go.IntKind.i64 0)), (2, .const (Go.Value.int Go.IntKind.i64 1)), (3, .const (Go.Value.int Go.IntKind.i64 2))]) (0 : Int) [0, 0, 1, 2] el22 sz3 zr3 Yx (by decide) rfl rfl rfl (by decide) (by decide) rfl fun bq ix M A bv => ?_
    have lO := bv.size
    have E := E.trans bv.of_nil
    obtain ⟨aG, aH, rfl, aI, G⟩ := M.opn
    have dg : Ch ([b_c] ++ (bl (.slice Aev (es).length Cev)) ++ [y]) F ix := (dc.trans bv.of_nil)
    have gQ := il.ch0 bv
    refine ⟨⟨dg, gQ.at_.cell 0 rfl⟩, ?_⟩
    refine dO 12 (Zr rfl rfl rfl ?_)
    have iy := ay.ch0 bv
    refine Step.call (Zm (xs := [.tmp 44, .tmp 47]) fk95 rfl) (Zs iy _ om) fun aJ iz ag => ?_
    obtain ⟨f, rfl, ah, ae, bw⟩ := ag
    have lP := bw.size
    have E := E.trans bw
    have dh : Ch ([b_c] ++ (bl (.slice Aev (es).length Cev)) ++ [y]) F iz := (dg.step bw (fun i hm => by have r := List.mem_singleton.1 hm; exact .inr (by rw [r]; exact (List.mem_append_left _ (List.mem_append_left _ (List.mem_singleton.2 rfl))))))
    have gR := gQ.ch bw (nS om)
    refine ⟨⟨dh, gR.at_.cell 0 rfl⟩, ?_⟩
    refine dO 15 (Zr rfl rfl rfl ?_)
    have iA := M.ch bw (dS A G om)
    refine Step.call (Zm (xs := [.tmp 49, .tmp 50]) fk117 rfl) (Zx ae iA (by decide) lH.heap.size om A) fun aC iB X => ?_
    obtain ⟨b, rfl, z, O, b7⟩ := X
    have lQ := b7.size
    have E := E.trans b7
    have aD : 0 ≤ b ∧ b ≤ 2 := by have aw := z; simp at aw; omega
    have di : Ch ([b_c] ++ (bl (.slice Aev (es).length Cev)) ++ [y]) F iB := (dh.step b7 (fun i hm => by have r := List.mem_singleton.1 hm; exact .inr (by rw [r]; exact (List.mem_append_left _ (List.mem_append_left _ (List.mem_singleton.2 rfl))))))
    have gS := gR.ch b7 (nS om)
    refine ⟨⟨di, gS.at_.cell 0 rfl⟩, ?_⟩
    refine dV 16 rfl rfl rfl (fun _ => Ys (parts := [(0, .tmp 38), (1, .tmp 43), (2, .tmp 48), (3, .tmp 51)]) (cells := [(.int .i64 ((id + 1) + d)), (.int .i64 j), (.int .i64 f), (.int .i64 b)]) zr129 pl129 rfl rfl) (dO 17 (Zr rfl rfl rfl ?_))
    refine Zq (cs := GEdge.cs) (parts := [(0, .tmp 52)]) (⟨0, 0, 0, 0⟩ : GEdge) [(⟨((id + 1) + d), j, f, b⟩ : GEdge)] el34 sz129 zr129 GEdge.len (by decide) rfl rfl rfl (by decide) (by decide) rfl fun au iC B Z bz => ?_
    have lR := bz.size
    have E := E.trans bz.of_nil
    obtain ⟨aa, ab, rfl, ac, K⟩ := B.opn
    have dj : Ch ([b_c] ++ (bl (.slice Aev (es).length Cev)) ++ [y]) F iC := (di.trans bz.of_nil)
    have gT := gS.ch0 bz
    refine ⟨⟨dj, gT.at_.cell 0 rfl⟩, ?_⟩
    refine dO 18 (Zr rfl rfl rfl ?_)
    have iD := ((((((H.ch Y (dS a hiev om)).ch0 P).ch ew (dS a hiev om)).ch0 bv).ch bw (dS a hiev om)).ch b7 (dS a hiev om)).ch0 bz
    refine Yg (cs := GEdge.cs) el34 sz129 by129 zr129 rfl (by decide) GEdge.one iD B.ls rfl rfl bd bd a om fun av iE C D s b8 => ?_
    have lT := b8.size
    have E := E.step b8 (fun i hi => .inl (by have Q := a _ hi; omega))
    obtain ⟨t, u, rfl, ad, p⟩ := C.opn
    have dk : Ch ([b_c] ++ (bl (.slice Aev (es).length Cev)) ++ [y]) F iE := (dj.step b8 (fun i hm => by exact .inr (List.mem_append_left _ (List.mem_append_right _ hm))))
    have gU := gT.ch b8 (fun hm => by exact l (by first | exact hm | exact r ▸ hm))
    refine ⟨⟨dk, gU.at_.cell 0 rfl⟩, ?_⟩
    refine dV 19 rfl rfl rfl (fun _ => Zd fa36_1 rfl) (dO 20 (Zr rfl rfl rfl ?_))
    refine Zy (off := 1) gU sz34 rfl rfl rfl rfl fun eD aQ b9 => ?_
    have lU := b9.size
    have E := E.step b9 (lS om)
    replace aQ : Blk eD y 36 [(.slice Avw (V).length Cvw), (.slice t ((es ++ [(⟨((id + 1) + d), j, f, b⟩ : GEdge)])).length u)] := aQ
    have f5 : Ch ([b_c] ++ (bl (.slice Aev (es).length Cev)) ++ [y]) F eD := (dk.step b9 (fun i hm => by have r := List.mem_singleton.1 hm; exact .inr (by rw [r]; exact (List.mem_append_right _ (List.mem_singleton.2 rfl)))))
    refine ⟨⟨f5, aQ.at_.cell 0 rfl⟩, ?_⟩
    refine Zw (by kernel_rfl) ?_
    refine Yc (Zb (bi _ _ (Zc (Za rfl rfl (Zg rfl) (Za rfl rfl (Xe om rfl rfl) (Za rfl rfl (Zf rfl) (Ze ?_)))))))
    have iF := ((((((((S.ch Y (dS c q om)).ch0 P).ch ew (dS c q om)).ch0 bv).ch bw (dS c q om)).ch b7 (dS c q om)).ch0 bz).ch b8 (fun g hg hm => by exact o _ hm hg)).ch b9 (fun g hg hm => by have r := List.mem_singleton.1 hm; exact x (by first | exact hg | exact r ▸ hg))
    have eE : Ol ics 3 1 eD (.slice Avw (V).length Cvw) (V) := by
     have hx := iF
     exact hx
    have iG := C.ch b9 (fun g hg hm => by have r := List.mem_singleton.1 hm; rcases s with ea | ea; (rw [ea] at hg; exact l (by first | exact hg | exact r ▸ hg)); (have aj := p _ hg; rw [ea] at hg; have U := List.mem_singleton.1 hg; omega))
    have eF : Ol GEdge.cs 129 4 eD (.slice t ((es ++ [(⟨((id + 1) + d), j, f, b⟩ : GEdge)])).length u) ((es ++ [(⟨((id + 1) + d), j, f, b⟩ : GEdge)])) := by
     have hx := iG
     exact hx
    have iH := ((O.ch0 bz).ch b8 (fun i hm => by have Q := a _ hm; have ak := hiev _ hm; omega)).ch b9 (oS om)
    have iI := ((((((((R.ch Y (nS om)).ch0 P).ch ew (nS om)).ch0 bv).ch bw (nS om)).ch b7 (nS om)).ch0 bz).ch b8 (fun hm => by have Q := a _ hm; have ak := hiev _ hm; omega)).ch b9 (nS om)
    exact Zb (Exists.intro ((n - 1), ((id + 1) + d), (es ++ [(⟨((id + 1) + d), j, f, b⟩ : GEdge)]), (.slice Avw (V).length Cvw), (.slice t ((es ++ [(⟨((id + 1) + d), j, f, b⟩ : GEdge)])).length u)) ⟨⟨E, om, (by simp only [List.length_append, List.length_singleton]; omega), (by simp only [List.length_append, List.length_singleton]; omega), (Zah hE ⟨by dsimp only; omega, by dsimp only; omega, by dsimp only; omega, by dsimp only; omega⟩ (by dsimp only; omega)), iH, iI, eE, (Lo.down c om), eF, (Lo.down D om), aQ, (fun hm => by exact x (by first | exact hm | exact r ▸ hm)), (fun g hm hg => by rcases s with ea | ea; (rw [ea] at hm; exact o _ hm hg); (have I := p _ hm; rw [ea] at hm; have U := List.mem_singleton.1 hm; have bs := c _ hg; have bu := q _ hg; omega)), (fun hm => by rcases s with ea | ea; (rw [ea] at hm; exact l (by first | exact hm | exact r ▸ hm)); (have I := p _ hm; rw [ea] at hm; have U := List.mem_singleton.1 hm; omega))⟩, sC4 rfl rfl rfl rfl (sC1 rfl (Sub.nil _)), (by first | omega | (dsimp only; omega))⟩)
   refine Zr rfl rfl rfl ?_
   refine Zq (cs := ics) (parts := [(0, .const (Go.Value.int Go.IntKind.i64 0)), (1, .const (Go.Value.int Go.IntKind.i64 0)), (2, .const (Go.Value.int Go.IntKind.i64 1)), (3, .const (Go.Value.int Go.IntKind.i64 2))]) (0 : Int) [0, 0, 1, 2] el22 sz3 zr3 Yx (by decide) rfl rfl rfl (by decide) (by decide) rfl fun bq iJ M A bA => ?_
   have lV := bA.size
   have E := E.trans bA.of_nil
   obtain ⟨aG, aH, rfl, aI, G⟩ := M.opn
   have dl : Ch ([b_c] ++ (bl (.slice Aev (es).length Cev)) ++ [y]) F iJ := ((Ch.refl _ _).trans bA.of_nil)
   have gV := hW.ch0 bA
   refine ⟨⟨dl, gV.at_.cell 0 rfl⟩, ?_⟩
   refine dO 7 (Zr rfl rfl rfl ?_)
   have iK := (db.ch0 P).ch0 bA
   refine Step.call (Zm (xs := [.tmp 39, .tmp 42]) fk95 rfl) (Zs iK _ om) fun ez iL aN => ?_
   obtain ⟨j, rfl, aO, ay, bB⟩ := aN
   have lW := bB.size
   have E := E.trans bB
   have dm : Ch ([b_c] ++ (bl (.slice Aev (es).length Cev)) ++ [y]) F iL := (dl.step bB (fun i hm => by have r := List.mem_singleton.1 hm; exact .inr (by rw [r]; exact (List.mem_append_left _ (List.mem_append_left _ (List.mem_singleton.2 rfl))))))
   have gW := gV.ch bB (nS om)
   refine ⟨⟨dm, gW.at_.cell 0 rfl⟩, ?_⟩
   refine dO 12 (Zr rfl rfl rfl ?_)
   refine Step.call (Zm (xs := [.tmp 44, .tmp 47]) fk95 rfl) (Zs ay _ om) fun aJ iM ag => ?_
   obtain ⟨f, rfl, ah, ae, bC⟩ := ag
   have lX := bC.size
   have E := E.trans bC
   have dn : Ch ([b_c] ++ (bl (.slice Aev (es).length Cev)) ++ [y]) F iM := (dm.step bC (fun i hm => by have r := List.mem_singleton.1 hm; exact .inr (by rw [r]; exact (List.mem_append_left _ (List.mem_append_left _ (List.mem_singleton.2 rfl))))))
   have gX := gW.ch bC (nS om)
   refine ⟨⟨dn, gX.at_.cell 0 rfl⟩, ?_⟩
   refine dO 15 (Zr rfl rfl rfl ?_)
   have iN := (M.ch bB (dS A G om)).ch bC (dS A G om)
   refine Step.call (Zm (xs := [.tmp 49, .tmp 50]) fk117 rfl) (Zx ae iN (by decide) F.heap.size om A) fun aC iO X => ?_
   obtain ⟨b, rfl, z, O, ca⟩ := X
   have lY := ca.size
   have E := E.trans ca
   have aD : 0 ≤ b ∧ b ≤ 2 := by have aw := z; simp at aw; omega
   have dp : Ch ([b_c] ++ (bl (.slice Aev (es).length Cev)) ++ [y]) F iO := (dn.step ca (fun i hm => by have r := List.mem_singleton.1 hm; exact .inr (by rw [r]; exact (List.mem_append_left _ (List.mem_append_left _ (List.mem_singleton.2 rfl))))))
   have gY := gX.ch ca (nS om)
   refine ⟨⟨dp, gY.at_.cell 0 rfl⟩, ?_⟩
   refine dV 16 rfl rfl rfl (fun _ => Ys (parts := [(0, .tmp 38), (1, .tmp 43), (2, .tmp 48), (3, .tmp 51)]) (cells := [(.int .i64 ((id + 1) + d)), (.int .i64 j), (.int .i64 f), (.int .i64 b)]) zr129 pl129 rfl rfl) (dO 17 (Zr rfl rfl rfl ?_))
   refine Zq (cs := GEdge.cs) (parts := [(0, .tmp 52)]) (⟨0, 0, 0, 0⟩ : GEdge) [(⟨((id + 1) + d), j, f, b⟩ : GEdge)] el34 sz129 zr129 GEdge.len (by decide) rfl rfl rfl (by decide) (by decide) rfl fun au iP B Z bD => ?_
   have lZ := bD.size
   have E := E.trans bD.of_nil
   obtain ⟨aa, ab, rfl, ac, K⟩ := B.opn
   have dq : Ch ([b_c] ++ (bl (.slice Aev (es).length Cev)) ++ [y]) F iP := (dp.trans bD.of_nil)
   have gZ := gY.ch0 bD
   refine ⟨⟨dq, gZ.at_.cell 0 rfl⟩, ?_⟩
   refine dO 18 (Zr rfl rfl rfl ?_)
   have iQ := ((((((H.ch Y (dS a hiev om)).ch0 P).ch0 bA).ch bB (dS a hiev om)).ch bC (dS a hiev om)).ch ca (dS a hiev om)).ch0 bD
   refine Yg (cs := GEdge.cs) el34 sz129 by129 zr129 rfl (by decide) GEdge.one iQ B.ls rfl rfl bd bd a om fun av iR C D s cb => ?_
   have l0 := cb.size
   have E := E.step cb (fun i hi => .inl (by have Q := a _ hi; omega))
   obtain ⟨t, u, rfl, ad, p⟩ := C.opn
   have dr : Ch ([b_c] ++ (bl (.slice Aev (es).length Cev)) ++ [y]) F iR := (dq.step cb (fun i hm => by exact .inr (List.mem_append_left _ (List.mem_append_right _ hm))))
   have g0 := gZ.ch cb (fun hm => by exact l (by first | exact hm | exact r ▸ hm))
   refine ⟨⟨dr, g0.at_.cell 0 rfl⟩, ?_⟩
   refine dV 19 rfl rfl rfl (fun _ => Zd fa36_1 rfl) (dO 20 (Zr rfl rfl rfl ?_))
   refine Zy (off := 1) g0 sz34 rfl rfl rfl rfl fun eG aR cc => ?_
   have l1 := cc.size
   have E := E.step cc (lS om)
   replace aR : Blk eG y 36 [(.slice Avw (V).length Cvw), (.slice t ((es ++ [(⟨((id + 1) + d), j, f, b⟩ : GEdge)])).length u)] := aR
   have f6 : Ch ([b_c] ++ (bl (.slice Aev (es).length Cev)) ++ [y]) F eG := (dr.step cc (fun i hm => by have r := List.mem_singleton.1 hm; exact .inr (by rw [r]; exact (List.mem_append_right _ (List.mem_singleton.2 rfl)))))
   refine ⟨⟨f6, aR.at_.cell 0 rfl⟩, ?_⟩
   refine Zw (by kernel_rfl) ?_
   refine Yc (Zb (bi _ _ (Zc (Za rfl rfl (Zg rfl) (Za rfl rfl (Xe om rfl rfl) (Za rfl rfl (Zf rfl) (Ze ?_)))))))
   have iS := ((((((((S.ch Y (dS c q om)).ch0 P).ch0 bA).ch bB (dS c q om)).ch bC (dS c q om)).ch ca (dS c q om)).ch0 bD).ch cb (fun g hg hm => by exact o _ hm hg)).ch cc (fun g hg hm => by have r := List.mem_singleton.1 hm; exact x (by first | exact hg | exact r ▸ hg))
   have eH : Ol ics 3 1 eG (.slice Avw (V).length Cvw) (V) := by
    have hx := iS
    exact hx
   have iT := C.ch cc (fun g hg hm => by have r := List.mem_singleton.1 hm; rcases s with ea | ea; (rw [ea] at hg; exact l (by first | exact hg | exact r ▸ hg)); (have aj := p _ hg; rw [ea] at hg; have U := List.mem_singleton.1 hg; omega))
   have eI : Ol GEdge.cs 129 4 eG (.slice t ((es ++ [(⟨((id + 1) + d), j, f, b⟩ : GEdge)])).length u) ((es ++ [(⟨((id + 1) + d), j, f, b⟩ : GEdge)])) := by
    have hx := iT
    exact hx
   have iU := ((O.ch0 bD).ch cb (fun i hm => by have Q := a _ hm; have ak := hiev _ hm; omega)).ch cc (oS om)
   have iV := ((((((((R.ch Y (nS om)).ch0 P).ch0 bA).ch bB (nS om)).ch bC (nS om)).ch ca (nS om)).ch0 bD).ch cb (fun hm => by have Q := a _ hm; have ak := hiev _ hm; omega)).ch cc (nS om)
   exact Zb (Exists.intro ((n - 1), ((id + 1) + d), (es ++ [(⟨((id + 1) + d), j, f, b⟩ : GEdge)]), (.slice Avw (V).length Cvw), (.slice t ((es ++ [(⟨((id + 1) + d), j, f, b⟩ : GEdge)])).length u)) ⟨⟨E, om, (by simp only [List.length_append, List.length_singleton]; omega), (by simp only [List.length_append, List.length_singleton]; omega), (Zah hE ⟨by dsimp only; omega, by dsimp only; omega, by dsimp only; omega, by dsimp only; omega⟩ (by dsimp only; omega)), iU, iV, eH, (Lo.down c om), eI, (Lo.down D om), aR, (fun hm => by exact x (by first | exact hm | exact r ▸ hm)), (fun g hm hg => by rcases s with ea | ea; (rw [ea] at hm; exact o _ hm hg); (have I := p _ hm; rw [ea] at hm; have U := List.mem_singleton.1 hm; have bs := c _ hg; have bu := q _ hg; omega)), (fun hm => by rcases s with ea | ea; (rw [ea] at hm; exact l (by first | exact hm | exact r ▸ hm)); (have I := p _ hm; rw [ea] at hm; have U := List.mem_singleton.1 hm; omega))⟩, sC4 rfl rfl rfl rfl (sC1 rfl (Sub.nil _)), (by first | omega | (dsimp only; omega))⟩)
  ·refine Zr rfl rfl rfl ?_
   have iW := db.ch0 P
   refine Step.call (Zm (xs := [.tmp 39, .tmp 42]) fk95 rfl) (Zs iW _ om) fun ez ds aN => ?_
   obtain ⟨j, rfl, aO, ay, L⟩ := aN
   have l2 := L.size
   have E := E.trans L
   have aE : Ch ([b_c] ++ (bl (.slice Aev (es).length Cev)) ++ [y]) F ds := ((Ch.refl _ _).step L (fun i hm => by have r := List.mem_singleton.1 hm; exact .inr (by rw [r]; exact (List.mem_append_left _ (List.mem_append_left _ (List.mem_singleton.2 rfl))))))
   have cd := (hU.ch0 P).ch L (nS om)
   refine ⟨⟨aE, cd.at_.cell 0 rfl⟩, ?_⟩
   refine Zft 1 12 14 (by kernel_rfl) ?_ ?_ ?_
   ·refine Zr rfl rfl rfl ?_
    refine s_v (Zp cd.at_ agg34 rfl rfl) ?_
    refine ⟨⟨aE, cd.at_.cell 0 rfl⟩, ?_⟩
    refine Xd 12 14 (by kernel_rfl) ?_ ?_
    ·refine Zr rfl rfl rfl ?_
     refine Step.call (Zm (xs := [.tmp 44, .tmp 47]) fk95 rfl) (Zs ay _ om) fun aJ g1 ag => ?_
     obtain ⟨f, rfl, ah, ae, ce⟩ := ag
     have l3 := ce.size
     have E := E.trans ce
     have dt : Ch ([b_c] ++ (bl (.slice Aev (es).length Cev)) ++ [y]) F g1 := (aE.step ce (fun i hm => by have r := List.mem_singleton.1 hm; exact .inr (by rw [r]; exact (List.mem_append_left _ (List.mem_append_left _ (List.mem_singleton.2 rfl))))))
     have g2 := cd.ch ce (nS om)
     refine ⟨⟨dt, g2.at_.cell 0 rfl⟩, ?_⟩
     refine dO 14 (Zr rfl rfl rfl ?_)
     refine Zq (cs := ics) (parts := [(0, .const (Go.Value.int Go.IntKind.i64 0)), (1, .const (Go.Value.int Go.IntKind.i64 0)), (2, .const (Go.Value.int Go.IntKind.i64 1)), (3, .const (Go.Value.int Go.IntKind.i64 2))]) (0 : Int) [0, 0, 1, 2] el22 sz3 zr3 Yx (by decide) rfl rfl rfl (by decide) (by decide) rfl fun bq iX M A bF => ?_
     have l4 := bF.size
     have E := E.trans bF.of_nil
     obtain ⟨aG, aH, rfl, aI, G⟩ := M.opn
     have du : Ch ([b_c] ++ (bl (.slice Aev (es).length Cev)) ++ [y]) F iX := (dt.trans bF.of_nil)
     have g3 := g2.ch0 bF
     refine ⟨⟨du, g3.at_.cell 0 rfl⟩, ?_⟩
     refine dO 15 (Zr rfl rfl rfl ?_)
     have iY := ae.ch0 bF
     refine Step.call (Zm (xs := [.tmp 49, .tmp 50]) fk117 rfl) (Zx iY M (by decide) g1.heap.size om A) fun aC iZ X => ?_
     obtain ⟨b, rfl, z, O, cf⟩ := X
     have l5 := cf.size
     have E := E.trans cf
     have aD : 0 ≤ b ∧ b ≤ 2 := by have aw := z; simp at aw; omega
     have dv : Ch ([b_c] ++ (bl (.slice Aev (es).length Cev)) ++ [y]) F iZ := (du.step cf (fun i hm => by have r := List.mem_singleton.1 hm; exact .inr (by rw [r]; exact (List.mem_append_left _ (List.mem_append_left _ (List.mem_singleton.2 rfl))))))
     have g4 := g3.ch cf (nS om)
     refine ⟨⟨dv, g4.at_.cell 0 rfl⟩, ?_⟩
     refine dV 16 rfl rfl rfl (fun _ => Ys (parts := [(0, .tmp 38), (1, .tmp 43), (2, .tmp 48), (3, .tmp 51)]) (cells := [(.int .i64 ((id + 1) + d)), (.int .i64 j), (.int .i64 f), (.int .i64 b)]) zr129 pl129 rfl rfl) (dO 17 (Zr rfl rfl rfl ?_))
     refine Zq (cs := GEdge.cs) (parts := [(0, .tmp 52)]) (⟨0, 0, 0, 0⟩ : GEdge) [(⟨((id + 1) + d), j, f, b⟩ : GEdge)] el34 sz129 zr129 GEdge.len (by decide) rfl rfl rfl (by decide) (by decide) rfl fun au i0 B Z bG => ?_
     have l6 := bG.size
     have E := E.trans bG.of_nil
     obtain ⟨aa, ab, rfl, ac, K⟩ := B.opn
     have dw : Ch ([b_c] ++ (bl (.slice Aev (es).length Cev)) ++ [y]) F i0 := (dv.trans bG.of_nil)
     have g5 := g4.ch0 bG
     refine ⟨⟨dw, g5.at_.cell 0 rfl⟩, ?_⟩
     refine dO 18 (Zr rfl rfl rfl ?_)
     have i1 := ((((((H.ch Y (dS a hiev om)).ch0 P).ch L (dS a hiev om)).ch ce (dS a hiev om)).ch0 bF).ch cf (dS a hiev om)).ch0 bG
     refine Yg (cs := GEdge.cs) el34 sz129 by129 zr129 rfl (by decide) GEdge.one i1 B.ls rfl rfl bd bd a om fun av i2 C D s cg => ?_
     have l7 := cg.size
     have E := E.step cg (fun i hi => .inl (by have Q := a _ hi; omega))
     obtain ⟨t, u, rfl, ad, p⟩ := C.opn
     have dx : Ch ([b_c] ++ (bl (.slice Aev (es).length Cev)) ++ [y]) F i2 := (dw.step cg (fun i hm => by exact .inr (List.mem_append_left _ (List.mem_append_right _ hm))))
     have g6 := g5.ch cg (fun hm => by exact l (by first | exact hm | exact r ▸ hm))
     refine ⟨⟨dx, g6.at_.cell 0 rfl⟩, ?_⟩
     refine dV 19 rfl rfl rfl (fun _ => Zd fa36_1 rfl) (dO 20 (Zr rfl rfl rfl ?_))
     refine Zy (off := 1) g6 sz34 rfl rfl rfl rfl fun eJ aS ci => ?_
     have l8 := ci.size
     have E := E.step ci (lS om)
     replace aS : Blk eJ y 36 [(.slice Avw (V).length Cvw), (.slice t ((es ++ [(⟨((id + 1) + d), j, f, b⟩ : GEdge)])).length u)] := aS
     have f7 : Ch ([b_c] ++ (bl (.slice Aev (es).length Cev)) ++ [y]) F eJ := (dx.step ci (fun i hm => by have r := List.mem_singleton.1 hm; exact .inr (by rw [r]; exact (List.mem_append_right _ (List.mem_singleton.2 rfl)))))
     refine ⟨⟨f7, aS.at_.cell 0 rfl⟩, ?_⟩
     refine Zw (by kernel_rfl) ?_
     refine Yc (Zb (bi _ _ (Zc (Za rfl rfl (Zg rfl) (Za rfl rfl (Xe om rfl rfl) (Za rfl rfl (Zf rfl) (Ze ?_)))))))
     have i3 := ((((((((S.ch Y (dS c q om)).ch0 P).ch L (dS c q om)).ch ce (dS c q om)).ch0 bF).ch cf (dS c q om)).ch0 bG).ch cg (fun g hg hm => by exact o _ hm hg)).ch ci (fun g hg hm => by have r := List.mem_singleton.1 hm; exact x (by first | exact hg | exact r ▸ hg))
     have eK : Ol ics 3 1 eJ (.slice Avw (V).length Cvw) (V) := by
      have hx := i3
      exact hx
     have i4 := C.ch ci (fun g hg hm => by have r := List.mem_singleton.1 hm; rcases s with ea | ea; (rw [ea] at hg; exact l (by first | exact hg | exact r ▸ hg)); (have aj := p _ hg; rw [ea] at hg; have U := List.mem_singleton.1 hg; omega))
     have eL : Ol GEdge.cs 129 4 eJ (.slice t ((es ++ [(⟨((id + 1) + d), j, f, b⟩ : GEdge)])).length u) ((es ++ [(⟨((id + 1) + d), j, f, b⟩ : GEdge)])) := by
      have hx := i4
      exact hx
     have i5 := ((O.ch0 bG).ch cg (fun i hm => by have Q := a _ hm; have ak := hiev _ hm; omega)).ch ci (oS om)
     have i6 := ((((((((R.ch Y (nS om)).ch0 P).ch L (nS om)).ch ce (nS om)).ch0 bF).ch cf (nS om)).ch0 bG).ch cg (fun hm => by have Q := a _ hm; have ak := hiev _ hm; omega)).ch ci (nS om)
     exact Zb (Exists.intro ((n - 1), ((id + 1) + d), (es ++ [(⟨((id + 1) + d), j, f, b⟩ : GEdge)]), (.slice Avw (V).length Cvw), (.slice t ((es ++ [(⟨((id + 1) + d), j, f, b⟩ : GEdge)])).length u)) ⟨⟨E, om, (by simp only [List.length_append, List.length_singleton]; omega), (by simp only [List.length_append, List.length_singleton]; omega), (Zah hE ⟨by dsimp only; omega, by dsimp only; omega, by dsimp only; omega, by dsimp only; omega⟩ (by dsimp only; omega)), i5, i6, eK, (Lo.down c om), eL, (Lo.down D om), aS, (fun hm => by exact x (by first | exact hm | exact r ▸ hm)), (fun g hm hg => by rcases s with ea | ea; (rw [ea] at hm; exact o _ hm hg); (have I := p _ hm; rw [ea] at hm; have U := List.mem_singleton.1 hm; have bs := c _ hg; have bu := q _ hg; omega)), (fun hm => by rcases s with ea | ea; (rw [ea] at hm; exact l (by first | exact hm | exact r ▸ hm)); (have I := p _ hm; rw [ea] at hm; have U := List.mem_singleton.1 hm; omega))⟩, sC4 rfl rfl rfl rfl (sC1 rfl (Sub.nil _)), (by first | omega | (dsimp only; omega))⟩)
    refine Zr rfl rfl rfl ?_
    refine Zq (cs := ics) (parts := [(0, .const (Go.Value.int Go.IntKind.i64 0)), (1, .const (Go.Value.int Go.IntKind.i64 0)), (2, .const (Go.Value.int Go.IntKind.i64 1)), (3, .const (Go.Value.int Go.IntKind.i64 2))]) (0 : Int) [0, 0, 1, 2] el22 sz3 zr3 Yx (by decide) rfl rfl rfl (by decide) (by decide) rfl fun bq i7 M A bH => ?_
    have l9 := bH.size
    have E := E.trans bH.of_nil
    obtain ⟨aG, aH, rfl, aI, G⟩ := M.opn
    have dy : Ch ([b_c] ++ (bl (.slice Aev (es).length Cev)) ++ [y]) F i7 := (aE.trans bH.of_nil)
    have g7 := cd.ch0 bH
    refine ⟨⟨dy, g7.at_.cell 0 rfl⟩, ?_⟩
    refine dO 12 (Zr rfl rfl rfl ?_)
    have i8 := ay.ch0 bH
    refine Step.call (Zm (xs := [.tmp 44, .tmp 47]) fk95 rfl) (Zs i8 _ om) fun aJ i9 ag => ?_
    obtain ⟨f, rfl, ah, ae, bI⟩ := ag
    have ma := bI.size
    have E := E.trans bI
    have dz : Ch ([b_c] ++ (bl (.slice Aev (es).length Cev)) ++ [y]) F i9 := (dy.step bI (fun i hm => by have r := List.mem_singleton.1 hm; exact .inr (by rw [r]; exact (List.mem_append_left _ (List.mem_append_left _ (List.mem_singleton.2 rfl))))))
    have g8 := g7.ch bI (nS om)
    refine ⟨⟨dz, g8.at_.cell 0 rfl⟩, ?_⟩
    refine dO 15 (Zr rfl rfl rfl ?_)
    have ja := M.ch bI (dS A G om)
    refine Step.call (Zm (xs := [.tmp 49, .tmp 50]) fk117 rfl) (Zx ae ja (by decide) ds.heap.size om A) fun aC jb X => ?_
    obtain ⟨b, rfl, z, O, cj⟩ := X
    have mb := cj.size
    have E := E.trans cj
    have aD : 0 ≤ b ∧ b ≤ 2 := by have aw := z; simp at aw; omega
    have dA : Ch ([b_c] ++ (bl (.slice Aev (es).length Cev)) ++ [y]) F jb := (dz.step cj (fun i hm => by have r := List.mem_singleton.1 hm; exact .inr (by rw [r]; exact (List.mem_append_left _ (List.mem_append_left _ (List.mem_singleton.2 rfl))))))
    have g9 := g8.ch cj (nS om)
    refine ⟨⟨dA, g9.at_.cell 0 rfl⟩, ?_⟩
    refine dV 16 rfl rfl rfl (fun _ => Ys (parts := [(0, .tmp 38), (1, .tmp 43), (2, .tmp 48), (3, .tmp 51)]) (cells := [(.int .i64 ((id + 1) + d)), (.int .i64 j), (.int .i64 f), (.int .i64 b)]) zr129 pl129 rfl rfl) (dO 17 (Zr rfl rfl rfl ?_))
    refine Zq (cs := GEdge.cs) (parts := [(0, .tmp 52)]) (⟨0, 0, 0, 0⟩ : GEdge) [(⟨((id + 1) + d), j, f, b⟩ : GEdge)] el34 sz129 zr129 GEdge.len (by decide) rfl rfl rfl (by decide) (by decide) rfl fun au jc B Z bJ => ?_
    have mc := bJ.size
    have E := E.trans bJ.of_nil
    obtain ⟨aa, ab, rfl, ac, K⟩ := B.opn
    have dB : Ch ([b_c] ++ (bl (.slice Aev (es).length Cev)) ++ [y]) F jc := (dA.trans bJ.of_nil)
    have ha := g9.ch0 bJ
    refine ⟨⟨dB, ha.at_.cell 0 rfl⟩, ?_⟩
    refine dO 18 (Zr rfl rfl rfl ?_)
    have jd := ((((((H.ch Y (dS a hiev om)).ch0 P).ch L (dS a hiev om)).ch0 bH).ch bI (dS a hiev om)).ch cj (dS a hiev om)).ch0 bJ
    refine Yg (cs := GEdge.cs) el34 sz129 by129 zr129 rfl (by decide) GEdge.one jd B.ls rfl rfl bd bd a om fun av je C D s ck => ?_
    have md := ck.size
    have E := E.step ck (fun i hi => .inl (by have Q := a _ hi; omega))
    obtain ⟨t, u, rfl, ad, p⟩ := C.opn
    have dC : Ch ([b_c] ++ (bl (.slice Aev (es).length Cev)) ++ [y]) F je := (dB.step ck (fun i hm => by exact .inr (List.mem_append_left _ (List.mem_append_right _ hm))))
    have hb := ha.ch ck (fun hm => by exact l (by first | exact hm | exact r ▸ hm))
    refine ⟨⟨dC, hb.at_.cell 0 rfl⟩, ?_⟩
    refine dV 19 rfl rfl rfl (fun _ => Zd fa36_1 rfl) (dO 20 (Zr rfl rfl rfl ?_))
    refine Zy (off := 1) hb sz34 rfl rfl rfl rfl fun eM aT cl => ?_
    have me := cl.size
    have E := E.step cl (lS om)
    replace aT : Blk eM y 36 [(.slice Avw (V).length Cvw), (.slice t ((es ++ [(⟨((id + 1) + d), j, f, b⟩ : GEdge)])).length u)] := aT
    have f8 : Ch ([b_c] ++ (bl (.slice Aev (es).length Cev)) ++ [y]) F eM := (dC.step cl (fun i hm => by have r := List.mem_singleton.1 hm; exact .inr (by rw [r]; exact (List.mem_append_right _ (List.mem_singleton.2 rfl)))))
    refine ⟨⟨f8, aT.at_.cell 0 rfl⟩, ?_⟩
    refine Zw (by kernel_rfl) ?_
    refine Yc (Zb (bi _ _ (Zc (Za rfl rfl (Zg rfl) (Za rfl rfl (Xe om rfl rfl) (Za rfl rfl (Zf rfl) (Ze ?_)))))))
    have jf := ((((((((S.ch Y (dS c q om)).ch0 P).ch L (dS c q om)).ch0 bH).ch bI (dS c q om)).ch cj (dS c q om)).ch0 bJ).ch ck (fun g hg hm => by exact o _ hm hg)).ch cl (fun g hg hm => by have r := List.mem_singleton.1 hm; exact x (by first | exact hg | exact r ▸ hg))
    have eN : Ol ics 3 1 eM (.slice Avw (V).length Cvw) (V) := by
     have hx := jf
     exact hx
    have jg := C.ch cl (fun g hg hm => by have r := List.mem_singleton.1 hm; rcases s with ea | ea; (rw [ea] at hg; exact l (by first | exact hg | exact r ▸ hg)); (have aj := p _ hg; rw [ea] at hg; have U := List.mem_singleton.1 hg; omega))
    have eO : Ol GEdge.cs 129 4 eM (.slice t ((es ++ [(⟨((id + 1) + d), j, f, b⟩ : GEdge)])).length u) ((es ++ [(⟨((id + 1) + d), j, f, b⟩ : GEdge)])) := by
     have hx := jg
     exact hx
    have jh := ((O.ch0 bJ).ch ck (fun i hm => by have Q := a _ hm; have ak := hiev _ hm; omega)).ch cl (oS om)
    have ji := ((((((((R.ch Y (nS om)).ch0 P).ch L (nS om)).ch0 bH).ch bI (nS om)).ch cj (nS om)).ch0 bJ).ch ck (fun hm => by have Q := a _ hm; have ak := hiev _ hm; omega)).ch cl (nS om)
    exact Zb (Exists.intro ((n - 1), ((id + 1) + d), (es ++ [(⟨((id + 1) + d), j, f, b⟩ : GEdge)]), (.slice Avw (V).length Cvw), (.slice t ((es ++ [(⟨((id + 1) + d), j, f, b⟩ : GEdge)])).length u)) ⟨⟨E, om, (by simp only [List.length_append, List.length_singleton]; omega), (by simp only [List.length_append, List.length_singleton]; omega), (Zah hE ⟨by dsimp only; omega, by dsimp only; omega, by dsimp only; omega, by dsimp only; omega⟩ (by dsimp only; omega)), jh, ji, eN, (Lo.down c om), eO, (Lo.down D om), aT, (fun hm => by exact x (by first | exact hm | exact r ▸ hm)), (fun g hm hg => by rcases s with ea | ea; (rw [ea] at hm; exact o _ hm hg); (have I := p _ hm; rw [ea] at hm; have U := List.mem_singleton.1 hm; have bs := c _ hg; have bu := q _ hg; omega)), (fun hm => by rcases s with ea | ea; (rw [ea] at hm; exact l (by first | exact hm | exact r ▸ hm)); (have I := p _ hm; rw [ea] at hm; have U := List.mem_singleton.1 hm; omega))⟩, sC4 rfl rfl rfl rfl (sC1 rfl (Sub.nil _)), (by first | omega | (dsimp only; omega))⟩)
   ·refine Zr rfl rfl rfl ?_
    refine Step.call (Zm (xs := [.tmp 44, .tmp 47]) fk95 rfl) (Zs ay _ om) fun aJ eP ag => ?_
    obtain ⟨f, rfl, ah, ae, ax⟩ := ag
    have mf := ax.size
    have E := E.trans ax
    have aU : Ch ([b_c] ++ (bl (.slice Aev (es).length Cev)) ++ [y]) F eP := (aE.step ax (fun i hm => by have r := List.mem_singleton.1 hm; exact .inr (by rw [r]; exact (List.mem_append_left _ (List.mem_append_left _ (List.mem_singleton.2 rfl))))))
    have dD := cd.ch ax (nS om)
    refine ⟨⟨aU, dD.at_.cell 0 rfl⟩, ?_⟩
    refine Xd 1 14 (by kernel_rfl) ?_ ?_
    ·refine Zr rfl rfl rfl ?_
     refine s_v (Zp dD.at_ agg34 rfl rfl) ?_
     refine ⟨⟨aU, dD.at_.cell 0 rfl⟩, ?_⟩
     refine dO 14 (Zr rfl rfl rfl ?_)
     refine Zq (cs := ics) (parts := [(0, .const (Go.Value.int Go.IntKind.i64 0)), (1, .const (Go.Value.int Go.IntKind.i64 0)), (2, .const (Go.Value.int Go.IntKind.i64 1)), (3, .const (Go.Value.int Go.IntKind.i64 2))]) (0 : Int) [0, 0, 1, 2] el22 sz3 zr3 Yx (by decide) rfl rfl rfl (by decide) (by decide) rfl fun bq jj M A bK => ?_
     have mg := bK.size
     have E := E.trans bK.of_nil
     obtain ⟨aG, aH, rfl, aI, G⟩ := M.opn
     have dE : Ch ([b_c] ++ (bl (.slice Aev (es).length Cev)) ++ [y]) F jj := (aU.trans bK.of_nil)
     have hc := dD.ch0 bK
     refine ⟨⟨dE, hc.at_.cell 0 rfl⟩, ?_⟩
     refine dO 15 (Zr rfl rfl rfl ?_)
     have jk := ae.ch0 bK
     refine Step.call (Zm (xs := [.tmp 49, .tmp 50]) fk117 rfl) (Zx jk M (by decide) eP.heap.size om A) fun aC jl X => ?_
     obtain ⟨b, rfl, z, O, cm⟩ := X
     have mh := cm.size
     have E := E.trans cm
     have aD : 0 ≤ b ∧ b ≤ 2 := by have aw := z; simp at aw; omega
     have dF : Ch ([b_c] ++ (bl (.slice Aev (es).length Cev)) ++ [y]) F jl := (dE.step cm (fun i hm => by have r := List.mem_singleton.1 hm; exact .inr (by rw [r]; exact (List.mem_append_left _ (List.mem_append_left _ (List.mem_singleton.2 rfl))))))
     have hd := hc.ch cm (nS om)
     refine ⟨⟨dF, hd.at_.cell 0 rfl⟩, ?_⟩
     refine dV 16 rfl rfl rfl (fun _ => Ys (parts := [(0, .tmp 38), (1, .tmp 43), (2, .tmp 48), (3, .tmp 51)]) (cells := [(.int .i64 ((id + 1) + d)), (.int .i64 j), (.int .i64 f), (.int .i64 b)]) zr129 pl129 rfl rfl) (dO 17 (Zr rfl rfl rfl ?_))
     refine Zq (cs := GEdge.cs) (parts := [(0, .tmp 52)]) (⟨0, 0, 0, 0⟩ : GEdge) [(⟨((id + 1) + d), j, f, b⟩ : GEdge)] el34 sz129 zr129 GEdge.len (by decide) rfl rfl rfl (by decide) (by decide) rfl fun au jm B Z bL => ?_
     have mi := bL.size
     have E := E.trans bL.of_nil
     obtain ⟨aa, ab, rfl, ac, K⟩ := B.opn
     have dG : Ch ([b_c] ++ (bl (.slice Aev (es).length Cev)) ++ [y]) F jm := (dF.trans bL.of_nil)
     have he := hd.ch0 bL
     refine ⟨⟨dG, he.at_.cell 0 rfl⟩, ?_⟩
     refine dO 18 (Zr rfl rfl rfl ?_)
     have jn := ((((((H.ch Y (dS a hiev om)).ch0 P).ch L (dS a hiev om)).ch ax (dS a hiev om)).ch0 bK).ch cm (dS a hiev om)).ch0 bL
     refine Yg (cs := GEdge.cs) el34 sz129 by129 zr129 rfl (by decide) GEdge.one jn B.ls rfl rfl bd bd a om fun av jo C D s cn => ?_
     have mj := cn.size
     have E := E.step cn (fun i hi => .inl (by have Q := a _ hi; omega))
     obtain ⟨t, u, rfl, ad, p⟩ := C.opn
     have dH : Ch ([b_c] ++ (bl (.slice Aev (es).length Cev)) ++ [y]) F jo := (dG.step cn (fun i hm => by exact .inr (List.mem_append_left _ (List.mem_append_right _ hm))))
     have hf := he.ch cn (fun hm => by exact l (by first | exact hm | exact r ▸ hm))
     refine ⟨⟨dH, hf.at_.cell 0 rfl⟩, ?_⟩
     refine dV 19 rfl rfl rfl (fun _ => Zd fa36_1 rfl) (dO 20 (Zr rfl rfl rfl ?_))
     refine Zy (off := 1) hf sz34 rfl rfl rfl rfl fun eQ aV co => ?_
     have ml := co.size
     have E := E.step co (lS om)
     replace aV : Blk eQ y 36 [(.slice Avw (V).length Cvw), (.slice t ((es ++ [(⟨((id + 1) + d), j, f, b⟩ : GEdge)])).length u)] := aV
     have f9 : Ch ([b_c] ++ (bl (.slice Aev (es).length Cev)) ++ [y]) F eQ := (dH.step co (fun i hm => by have r := List.mem_singleton.1 hm; exact .inr (by rw [r]; exact (List.mem_append_right _ (List.mem_singleton.2 rfl)))))
     refine ⟨⟨f9, aV.at_.cell 0 rfl⟩, ?_⟩
     refine Zw (by kernel_rfl) ?_
     refine Yc (Zb (bi _ _ (Zc (Za rfl rfl (Zg rfl) (Za rfl rfl (Xe om rfl rfl) (Za rfl rfl (Zf rfl) (Ze ?_)))))))
     have jp := ((((((((S.ch Y (dS c q om)).ch0 P).ch L (dS c q om)).ch ax (dS c q om)).ch0 bK).ch cm (dS c q om)).ch0 bL).ch cn (fun g hg hm => by exact o _ hm hg)).ch co (fun g hg hm => by have r := List.mem_singleton.1 hm; exact x (by first | exact hg | exact r ▸ hg))
     have eR : Ol ics 3 1 eQ (.slice Avw (V).length Cvw) (V) := by
      have hx := jp
      exact hx
     have jq := C.ch co (fun g hg hm => by have r := List.mem_singleton.1 hm; rcases s with ea | ea; (rw [ea] at hg; exact l (by first | exact hg | exact r ▸ hg)); (have aj := p _ hg; rw [ea] at hg; have U := List.mem_singleton.1 hg; omega))
     have eS : Ol GEdge.cs 129 4 eQ (.slice t ((es ++ [(⟨((id + 1) + d), j, f, b⟩ : GEdge)])).length u) ((es ++ [(⟨((id + 1) + d), j, f, b⟩ : GEdge)])) := by
      have hx := jq
      exact hx
     have jr := ((O.ch0 bL).ch cn (fun i hm => by have Q := a _ hm; have ak := hiev _ hm; omega)).ch co (oS om)
     have js := ((((((((R.ch Y (nS om)).ch0 P).ch L (nS om)).ch ax (nS om)).ch0 bK).ch cm (nS om)).ch0 bL).ch cn (fun hm => by have Q := a _ hm; have ak := hiev _ hm; omega)).ch co (nS om)
     exact Zb (Exists.intro ((n - 1), ((id + 1) + d), (es ++ [(⟨((id + 1) + d), j, f, b⟩ : GEdge)]), (.slice Avw (V).length Cvw), (.slice t ((es ++ [(⟨((id + 1) + d), j, f, b⟩ : GEdge)])).length u)) ⟨⟨E, om, (by simp only [List.length_append, List.length_singleton]; omega), (by simp only [List.length_append, List.length_singleton]; omega), (Zah hE ⟨by dsimp only; omega, by dsimp only; omega, by dsimp only; omega, by dsimp only; omega⟩ (by dsimp only; omega)), jr, js, eR, (Lo.down c om), eS, (Lo.down D om), aV, (fun hm => by exact x (by first | exact hm | exact r ▸ hm)), (fun g hm hg => by rcases s with ea | ea; (rw [ea] at hm; exact o _ hm hg); (have I := p _ hm; rw [ea] at hm; have U := List.mem_singleton.1 hm; have bs := c _ hg; have bu := q _ hg; omega)), (fun hm => by rcases s with ea | ea; (rw [ea] at hm; exact l (by first | exact hm | exact r ▸ hm)); (have I := p _ hm; rw [ea] at hm; have U := List.mem_singleton.1 hm; omega))⟩, sC4 rfl rfl rfl rfl (sC1 rfl (Sub.nil _)), (by first | omega | (dsimp only; omega))⟩)
    refine Zr rfl rfl rfl ?_
    refine Zq (cs := ics) (parts := [(0, .const (Go.Value.int Go.IntKind.i64 0)), (1, .const (Go.Value.int Go.IntKind.i64 0)), (2, .const (Go.Value.int Go.IntKind.i64 1)), (3, .const (Go.Value.int Go.IntKind.i64 2))]) (0 : Int) [0, 0, 1, 2] el22 sz3 zr3 Yx (by decide) rfl rfl rfl (by decide) (by decide) rfl fun bq jt M A az => ?_
    have mm := az.size
    have E := E.trans az.of_nil
    obtain ⟨aG, aH, rfl, aI, G⟩ := M.opn
    have aW : Ch ([b_c] ++ (bl (.slice Aev (es).length Cev)) ++ [y]) F jt := (aU.trans az.of_nil)
    have dI := dD.ch0 az
    refine ⟨⟨aW, dI.at_.cell 0 rfl⟩, ?_⟩
    refine Xd 1 15 (by kernel_rfl) ?_ ?_
    ·refine Zr rfl rfl rfl ?_
     refine s_v (Zp dI.at_ agg34 rfl rfl) ?_
     refine ⟨⟨aW, dI.at_.cell 0 rfl⟩, ?_⟩
     refine dO 15 (Zr rfl rfl rfl ?_)
     have ju := ae.ch0 az
     refine Step.call (Zm (xs := [.tmp 49, .tmp 50]) fk117 rfl) (Zx ju M (by decide) eP.heap.size om A) fun aC jv X => ?_
     obtain ⟨b, rfl, z, O, cp⟩ := X
     have mn := cp.size
     have E := E.trans cp
     have aD : 0 ≤ b ∧ b ≤ 2 := by have aw := z; simp at aw; omega
     have dJ : Ch ([b_c] ++ (bl (.slice Aev (es).length Cev)) ++ [y]) F jv := (aW.step cp (fun i hm => by have r := List.mem_singleton.1 hm; exact .inr (by rw [r]; exact (List.mem_append_left _ (List.mem_append_left _ (List.mem_singleton.2 rfl))))))
     have hh := dI.ch cp (nS om)
     refine ⟨⟨dJ, hh.at_.cell 0 rfl⟩, ?_⟩
     refine dV 16 rfl rfl rfl (fun _ => Ys (parts := [(0, .tmp 38), (1, .tmp 43), (2, .tmp 48), (3, .tmp 51)]) (cells := [(.int .i64 ((id + 1) + d)), (.int .i64 j), (.int .i64 f), (.int .i64 b)]) zr129 pl129 rfl rfl) (dO 17 (Zr rfl rfl rfl ?_))
     refine Zq (cs := GEdge.cs) (parts := [(0, .tmp 52)]) (⟨0, 0, 0, 0⟩ : GEdge) [(⟨((id + 1) + d), j, f, b⟩ : GEdge)] el34 sz129 zr129 GEdge.len (by decide) rfl rfl rfl (by decide) (by decide) rfl fun au jw B Z bM => ?_
     have mo := bM.size
     have E := E.trans bM.of_nil
     obtain ⟨aa, ab, rfl, ac, K⟩ := B.opn
     have dL : Ch ([b_c] ++ (bl (.slice Aev (es).length Cev)) ++ [y]) F jw := (dJ.trans bM.of_nil)
     have hj := hh.ch0 bM
     refine ⟨⟨dL, hj.at_.cell 0 rfl⟩, ?_⟩
     refine dO 18 (Zr rfl rfl rfl ?_)
     have jx := ((((((H.ch Y (dS a hiev om)).ch0 P).ch L (dS a hiev om)).ch ax (dS a hiev om)).ch0 az).ch cp (dS a hiev om)).ch0 bM
     refine Yg (cs := GEdge.cs) el34 sz129 by129 zr129 rfl (by decide) GEdge.one jx B.ls rfl rfl bd bd a om fun av jy C D s cq => ?_
     have mp := cq.size
     have E := E.step cq (fun i hi => .inl (by have Q := a _ hi; omega))
     obtain ⟨t, u, rfl, ad, p⟩ := C.opn
     have dM : Ch ([b_c] ++ (bl (.slice Aev (es).length Cev)) ++ [y]) F jy := (dL.step cq (fun i hm => by exact .inr (List.mem_append_left _ (List.mem_append_right _ hm))))
     have hk := hj.ch cq (fun hm => by exact l (by first | exact hm | exact r ▸ hm))
     refine ⟨⟨dM, hk.at_.cell 0 rfl⟩, ?_⟩
     refine dV 19 rfl rfl rfl (fun _ => Zd fa36_1 rfl) (dO 20 (Zr rfl rfl rfl ?_))
     refine Zy (off := 1) hk sz34 rfl rfl rfl rfl fun eT aX cr => ?_
     have mq := cr.size
     have E := E.step cr (lS om)
     replace aX : Blk eT y 36 [(.slice Avw (V).length Cvw), (.slice t ((es ++ [(⟨((id + 1) + d), j, f, b⟩ : GEdge)])).length u)] := aX
     have ga : Ch ([b_c] ++ (bl (.slice Aev (es).length Cev)) ++ [y]) F eT := (dM.step cr (fun i hm => by have r := List.mem_singleton.1 hm; exact .inr (by rw [r]; exact (List.mem_append_right _ (List.mem_singleton.2 rfl)))))
     refine ⟨⟨ga, aX.at_.cell 0 rfl⟩, ?_⟩
     refine Zw (by kernel_rfl) ?_
     refine Yc (Zb (bi _ _ (Zc (Za rfl rfl (Zg rfl) (Za rfl rfl (Xe om rfl rfl) (Za rfl rfl (Zf rfl) (Ze ?_)))))))
     have jz := ((((((((S.ch Y (dS c q om)).ch0 P).ch L (dS c q om)).ch ax (dS c q om)).ch0 az).ch cp (dS c q om)).ch0 bM).ch cq (fun g hg hm => by exact o _ hm hg)).ch cr (fun g hg hm => by have r := List.mem_singleton.1 hm; exact x (by first | exact hg | exact r ▸ hg))
     have eU : Ol ics 3 1 eT (.slice Avw (V).length Cvw) (V) := by
      have hx := jz
      exact hx
     have jA := C.ch cr (fun g hg hm => by have r := List.mem_singleton.1 hm; rcases s with ea | ea; (rw [ea] at hg; exact l (by first | exact hg | exact r ▸ hg)); (have aj := p _ hg; rw [ea] at hg; have U := List.mem_singleton.1 hg; omega))
     have eV : Ol GEdge.cs 129 4 eT (.slice t ((es ++ [(⟨((id + 1) + d), j, f, b⟩ : GEdge)])).length u) ((es ++ [(⟨((id + 1) + d), j, f, b⟩ : GEdge)])) := by
      have hx := jA
      exact hx
     have jB := ((O.ch0 bM).ch cq (fun i hm => by have Q := a _ hm; have ak := hiev _ hm; omega)).ch cr (oS om)
     have jC := ((((((((R.ch Y (nS om)).ch0 P).ch L (nS om)).ch ax (nS om)).ch0 az).ch cp (nS om)).ch0 bM).ch cq (fun hm => by have Q := a _ hm; have ak := hiev _ hm; omega)).ch cr (nS om)
     exact Zb (Exists.intro ((n - 1), ((id + 1) + d), (es ++ [(⟨((id + 1) + d), j, f, b⟩ : GEdge)]), (.slice Avw (V).length Cvw), (.slice t ((es ++ [(⟨((id + 1) + d), j, f, b⟩ : GEdge)])).length u)) ⟨⟨E, om, (by simp only [List.length_append, List.length_singleton]; omega), (by simp only [List.length_append, List.length_singleton]; omega), (Zah hE ⟨by dsimp only; omega, by dsimp only; omega, by dsimp only; omega, by dsimp only; omega⟩ (by dsimp only; omega)), jB, jC, eU, (Lo.down c om), eV, (Lo.down D om), aX, (fun hm => by exact x (by first | exact hm | exact r ▸ hm)), (fun g hm hg => by rcases s with ea | ea; (rw [ea] at hm; exact o _ hm hg); (have I := p _ hm; rw [ea] at hm; have U := List.mem_singleton.1 hm; have bs := c _ hg; have bu := q _ hg; omega)), (fun hm => by rcases s with ea | ea; (rw [ea] at hm; exact l (by first | exact hm | exact r ▸ hm)); (have I := p _ hm; rw [ea] at hm; have U := List.mem_singleton.1 hm; omega))⟩, sC4 rfl rfl rfl rfl (sC1 rfl (Sub.nil _)), (by first | omega | (dsimp only; omega))⟩)
    refine Zr rfl rfl rfl ?_
    have jD := ae.ch0 az
    refine Step.call (Zm (xs := [.tmp 49, .tmp 50]) fk117 rfl) (Zx jD M (by decide) eP.heap.size om A) fun aC jE X => ?_
    obtain ⟨b, rfl, z, O, aK⟩ := X
    have mr := aK.size
    have E := E.trans aK
    have aD : 0 ≤ b ∧ b ≤ 2 := by have aw := z; simp at aw; omega
    have aY : Ch ([b_c] ++ (bl (.slice Aev (es).length Cev)) ++ [y]) F jE := (aW.step aK (fun i hm => by have r := List.mem_singleton.1 hm; exact .inr (by rw [r]; exact (List.mem_append_left _ (List.mem_append_left _ (List.mem_singleton.2 rfl))))))
    have dN := dI.ch aK (nS om)
    refine ⟨⟨aY, dN.at_.cell 0 rfl⟩, ?_⟩
    refine dV 16 rfl rfl rfl (fun _ => Ys (parts := [(0, .tmp 38), (1, .tmp 43), (2, .tmp 48), (3, .tmp 51)]) (cells := [(.int .i64 ((id + 1) + d)), (.int .i64 j), (.int .i64 f), (.int .i64 b)]) zr129 pl129 rfl rfl) ?_
    refine Xd 1 17 (by kernel_rfl) ?_ ?_
    ·refine Zr rfl rfl rfl ?_
     refine s_v (Zp dN.at_ agg34 rfl rfl) ?_
     refine ⟨⟨aY, dN.at_.cell 0 rfl⟩, ?_⟩
     refine dO 17 (Zr rfl rfl rfl ?_)
     refine Zq (cs := GEdge.cs) (parts := [(0, .tmp 52)]) (⟨0, 0, 0, 0⟩ : GEdge) [(⟨((id + 1) + d), j, f, b⟩ : GEdge)] el34 sz129 zr129 GEdge.len (by decide) rfl rfl rfl (by decide) (by decide) rfl fun au jF B Z bN => ?_
     have ms := bN.size
     have E := E.trans bN.of_nil
     obtain ⟨aa, ab, rfl, ac, K⟩ := B.opn
     have dP : Ch ([b_c] ++ (bl (.slice Aev (es).length Cev)) ++ [y]) F jF := (aY.trans bN.of_nil)
     have hl := dN.ch0 bN
     refine ⟨⟨dP, hl.at_.cell 0 rfl⟩, ?_⟩
     refine dO 18 (Zr rfl rfl rfl ?_)
     have jG := ((((((H.ch Y (dS a hiev om)).ch0 P).ch L (dS a hiev om)).ch ax (dS a hiev om)).ch0 az).ch aK (dS a hiev om)).ch0 bN
     refine Yg (cs := GEdge.cs) el34 sz129 by129 zr129 rfl (by decide) GEdge.one jG B.ls rfl rfl bd bd a om fun av jH C D s ct => ?_
     have mt := ct.size
     have E := E.step ct (fun i hi => .inl (by have Q := a _ hi; omega))
     obtain ⟨t, u, rfl, ad, p⟩ := C.opn
     have dQ : Ch ([b_c] ++ (bl (.slice Aev (es).length Cev)) ++ [y]) F jH := (dP.step ct (fun i hm => by exact .inr (List.mem_append_left _ (List.mem_append_right _ hm))))
     have ho := hl.ch ct (fun hm => by exact l (by first | exact hm | exact r ▸ hm))
     refine ⟨⟨dQ, ho.at_.cell 0 rfl⟩, ?_⟩
     refine dV 19 rfl rfl rfl (fun _ => Zd fa36_1 rfl) (dO 20 (Zr rfl rfl rfl ?_))
     refine Zy (off := 1) ho sz34 rfl rfl rfl rfl fun eW aZ cu => ?_
     have mu := cu.size
     have E := E.step cu (lS om)
     replace aZ : Blk eW y 36 [(.slice Avw (V).length Cvw), (.slice t ((es ++ [(⟨((id + 1) + d), j, f, b⟩ : GEdge)])).length u)] := aZ
     have gb : Ch ([b_c] ++ (bl (.slice Aev (es).length Cev)) ++ [y]) F eW := (dQ.step cu (fun i hm => by have r := List.mem_singleton.1 hm; exact .inr (by rw [r]; exact (List.mem_append_right _ (List.mem_singleton.2 rfl)))))
     refine ⟨⟨gb, aZ.at_.cell 0 rfl⟩, ?_⟩
     refine Zw (by kernel_rfl) ?_
     refine Yc (Zb (bi _ _ (Zc (Za rfl rfl (Zg rfl) (Za rfl rfl (Xe om rfl rfl) (Za rfl rfl (Zf rfl) (Ze ?_)))))))
     have jI := ((((((((S.ch Y (dS c q om)).ch0 P).ch L (dS c q om)).ch ax (dS c q om)).ch0 az).ch aK (dS c q om)).ch0 bN).ch ct (fun g hg hm => by exact o _ hm hg)).ch cu (fun g hg hm => by have r := List.mem_singleton.1 hm; exact x (by first | exact hg | exact r ▸ hg))
     have eX : Ol ics 3 1 eW (.slice Avw (V).length Cvw) (V) := by
      have hx := jI
      exact hx
     have jJ := C.ch cu (fun g hg hm => by have r := List.mem_singleton.1 hm; rcases s with ea | ea; (rw [ea] at hg; exact l (by first | exact hg | exact r ▸ hg)); (have aj := p _ hg; rw [ea] at hg; have U := List.mem_singleton.1 hg; omega))
     have eY : Ol GEdge.cs 129 4 eW (.slice t ((es ++ [(⟨((id + 1) + d), j, f, b⟩ : GEdge)])).length u) ((es ++ [(⟨((id + 1) + d), j, f, b⟩ : GEdge)])) := by
      have hx := jJ
      exact hx
     have jK := ((O.ch0 bN).ch ct (fun i hm => by have Q := a _ hm; have ak := hiev _ hm; omega)).ch cu (oS om)
     have jL := ((((((((R.ch Y (nS om)).ch0 P).ch L (nS om)).ch ax (nS om)).ch0 az).ch aK (nS om)).ch0 bN).ch ct (fun hm => by have Q := a _ hm; have ak := hiev _ hm; omega)).ch cu (nS om)
     exact Zb (Exists.intro ((n - 1), ((id + 1) + d), (es ++ [(⟨((id + 1) + d), j, f, b⟩ : GEdge)]), (.slice Avw (V).length Cvw), (.slice t ((es ++ [(⟨((id + 1) + d), j, f, b⟩ : GEdge)])).length u)) ⟨⟨E, om, (by simp only [List.length_append, List.length_singleton]; omega), (by simp only [List.length_append, List.length_singleton]; omega), (Zah hE ⟨by dsimp only; omega, by dsimp only; omega, by dsimp only; omega, by dsimp only; omega⟩ (by dsimp only; omega)), jK, jL, eX, (Lo.down c om), eY, (Lo.down D om), aZ, (fun hm => by exact x (by first | exact hm | exact r ▸ hm)), (fun g hm hg => by rcases s with ea | ea; (rw [ea] at hm; exact o _ hm hg); (have I := p _ hm; rw [ea] at hm; have U := List.mem_singleton.1 hm; have bs := c _ hg; have bu := q _ hg; omega)), (fun hm => by rcases s with ea | ea; (rw [ea] at hm; exact l (by first | exact hm | exact r ▸ hm)); (have I := p _ hm; rw [ea] at hm; have U := List.mem_singleton.1 hm; omega))⟩, sC4 rfl rfl rfl rfl (sC1 rfl (Sub.nil _)), (by first | omega | (dsimp only; omega))⟩)
    refine Zr rfl rfl rfl ?_
    refine Zq (cs := GEdge.cs) (parts := [(0, .tmp 52)]) (⟨0, 0, 0, 0⟩ : GEdge) [(⟨((id + 1) + d), j, f, b⟩ : GEdge)] el34 sz129 zr129 GEdge.len (by decide) rfl rfl rfl (by decide) (by decide) rfl fun au jM B Z bO => ?_
    have mv := bO.size
    have E := E.trans bO.of_nil
    obtain ⟨aa, ab, rfl, ac, K⟩ := B.opn
    have cv : Ch ([b_c] ++ (bl (.slice Aev (es).length Cev)) ++ [y]) F jM := (aY.trans bO.of_nil)
    have eZ := dN.ch0 bO
    refine ⟨⟨cv, eZ.at_.cell 0 rfl⟩, ?_⟩
    refine dO 1 (Zr rfl rfl rfl ?_)
    refine s_v (Zp eZ.at_ agg34 rfl rfl) ?_
    refine ⟨⟨cv, eZ.at_.cell 0 rfl⟩, ?_⟩
    refine dO 18 (Zr rfl rfl rfl ?_)
    have jN := ((((((H.ch Y (dS a hiev om)).ch0 P).ch L (dS a hiev om)).ch ax (dS a hiev om)).ch0 az).ch aK (dS a hiev om)).ch0 bO
    refine Yg (cs := GEdge.cs) el34 sz129 by129 zr129 rfl (by decide) GEdge.one jN B.ls rfl rfl bd bd a om fun av jO C D s cw => ?_
    have mw := cw.size
    have E := E.step cw (fun i hi => .inl (by have Q := a _ hi; omega))
    obtain ⟨t, u, rfl, ad, p⟩ := C.opn
    have dR : Ch ([b_c] ++ (bl (.slice Aev (es).length Cev)) ++ [y]) F jO := (cv.step cw (fun i hm => by exact .inr (List.mem_append_left _ (List.mem_append_right _ hm))))
    have hp := eZ.ch cw (fun hm => by exact l (by first | exact hm | exact r ▸ hm))
    refine ⟨⟨dR, hp.at_.cell 0 rfl⟩, ?_⟩
    refine dV 19 rfl rfl rfl (fun _ => Zd fa36_1 rfl) (dO 20 (Zr rfl rfl rfl ?_))
    refine Zy (off := 1) hp sz34 rfl rfl rfl rfl fun e0 a0 cx => ?_
    have mx := cx.size
    have E := E.step cx (lS om)
    replace a0 : Blk e0 y 36 [(.slice Avw (V).length Cvw), (.slice t ((es ++ [(⟨((id + 1) + d), j, f, b⟩ : GEdge)])).length u)] := a0
    have gc : Ch ([b_c] ++ (bl (.slice Aev (es).length Cev)) ++ [y]) F e0 := (dR.step cx (fun i hm => by have r := List.mem_singleton.1 hm; exact .inr (by rw [r]; exact (List.mem_append_right _ (List.mem_singleton.2 rfl)))))
    refine ⟨⟨gc, a0.at_.cell 0 rfl⟩, ?_⟩
    refine Zw (by kernel_rfl) ?_
    refine Yc (Zb (bi _ _ (Zc (Za rfl rfl (Zg rfl) (Za rfl rfl (Xe om rfl rfl) (Za rfl rfl (Zf rfl) (Ze ?_)))))))
    have jP := ((((((((S.ch Y (dS c q om)).ch0 P).ch L (dS c q om)).ch ax (dS c q om)).ch0 az).ch aK (dS c q om)).ch0 bO).ch cw (fun g hg hm => by exact o _ hm hg)).ch cx (fun g hg hm => by have r := List.mem_singleton.1 hm; exact x (by first | exact hg | exact r ▸ hg))
    have e1 : Ol ics 3 1 e0 (.slice Avw (V).length Cvw) (V) := by
     have hx := jP
     exact hx
    have jQ := C.ch cx (fun g hg hm => by have r := List.mem_singleton.1 hm; rcases s with ea | ea; (rw [ea] at hg; exact l (by first | exact hg | exact r ▸ hg)); (have aj := p _ hg; rw [ea] at hg; have U := List.mem_singleton.1 hg; omega))
    have e2 : Ol GEdge.cs 129 4 e0 (.slice t ((es ++ [(⟨((id + 1) + d), j, f, b⟩ : GEdge)])).length u) ((es ++ [(⟨((id + 1) + d), j, f, b⟩ : GEdge)])) := by
     have hx := jQ
     exact hx
    have jR := ((O.ch0 bO).ch cw (fun i hm => by have Q := a _ hm; have ak := hiev _ hm; omega)).ch cx (oS om)
    have jS := ((((((((R.ch Y (nS om)).ch0 P).ch L (nS om)).ch ax (nS om)).ch0 az).ch aK (nS om)).ch0 bO).ch cw (fun hm => by have Q := a _ hm; have ak := hiev _ hm; omega)).ch cx (nS om)
    exact Zb (Exists.intro ((n - 1), ((id + 1) + d), (es ++ [(⟨((id + 1) + d), j, f, b⟩ : GEdge)]), (.slice Avw (V).length Cvw), (.slice t ((es ++ [(⟨((id + 1) + d), j, f, b⟩ : GEdge)])).length u)) ⟨⟨E, om, (by simp only [List.length_append, List.length_singleton]; omega), (by simp only [List.length_append, List.length_singleton]; omega), (Zah hE ⟨by dsimp only; omega, by dsimp only; omega, by dsimp only; omega, by dsimp only; omega⟩ (by dsimp only; omega)), jR, jS, e1, (Lo.down c om), e2, (Lo.down D om), a0, (fun hm => by exact x (by first | exact hm | exact r ▸ hm)), (fun g hm hg => by rcases s with ea | ea; (rw [ea] at hm; exact o _ hm hg); (have I := p _ hm; rw [ea] at hm; have U := List.mem_singleton.1 hm; have bs := c _ hg; have bu := q _ hg; omega)), (fun hm => by rcases s with ea | ea; (rw [ea] at hm; exact l (by first | exact hm | exact r ▸ hm)); (have I := p _ hm; rw [ea] at hm; have U := List.mem_singleton.1 hm; omega))⟩, sC4 rfl rfl rfl rfl (sC1 rfl (Sub.nil _)), (by first | omega | (dsimp only; omega))⟩)
   refine Zr rfl rfl rfl ?_
   refine Zq (cs := ics) (parts := [(0, .const (Go.Value.int Go.IntKind.i64 0)), (1, .const (Go.Value.int Go.IntKind.i64 0)), (2, .const (Go.Value.int Go.IntKind.i64 1)), (3, .const (Go.Value.int Go.IntKind.i64 2))]) (0 : Int) [0, 0, 1, 2] el22 sz3 zr3 Yx (by decide) rfl rfl rfl (by decide) (by decide) rfl fun bq jT M A am => ?_
   have my := am.size
   have E := E.trans am.of_nil
   obtain ⟨aG, aH, rfl, aI, G⟩ := M.opn
   have a1 : Ch ([b_c] ++ (bl (.slice Aev (es).length Cev)) ++ [y]) F jT := (aE.trans am.of_nil)
   have dU := cd.ch0 am
   refine ⟨⟨a1, dU.at_.cell 0 rfl⟩, ?_⟩
   refine Xd 1 12 (by kernel_rfl) ?_ ?_
   ·refine Zr rfl rfl rfl ?_
    refine s_v (Zp dU.at_ agg34 rfl rfl) ?_
    refine ⟨⟨a1, dU.at_.cell 0 rfl⟩, ?_⟩
    refine dO 12 (Zr rfl rfl rfl ?_)
    have jU := ay.ch0 am
    refine Step.call (Zm (xs := [.tmp 44, .tmp 47]) fk95 rfl) (Zs jU _ om) fun aJ jV ag => ?_
    obtain ⟨f, rfl, ah, ae, bP⟩ := ag
    have mz := bP.size
    have E := E.trans bP
    have dW : Ch ([b_c] ++ (bl (.slice Aev (es).length Cev)) ++ [y]) F jV := (a1.step bP (fun i hm => by have r := List.mem_singleton.1 hm; exact .inr (by rw [r]; exact (List.mem_append_left _ (List.mem_append_left _ (List.mem_singleton.2 rfl))))))
    have hq := dU.ch bP (nS om)
    refine ⟨⟨dW, hq.at_.cell 0 rfl⟩, ?_⟩
    refine dO 15 (Zr rfl rfl rfl ?_)
    have jW := M.ch bP (dS A G om)
    refine Step.call (Zm (xs := [.tmp 49, .tmp 50]) fk117 rfl) (Zx ae jW (by decide) ds.heap.size om A) fun aC jX X => ?_
    obtain ⟨b, rfl, z, O, cy⟩ := X
    have mA := cy.size
    have E := E.trans cy
    have aD : 0 ≤ b ∧ b ≤ 2 := by have aw := z; simp at aw; omega
    have dX : Ch ([b_c] ++ (bl (.slice Aev (es).length Cev)) ++ [y]) F jX := (dW.step cy (fun i hm => by have r := List.mem_singleton.1 hm; exact .inr (by rw [r]; exact (List.mem_append_left _ (List.mem_append_left _ (List.mem_singleton.2 rfl))))))
    have hr := hq.ch cy (nS om)
    refine ⟨⟨dX, hr.at_.cell 0 rfl⟩, ?_⟩
    refine dV 16 rfl rfl rfl (fun _ => Ys (parts := [(0, .tmp 38), (1, .tmp 43), (2, .tmp 48), (3, .tmp 51)]) (cells := [(.int .i64 ((id + 1) + d)), (.int .i64 j), (.int .i64 f), (.int .i64 b)]) zr129 pl129 rfl rfl) (dO 17 (Zr rfl rfl rfl ?_))
    refine Zq (cs := GEdge.cs) (parts := [(0, .tmp 52)]) (⟨0, 0, 0, 0⟩ : GEdge) [(⟨((id + 1) + d), j, f, b⟩ : GEdge)] el34 sz129 zr129 GEdge.len (by decide) rfl rfl rfl (by decide) (by decide) rfl fun au jY B Z bQ => ?_
    have mB := bQ.size
    have E := E.trans bQ.of_nil
    obtain ⟨aa, ab, rfl, ac, K⟩ := B.opn
    have dY : Ch ([b_c] ++ (bl (.slice Aev (es).length Cev)) ++ [y]) F jY := (dX.trans bQ.of_nil)
    have hs := hr.ch0 bQ
    refine ⟨⟨dY, hs.at_.cell 0 rfl⟩, ?_⟩
    refine dO 18 (Zr rfl rfl rfl ?_)
    have jZ := ((((((H.ch Y (dS a hiev om)).ch0 P).ch L (dS a hiev om)).ch0 am).ch bP (dS a hiev om)).ch cy (dS a hiev om)).ch0 bQ
    refine Yg (cs := GEdge.cs) el34 sz129 by129 zr129 rfl (by decide) GEdge.one jZ B.ls rfl rfl bd bd a om fun av j0 C D s cz => ?_
    have mC := cz.size
    have E := E.step cz (fun i hi => .inl (by have Q := a _ hi; omega))
    obtain ⟨t, u, rfl, ad, p⟩ := C.opn
    have dZ : Ch ([b_c] ++ (bl (.slice Aev (es).length Cev)) ++ [y]) F j0 := (dY.step cz (fun i hm => by exact .inr (List.mem_append_left _ (List.mem_append_right _ hm))))
    have ht := hs.ch cz (fun hm => by exact l (by first | exact hm | exact r ▸ hm))
    refine ⟨⟨dZ, ht.at_.cell 0 rfl⟩, ?_⟩
    refine dV 19 rfl rfl rfl (fun _ => Zd fa36_1 rfl) (dO 20 (Zr rfl rfl rfl ?_))
    refine Zy (off := 1) ht sz34 rfl rfl rfl rfl fun e3 a2 cA => ?_
    have mD := cA.size
    have E := E.step cA (lS om)
    replace a2 : Blk e3 y 36 [(.slice Avw (V).length Cvw), (.slice t ((es ++ [(⟨((id + 1) + d), j, f, b⟩ : GEdge)])).length u)] := a2
    have gd : Ch ([b_c] ++ (bl (.slice Aev (es).length Cev)) ++ [y]) F e3 := (dZ.step cA (fun i hm => by have r := List.mem_singleton.1 hm; exact .inr (by rw [r]; exact (List.mem_append_right _ (List.mem_singleton.2 rfl)))))
    refine ⟨⟨gd, a2.at_.cell 0 rfl⟩, ?_⟩
    refine Zw (by kernel_rfl) ?_
    refine Yc (Zb (bi _ _ (Zc (Za rfl rfl (Zg rfl) (Za rfl rfl (Xe om rfl rfl) (Za rfl rfl (Zf rfl) (Ze ?_)))))))
    have j1 := ((((((((S.ch Y (dS c q om)).ch0 P).ch L (dS c q om)).ch0 am).ch bP (dS c q om)).ch cy (dS c q om)).ch0 bQ).ch cz (fun g hg hm => by exact o _ hm hg)).ch cA (fun g hg hm => by have r := List.mem_singleton.1 hm; exact x (by first | exact hg | exact r ▸ hg))
    have e4 : Ol ics 3 1 e3 (.slice Avw (V).length Cvw) (V) := by
     have hx := j1
     exact hx
    have j2 := C.ch cA (fun g hg hm => by have r := List.mem_singleton.1 hm; rcases s with ea | ea; (rw [ea] at hg; exact l (by first | exact hg | exact r ▸ hg)); (have aj := p _ hg; rw [ea] at hg; have U := List.mem_singleton.1 hg; omega))
    have e5 : Ol GEdge.cs 129 4 e3 (.slice t ((es ++ [(⟨((id + 1) + d), j, f, b⟩ : GEdge)])).length u) ((es ++ [(⟨((id + 1) + d), j, f, b⟩ : GEdge)])) := by
     have hx := j2
     exact hx
    have j3 := ((O.ch0 bQ).ch cz (fun i hm => by have Q := a _ hm; have ak := hiev _ hm; omega)).ch cA (oS om)
    have j4 := ((((((((R.ch Y (nS om)).ch0 P).ch L (nS om)).ch0 am).ch bP (nS om)).ch cy (nS om)).ch0 bQ).ch cz (fun hm => by have Q := a _ hm; have ak := hiev _ hm; omega)).ch cA (nS om)
    exact Zb (Exists.intro ((n - 1), ((id + 1) + d), (es ++ [(⟨((id + 1) + d), j, f, b⟩ : GEdge)]), (.slice Avw (V).length Cvw), (.slice t ((es ++ [(⟨((id + 1) + d), j, f, b⟩ : GEdge)])).length u)) ⟨⟨E, om, (by simp only [List.length_append, List.length_singleton]; omega), (by simp only [List.length_append, List.length_singleton]; omega), (Zah hE ⟨by dsimp only; omega, by dsimp only; omega, by dsimp only; omega, by dsimp only; omega⟩ (by dsimp only; omega)), j3, j4, e4, (Lo.down c om), e5, (Lo.down D om), a2, (fun hm => by exact x (by first | exact hm | exact r ▸ hm)), (fun g hm hg => by rcases s with ea | ea; (rw [ea] at hm; exact o _ hm hg); (have I := p _ hm; rw [ea] at hm; have U := List.mem_singleton.1 hm; have bs := c _ hg; have bu := q _ hg; omega)), (fun hm => by rcases s with ea | ea; (rw [ea] at hm; exact l (by first | exact hm | exact r ▸ hm)); (have I := p _ hm; rw [ea] at hm; have U := List.mem_singleton.1 hm; omega))⟩, sC4 rfl rfl rfl rfl (sC1 rfl (Sub.nil _)), (by first | omega | (dsimp only; omega))⟩)
   refine Zr rfl rfl rfl ?_
   have j5 := ay.ch0 am
   refine Step.call (Zm (xs := [.tmp 44, .tmp 47]) fk95 rfl) (Zs j5 _ om) fun aJ j6 ag => ?_
   obtain ⟨f, rfl, ah, ae, aA⟩ := ag
   have mE := aA.size
   have E := E.trans aA
   have a3 : Ch ([b_c] ++ (bl (.slice Aev (es).length Cev)) ++ [y]) F j6 := (a1.step aA (fun i hm => by have r := List.mem_singleton.1 hm; exact .inr (by rw [r]; exact (List.mem_append_left _ (List.mem_append_left _ (List.mem_singleton.2 rfl))))))
   have d0 := dU.ch aA (nS om)
   refine ⟨⟨a3, d0.at_.cell 0 rfl⟩, ?_⟩
   refine Xd 1 15 (by kernel_rfl) ?_ ?_
   ·refine Zr rfl rfl rfl ?_
    refine s_v (Zp d0.at_ agg34 rfl rfl) ?_
    refine ⟨⟨a3, d0.at_.cell 0 rfl⟩, ?_⟩
    refine dO 15 (Zr rfl rfl rfl ?_)
    have j7 := M.ch aA (dS A G om)
    refine Step.call (Zm (xs := [.tmp 49, .tmp 50]) fk117 rfl) (Zx ae j7 (by decide) ds.heap.size om A) fun aC j8 X => ?_
    obtain ⟨b, rfl, z, O, cB⟩ := X
    have mF := cB.size
    have E := E.trans cB
    have aD : 0 ≤ b ∧ b ≤ 2 := by have aw := z; simp at aw; omega
    have d1 : Ch ([b_c] ++ (bl (.slice Aev (es).length Cev)) ++ [y]) F j8 := (a3.step cB (fun i hm => by have r := List.mem_singleton.1 hm; exact .inr (by rw [r]; exact (List.mem_append_left _ (List.mem_append_left _ (List.mem_singleton.2 rfl))))))
    have hu := d0.ch cB (nS om)
    refine ⟨⟨d1, hu.at_.cell 0 rfl⟩, ?_⟩
    refine dV 16 rfl rfl rfl (fun _ => Ys (parts := [(0, .tmp 38), (1, .tmp 43), (2, .tmp 48), (3, .tmp 51)]) (cells := [(.int .i64 ((id + 1) + d)), (.int .i64 j), (.int .i64 f), (.int .i64 b)]) zr129 pl129 rfl rfl) (dO 17 (Zr rfl rfl rfl ?_))
    refine Zq (cs := GEdge.cs) (parts := [(0, .tmp 52)]) (⟨0, 0, 0, 0⟩ : GEdge) [(⟨((id + 1) + d), j, f, b⟩ : GEdge)] el34 sz129 zr129 GEdge.len (by decide) rfl rfl rfl (by decide) (by decide) rfl fun au j9 B Z bR => ?_
    have mG := bR.size
    have E := E.trans bR.of_nil
    obtain ⟨aa, ab, rfl, ac, K⟩ := B.opn
    have d2 : Ch ([b_c] ++ (bl (.slice Aev (es).length Cev)) ++ [y]) F j9 := (d1.trans bR.of_nil)
    have hv := hu.ch0 bR
    refine ⟨⟨d2, hv.at_.cell 0 rfl⟩, ?_⟩
    refine dO 18 (Zr rfl rfl rfl ?_)
    have ka := ((((((H.ch Y (dS a hiev om)).ch0 P).ch L (dS a hiev om)).ch0 am).ch aA (dS a hiev om)).ch cB (dS a hiev om)).ch0 bR
    refine Yg (cs := GEdge.cs) el34 sz129 by129 zr129 rfl (by decide) GEdge.one ka B.ls rfl rfl bd bd a om fun av kb C D s cC => ?_
    have mH := cC.size
    have E := E.step cC (fun i hi => .inl (by have Q := a _ hi; omega))
    obtain ⟨t, u, rfl, ad, p⟩ := C.opn
    have d3 : Ch ([b_c] ++ (bl (.slice Aev (es).length Cev)) ++ [y]) F kb := (d2.step cC (fun i hm => by exact .inr (List.mem_append_left _ (List.mem_append_right _ hm))))
    have hw := hv.ch cC (fun hm => by exact l (by first | exact hm | exact r ▸ hm))
    refine ⟨⟨d3, hw.at_.cell 0 rfl⟩, ?_⟩
    refine dV 19 rfl rfl rfl (fun _ => Zd fa36_1 rfl) (dO 20 (Zr rfl rfl rfl ?_))
    refine Zy (off := 1) hw sz34 rfl rfl rfl rfl fun e6 a4 cD => ?_
    have mI := cD.size
    have E := E.step cD (lS om)
    replace a4 : Blk e6 y 36 [(.slice Avw (V).length Cvw), (.slice t ((es ++ [(⟨((id + 1) + d), j, f, b⟩ : GEdge)])).length u)] := a4
    have ge : Ch ([b_c] ++ (bl (.slice Aev (es).length Cev)) ++ [y]) F e6 := (d3.step cD (fun i hm => by have r := List.mem_singleton.1 hm; exact .inr (by rw [r]; exact (List.mem_append_right _ (List.mem_singleton.2 rfl)))))
    refine ⟨⟨ge, a4.at_.cell 0 rfl⟩, ?_⟩
    refine Zw (by kernel_rfl) ?_
    refine Yc (Zb (bi _ _ (Zc (Za rfl rfl (Zg rfl) (Za rfl rfl (Xe om rfl rfl) (Za rfl rfl (Zf rfl) (Ze ?_)))))))
    have kc := ((((((((S.ch Y (dS c q om)).ch0 P).ch L (dS c q om)).ch0 am).ch aA (dS c q om)).ch cB (dS c q om)).ch0 bR).ch cC (fun g hg hm => by exact o _ hm hg)).ch cD (fun g hg hm => by have r := List.mem_singleton.1 hm; exact x (by first | exact hg | exact r ▸ hg))
    have e7 : Ol ics 3 1 e6 (.slice Avw (V).length Cvw) (V) := by
     have hx := kc
     exact hx
    have kd := C.ch cD (fun g hg hm => by have r := List.mem_singleton.1 hm; rcases s with ea | ea; (rw [ea] at hg; exact l (by first | exact hg | exact r ▸ hg)); (have aj := p _ hg; rw [ea] at hg; have U := List.mem_singleton.1 hg; omega))
    have e8 : Ol GEdge.cs 129 4 e6 (.slice t ((es ++ [(⟨((id + 1) + d), j, f, b⟩ : GEdge)])).length u) ((es ++ [(⟨((id + 1) + d), j, f, b⟩ : GEdge)])) := by
     have hx := kd
     exact hx
    have ke := ((O.ch0 bR).ch cC (fun i hm => by have Q := a _ hm; have ak := hiev _ hm; omega)).ch cD (oS om)
    have kf := ((((((((R.ch Y (nS om)).ch0 P).ch L (nS om)).ch0 am).ch aA (nS om)).ch cB (nS om)).ch0 bR).ch cC (fun hm => by have Q := a _ hm; have ak := hiev _ hm; omega)).ch cD (nS om)
    exact Zb (Exists.intro ((n - 1), ((id + 1) + d), (es ++ [(⟨((id + 1) + d), j, f, b⟩ : GEdge)]), (.slice Avw (V).length Cvw), (.slice t ((es ++ [(⟨((id + 1) + d), j, f, b⟩ : GEdge)])).length u)) ⟨⟨E, om, (by simp only [List.length_append, List.length_singleton]; omega), (by simp only [List.length_append, List.length_singleton]; omega), (Zah hE ⟨by dsimp only; omega, by dsimp only; omega, by dsimp only; omega, by dsimp only; omega⟩ (by dsimp only; omega)), ke, kf, e7, (Lo.down c om), e8, (Lo.down D om), a4, (fun hm => by exact x (by first | exact hm | exact r ▸ hm)), (fun g hm hg => by rcases s with ea | ea; (rw [ea] at hm; exact o _ hm hg); (have I := p _ hm; rw [ea] at hm; have U := List.mem_singleton.1 hm; have bs := c _ hg; have bu := q _ hg; omega)), (fun hm => by rcases s with ea | ea; (rw [ea] at hm; exact l (by first | exact hm | exact r ▸ hm)); (have I := p _ hm; rw [ea] at hm; have U := List.mem_singleton.1 hm; omega))⟩, sC4 rfl rfl rfl rfl (sC1 rfl (Sub.nil _)), (by first | omega | (dsimp only; omega))⟩)
   refine Zr rfl rfl rfl ?_
   have kg := M.ch aA (dS A G om)
   refine Step.call (Zm (xs := [.tmp 49, .tmp 50]) fk117 rfl) (Zx ae kg (by decide) ds.heap.size om A) fun aC kh X => ?_
   obtain ⟨b, rfl, z, O, aL⟩ := X
   have mJ := aL.size
   have E := E.trans aL
   have aD : 0 ≤ b ∧ b ≤ 2 := by have aw := z; simp at aw; omega
   have a5 : Ch ([b_c] ++ (bl (.slice Aev (es).length Cev)) ++ [y]) F kh := (a3.step aL (fun i hm => by have r := List.mem_singleton.1 hm; exact .inr (by rw [r]; exact (List.mem_append_left _ (List.mem_append_left _ (List.mem_singleton.2 rfl))))))
   have d4 := d0.ch aL (nS om)
   refine ⟨⟨a5, d4.at_.cell 0 rfl⟩, ?_⟩
   refine dV 16 rfl rfl rfl (fun _ => Ys (parts := [(0, .tmp 38), (1, .tmp 43), (2, .tmp 48), (3, .tmp 51)]) (cells := [(.int .i64 ((id + 1) + d)), (.int .i64 j), (.int .i64 f), (.int .i64 b)]) zr129 pl129 rfl rfl) ?_
   refine Xd 1 17 (by kernel_rfl) ?_ ?_
   ·refine Zr rfl rfl rfl ?_
    refine s_v (Zp d4.at_ agg34 rfl rfl) ?_
    refine ⟨⟨a5, d4.at_.cell 0 rfl⟩, ?_⟩
    refine dO 17 (Zr rfl rfl rfl ?_)
    refine Zq (cs := GEdge.cs) (parts := [(0, .tmp 52)]) (⟨0, 0, 0, 0⟩ : GEdge) [(⟨((id + 1) + d), j, f, b⟩ : GEdge)] el34 sz129 zr129 GEdge.len (by decide) rfl rfl rfl (by decide) (by decide) rfl fun au ki B Z bS => ?_
    have mK := bS.size
    have E := E.trans bS.of_nil
    obtain ⟨aa, ab, rfl, ac, K⟩ := B.opn
    have d5 : Ch ([b_c] ++ (bl (.slice Aev (es).length Cev)) ++ [y]) F ki := (a5.trans bS.of_nil)
    have hy := d4.ch0 bS
    refine ⟨⟨d5, hy.at_.cell 0 rfl⟩, ?_⟩
    refine dO 18 (Zr rfl rfl rfl ?_)
    have kj := ((((((H.ch Y (dS a hiev om)).ch0 P).ch L (dS a hiev om)).ch0 am).ch aA (dS a hiev om)).ch aL (dS a hiev om)).ch0 bS
    refine Yg (cs := GEdge.cs) el34 sz129 by129 zr129 rfl (by decide) GEdge.one kj B.ls rfl rfl bd bd a om fun av kk C D s cE => ?_
    have mL := cE.size
    have E := E.step cE (fun i hi => .inl (by have Q := a _ hi; omega))
    obtain ⟨t, u, rfl, ad, p⟩ := C.opn
    have d6 : Ch ([b_c] ++ (bl (.slice Aev (es).length Cev)) ++ [y]) F kk := (d5.step cE (fun i hm => by exact .inr (List.mem_append_left _ (List.mem_append_right _ hm))))
    have hz := hy.ch cE (fun hm => by exact l (by first | exact hm | exact r ▸ hm))
    refine ⟨⟨d6, hz.at_.cell 0 rfl⟩, ?_⟩
    refine dV 19 rfl rfl rfl (fun _ => Zd fa36_1 rfl) (dO 20 (Zr rfl rfl rfl ?_))
    refine Zy (off := 1) hz sz34 rfl rfl rfl rfl fun e9 a6 cF => ?_
    have mM := cF.size
    have E := E.step cF (lS om)
    replace a6 : Blk e9 y 36 [(.slice Avw (V).length Cvw), (.slice t ((es ++ [(⟨((id + 1) + d), j, f, b⟩ : GEdge)])).length u)] := a6
    have gf : Ch ([b_c] ++ (bl (.slice Aev (es).length Cev)) ++ [y]) F e9 := (d6.step cF (fun i hm => by have r := List.mem_singleton.1 hm; exact .inr (by rw [r]; exact (List.mem_append_right _ (List.mem_singleton.2 rfl)))))
    refine ⟨⟨gf, a6.at_.cell 0 rfl⟩, ?_⟩
    refine Zw (by kernel_rfl) ?_
    refine Yc (Zb (bi _ _ (Zc (Za rfl rfl (Zg rfl) (Za rfl rfl (Xe om rfl rfl) (Za rfl rfl (Zf rfl) (Ze ?_)))))))
    have kl := ((((((((S.ch Y (dS c q om)).ch0 P).ch L (dS c q om)).ch0 am).ch aA (dS c q om)).ch aL (dS c q om)).ch0 bS).ch cE (fun g hg hm => by exact o _ hm hg)).ch cF (fun g hg hm => by have r := List.mem_singleton.1 hm; exact x (by first | exact hg | exact r ▸ hg))
    have fa : Ol ics 3 1 e9 (.slice Avw (V).length Cvw) (V) := by
     have hx := kl
     exact hx
    have km := C.ch cF (fun g hg hm => by have r := List.mem_singleton.1 hm; rcases s with ea | ea; (rw [ea] at hg; exact l (by first | exact hg | exact r ▸ hg)); (have aj := p _ hg; rw [ea] at hg; have U := List.mem_singleton.1 hg; omega))
    have fb : Ol GEdge.cs 129 4 e9 (.slice t ((es ++ [(⟨((id + 1) + d), j, f, b⟩ : GEdge)])).length u) ((es ++ [(⟨((id + 1) + d), j, f, b⟩ : GEdge)])) := by
     have hx := km
     exact hx
    have kn := ((O.ch0 bS).ch cE (fun i hm => by have Q := a _ hm; have ak := hiev _ hm; omega)).ch cF (oS om)
    have ko := ((((((((R.ch Y (nS om)).ch0 P).ch L (nS om)).ch0 am).ch aA (nS om)).ch aL (nS om)).ch0 bS).ch cE (fun hm => by have Q := a _ hm; have ak := hiev _ hm; omega)).ch cF (nS om)
    exact Zb (Exists.intro ((n - 1), ((id + 1) + d), (es ++ [(⟨((id + 1) + d), j, f, b⟩ : GEdge)]), (.slice Avw (V).length Cvw), (.slice t ((es ++ [(⟨((id + 1) + d), j, f, b⟩ : GEdge)])).length u)) ⟨⟨E, om, (by simp only [List.length_append, List.length_singleton]; omega), (by simp only [List.length_append, List.length_singleton]; omega), (Zah hE ⟨by dsimp only; omega, by dsimp only; omega, by dsimp only; omega, by dsimp only; omega⟩ (by dsimp only; omega)), kn, ko, fa, (Lo.down c om), fb, (Lo.down D om), a6, (fun hm => by exact x (by first | exact hm | exact r ▸ hm)), (fun g hm hg => by rcases s with ea | ea; (rw [ea] at hm; exact o _ hm hg); (have I := p _ hm; rw [ea] at hm; have U := List.mem_singleton.1 hm; have bs := c _ hg; have bu := q _ hg; omega)), (fun hm => by rcases s with ea | ea; (rw [ea] at hm; exact l (by first | exact hm | exact r ▸ hm)); (have I := p _ hm; rw [ea] at hm; have U := List.mem_singleton.1 hm; omega))⟩, sC4 rfl rfl rfl rfl (sC1 rfl (Sub.nil _)), (by first | omega | (dsimp only; omega))⟩)
   refine Zr rfl rfl rfl ?_
   refine Zq (cs := GEdge.cs) (parts := [(0, .tmp 52)]) (⟨0, 0, 0, 0⟩ : GEdge) [(⟨((id + 1) + d), j, f, b⟩ : GEdge)] el34 sz129 zr129 GEdge.len (by decide) rfl rfl rfl (by decide) (by decide) rfl fun au kp B Z bT => ?_
   have mN := bT.size
   have E := E.trans bT.of_nil
   obtain ⟨aa, ab, rfl, ac, K⟩ := B.opn
   have cG : Ch ([b_c] ++ (bl (.slice Aev (es).length Cev)) ++ [y]) F kp := (a5.trans bT.of_nil)
   have fc := d4.ch0 bT
   refine ⟨⟨cG, fc.at_.cell 0 rfl⟩, ?_⟩
   refine dO 1 (Zr rfl rfl rfl ?_)
   refine s_v (Zp fc.at_ agg34 rfl rfl) ?_
   refine ⟨⟨cG, fc.at_.cell 0 rfl⟩, ?_⟩
   refine dO 18 (Zr rfl rfl rfl ?_)
   have kq := ((((((H.ch Y (dS a hiev om)).ch0 P).ch L (dS a hiev om)).ch0 am).ch aA (dS a hiev om)).ch aL (dS a hiev om)).ch0 bT
   refine Yg (cs := GEdge.cs) el34 sz129 by129 zr129 rfl (by decide) GEdge.one kq B.ls rfl rfl bd bd a om fun av kr C D s cH => ?_
   have mO := cH.size
   have E := E.step cH (fun i hi => .inl (by have Q := a _ hi; omega))
   obtain ⟨t, u, rfl, ad, p⟩ := C.opn
   have d7 : Ch ([b_c] ++ (bl (.slice Aev (es).length Cev)) ++ [y]) F kr := (cG.step cH (fun i hm => by exact .inr (List.mem_append_left _ (List.mem_append_right _ hm))))
   have hA := fc.ch cH (fun hm => by exact l (by first | exact hm | exact r ▸ hm))
   refine ⟨⟨d7, hA.at_.cell 0 rfl⟩, ?_⟩
   refine dV 19 rfl rfl rfl (fun _ => Zd fa36_1 rfl) (dO 20 (Zr rfl rfl rfl ?_))
   refine Zy (off := 1) hA sz34 rfl rfl rfl rfl fun fd a7 cI => ?_
   have mP := cI.size
   have E := E.step cI (lS om)
   replace a7 : Blk fd y 36 [(.slice Avw (V).length Cvw), (.slice t ((es ++ [(⟨((id + 1) + d), j, f, b⟩ : GEdge)])).length u)] := a7
   have gg : Ch ([b_c] ++ (bl (.slice Aev (es).length Cev)) ++ [y]) F fd := (d7.step cI (fun i hm => by have r := List.mem_singleton.1 hm; exact .inr (by rw [r]; exact (List.mem_append_right _ (List.mem_singleton.2 rfl)))))
   refine ⟨⟨gg, a7.at_.cell 0 rfl⟩, ?_⟩
   refine Zw (by kernel_rfl) ?_
   refine Yc (Zb (bi _ _ (Zc (Za rfl rfl (Zg rfl) (Za rfl rfl (Xe om rfl rfl) (Za rfl rfl (Zf rfl) (Ze ?_)))))))
   have ks := ((((((((S.ch Y (dS c q om)).ch0 P).ch L (dS c q om)).ch0 am).ch aA (dS c q om)).ch aL (dS c q om)).ch0 bT).ch cH (fun g hg hm => by exact o _ hm hg)).ch cI (fun g hg hm => by have r := List.mem_singleton.1 hm; exact x (by first | exact hg | exact r ▸ hg))
   have fe : Ol ics 3 1 fd (.slice Avw (V).length Cvw) (V) := by
    have hx := ks
    exact hx
   have kt := C.ch cI (fun g hg hm => by have r := List.mem_singleton.1 hm; rcases s with ea | ea; (rw [ea] at hg; exact l (by first | exact hg | exact r ▸ hg)); (have aj := p _ hg; rw [ea] at hg; have U := List.mem_singleton.1 hg; omega))
   have ff : Ol GEdge.cs 129 4 fd (.slice t ((es ++ [(⟨((id + 1) + d), j, f, b⟩ : GEdge)])).length u) ((es ++ [(⟨((id + 1) + d), j, f, b⟩ : GEdge)])) := by
    have hx := kt
    exact hx
   have ku := ((O.ch0 bT).ch cH (fun i hm => by have Q := a _ hm; have ak := hiev _ hm; omega)).ch cI (oS om)
   have kv := ((((((((R.ch Y (nS om)).ch0 P).ch L (nS om)).ch0 am).ch aA (nS om)).ch aL (nS om)).ch0 bT).ch cH (fun hm => by have Q := a _ hm; have ak := hiev _ hm; omega)).ch cI (nS om)
   exact Zb (Exists.intro ((n - 1), ((id + 1) + d), (es ++ [(⟨((id + 1) + d), j, f, b⟩ : GEdge)]), (.slice Avw (V).length Cvw), (.slice t ((es ++ [(⟨((id + 1) + d), j, f, b⟩ : GEdge)])).length u)) ⟨⟨E, om, (by simp only [List.length_append, List.length_singleton]; omega), (by simp only [List.length_append, List.length_singleton]; omega), (Zah hE ⟨by dsimp only; omega, by dsimp only; omega, by dsimp only; omega, by dsimp only; omega⟩ (by dsimp only; omega)), ku, kv, fe, (Lo.down c om), ff, (Lo.down D om), a7, (fun hm => by exact x (by first | exact hm | exact r ▸ hm)), (fun g hm hg => by rcases s with ea | ea; (rw [ea] at hm; exact o _ hm hg); (have I := p _ hm; rw [ea] at hm; have U := List.mem_singleton.1 hm; have bs := c _ hg; have bu := q _ hg; omega)), (fun hm => by rcases s with ea | ea; (rw [ea] at hm; exact l (by first | exact hm | exact r ▸ hm)); (have I := p _ hm; rw [ea] at hm; have U := List.mem_singleton.1 hm; omega))⟩, sC4 rfl rfl rfl rfl (sC1 rfl (Sub.nil _)), (by first | omega | (dsimp only; omega))⟩)
  refine Zr rfl rfl rfl ?_
  refine Zq (cs := ics) (parts := [(0, .const (Go.Value.int Go.IntKind.i64 0)), (1, .const (Go.Value.int Go.IntKind.i64 0)), (2, .const (Go.Value.int Go.IntKind.i64 1)), (3, .const (Go.Value.int Go.IntKind.i64 2))]) (0 : Int) [0, 0, 1, 2] el22 sz3 zr3 Yx (by decide) rfl rfl rfl (by decide) (by decide) rfl fun bq kw M A ai => ?_
  have mQ := ai.size
  have E := E.trans ai.of_nil
  obtain ⟨aG, aH, rfl, aI, G⟩ := M.opn
  have a8 : Ch ([b_c] ++ (bl (.slice Aev (es).length Cev)) ++ [y]) F kw := ((Ch.refl _ _).trans ai.of_nil)
  have d8 := (hU.ch0 P).ch0 ai
  refine ⟨⟨a8, d8.at_.cell 0 rfl⟩, ?_⟩
  refine Xd 1 7 (by kernel_rfl) ?_ ?_
  ·refine Zr rfl rfl rfl ?_
   refine s_v (Zp d8.at_ agg34 rfl rfl) ?_
   refine ⟨⟨a8, d8.at_.cell 0 rfl⟩, ?_⟩
   refine dO 7 (Zr rfl rfl rfl ?_)
   have kx := (db.ch0 P).ch0 ai
   refine Step.call (Zm (xs := [.tmp 39, .tmp 42]) fk95 rfl) (Zs kx _ om) fun ez ky aN => ?_
   obtain ⟨j, rfl, aO, ay, bU⟩ := aN
   have mR := bU.size
   have E := E.trans bU
   have d9 : Ch ([b_c] ++ (bl (.slice Aev (es).length Cev)) ++ [y]) F ky := (a8.step bU (fun i hm => by have r := List.mem_singleton.1 hm; exact .inr (by rw [r]; exact (List.mem_append_left _ (List.mem_append_left _ (List.mem_singleton.2 rfl))))))
   have hB := d8.ch bU (nS om)
   refine ⟨⟨d9, hB.at_.cell 0 rfl⟩, ?_⟩
   refine dO 12 (Zr rfl rfl rfl ?_)
   refine Step.call (Zm (xs := [.tmp 44, .tmp 47]) fk95 rfl) (Zs ay _ om) fun aJ kz ag => ?_
   obtain ⟨f, rfl, ah, ae, bV⟩ := ag
   have mS := bV.size
   have E := E.trans bV
   have eb : Ch ([b_c] ++ (bl (.slice Aev (es).length Cev)) ++ [y]) F kz := (d9.step bV (fun i hm => by have r := List.mem_singleton.1 hm; exact .inr (by rw [r]; exact (List.mem_append_left _ (List.mem_append_left _ (List.mem_singleton.2 rfl))))))
   have hC := hB.ch bV (nS om)
   refine ⟨⟨eb, hC.at_.cell 0 rfl⟩, ?_⟩
   refine dO 15 (Zr rfl rfl rfl ?_)
   have kA := (M.ch bU (dS A G om)).ch bV (dS A G om)
   refine Step.call (Zm (xs := [.tmp 49, .tmp 50]) fk117 rfl) (Zx ae kA (by decide) F.heap.size om A) fun aC kB X => ?_
   obtain ⟨b, rfl, z, O, cJ⟩ := X
   have mT := cJ.size
   have E := E.trans cJ
   have aD : 0 ≤ b ∧ b ≤ 2 := by have aw := z; simp at aw; omega
   have ec : Ch ([b_c] ++ (bl (.slice Aev (es).length Cev)) ++ [y]) F kB := (eb.step cJ (fun i hm => by have r := List.mem_singleton.1 hm; exact .inr (by rw [r]; exact (List.mem_append_left _ (List.mem_append_left _ (List.mem_singleton.2 rfl))))))
   have hD := hC.ch cJ (nS om)
   refine ⟨⟨ec, hD.at_.cell 0 rfl⟩, ?_⟩
   refine dV 16 rfl rfl rfl (fun _ => Ys (parts := [(0, .tmp 38), (1, .tmp 43), (2, .tmp 48), (3, .tmp 51)]) (cells := [(.int .i64 ((id + 1) + d)), (.int .i64 j), (.int .i64 f), (.int .i64 b)]) zr129 pl129 rfl rfl) (dO 17 (Zr rfl rfl rfl ?_))
   refine Zq (cs := GEdge.cs) (parts := [(0, .tmp 52)]) (⟨0, 0, 0, 0⟩ : GEdge) [(⟨((id + 1) + d), j, f, b⟩ : GEdge)] el34 sz129 zr129 GEdge.len (by decide) rfl rfl rfl (by decide) (by decide) rfl fun au kC B Z bW => ?_
   have mU := bW.size
   have E := E.trans bW.of_nil
   obtain ⟨aa, ab, rfl, ac, K⟩ := B.opn
   have ed : Ch ([b_c] ++ (bl (.slice Aev (es).length Cev)) ++ [y]) F kC := (ec.trans bW.of_nil)
   have hF := hD.ch0 bW
   refine ⟨⟨ed, hF.at_.cell 0 rfl⟩, ?_⟩
   refine dO 18 (Zr rfl rfl rfl ?_)
   have kD := ((((((H.ch Y (dS a hiev om)).ch0 P).ch0 ai).ch bU (dS a hiev om)).ch bV (dS a hiev om)).ch cJ (dS a hiev om)).ch0 bW
   refine Yg (cs := GEdge.cs) el34 sz129 by129 zr129 rfl (by decide) GEdge.one kD B.ls rfl rfl bd bd a om fun av kE C D s cK => ?_
   have mV := cK.size
   have E := E.step cK (fun i hi => .inl (by have Q := a _ hi; omega))
   obtain ⟨t, u, rfl, ad, p⟩ := C.opn
   have ee : Ch ([b_c] ++ (bl (.slice Aev (es).length Cev)) ++ [y]) F kE := (ed.step cK (fun i hm => by exact .inr (List.mem_append_left _ (List.mem_append_right _ hm))))
   have hG := hF.ch cK (fun hm => by exact l (by first | exact hm | exact r ▸ hm))
   refine ⟨⟨ee, hG.at_.cell 0 rfl⟩, ?_⟩
   refine dV 19 rfl rfl rfl (fun _ => Zd fa36_1 rfl) (dO 20 (Zr rfl rfl rfl ?_))
   refine Zy (off := 1) hG sz34 rfl rfl rfl rfl fun fg a9 cL => ?_
   have mW := cL.size
   have E := E.step cL (lS om)
   replace a9 : Blk fg y 36 [(.slice Avw (V).length Cvw), (.slice t ((es ++ [(⟨((id + 1) + d), j, f, b⟩ : GEdge)])).length u)] := a9
   have gh : Ch ([b_c] ++ (bl (.slice Aev (es).length Cev)) ++ [y]) F fg := (ee.step cL (fun i hm => by have r := List.mem_singleton.1 hm; exact .inr (by rw [r]; exact (List.mem_append_right _ (List.mem_singleton.2 rfl)))))
   refine ⟨⟨gh, a9.at_.cell 0 rfl⟩, ?_⟩
   refine Zw (by kernel_rfl) ?_
   refine Yc (Zb (bi _ _ (Zc (Za rfl rfl (Zg rfl) (Za rfl rfl (Xe om rfl rfl) (Za rfl rfl (Zf rfl) (Ze ?_)))))))
   have kF := ((((((((S.ch Y (dS c q om)).ch0 P).ch0 ai).ch bU (dS c q om)).ch bV (dS c q om)).ch cJ (dS c q om)).ch0 bW).ch cK (fun g hg hm => by exact o _ hm hg)).ch cL (fun g hg hm => by have r := List.mem_singleton.1 hm; exact x (by first | exact hg | exact r ▸ hg))
   have fh : Ol ics 3 1 fg (.slice Avw (V).length Cvw) (V) := by
    have hx := kF
    exact hx
   have kG := C.ch cL (fun g hg hm => by have r := List.mem_singleton.1 hm; rcases s with ea | ea; (rw [ea] at hg; exact l (by first | exact hg | exact r ▸ hg)); (have aj := p _ hg; rw [ea] at hg; have U := List.mem_singleton.1 hg; omega))
   have fi : Ol GEdge.cs 129 4 fg (.slice t ((es ++ [(⟨((id + 1) + d), j, f, b⟩ : GEdge)])).length u) ((es ++ [(⟨((id + 1) + d), j, f, b⟩ : GEdge)])) := by
    have hx := kG
    exact hx
   have kH := ((O.ch0 bW).ch cK (fun i hm => by have Q := a _ hm; have ak := hiev _ hm; omega)).ch cL (oS om)
   have kI := ((((((((R.ch Y (nS om)).ch0 P).ch0 ai).ch bU (nS om)).ch bV (nS om)).ch cJ (nS om)).ch0 bW).ch cK (fun hm => by have Q := a _ hm; have ak := hiev _ hm; omega)).ch cL (nS om)
   exact Zb (Exists.intro ((n - 1), ((id + 1) + d), (es ++ [(⟨((id + 1) + d), j, f, b⟩ : GEdge)]), (.slice Avw (V).length Cvw), (.slice t ((es ++ [(⟨((id + 1) + d), j, f, b⟩ : GEdge)])).length u)) ⟨⟨E, om, (by simp only [List.length_append, List.length_singleton]; omega), (by simp only [List.length_append, List.length_singleton]; omega), (Zah hE ⟨by dsimp only; omega, by dsimp only; omega, by dsimp only; omega, by dsimp only; omega⟩ (by dsimp only; omega)), kH, kI, fh, (Lo.down c om), fi, (Lo.down D om), a9, (fun hm => by exact x (by first | exact hm | exact r ▸ hm)), (fun g hm hg => by rcases s with ea | ea; (rw [ea] at hm; exact o _ hm hg); (have I := p _ hm; rw [ea] at hm; have U := List.mem_singleton.1 hm; have bs := c _ hg; have bu := q _ hg; omega)), (fun hm => by rcases s with ea | ea; (rw [ea] at hm; exact l (by first | exact hm | exact r ▸ hm)); (have I := p _ hm; rw [ea] at hm; have U := List.mem_singleton.1 hm; omega))⟩, sC4 rfl rfl rfl rfl (sC1 rfl (Sub.nil _)), (by first | omega | (dsimp only; omega))⟩)
  refine Zr rfl rfl rfl ?_
  have kJ := (db.ch0 P).ch0 ai
  refine Step.call (Zm (xs := [.tmp 39, .tmp 42]) fk95 rfl) (Zs kJ _ om) fun ez kK aN => ?_
  obtain ⟨j, rfl, aO, ay, al⟩ := aN
  have mX := al.size
  have E := E.trans al
  have ba : Ch ([b_c] ++ (bl (.slice Aev (es).length Cev)) ++ [y]) F kK := (a8.step al (fun i hm => by have r := List.mem_singleton.1 hm; exact .inr (by rw [r]; exact (List.mem_append_left _ (List.mem_append_left _ (List.mem_singleton.2 rfl))))))
  have ef := d8.ch al (nS om)
  refine ⟨⟨ba, ef.at_.cell 0 rfl⟩, ?_⟩
  refine Xd 1 12 (by kernel_rfl) ?_ ?_
  ·refine Zr rfl rfl rfl ?_
   refine s_v (Zp ef.at_ agg34 rfl rfl) ?_
   refine ⟨⟨ba, ef.at_.cell 0 rfl⟩, ?_⟩
   refine dO 12 (Zr rfl rfl rfl ?_)
   refine Step.call (Zm (xs := [.tmp 44, .tmp 47]) fk95 rfl) (Zs ay _ om) fun aJ kL ag => ?_
   obtain ⟨f, rfl, ah, ae, bX⟩ := ag
   have mY := bX.size
   have E := E.trans bX
   have eg : Ch ([b_c] ++ (bl (.slice Aev (es).length Cev)) ++ [y]) F kL := (ba.step bX (fun i hm => by have r := List.mem_singleton.1 hm; exact .inr (by rw [r]; exact (List.mem_append_left _ (List.mem_append_left _ (List.mem_singleton.2 rfl))))))
   have hH := ef.ch bX (nS om)
   refine ⟨⟨eg, hH.at_.cell 0 rfl⟩, ?_⟩
   refine dO 15 (Zr rfl rfl rfl ?_)
   have kM := (M.ch al (dS A G om)).ch bX (dS A G om)
   refine Step.call (Zm (xs := [.tmp 49, .tmp 50]) fk117 rfl) (Zx ae kM (by decide) F.heap.size om A) fun aC kN X => ?_
   obtain ⟨b, rfl, z, O, cM⟩ := X
   have mZ := cM.size
   have E := E.trans cM
   have aD : 0 ≤ b ∧ b ≤ 2 := by have aw := z; simp at aw; omega
   have eh : Ch ([b_c] ++ (bl (.slice Aev (es).length Cev)) ++ [y]) F kN := (eg.step cM (fun i hm => by have r := List.mem_singleton.1 hm; exact .inr (by rw [r]; exact (List.mem_append_left _ (List.mem_append_left _ (List.mem_singleton.2 rfl))))))
   have hI := hH.ch cM (nS om)
   refine ⟨⟨eh, hI.at_.cell 0 rfl⟩, ?_⟩
   refine dV 16 rfl rfl rfl (fun _ => Ys (parts := [(0, .tmp 38), (1, .tmp 43), (2, .tmp 48), (3, .tmp 51)]) (cells := [(.int .i64 ((id + 1) + d)), (.int .i64 j), (.int .i64 f), (.int .i64 b)]) zr129 pl129 rfl rfl) (dO 17 (Zr rfl rfl rfl ?_))
   refine Zq (cs := GEdge.cs) (parts := [(0, .tmp 52)]) (⟨0, 0, 0, 0⟩ : GEdge) [(⟨((id + 1) + d), j, f, b⟩ : GEdge)] el34 sz129 zr129 GEdge.len (by decide) rfl rfl rfl (by decide) (by decide) rfl fun au kO B Z bY => ?_
   have m0 := bY.size
   have E := E.trans bY.of_nil
   obtain ⟨aa, ab, rfl, ac, K⟩ := B.opn
   have ei : Ch ([b_c] ++ (bl (.slice Aev (es).length Cev)) ++ [y]) F kO := (eh.trans bY.of_nil)
   have hJ := hI.ch0 bY
   refine ⟨⟨ei, hJ.at_.cell 0 rfl⟩, ?_⟩
   refine dO 18 (Zr rfl rfl rfl ?_)
   have kP := ((((((H.ch Y (dS a hiev om)).ch0 P).ch0 ai).ch al (dS a hiev om)).ch bX (dS a hiev om)).ch cM (dS a hiev om)).ch0 bY
   refine Yg (cs := GEdge.cs) el34 sz129 by129 zr129 rfl (by decide) GEdge.one kP B.ls rfl rfl bd bd a om fun av kQ C D s cN => ?_
   have m1 := cN.size
   have E := E.step cN (fun i hi => .inl (by have Q := a _ hi; omega))
   obtain ⟨t, u, rfl, ad, p⟩ := C.opn
   have ej : Ch ([b_c] ++ (bl (.slice Aev (es).length Cev)) ++ [y]) F kQ := (ei.step cN (fun i hm => by exact .inr (List.mem_append_left _ (List.mem_append_right _ hm))))
   have hK := hJ.ch cN (fun hm => by exact l (by first | exact hm | exact r ▸ hm))
   refine ⟨⟨ej, hK.at_.cell 0 rfl⟩, ?_⟩
   refine dV 19 rfl rfl rfl (fun _ => Zd fa36_1 rfl) (dO 20 (Zr rfl rfl rfl ?_))
   refine Zy (off := 1) hK sz34 rfl rfl rfl rfl fun fj bb cO => ?_
   have m2 := cO.size
   have E := E.step cO (lS om)
   replace bb : Blk fj y 36 [(.slice Avw (V).length Cvw), (.slice t ((es ++ [(⟨((id + 1) + d), j, f, b⟩ : GEdge)])).length u)] := bb
   have gi : Ch ([b_c] ++ (bl (.slice Aev (es).length Cev)) ++ [y]) F fj := (ej.step cO (fun i hm => by have r := List.mem_singleton.1 hm; exact .inr (by rw [r]; exact (List.mem_append_right _ (List.mem_singleton.2 rfl)))))
   refine ⟨⟨gi, bb.at_.cell 0 rfl⟩, ?_⟩
   refine Zw (by kernel_rfl) ?_
   refine Yc (Zb (bi _ _ (Zc (Za rfl rfl (Zg rfl) (Za rfl rfl (Xe om rfl rfl) (Za rfl rfl (Zf rfl) (Ze ?_)))))))
   have kR := ((((((((S.ch Y (dS c q om)).ch0 P).ch0 ai).ch al (dS c q om)).ch bX (dS c q om)).ch cM (dS c q om)).ch0 bY).ch cN (fun g hg hm => by exact o _ hm hg)).ch cO (fun g hg hm => by have r := List.mem_singleton.1 hm; exact x (by first | exact hg | exact r ▸ hg))
   have fk : Ol ics 3 1 fj (.slice Avw (V).length Cvw) (V) := by
    have hx := kR
    exact hx
   have kS := C.ch cO (fun g hg hm => by have r := List.mem_singleton.1 hm; rcases s with ea | ea; (rw [ea] at hg; exact l (by first | exact hg | exact r ▸ hg)); (have aj := p _ hg; rw [ea] at hg; have U := List.mem_singleton.1 hg; omega))
   have fl : Ol GEdge.cs 129 4 fj (.slice t ((es ++ [(⟨((id + 1) + d), j, f, b⟩ : GEdge)])).length u) ((es ++ [(⟨((id + 1) + d), j, f, b⟩ : GEdge)])) := by
    have hx := kS
    exact hx
   have kT := ((O.ch0 bY).ch cN (fun i hm => by have Q := a _ hm; have ak := hiev _ hm; omega)).ch cO (oS om)
   have kU := ((((((((R.ch Y (nS om)).ch0 P).ch0 ai).ch al (nS om)).ch bX (nS om)).ch cM (nS om)).ch0 bY).ch cN (fun hm => by have Q := a _ hm; have ak := hiev _ hm; omega)).ch cO (nS om)
   exact Zb (Exists.intro ((n - 1), ((id + 1) + d), (es ++ [(⟨((id + 1) + d), j, f, b⟩ : GEdge)]), (.slice Avw (V).length Cvw), (.slice t ((es ++ [(⟨((id + 1) + d), j, f, b⟩ : GEdge)])).length u)) ⟨⟨E, om, (by simp only [List.length_append, List.length_singleton]; omega), (by simp only [List.length_append, List.length_singleton]; omega), (Zah hE ⟨by dsimp only; omega, by dsimp only; omega, by dsimp only; omega, by dsimp only; omega⟩ (by dsimp only; omega)), kT, kU, fk, (Lo.down c om), fl, (Lo.down D om), bb, (fun hm => by exact x (by first | exact hm | exact r ▸ hm)), (fun g hm hg => by rcases s with ea | ea; (rw [ea] at hm; exact o _ hm hg); (have I := p _ hm; rw [ea] at hm; have U := List.mem_singleton.1 hm; have bs := c _ hg; have bu := q _ hg; omega)), (fun hm => by rcases s with ea | ea; (rw [ea] at hm; exact l (by first | exact hm | exact r ▸ hm)); (have I := p _ hm; rw [ea] at hm; have U := List.mem_singleton.1 hm; omega))⟩, sC4 rfl rfl rfl rfl (sC1 rfl (Sub.nil _)), (by first | omega | (dsimp only; omega))⟩)
  refine Zr rfl rfl rfl ?_
  refine Step.call (Zm (xs := [.tmp 44, .tmp 47]) fk95 rfl) (Zs ay _ om) fun aJ kV ag => ?_
  obtain ⟨f, rfl, ah, ae, aB⟩ := ag
  have m3 := aB.size
  have E := E.trans aB
  have bc : Ch ([b_c] ++ (bl (.slice Aev (es).length Cev)) ++ [y]) F kV := (ba.step aB (fun i hm => by have r := List.mem_singleton.1 hm; exact .inr (by rw [r]; exact (List.mem_append_left _ (List.mem_append_left _ (List.mem_singleton.2 rfl))))))
  have ek := ef.ch aB (nS om)
  refine ⟨⟨bc, ek.at_.cell 0 rfl⟩, ?_⟩
  refine Xd 1 15 (by kernel_rfl) ?_ ?_
  ·refine Zr rfl rfl rfl ?_
   refine s_v (Zp ek.at_ agg34 rfl rfl) ?_
   refine ⟨⟨bc, ek.at_.cell 0 rfl⟩, ?_⟩
   refine dO 15 (Zr rfl rfl rfl ?_)
   have kW := (M.ch al (dS A G om)).ch aB (dS A G om)
   refine Step.call (Zm (xs := [.tmp 49, .tmp 50]) fk117 rfl) (Zx ae kW (by decide) F.heap.size om A) fun aC kX X => ?_
   obtain ⟨b, rfl, z, O, cP⟩ := X
   have m4 := cP.size
   have E := E.trans cP
   have aD : 0 ≤ b ∧ b ≤ 2 := by have aw := z; simp at aw; omega
   have el : Ch ([b_c] ++ (bl (.slice Aev (es).length Cev)) ++ [y]) F kX := (bc.step cP (fun i hm => by have r := List.mem_singleton.1 hm; exact .inr (by rw [r]; exact (List.mem_append_left _ (List.mem_append_left _ (List.mem_singleton.2 rfl))))))
   have hL := ek.ch cP (nS om)
   refine ⟨⟨el, hL.at_.cell 0 rfl⟩, ?_⟩
   refine dV 16 rfl rfl rfl (fun _ => Ys (parts := [(0, .tmp 38), (1, .tmp 43), (2, .tmp 48), (3, .tmp 51)]) (cells := [(.int .i64 ((id + 1) + d)), (.int .i64 j), (.int .i64 f), (.int .i64 b)]) zr129 pl129 rfl rfl) (dO 17 (Zr rfl rfl rfl ?_))
   refine Zq (cs := GEdge.cs) (parts := [(0, .tmp 52)]) (⟨0, 0, 0, 0⟩ : GEdge) [(⟨((id + 1) + d), j, f, b⟩ : GEdge)] el34 sz129 zr129 GEdge.len (by decide) rfl rfl rfl (by decide) (by decide) rfl fun au kY B Z bZ => ?_
   have m5 := bZ.size
   have E := E.trans bZ.of_nil
   obtain ⟨aa, ab, rfl, ac, K⟩ := B.opn
   have em : Ch ([b_c] ++ (bl (.slice Aev (es).length Cev)) ++ [y]) F kY := (el.trans bZ.of_nil)
   have hM := hL.ch0 bZ
   refine ⟨⟨em, hM.at_.cell 0 rfl⟩, ?_⟩
   refine dO 18 (Zr rfl rfl rfl ?_)
   have kZ := ((((((H.ch Y (dS a hiev om)).ch0 P).ch0 ai).ch al (dS a hiev om)).ch aB (dS a hiev om)).ch cP (dS a hiev om)).ch0 bZ
   refine Yg (cs := GEdge.cs) el34 sz129 by129 zr129 rfl (by decide) GEdge.one kZ B.ls rfl rfl bd bd a om fun av k2 C D s cQ => ?_
   have m6 := cQ.size
   have E := E.step cQ (fun i hi => .inl (by have Q := a _ hi; omega))
   obtain ⟨t, u, rfl, ad, p⟩ := C.opn
   have en : Ch ([b_c] ++ (bl (.slice Aev (es).length Cev)) ++ [y]) F k2 := (em.step cQ (fun i hm => by exact .inr (List.mem_append_left _ (List.mem_append_right _ hm))))
   have hN := hM.ch cQ (fun hm => by exact l (by first | exact hm | exact r ▸ hm))
   refine ⟨⟨en, hN.at_.cell 0 rfl⟩, ?_⟩
   refine dV 19 rfl rfl rfl (fun _ => Zd fa36_1 rfl) (dO 20 (Zr rfl rfl rfl ?_))
   refine Zy (off := 1) hN sz34 rfl rfl rfl rfl fun fm be cR => ?_
   have m7 := cR.size
   have E := E.step cR (lS om)
   replace be : Blk fm y 36 [(.slice Avw (V).length Cvw), (.slice t ((es ++ [(⟨((id + 1) + d), j, f, b⟩ : GEdge)])).length u)] := be
   have gj : Ch ([b_c] ++ (bl (.slice Aev (es).length Cev)) ++ [y]) F fm := (en.step cR (fun i hm => by have r := List.mem_singleton.1 hm; exact .inr (by rw [r]; exact (List.mem_append_right _ (List.mem_singleton.2 rfl)))))
   refine ⟨⟨gj, be.at_.cell 0 rfl⟩, ?_⟩
   refine Zw (by kernel_rfl) ?_
   refine Yc (Zb (bi _ _ (Zc (Za rfl rfl (Zg rfl) (Za rfl rfl (Xe om rfl rfl) (Za rfl rfl (Zf rfl) (Ze ?_)))))))
   have k3 := ((((((((S.ch Y (dS c q om)).ch0 P).ch0 ai).ch al (dS c q om)).ch aB (dS c q om)).ch cP (dS c q om)).ch0 bZ).ch cQ (fun g hg hm => by exact o _ hm hg)).ch cR (fun g hg hm => by have r := List.mem_singleton.1 hm; exact x (by first | exact hg | exact r ▸ hg))
   have fn : Ol ics 3 1 fm (.slice Avw (V).length Cvw) (V) := by
    have hx := k3
    exact hx
   have k4 := C.ch cR (fun g hg hm => by have r := List.mem_singleton.1 hm; rcases s with ea | ea; (rw [ea] at hg; exact l (by first | exact hg | exact r ▸ hg)); (have aj := p _ hg; rw [ea] at hg; have U := List.mem_singleton.1 hg; omega))
   have fo : Ol GEdge.cs 129 4 fm (.slice t ((es ++ [(⟨((id + 1) + d), j, f, b⟩ : GEdge)])).length u) ((es ++ [(⟨((id + 1) + d), j, f, b⟩ : GEdge)])) := by
    have hx := k4
    exact hx
   have k5 := ((O.ch0 bZ).ch cQ (fun i hm => by have Q := a _ hm; have ak := hiev _ hm; omega)).ch cR (oS om)
   have k6 := ((((((((R.ch Y (nS om)).ch0 P).ch0 ai).ch al (nS om)).ch aB (nS om)).ch cP (nS om)).ch0 bZ).ch cQ (fun hm => by have Q := a _ hm; have ak := hiev _ hm; omega)).ch cR (nS om)
   exact Zb (Exists.intro ((n - 1), ((id + 1) + d), (es ++ [(⟨((id + 1) + d), j, f, b⟩ : GEdge)]), (.slice Avw (V).length Cvw), (.slice t ((es ++ [(⟨((id + 1) + d), j, f, b⟩ : GEdge)])).length u)) ⟨⟨E, om, (by simp only [List.length_append, List.length_singleton]; omega), (by simp only [List.length_append, List.length_singleton]; omega), (Zah hE ⟨by dsimp only; omega, by dsimp only; omega, by dsimp only; omega, by dsimp only; omega⟩ (by dsimp only; omega)), k5, k6, fn, (Lo.down c om), fo, (Lo.down D om), be, (fun hm => by exact x (by first | exact hm | exact r ▸ hm)), (fun g hm hg => by rcases s with ea | ea; (rw [ea] at hm; exact o _ hm hg); (have I := p _ hm; rw [ea] at hm; have U := List.mem_singleton.1 hm; have bs := c _ hg; have bu := q _ hg; omega)), (fun hm => by rcases s with ea | ea; (rw [ea] at hm; exact l (by first | exact hm | exact r ▸ hm)); (have I := p _ hm; rw [ea] at hm; have U := List.mem_singleton.1 hm; omega))⟩, sC4 rfl rfl rfl rfl (sC1 rfl (Sub.nil _)), (by first | omega | (dsimp only; omega))⟩)
  refine Zr rfl rfl rfl ?_
  have k7 := (M.ch al (dS A G om)).ch aB (dS A G om)
  refine Step.call (Zm (xs := [.tmp 49, .tmp 50]) fk117 rfl) (Zx ae k7 (by decide) F.heap.size om A) fun aC k8 X => ?_
  obtain ⟨b, rfl, z, O, aM⟩ := X
  have m8 := aM.size
  have E := E.trans aM
  have aD : 0 ≤ b ∧ b ≤ 2 := by have aw := z; simp at aw; omega
  have bf : Ch ([b_c] ++ (bl (.slice Aev (es).length Cev)) ++ [y]) F k8 := (bc.step aM (fun i hm => by have r := List.mem_singleton.1 hm; exact .inr (by rw [r]; exact (List.mem_append_left _ (List.mem_append_left _ (List.mem_singleton.2 rfl))))))
  have eo := ek.ch aM (nS om)
  refine ⟨⟨bf, eo.at_.cell 0 rfl⟩, ?_⟩
  refine dV 16 rfl rfl rfl (fun _ => Ys (parts := [(0, .tmp 38), (1, .tmp 43), (2, .tmp 48), (3, .tmp 51)]) (cells := [(.int .i64 ((id + 1) + d)), (.int .i64 j), (.int .i64 f), (.int .i64 b)]) zr129 pl129 rfl rfl) ?_
  refine Xd 1 17 (by kernel_rfl) ?_ ?_
  ·refine Zr rfl rfl rfl ?_
   refine s_v (Zp eo.at_ agg34 rfl rfl) ?_
   refine ⟨⟨bf, eo.at_.cell 0 rfl⟩, ?_⟩
   refine dO 17 (Zr rfl rfl rfl ?_)
   refine Zq (cs := GEdge.cs) (parts := [(0, .tmp 52)]) (⟨0, 0, 0, 0⟩ : GEdge) [(⟨((id + 1) + d), j, f, b⟩ : GEdge)] el34 sz129 zr129 GEdge.len (by decide) rfl rfl rfl (by decide) (by decide) rfl fun au k9 B Z b0 => ?_
   have m9 := b0.size
   have E := E.trans b0.of_nil
   obtain ⟨aa, ab, rfl, ac, K⟩ := B.opn
   have ep : Ch ([b_c] ++ (bl (.slice Aev (es).length Cev)) ++ [y]) F k9 := (bf.trans b0.of_nil)
   have hO := eo.ch0 b0
   refine ⟨⟨ep, hO.at_.cell 0 rfl⟩, ?_⟩
   refine dO 18 (Zr rfl rfl rfl ?_)
   have la := ((((((H.ch Y (dS a hiev om)).ch0 P).ch0 ai).ch al (dS a hiev om)).ch aB (dS a hiev om)).ch aM (dS a hiev om)).ch0 b0
   refine Yg (cs := GEdge.cs) el34 sz129 by129 zr129 rfl (by decide) GEdge.one la B.ls rfl rfl bd bd a om fun av lc C D s cS => ?_
   have na := cS.size
   have E := E.step cS (fun i hi => .inl (by have Q := a _ hi; omega))
   obtain ⟨t, u, rfl, ad, p⟩ := C.opn
   have er : Ch ([b_c] ++ (bl (.slice Aev (es).length Cev)) ++ [y]) F lc := (ep.step cS (fun i hm => by exact .inr (List.mem_append_left _ (List.mem_append_right _ hm))))
   have hP := hO.ch cS (fun hm => by exact l (by first | exact hm | exact r ▸ hm))
   refine ⟨⟨er, hP.at_.cell 0 rfl⟩, ?_⟩
   refine dV 19 rfl rfl rfl (fun _ => Zd fa36_1 rfl) (dO 20 (Zr rfl rfl rfl ?_))
   refine Zy (off := 1) hP sz34 rfl rfl rfl rfl fun fp bg cT => ?_
   have nb := cT.size
   have E := E.step cT (lS om)
   replace bg : Blk fp y 36 [(.slice Avw (V).length Cvw), (.slice t ((es ++ [(⟨((id + 1) + d), j, f, b⟩ : GEdge)])).length u)] := bg
   have gk : Ch ([b_c] ++ (bl (.slice Aev (es).length Cev)) ++ [y]) F fp := (er.step cT (fun i hm => by have r := List.mem_singleton.1 hm; exact .inr (by rw [r]; exact (List.mem_append_right _ (List.mem_singleton.2 rfl)))))
   refine ⟨⟨gk, bg.at_.cell 0 rfl⟩, ?_⟩
   refine Zw (by kernel_rfl) ?_
   refine Yc (Zb (bi _ _ (Zc (Za rfl rfl (Zg rfl) (Za rfl rfl (Xe om rfl rfl) (Za rfl rfl (Zf rfl) (Ze ?_)))))))
   have ld := ((((((((S.ch Y (dS c q om)).ch0 P).ch0 ai).ch al (dS c q om)).ch aB (dS c q om)).ch aM (dS c q om)).ch0 b0).ch cS (fun g hg hm => by exact o _ hm hg)).ch cT (fun g hg hm => by have r := List.mem_singleton.1 hm; exact x (by first | exact hg | exact r ▸ hg))
   have fq : Ol ics 3 1 fp (.slice Avw (V).length Cvw) (V) := by
    have hx := ld
    exact hx
   have le := C.ch cT (fun g hg hm => by have r := List.mem_singleton.1 hm; rcases s with ea | ea; (rw [ea] at hg; exact l (by first | exact hg | exact r ▸ hg)); (have aj := p _ hg; rw [ea] at hg; have U := List.mem_singleton.1 hg; omega))
   have fr : Ol GEdge.cs 129 4 fp (.slice t ((es ++ [(⟨((id + 1) + d), j, f, b⟩ : GEdge)])).length u) ((es ++ [(⟨((id + 1) + d), j, f, b⟩ : GEdge)])) := by
    have hx := le
    exact hx
   have lf := ((O.ch0 b0).ch cS (fun i hm => by have Q := a _ hm; have ak := hiev _ hm; omega)).ch cT (oS om)
   have lg := ((((((((R.ch Y (nS om)).ch0 P).ch0 ai).ch al (nS om)).ch aB (nS om)).ch aM (nS om)).ch0 b0).ch cS (fun hm => by have Q := a _ hm; have ak := hiev _ hm; omega)).ch cT (nS om)
   exact Zb (Exists.intro ((n - 1), ((id + 1) + d), (es ++ [(⟨((id + 1) + d), j, f, b⟩ : GEdge)]), (.slice Avw (V).length Cvw), (.slice t ((es ++ [(⟨((id + 1) + d), j, f, b⟩ : GEdge)])).length u)) ⟨⟨E, om, (by simp only [List.length_append, List.length_singleton]; omega), (by simp only [List.length_append, List.length_singleton]; omega), (Zah hE ⟨by dsimp only; omega, by dsimp only; omega, by dsimp only; omega, by dsimp only; omega⟩ (by dsimp only; omega)), lf, lg, fq, (Lo.down c om), fr, (Lo.down D om), bg, (fun hm => by exact x (by first | exact hm | exact r ▸ hm)), (fun g hm hg => by rcases s with ea | ea; (rw [ea] at hm; exact o _ hm hg); (have I := p _ hm; rw [ea] at hm; have U := List.mem_singleton.1 hm; have bs := c _ hg; have bu := q _ hg; omega)), (fun hm => by rcases s with ea | ea; (rw [ea] at hm; exact l (by first | exact hm | exact r ▸ hm)); (have I := p _ hm; rw [ea] at hm; have U := List.mem_singleton.1 hm; omega))⟩, sC4 rfl rfl rfl rfl (sC1 rfl (Sub.nil _)), (by first | omega | (dsimp only; omega))⟩)
  refine Zr rfl rfl rfl ?_
  refine Zq (cs := GEdge.cs) (parts := [(0, .tmp 52)]) (⟨0, 0, 0, 0⟩ : GEdge) [(⟨((id + 1) + d), j, f, b⟩ : GEdge)] el34 sz129 zr129 GEdge.len (by decide) rfl rfl rfl (by decide) (by decide) rfl fun au lh B Z b1 => ?_
  have nc := b1.size
  have E := E.trans b1.of_nil
  obtain ⟨aa, ab, rfl, ac, K⟩ := B.opn
  have cU : Ch ([b_c] ++ (bl (.slice Aev (es).length Cev)) ++ [y]) F lh := (bf.trans b1.of_nil)
  have fs := eo.ch0 b1
  refine ⟨⟨cU, fs.at_.cell 0 rfl⟩, ?_⟩
  refine dO 1 (Zr rfl rfl rfl ?_)
  refine s_v (Zp fs.at_ agg34 rfl rfl) ?_
  refine ⟨⟨cU, fs.at_.cell 0 rfl⟩, ?_⟩
  refine dO 18 (Zr rfl rfl rfl ?_)
  have li := ((((((H.ch Y (dS a hiev om)).ch0 P).ch0 ai).ch al (dS a hiev om)).ch aB (dS a hiev om)).ch aM (dS a hiev om)).ch0 b1
  refine Yg (cs := GEdge.cs) el34 sz129 by129 zr129 rfl (by decide) GEdge.one li B.ls rfl rfl bd bd a om fun av lj C D s cV => ?_
  have nd := cV.size
  have E := E.step cV (fun i hi => .inl (by have Q := a _ hi; omega))
  obtain ⟨t, u, rfl, ad, p⟩ := C.opn
  have et : Ch ([b_c] ++ (bl (.slice Aev (es).length Cev)) ++ [y]) F lj := (cU.step cV (fun i hm => by exact .inr (List.mem_append_left _ (List.mem_append_right _ hm))))
  have hQ := fs.ch cV (fun hm => by exact l (by first | exact hm | exact r ▸ hm))
  refine ⟨⟨et, hQ.at_.cell 0 rfl⟩, ?_⟩
  refine dV 19 rfl rfl rfl (fun _ => Zd fa36_1 rfl) (dO 20 (Zr rfl rfl rfl ?_))
  refine Zy (off := 1) hQ sz34 rfl rfl rfl rfl fun ft bh cW => ?_
  have nf := cW.size
  have E := E.step cW (lS om)
  replace bh : Blk ft y 36 [(.slice Avw (V).length Cvw), (.slice t ((es ++ [(⟨((id + 1) + d), j, f, b⟩ : GEdge)])).length u)] := bh
  have gl : Ch ([b_c] ++ (bl (.slice Aev (es).length Cev)) ++ [y]) F ft := (et.step cW (fun i hm => by have r := List.mem_singleton.1 hm; exact .inr (by rw [r]; exact (List.mem_append_right _ (List.mem_singleton.2 rfl)))))
  refine ⟨⟨gl, bh.at_.cell 0 rfl⟩, ?_⟩
  refine Zw (by kernel_rfl) ?_
  refine Yc (Zb (bi _ _ (Zc (Za rfl rfl (Zg rfl) (Za rfl rfl (Xe om rfl rfl) (Za rfl rfl (Zf rfl) (Ze ?_)))))))
  have lk := ((((((((S.ch Y (dS c q om)).ch0 P).ch0 ai).ch al (dS c q om)).ch aB (dS c q om)).ch aM (dS c q om)).ch0 b1).ch cV (fun g hg hm => by exact o _ hm hg)).ch cW (fun g hg hm => by have r := List.mem_singleton.1 hm; exact x (by first | exact hg | exact r ▸ hg))
  have fu : Ol ics 3 1 ft (.slice Avw (V).length Cvw) (V) := by
   have hx := lk
   exact hx
  have ll := C.ch cW (fun g hg hm => by have r := List.mem_singleton.1 hm; rcases s with ea | ea; (rw [ea] at hg; exact l (by first | exact hg | exact r ▸ hg)); (have aj := p _ hg; rw [ea] at hg; have U := List.mem_singleton.1 hg; omega))
  have fv : Ol GEdge.cs 129 4 ft (.slice t ((es ++ [(⟨((id + 1) + d), j, f, b⟩ : GEdge)])).length u) ((es ++ [(⟨((id + 1) + d), j, f, b⟩ : GEdge)])) := by
   have hx := ll
   exact hx
  have lm := ((O.ch0 b1).ch cV (fun i hm => by have Q := a _ hm; have ak := hiev _ hm; omega)).ch cW (oS om)
  have ln := ((((((((R.ch Y (nS om)).ch0 P).ch0 ai).ch al (nS om)).ch aB (nS om)).ch aM (nS om)).ch0 b1).ch cV (fun hm => by have Q := a _ hm; have ak := hiev _ hm; omega)).ch cW (nS om)
  exact Zb (Exists.intro ((n - 1), ((id + 1) + d), (es ++ [(⟨((id + 1) + d), j, f, b⟩ : GEdge)]), (.slice Avw (V).length Cvw), (.slice t ((es ++ [(⟨((id + 1) + d), j, f, b⟩ : GEdge)])).length u)) ⟨⟨E, om, (by simp only [List.length_append, List.length_singleton]; omega), (by simp only [List.length_append, List.length_singleton]; omega), (Zah hE ⟨by dsimp only; omega, by dsimp only; omega, by dsimp only; omega, by dsimp only; omega⟩ (by dsimp only; omega)), lm, ln, fu, (Lo.down c om), fv, (Lo.down D om), bh, (fun hm => by exact x (by first | exact hm | exact r ▸ hm)), (fun g hm hg => by rcases s with ea | ea; (rw [ea] at hm; exact o _ hm hg); (have I := p _ hm; rw [ea] at hm; have U := List.mem_singleton.1 hm; have bs := c _ hg; have bu := q _ hg; omega)), (fun hm => by rcases s with ea | ea; (rw [ea] at hm; exact l (by first | exact hm | exact r ▸ hm)); (have I := p _ hm; rw [ea] at hm; have U := List.mem_singleton.1 hm; omega))⟩, sC4 rfl rfl rfl rfl (sC1 rfl (Sub.nil _)), (by first | omega | (dsimp only; omega))⟩)
 have ii := b3
 have b3 := Yu b3
 refine Xx (Yh (Yh (Xg ?_)))
 refine Zb (n6 _ _ ?_)
 refine Zh fun oy lo => ?_
 refine Zc (Za rfl rfl (Zi fL.at_ agg36 sz36 rfl) (Zl rfl rfl ?_))
 refine Zk (off := 0) 2 R sz36 rfl (us := [(.slice Avw (V).length Cvw), (.slice Aev (es).length Cev)]) rfl rfl rfl rfl fun gm cX eu => ?_
 have ng := eu.size
 have E := E.step eu (lS om)
 replace cX : Blk gm gq 36 [(.slice Avw (V).length Cvw), (.slice Aev (es).length Cev)] := cX
 refine Ze (Zb (lo _ _ ?_))
 refine Zv ?_
 clear ly lG
 have lp := S.ch eu (dS c q om)
 have gn : Ol ics 3 1 gm (.slice Avw (V).length Cvw) (V) := by
  have hx := lp
  first | exact hx | simpa using hx
 have lq := H.ch eu (dS a hiev om)
 have gp : Ol GEdge.cs 129 4 gm (.slice Aev (es).length Cev) (es) := by
  have hx := lq
  first | exact hx | simpa using hx
 have lr := fK.ch eu (oS om)
 exact Zj [_] (Zn cX rfl agg36 sz36 trivial) ⟨V, es, (.slice Avw (V).length Cvw), (.slice Aev (es).length Cev), rfl, gn, (Lo.down c om), gp, (Lo.down a om), (fun g hm hg => by exact o _ hg hm), (Zjy hV om hE om), lr, E⟩

/-- spec.l3Any -/
theorem Zgq {w : World} {b_c : Nat} (c0 : Cu w b_c) :
 Ctr Try.prog 118 #[(.pointer (some ⟨b_c, 0, none⟩))] w (fun v w' => ∃ (bV : List Int) (bW : List GEdge) (a4 : Value) (a5 : Value), v = .agg #[a4, a5] ∧ Ol ics 3 1 w' a4 (bV) ∧ Lo w.heap.size a4 ∧ Ol GEdge.cs 129 4 w' a5 (bW) ∧ Lo w.heap.size a5 ∧ (∀ g ∈ bl a4, g ∉ bl a5) ∧ (bV.length ≤ 5 ∧ bW.length ≤ 13) ∧ Cu w' b_c ∧ Ch [b_c] w w') := by
 have e1 := c0.lt
 have E := Ch.refl [b_c] w
 refine Yj (N := 37) (vs0 := [(.pointer (some ⟨b_c, 0, none⟩))]) Try.func118 rfl rfl rfl ?_
 refine Zh fun K1 H1 => ?_
 refine Zc (Zl rfl rfl ?_)
 refine Yd zr36 fun bf W2 a8 C2 ha => ?_
 have hb := C2.size
 have E := E.trans C2.of_nil
 have hc := a8.lt
 replace a8 : Blk W2 bf 36 [(.slice none 0 0), (.slice none 0 0)] := a8
 refine Ze (Zb (H1 _ _ ?_))
 refine Zh fun K3 H3 => ?_
 refine Zc (Za rfl rfl (Zg rfl) (Zl rfl rfl ?_))
 have F4 := c0.ch0 C2
 refine Step.call (Zm (xs := [.tmp 4]) fk134 rfl) (Zdd F4 ) fun fK W5 fL => ?_
 obtain ⟨m, f, dA, dB, rfl, B, b, z, a, n, bX, fM, C5⟩ := fL
 have hd := C5.size
 have E := E.trans C5
 obtain ⟨o, p, rfl, dw, d⟩ := B.opn
 obtain ⟨h, l, rfl, dx, c⟩ := z.opn
 have fK := bX.2.2.1
 have he := bX.2.2.2
 refine Zl rfl rfl ?_
 refine Yd zr36 fun D W6 dy C6 hf => ?_
 have hh := C6.size
 have E := E.trans C6.of_nil
 have hj := dy.lt
 replace dy : Blk W6 D 36 [(.slice none 0 0), (.slice none 0 0)] := dy
 refine Zl rfl rfl ?_
 refine Zk (off := 0) 2 dy sz36 rfl (us := [(.slice o (m).length p), (.slice h (f).length l)]) rfl rfl rfl rfl fun W7 U C7 => ?_
 have hk := C7.size
 have E := E.step C7 (lS om)
 replace U : Blk W7 D 36 [(.slice o (m).length p), (.slice h (f).length l)] := U
 refine Ze (Zb (H3 _ _ ?_))
 refine Zh fun K9 H9 => ?_
 refine Zh fun hl fN => ?_
 refine Zc (Za rfl rfl (Zg rfl) (Zl rfl rfl ?_))
 have fO := (fM.ch0 C6).ch C7 (oS om)
 refine Step.call (Zm (xs := [.tmp 6, .const (Go.Value.int Go.IntKind.i64 14)]) fk95 rfl) (Zs fO _ om) fun hn ho fP => ?_
 obtain ⟨fQ, rfl, e2, cZ, I⟩ := fP
 have fR := I.size
 have E := E.trans I
 refine Ze (Zb (fN _ _ ?_))
 refine Yn ?_
 refine Zh fun hp fS => ?_
 refine Zc (Za rfl rfl (Qg rfl rfl) (Za rfl rfl (Zf rfl) (Ze (Zb (fS _ _ ?_)))))
 refine Zz rfl (fun cg => ?_) (fun cg => ?_)
 ·have dC := cg
  have cg := Yt cg
  refine Yv ([b_c] ++ (bl (.slice o (m).length p))) 7 mixed rfl fun dz ci => ?_
  have fT := ci.size
  have E := E.trans ci.of_nil
  refine dV 0 rfl rfl rfl (fun _ => Zd fa36_0 rfl) ?_
  have e3 := (U.ch I (nS om)).ch0 ci
  refine dT 1 rfl rfl rfl (Yi e3.at_ (fun i hm => by rcases List.mem_append.1 hm with hm | hm; (have O := List.mem_singleton.1 hm; omega); (have O := b _ hm; have G := d _ hm; omega)) agg22 rfl rfl ?_)
  refine dV 2 rfl rfl rfl (fun _ => Zg rfl) (dO 3 (Zr rfl rfl rfl ?_))
  refine Zq (cs := ics) (parts := [(0, .const (Go.Value.int Go.IntKind.i64 (-1))), (1, .const (Go.Value.int Go.IntKind.i64 3)), (2, .const (Go.Value.int Go.IntKind.i64 2))]) (0 : Int) [(-1), 3, 2] el22 sz3 zr3 Yx (by decide) rfl rfl rfl (by decide) (by decide) rfl fun fU fV c1 c2 bY => ?_
  have fW := bY.size
  have E := E.trans bY.of_nil
  obtain ⟨e4, e5, rfl, e6, dD⟩ := c1.opn
  have bZ : Ch ([b_c] ++ (bl (.slice o (m).length p))) dz fV := ((Ch.refl _ _).trans bY.of_nil)
  refine ⟨bZ, ?_⟩
  refine dO 4 (Zr rfl rfl rfl ?_)
  have fX := (cZ.ch0 ci).ch0 bY
  refine Step.call (Zm (xs := [.tmp 12, .tmp 13]) fk117 rfl) (Zx fX c1 (by decide) dz.heap.size om c2) fun fY fZ dE => ?_
  obtain ⟨bg, rfl, dF, dG, cj⟩ := dE
  have f0 := cj.size
  have E := E.trans cj
  have bh : Ch ([b_c] ++ (bl (.slice o (m).length p))) dz fZ := (bZ.step cj (fun i hm => by have C := List.mem_singleton.1 hm; exact .inr (by rw [C]; exact (List.mem_append_left _ (List.mem_singleton.2 rfl)))))
  refine ⟨bh, ?_⟩
  refine dO 5 (Zr rfl rfl rfl ?_)
  have e7 := (((((B.ch0 C6).ch C7 (dS b d om)).ch I (dS b d om)).ch0 ci).ch0 bY).ch cj (dS b d om)
  refine Zhm (j := 0) e7 el22 sz3 rfl rfl rfl om fun f1 f2 e8 dH => ?_
  refine ⟨bh, ?_⟩
  refine dO 6 (Zr rfl rfl rfl ?_)
  refine Zhp (j := 0) bg e7 dH Yx sz3 rfl rfl rfl rfl om fun f3 c3 ck => ?_
  have f4 := ck.size
  have E := E.step ck (fun i hi => .inl (by have O := b _ hi; omega))
  have c4 : Ch ([b_c] ++ (bl (.slice o (m).length p))) dz f3 := (bh.step ck (fun i hm => by exact .inr (List.mem_append_right _ hm)))
  refine ⟨c4, ?_⟩
  refine Zw (by kernel_rfl) ?_
  refine Yc (Zb (H9 _ _ ?_))
  refine Zh fun hq f5 => ?_
  refine Zc ?_
  have f6 := ((e3.ch0 bY).ch cj (nS om)).ch ck (fun hm => by have O := b _ hm; have G := d _ hm; omega)
  refine Za rfl rfl (Zi f6.at_ agg36 sz36 rfl) (Zl rfl rfl ?_)
  have f7 := (((((((a8.ch C5 (nS om)).ch0 C6).ch C7 (nS om)).ch I (nS om)).ch0 ci).ch0 bY).ch cj (nS om)).ch ck (fun hm => by have O := b _ hm; have G := d _ hm; omega)
  refine Zk (off := 0) 2 f7 sz36 rfl (us := [(.slice o (m).length p), (.slice h (f).length l)]) rfl rfl rfl rfl fun dI bi c5 => ?_
  have f8 := c5.size
  have E := E.step c5 (lS om)
  replace bi : Blk dI bf 36 [(.slice o (m).length p), (.slice h (f).length l)] := bi
  refine Ze (Zb (f5 _ _ ?_))
  refine Zv ?_
  have f9 := c3.ch c5 (dS b d om)
  have c6 : Ol ics 3 1 dI (.slice o (m).length p) ((m.set 0 bg)) := by
   have hx := f9
   first | exact hx | simpa using hx
  have ga := (((((((z.ch0 C6).ch C7 (dS a c om)).ch I (dS a c om)).ch0 ci).ch0 bY).ch cj (dS a c om)).ch ck (fun g hg hm => by exact n _ hm hg)).ch c5 (dS a c om)
  have c7 : Ol GEdge.cs 129 4 dI (.slice h (f).length l) (f) := by
   have hx := ga
   first | exact hx | simpa using hx
  have gb := (dG.ch ck (fun i hm => by have O := b _ hm; have G := d _ hm; omega)).ch c5 (oS om)
  exact Zj [_] (Zn bi rfl agg36 sz36 trivial) ⟨(m.set 0 bg), f, (.slice o (m).length p), (.slice h (f).length l), rfl, c6, (Lo.down b om), c7, (Lo.down a om), (fun g hm hg => by exact n _ hm hg), (by first | omega | (simp only [List.length_append, List.length_singleton, List.length_set, List.length_nil]; omega)), gb, E⟩
 have dC := cg
 have cg := Yu cg
 refine Zh fun hr gc => ?_
 refine Zc (Za rfl rfl (Qg rfl rfl) (Za rfl rfl (Zf rfl) (Ze (Zb (gc _ _ ?_)))))
 refine Zz rfl (fun aw => ?_) (fun aw => ?_)
 ·have dJ := aw
  have aw := Yt aw
  refine Yv ([b_c] ++ (bl (.slice h (f).length l)) ++ [D]) 16 mixed rfl fun H Q => ?_
  have gd := Q.size
  have E := E.trans Q.of_nil
  refine dV 0 rfl rfl rfl (fun _ => Zd fa36_1 rfl) (dV 2 rfl rfl rfl (fun _ => Zg rfl) (dV 5 rfl rfl rfl (fun _ => Zg rfl) (dV 7 rfl rfl rfl (fun _ => Zg rfl) (dV 9 rfl rfl rfl (fun _ => Zg rfl) ?_))))
  refine Xd 1 3 (by kernel_rfl) ?_ ?_
  ·refine Zr rfl rfl rfl ?_
   have e9 := (U.ch I (nS om)).ch0 Q
   refine s_v (Zp e9.at_ agg34 rfl rfl) ?_
   refine ⟨(Ch.refl _ _), ?_⟩
   refine dO 3 (Zr rfl rfl rfl ?_)
   refine Zq (cs := ics) (parts := [(0, .const (Go.Value.int Go.IntKind.i64 0)), (1, .const (Go.Value.int Go.IntKind.i64 1)), (2, .const (Go.Value.int Go.IntKind.i64 99)), (3, .const (Go.Value.int Go.IntKind.i64 100))]) (0 : Int) [0, 1, 99, 100] el22 sz3 zr3 Yx (by decide) rfl rfl rfl (by decide) (by decide) rfl fun dL ge a9 a6 b0 => ?_
   have gf := b0.size
   have E := E.trans b0.of_nil
   obtain ⟨c8, c9, rfl, da, cl⟩ := a9.opn
   have b1 : Ch ([b_c] ++ (bl (.slice h (f).length l)) ++ [D]) H ge := ((Ch.refl _ _).trans b0.of_nil)
   refine ⟨b1, ?_⟩
   refine dO 4 (Zr rfl rfl rfl ?_)
   have gg := (cZ.ch0 Q).ch0 b0
   refine Step.call (Zm (xs := [.tmp 20, .tmp 21]) fk117 rfl) (Zx gg a9 (by decide) H.heap.size om a6) fun db gh bj => ?_
   obtain ⟨t, rfl, bk, ba, cm⟩ := bj
   have gi := cm.size
   have E := E.trans cm
   have b2 : Ch ([b_c] ++ (bl (.slice h (f).length l)) ++ [D]) H gh := (b1.step cm (fun i hm => by have C := List.mem_singleton.1 hm; exact .inr (by rw [C]; exact (List.mem_append_left _ (List.mem_append_left _ (List.mem_singleton.2 rfl))))))
   refine ⟨b2, ?_⟩
   refine dO 6 (Zr rfl rfl rfl ?_)
   refine Step.call (Zm (xs := [.tmp 23, .const (Go.Value.int Go.IntKind.i64 6)]) fk95 rfl) (Zs ba _ om) fun cn gj ax => ?_
   obtain ⟨s, rfl, ay, an, co⟩ := ax
   have gk := co.size
   have E := E.trans co
   have b3 : Ch ([b_c] ++ (bl (.slice h (f).length l)) ++ [D]) H gj := (b2.step co (fun i hm => by have C := List.mem_singleton.1 hm; exact .inr (by rw [C]; exact (List.mem_append_left _ (List.mem_append_left _ (List.mem_singleton.2 rfl))))))
   refine ⟨b3, ?_⟩
   refine dO 8 (Zr rfl rfl rfl ?_)
   refine Step.call (Zm (xs := [.tmp 25, .const (Go.Value.int Go.IntKind.i64 6)]) fk95 rfl) (Zs an _ om) fun bS gl ah => ?_
   obtain ⟨r, rfl, ai, aa, cp⟩ := ah
   have gm := cp.size
   have E := E.trans cp
   have b4 : Ch ([b_c] ++ (bl (.slice h (f).length l)) ++ [D]) H gl := (b3.step cp (fun i hm => by have C := List.mem_singleton.1 hm; exact .inr (by rw [C]; exact (List.mem_append_left _ (List.mem_append_left _ (List.mem_singleton.2 rfl))))))
   refine ⟨b4, ?_⟩
   refine dO 10 (Zr rfl rfl rfl ?_)
   refine Step.call (Zm (xs := [.tmp 27, .const (Go.Value.int Go.IntKind.i64 4)]) fk95 rfl) (Zs aa _ om) fun bm gn X => ?_
   obtain ⟨q, rfl, Y, V, cq⟩ := X
   have gp := cq.size
   have E := E.trans cq
   have b5 : Ch ([b_c] ++ (bl (.slice h (f).length l)) ++ [D]) H gn := (b4.step cq (fun i hm => by have C := List.mem_singleton.1 hm; exact .inr (by rw [C]; exact (List.mem_append_left _ (List.mem_append_left _ (List.mem_singleton.2 rfl))))))
   refine ⟨b5, ?_⟩
   refine dV 11 rfl rfl rfl (fun _ => Ys (parts := [(0, .tmp 22), (1, .tmp 24), (2, .tmp 26), (3, .tmp 28)]) (cells := [(.int .i64 t), (.int .i64 s), (.int .i64 r), (.int .i64 q)]) zr129 pl129 rfl rfl) (dO 12 (Zr rfl rfl rfl ?_))
   refine Zq (cs := GEdge.cs) (parts := [(0, .tmp 29)]) (⟨0, 0, 0, 0⟩ : GEdge) [(⟨t, s, r, q⟩ : GEdge)] el34 sz129 zr129 GEdge.len (by decide) rfl rfl rfl (by decide) (by decide) rfl fun bb gq J ab b6 => ?_
   have gr := b6.size
   have E := E.trans b6.of_nil
   obtain ⟨ac, ad, rfl, ae, T⟩ := J.opn
   have b7 : Ch ([b_c] ++ (bl (.slice h (f).length l)) ++ [D]) H gq := (b5.trans b6.of_nil)
   refine ⟨b7, ?_⟩
   refine dO 13 (Zr rfl rfl rfl ?_)
   have gs := (((((((((z.ch0 C6).ch C7 (dS a c om)).ch I (dS a c om)).ch0 Q).ch0 b0).ch cm (dS a c om)).ch co (dS a c om)).ch cp (dS a c om)).ch cq (dS a c om)).ch0 b6
   refine Yg (cs := GEdge.cs) el34 sz129 by129 zr129 rfl (by decide) GEdge.one gs J.ls rfl rfl bd bd a om fun bc gt K L A cr => ?_
   have gu := cr.size
   have E := E.step cr (fun i hi => .inl (by have O := a _ hi; omega))
   obtain ⟨u, x, rfl, af, y⟩ := K.opn
   have b8 : Ch ([b_c] ++ (bl (.slice h (f).length l)) ++ [D]) H gt := (b7.step cr (fun i hm => by exact .inr (List.mem_append_left _ (List.mem_append_right _ hm))))
   refine ⟨b8, ?_⟩
   refine dV 14 rfl rfl rfl (fun _ => Zd fa36_1 rfl) (dO 15 (Zr rfl rfl rfl ?_))
   have gv := ((((((e9.ch0 b0).ch cm (nS om)).ch co (nS om)).ch cp (nS om)).ch cq (nS om)).ch0 b6).ch cr (fun hm => by have O := a _ hm; have G := c _ hm; omega)
   refine Zy (off := 1) gv sz34 rfl rfl rfl rfl fun fa bn ct => ?_
   have gw := ct.size
   have E := E.step ct (lS om)
   replace bn : Blk fa D 36 [(.slice o (m).length p), (.slice u ((f ++ [(⟨t, s, r, q⟩ : GEdge)])).length x)] := bn
   have dc : Ch ([b_c] ++ (bl (.slice h (f).length l)) ++ [D]) H fa := (b8.step ct (fun i hm => by have C := List.mem_singleton.1 hm; exact .inr (by rw [C]; exact (List.mem_append_right _ (List.mem_singleton.2 rfl)))))
   refine ⟨dc, ?_⟩
   refine Zw (by kernel_rfl) ?_
   refine Yc (Zb (H9 _ _ ?_))
   refine Zh fun hs gx => ?_
   refine Zc (Za rfl rfl (Zi bn.at_ agg36 sz36 rfl) (Zl rfl rfl ?_))
   have gy := ((((((((((((a8.ch C5 (nS om)).ch0 C6).ch C7 (nS om)).ch I (nS om)).ch0 Q).ch0 b0).ch cm (nS om)).ch co (nS om)).ch cp (nS om)).ch cq (nS om)).ch0 b6).ch cr (fun hm => by have O := a _ hm; have G := c _ hm; omega)).ch ct (nS om)
   refine Zk (off := 0) 2 gy sz36 rfl (us := [(.slice o (m).length p), (.slice u ((f ++ [(⟨t, s, r, q⟩ : GEdge)])).length x)]) rfl rfl rfl rfl fun dM bp dd => ?_
   have gz := dd.size
   have E := E.step dd (lS om)
   replace bp : Blk dM bf 36 [(.slice o (m).length p), (.slice u ((f ++ [(⟨t, s, r, q⟩ : GEdge)])).length x)] := bp
   refine Ze (Zb (gx _ _ ?_))
   refine Zv ?_
   have gA := ((((((((((((B.ch0 C6).ch C7 (dS b d om)).ch I (dS b d om)).ch0 Q).ch0 b0).ch cm (dS b d om)).ch co (dS b d om)).ch cp (dS b d om)).ch cq (dS b d om)).ch0 b6).ch cr (fun g hg hm => by exact n _ hg hm)).ch ct (dS b d om)).ch dd (dS b d om)
   have de : Ol ics 3 1 dM (.slice o (m).length p) (m) := by
    have hx := gA
    first | exact hx | simpa using hx
   have gB := (K.ch ct (fun g hg hm => by have C := List.mem_singleton.1 hm; rcases A with ea | ea; (rw [ea] at hg; have G := a _ hg; have be := c _ hg; omega); (have M := y _ hg; rw [ea] at hg; have ag := List.mem_singleton.1 hg; omega))).ch dd (fun g hg hm => by have C := List.mem_singleton.1 hm; rcases A with ea | ea; (rw [ea] at hg; have G := a _ hg; have be := c _ hg; omega); (have M := y _ hg; rw [ea] at hg; have ag := List.mem_singleton.1 hg; omega))
   have df : Ol GEdge.cs 129 4 dM (.slice u ((f ++ [(⟨t, s, r, q⟩ : GEdge)])).length x) ((f ++ [(⟨t, s, r, q⟩ : GEdge)])) := by
    have hx := gB
    first | exact hx | simpa using hx
   have gC := (((V.ch0 b6).ch cr (fun i hm => by have O := a _ hm; have G := c _ hm; omega)).ch ct (oS om)).ch dd (oS om)
   exact Zj [_] (Zn bp rfl agg36 sz36 trivial) ⟨m, (f ++ [(⟨t, s, r, q⟩ : GEdge)]), (.slice o (m).length p), (.slice u ((f ++ [(⟨t, s, r, q⟩ : GEdge)])).length x), rfl, de, (Lo.down b om), df, (Lo.down L om), (fun g hm hg => by rcases A with ea | ea; (rw [ea] at hg; exact n _ hm hg); (have M := y _ hg; rw [ea] at hg; have ag := List.mem_singleton.1 hg; have O := b _ hm; have G := d _ hm; omega)), (by first | omega | (simp only [List.length_append, List.length_singleton, List.length_set, List.length_nil]; omega)), gC, E⟩
  refine Zr rfl rfl rfl ?_
  refine Zq (cs := ics) (parts := [(0, .const (Go.Value.int Go.IntKind.i64 0)), (1, .const (Go.Value.int Go.IntKind.i64 1)), (2, .const (Go.Value.int Go.IntKind.i64 99)), (3, .const (Go.Value.int Go.IntKind.i64 100))]) (0 : Int) [0, 1, 99, 100] el22 sz3 zr3 Yx (by decide) rfl rfl rfl (by decide) (by decide) rfl fun dL gD a9 a6 S => ?_
  have gE := S.size
  have E := E.trans S.of_nil
  obtain ⟨c8, c9, rfl, da, cl⟩ := a9.opn
  have a7 : Ch ([b_c] ++ (bl (.slice h (f).length l)) ++ [D]) H gD := ((Ch.refl _ _).trans S.of_nil)
  refine ⟨a7, ?_⟩
  refine Xd 1 4 (by kernel_rfl) ?_ ?_
  ·refine Zr rfl rfl rfl ?_
   have fb := ((U.ch I (nS om)).ch0 Q).ch0 S
   refine s_v (Zp fb.at_ agg34 rfl rfl) ?_
   refine ⟨a7, ?_⟩
   refine dO 4 (Zr rfl rfl rfl ?_)
   have gF := (cZ.ch0 Q).ch0 S
   refine Step.call (Zm (xs := [.tmp 20, .tmp 21]) fk117 rfl) (Zx gF a9 (by decide) H.heap.size om a6) fun db gG bj => ?_
   obtain ⟨t, rfl, bk, ba, cu⟩ := bj
   have gH := cu.size
   have E := E.trans cu
   have b9 : Ch ([b_c] ++ (bl (.slice h (f).length l)) ++ [D]) H gG := (a7.step cu (fun i hm => by have C := List.mem_singleton.1 hm; exact .inr (by rw [C]; exact (List.mem_append_left _ (List.mem_append_left _ (List.mem_singleton.2 rfl))))))
   refine ⟨b9, ?_⟩
   refine dO 6 (Zr rfl rfl rfl ?_)
   refine Step.call (Zm (xs := [.tmp 23, .const (Go.Value.int Go.IntKind.i64 6)]) fk95 rfl) (Zs ba _ om) fun cn gI ax => ?_
   obtain ⟨s, rfl, ay, an, cv⟩ := ax
   have gJ := cv.size
   have E := E.trans cv
   have ca : Ch ([b_c] ++ (bl (.slice h (f).length l)) ++ [D]) H gI := (b9.step cv (fun i hm => by have C := List.mem_singleton.1 hm; exact .inr (by rw [C]; exact (List.mem_append_left _ (List.mem_append_left _ (List.mem_singleton.2 rfl))))))
   refine ⟨ca, ?_⟩
   refine dO 8 (Zr rfl rfl rfl ?_)
   refine Step.call (Zm (xs := [.tmp 25, .const (Go.Value.int Go.IntKind.i64 6)]) fk95 rfl) (Zs an _ om) fun bS gK ah => ?_
   obtain ⟨r, rfl, ai, aa, cw⟩ := ah
   have gL := cw.size
   have E := E.trans cw
   have cb : Ch ([b_c] ++ (bl (.slice h (f).length l)) ++ [D]) H gK := (ca.step cw (fun i hm => by have C := List.mem_singleton.1 hm; exact .inr (by rw [C]; exact (List.mem_append_left _ (List.mem_append_left _ (List.mem_singleton.2 rfl))))))
   refine ⟨cb, ?_⟩
   refine dO 10 (Zr rfl rfl rfl ?_)
   refine Step.call (Zm (xs := [.tmp 27, .const (Go.Value.int Go.IntKind.i64 4)]) fk95 rfl) (Zs aa _ om) fun bm gM X => ?_
   obtain ⟨q, rfl, Y, V, cx⟩ := X
   have gN := cx.size
   have E := E.trans cx
   have cc : Ch ([b_c] ++ (bl (.slice h (f).length l)) ++ [D]) H gM := (cb.step cx (fun i hm => by have C := List.mem_singleton.1 hm; exact .inr (by rw [C]; exact (List.mem_append_left _ (List.mem_append_left _ (List.mem_singleton.2 rfl))))))
   refine ⟨cc, ?_⟩
   refine dV 11 rfl rfl rfl (fun _ => Ys (parts := [(0, .tmp 22), (1, .tmp 24), (2, .tmp 26), (3, .tmp 28)]) (cells := [(.int .i64 t), (.int .i64 s), (.int .i64 r), (.int .i64 q)]) zr129 pl129 rfl rfl) (dO 12 (Zr rfl rfl rfl ?_))
   refine Zq (cs := GEdge.cs) (parts := [(0, .tmp 29)]) (⟨0, 0, 0, 0⟩ : GEdge) [(⟨t, s, r, q⟩ : GEdge)] el34 sz129 zr129 GEdge.len (by decide) rfl rfl rfl (by decide) (by decide) rfl fun bb gO J ab cd => ?_
   have gP := cd.size
   have E := E.trans cd.of_nil
   obtain ⟨ac, ad, rfl, ae, T⟩ := J.opn
   have ce : Ch ([b_c] ++ (bl (.slice h (f).length l)) ++ [D]) H gO := (cc.trans cd.of_nil)
   refine ⟨ce, ?_⟩
   refine dO 13 (Zr rfl rfl rfl ?_)
   have gQ := (((((((((z.ch0 C6).ch C7 (dS a c om)).ch I (dS a c om)).ch0 Q).ch0 S).ch cu (dS a c om)).ch cv (dS a c om)).ch cw (dS a c om)).ch cx (dS a c om)).ch0 cd
   refine Yg (cs := GEdge.cs) el34 sz129 by129 zr129 rfl (by decide) GEdge.one gQ J.ls rfl rfl bd bd a om fun bc gR K L A cy => ?_
   have gS := cy.size
   have E := E.step cy (fun i hi => .inl (by have O := a _ hi; omega))
   obtain ⟨u, x, rfl, af, y⟩ := K.opn
   have cf : Ch ([b_c] ++ (bl (.slice h (f).length l)) ++ [D]) H gR := (ce.step cy (fun i hm => by exact .inr (List.mem_append_left _ (List.mem_append_right _ hm))))
   refine ⟨cf, ?_⟩
   refine dV 14 rfl rfl rfl (fun _ => Zd fa36_1 rfl) (dO 15 (Zr rfl rfl rfl ?_))
   have gT := (((((fb.ch cu (nS om)).ch cv (nS om)).ch cw (nS om)).ch cx (nS om)).ch0 cd).ch cy (fun hm => by have O := a _ hm; have G := c _ hm; omega)
   refine Zy (off := 1) gT sz34 rfl rfl rfl rfl fun fc bq cz => ?_
   have gU := cz.size
   have E := E.step cz (lS om)
   replace bq : Blk fc D 36 [(.slice o (m).length p), (.slice u ((f ++ [(⟨t, s, r, q⟩ : GEdge)])).length x)] := bq
   have dg : Ch ([b_c] ++ (bl (.slice h (f).length l)) ++ [D]) H fc := (cf.step cz (fun i hm => by have C := List.mem_singleton.1 hm; exact .inr (by rw [C]; exact (List.mem_append_right _ (List.mem_singleton.2 rfl)))))
   refine ⟨dg, ?_⟩
   refine Zw (by kernel_rfl) ?_
   refine Yc (Zb (H9 _ _ ?_))
   refine Zh fun ht gV => ?_
   refine Zc (Za rfl rfl (Zi bq.at_ agg36 sz36 rfl) (Zl rfl rfl ?_))
   have gW := ((((((((((((a8.ch C5 (nS om)).ch0 C6).ch C7 (nS om)).ch I (nS om)).ch0 Q).ch0 S).ch cu (nS om)).ch cv (nS om)).ch cw (nS om)).ch cx (nS om)).ch0 cd).ch cy (fun hm => by have O := a _ hm; have G := c _ hm; omega)).ch cz (nS om)
   refine Zk (off := 0) 2 gW sz36 rfl (us := [(.slice o (m).length p), (.slice u ((f ++ [(⟨t, s, r, q⟩ : GEdge)])).length x)]) rfl rfl rfl rfl fun dN br dh => ?_
   have gX := dh.size
   have E := E.step dh (lS om)
   replace br : Blk dN bf 36 [(.slice o (m).length p), (.slice u ((f ++ [(⟨t, s, r, q⟩ : GEdge)])).length x)] := br
   refine Ze (Zb (gV _ _ ?_))
   refine Zv ?_
   have gY := ((((((((((((B.ch0 C6).ch C7 (dS b d om)).ch I (dS b d om)).ch0 Q).ch0 S).ch cu (dS b d om)).ch cv (dS b d om)).ch cw (dS b d om)).ch cx (dS b d om)).ch0 cd).ch cy (fun g hg hm => by exact n _ hg hm)).ch cz (dS b d om)).ch dh (dS b d om)
   have di : Ol ics 3 1 dN (.slice o (m).length p) (m) := by
    have hx := gY
    first | exact hx | simpa using hx
   have gZ := (K.ch cz (fun g hg hm => by have C := List.mem_singleton.1 hm; rcases A with ea | ea; (rw [ea] at hg; have G := a _ hg; have be := c _ hg; omega); (have M := y _ hg; rw [ea] at hg; have ag := List.mem_singleton.1 hg; omega))).ch dh (fun g hg hm => by have C := List.mem_singleton.1 hm; rcases A with ea | ea; (rw [ea] at hg; have G := a _ hg; have be := c _ hg; omega); (have M := y _ hg; rw [ea] at hg; have ag := List.mem_singleton.1 hg; omega))
   have dj : Ol GEdge.cs 129 4 dN (.slice u ((f ++ [(⟨t, s, r, q⟩ : GEdge)])).length x) ((f ++ [(⟨t, s, r, q⟩ : GEdge)])) := by
    have hx := gZ
    first | exact hx | simpa using hx
   have g0 := (((V.ch0 cd).ch cy (fun i hm => by have O := a _ hm; have G := c _ hm; omega)).ch cz (oS om)).ch dh (oS om)
   exact Zj [_] (Zn br rfl agg36 sz36 trivial) ⟨m, (f ++ [(⟨t, s, r, q⟩ : GEdge)]), (.slice o (m).length p), (.slice u ((f ++ [(⟨t, s, r, q⟩ : GEdge)])).length x), rfl, di, (Lo.down b om), dj, (Lo.down L om), (fun g hm hg => by rcases A with ea | ea; (rw [ea] at hg; exact n _ hm hg); (have M := y _ hg; rw [ea] at hg; have ag := List.mem_singleton.1 hg; have O := b _ hm; have G := d _ hm; omega)), (by first | omega | (simp only [List.length_append, List.length_singleton, List.length_set, List.length_nil]; omega)), g0, E⟩
  refine Zr rfl rfl rfl ?_
  have g1 := (cZ.ch0 Q).ch0 S
  refine Step.call (Zm (xs := [.tmp 20, .tmp 21]) fk117 rfl) (Zx g1 a9 (by decide) H.heap.size om a6) fun db dP bj => ?_
  obtain ⟨t, rfl, bk, ba, F⟩ := bj
  have fd := F.size
  have E := E.trans F
  have aj : Ch ([b_c] ++ (bl (.slice h (f).length l)) ++ [D]) H dP := (a7.step F (fun i hm => by have C := List.mem_singleton.1 hm; exact .inr (by rw [C]; exact (List.mem_append_left _ (List.mem_append_left _ (List.mem_singleton.2 rfl))))))
  refine ⟨aj, ?_⟩
  refine Xd 1 6 (by kernel_rfl) ?_ ?_
  ·refine Zr rfl rfl rfl ?_
   have dk := (((U.ch I (nS om)).ch0 Q).ch0 S).ch F (nS om)
   refine s_v (Zp dk.at_ agg34 rfl rfl) ?_
   refine ⟨aj, ?_⟩
   refine dO 6 (Zr rfl rfl rfl ?_)
   refine Step.call (Zm (xs := [.tmp 23, .const (Go.Value.int Go.IntKind.i64 6)]) fk95 rfl) (Zs ba _ om) fun cn dQ ax => ?_
   obtain ⟨s, rfl, ay, an, az⟩ := ax
   have fe := az.size
   have E := E.trans az
   have bs : Ch ([b_c] ++ (bl (.slice h (f).length l)) ++ [D]) H dQ := (aj.step az (fun i hm => by have C := List.mem_singleton.1 hm; exact .inr (by rw [C]; exact (List.mem_append_left _ (List.mem_append_left _ (List.mem_singleton.2 rfl))))))
   refine ⟨bs, ?_⟩
   refine dO 8 (Zr rfl rfl rfl ?_)
   refine Step.call (Zm (xs := [.tmp 25, .const (Go.Value.int Go.IntKind.i64 6)]) fk95 rfl) (Zs an _ om) fun bS dR ah => ?_
   obtain ⟨r, rfl, ai, aa, aA⟩ := ah
   have ff := aA.size
   have E := E.trans aA
   have bu : Ch ([b_c] ++ (bl (.slice h (f).length l)) ++ [D]) H dR := (bs.step aA (fun i hm => by have C := List.mem_singleton.1 hm; exact .inr (by rw [C]; exact (List.mem_append_left _ (List.mem_append_left _ (List.mem_singleton.2 rfl))))))
   refine ⟨bu, ?_⟩
   refine dO 10 (Zr rfl rfl rfl ?_)
   refine Step.call (Zm (xs := [.tmp 27, .const (Go.Value.int Go.IntKind.i64 4)]) fk95 rfl) (Zs aa _ om) fun bm dU X => ?_
   obtain ⟨q, rfl, Y, V, aB⟩ := X
   have fg := aB.size
   have E := E.trans aB
   have bv : Ch ([b_c] ++ (bl (.slice h (f).length l)) ++ [D]) H dU := (bu.step aB (fun i hm => by have C := List.mem_singleton.1 hm; exact .inr (by rw [C]; exact (List.mem_append_left _ (List.mem_append_left _ (List.mem_singleton.2 rfl))))))
   refine ⟨bv, ?_⟩
   refine dV 11 rfl rfl rfl (fun _ => Ys (parts := [(0, .tmp 22), (1, .tmp 24), (2, .tmp 26), (3, .tmp 28)]) (cells := [(.int .i64 t), (.int .i64 s), (.int .i64 r), (.int .i64 q)]) zr129 pl129 rfl rfl) (dO 12 (Zr rfl rfl rfl ?_))
   refine Zq (cs := GEdge.cs) (parts := [(0, .tmp 29)]) (⟨0, 0, 0, 0⟩ : GEdge) [(⟨t, s, r, q⟩ : GEdge)] el34 sz129 zr129 GEdge.len (by decide) rfl rfl rfl (by decide) (by decide) rfl fun bb dW J ab ao => ?_
   have fh := ao.size
   have E := E.trans ao.of_nil
   obtain ⟨ac, ad, rfl, ae, T⟩ := J.opn
   have bw : Ch ([b_c] ++ (bl (.slice h (f).length l)) ++ [D]) H dW := (bv.trans ao.of_nil)
   refine ⟨bw, ?_⟩
   refine dO 13 (Zr rfl rfl rfl ?_)
   have dX := (((((((((z.ch0 C6).ch C7 (dS a c om)).ch I (dS a c om)).ch0 Q).ch0 S).ch F (dS a c om)).ch az (dS a c om)).ch aA (dS a c om)).ch aB (dS a c om)).ch0 ao
   refine Yg (cs := GEdge.cs) el34 sz129 by129 zr129 rfl (by decide) GEdge.one dX J.ls rfl rfl bd bd a om fun bc dY K L A aC => ?_
   have fi := aC.size
   have E := E.step aC (fun i hi => .inl (by have O := a _ hi; omega))
   obtain ⟨u, x, rfl, af, y⟩ := K.opn
   have bz : Ch ([b_c] ++ (bl (.slice h (f).length l)) ++ [D]) H dY := (bw.step aC (fun i hm => by exact .inr (List.mem_append_left _ (List.mem_append_right _ hm))))
   refine ⟨bz, ?_⟩
   refine dV 14 rfl rfl rfl (fun _ => Zd fa36_1 rfl) (dO 15 (Zr rfl rfl rfl ?_))
   have dZ := ((((dk.ch az (nS om)).ch aA (nS om)).ch aB (nS om)).ch0 ao).ch aC (fun hm => by have O := a _ hm; have G := c _ hm; omega)
   refine Zy (off := 1) dZ sz34 rfl rfl rfl rfl fun dl aD aE => ?_
   have fj := aE.size
   have E := E.step aE (lS om)
   replace aD : Blk dl D 36 [(.slice o (m).length p), (.slice u ((f ++ [(⟨t, s, r, q⟩ : GEdge)])).length x)] := aD
   have cA : Ch ([b_c] ++ (bl (.slice h (f).length l)) ++ [D]) H dl := (bz.step aE (fun i hm => by have C := List.mem_singleton.1 hm; exact .inr (by rw [C]; exact (List.mem_append_right _ (List.mem_singleton.2 rfl)))))
   refine ⟨cA, ?_⟩
   refine Zw (by kernel_rfl) ?_
   refine Yc (Zb (H9 _ _ ?_))
   refine Zh fun g2 d0 => ?_
   refine Zc (Za rfl rfl (Zi aD.at_ agg36 sz36 rfl) (Zl rfl rfl ?_))
   have d1 := ((((((((((((a8.ch C5 (nS om)).ch0 C6).ch C7 (nS om)).ch I (nS om)).ch0 Q).ch0 S).ch F (nS om)).ch az (nS om)).ch aA (nS om)).ch aB (nS om)).ch0 ao).ch aC (fun hm => by have O := a _ hm; have G := c _ hm; omega)).ch aE (nS om)
   refine Zk (off := 0) 2 d1 sz36 rfl (us := [(.slice o (m).length p), (.slice u ((f ++ [(⟨t, s, r, q⟩ : GEdge)])).length x)]) rfl rfl rfl rfl fun cB aF bA => ?_
   have fk := bA.size
   have E := E.step bA (lS om)
   replace aF : Blk cB bf 36 [(.slice o (m).length p), (.slice u ((f ++ [(⟨t, s, r, q⟩ : GEdge)])).length x)] := aF
   refine Ze (Zb (d0 _ _ ?_))
   refine Zv ?_
   have d2 := ((((((((((((B.ch0 C6).ch C7 (dS b d om)).ch I (dS b d om)).ch0 Q).ch0 S).ch F (dS b d om)).ch az (dS b d om)).ch aA (dS b d om)).ch aB (dS b d om)).ch0 ao).ch aC (fun g hg hm => by exact n _ hg hm)).ch aE (dS b d om)).ch bA (dS b d om)
   have cC : Ol ics 3 1 cB (.slice o (m).length p) (m) := by
    have hx := d2
    first | exact hx | simpa using hx
   have d3 := (K.ch aE (fun g hg hm => by have C := List.mem_singleton.1 hm; rcases A with ea | ea; (rw [ea] at hg; have G := a _ hg; have be := c _ hg; omega); (have M := y _ hg; rw [ea] at hg; have ag := List.mem_singleton.1 hg; omega))).ch bA (fun g hg hm => by have C := List.mem_singleton.1 hm; rcases A with ea | ea; (rw [ea] at hg; have G := a _ hg; have be := c _ hg; omega); (have M := y _ hg; rw [ea] at hg; have ag := List.mem_singleton.1 hg; omega))
   have cD : Ol GEdge.cs 129 4 cB (.slice u ((f ++ [(⟨t, s, r, q⟩ : GEdge)])).length x) ((f ++ [(⟨t, s, r, q⟩ : GEdge)])) := by
    have hx := d3
    first | exact hx | simpa using hx
   have d4 := (((V.ch0 ao).ch aC (fun i hm => by have O := a _ hm; have G := c _ hm; omega)).ch aE (oS om)).ch bA (oS om)
   exact Zj [_] (Zn aF rfl agg36 sz36 trivial) ⟨m, (f ++ [(⟨t, s, r, q⟩ : GEdge)]), (.slice o (m).length p), (.slice u ((f ++ [(⟨t, s, r, q⟩ : GEdge)])).length x), rfl, cC, (Lo.down b om), cD, (Lo.down L om), (fun g hm hg => by rcases A with ea | ea; (rw [ea] at hg; exact n _ hm hg); (have M := y _ hg; rw [ea] at hg; have ag := List.mem_singleton.1 hg; have O := b _ hm; have G := d _ hm; omega)), (by first | omega | (simp only [List.length_append, List.length_singleton, List.length_set, List.length_nil]; omega)), d4, E⟩
  refine Zr rfl rfl rfl ?_
  refine Step.call (Zm (xs := [.tmp 23, .const (Go.Value.int Go.IntKind.i64 6)]) fk95 rfl) (Zs ba _ om) fun cn d5 ax => ?_
  obtain ⟨s, rfl, ay, an, P⟩ := ax
  have fl := P.size
  have E := E.trans P
  have ak : Ch ([b_c] ++ (bl (.slice h (f).length l)) ++ [D]) H d5 := (aj.step P (fun i hm => by have C := List.mem_singleton.1 hm; exact .inr (by rw [C]; exact (List.mem_append_left _ (List.mem_append_left _ (List.mem_singleton.2 rfl))))))
  refine ⟨ak, ?_⟩
  refine Xd 1 8 (by kernel_rfl) ?_ ?_
  ·refine Zr rfl rfl rfl ?_
   have dm := ((((U.ch I (nS om)).ch0 Q).ch0 S).ch F (nS om)).ch P (nS om)
   refine s_v (Zp dm.at_ agg34 rfl rfl) ?_
   refine ⟨ak, ?_⟩
   refine dO 8 (Zr rfl rfl rfl ?_)
   refine Step.call (Zm (xs := [.tmp 25, .const (Go.Value.int Go.IntKind.i64 6)]) fk95 rfl) (Zs an _ om) fun bS d6 ah => ?_
   obtain ⟨r, rfl, ai, aa, aG⟩ := ah
   have fm := aG.size
   have E := E.trans aG
   have bB : Ch ([b_c] ++ (bl (.slice h (f).length l)) ++ [D]) H d6 := (ak.step aG (fun i hm => by have C := List.mem_singleton.1 hm; exact .inr (by rw [C]; exact (List.mem_append_left _ (List.mem_append_left _ (List.mem_singleton.2 rfl))))))
   refine ⟨bB, ?_⟩
   refine dO 10 (Zr rfl rfl rfl ?_)
   refine Step.call (Zm (xs := [.tmp 27, .const (Go.Value.int Go.IntKind.i64 4)]) fk95 rfl) (Zs aa _ om) fun bm d7 X => ?_
   obtain ⟨q, rfl, Y, V, aH⟩ := X
   have fn := aH.size
   have E := E.trans aH
   have bC : Ch ([b_c] ++ (bl (.slice h (f).length l)) ++ [D]) H d7 := (bB.step aH (fun i hm => by have C := List.mem_singleton.1 hm; exact .inr (by rw [C]; exact (List.mem_append_left _ (List.mem_append_left _ (List.mem_singleton.2 rfl))))))
   refine ⟨bC, ?_⟩
   refine dV 11 rfl rfl rfl (fun _ => Ys (parts := [(0, .tmp 22), (1, .tmp 24), (2, .tmp 26), (3, .tmp 28)]) (cells := [(.int .i64 t), (.int .i64 s), (.int .i64 r), (.int .i64 q)]) zr129 pl129 rfl rfl) (dO 12 (Zr rfl rfl rfl ?_))
   refine Zq (cs := GEdge.cs) (parts := [(0, .tmp 29)]) (⟨0, 0, 0, 0⟩ : GEdge) [(⟨t, s, r, q⟩ : GEdge)] el34 sz129 zr129 GEdge.len (by decide) rfl rfl rfl (by decide) (by decide) rfl fun bb d8 J ab ap => ?_
   have fo := ap.size
   have E := E.trans ap.of_nil
   obtain ⟨ac, ad, rfl, ae, T⟩ := J.opn
   have bD : Ch ([b_c] ++ (bl (.slice h (f).length l)) ++ [D]) H d8 := (bC.trans ap.of_nil)
   refine ⟨bD, ?_⟩
   refine dO 13 (Zr rfl rfl rfl ?_)
   have d9 := (((((((((z.ch0 C6).ch C7 (dS a c om)).ch I (dS a c om)).ch0 Q).ch0 S).ch F (dS a c om)).ch P (dS a c om)).ch aG (dS a c om)).ch aH (dS a c om)).ch0 ap
   refine Yg (cs := GEdge.cs) el34 sz129 by129 zr129 rfl (by decide) GEdge.one d9 J.ls rfl rfl bd bd a om fun bc eb K L A aI => ?_
   have fp := aI.size
   have E := E.step aI (fun i hi => .inl (by have O := a _ hi; omega))
   obtain ⟨u, x, rfl, af, y⟩ := K.opn
   have bF : Ch ([b_c] ++ (bl (.slice h (f).length l)) ++ [D]) H eb := (bD.step aI (fun i hm => by exact .inr (List.mem_append_left _ (List.mem_append_right _ hm))))
   refine ⟨bF, ?_⟩
   refine dV 14 rfl rfl rfl (fun _ => Zd fa36_1 rfl) (dO 15 (Zr rfl rfl rfl ?_))
   have ec := (((dm.ch aG (nS om)).ch aH (nS om)).ch0 ap).ch aI (fun hm => by have O := a _ hm; have G := c _ hm; omega)
   refine Zy (off := 1) ec sz34 rfl rfl rfl rfl fun dn aJ aK => ?_
   have fq := aK.size
   have E := E.step aK (lS om)
   replace aJ : Blk dn D 36 [(.slice o (m).length p), (.slice u ((f ++ [(⟨t, s, r, q⟩ : GEdge)])).length x)] := aJ
   have cE : Ch ([b_c] ++ (bl (.slice h (f).length l)) ++ [D]) H dn := (bF.step aK (fun i hm => by have C := List.mem_singleton.1 hm; exact .inr (by rw [C]; exact (List.mem_append_right _ (List.mem_singleton.2 rfl)))))
   refine ⟨cE, ?_⟩
   refine Zw (by kernel_rfl) ?_
   refine Yc (Zb (H9 _ _ ?_))
   refine Zh fun g3 ed => ?_
   refine Zc (Za rfl rfl (Zi aJ.at_ agg36 sz36 rfl) (Zl rfl rfl ?_))
   have ee := ((((((((((((a8.ch C5 (nS om)).ch0 C6).ch C7 (nS om)).ch I (nS om)).ch0 Q).ch0 S).ch F (nS om)).ch P (nS om)).ch aG (nS om)).ch aH (nS om)).ch0 ap).ch aI (fun hm => by have O := a _ hm; have G := c _ hm; omega)).ch aK (nS om)
   refine Zk (off := 0) 2 ee sz36 rfl (us := [(.slice o (m).length p), (.slice u ((f ++ [(⟨t, s, r, q⟩ : GEdge)])).length x)]) rfl rfl rfl rfl fun cF aL bG => ?_
   have fr := bG.size
   have E := E.step bG (lS om)
   replace aL : Blk cF bf 36 [(.slice o (m).length p), (.slice u ((f ++ [(⟨t, s, r, q⟩ : GEdge)])).length x)] := aL
   refine Ze (Zb (ed _ _ ?_))
   refine Zv ?_
   have ef := ((((((((((((B.ch0 C6).ch C7 (dS b d om)).ch I (dS b d om)).ch0 Q).ch0 S).ch F (dS b d om)).ch P (dS b d om)).ch aG (dS b d om)).ch aH (dS b d om)).ch0 ap).ch aI (fun g hg hm => by exact n _ hg hm)).ch aK (dS b d om)).ch bG (dS b d om)
   have cG : Ol ics 3 1 cF (.slice o (m).length p) (m) := by
    have hx := ef
    first | exact hx | simpa using hx
   have eg := (K.ch aK (fun g hg hm => by have C := List.mem_singleton.1 hm; rcases A with ea | ea; (rw [ea] at hg; have G := a _ hg; have be := c _ hg; omega); (have M := y _ hg; rw [ea] at hg; have ag := List.mem_singleton.1 hg; omega))).ch bG (fun g hg hm => by have C := List.mem_singleton.1 hm; rcases A with ea | ea; (rw [ea] at hg; have G := a _ hg; have be := c _ hg; omega); (have M := y _ hg; rw [ea] at hg; have ag := List.mem_singleton.1 hg; omega))
   have cH : Ol GEdge.cs 129 4 cF (.slice u ((f ++ [(⟨t, s, r, q⟩ : GEdge)])).length x) ((f ++ [(⟨t, s, r, q⟩ : GEdge)])) := by
    have hx := eg
    first | exact hx | simpa using hx
   have eh := (((V.ch0 ap).ch aI (fun i hm => by have O := a _ hm; have G := c _ hm; omega)).ch aK (oS om)).ch bG (oS om)
   exact Zj [_] (Zn aL rfl agg36 sz36 trivial) ⟨m, (f ++ [(⟨t, s, r, q⟩ : GEdge)]), (.slice o (m).length p), (.slice u ((f ++ [(⟨t, s, r, q⟩ : GEdge)])).length x), rfl, cG, (Lo.down b om), cH, (Lo.down L om), (fun g hm hg => by rcases A with ea | ea; (rw [ea] at hg; exact n _ hm hg); (have M := y _ hg; rw [ea] at hg; have ag := List.mem_singleton.1 hg; have O := b _ hm; have G := d _ hm; omega)), (by first | omega | (simp only [List.length_append, List.length_singleton, List.length_set, List.length_nil]; omega)), eh, E⟩
  refine Zr rfl rfl rfl ?_
  refine Step.call (Zm (xs := [.tmp 25, .const (Go.Value.int Go.IntKind.i64 6)]) fk95 rfl) (Zs an _ om) fun bS ei ah => ?_
  obtain ⟨r, rfl, ai, aa, R⟩ := ah
  have fs := R.size
  have E := E.trans R
  have al : Ch ([b_c] ++ (bl (.slice h (f).length l)) ++ [D]) H ei := (ak.step R (fun i hm => by have C := List.mem_singleton.1 hm; exact .inr (by rw [C]; exact (List.mem_append_left _ (List.mem_append_left _ (List.mem_singleton.2 rfl))))))
  refine ⟨al, ?_⟩
  refine Xd 1 10 (by kernel_rfl) ?_ ?_
  ·refine Zr rfl rfl rfl ?_
   have dp := (((((U.ch I (nS om)).ch0 Q).ch0 S).ch F (nS om)).ch P (nS om)).ch R (nS om)
   refine s_v (Zp dp.at_ agg34 rfl rfl) ?_
   refine ⟨al, ?_⟩
   refine dO 10 (Zr rfl rfl rfl ?_)
   refine Step.call (Zm (xs := [.tmp 27, .const (Go.Value.int Go.IntKind.i64 4)]) fk95 rfl) (Zs aa _ om) fun bm ej X => ?_
   obtain ⟨q, rfl, Y, V, aM⟩ := X
   have ft := aM.size
   have E := E.trans aM
   have bH : Ch ([b_c] ++ (bl (.slice h (f).length l)) ++ [D]) H ej := (al.step aM (fun i hm => by have C := List.mem_singleton.1 hm; exact .inr (by rw [C]; exact (List.mem_append_left _ (List.mem_append_left _ (List.mem_singleton.2 rfl))))))
   refine ⟨bH, ?_⟩
   refine dV 11 rfl rfl rfl (fun _ => Ys (parts := [(0, .tmp 22), (1, .tmp 24), (2, .tmp 26), (3, .tmp 28)]) (cells := [(.int .i64 t), (.int .i64 s), (.int .i64 r), (.int .i64 q)]) zr129 pl129 rfl rfl) (dO 12 (Zr rfl rfl rfl ?_))
   refine Zq (cs := GEdge.cs) (parts := [(0, .tmp 29)]) (⟨0, 0, 0, 0⟩ : GEdge) [(⟨t, s, r, q⟩ : GEdge)] el34 sz129 zr129 GEdge.len (by decide) rfl rfl rfl (by decide) (by decide) rfl fun bb ek J ab aq => ?_
   have fu := aq.size
   have E := E.trans aq.of_nil
   obtain ⟨ac, ad, rfl, ae, T⟩ := J.opn
   have bI : Ch ([b_c] ++ (bl (.slice h (f).length l)) ++ [D]) H ek := (bH.trans aq.of_nil)
   refine ⟨bI, ?_⟩
   refine dO 13 (Zr rfl rfl rfl ?_)
   have el := (((((((((z.ch0 C6).ch C7 (dS a c om)).ch I (dS a c om)).ch0 Q).ch0 S).ch F (dS a c om)).ch P (dS a c om)).ch R (dS a c om)).ch aM (dS a c om)).ch0 aq
   refine Yg (cs := GEdge.cs) el34 sz129 by129 zr129 rfl (by decide) GEdge.one el J.ls rfl rfl bd bd a om fun bc em K L A aN => ?_
   have fv := aN.size
   have E := E.step aN (fun i hi => .inl (by have O := a _ hi; omega))
   obtain ⟨u, x, rfl, af, y⟩ := K.opn
   have bJ : Ch ([b_c] ++ (bl (.slice h (f).length l)) ++ [D]) H em := (bI.step aN (fun i hm => by exact .inr (List.mem_append_left _ (List.mem_append_right _ hm))))
   refine ⟨bJ, ?_⟩
   refine dV 14 rfl rfl rfl (fun _ => Zd fa36_1 rfl) (dO 15 (Zr rfl rfl rfl ?_))
   have en := ((dp.ch aM (nS om)).ch0 aq).ch aN (fun hm => by have O := a _ hm; have G := c _ hm; omega)
   refine Zy (off := 1) en sz34 rfl rfl rfl rfl fun dq aO aP => ?_
   have fw := aP.size
   have E := E.step aP (lS om)
   replace aO : Blk dq D 36 [(.slice o (m).length p), (.slice u ((f ++ [(⟨t, s, r, q⟩ : GEdge)])).length x)] := aO
   have cI : Ch ([b_c] ++ (bl (.slice h (f).length l)) ++ [D]) H dq := (bJ.step aP (fun i hm => by have C := List.mem_singleton.1 hm; exact .inr (by rw [C]; exact (List.mem_append_right _ (List.mem_singleton.2 rfl)))))
   refine ⟨cI, ?_⟩
   refine Zw (by kernel_rfl) ?_
   refine Yc (Zb (H9 _ _ ?_))
   refine Zh fun g4 eo => ?_
   refine Zc (Za rfl rfl (Zi aO.at_ agg36 sz36 rfl) (Zl rfl rfl ?_))
   have ep := ((((((((((((a8.ch C5 (nS om)).ch0 C6).ch C7 (nS om)).ch I (nS om)).ch0 Q).ch0 S).ch F (nS om)).ch P (nS om)).ch R (nS om)).ch aM (nS om)).ch0 aq).ch aN (fun hm => by have O := a _ hm; have G := c _ hm; omega)).ch aP (nS om)
   refine Zk (off := 0) 2 ep sz36 rfl (us := [(.slice o (m).length p), (.slice u ((f ++ [(⟨t, s, r, q⟩ : GEdge)])).length x)]) rfl rfl rfl rfl fun cJ aQ bK => ?_
   have fx := bK.size
   have E := E.step bK (lS om)
   replace aQ : Blk cJ bf 36 [(.slice o (m).length p), (.slice u ((f ++ [(⟨t, s, r, q⟩ : GEdge)])).length x)] := aQ
   refine Ze (Zb (eo _ _ ?_))
   refine Zv ?_
   have er := ((((((((((((B.ch0 C6).ch C7 (dS b d om)).ch I (dS b d om)).ch0 Q).ch0 S).ch F (dS b d om)).ch P (dS b d om)).ch R (dS b d om)).ch aM (dS b d om)).ch0 aq).ch aN (fun g hg hm => by exact n _ hg hm)).ch aP (dS b d om)).ch bK (dS b d om)
   have cK : Ol ics 3 1 cJ (.slice o (m).length p) (m) := by
    have hx := er
    first | exact hx | simpa using hx
   have es := (K.ch aP (fun g hg hm => by have C := List.mem_singleton.1 hm; rcases A with ea | ea; (rw [ea] at hg; have G := a _ hg; have be := c _ hg; omega); (have M := y _ hg; rw [ea] at hg; have ag := List.mem_singleton.1 hg; omega))).ch bK (fun g hg hm => by have C := List.mem_singleton.1 hm; rcases A with ea | ea; (rw [ea] at hg; have G := a _ hg; have be := c _ hg; omega); (have M := y _ hg; rw [ea] at hg; have ag := List.mem_singleton.1 hg; omega))
   have cL : Ol GEdge.cs 129 4 cJ (.slice u ((f ++ [(⟨t, s, r, q⟩ : GEdge)])).length x) ((f ++ [(⟨t, s, r, q⟩ : GEdge)])) := by
    have hx := es
    first | exact hx | simpa using hx
   have et := (((V.ch0 aq).ch aN (fun i hm => by have O := a _ hm; have G := c _ hm; omega)).ch aP (oS om)).ch bK (oS om)
   exact Zj [_] (Zn aQ rfl agg36 sz36 trivial) ⟨m, (f ++ [(⟨t, s, r, q⟩ : GEdge)]), (.slice o (m).length p), (.slice u ((f ++ [(⟨t, s, r, q⟩ : GEdge)])).length x), rfl, cK, (Lo.down b om), cL, (Lo.down L om), (fun g hm hg => by rcases A with ea | ea; (rw [ea] at hg; exact n _ hm hg); (have M := y _ hg; rw [ea] at hg; have ag := List.mem_singleton.1 hg; have O := b _ hm; have G := d _ hm; omega)), (by first | omega | (simp only [List.length_append, List.length_singleton, List.length_set, List.length_nil]; omega)), et, E⟩
  refine Zr rfl rfl rfl ?_
  refine Step.call (Zm (xs := [.tmp 27, .const (Go.Value.int Go.IntKind.i64 4)]) fk95 rfl) (Zs aa _ om) fun bm eu X => ?_
  obtain ⟨q, rfl, Y, V, Z⟩ := X
  have fy := Z.size
  have E := E.trans Z
  have am : Ch ([b_c] ++ (bl (.slice h (f).length l)) ++ [D]) H eu := (al.step Z (fun i hm => by have C := List.mem_singleton.1 hm; exact .inr (by rw [C]; exact (List.mem_append_left _ (List.mem_append_left _ (List.mem_singleton.2 rfl))))))
  refine ⟨am, ?_⟩
  refine dV 11 rfl rfl rfl (fun _ => Ys (parts := [(0, .tmp 22), (1, .tmp 24), (2, .tmp 26), (3, .tmp 28)]) (cells := [(.int .i64 t), (.int .i64 s), (.int .i64 r), (.int .i64 q)]) zr129 pl129 rfl rfl) ?_
  refine Xd 1 12 (by kernel_rfl) ?_ ?_
  ·refine Zr rfl rfl rfl ?_
   have dr := ((((((U.ch I (nS om)).ch0 Q).ch0 S).ch F (nS om)).ch P (nS om)).ch R (nS om)).ch Z (nS om)
   refine s_v (Zp dr.at_ agg34 rfl rfl) ?_
   refine ⟨am, ?_⟩
   refine dO 12 (Zr rfl rfl rfl ?_)
   refine Zq (cs := GEdge.cs) (parts := [(0, .tmp 29)]) (⟨0, 0, 0, 0⟩ : GEdge) [(⟨t, s, r, q⟩ : GEdge)] el34 sz129 zr129 GEdge.len (by decide) rfl rfl rfl (by decide) (by decide) rfl fun bb ew J ab au => ?_
   have fz := au.size
   have E := E.trans au.of_nil
   obtain ⟨ac, ad, rfl, ae, T⟩ := J.opn
   have bL : Ch ([b_c] ++ (bl (.slice h (f).length l)) ++ [D]) H ew := (am.trans au.of_nil)
   refine ⟨bL, ?_⟩
   refine dO 13 (Zr rfl rfl rfl ?_)
   have ex := (((((((((z.ch0 C6).ch C7 (dS a c om)).ch I (dS a c om)).ch0 Q).ch0 S).ch F (dS a c om)).ch P (dS a c om)).ch R (dS a c om)).ch Z (dS a c om)).ch0 au
   refine Yg (cs := GEdge.cs) el34 sz129 by129 zr129 rfl (by decide) GEdge.one ex J.ls rfl rfl bd bd a om fun bc ey K L A aR => ?_
   have fA := aR.size
   have E := E.step aR (fun i hi => .inl (by have O := a _ hi; omega))
   obtain ⟨u, x, rfl, af, y⟩ := K.opn
   have bM : Ch ([b_c] ++ (bl (.slice h (f).length l)) ++ [D]) H ey := (bL.step aR (fun i hm => by exact .inr (List.mem_append_left _ (List.mem_append_right _ hm))))
   refine ⟨bM, ?_⟩
   refine dV 14 rfl rfl rfl (fun _ => Zd fa36_1 rfl) (dO 15 (Zr rfl rfl rfl ?_))
   have ez := (dr.ch0 au).ch aR (fun hm => by have O := a _ hm; have G := c _ hm; omega)
   refine Zy (off := 1) ez sz34 rfl rfl rfl rfl fun ds aS aT => ?_
   have fB := aT.size
   have E := E.step aT (lS om)
   replace aS : Blk ds D 36 [(.slice o (m).length p), (.slice u ((f ++ [(⟨t, s, r, q⟩ : GEdge)])).length x)] := aS
   have cM : Ch ([b_c] ++ (bl (.slice h (f).length l)) ++ [D]) H ds := (bM.step aT (fun i hm => by have C := List.mem_singleton.1 hm; exact .inr (by rw [C]; exact (List.mem_append_right _ (List.mem_singleton.2 rfl)))))
   refine ⟨cM, ?_⟩
   refine Zw (by kernel_rfl) ?_
   refine Yc (Zb (H9 _ _ ?_))
   refine Zh fun g5 eA => ?_
   refine Zc (Za rfl rfl (Zi aS.at_ agg36 sz36 rfl) (Zl rfl rfl ?_))
   have eB := ((((((((((((a8.ch C5 (nS om)).ch0 C6).ch C7 (nS om)).ch I (nS om)).ch0 Q).ch0 S).ch F (nS om)).ch P (nS om)).ch R (nS om)).ch Z (nS om)).ch0 au).ch aR (fun hm => by have O := a _ hm; have G := c _ hm; omega)).ch aT (nS om)
   refine Zk (off := 0) 2 eB sz36 rfl (us := [(.slice o (m).length p), (.slice u ((f ++ [(⟨t, s, r, q⟩ : GEdge)])).length x)]) rfl rfl rfl rfl fun cN aU bN => ?_
   have fC := bN.size
   have E := E.step bN (lS om)
   replace aU : Blk cN bf 36 [(.slice o (m).length p), (.slice u ((f ++ [(⟨t, s, r, q⟩ : GEdge)])).length x)] := aU
   refine Ze (Zb (eA _ _ ?_))
   refine Zv ?_
   have eC := ((((((((((((B.ch0 C6).ch C7 (dS b d om)).ch I (dS b d om)).ch0 Q).ch0 S).ch F (dS b d om)).ch P (dS b d om)).ch R (dS b d om)).ch Z (dS b d om)).ch0 au).ch aR (fun g hg hm => by exact n _ hg hm)).ch aT (dS b d om)).ch bN (dS b d om)
   have cO : Ol ics 3 1 cN (.slice o (m).length p) (m) := by
    have hx := eC
    first | exact hx | simpa using hx
   have eD := (K.ch aT (fun g hg hm => by have C := List.mem_singleton.1 hm; rcases A with ea | ea; (rw [ea] at hg; have G := a _ hg; have be := c _ hg; omega); (have M := y _ hg; rw [ea] at hg; have ag := List.mem_singleton.1 hg; omega))).ch bN (fun g hg hm => by have C := List.mem_singleton.1 hm; rcases A with ea | ea; (rw [ea] at hg; have G := a _ hg; have be := c _ hg; omega); (have M := y _ hg; rw [ea] at hg; have ag := List.mem_singleton.1 hg; omega))
   have cP : Ol GEdge.cs 129 4 cN (.slice u ((f ++ [(⟨t, s, r, q⟩ : GEdge)])).length x) ((f ++ [(⟨t, s, r, q⟩ : GEdge)])) := by
    have hx := eD
    first | exact hx | simpa using hx
   have eE := (((V.ch0 au).ch aR (fun i hm => by have O := a _ hm; have G := c _ hm; omega)).ch aT (oS om)).ch bN (oS om)
   exact Zj [_] (Zn aU rfl agg36 sz36 trivial) ⟨m, (f ++ [(⟨t, s, r, q⟩ : GEdge)]), (.slice o (m).length p), (.slice u ((f ++ [(⟨t, s, r, q⟩ : GEdge)])).length x), rfl, cO, (Lo.down b om), cP, (Lo.down L om), (fun g hm hg => by rcases A with ea | ea; (rw [ea] at hg; exact n _ hm hg); (have M := y _ hg; rw [ea] at hg; have ag := List.mem_singleton.1 hg; have O := b _ hm; have G := d _ hm; omega)), (by first | omega | (simp only [List.length_append, List.length_singleton, List.length_set, List.length_nil]; omega)), eE, E⟩
  refine Zr rfl rfl rfl ?_
  refine Zq (cs := GEdge.cs) (parts := [(0, .tmp 29)]) (⟨0, 0, 0, 0⟩ : GEdge) [(⟨t, s, r, q⟩ : GEdge)] el34 sz129 zr129 GEdge.len (by decide) rfl rfl rfl (by decide) (by decide) rfl fun bb eF J ab av => ?_
  have fD := av.size
  have E := E.trans av.of_nil
  obtain ⟨ac, ad, rfl, ae, T⟩ := J.opn
  have aV : Ch ([b_c] ++ (bl (.slice h (f).length l)) ++ [D]) H eF := (am.trans av.of_nil)
  refine ⟨aV, ?_⟩
  refine dO 1 (Zr rfl rfl rfl ?_)
  have dt := (((((((U.ch I (nS om)).ch0 Q).ch0 S).ch F (nS om)).ch P (nS om)).ch R (nS om)).ch Z (nS om)).ch0 av
  refine s_v (Zp dt.at_ agg34 rfl rfl) ?_
  refine ⟨aV, ?_⟩
  refine dO 13 (Zr rfl rfl rfl ?_)
  have eG := (((((((((z.ch0 C6).ch C7 (dS a c om)).ch I (dS a c om)).ch0 Q).ch0 S).ch F (dS a c om)).ch P (dS a c om)).ch R (dS a c om)).ch Z (dS a c om)).ch0 av
  refine Yg (cs := GEdge.cs) el34 sz129 by129 zr129 rfl (by decide) GEdge.one eG J.ls rfl rfl bd bd a om fun bc eH K L A aW => ?_
  have fE := aW.size
  have E := E.step aW (fun i hi => .inl (by have O := a _ hi; omega))
  obtain ⟨u, x, rfl, af, y⟩ := K.opn
  have bO : Ch ([b_c] ++ (bl (.slice h (f).length l)) ++ [D]) H eH := (aV.step aW (fun i hm => by exact .inr (List.mem_append_left _ (List.mem_append_right _ hm))))
  refine ⟨bO, ?_⟩
  refine dV 14 rfl rfl rfl (fun _ => Zd fa36_1 rfl) (dO 15 (Zr rfl rfl rfl ?_))
  have eI := dt.ch aW (fun hm => by have O := a _ hm; have G := c _ hm; omega)
  refine Zy (off := 1) eI sz34 rfl rfl rfl rfl fun du aX aY => ?_
  have fF := aY.size
  have E := E.step aY (lS om)
  replace aX : Blk du D 36 [(.slice o (m).length p), (.slice u ((f ++ [(⟨t, s, r, q⟩ : GEdge)])).length x)] := aX
  have cQ : Ch ([b_c] ++ (bl (.slice h (f).length l)) ++ [D]) H du := (bO.step aY (fun i hm => by have C := List.mem_singleton.1 hm; exact .inr (by rw [C]; exact (List.mem_append_right _ (List.mem_singleton.2 rfl)))))
  refine ⟨cQ, ?_⟩
  refine Zw (by kernel_rfl) ?_
  refine Yc (Zb (H9 _ _ ?_))
  refine Zh fun g6 eJ => ?_
  refine Zc (Za rfl rfl (Zi aX.at_ agg36 sz36 rfl) (Zl rfl rfl ?_))
  have eK := ((((((((((((a8.ch C5 (nS om)).ch0 C6).ch C7 (nS om)).ch I (nS om)).ch0 Q).ch0 S).ch F (nS om)).ch P (nS om)).ch R (nS om)).ch Z (nS om)).ch0 av).ch aW (fun hm => by have O := a _ hm; have G := c _ hm; omega)).ch aY (nS om)
  refine Zk (off := 0) 2 eK sz36 rfl (us := [(.slice o (m).length p), (.slice u ((f ++ [(⟨t, s, r, q⟩ : GEdge)])).length x)]) rfl rfl rfl rfl fun cR aZ bP => ?_
  have fG := bP.size
  have E := E.step bP (lS om)
  replace aZ : Blk cR bf 36 [(.slice o (m).length p), (.slice u ((f ++ [(⟨t, s, r, q⟩ : GEdge)])).length x)] := aZ
  refine Ze (Zb (eJ _ _ ?_))
  refine Zv ?_
  have eL := ((((((((((((B.ch0 C6).ch C7 (dS b d om)).ch I (dS b d om)).ch0 Q).ch0 S).ch F (dS b d om)).ch P (dS b d om)).ch R (dS b d om)).ch Z (dS b d om)).ch0 av).ch aW (fun g hg hm => by exact n _ hg hm)).ch aY (dS b d om)).ch bP (dS b d om)
  have cS : Ol ics 3 1 cR (.slice o (m).length p) (m) := by
   have hx := eL
   first | exact hx | simpa using hx
  have eM := (K.ch aY (fun g hg hm => by have C := List.mem_singleton.1 hm; rcases A with ea | ea; (rw [ea] at hg; have G := a _ hg; have be := c _ hg; omega); (have M := y _ hg; rw [ea] at hg; have ag := List.mem_singleton.1 hg; omega))).ch bP (fun g hg hm => by have C := List.mem_singleton.1 hm; rcases A with ea | ea; (rw [ea] at hg; have G := a _ hg; have be := c _ hg; omega); (have M := y _ hg; rw [ea] at hg; have ag := List.mem_singleton.1 hg; omega))
  have cT : Ol GEdge.cs 129 4 cR (.slice u ((f ++ [(⟨t, s, r, q⟩ : GEdge)])).length x) ((f ++ [(⟨t, s, r, q⟩ : GEdge)])) := by
   have hx := eM
   first | exact hx | simpa using hx
  have eN := (((V.ch0 av).ch aW (fun i hm => by have O := a _ hm; have G := c _ hm; omega)).ch aY (oS om)).ch bP (oS om)
  exact Zj [_] (Zn aZ rfl agg36 sz36 trivial) ⟨m, (f ++ [(⟨t, s, r, q⟩ : GEdge)]), (.slice o (m).length p), (.slice u ((f ++ [(⟨t, s, r, q⟩ : GEdge)])).length x), rfl, cS, (Lo.down b om), cT, (Lo.down L om), (fun g hm hg => by rcases A with ea | ea; (rw [ea] at hg; exact n _ hm hg); (have M := y _ hg; rw [ea] at hg; have ag := List.mem_singleton.1 hg; have O := b _ hm; have G := d _ hm; omega)), (by first | omega | (simp only [List.length_append, List.length_singleton, List.length_set, List.length_nil]; omega)), eN, E⟩
 have dJ := aw
 have aw := Yu aw
 refine Zh fun g7 eO => ?_
 refine Zc (Za rfl rfl (Qg rfl rfl) (Za rfl rfl (Zf rfl) (Ze (Zb (eO _ _ ?_)))))
 refine Zz rfl (fun a0 => ?_) (fun a0 => ?_)
 ·have dv := a0
  have a0 := Yt a0
  refine Zc (Za rfl rfl (Zd fa36_0 rfl) (Zl rfl rfl ?_))
  have eP := U.ch I (nS om)
  refine Zy (off := 0) eP sz22 rfl rfl rfl rfl fun eQ a1 bQ => ?_
  have fH := bQ.size
  have E := E.step bQ (lS om)
  replace a1 : Blk eQ D 36 [(.slice none 0 0), (.slice h (f).length l)] := a1
  refine Ze (Yc (Zb (H9 _ _ ?_)))
  refine Zh fun g8 eR => ?_
  refine Zc (Za rfl rfl (Zi a1.at_ agg36 sz36 rfl) (Zl rfl rfl ?_))
  have eS := ((((a8.ch C5 (nS om)).ch0 C6).ch C7 (nS om)).ch I (nS om)).ch bQ (nS om)
  refine Zk (off := 0) 2 eS sz36 rfl (us := [(.slice none 0 0), (.slice h (f).length l)]) rfl rfl rfl rfl fun bT a2 bU => ?_
  have fI := bU.size
  have E := E.step bU (lS om)
  replace a2 : Blk bT bf 36 [(.slice none 0 0), (.slice h (f).length l)] := a2
  refine Ze (Zb (eR _ _ ?_))
  refine Zv ?_
  have cU : Ol ics 3 1 bT (.slice none 0 0) (([] : List Int)) := by
   have hx := Ol.nil (cs := ics) (e := 3) (k := 1) bT
   first | exact hx | simpa using hx
  have eT := ((((z.ch0 C6).ch C7 (dS a c om)).ch I (dS a c om)).ch bQ (dS a c om)).ch bU (dS a c om)
  have cV : Ol GEdge.cs 129 4 bT (.slice h (f).length l) (f) := by
   have hx := eT
   first | exact hx | simpa using hx
  have eU := (cZ.ch bQ (oS om)).ch bU (oS om)
  exact Zj [_] (Zn a2 rfl agg36 sz36 trivial) ⟨([] : List Int), f, (.slice none 0 0), (.slice h (f).length l), rfl, cU, (Lo.nil _), cV, (Lo.down a om), (fun g hm hg => by cases hm), (by first | omega | (simp only [List.length_append, List.length_singleton, List.length_set, List.length_nil]; omega)), eU, E⟩
 have dv := a0
 have a0 := Yu a0
 refine Yf ?_
 refine Yc (Zb (H9 _ _ ?_))
 refine Zh fun g9 eV => ?_
 refine Zc ?_
 have eW := U.ch I (nS om)
 refine Za rfl rfl (Zi eW.at_ agg36 sz36 rfl) (Zl rfl rfl ?_)
 have eX := (((a8.ch C5 (nS om)).ch0 C6).ch C7 (nS om)).ch I (nS om)
 refine Zk (off := 0) 2 eX sz36 rfl (us := [(.slice o (m).length p), (.slice h (f).length l)]) rfl rfl rfl rfl fun cW a3 bR => ?_
 have fJ := bR.size
 have E := E.step bR (lS om)
 replace a3 : Blk cW bf 36 [(.slice o (m).length p), (.slice h (f).length l)] := a3
 refine Ze (Zb (eV _ _ ?_))
 refine Zv ?_
 have eY := (((B.ch0 C6).ch C7 (dS b d om)).ch I (dS b d om)).ch bR (dS b d om)
 have cX : Ol ics 3 1 cW (.slice o (m).length p) (m) := by
  have hx := eY
  first | exact hx | simpa using hx
 have eZ := (((z.ch0 C6).ch C7 (dS a c om)).ch I (dS a c om)).ch bR (dS a c om)
 have cY : Ol GEdge.cs 129 4 cW (.slice h (f).length l) (f) := by
  have hx := eZ
  first | exact hx | simpa using hx
 have e0 := cZ.ch bR (oS om)
 exact Zj [_] (Zn a3 rfl agg36 sz36 trivial) ⟨m, f, (.slice o (m).length p), (.slice h (f).length l), rfl, cX, (Lo.down b om), cY, (Lo.down a om), (fun g hm hg => by exact n _ hm hg), (by first | omega | (simp only [List.length_append, List.length_singleton, List.length_set, List.length_nil]; omega)), e0, E⟩

/-- spec.NewHistory -/
theorem Zec {w : World} {LL_gV P : Nat} {C : Value} {gV : List Int} (o : Ls ics 1 w LL_gV P C gV) {LL_gE Q : Nat} {D : Value} {gE : List GEdge} (p : Ls GEdge.cs 4 w LL_gE Q D gE) (n : Int) (hb : gV.length ≤ 4194304 ∧ gE.length ≤ 4194304) :
 Ctr Try.prog 133 #[(.agg #[C, D]), (.int .i64 n)] w (fun v w' => ∃ (B : Value) (x : List Gv), v = .tuple #[.agg #[.int .i64 (nhF gV gE n), B], .bool (tt (Xw n [⟨gV, gE⟩]))] ∧ Ol Gv.cs 36 2 w' B x ∧ Lo w.heap.size B ∧ OdG 3 129 w' w.heap.size w'.heap.size x (nhG gV gE n) ∧ SepH B x ∧ Ch [] w w') := by
 obtain ⟨F, G, J⟩ := o.val
 subst J
 have ak := o.len
 have o := o.here (by decide)
 obtain ⟨H, I, K⟩ := p.val
 subst K
 have al := p.len
 have p := p.here (by decide)
 have E := Ch.refl [] w
 refine Yj (N := 17) (vs0 := [(.agg #[(.slice F gV.length G), (.slice H gE.length I)]), (.int .i64 n)]) Try.func133 rfl rfl rfl ?_
 refine Zh fun K1 H1 => ?_
 refine Zc (Zl rfl rfl ?_)
 refine Xm rfl fun au W2 Y C2 aS => ?_
 have aT := C2.size
 have E := E.trans C2
 have aU := Y.lt
 replace Y : Blk W2 au 36 [(.slice F gV.length G), (.slice H gE.length I)] := Y
 refine Zl rfl rfl ?_
 refine Yd zr57 fun ad W3 R C3 aV => ?_
 have aW := C3.size
 have E := E.trans C3
 have aX := R.lt
 replace R : Blk W3 ad 57 [(.int .i64 0), (.slice none 0 0)] := R
 refine Za rfl rfl (Zf rfl) (Ze (Zb (H1 _ _ ?_)))
 refine Zh fun K4 H4 => ?_
 refine Zc (Za rfl rfl (Zg rfl) ?_)
 have F5 := Y.ch0 C3
 refine Za rfl rfl (Zi F5.at_ agg36 sz36 rfl) (Zl rfl rfl ?_)
 have F6 := (o.ch0 C2).ch0 C3
 have F7 := (p.ch0 C2).ch0 C3
 refine Step.call (Zm (xs := [.tmp 8]) fk92 rfl) (Yz F6 F7 om) fun aY W8 av => ?_
 obtain ⟨ae, af, rfl, j, r, k, s, i, C8⟩ := av
 have aZ := C8.size
 have E := E.trans C8
 obtain ⟨a, b, rfl, Z, l⟩ := j.opn
 obtain ⟨c, d, rfl, aa, m⟩ := k.opn
 refine Zl rfl rfl ?_
 refine Zq (cs := Gv.cs) (parts := [(0, .tmp 9)]) (⟨⟨none, 0, 0⟩, ⟨none, 0, 0⟩⟩ : Gv) [(⟨(⟨a, (gV).length, b⟩ : Sv), (⟨c, (gE).length, d⟩ : Sv)⟩ : Gv)] el55 sz36 zr36 Gv.len (by decide) rfl rfl rfl (by decide) (by decide) rfl fun aw W9 S q C9 => ?_
 have a0 := C9.size
 have E := E.trans C9
 obtain ⟨f, h, rfl, am, y⟩ := S.opn
 have ax := j.ch0 C9
 have ay := k.ch0 C9
 have ag : OdG 3 129 W9 W3.heap.size W9.heap.size ([(⟨(⟨a, (gV).length, b⟩ : Sv), (⟨c, (gE).length, d⟩ : Sv)⟩ : Gv)]) ([(⟨gV, gE⟩ : GD)]) := OdG.snoc (hi := W3.heap.size) (vs := []) (xs := []) OdG.nil ax ay (Lo.down r om) (Lo.down s om) (fun g hg => by have ah := l g hg; omega) (fun g hg => by have ah := m g hg; omega) (fun g hm hg => by exact i _ hm hg) om om
 have T : SepH (.slice f ([(⟨(⟨a, (gV).length, b⟩ : Sv), (⟨c, (gE).length, d⟩ : Sv)⟩ : Gv)]).length h) [(⟨(⟨a, (gV).length, b⟩ : Sv), (⟨c, (gE).length, d⟩ : Sv)⟩ : Gv)] := fun u hu => by rw [List.mem_singleton.1 hu]; exact ⟨fun g hg hm => by have ah := l _ hg; have az := q _ hm; omega, fun g hg hm => by have ah := m _ hg; have az := q _ hm; omega⟩
 refine Za rfl rfl (Ys (parts := [(0, .tmp 7), (1, .tmp 10)]) (cells := [(.int .i64 n), (.slice f ([(⟨(⟨a, (gV).length, b⟩ : Sv), (⟨c, (gE).length, d⟩ : Sv)⟩ : Gv)]).length h)]) zr57 pl57 rfl rfl) (Zl rfl rfl ?_)
 refine Yd zr57 fun an aA ab M a1 => ?_
 have aB := M.size
 have E := E.trans M
 have a2 := ab.lt
 replace ab : Blk aA an 57 [(.int .i64 0), (.slice none 0 0)] := ab
 refine Zl rfl rfl ?_
 refine Zk (off := 0) 2 ab sz57 rfl (us := [(.int .i64 n), (.slice f ([(⟨(⟨a, (gV).length, b⟩ : Sv), (⟨c, (gE).length, d⟩ : Sv)⟩ : Gv)]).length h)]) rfl rfl rfl rfl fun aC t O => ?_
 have aD := O.size
 have E := E.step O (lS om)
 replace t : Blk aC an 57 [(.int .i64 n), (.slice f ([(⟨(⟨a, (gV).length, b⟩ : Sv), (⟨c, (gE).length, d⟩ : Sv)⟩ : Gv)]).length h)] := t
 refine Ze (Zb (H4 _ _ ?_))
 refine Zh fun a3 aE => ?_
 refine Zh fun a4 aF => ?_
 refine Zc (Za rfl rfl (Zi t.at_ agg57 sz57 rfl) (Zl rfl rfl ?_))
 have ao := (S.ch0 M).ch O (dS q y om)
 have ap := (ag.ch0 M).ch O (oS om)
 refine Step.call (Zm (xs := [.tmp 12]) fk34 rfl) (Xy _ ao.ls ap.rdg ) fun aG a5 ai => ?_
 obtain ⟨rfl, L⟩ := ai
 have aH := L.size
 have E := E.trans L
 refine Za rfl rfl (Xp rfl) (Ze (Zb (aF _ _ ?_)))
 refine Zz rfl (fun e => ?_) (fun e => ?_)
 ·have aj := e
  have e := bf_t (Qj e)
  refine Zh fun a6 aI => ?_
  refine Zc (Za rfl rfl (Ys (parts := []) (cells := [(.int .i64 0), (.slice none 0 0)]) zr57 pl57 rfl rfl) (Zl rfl rfl ?_))
  have aJ := ((((R.ch0 C8).ch0 C9).ch0 M).ch O (nS om)).ch0 L
  refine Zk (off := 0) 2 aJ sz57 rfl (us := [(.int .i64 0), (.slice none 0 0)]) rfl rfl rfl rfl fun aK z aq => ?_
  have aL := aq.size
  have E := E.step aq (lS om)
  replace z : Blk aK ad 57 [(.int .i64 0), (.slice none 0 0)] := z
  refine Za rfl rfl (Zf rfl) (Ze (Zb (aI _ _ ?_)))
  refine Zv (Zt ?_)
  exact Zj [_, _] (Zn z rfl agg57 sz57 ⟨rfl, trivial⟩) ⟨(.slice none 0 0), [], ((congrArg (fun zq => (Value.tuple #[.agg #[.int .i64 zq, (.slice none 0 0)], .bool false])) (by first | exact Zma e | exact Zla e)).trans (congrArg (fun zq => (Value.tuple #[.agg #[.int .i64 (nhF gV gE n), (.slice none 0 0)], .bool zq])) (by first | exact Zu e | exact Xt e))), (Ol.nil _), (Lo.nil _), (by rw [← Znd e]; exact OdG.nil), (fun u hu => by cases hu), E⟩
 have aj := e
 have e := bt_t (Qk e)
 refine Yf ?_
 refine Zb (aE _ _ ?_)
 refine Zh fun a7 aM => ?_
 refine Zc ?_
 have aN := t.ch0 L
 refine Za rfl rfl (Zi aN.at_ agg57 sz57 rfl) (Zl rfl rfl ?_)
 have aO := ((((R.ch0 C8).ch0 C9).ch0 M).ch O (nS om)).ch0 L
 refine Zk (off := 0) 2 aO sz57 rfl (us := [(.int .i64 n), (.slice f ([(⟨(⟨a, (gV).length, b⟩ : Sv), (⟨c, (gE).length, d⟩ : Sv)⟩ : Gv)]).length h)]) rfl rfl rfl rfl fun U A ac => ?_
 have aP := ac.size
 have E := E.step ac (lS om)
 replace A : Blk U ad 57 [(.int .i64 n), (.slice f ([(⟨(⟨a, (gV).length, b⟩ : Sv), (⟨c, (gE).length, d⟩ : Sv)⟩ : Gv)]).length h)] := A
 refine Za rfl rfl (Zf rfl) (Ze (Zb (aM _ _ ?_)))
 refine Zv ?_
 have aQ := (ao.ch0 L).ch ac (dS q y om)
 have aR := (ap.ch0 L).ch ac (oS om)
 have V : Ol Gv.cs 36 2 U (.slice f ([(⟨(⟨a, (gV).length, b⟩ : Sv), (⟨c, (gE).length, d⟩ : Sv)⟩ : Gv)]).length h) ([(⟨(⟨a, (gV).length, b⟩ : Sv), (⟨c, (gE).length, d⟩ : Sv)⟩ : Gv)]) := by
  have hx := aQ
  exact hx
 have X : OdG 3 129 U w.heap.size U.heap.size ([(⟨(⟨a, (gV).length, b⟩ : Sv), (⟨c, (gE).length, d⟩ : Sv)⟩ : Gv)]) (nhG gV gE n) := by
  have hx := aR.up (lo' := w.heap.size) (hi' := U.heap.size) om om
  rw [← Zmg e]; exact hx
 exact Zj [_, _] (Zn A rfl agg57 sz57 ⟨rfl, trivial⟩) ⟨(.slice f ([(⟨(⟨a, (gV).length, b⟩ : Sv), (⟨c, (gE).length, d⟩ : Sv)⟩ : Gv)]).length h), ([(⟨(⟨a, (gV).length, b⟩ : Sv), (⟨c, (gE).length, d⟩ : Sv)⟩ : Gv)]), ((congrArg (fun zq => (Value.tuple #[.agg #[.int .i64 zq, (.slice f ([(⟨(⟨a, (gV).length, b⟩ : Sv), (⟨c, (gE).length, d⟩ : Sv)⟩ : Gv)]).length h)], .bool true])) (by first | exact Zma e | exact Zla e)).trans (congrArg (fun zq => (Value.tuple #[.agg #[.int .i64 (nhF gV gE n), (.slice f ([(⟨(⟨a, (gV).length, b⟩ : Sv), (⟨c, (gE).length, d⟩ : Sv)⟩ : Gv)]).length h)], .bool zq])) (by first | exact Zu e | exact Xt e))), V, (Lo.down q om), X, T, E⟩

/-- spec.l7History -/
theorem Zeq {w : World} {b_c : Nat} (cr : Cu w b_c) :
 Ctr Try.prog 116 #[(.pointer (some ⟨b_c, 0, none⟩))] w (fun v w' => ∃ (bz : Int) (bA : List GD) (aX : Value) (aD : List Gv), v = .agg #[.int .i64 bz, aX] ∧ Ol Gv.cs 36 2 w' aX aD ∧ Lo w.heap.size aX ∧ OdG 3 129 w' w.heap.size w'.heap.size aD (bA) ∧ SepH aX aD ∧ (Xw bz bA) ∧ Cu w' b_c ∧ Ch [b_c] w w') := by
 have ea := cr.lt
 have E := Ch.refl [b_c] w
 refine Yj (N := 40) (vs0 := [(.pointer (some ⟨b_c, 0, none⟩))]) Try.func116 rfl rfl rfl ?_
 refine Zh fun K1 H1 => ?_
 refine Zc (Zl rfl rfl ?_)
 refine Yd zr57 fun cE W2 cF C2 fS => ?_
 have fT := C2.size
 have E := E.trans C2.of_nil
 have fU := cF.lt
 replace cF : Blk W2 cE 57 [(.int .i64 0), (.slice none 0 0)] := cF
 refine Ze (Zb (H1 _ _ ?_))
 refine Zh fun K3 H3 => ?_
 refine Zc (Za rfl rfl (Zg rfl) (Zl rfl rfl ?_))
 have F4 := cr.ch0 C2
 refine Step.call (Zm (xs := [.tmp 7]) fk134 rfl) (Zdd F4 ) fun fV W5 eD => ?_
 obtain ⟨ac, ad, cO, cP, rfl, am, aE, an, aF, aY, bB, eE, C5⟩ := eD
 have fW := C5.size
 have E := E.trans C5
 obtain ⟨cG, cH, rfl, cI, a0⟩ := am.opn
 obtain ⟨cJ, cK, rfl, cL, a1⟩ := an.opn
 have fX := bB.2.2
 have cQ := fun n hn => Zki (n := n) bB hn
 refine Za rfl rfl (Zg rfl) (Zl rfl rfl ?_)
 refine Step.call (Zm (xs := [.tmp 9, .const (Go.Value.int Go.IntKind.i64 4)]) fk95 rfl) (Zs eE _ om) fun eF W6 cR => ?_
 obtain ⟨aq, rfl, cS, cT, C6⟩ := cR
 have fY := C6.size
 have E := E.trans C6
 refine Za rfl rfl (Xc om rfl rfl) (Zl rfl rfl ?_)
 have F7 := am.ch C6 (dS aE a0 om)
 have F8 := an.ch C6 (dS aF a1 om)
 refine Step.call (Zm (xs := [.tmp 8, .tmp 11]) fk133 rfl) (Zec F7.ls F8.ls _ om) fun eG W9 cU => ?_
 obtain ⟨cM, u, rfl, ae, x, aa, al, C9⟩ := cU
 have fZ := C9.size
 have E := E.trans C9.of_nil
 obtain ⟨U, X, rfl, ct, H⟩ := ae.opn
 refine Za rfl rfl (Zg rfl) (Za rfl rfl (Yb rfl rfl) (Za rfl rfl (Yb rfl rfl) (Zl rfl rfl ?_)))
 refine Yd zr57 fun I eH cN cn f0 => ?_
 have eI := cn.size
 have E := E.trans cn.of_nil
 have f1 := cN.lt
 replace cN : Blk eH I 57 [(.int .i64 0), (.slice none 0 0)] := cN
 refine Zl rfl rfl ?_
 refine Zk (off := 0) 2 cN sz57 rfl (us := [(.int .i64 (nhF ac ad (1 + aq))), (.slice U (u).length X)]) rfl rfl rfl rfl fun eb a3 co => ?_
 have eJ := co.size
 have E := E.step co (lS om)
 replace a3 : Blk eb I 57 [(.int .i64 (nhF ac ad (1 + aq))), (.slice U (u).length X)] := a3
 refine Za rfl rfl (Zf rfl) (Ze (Zb (H3 _ _ ?_)))
 refine Zh fun f2 eK => ?_
 refine Zh fun f3 eL => ?_
 refine Zc (Za rfl rfl (Zg rfl) (Za rfl rfl (Zg rfl) (Zl rfl rfl ?_)))
 refine Zq (cs := ics) (parts := [(0, .const (Go.Value.int Go.IntKind.i64 3)), (1, .const (Go.Value.int Go.IntKind.i64 5)), (2, .const (Go.Value.int Go.IntKind.i64 10))]) (0 : Int) [3, 5, 10] el22 sz3 zr3 Yx (by decide) rfl rfl rfl (by decide) (by decide) rfl fun eM f4 cu cv bX => ?_
 have eN := bX.size
 have E := E.trans bX.of_nil
 obtain ⟨ec, ed, rfl, ee, cV⟩ := cu.opn
 refine Zl rfl rfl ?_
 have eO := (((cT.ch0 C9).ch0 cn).ch co (oS om)).ch0 bX
 refine Step.call (Zm (xs := [.tmp 16, .tmp 17]) fk117 rfl) (Zx eO cu (by decide) eb.heap.size om cv) fun eP f5 cW => ?_
 obtain ⟨bC, rfl, bY, cX, cp⟩ := cW
 have eQ := cp.size
 have E := E.trans cp
 have eR : 3 ≤ bC ∧ bC ≤ 10 := by have eS := bY; simp at eS; omega
 refine Zl rfl rfl ?_
 refine Step.call (Zm (xs := [.tmp 15, .tmp 18]) fk95 rfl) (Zs cX _ om) fun eT ef cY => ?_
 obtain ⟨cw, rfl, cZ, c0, cq⟩ := cY
 have eU := cq.size
 have E := E.trans cq
 refine Za rfl rfl (Zf rfl) (Ze (Zb (eL _ _ ?_)))
 refine Yn ?_
 have eV := ((((ae.ch0 cn).ch co (dS x H om)).ch0 bX).ch cp (dS x H om)).ch cq (dS x H om)
 have bZ : Ol Gv.cs 36 2 ef (.slice U (u).length X) (u) := by
  have hx := eV
  exact hx
 have eg := ((((aa.ch0 cn).ch co (oS om)).ch0 bX).ch cp (oS om)).ch cq (oS om)
 have eW := ((a3.ch0 bX).ch cp (nS om)).ch cq (nS om)
 have eX := (((((((cF.ch C5 (nS om)).ch C6 (nS om)).ch0 C9).ch0 cn).ch co (nS om)).ch0 bX).ch cp (nS om)).ch cq (nS om)
 refine Ql (σ := Int × Int × List GD × List Gv × Value) (fun ⟨m, F, G, vs, kv⟩ => [(0, (.pointer (some ⟨b_c, 0, none⟩))), (2, (.pointer (some ⟨cE, 0, none⟩))), (3, (.pointer (some ⟨I, 0, none⟩))), (5, (.int .i64 m))]) (fun ⟨m, F, G, vs, kv⟩ wx => Ch [b_c] w wx ∧ ef.heap.size ≤ wx.heap.size ∧ (0 ≤ m ∧ m ≤ 10) ∧ (Xw F G) ∧ (vs.length = G.length) ∧ Cu wx b_c ∧ Blk wx cE 57 [(.int .i64 0), (.slice none 0 0)] ∧ OdG 3 129 wx W6.heap.size W9.heap.size u (nhG ac ad (1 + aq)) ∧ Ol Gv.cs 36 2 wx kv vs ∧ Lo W6.heap.size kv ∧ OdG 3 129 wx W6.heap.size wx.heap.size vs G ∧ Blk wx I 57 [(.int .i64 F), kv] ∧ (I ∉ bl kv) ∧ (SepH kv vs)) (fun ⟨m, F, G, vs, kv⟩ => m.toNat) (cw, nhF ac ad (1 + aq), nhG ac ad (1 + aq), u, (.slice U (u).length X)) (sC4 rfl rfl rfl rfl (Sub.nil _)) ⟨E, (Nat.le_refl _), om, (by rw [← Zla (cQ _ om), ← Zmg (cQ _ om)]; exact cQ _ om), (aa.1), c0, eX, eg, bZ, x, (eg.up om om), eW, (fun hm => by have ao := x _ hm; have bD := H _ hm; omega), al⟩ ?_
 rintro ⟨m, F, G, vs, kv⟩ a2 ⟨E, eY, hm, hv, hvl, Y, O, ab, aG, ap, od, aZ, a4, bq⟩
 have c1 := E
 have eh := c1.size
 have c2 := O.lt
 obtain ⟨Akv, Ckv, rfl, lkv, hikv⟩ := aG.opn
 have f6 := Zai hv
 refine Zh fun f7 eZ => ?_
 refine Zh fun f8 e0 => ?_
 refine Zc (Za rfl rfl (Zg rfl) (Za rfl rfl (Zcj rfl rfl) (Ze (Zb (e0 _ _ ?_)))))
 refine Zz rfl (fun aH => ?_) (fun aH => ?_)
 ·have c3 := aH
  have aH := Yt aH
  refine Yf ?_
  refine Zb (eZ _ _ ?_)
  refine Zh fun f9 bF => ?_
  refine Yn ?_
  obtain ⟨a5, aI, Z⟩ := Ol.lsE aG om
  have c4 := ap a5 (by rw [aI]; simp)
  have c5 := hikv a5 (by rw [aI]; simp)
  have c6 : a5 ≠ I := fun e => a4 (by rw [aI, e]; simp)
  refine Yv ([b_c] ++ [I]) 16 mixed rfl fun L D => ?_
  have e1 := D.size
  have E := E.trans D.of_nil
  refine dV 1 rfl rfl rfl (fun _ => Zg rfl) (dV 2 rfl rfl rfl (fun _ => Zd fa57_1 rfl) (dV 4 rfl rfl rfl (fun _ => Zd fa57_1 rfl) ?_))
  refine Zft 0 3 5 (by kernel_rfl) ?_ ?_ ?_
  ·refine Zr rfl rfl rfl ?_
   have b0 := aZ.ch0 D
   refine s_v (Zi b0.at_ agg57 sz57 rfl) ?_
   refine ⟨(Ch.refl _ _), ?_⟩
   refine Xd 3 5 (by kernel_rfl) ?_ ?_
   ·refine Zr rfl rfl rfl ?_
    refine s_v (Zp b0.at_ agg55 rfl rfl) ?_
    refine ⟨(Ch.refl _ _), ?_⟩
    refine dO 5 (Zr rfl rfl rfl ?_)
    refine s_v (Zp b0.at_ agg55 rfl rfl) ?_
    refine ⟨(Ch.refl _ _), ?_⟩
    refine dV 6 rfl rfl rfl (fun _ => Yr (by rw [el55]; rfl) rfl) (dV 7 rfl rfl rfl (fun _ => Xe om rfl rfl) ?_)
    have ei := Z.ch0 D
    have ej := od.ch0 D
    refine dT 8 rfl rfl rfl (Xh (j := (((vs.length : Nat) : Int) - 1).toNat) ei Gv.len el55 sz36 rfl rfl om om fun a6 af M ag => ?_)
    obtain ⟨q, y, p, r⟩ := ej.rdg.get M
    obtain ⟨⟨ah, a7, ai⟩, ⟨aj, a8, ak⟩⟩ := af
    obtain rfl := p.eqn
    obtain rfl := r.eqn
    have a9 := p.len
    have ba := r.len
    replace p : Ls ics 1 L W6.heap.size a2.heap.size (.slice ah q.V.length ai) q.V := p
    replace r : Ls GEdge.cs 4 L W6.heap.size a2.heap.size (.slice aj q.E.length ak) q.E := r
    have bb := Zcr hv y
    refine dT 9 rfl rfl rfl (Ye ag (fun i hm => by rcases List.mem_append.1 hm with hm | hm; (have ao := List.mem_singleton.1 hm; omega); (have ao := List.mem_singleton.1 hm; omega)) agg36 sz36 rfl ?_)
    refine dO 10 (Zr rfl rfl rfl ?_)
    have e2 := Y.ch0 D
    refine Step.call (Zm (xs := [.tmp 26, .tmp 34, .const (Go.Value.int Go.IntKind.i64 4)]) fk83 rfl) (Qd e2 p r _ om om om) fun aJ e3 P => ?_
    obtain ⟨o, J, rfl, g, s, Q, R, bG⟩ := P
    have e4 := bG.size
    have E := E.trans bG
    obtain ⟨z, A, rfl, B, t⟩ := g.opn
    have bH : Ch ([b_c] ++ [I]) L e3 := ((Ch.refl _ _).step bG (fun i hm => by have S := List.mem_singleton.1 hm; exact .inr (by rw [S]; exact (List.mem_append_left _ (List.mem_singleton.2 rfl)))))
    refine ⟨bH, ?_⟩
    refine dO 11 (Zr rfl rfl rfl ?_)
    have e5 := ei.ch bG (oS om)
    have e6 := ej.ch bG (oS om)
    refine Step.call (Zm (xs := [.tmp 25, .tmp 35]) fk21 rfl) (Xi _ e5 e6.rdg g.ls (by have b1 := Zai hv; omega)) fun aK e7 T => ?_
    obtain ⟨K, a, rfl, h, b, f, l, b2⟩ := T
    have e8 := b2.size
    have E := E.trans b2.of_nil
    obtain ⟨c, d, rfl, C, k⟩ := h.opn
    have bI : Ch ([b_c] ++ [I]) L e7 := (bH.trans b2.of_nil)
    refine ⟨bI, ?_⟩
    refine dV 12 rfl rfl rfl (fun _ => Zg rfl) (dV 13 rfl rfl rfl (fun _ => Yb rfl rfl) (dV 14 rfl rfl rfl (fun _ => Yb rfl rfl) (dO 15 (Zr rfl rfl rfl ?_))))
    have e9 := (b0.ch bG (nS om)).ch0 b2
    refine Zk (off := 0) 2 e9 sz57 rfl (us := [(.int .i64 (abF F G o)), (.slice c (a).length d)]) rfl rfl rfl rfl fun c7 bc bJ => ?_
    have fa := bJ.size
    have E := E.step bJ (lS om)
    replace bc : Blk c7 I 57 [(.int .i64 (abF F G o)), (.slice c (a).length d)] := bc
    have cx : Ch ([b_c] ++ [I]) L c7 := (bI.step bJ (fun i hm => by have S := List.mem_singleton.1 hm; exact .inr (by rw [S]; exact (List.mem_append_right _ (List.mem_singleton.2 rfl)))))
    refine ⟨cx, ?_⟩
    refine Zw (by kernel_rfl) ?_
    refine Yc (Zb (bF _ _ (Zc (Za rfl rfl (Zg rfl) (Za rfl rfl (Xe om rfl rfl) (Za rfl rfl (Zf rfl) (Ze ?_)))))))
    have fb := h.ch bJ (dS b k om)
    have b3 : Ol Gv.cs 36 2 c7 (.slice c (a).length d) (a) := by
     have hx := fb
     exact hx
    have fc := f.ch bJ (oS om)
    have fd := (R.ch0 b2).ch bJ (oS om)
    have fe := (((O.ch0 D).ch bG (nS om)).ch0 b2).ch bJ (nS om)
    have ff := (((ab.ch0 D).ch bG (oS om)).ch0 b2).ch bJ (oS om)
    exact Zb (Exists.intro ((m - 1), abF F G o, abG F G o, a, (.slice c (a).length d)) ⟨⟨E, om, om, (Zbq hv), (f.1), fd, fe, ff, b3, (Lo.down b om), (fc.up om om), bc, (fun hm => by have ao := b _ hm; have bD := k _ hm; omega), l⟩, sC4 rfl rfl rfl rfl (Sub.nil _), (by first | omega | (dsimp only; omega))⟩)
   refine Zr rfl rfl rfl ?_
   refine s_v (Zp b0.at_ agg55 rfl rfl) ?_
   refine ⟨(Ch.refl _ _), ?_⟩
   refine dV 6 rfl rfl rfl (fun _ => Yr (by rw [el55]; rfl) rfl) (dV 7 rfl rfl rfl (fun _ => Xe om rfl rfl) (dO 3 (Zr rfl rfl rfl ?_)))
   refine s_v (Zp b0.at_ agg55 rfl rfl) ?_
   refine ⟨(Ch.refl _ _), ?_⟩
   have ek := Z.ch0 D
   have el := od.ch0 D
   refine dT 8 rfl rfl rfl (Xh (j := (((vs.length : Nat) : Int) - 1).toNat) ek Gv.len el55 sz36 rfl rfl om om fun a6 af M ag => ?_)
   obtain ⟨q, y, p, r⟩ := el.rdg.get M
   obtain ⟨⟨ah, a7, ai⟩, ⟨aj, a8, ak⟩⟩ := af
   obtain rfl := p.eqn
   obtain rfl := r.eqn
   have a9 := p.len
   have ba := r.len
   replace p : Ls ics 1 L W6.heap.size a2.heap.size (.slice ah q.V.length ai) q.V := p
   replace r : Ls GEdge.cs 4 L W6.heap.size a2.heap.size (.slice aj q.E.length ak) q.E := r
   have bb := Zcr hv y
   refine dT 9 rfl rfl rfl (Ye ag (fun i hm => by rcases List.mem_append.1 hm with hm | hm; (have ao := List.mem_singleton.1 hm; omega); (have ao := List.mem_singleton.1 hm; omega)) agg36 sz36 rfl ?_)
   refine dO 10 (Zr rfl rfl rfl ?_)
   have fg := Y.ch0 D
   refine Step.call (Zm (xs := [.tmp 26, .tmp 34, .const (Go.Value.int Go.IntKind.i64 4)]) fk83 rfl) (Qd fg p r _ om om om) fun aJ fh P => ?_
   obtain ⟨o, J, rfl, g, s, Q, R, bK⟩ := P
   have fi := bK.size
   have E := E.trans bK
   obtain ⟨z, A, rfl, B, t⟩ := g.opn
   have bL : Ch ([b_c] ++ [I]) L fh := ((Ch.refl _ _).step bK (fun i hm => by have S := List.mem_singleton.1 hm; exact .inr (by rw [S]; exact (List.mem_append_left _ (List.mem_singleton.2 rfl)))))
   refine ⟨bL, ?_⟩
   refine dO 11 (Zr rfl rfl rfl ?_)
   have fj := ek.ch bK (oS om)
   have fk := el.ch bK (oS om)
   refine Step.call (Zm (xs := [.tmp 25, .tmp 35]) fk21 rfl) (Xi _ fj fk.rdg g.ls (by have b1 := Zai hv; omega)) fun aK fl T => ?_
   obtain ⟨K, a, rfl, h, b, f, l, b4⟩ := T
   have fm := b4.size
   have E := E.trans b4.of_nil
   obtain ⟨c, d, rfl, C, k⟩ := h.opn
   have bM : Ch ([b_c] ++ [I]) L fl := (bL.trans b4.of_nil)
   refine ⟨bM, ?_⟩
   refine dV 12 rfl rfl rfl (fun _ => Zg rfl) (dV 13 rfl rfl rfl (fun _ => Yb rfl rfl) (dV 14 rfl rfl rfl (fun _ => Yb rfl rfl) (dO 15 (Zr rfl rfl rfl ?_))))
   have fn := (b0.ch bK (nS om)).ch0 b4
   refine Zk (off := 0) 2 fn sz57 rfl (us := [(.int .i64 (abF F G o)), (.slice c (a).length d)]) rfl rfl rfl rfl fun c8 be bN => ?_
   have fo := bN.size
   have E := E.step bN (lS om)
   replace be : Blk c8 I 57 [(.int .i64 (abF F G o)), (.slice c (a).length d)] := be
   have cy : Ch ([b_c] ++ [I]) L c8 := (bM.step bN (fun i hm => by have S := List.mem_singleton.1 hm; exact .inr (by rw [S]; exact (List.mem_append_right _ (List.mem_singleton.2 rfl)))))
   refine ⟨cy, ?_⟩
   refine Zw (by kernel_rfl) ?_
   refine Yc (Zb (bF _ _ (Zc (Za rfl rfl (Zg rfl) (Za rfl rfl (Xe om rfl rfl) (Za rfl rfl (Zf rfl) (Ze ?_)))))))
   have fp := h.ch bN (dS b k om)
   have b5 : Ol Gv.cs 36 2 c8 (.slice c (a).length d) (a) := by
    have hx := fp
    exact hx
   have fq := f.ch bN (oS om)
   have fr := (R.ch0 b4).ch bN (oS om)
   have fs := (((O.ch0 D).ch bK (nS om)).ch0 b4).ch bN (nS om)
   have ft := (((ab.ch0 D).ch bK (oS om)).ch0 b4).ch bN (oS om)
   exact Zb (Exists.intro ((m - 1), abF F G o, abG F G o, a, (.slice c (a).length d)) ⟨⟨E, om, om, (Zbq hv), (f.1), fr, fs, ft, b5, (Lo.down b om), (fq.up om om), be, (fun hm => by have ao := b _ hm; have bD := k _ hm; omega), l⟩, sC4 rfl rfl rfl rfl (Sub.nil _), (by first | omega | (dsimp only; omega))⟩)
  ·refine Zr rfl rfl rfl ?_
   have bO := aZ.ch0 D
   refine s_v (Zp bO.at_ agg55 rfl rfl) ?_
   refine ⟨(Ch.refl _ _), ?_⟩
   refine Xd 0 5 (by kernel_rfl) ?_ ?_
   ·refine Zr rfl rfl rfl ?_
    refine s_v (Zi bO.at_ agg57 sz57 rfl) ?_
    refine ⟨(Ch.refl _ _), ?_⟩
    refine dO 5 (Zr rfl rfl rfl ?_)
    refine s_v (Zp bO.at_ agg55 rfl rfl) ?_
    refine ⟨(Ch.refl _ _), ?_⟩
    refine dV 6 rfl rfl rfl (fun _ => Yr (by rw [el55]; rfl) rfl) (dV 7 rfl rfl rfl (fun _ => Xe om rfl rfl) ?_)
    have em := Z.ch0 D
    have en := od.ch0 D
    refine dT 8 rfl rfl rfl (Xh (j := (((vs.length : Nat) : Int) - 1).toNat) em Gv.len el55 sz36 rfl rfl om om fun a6 af M ag => ?_)
    obtain ⟨q, y, p, r⟩ := en.rdg.get M
    obtain ⟨⟨ah, a7, ai⟩, ⟨aj, a8, ak⟩⟩ := af
    obtain rfl := p.eqn
    obtain rfl := r.eqn
    have a9 := p.len
    have ba := r.len
    replace p : Ls ics 1 L W6.heap.size a2.heap.size (.slice ah q.V.length ai) q.V := p
    replace r : Ls GEdge.cs 4 L W6.heap.size a2.heap.size (.slice aj q.E.length ak) q.E := r
    have bb := Zcr hv y
    refine dT 9 rfl rfl rfl (Ye ag (fun i hm => by rcases List.mem_append.1 hm with hm | hm; (have ao := List.mem_singleton.1 hm; omega); (have ao := List.mem_singleton.1 hm; omega)) agg36 sz36 rfl ?_)
    refine dO 10 (Zr rfl rfl rfl ?_)
    have fu := Y.ch0 D
    refine Step.call (Zm (xs := [.tmp 26, .tmp 34, .const (Go.Value.int Go.IntKind.i64 4)]) fk83 rfl) (Qd fu p r _ om om om) fun aJ fv P => ?_
    obtain ⟨o, J, rfl, g, s, Q, R, bP⟩ := P
    have fw := bP.size
    have E := E.trans bP
    obtain ⟨z, A, rfl, B, t⟩ := g.opn
    have bQ : Ch ([b_c] ++ [I]) L fv := ((Ch.refl _ _).step bP (fun i hm => by have S := List.mem_singleton.1 hm; exact .inr (by rw [S]; exact (List.mem_append_left _ (List.mem_singleton.2 rfl)))))
    refine ⟨bQ, ?_⟩
    refine dO 11 (Zr rfl rfl rfl ?_)
    have fx := em.ch bP (oS om)
    have fy := en.ch bP (oS om)
    refine Step.call (Zm (xs := [.tmp 25, .tmp 35]) fk21 rfl) (Xi _ fx fy.rdg g.ls (by have b1 := Zai hv; omega)) fun aK fz T => ?_
    obtain ⟨K, a, rfl, h, b, f, l, b6⟩ := T
    have fA := b6.size
    have E := E.trans b6.of_nil
    obtain ⟨c, d, rfl, C, k⟩ := h.opn
    have bR : Ch ([b_c] ++ [I]) L fz := (bQ.trans b6.of_nil)
    refine ⟨bR, ?_⟩
    refine dV 12 rfl rfl rfl (fun _ => Zg rfl) (dV 13 rfl rfl rfl (fun _ => Yb rfl rfl) (dV 14 rfl rfl rfl (fun _ => Yb rfl rfl) (dO 15 (Zr rfl rfl rfl ?_))))
    have fB := (bO.ch bP (nS om)).ch0 b6
    refine Zk (off := 0) 2 fB sz57 rfl (us := [(.int .i64 (abF F G o)), (.slice c (a).length d)]) rfl rfl rfl rfl fun c9 bf bS => ?_
    have fC := bS.size
    have E := E.step bS (lS om)
    replace bf : Blk c9 I 57 [(.int .i64 (abF F G o)), (.slice c (a).length d)] := bf
    have cz : Ch ([b_c] ++ [I]) L c9 := (bR.step bS (fun i hm => by have S := List.mem_singleton.1 hm; exact .inr (by rw [S]; exact (List.mem_append_right _ (List.mem_singleton.2 rfl)))))
    refine ⟨cz, ?_⟩
    refine Zw (by kernel_rfl) ?_
    refine Yc (Zb (bF _ _ (Zc (Za rfl rfl (Zg rfl) (Za rfl rfl (Xe om rfl rfl) (Za rfl rfl (Zf rfl) (Ze ?_)))))))
    have fD := h.ch bS (dS b k om)
    have b7 : Ol Gv.cs 36 2 c9 (.slice c (a).length d) (a) := by
     have hx := fD
     exact hx
    have fE := f.ch bS (oS om)
    have fF := (R.ch0 b6).ch bS (oS om)
    have fG := (((O.ch0 D).ch bP (nS om)).ch0 b6).ch bS (nS om)
    have fH := (((ab.ch0 D).ch bP (oS om)).ch0 b6).ch bS (oS om)
    exact Zb (Exists.intro ((m - 1), abF F G o, abG F G o, a, (.slice c (a).length d)) ⟨⟨E, om, om, (Zbq hv), (f.1), fF, fG, fH, b7, (Lo.down b om), (fE.up om om), bf, (fun hm => by have ao := b _ hm; have bD := k _ hm; omega), l⟩, sC4 rfl rfl rfl rfl (Sub.nil _), (by first | omega | (dsimp only; omega))⟩)
   refine Zr rfl rfl rfl ?_
   refine s_v (Zp bO.at_ agg55 rfl rfl) ?_
   refine ⟨(Ch.refl _ _), ?_⟩
   refine dV 6 rfl rfl rfl (fun _ => Yr (by rw [el55]; rfl) rfl) (dV 7 rfl rfl rfl (fun _ => Xe om rfl rfl) ?_)
   have da := Z.ch0 D
   have db := od.ch0 D
   refine dT 8 rfl rfl rfl (Xh (j := (((vs.length : Nat) : Int) - 1).toNat) da Gv.len el55 sz36 rfl rfl om om fun a6 af M ag => ?_)
   obtain ⟨q, y, p, r⟩ := db.rdg.get M
   obtain ⟨⟨ah, a7, ai⟩, ⟨aj, a8, ak⟩⟩ := af
   obtain rfl := p.eqn
   obtain rfl := r.eqn
   have a9 := p.len
   have ba := r.len
   replace p : Ls ics 1 L W6.heap.size a2.heap.size (.slice ah q.V.length ai) q.V := p
   replace r : Ls GEdge.cs 4 L W6.heap.size a2.heap.size (.slice aj q.E.length ak) q.E := r
   have bb := Zcr hv y
   refine dT 9 rfl rfl rfl (Ye ag (fun i hm => by rcases List.mem_append.1 hm with hm | hm; (have ao := List.mem_singleton.1 hm; omega); (have ao := List.mem_singleton.1 hm; omega)) agg36 sz36 rfl ?_)
   refine Xd 0 10 (by kernel_rfl) ?_ ?_
   ·refine Zr rfl rfl rfl ?_
    refine s_v (Zi bO.at_ agg57 sz57 rfl) ?_
    refine ⟨(Ch.refl _ _), ?_⟩
    refine dO 10 (Zr rfl rfl rfl ?_)
    have fI := Y.ch0 D
    refine Step.call (Zm (xs := [.tmp 26, .tmp 34, .const (Go.Value.int Go.IntKind.i64 4)]) fk83 rfl) (Qd fI p r _ om om om) fun aJ fJ P => ?_
    obtain ⟨o, J, rfl, g, s, Q, R, bT⟩ := P
    have fK := bT.size
    have E := E.trans bT
    obtain ⟨z, A, rfl, B, t⟩ := g.opn
    have bU : Ch ([b_c] ++ [I]) L fJ := ((Ch.refl _ _).step bT (fun i hm => by have S := List.mem_singleton.1 hm; exact .inr (by rw [S]; exact (List.mem_append_left _ (List.mem_singleton.2 rfl)))))
    refine ⟨bU, ?_⟩
    refine dO 11 (Zr rfl rfl rfl ?_)
    have fL := da.ch bT (oS om)
    have fM := db.ch bT (oS om)
    refine Step.call (Zm (xs := [.tmp 25, .tmp 35]) fk21 rfl) (Xi _ fL fM.rdg g.ls (by have b1 := Zai hv; omega)) fun aK fN T => ?_
    obtain ⟨K, a, rfl, h, b, f, l, b8⟩ := T
    have fO := b8.size
    have E := E.trans b8.of_nil
    obtain ⟨c, d, rfl, C, k⟩ := h.opn
    have bV : Ch ([b_c] ++ [I]) L fN := (bU.trans b8.of_nil)
    refine ⟨bV, ?_⟩
    refine dV 12 rfl rfl rfl (fun _ => Zg rfl) (dV 13 rfl rfl rfl (fun _ => Yb rfl rfl) (dV 14 rfl rfl rfl (fun _ => Yb rfl rfl) (dO 15 (Zr rfl rfl rfl ?_))))
    have fP := (bO.ch bT (nS om)).ch0 b8
    refine Zk (off := 0) 2 fP sz57 rfl (us := [(.int .i64 (abF F G o)), (.slice c (a).length d)]) rfl rfl rfl rfl fun dc aL bW => ?_
    have fQ := bW.size
    have E := E.step bW (lS om)
    replace aL : Blk dc I 57 [(.int .i64 (abF F G o)), (.slice c (a).length d)] := aL
    have b9 : Ch ([b_c] ++ [I]) L dc := (bV.step bW (fun i hm => by have S := List.mem_singleton.1 hm; exact .inr (by rw [S]; exact (List.mem_append_right _ (List.mem_singleton.2 rfl)))))
    refine ⟨b9, ?_⟩
    refine Zw (by kernel_rfl) ?_
    refine Yc (Zb (bF _ _ (Zc (Za rfl rfl (Zg rfl) (Za rfl rfl (Xe om rfl rfl) (Za rfl rfl (Zf rfl) (Ze ?_)))))))
    have dd := h.ch bW (dS b k om)
    have br : Ol Gv.cs 36 2 dc (.slice c (a).length d) (a) := by
     have hx := dd
     exact hx
    have de := f.ch bW (oS om)
    have df := (R.ch0 b8).ch bW (oS om)
    have dg := (((O.ch0 D).ch bT (nS om)).ch0 b8).ch bW (nS om)
    have dh := (((ab.ch0 D).ch bT (oS om)).ch0 b8).ch bW (oS om)
    exact Zb (Exists.intro ((m - 1), abF F G o, abG F G o, a, (.slice c (a).length d)) ⟨⟨E, om, om, (Zbq hv), (f.1), df, dg, dh, br, (Lo.down b om), (de.up om om), aL, (fun hm => by have ao := b _ hm; have bD := k _ hm; omega), l⟩, sC4 rfl rfl rfl rfl (Sub.nil _), (by first | omega | (dsimp only; omega))⟩)
   refine Zr rfl rfl rfl ?_
   have di := Y.ch0 D
   refine Step.call (Zm (xs := [.tmp 26, .tmp 34, .const (Go.Value.int Go.IntKind.i64 4)]) fk83 rfl) (Qd di p r _ om om om) fun aJ dj P => ?_
   obtain ⟨o, J, rfl, g, s, Q, R, au⟩ := P
   have eo := au.size
   have E := E.trans au
   obtain ⟨z, A, rfl, B, t⟩ := g.opn
   have aM : Ch ([b_c] ++ [I]) L dj := ((Ch.refl _ _).step au (fun i hm => by have S := List.mem_singleton.1 hm; exact .inr (by rw [S]; exact (List.mem_append_left _ (List.mem_singleton.2 rfl)))))
   refine ⟨aM, ?_⟩
   refine dO 0 (Zr rfl rfl rfl ?_)
   have cA := bO.ch au (nS om)
   refine s_v (Zi cA.at_ agg57 sz57 rfl) ?_
   refine ⟨aM, ?_⟩
   refine dO 11 (Zr rfl rfl rfl ?_)
   have dk := da.ch au (oS om)
   have dl := db.ch au (oS om)
   refine Step.call (Zm (xs := [.tmp 25, .tmp 35]) fk21 rfl) (Xi _ dk dl.rdg g.ls (by have b1 := Zai hv; omega)) fun aK dm T => ?_
   obtain ⟨K, a, rfl, h, b, f, l, aN⟩ := T
   have ep := aN.size
   have E := E.trans aN.of_nil
   obtain ⟨c, d, rfl, C, k⟩ := h.opn
   have bg : Ch ([b_c] ++ [I]) L dm := (aM.trans aN.of_nil)
   refine ⟨bg, ?_⟩
   refine dV 12 rfl rfl rfl (fun _ => Zg rfl) (dV 13 rfl rfl rfl (fun _ => Yb rfl rfl) (dV 14 rfl rfl rfl (fun _ => Yb rfl rfl) (dO 15 (Zr rfl rfl rfl ?_))))
   have dn := cA.ch0 aN
   refine Zk (off := 0) 2 dn sz57 rfl (us := [(.int .i64 (abF F G o)), (.slice c (a).length d)]) rfl rfl rfl rfl fun ca aO av => ?_
   have er := av.size
   have E := E.step av (lS om)
   replace aO : Blk ca I 57 [(.int .i64 (abF F G o)), (.slice c (a).length d)] := aO
   have cb : Ch ([b_c] ++ [I]) L ca := (bg.step av (fun i hm => by have S := List.mem_singleton.1 hm; exact .inr (by rw [S]; exact (List.mem_append_right _ (List.mem_singleton.2 rfl)))))
   refine ⟨cb, ?_⟩
   refine Zw (by kernel_rfl) ?_
   refine Yc (Zb (bF _ _ (Zc (Za rfl rfl (Zg rfl) (Za rfl rfl (Xe om rfl rfl) (Za rfl rfl (Zf rfl) (Ze ?_)))))))
   have dp := h.ch av (dS b k om)
   have bs : Ol Gv.cs 36 2 ca (.slice c (a).length d) (a) := by
    have hx := dp
    exact hx
   have dq := f.ch av (oS om)
   have dr := (R.ch0 aN).ch av (oS om)
   have ds := (((O.ch0 D).ch au (nS om)).ch0 aN).ch av (nS om)
   have dt := (((ab.ch0 D).ch au (oS om)).ch0 aN).ch av (oS om)
   exact Zb (Exists.intro ((m - 1), abF F G o, abG F G o, a, (.slice c (a).length d)) ⟨⟨E, om, om, (Zbq hv), (f.1), dr, ds, dt, bs, (Lo.down b om), (dq.up om om), aO, (fun hm => by have ao := b _ hm; have bD := k _ hm; omega), l⟩, sC4 rfl rfl rfl rfl (Sub.nil _), (by first | omega | (dsimp only; omega))⟩)
  refine Zr rfl rfl rfl ?_
  have aw := aZ.ch0 D
  refine s_v (Zp aw.at_ agg55 rfl rfl) ?_
  refine ⟨(Ch.refl _ _), ?_⟩
  refine dV 6 rfl rfl rfl (fun _ => Yr (by rw [el55]; rfl) rfl) (dV 7 rfl rfl rfl (fun _ => Xe om rfl rfl) ?_)
  refine Xd 0 3 (by kernel_rfl) ?_ ?_
  ·refine Zr rfl rfl rfl ?_
   refine s_v (Zi aw.at_ agg57 sz57 rfl) ?_
   refine ⟨(Ch.refl _ _), ?_⟩
   refine dO 3 (Zr rfl rfl rfl ?_)
   refine s_v (Zp aw.at_ agg55 rfl rfl) ?_
   refine ⟨(Ch.refl _ _), ?_⟩
   have cB := Z.ch0 D
   have cC := od.ch0 D
   refine dT 8 rfl rfl rfl (Xh (j := (((vs.length : Nat) : Int) - 1).toNat) cB Gv.len el55 sz36 rfl rfl om om fun a6 af M ag => ?_)
   obtain ⟨q, y, p, r⟩ := cC.rdg.get M
   obtain ⟨⟨ah, a7, ai⟩, ⟨aj, a8, ak⟩⟩ := af
   obtain rfl := p.eqn
   obtain rfl := r.eqn
   have a9 := p.len
   have ba := r.len
   replace p : Ls ics 1 L W6.heap.size a2.heap.size (.slice ah q.V.length ai) q.V := p
   replace r : Ls GEdge.cs 4 L W6.heap.size a2.heap.size (.slice aj q.E.length ak) q.E := r
   have bb := Zcr hv y
   refine dT 9 rfl rfl rfl (Ye ag (fun i hm => by rcases List.mem_append.1 hm with hm | hm; (have ao := List.mem_singleton.1 hm; omega); (have ao := List.mem_singleton.1 hm; omega)) agg36 sz36 rfl ?_)
   refine dO 10 (Zr rfl rfl rfl ?_)
   have du := Y.ch0 D
   refine Step.call (Zm (xs := [.tmp 26, .tmp 34, .const (Go.Value.int Go.IntKind.i64 4)]) fk83 rfl) (Qd du p r _ om om om) fun aJ dv P => ?_
   obtain ⟨o, J, rfl, g, s, Q, R, ax⟩ := P
   have es := ax.size
   have E := E.trans ax
   obtain ⟨z, A, rfl, B, t⟩ := g.opn
   have bh : Ch ([b_c] ++ [I]) L dv := ((Ch.refl _ _).step ax (fun i hm => by have S := List.mem_singleton.1 hm; exact .inr (by rw [S]; exact (List.mem_append_left _ (List.mem_singleton.2 rfl)))))
   refine ⟨bh, ?_⟩
   refine dO 11 (Zr rfl rfl rfl ?_)
   have dw := cB.ch ax (oS om)
   have dx := cC.ch ax (oS om)
   refine Step.call (Zm (xs := [.tmp 25, .tmp 35]) fk21 rfl) (Xi _ dw dx.rdg g.ls (by have b1 := Zai hv; omega)) fun aK dy T => ?_
   obtain ⟨K, a, rfl, h, b, f, l, aP⟩ := T
   have et := aP.size
   have E := E.trans aP.of_nil
   obtain ⟨c, d, rfl, C, k⟩ := h.opn
   have bi : Ch ([b_c] ++ [I]) L dy := (bh.trans aP.of_nil)
   refine ⟨bi, ?_⟩
   refine dV 12 rfl rfl rfl (fun _ => Zg rfl) (dV 13 rfl rfl rfl (fun _ => Yb rfl rfl) (dV 14 rfl rfl rfl (fun _ => Yb rfl rfl) (dO 15 (Zr rfl rfl rfl ?_))))
   have dz := (aw.ch ax (nS om)).ch0 aP
   refine Zk (off := 0) 2 dz sz57 rfl (us := [(.int .i64 (abF F G o)), (.slice c (a).length d)]) rfl rfl rfl rfl fun cc aQ ay => ?_
   have eu := ay.size
   have E := E.step ay (lS om)
   replace aQ : Blk cc I 57 [(.int .i64 (abF F G o)), (.slice c (a).length d)] := aQ
   have cd : Ch ([b_c] ++ [I]) L cc := (bi.step ay (fun i hm => by have S := List.mem_singleton.1 hm; exact .inr (by rw [S]; exact (List.mem_append_right _ (List.mem_singleton.2 rfl)))))
   refine ⟨cd, ?_⟩
   refine Zw (by kernel_rfl) ?_
   refine Yc (Zb (bF _ _ (Zc (Za rfl rfl (Zg rfl) (Za rfl rfl (Xe om rfl rfl) (Za rfl rfl (Zf rfl) (Ze ?_)))))))
   have dA := h.ch ay (dS b k om)
   have bu : Ol Gv.cs 36 2 cc (.slice c (a).length d) (a) := by
    have hx := dA
    exact hx
   have dB := f.ch ay (oS om)
   have dC := (R.ch0 aP).ch ay (oS om)
   have dD := (((O.ch0 D).ch ax (nS om)).ch0 aP).ch ay (nS om)
   have dE := (((ab.ch0 D).ch ax (oS om)).ch0 aP).ch ay (oS om)
   exact Zb (Exists.intro ((m - 1), abF F G o, abG F G o, a, (.slice c (a).length d)) ⟨⟨E, om, om, (Zbq hv), (f.1), dC, dD, dE, bu, (Lo.down b om), (dB.up om om), aQ, (fun hm => by have ao := b _ hm; have bD := k _ hm; omega), l⟩, sC4 rfl rfl rfl rfl (Sub.nil _), (by first | omega | (dsimp only; omega))⟩)
  refine Zr rfl rfl rfl ?_
  refine s_v (Zp aw.at_ agg55 rfl rfl) ?_
  refine ⟨(Ch.refl _ _), ?_⟩
  have ce := Z.ch0 D
  have cf := od.ch0 D
  refine dT 8 rfl rfl rfl (Xh (j := (((vs.length : Nat) : Int) - 1).toNat) ce Gv.len el55 sz36 rfl rfl om om fun a6 af M ag => ?_)
  obtain ⟨q, y, p, r⟩ := cf.rdg.get M
  obtain ⟨⟨ah, a7, ai⟩, ⟨aj, a8, ak⟩⟩ := af
  obtain rfl := p.eqn
  obtain rfl := r.eqn
  have a9 := p.len
  have ba := r.len
  replace p : Ls ics 1 L W6.heap.size a2.heap.size (.slice ah q.V.length ai) q.V := p
  replace r : Ls GEdge.cs 4 L W6.heap.size a2.heap.size (.slice aj q.E.length ak) q.E := r
  have bb := Zcr hv y
  refine dT 9 rfl rfl rfl (Ye ag (fun i hm => by rcases List.mem_append.1 hm with hm | hm; (have ao := List.mem_singleton.1 hm; omega); (have ao := List.mem_singleton.1 hm; omega)) agg36 sz36 rfl ?_)
  refine Xd 0 10 (by kernel_rfl) ?_ ?_
  ·refine Zr rfl rfl rfl ?_
   refine s_v (Zi aw.at_ agg57 sz57 rfl) ?_
   refine ⟨(Ch.refl _ _), ?_⟩
   refine dO 10 (Zr rfl rfl rfl ?_)
   have dF := Y.ch0 D
   refine Step.call (Zm (xs := [.tmp 26, .tmp 34, .const (Go.Value.int Go.IntKind.i64 4)]) fk83 rfl) (Qd dF p r _ om om om) fun aJ dG P => ?_
   obtain ⟨o, J, rfl, g, s, Q, R, az⟩ := P
   have ew := az.size
   have E := E.trans az
   obtain ⟨z, A, rfl, B, t⟩ := g.opn
   have bj : Ch ([b_c] ++ [I]) L dG := ((Ch.refl _ _).step az (fun i hm => by have S := List.mem_singleton.1 hm; exact .inr (by rw [S]; exact (List.mem_append_left _ (List.mem_singleton.2 rfl)))))
   refine ⟨bj, ?_⟩
   refine dO 11 (Zr rfl rfl rfl ?_)
   have dH := ce.ch az (oS om)
   have dI := cf.ch az (oS om)
   refine Step.call (Zm (xs := [.tmp 25, .tmp 35]) fk21 rfl) (Xi _ dH dI.rdg g.ls (by have b1 := Zai hv; omega)) fun aK dJ T => ?_
   obtain ⟨K, a, rfl, h, b, f, l, aR⟩ := T
   have ex := aR.size
   have E := E.trans aR.of_nil
   obtain ⟨c, d, rfl, C, k⟩ := h.opn
   have bk : Ch ([b_c] ++ [I]) L dJ := (bj.trans aR.of_nil)
   refine ⟨bk, ?_⟩
   refine dV 12 rfl rfl rfl (fun _ => Zg rfl) (dV 13 rfl rfl rfl (fun _ => Yb rfl rfl) (dV 14 rfl rfl rfl (fun _ => Yb rfl rfl) (dO 15 (Zr rfl rfl rfl ?_))))
   have dL := (aw.ch az (nS om)).ch0 aR
   refine Zk (off := 0) 2 dL sz57 rfl (us := [(.int .i64 (abF F G o)), (.slice c (a).length d)]) rfl rfl rfl rfl fun cg aS aA => ?_
   have ey := aA.size
   have E := E.step aA (lS om)
   replace aS : Blk cg I 57 [(.int .i64 (abF F G o)), (.slice c (a).length d)] := aS
   have ci : Ch ([b_c] ++ [I]) L cg := (bk.step aA (fun i hm => by have S := List.mem_singleton.1 hm; exact .inr (by rw [S]; exact (List.mem_append_right _ (List.mem_singleton.2 rfl)))))
   refine ⟨ci, ?_⟩
   refine Zw (by kernel_rfl) ?_
   refine Yc (Zb (bF _ _ (Zc (Za rfl rfl (Zg rfl) (Za rfl rfl (Xe om rfl rfl) (Za rfl rfl (Zf rfl) (Ze ?_)))))))
   have dM := h.ch aA (dS b k om)
   have bv : Ol Gv.cs 36 2 cg (.slice c (a).length d) (a) := by
    have hx := dM
    exact hx
   have dN := f.ch aA (oS om)
   have dP := (R.ch0 aR).ch aA (oS om)
   have dQ := (((O.ch0 D).ch az (nS om)).ch0 aR).ch aA (nS om)
   have dR := (((ab.ch0 D).ch az (oS om)).ch0 aR).ch aA (oS om)
   exact Zb (Exists.intro ((m - 1), abF F G o, abG F G o, a, (.slice c (a).length d)) ⟨⟨E, om, om, (Zbq hv), (f.1), dP, dQ, dR, bv, (Lo.down b om), (dN.up om om), aS, (fun hm => by have ao := b _ hm; have bD := k _ hm; omega), l⟩, sC4 rfl rfl rfl rfl (Sub.nil _), (by first | omega | (dsimp only; omega))⟩)
  refine Zr rfl rfl rfl ?_
  have dU := Y.ch0 D
  refine Step.call (Zm (xs := [.tmp 26, .tmp 34, .const (Go.Value.int Go.IntKind.i64 4)]) fk83 rfl) (Qd dU p r _ om om om) fun aJ dW P => ?_
  obtain ⟨o, J, rfl, g, s, Q, R, aB⟩ := P
  have ez := aB.size
  have E := E.trans aB
  obtain ⟨z, A, rfl, B, t⟩ := g.opn
  have aT : Ch ([b_c] ++ [I]) L dW := ((Ch.refl _ _).step aB (fun i hm => by have S := List.mem_singleton.1 hm; exact .inr (by rw [S]; exact (List.mem_append_left _ (List.mem_singleton.2 rfl)))))
  refine ⟨aT, ?_⟩
  refine dO 0 (Zr rfl rfl rfl ?_)
  have cD := aw.ch aB (nS om)
  refine s_v (Zi cD.at_ agg57 sz57 rfl) ?_
  refine ⟨aT, ?_⟩
  refine dO 11 (Zr rfl rfl rfl ?_)
  have dX := ce.ch aB (oS om)
  have dY := cf.ch aB (oS om)
  refine Step.call (Zm (xs := [.tmp 25, .tmp 35]) fk21 rfl) (Xi _ dX dY.rdg g.ls (by have b1 := Zai hv; omega)) fun aK dZ T => ?_
  obtain ⟨K, a, rfl, h, b, f, l, aU⟩ := T
  have eA := aU.size
  have E := E.trans aU.of_nil
  obtain ⟨c, d, rfl, C, k⟩ := h.opn
  have bm : Ch ([b_c] ++ [I]) L dZ := (aT.trans aU.of_nil)
  refine ⟨bm, ?_⟩
  refine dV 12 rfl rfl rfl (fun _ => Zg rfl) (dV 13 rfl rfl rfl (fun _ => Yb rfl rfl) (dV 14 rfl rfl rfl (fun _ => Yb rfl rfl) (dO 15 (Zr rfl rfl rfl ?_))))
  have d0 := cD.ch0 aU
  refine Zk (off := 0) 2 d0 sz57 rfl (us := [(.int .i64 (abF F G o)), (.slice c (a).length d)]) rfl rfl rfl rfl fun cj aV aC => ?_
  have eB := aC.size
  have E := E.step aC (lS om)
  replace aV : Blk cj I 57 [(.int .i64 (abF F G o)), (.slice c (a).length d)] := aV
  have ck : Ch ([b_c] ++ [I]) L cj := (bm.step aC (fun i hm => by have S := List.mem_singleton.1 hm; exact .inr (by rw [S]; exact (List.mem_append_right _ (List.mem_singleton.2 rfl)))))
  refine ⟨ck, ?_⟩
  refine Zw (by kernel_rfl) ?_
  refine Yc (Zb (bF _ _ (Zc (Za rfl rfl (Zg rfl) (Za rfl rfl (Xe om rfl rfl) (Za rfl rfl (Zf rfl) (Ze ?_)))))))
  have d1 := h.ch aC (dS b k om)
  have bw : Ol Gv.cs 36 2 cj (.slice c (a).length d) (a) := by
   have hx := d1
   exact hx
  have d2 := f.ch aC (oS om)
  have d3 := (R.ch0 aU).ch aC (oS om)
  have d4 := (((O.ch0 D).ch aB (nS om)).ch0 aU).ch aC (nS om)
  have d5 := (((ab.ch0 D).ch aB (oS om)).ch0 aU).ch aC (oS om)
  exact Zb (Exists.intro ((m - 1), abF F G o, abG F G o, a, (.slice c (a).length d)) ⟨⟨E, om, om, (Zbq hv), (f.1), d3, d4, d5, bw, (Lo.down b om), (d2.up om om), aV, (fun hm => by have ao := b _ hm; have bD := k _ hm; omega), l⟩, sC4 rfl rfl rfl rfl (Sub.nil _), (by first | omega | (dsimp only; omega))⟩)
 have c3 := aH
 have aH := Yu aH
 refine Xx (Yh (Yh (Xg ?_)))
 refine Zb (eK _ _ ?_)
 refine Zh fun fR d6 => ?_
 refine Zc (Za rfl rfl (Zi aZ.at_ agg57 sz57 rfl) (Zl rfl rfl ?_))
 refine Zk (off := 0) 2 O sz57 rfl (us := [(.int .i64 F), (.slice Akv (vs).length Ckv)]) rfl rfl rfl rfl fun bn aW bp => ?_
 have eC := bp.size
 have E := E.step bp (lS om)
 replace aW : Blk bn cE 57 [(.int .i64 F), (.slice Akv (vs).length Ckv)] := aW
 refine Ze (Zb (d6 _ _ ?_))
 refine Zv ?_
 have d7 := aG.ch bp (dS ap hikv om)
 have d8 := od.ch bp (oS om)
 have cl : Ol Gv.cs 36 2 bn (.slice Akv (vs).length Ckv) vs := by
  have hx := d7
  exact hx
 have cm : OdG 3 129 bn w.heap.size bn.heap.size vs (G) := by
  have hx := d8.up (lo' := w.heap.size) (hi' := bn.heap.size) om om
  exact hx
 have d9 := Y.ch bp (oS om)
 exact Zj [_] (Zn aW rfl agg57 sz57 trivial) ⟨F, G, (.slice Akv (vs).length Ckv), vs, (congrArg (fun zq => (Value.agg #[.int .i64 zq, (.slice Akv (vs).length Ckv)])) (by first | rfl | simp_all)), cl, (Lo.down ap om), cm, bq, hv, d9, E⟩

end Go.Proofs.Ytkmhgeppenifoaa
