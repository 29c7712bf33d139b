/- Walks of functions that FnHistories reaches: what each returns, and that it leaves the memory that was there alone. -/
import Derived.Test.YtkmhgeppenifoaaLibA
import Derived.Test.YtkmhgeppenifoaaLibB
import Derived.Test.YtkmhgeppenifoaaWHistories
import Derived.Test.YtkmhgeppenifoaaWHistoriesb
import Derived.Test.YtkmhgeppenifoaaProg
namespace Go.Proofs.Ytkmhgeppenifoaa
open Go.KLib Go.Shelf
set_option maxHeartbeats 1000000
set_option maxRecDepth 20000
set_option linter.unusedVariables false
set_option linter.unusedSimpArgs false
namespace THistoriesc
theorem agg129 : Yk Try.prog 129 = some true := by kernel_rfl
theorem agg142 : Yk Try.prog 142 = some true := by kernel_rfl
theorem agg22 : Yk Try.prog 22 = some false := by kernel_rfl
theorem agg3 : Yk Try.prog 3 = some false := by kernel_rfl
theorem agg34 : Yk Try.prog 34 = some false := by kernel_rfl
theorem agg36 : Yk Try.prog 36 = some true := by kernel_rfl
theorem agg4 : Yk Try.prog 4 = some false := by kernel_rfl
theorem agg5 : Yk Try.prog 5 = some false := by kernel_rfl
theorem agg55 : Yk Try.prog 55 = some false := by kernel_rfl
theorem agg57 : Yk Try.prog 57 = some true := by kernel_rfl
theorem agg61 : Yk Try.prog 61 = some false := by kernel_rfl
theorem agg63 : Yk Try.prog 63 = some true := by kernel_rfl
theorem agg70 : Yk Try.prog 70 = some false := by kernel_rfl
theorem by142 : Qo Try.prog 142 = some 40 := by kernel_rfl
theorem by36 : Qo Try.prog 36 = some 48 := by kernel_rfl
theorem el22 : elB Try.prog 22 = some 3 := by kernel_rfl
theorem el34 : elB Try.prog 34 = some 129 := by kernel_rfl
theorem el55 : elB Try.prog 55 = some 36 := by kernel_rfl
theorem el61 : elB Try.prog 61 = some 142 := by kernel_rfl
theorem el70 : elB Try.prog 70 = some 5 := by kernel_rfl
theorem fa129_0 : faB Try.prog 129 0 = some 0 := by kernel_rfl
theorem fa129_2 : faB Try.prog 129 2 = some 2 := by kernel_rfl
theorem fa129_3 : faB Try.prog 129 3 = some 3 := by kernel_rfl
theorem fa142_0 : faB Try.prog 142 0 = some 0 := by kernel_rfl
theorem fa142_1 : faB Try.prog 142 1 = some 1 := by kernel_rfl
theorem fa151_0 : faB Try.prog 151 0 = some 0 := by kernel_rfl
theorem fa151_1 : faB Try.prog 151 1 = some 1 := by kernel_rfl
theorem fa151_2 : faB Try.prog 151 2 = some 2 := by kernel_rfl
theorem fa36_0 : faB Try.prog 36 0 = some 0 := by kernel_rfl
theorem fa36_1 : faB Try.prog 36 1 = some 1 := by kernel_rfl
theorem fa57_0 : faB Try.prog 57 0 = some 0 := by kernel_rfl
theorem fa57_1 : faB Try.prog 57 1 = some 1 := by kernel_rfl
theorem fa63_0 : faB Try.prog 63 0 = some 0 := by kernel_rfl
theorem fk117 : fnB Try.prog 117 = true := by kernel_rfl
theorem fk119 : fnB Try.prog 119 = true := by kernel_rfl
theorem fk120 : fnB Try.prog 120 = true := by kernel_rfl
theorem fk126 : fnB Try.prog 126 = true := by kernel_rfl
theorem fk34 : fnB Try.prog 34 = true := by kernel_rfl
theorem fk37 : fnB Try.prog 37 = true := by kernel_rfl
theorem fk44 : fnB Try.prog 44 = true := by kernel_rfl
theorem fk71 : fnB Try.prog 71 = true := by kernel_rfl
theorem fk90 : fnB Try.prog 90 = true := by kernel_rfl
theorem fk92 : fnB Try.prog 92 = true := by kernel_rfl
theorem fk93 : fnB Try.prog 93 = true := by kernel_rfl
theorem fk95 : fnB Try.prog 95 = true := by kernel_rfl
theorem mixed : Try.prog.follows .mixedOrders = true := by kernel_rfl
theorem pl129 : Qu Try.prog 129 = some [(0, 1), (1, 1), (2, 1), (3, 1)] := by kernel_rfl
theorem pl142 : Qu Try.prog 142 = some [(0, 1), (1, 4)] := by kernel_rfl
theorem pl151 : Qu Try.prog 151 = some [(0, 1), (1, 1), (2, 1)] := by kernel_rfl
theorem pl63 : Qu Try.prog 63 = some [(0, 1)] := by kernel_rfl
theorem sz129 : Ya Try.prog 129 = some 4 := by kernel_rfl
theorem sz142 : Ya Try.prog 142 = some 5 := by kernel_rfl
theorem sz3 : Ya Try.prog 3 = some 1 := by kernel_rfl
theorem sz36 : Ya Try.prog 36 = some 2 := by kernel_rfl
theorem sz5 : Ya Try.prog 5 = some 1 := by kernel_rfl
theorem sz55 : Ya Try.prog 55 = some 1 := by kernel_rfl
theorem sz57 : Ya Try.prog 57 = some 2 := by kernel_rfl
theorem sz61 : Ya Try.prog 61 = some 1 := by kernel_rfl
theorem sz63 : Ya Try.prog 63 = some 1 := by kernel_rfl
theorem un3 : Try.prog.underlying 3 = some (.int .i64) := by kernel_rfl
theorem un5 : Try.prog.underlying 5 = some (.int .u8) := by kernel_rfl
theorem zr129 : Yw Try.prog 129 = some (.agg #[.int .i64 0, .int .i64 0, .int .i64 0, .int .i64 0]) := by kernel_rfl
theorem zr142 : Yw Try.prog 142 = some (.agg #[.bool false, .int .i64 0, .int .i64 0, .int .i64 0, .int .i64 0]) := by kernel_rfl
theorem zr151 : Yw Try.prog 151 = some (.agg #[.slice none 0 0, .int .i64 0, .int .i64 0]) := by kernel_rfl
theorem zr3 : Yw Try.prog 3 = some (.int .i64 0) := by kernel_rfl
theorem zr36 : Yw Try.prog 36 = some (.agg #[.slice none 0 0, .slice none 0 0]) := by kernel_rfl
theorem zr57 : Yw Try.prog 57 = some (.agg #[.int .i64 0, .slice none 0 0]) := by kernel_rfl
theorem zr63 : Yw Try.prog 63 = some (.agg #[.slice none 0 0]) := by kernel_rfl
end THistoriesc
open THistoriesc

/-- spec.AppendBatch -/
theorem Xi {w : World} (hF : Int) {LL_shG bK : Nat} {aN : Value} {shG : List Gv} (ag : Ls Gv.cs 2 w LL_shG bK aN shG) {LR_hG BB_hG : Nat} {hG : List GD} (an : RdG w LR_hG BB_hG shG hG) {LL_bC bZ : Nat} {bB : Value} {bC : List Chg} (ak : Ls Chg.cs 5 w LL_bC bZ bB bC) (hb : hG.length + Zau hG ≤ 4194304) :
 Ctr Try.prog 21 #[(.agg #[(.int .i64 hF), aN]), (.agg #[bB])] w (fun v w' => ∃ (bk : Value) (aO : List Gv), v = .tuple #[.agg #[.int .i64 (abF hF hG bC), bk], .bool (tt (AbOk hF hG bC))] ∧ Ol Gv.cs 36 2 w' bk aO ∧ Lo w.heap.size bk ∧ OdG 3 129 w' w.heap.size w'.heap.size aO (abG hF hG bC) ∧ SepH bk aO ∧ Ch [] w w') := by
 obtain ⟨aP, aQ, bm⟩ := ag.val
 subst bm
 have cG := ag.len
 have ag := ag.here (by decide)
 have an := an.here
 have cH := an.1
 obtain ⟨bD, bF, bL⟩ := ak.val
 subst bL
 have dE := ak.len
 have ak := ak.here (by decide)
 have E := Ch.refl [] w
 refine Yj (N := 55) (vs0 := [(.agg #[(.int .i64 hF), (.slice aP shG.length aQ)]), (.agg #[(.slice bD bC.length bF)])]) Try.func21 rfl rfl rfl ?_
 refine Zh fun K1 H1 => ?_
 refine Zc (Zl rfl rfl ?_)
 refine Xm rfl fun ee W2 cy C2 fA => ?_
 have fB := C2.size
 have E := E.trans C2
 have fC := cy.lt
 replace cy : Blk W2 ee 57 [(.int .i64 hF), (.slice aP shG.length aQ)] := cy
 refine Zl rfl rfl ?_
 refine Xm rfl fun ef W3 cz C3 fD => ?_
 have fE := C3.size
 have E := E.trans C3
 have fF := cz.lt
 replace cz : Blk W3 ef 63 [(.slice bD bC.length bF)] := cz
 refine Zl rfl rfl ?_
 refine Yd zr57 fun bn W4 aR C4 fG => ?_
 have fH := C4.size
 have E := E.trans C4
 have fI := aR.lt
 replace aR : Blk W4 bn 57 [(.int .i64 0), (.slice none 0 0)] := aR
 refine Za rfl rfl (Zf rfl) (Ze (Zb (H1 _ _ ?_)))
 refine Zh fun K5 H5 => ?_
 refine Zc ?_
 have F6 := (cy.ch0 C3).ch0 C4
 refine Za rfl rfl (Zi F6.at_ agg57 sz57 rfl) (Zl rfl rfl ?_)
 have F7 := ((ag.ch0 C2).ch0 C3).ch0 C4
 have F8 := ((an.ch0 C2).ch0 C3).ch0 C4
 refine Step.call (Zm (xs := [.tmp 9]) fk71 rfl) (Zdr _ F7 F8 om) fun eg W9 cI => ?_
 obtain ⟨cA, b, rfl, H, c, F, B, C9⟩ := cI
 have fJ := C9.size
 have E := E.trans C9
 obtain ⟨q, r, rfl, b0, l⟩ := H.opn
 have eh := F.1
 refine Zl rfl rfl ?_
 refine Yd zr57 fun aj ei cB aa fK => ?_
 have ej := aa.size
 have E := E.trans aa
 have fL := cB.lt
 replace cB : Blk ei aj 57 [(.int .i64 0), (.slice none 0 0)] := cB
 refine Zl rfl rfl ?_
 refine Zk (off := 0) 2 cB sz57 rfl (us := [(.int .i64 hF), (.slice q (b).length r)]) rfl rfl rfl rfl fun ek ae ab => ?_
 have el := ab.size
 have E := E.step ab (lS om)
 replace ae : Blk ek aj 57 [(.int .i64 hF), (.slice q (b).length r)] := ae
 refine Ze (Zb (H5 _ _ ?_))
 refine Zh fun fM em => ?_
 refine Zh fun fN dF => ?_
 refine Zc ?_
 have dG := ((F6.ch0 C9).ch0 aa).ch ab (nS om)
 refine Za rfl rfl (Zi dG.at_ agg57 sz57 rfl) (Zl rfl rfl ?_)
 have dH := ((F7.ch0 C9).ch0 aa).ch ab (oS om)
 have dI := ((F8.ch0 C9).ch0 aa).ch ab (oS om)
 refine Step.call (Zm (xs := [.tmp 11]) fk34 rfl) (Xy _ dH dI ) fun en fO cJ => ?_
 obtain ⟨rfl, Q⟩ := cJ
 have eo := Q.size
 have E := E.trans Q
 refine Za rfl rfl (Xp rfl) (Za rfl rfl (Zg rfl) ?_)
 refine Yy (d := 14) rfl (fun p => ?_) (fun p => ?_)
 ·have cK := p
  have p := bf_t (Qj p)
  refine Zo rfl rfl (Zo rfl rfl (Zo rfl rfl (Za rfl rfl (Ym rfl rfl) (Ze (Zb (dF _ _ ?_))))))
  refine Xr rfl ?_
  refine Zh fun fP ep => ?_
  refine Zc ?_
  have er := ae.ch0 Q
  refine Za rfl rfl (Zi er.at_ agg57 sz57 rfl) (Zl rfl rfl ?_)
  have es := (((aR.ch0 C9).ch0 aa).ch ab (nS om)).ch0 Q
  refine Zk (off := 0) 2 es sz57 rfl (us := [(.int .i64 hF), (.slice q (b).length r)]) rfl rfl rfl rfl fun b1 aS cC => ?_
  have et := cC.size
  have E := E.step cC (lS om)
  replace aS : Blk b1 bn 57 [(.int .i64 hF), (.slice q (b).length r)] := aS
  refine Za rfl rfl (Zf rfl) (Ze (Zb (ep _ _ ?_)))
  refine Zv (Zt ?_)
  have eu := (((H.ch0 aa).ch ab (dS c l om)).ch0 Q).ch cC (dS c l om)
  have ew := (((F.ch0 aa).ch ab (oS om)).ch0 Q).ch cC (oS om)
  have b2 : Ol Gv.cs 36 2 b1 (.slice q (b).length r) b := by
   have hx := eu
   exact hx
  have b3 : OdG 3 129 b1 w.heap.size b1.heap.size b (abG hF hG bC) := by
   have hx := ew.up (lo' := w.heap.size) (hi' := b1.heap.size) om om
   first | (rw [← (Yo (Qy p)).1]; exact hx) | (rw [← (Yo (Qz s)).1]; exact hx) | (rw [← (Yo (ab_a m n)).1]; exact hx) | (rw [← (Xk (Yp p s m n) m om).1]; exact hx) | (rw [← (Xj (Yp p s m n) m om).1]; exact hx)
  exact Zj [_, _] (Zn aS rfl agg57 sz57 ⟨rfl, trivial⟩) ⟨(.slice q (b).length r), b, ((congrArg (fun zq => (Value.tuple #[.agg #[.int .i64 zq, (.slice q (b).length r)], .bool false])) (by first | exact (Yo (Qy p)).2.1 | exact (Yo (Qz s)).2.1 | exact (Yo (ab_a m n)).2.1 | exact (Xk (Yp p s m n) m om).2.1 | exact (Xj (Yp p s m n) m om).2.1)).trans (congrArg (fun zq => (Value.tuple #[.agg #[.int .i64 (abF hF hG bC), (.slice q (b).length r)], .bool zq])) (by first | exact (Yo (Qy p)).2.2 | exact (Yo (Qz s)).2.2 | exact (Yo (ab_a m n)).2.2 | exact (Xk (Yp p s m n) m om).2.2 | exact (Xj (Yp p s m n) m om).2.2))), b2, (Lo.down c om), b3, B, E⟩
 have cK := p
 have p := bt_t (Qk p)
 have ex := p.2
 have dJ := dG.ch0 Q
 refine Za rfl rfl (Zi dJ.at_ agg57 sz57 rfl) (Zl rfl rfl ?_)
 have dL := dH.ch0 Q
 have dM := dI.ch0 Q
 refine Step.call (Zm (xs := [.tmp 15]) fk44 rfl) (Zaa _ dL dM ) fun ey fQ cL => ?_
 obtain ⟨rfl, X⟩ := cL
 have ez := X.size
 have E := E.trans X
 refine Za rfl rfl (Qg rfl rfl) (Za rfl rfl (Yl rfl rfl) (Ze (Zb (dF _ _ ?_))))
 refine Zz rfl (fun s => ?_) (fun s => ?_)
 ·have cM := s
  have s := Yt s
  refine Zh fun fR eA => ?_
  refine Zc ?_
  have eB := (ae.ch0 Q).ch0 X
  refine Za rfl rfl (Zi eB.at_ agg57 sz57 rfl) (Zl rfl rfl ?_)
  have eC := ((((aR.ch0 C9).ch0 aa).ch ab (nS om)).ch0 Q).ch0 X
  refine Zk (off := 0) 2 eC sz57 rfl (us := [(.int .i64 hF), (.slice q (b).length r)]) rfl rfl rfl rfl fun b4 aT cD => ?_
  have eD := cD.size
  have E := E.step cD (lS om)
  replace aT : Blk b4 bn 57 [(.int .i64 hF), (.slice q (b).length r)] := aT
  refine Za rfl rfl (Zf rfl) (Ze (Zb (eA _ _ ?_)))
  refine Zv (Zt ?_)
  have eE := ((((H.ch0 aa).ch ab (dS c l om)).ch0 Q).ch0 X).ch cD (dS c l om)
  have eF := ((((F.ch0 aa).ch ab (oS om)).ch0 Q).ch0 X).ch cD (oS om)
  have b5 : Ol Gv.cs 36 2 b4 (.slice q (b).length r) b := by
   have hx := eE
   exact hx
  have b6 : OdG 3 129 b4 w.heap.size b4.heap.size b (abG hF hG bC) := by
   have hx := eF.up (lo' := w.heap.size) (hi' := b4.heap.size) om om
   first | (rw [← (Yo (Qy p)).1]; exact hx) | (rw [← (Yo (Qz s)).1]; exact hx) | (rw [← (Yo (ab_a m n)).1]; exact hx) | (rw [← (Xk (Yp p s m n) m om).1]; exact hx) | (rw [← (Xj (Yp p s m n) m om).1]; exact hx)
  exact Zj [_, _] (Zn aT rfl agg57 sz57 ⟨rfl, trivial⟩) ⟨(.slice q (b).length r), b, ((congrArg (fun zq => (Value.tuple #[.agg #[.int .i64 zq, (.slice q (b).length r)], .bool false])) (by first | exact (Yo (Qy p)).2.1 | exact (Yo (Qz s)).2.1 | exact (Yo (ab_a m n)).2.1 | exact (Xk (Yp p s m n) m om).2.1 | exact (Xj (Yp p s m n) m om).2.1)).trans (congrArg (fun zq => (Value.tuple #[.agg #[.int .i64 (abF hF hG bC), (.slice q (b).length r)], .bool zq])) (by first | exact (Yo (Qy p)).2.2 | exact (Yo (Qz s)).2.2 | exact (Yo (ab_a m n)).2.2 | exact (Xk (Yp p s m n) m om).2.2 | exact (Xj (Yp p s m n) m om).2.2))), b5, (Lo.down c om), b6, B, E⟩
 have cM := s
 have s := Yu s
 refine Yf ?_
 refine Zb (em _ _ ?_)
 refine Zh fun fS dN => ?_
 refine Yv [] 16 mixed rfl fun bj af => ?_
 have eG := af.size
 have E := E.trans af
 refine dV 0 rfl rfl rfl (fun _ => Zd fa57_1 rfl) ?_
 have dP := (dJ.ch0 X).ch0 af
 refine dT 1 rfl rfl rfl (Yi dP.at_ (fun i hi => absurd hi List.not_mem_nil) agg55 rfl rfl ?_)
 refine dV 2 rfl rfl rfl (fun _ => Zd fa57_1 rfl) ?_
 refine dT 3 rfl rfl rfl (Yi dP.at_ (fun i hi => absurd hi List.not_mem_nil) agg55 rfl rfl ?_)
 refine dV 4 rfl rfl rfl (fun _ => Yr (by rw [el55]; rfl) rfl) (dV 5 rfl rfl rfl (fun _ => Xe om rfl rfl) ?_)
 have eH := (dL.ch0 X).ch0 af
 have eI := (dM.ch0 X).ch0 af
 refine dT 6 rfl rfl rfl (Xh (j := (((shG.length : Nat) : Int) - 1).toNat) eH Gv.len el55 sz36 rfl rfl om om fun eJ cN b7 cO => ?_)
 obtain ⟨a, aU, al, aL⟩ := eI.get b7
 obtain ⟨⟨cP, eK, cQ⟩, ⟨cR, eL, cS⟩⟩ := cN
 obtain rfl := al.eqn
 obtain rfl := aL.eqn
 have eM := al.len
 have eN := aL.len
 replace al : Ls ics 1 bj LR_hG w.heap.size (.slice cP a.V.length cQ) a.V := al
 replace aL : Ls GEdge.cs 4 bj LR_hG w.heap.size (.slice cR a.E.length cS) a.E := aL
 have fT := Zcr p aU
 have m : hG[hG.length - 1]? = some a := by rw [show hG.length - 1 = (((shG.length : Nat) : Int) - 1).toNat by omega]; exact aU
 refine dT 7 rfl rfl rfl (Ye cO (fun i hi => absurd hi List.not_mem_nil) agg36 sz36 rfl ?_)
 have eO := ((((((cz.ch0 C4).ch0 C9).ch0 aa).ch ab (nS om)).ch0 Q).ch0 X).ch0 af
 refine dT 8 rfl rfl rfl (Ye eO.at_ (fun i hi => absurd hi List.not_mem_nil) agg63 sz63 rfl ?_)
 refine Xd 9 13 (by kernel_rfl) ?_ ?_
 ·refine Zr rfl rfl rfl ?_
  have eP := ((((((((ak.ch0 C2).ch0 C3).ch0 C4).ch0 C9).ch0 aa).ch ab (oS om)).ch0 Q).ch0 X).ch0 af
  refine Step.call (Zm (xs := [.tmp 28, .tmp 29]) fk37 rfl) (Zal al aL eP om) fun cT eQ bM => ?_
  obtain ⟨bp, bq, rfl, K, t, L, y, C, aM⟩ := bM
  have eR := aM.size
  have E := E.trans aM
  obtain ⟨e, f, rfl, aV, z⟩ := K.opn
  obtain ⟨h, k, rfl, aW, A⟩ := L.opn
  have bG : Ch [] bj eQ := ((Ch.refl _ _).trans aM)
  refine ⟨bG, ?_⟩
  refine dV 10 rfl rfl rfl (fun _ => Zg rfl) (dV 11 rfl rfl rfl (fun _ => Yb rfl rfl) (dV 12 rfl rfl rfl (fun _ => Yb rfl rfl) (dO 13 (Zr rfl rfl rfl ?_))))
  refine Yd zr36 fun b8 dQ br aI eS => ?_
  have eT := aI.size
  have E := E.trans aI
  have eU := br.lt
  replace br : Blk dQ b8 36 [(.slice none 0 0), (.slice none 0 0)] := br
  have bH : Ch [] bj dQ := (bG.trans aI)
  refine ⟨bH, ?_⟩
  refine dO 14 (Zr rfl rfl rfl ?_)
  refine Zk (off := 0) 2 br sz36 rfl (us := [(.slice e (a.V).length f), (.slice h ((apE a.V a.E bC 6)).length k)]) rfl rfl rfl rfl fun dR aX aJ => ?_
  have eV := aJ.size
  have E := E.step aJ (lS om)
  replace aX : Blk dR b8 36 [(.slice e (a.V).length f), (.slice h ((apE a.V a.E bC 6)).length k)] := aX
  have b9 : Ch [] bj dR := (bH.step aJ (fun i hm => by have au := List.mem_singleton.1 hm; left; omega))
  refine ⟨b9, ?_⟩
  refine dV 15 rfl rfl rfl (fun _ => Zf rfl) ?_
  refine Zw (by kernel_rfl) ?_
  refine Zb (dN _ _ ?_)
  refine Zh fun fU eW => ?_
  refine Zh fun fV eX => ?_
  refine Zc (Za rfl rfl (Zg rfl) (Za rfl rfl (Xp rfl) (Ze (Zb (eX _ _ ?_)))))
  refine Zz rfl (fun n => ?_) (fun n => ?_)
  ·have cU := n
   have n := bf_t (Qj n)
   refine Zh fun fW eY => ?_
   refine Zc ?_
   have eZ := (((((ae.ch0 Q).ch0 X).ch0 af).ch0 aM).ch0 aI).ch aJ (nS om)
   refine Za rfl rfl (Zi eZ.at_ agg57 sz57 rfl) (Zl rfl rfl ?_)
   have e0 := ((((((((aR.ch0 C9).ch0 aa).ch ab (nS om)).ch0 Q).ch0 X).ch0 af).ch0 aM).ch0 aI).ch aJ (nS om)
   refine Zk (off := 0) 2 e0 sz57 rfl (us := [(.int .i64 hF), (.slice q (b).length r)]) rfl rfl rfl rfl fun ca aY cE => ?_
   have e1 := cE.size
   have E := E.step cE (lS om)
   replace aY : Blk ca bn 57 [(.int .i64 hF), (.slice q (b).length r)] := aY
   refine Za rfl rfl (Zf rfl) (Ze (Zb (eY _ _ ?_)))
   refine Zv (Zt ?_)
   have e2 := ((((((((H.ch0 aa).ch ab (dS c l om)).ch0 Q).ch0 X).ch0 af).ch0 aM).ch0 aI).ch aJ (dS c l om)).ch cE (dS c l om)
   have e3 := ((((((((F.ch0 aa).ch ab (oS om)).ch0 Q).ch0 X).ch0 af).ch0 aM).ch0 aI).ch aJ (oS om)).ch cE (oS om)
   have cb : Ol Gv.cs 36 2 ca (.slice q (b).length r) b := by
    have hx := e2
    exact hx
   have cc : OdG 3 129 ca w.heap.size ca.heap.size b (abG hF hG bC) := by
    have hx := e3.up (lo' := w.heap.size) (hi' := ca.heap.size) om om
    first | (rw [← (Yo (Qy p)).1]; exact hx) | (rw [← (Yo (Qz s)).1]; exact hx) | (rw [← (Yo (ab_a m n)).1]; exact hx) | (rw [← (Xk (Yp p s m n) m om).1]; exact hx) | (rw [← (Xj (Yp p s m n) m om).1]; exact hx)
   exact Zj [_, _] (Zn aY rfl agg57 sz57 ⟨rfl, trivial⟩) ⟨(.slice q (b).length r), b, ((congrArg (fun zq => (Value.tuple #[.agg #[.int .i64 zq, (.slice q (b).length r)], .bool false])) (by first | exact (Yo (Qy p)).2.1 | exact (Yo (Qz s)).2.1 | exact (Yo (ab_a m n)).2.1 | exact (Xk (Yp p s m n) m om).2.1 | exact (Xj (Yp p s m n) m om).2.1)).trans (congrArg (fun zq => (Value.tuple #[.agg #[.int .i64 (abF hF hG bC), (.slice q (b).length r)], .bool zq])) (by first | exact (Yo (Qy p)).2.2 | exact (Yo (Qz s)).2.2 | exact (Yo (ab_a m n)).2.2 | exact (Xk (Yp p s m n) m om).2.2 | exact (Xj (Yp p s m n) m om).2.2))), cb, (Lo.down c om), cc, B, E⟩
  have cU := n
  have n := bt_t (Qk n)
  refine Yf ?_
  refine Zb (eW _ _ ?_)
  refine Zh fun fX e4 => ?_
  refine Zc (Za rfl rfl (Zd fa57_1 rfl) ?_)
  have dU := (((((ae.ch0 Q).ch0 X).ch0 af).ch0 aM).ch0 aI).ch aJ (nS om)
  refine Za rfl rfl (Zp dU.at_ agg55 rfl rfl) (Za rfl rfl (Zi aX.at_ agg36 sz36 rfl) (Zl rfl rfl ?_))
  refine Zq (cs := Gv.cs) (parts := [(0, .tmp 38)]) (⟨⟨none, 0, 0⟩, ⟨none, 0, 0⟩⟩ : Gv) [(⟨(⟨e, (a.V).length, f⟩ : Sv), (⟨h, ((apE a.V a.E bC 6)).length, k⟩ : Sv)⟩ : Gv)] el55 sz36 zr36 Gv.len (by decide) rfl rfl rfl (by decide) (by decide) rfl fun cV dW aZ av bs => ?_
  have e5 := bs.size
  have E := E.trans bs
  obtain ⟨a0, a1, rfl, cd, bN⟩ := aZ.opn
  have dX := ((K.ch0 aI).ch aJ (dS t z om)).ch0 bs
  have dY := ((L.ch0 aI).ch aJ (dS y A om)).ch0 bs
  have cW : OdG 3 129 dW bj.heap.size dW.heap.size ([(⟨(⟨e, (a.V).length, f⟩ : Sv), (⟨h, ((apE a.V a.E bC 6)).length, k⟩ : Sv)⟩ : Gv)]) ([(⟨a.V, (apE a.V a.E bC 6)⟩ : GD)]) := OdG.snoc (hi := bj.heap.size) (vs := []) (xs := []) OdG.nil dX dY (Lo.down t om) (Lo.down y om) (fun g hg => by have S := z g hg; omega) (fun g hg => by have S := A g hg; omega) (fun g hm hg => by exact C _ hm hg) om om
  have ce : SepH (.slice a0 ([(⟨(⟨e, (a.V).length, f⟩ : Sv), (⟨h, ((apE a.V a.E bC 6)).length, k⟩ : Sv)⟩ : Gv)]).length a1) [(⟨(⟨e, (a.V).length, f⟩ : Sv), (⟨h, ((apE a.V a.E bC 6)).length, k⟩ : Sv)⟩ : Gv)] := fun u hu => by rw [List.mem_singleton.1 hu]; exact ⟨fun g hg hm => by have S := z _ hg; have R := av _ hm; omega, fun g hg hm => by have S := A _ hg; have R := av _ hm; omega⟩
  refine Zl rfl rfl ?_
  have e6 := ((((((((H.ch0 aa).ch ab (dS c l om)).ch0 Q).ch0 X).ch0 af).ch0 aM).ch0 aI).ch aJ (dS c l om)).ch0 bs
  refine Yg (cs := Gv.cs) el55 sz36 by36 zr36 rfl (by decide) Gv.one e6 aZ.ls rfl rfl (by simp only [List.length_singleton]; omega) (by simp only [List.length_singleton]; omega) c om fun cX dZ az aw G bI => ?_
  have e7 := bI.size
  have E := E.step bI (fun i hi => .inl (by have S := c _ hi; omega))
  obtain ⟨I, J, rfl, cf, D⟩ := az.opn
  have cg := (((((((((F.ch0 aa).ch ab (oS om)).ch0 Q).ch0 X).ch0 af).ch0 aM).ch0 aI).ch aJ (oS om)).ch0 bs).chH bI B
  have cY : (b ++ [(⟨(⟨e, (a.V).length, f⟩ : Sv), (⟨h, ((apE a.V a.E bC 6)).length, k⟩ : Sv)⟩ : Gv)]).length = hG.length + 1 := by simp only [List.length_append, List.length_singleton]; omega
  have a2 : SepH (.slice I ((b ++ [(⟨(⟨e, (a.V).length, f⟩ : Sv), (⟨h, ((apE a.V a.E bC 6)).length, k⟩ : Sv)⟩ : Gv)])).length J) (b ++ [(⟨(⟨e, (a.V).length, f⟩ : Sv), (⟨h, ((apE a.V a.E bC 6)).length, k⟩ : Sv)⟩ : Gv)]) := (fun u hu => ⟨fun g hg hm => by rcases List.mem_append.1 hu with hu | hu; (rcases G with ea | ea; (rw [ea] at hm; exact (B _ hu).1 _ hg hm); (have aA := D _ hm; rw [ea] at hm; have ao := List.mem_singleton.1 hm; have bO := (cg.rng hu).1 _ hg; omega)); (rw [List.mem_singleton.1 hu] at hg; rcases G with ea | ea; (rw [ea] at hm; have S := c _ hm; have R := l _ hm; have ah := t _ hg; have a3 := z _ hg; omega); (have aA := D _ hm; rw [ea] at hm; have ao := List.mem_singleton.1 hm; have ah := t _ hg; have a3 := z _ hg; omega)), fun g hg hm => by rcases List.mem_append.1 hu with hu | hu; (rcases G with ea | ea; (rw [ea] at hm; exact (B _ hu).2 _ hg hm); (have aA := D _ hm; rw [ea] at hm; have ao := List.mem_singleton.1 hm; have bO := (cg.rng hu).2 _ hg; omega)); (rw [List.mem_singleton.1 hu] at hg; rcases G with ea | ea; (rw [ea] at hm; have S := c _ hm; have R := l _ hm; have ah := y _ hg; have a3 := A _ hg; omega); (have aA := D _ hm; rw [ea] at hm; have ao := List.mem_singleton.1 hm; have ah := y _ hg; have a3 := A _ hg; omega))⟩)
  have e8 := dX.ch bI (fun g hg hm => by have S := c _ hm; have R := l _ hm; have ah := t _ hg; have a3 := z _ hg; omega)
  have e9 := dY.ch bI (fun g hg hm => by have S := c _ hm; have R := l _ hm; have ah := y _ hg; have a3 := A _ hg; omega)
  have a4 : OdG 3 129 dZ W4.heap.size dZ.heap.size (b ++ [(⟨(⟨e, (a.V).length, f⟩ : Sv), (⟨h, ((apE a.V a.E bC 6)).length, k⟩ : Sv)⟩ : Gv)]) (hG ++ [(⟨a.V, (apE a.V a.E bC 6)⟩ : GD)]) := OdG.snoc cg (x := (⟨a.V, (apE a.V a.E bC 6)⟩ : GD)) e8 e9 (Lo.down t om) (Lo.down y om) (fun g hg => by have S := z g hg; omega) (fun g hg => by have S := A g hg; omega) (fun g hm hg => by exact C _ hm hg) om om
  have aB : SepH (.slice (some ⟨aj, 0, none⟩) 0 0) (b ++ [(⟨(⟨e, (a.V).length, f⟩ : Sv), (⟨h, ((apE a.V a.E bC 6)).length, k⟩ : Sv)⟩ : Gv)]) := fun u hu => ⟨fun g hg hm => by have au := List.mem_singleton.1 (show g ∈ [aj] from hm); rcases List.mem_append.1 hu with hu | hu; (have bO := (cg.rng hu).1 _ hg; omega); (rw [List.mem_singleton.1 hu] at hg; have S := t _ hg; have R := z _ hg; omega), fun g hg hm => by have au := List.mem_singleton.1 (show g ∈ [aj] from hm); rcases List.mem_append.1 hu with hu | hu; (have bO := (cg.rng hu).2 _ hg; omega); (rw [List.mem_singleton.1 hu] at hg; have S := y _ hg; have R := A _ hg; omega)⟩
  refine Za rfl rfl (Zd fa57_1 rfl) (Zl rfl rfl ?_)
  have fa := (dU.ch0 bs).ch bI (fun hm => by have S := c _ hm; have R := l _ hm; omega)
  refine Zy (off := 1) fa sz55 rfl rfl rfl rfl fun fb am bJ => ?_
  have fc := bJ.size
  have E := E.step bJ (lS om)
  replace am : Blk fb aj 57 [(.int .i64 hF), (.slice I ((b ++ [(⟨(⟨e, (a.V).length, f⟩ : Sv), (⟨h, ((apE a.V a.E bC 6)).length, k⟩ : Sv)⟩ : Gv)])).length J)] := am
  refine Ze (Zb (e4 _ _ ?_))
  refine Zh fun fY d0 => ?_
  refine Zh fun fZ fd => ?_
  refine Zc (Za rfl rfl (Zd fa57_1 rfl) (Za rfl rfl (Zp am.at_ agg55 rfl rfl) (Za rfl rfl (Yr (by rw [el55]; rfl) rfl) (Za rfl rfl (Zcj rfl rfl) (Ze (Zb (fd _ _ ?_)))))))
  refine Zz rfl (fun T => ?_) (fun T => ?_)
  ·have cZ := T
   have T := Yt T
   refine Zh fun f0 fe => ?_
   refine Zc (Za rfl rfl (Zd fa57_1 rfl) (Za rfl rfl (Zp am.at_ agg55 rfl rfl) (Zl rfl rfl ?_)))
   have ff := az.ch bJ (fun g hg hm => by have au := List.mem_singleton.1 hm; rcases G with ea | ea; (rw [ea] at hg; have R := c _ hg; have ah := l _ hg; omega); (have ai := D _ hg; rw [ea] at hg; have ao := List.mem_singleton.1 hg; omega))
   have fg := a4.chH (o := .slice (some ⟨aj, 0, none⟩) 0 0) bJ aB
   refine (Zeu (ys := ((b ++ [(⟨(⟨e, (a.V).length, f⟩ : Sv), (⟨h, ((apE a.V a.E bC 6)).length, k⟩ : Sv)⟩ : Gv)]).drop 1)) 1 ((b ++ [(⟨(⟨e, (a.V).length, f⟩ : Sv), (⟨h, ((apE a.V a.E bC 6)).length, k⟩ : Sv)⟩ : Gv)]).length) ff Gv.len el55 sz36 rfl ⟨_, _, rfl, by omega⟩ rfl (by first | omega | (simp only [List.length_append, List.length_singleton]; omega)) (by first | omega | (simp only [List.length_append, List.length_singleton]; omega)) (Zcb _ _) fun c0 a5 M ci => ?_)
   obtain ⟨O, P, rfl, c1, c2⟩ := a5.opn
   have bP := (fg).dropN 1
   have a6 := (a2.dropN 1).of M
   have Y := aB.dropN 1
   refine Za rfl rfl (Zd fa57_1 rfl) (Zl rfl rfl ?_)
   refine Zy (off := 1) am sz55 rfl rfl rfl rfl fun fh aK cj => ?_
   have fi := cj.size
   have E := E.step cj (lS om)
   replace aK : Blk fh aj 57 [(.int .i64 hF), (.slice O (((b ++ [(⟨(⟨e, (a.V).length, f⟩ : Sv), (⟨h, ((apE a.V a.E bC 6)).length, k⟩ : Sv)⟩ : Gv)]).drop 1)).length P)] := aK
   refine Ze (Zb (fe _ _ (Zc (Za rfl rfl (Zd fa57_0 rfl) (Za rfl rfl (Zp aK.at_ agg3 rfl rfl) (Za rfl rfl (Xc om rfl rfl) (Za rfl rfl (Zd fa57_0 rfl) (Zl rfl rfl ?_))))))))
   refine Zy (off := 0) aK sz3 rfl rfl rfl rfl fun fj a7 ck => ?_
   have fk := ck.size
   have E := E.step ck (lS om)
   replace a7 : Blk fj aj 57 [(.int .i64 (hF + 1)), (.slice O (((b ++ [(⟨(⟨e, (a.V).length, f⟩ : Sv), (⟨h, ((apE a.V a.E bC 6)).length, k⟩ : Sv)⟩ : Gv)]).drop 1)).length P)] := a7
   refine Ze (Zb (d0 _ _ ?_))
   refine Zh fun f1 fl => ?_
   refine Zc (Za rfl rfl (Zi a7.at_ agg57 sz57 rfl) (Zl rfl rfl ?_))
   have fm := (((((((((((((aR.ch0 C9).ch0 aa).ch ab (nS om)).ch0 Q).ch0 X).ch0 af).ch0 aM).ch0 aI).ch aJ (nS om)).ch0 bs).ch bI (fun hm => by have S := c _ hm; have R := l _ hm; omega)).ch bJ (nS om)).ch cj (nS om)).ch ck (nS om)
   refine Zk (off := 0) 2 fm sz57 rfl (us := [(.int .i64 (hF + 1)), (.slice O (((b ++ [(⟨(⟨e, (a.V).length, f⟩ : Sv), (⟨h, ((apE a.V a.E bC 6)).length, k⟩ : Sv)⟩ : Gv)]).drop 1)).length P)]) rfl rfl rfl rfl fun cl a8 cF => ?_
   have fn := cF.size
   have E := E.step cF (lS om)
   replace a8 : Blk cl bn 57 [(.int .i64 (hF + 1)), (.slice O (((b ++ [(⟨(⟨e, (a.V).length, f⟩ : Sv), (⟨h, ((apE a.V a.E bC 6)).length, k⟩ : Sv)⟩ : Gv)]).drop 1)).length P)] := a8
   refine Za rfl rfl (Zf rfl) (Ze (Zb (fl _ _ ?_)))
   refine Zv ?_
   have fo := ((a5.ch cj (fun g hg hm => by have au := List.mem_singleton.1 hm; rw [M] at hg; rcases G with ea | ea; (rw [ea] at hg; have R := c _ hg; have ah := l _ hg; omega); (have ai := D _ hg; rw [ea] at hg; have ao := List.mem_singleton.1 hg; omega))).ch ck (fun g hg hm => by have au := List.mem_singleton.1 hm; rw [M] at hg; rcases G with ea | ea; (rw [ea] at hg; have R := c _ hg; have ah := l _ hg; omega); (have ai := D _ hg; rw [ea] at hg; have ao := List.mem_singleton.1 hg; omega))).ch cF (fun g hg hm => by have au := List.mem_singleton.1 hm; rw [M] at hg; rcases G with ea | ea; (rw [ea] at hg; have R := c _ hg; have ah := l _ hg; omega); (have ai := D _ hg; rw [ea] at hg; have ao := List.mem_singleton.1 hg; omega))
   have fp := ((bP.chH (o := .slice (some ⟨aj, 0, none⟩) 0 0) cj Y).chH (o := .slice (some ⟨aj, 0, none⟩) 0 0) ck Y).ch cF (oS om)
   have cm : Ol Gv.cs 36 2 cl (.slice O (((b ++ [(⟨(⟨e, (a.V).length, f⟩ : Sv), (⟨h, ((apE a.V a.E bC 6)).length, k⟩ : Sv)⟩ : Gv)]).drop 1)).length P) ((b ++ [(⟨(⟨e, (a.V).length, f⟩ : Sv), (⟨h, ((apE a.V a.E bC 6)).length, k⟩ : Sv)⟩ : Gv)]).drop 1) := by
    have hx := fo
    exact hx
   have cn : OdG 3 129 cl w.heap.size cl.heap.size ((b ++ [(⟨(⟨e, (a.V).length, f⟩ : Sv), (⟨h, ((apE a.V a.E bC 6)).length, k⟩ : Sv)⟩ : Gv)]).drop 1) (abG hF hG bC) := by
    have hx := fp.up (lo' := w.heap.size) (hi' := cl.heap.size) om om
    first | (rw [← (Yo (Qy p)).1]; exact hx) | (rw [← (Yo (Qz s)).1]; exact hx) | (rw [← (Yo (ab_a m n)).1]; exact hx) | (rw [← (Xk (Yp p s m n) m om).1]; exact hx) | (rw [← (Xj (Yp p s m n) m om).1]; exact hx)
   exact Zj [_, _] (Zn a8 rfl agg57 sz57 ⟨rfl, trivial⟩) ⟨(.slice O (((b ++ [(⟨(⟨e, (a.V).length, f⟩ : Sv), (⟨h, ((apE a.V a.E bC 6)).length, k⟩ : Sv)⟩ : Gv)]).drop 1)).length P), ((b ++ [(⟨(⟨e, (a.V).length, f⟩ : Sv), (⟨h, ((apE a.V a.E bC 6)).length, k⟩ : Sv)⟩ : Gv)]).drop 1), ((congrArg (fun zq => (Value.tuple #[.agg #[.int .i64 zq, (.slice O (((b ++ [(⟨(⟨e, (a.V).length, f⟩ : Sv), (⟨h, ((apE a.V a.E bC 6)).length, k⟩ : Sv)⟩ : Gv)]).drop 1)).length P)], .bool true])) (by first | exact (Yo (Qy p)).2.1 | exact (Yo (Qz s)).2.1 | exact (Yo (ab_a m n)).2.1 | exact (Xk (Yp p s m n) m om).2.1 | exact (Xj (Yp p s m n) m om).2.1)).trans (congrArg (fun zq => (Value.tuple #[.agg #[.int .i64 (abF hF hG bC), (.slice O (((b ++ [(⟨(⟨e, (a.V).length, f⟩ : Sv), (⟨h, ((apE a.V a.E bC 6)).length, k⟩ : Sv)⟩ : Gv)]).drop 1)).length P)], .bool zq])) (by first | exact (Yo (Qy p)).2.2 | exact (Yo (Qz s)).2.2 | exact (Yo (ab_a m n)).2.2 | exact (Xk (Yp p s m n) m om).2.2 | exact (Xj (Yp p s m n) m om).2.2))), cm, (Lo.down (fun g hg => aw g (M ▸ hg)) om), cn, a6, E⟩
  have cZ := T
  have T := Yu T
  refine Yf ?_
  refine Zb (d0 _ _ ?_)
  refine Zh fun fq c3 => ?_
  refine Zc (Za rfl rfl (Zi am.at_ agg57 sz57 rfl) (Zl rfl rfl ?_))
  have c4 := (((((((((((aR.ch0 C9).ch0 aa).ch ab (nS om)).ch0 Q).ch0 X).ch0 af).ch0 aM).ch0 aI).ch aJ (nS om)).ch0 bs).ch bI (fun hm => by have S := c _ hm; have R := l _ hm; omega)).ch bJ (nS om)
  refine Zk (off := 0) 2 c4 sz57 rfl (us := [(.int .i64 hF), (.slice I ((b ++ [(⟨(⟨e, (a.V).length, f⟩ : Sv), (⟨h, ((apE a.V a.E bC 6)).length, k⟩ : Sv)⟩ : Gv)])).length J)]) rfl rfl rfl rfl fun a9 aC bu => ?_
  have d1 := bu.size
  have E := E.step bu (lS om)
  replace aC : Blk a9 bn 57 [(.int .i64 hF), (.slice I ((b ++ [(⟨(⟨e, (a.V).length, f⟩ : Sv), (⟨h, ((apE a.V a.E bC 6)).length, k⟩ : Sv)⟩ : Gv)])).length J)] := aC
  refine Za rfl rfl (Zf rfl) (Ze (Zb (c3 _ _ ?_)))
  refine Zv ?_
  have c5 := (az.ch bJ (fun g hg hm => by have au := List.mem_singleton.1 hm; rcases G with ea | ea; (rw [ea] at hg; have R := c _ hg; have ah := l _ hg; omega); (have ai := D _ hg; rw [ea] at hg; have ao := List.mem_singleton.1 hg; omega))).ch bu (fun g hg hm => by have au := List.mem_singleton.1 hm; rcases G with ea | ea; (rw [ea] at hg; have R := c _ hg; have ah := l _ hg; omega); (have ai := D _ hg; rw [ea] at hg; have ao := List.mem_singleton.1 hg; omega))
  have c6 := (a4.chH (o := .slice (some ⟨aj, 0, none⟩) 0 0) bJ aB).ch bu (oS om)
  have bQ : Ol Gv.cs 36 2 a9 (.slice I ((b ++ [(⟨(⟨e, (a.V).length, f⟩ : Sv), (⟨h, ((apE a.V a.E bC 6)).length, k⟩ : Sv)⟩ : Gv)])).length J) (b ++ [(⟨(⟨e, (a.V).length, f⟩ : Sv), (⟨h, ((apE a.V a.E bC 6)).length, k⟩ : Sv)⟩ : Gv)]) := by
   have hx := c5
   exact hx
  have bR : OdG 3 129 a9 w.heap.size a9.heap.size (b ++ [(⟨(⟨e, (a.V).length, f⟩ : Sv), (⟨h, ((apE a.V a.E bC 6)).length, k⟩ : Sv)⟩ : Gv)]) (abG hF hG bC) := by
   have hx := c6.up (lo' := w.heap.size) (hi' := a9.heap.size) om om
   first | (rw [← (Yo (Qy p)).1]; exact hx) | (rw [← (Yo (Qz s)).1]; exact hx) | (rw [← (Yo (ab_a m n)).1]; exact hx) | (rw [← (Xk (Yp p s m n) m om).1]; exact hx) | (rw [← (Xj (Yp p s m n) m om).1]; exact hx)
  exact Zj [_, _] (Zn aC rfl agg57 sz57 ⟨rfl, trivial⟩) ⟨(.slice I ((b ++ [(⟨(⟨e, (a.V).length, f⟩ : Sv), (⟨h, ((apE a.V a.E bC 6)).length, k⟩ : Sv)⟩ : Gv)])).length J), (b ++ [(⟨(⟨e, (a.V).length, f⟩ : Sv), (⟨h, ((apE a.V a.E bC 6)).length, k⟩ : Sv)⟩ : Gv)]), ((congrArg (fun zq => (Value.tuple #[.agg #[.int .i64 zq, (.slice I ((b ++ [(⟨(⟨e, (a.V).length, f⟩ : Sv), (⟨h, ((apE a.V a.E bC 6)).length, k⟩ : Sv)⟩ : Gv)])).length J)], .bool true])) (by first | exact (Yo (Qy p)).2.1 | exact (Yo (Qz s)).2.1 | exact (Yo (ab_a m n)).2.1 | exact (Xk (Yp p s m n) m om).2.1 | exact (Xj (Yp p s m n) m om).2.1)).trans (congrArg (fun zq => (Value.tuple #[.agg #[.int .i64 (abF hF hG bC), (.slice I ((b ++ [(⟨(⟨e, (a.V).length, f⟩ : Sv), (⟨h, ((apE a.V a.E bC 6)).length, k⟩ : Sv)⟩ : Gv)])).length J)], .bool zq])) (by first | exact (Yo (Qy p)).2.2 | exact (Yo (Qz s)).2.2 | exact (Yo (ab_a m n)).2.2 | exact (Xk (Yp p s m n) m om).2.2 | exact (Xj (Yp p s m n) m om).2.2))), bQ, (Lo.down aw om), bR, a2, E⟩
 refine Zr rfl rfl rfl ?_
 refine Yd zr36 fun b8 bv br U eS => ?_
 have d2 := U.size
 have E := E.trans U
 have eU := br.lt
 replace br : Blk bv b8 36 [(.slice none 0 0), (.slice none 0 0)] := br
 have ba : Ch [] bj bv := ((Ch.refl _ _).trans U)
 refine ⟨ba, ?_⟩
 refine dO 9 (Zr rfl rfl rfl ?_)
 have c7 := al.ch0 U
 have c8 := aL.ch0 U
 have c9 := (((((((((ak.ch0 C2).ch0 C3).ch0 C4).ch0 C9).ch0 aa).ch ab (oS om)).ch0 Q).ch0 X).ch0 af).ch0 U
 refine Step.call (Zm (xs := [.tmp 28, .tmp 29]) fk37 rfl) (Zal c7 c8 c9 om) fun cT da bM => ?_
 obtain ⟨bp, bq, rfl, K, t, L, y, C, ac⟩ := bM
 have d3 := ac.size
 have E := E.trans ac
 obtain ⟨e, f, rfl, aV, z⟩ := K.opn
 obtain ⟨h, k, rfl, aW, A⟩ := L.opn
 have bb : Ch [] bj da := (ba.trans ac)
 refine ⟨bb, ?_⟩
 refine dV 10 rfl rfl rfl (fun _ => Zg rfl) (dV 11 rfl rfl rfl (fun _ => Yb rfl rfl) (dV 12 rfl rfl rfl (fun _ => Yb rfl rfl) (dO 14 (Zr rfl rfl rfl ?_))))
 have db := br.ch0 ac
 refine Zk (off := 0) 2 db sz36 rfl (us := [(.slice e (a.V).length f), (.slice h ((apE a.V a.E bC 6)).length k)]) rfl rfl rfl rfl fun co aD Z => ?_
 have d4 := Z.size
 have E := E.step Z (lS om)
 replace aD : Blk co b8 36 [(.slice e (a.V).length f), (.slice h ((apE a.V a.E bC 6)).length k)] := aD
 have bS : Ch [] bj co := (bb.step Z (fun i hm => by have au := List.mem_singleton.1 hm; left; omega))
 refine ⟨bS, ?_⟩
 refine dV 15 rfl rfl rfl (fun _ => Zf rfl) ?_
 refine Zw (by kernel_rfl) ?_
 refine Zb (dN _ _ ?_)
 refine Zh fun fr dc => ?_
 refine Zh fun fs dd => ?_
 refine Zc (Za rfl rfl (Zg rfl) (Za rfl rfl (Xp rfl) (Ze (Zb (dd _ _ ?_)))))
 refine Zz rfl (fun n => ?_) (fun n => ?_)
 ·have cp := n
  have n := bf_t (Qj n)
  refine Zh fun ft de => ?_
  refine Zc ?_
  have df := (((((ae.ch0 Q).ch0 X).ch0 af).ch0 U).ch0 ac).ch Z (nS om)
  refine Za rfl rfl (Zi df.at_ agg57 sz57 rfl) (Zl rfl rfl ?_)
  have dg := ((((((((aR.ch0 C9).ch0 aa).ch ab (nS om)).ch0 Q).ch0 X).ch0 af).ch0 U).ch0 ac).ch Z (nS om)
  refine Zk (off := 0) 2 dg sz57 rfl (us := [(.int .i64 hF), (.slice q (b).length r)]) rfl rfl rfl rfl fun bc aE bw => ?_
  have d5 := bw.size
  have E := E.step bw (lS om)
  replace aE : Blk bc bn 57 [(.int .i64 hF), (.slice q (b).length r)] := aE
  refine Za rfl rfl (Zf rfl) (Ze (Zb (de _ _ ?_)))
  refine Zv (Zt ?_)
  have dh := ((((((((H.ch0 aa).ch ab (dS c l om)).ch0 Q).ch0 X).ch0 af).ch0 U).ch0 ac).ch Z (dS c l om)).ch bw (dS c l om)
  have di := ((((((((F.ch0 aa).ch ab (oS om)).ch0 Q).ch0 X).ch0 af).ch0 U).ch0 ac).ch Z (oS om)).ch bw (oS om)
  have bT : Ol Gv.cs 36 2 bc (.slice q (b).length r) b := by
   have hx := dh
   exact hx
  have bU : OdG 3 129 bc w.heap.size bc.heap.size b (abG hF hG bC) := by
   have hx := di.up (lo' := w.heap.size) (hi' := bc.heap.size) om om
   first | (rw [← (Yo (Qy p)).1]; exact hx) | (rw [← (Yo (Qz s)).1]; exact hx) | (rw [← (Yo (ab_a m n)).1]; exact hx) | (rw [← (Xk (Yp p s m n) m om).1]; exact hx) | (rw [← (Xj (Yp p s m n) m om).1]; exact hx)
  exact Zj [_, _] (Zn aE rfl agg57 sz57 ⟨rfl, trivial⟩) ⟨(.slice q (b).length r), b, ((congrArg (fun zq => (Value.tuple #[.agg #[.int .i64 zq, (.slice q (b).length r)], .bool false])) (by first | exact (Yo (Qy p)).2.1 | exact (Yo (Qz s)).2.1 | exact (Yo (ab_a m n)).2.1 | exact (Xk (Yp p s m n) m om).2.1 | exact (Xj (Yp p s m n) m om).2.1)).trans (congrArg (fun zq => (Value.tuple #[.agg #[.int .i64 (abF hF hG bC), (.slice q (b).length r)], .bool zq])) (by first | exact (Yo (Qy p)).2.2 | exact (Yo (Qz s)).2.2 | exact (Yo (ab_a m n)).2.2 | exact (Xk (Yp p s m n) m om).2.2 | exact (Xj (Yp p s m n) m om).2.2))), bT, (Lo.down c om), bU, B, E⟩
 have cp := n
 have n := bt_t (Qk n)
 refine Yf ?_
 refine Zb (dc _ _ ?_)
 refine Zh fun fu dj => ?_
 refine Zc (Za rfl rfl (Zd fa57_1 rfl) ?_)
 have cq := (((((ae.ch0 Q).ch0 X).ch0 af).ch0 U).ch0 ac).ch Z (nS om)
 refine Za rfl rfl (Zp cq.at_ agg55 rfl rfl) (Za rfl rfl (Zi aD.at_ agg36 sz36 rfl) (Zl rfl rfl ?_))
 refine Zq (cs := Gv.cs) (parts := [(0, .tmp 38)]) (⟨⟨none, 0, 0⟩, ⟨none, 0, 0⟩⟩ : Gv) [(⟨(⟨e, (a.V).length, f⟩ : Sv), (⟨h, ((apE a.V a.E bC 6)).length, k⟩ : Sv)⟩ : Gv)] el55 sz36 zr36 Gv.len (by decide) rfl rfl rfl (by decide) (by decide) rfl fun cV cr aZ av ap => ?_
 have d6 := ap.size
 have E := E.trans ap
 obtain ⟨a0, a1, rfl, cd, bN⟩ := aZ.opn
 have ct := (K.ch Z (dS t z om)).ch0 ap
 have cu := (L.ch Z (dS y A om)).ch0 ap
 have cW : OdG 3 129 cr bv.heap.size cr.heap.size ([(⟨(⟨e, (a.V).length, f⟩ : Sv), (⟨h, ((apE a.V a.E bC 6)).length, k⟩ : Sv)⟩ : Gv)]) ([(⟨a.V, (apE a.V a.E bC 6)⟩ : GD)]) := OdG.snoc (hi := bv.heap.size) (vs := []) (xs := []) OdG.nil ct cu (Lo.down t om) (Lo.down y om) (fun g hg => by have S := z g hg; omega) (fun g hg => by have S := A g hg; omega) (fun g hm hg => by exact C _ hm hg) om om
 have ce : SepH (.slice a0 ([(⟨(⟨e, (a.V).length, f⟩ : Sv), (⟨h, ((apE a.V a.E bC 6)).length, k⟩ : Sv)⟩ : Gv)]).length a1) [(⟨(⟨e, (a.V).length, f⟩ : Sv), (⟨h, ((apE a.V a.E bC 6)).length, k⟩ : Sv)⟩ : Gv)] := fun u hu => by rw [List.mem_singleton.1 hu]; exact ⟨fun g hg hm => by have S := z _ hg; have R := av _ hm; omega, fun g hg hm => by have S := A _ hg; have R := av _ hm; omega⟩
 refine Zl rfl rfl ?_
 have dk := ((((((((H.ch0 aa).ch ab (dS c l om)).ch0 Q).ch0 X).ch0 af).ch0 U).ch0 ac).ch Z (dS c l om)).ch0 ap
 refine Yg (cs := Gv.cs) el55 sz36 by36 zr36 rfl (by decide) Gv.one dk aZ.ls rfl rfl (by simp only [List.length_singleton]; omega) (by simp only [List.length_singleton]; omega) c om fun cX cv az aw G ax => ?_
 have d7 := ax.size
 have E := E.step ax (fun i hi => .inl (by have S := c _ hi; omega))
 obtain ⟨I, J, rfl, cf, D⟩ := az.opn
 have be := (((((((((F.ch0 aa).ch ab (oS om)).ch0 Q).ch0 X).ch0 af).ch0 U).ch0 ac).ch Z (oS om)).ch0 ap).chH ax B
 have cY : (b ++ [(⟨(⟨e, (a.V).length, f⟩ : Sv), (⟨h, ((apE a.V a.E bC 6)).length, k⟩ : Sv)⟩ : Gv)]).length = hG.length + 1 := by simp only [List.length_append, List.length_singleton]; omega
 have a2 : SepH (.slice I ((b ++ [(⟨(⟨e, (a.V).length, f⟩ : Sv), (⟨h, ((apE a.V a.E bC 6)).length, k⟩ : Sv)⟩ : Gv)])).length J) (b ++ [(⟨(⟨e, (a.V).length, f⟩ : Sv), (⟨h, ((apE a.V a.E bC 6)).length, k⟩ : Sv)⟩ : Gv)]) := (fun u hu => ⟨fun g hg hm => by rcases List.mem_append.1 hu with hu | hu; (rcases G with ea | ea; (rw [ea] at hm; exact (B _ hu).1 _ hg hm); (have aA := D _ hm; rw [ea] at hm; have ao := List.mem_singleton.1 hm; have bO := (be.rng hu).1 _ hg; omega)); (rw [List.mem_singleton.1 hu] at hg; rcases G with ea | ea; (rw [ea] at hm; have S := c _ hm; have R := l _ hm; have ah := t _ hg; have a3 := z _ hg; omega); (have aA := D _ hm; rw [ea] at hm; have ao := List.mem_singleton.1 hm; have ah := t _ hg; have a3 := z _ hg; omega)), fun g hg hm => by rcases List.mem_append.1 hu with hu | hu; (rcases G with ea | ea; (rw [ea] at hm; exact (B _ hu).2 _ hg hm); (have aA := D _ hm; rw [ea] at hm; have ao := List.mem_singleton.1 hm; have bO := (be.rng hu).2 _ hg; omega)); (rw [List.mem_singleton.1 hu] at hg; rcases G with ea | ea; (rw [ea] at hm; have S := c _ hm; have R := l _ hm; have ah := y _ hg; have a3 := A _ hg; omega); (have aA := D _ hm; rw [ea] at hm; have ao := List.mem_singleton.1 hm; have ah := y _ hg; have a3 := A _ hg; omega))⟩)
 have dl := ct.ch ax (fun g hg hm => by have S := c _ hm; have R := l _ hm; have ah := t _ hg; have a3 := z _ hg; omega)
 have dm := cu.ch ax (fun g hg hm => by have S := c _ hm; have R := l _ hm; have ah := y _ hg; have a3 := A _ hg; omega)
 have a4 : OdG 3 129 cv W4.heap.size cv.heap.size (b ++ [(⟨(⟨e, (a.V).length, f⟩ : Sv), (⟨h, ((apE a.V a.E bC 6)).length, k⟩ : Sv)⟩ : Gv)]) (hG ++ [(⟨a.V, (apE a.V a.E bC 6)⟩ : GD)]) := OdG.snoc be (x := (⟨a.V, (apE a.V a.E bC 6)⟩ : GD)) dl dm (Lo.down t om) (Lo.down y om) (fun g hg => by have S := z g hg; omega) (fun g hg => by have S := A g hg; omega) (fun g hm hg => by exact C _ hm hg) om om
 have aB : SepH (.slice (some ⟨aj, 0, none⟩) 0 0) (b ++ [(⟨(⟨e, (a.V).length, f⟩ : Sv), (⟨h, ((apE a.V a.E bC 6)).length, k⟩ : Sv)⟩ : Gv)]) := fun u hu => ⟨fun g hg hm => by have au := List.mem_singleton.1 (show g ∈ [aj] from hm); rcases List.mem_append.1 hu with hu | hu; (have bO := (be.rng hu).1 _ hg; omega); (rw [List.mem_singleton.1 hu] at hg; have S := t _ hg; have R := z _ hg; omega), fun g hg hm => by have au := List.mem_singleton.1 (show g ∈ [aj] from hm); rcases List.mem_append.1 hu with hu | hu; (have bO := (be.rng hu).2 _ hg; omega); (rw [List.mem_singleton.1 hu] at hg; have S := y _ hg; have R := A _ hg; omega)⟩
 refine Za rfl rfl (Zd fa57_1 rfl) (Zl rfl rfl ?_)
 have dn := (cq.ch0 ap).ch ax (fun hm => by have S := c _ hm; have R := l _ hm; omega)
 refine Zy (off := 1) dn sz55 rfl rfl rfl rfl fun dp ad ay => ?_
 have d8 := ay.size
 have E := E.step ay (lS om)
 replace ad : Blk dp aj 57 [(.int .i64 hF), (.slice I ((b ++ [(⟨(⟨e, (a.V).length, f⟩ : Sv), (⟨h, ((apE a.V a.E bC 6)).length, k⟩ : Sv)⟩ : Gv)])).length J)] := ad
 refine Ze (Zb (dj _ _ ?_))
 refine Zh fun fv cw => ?_
 refine Zh fun fw dq => ?_
 refine Zc (Za rfl rfl (Zd fa57_1 rfl) (Za rfl rfl (Zp ad.at_ agg55 rfl rfl) (Za rfl rfl (Yr (by rw [el55]; rfl) rfl) (Za rfl rfl (Zcj rfl rfl) (Ze (Zb (dq _ _ ?_)))))))
 refine Zz rfl (fun T => ?_) (fun T => ?_)
 ·have cx := T
  have T := Yt T
  refine Zh fun fx dr => ?_
  refine Zc (Za rfl rfl (Zd fa57_1 rfl) (Za rfl rfl (Zp ad.at_ agg55 rfl rfl) (Zl rfl rfl ?_)))
  have ds := az.ch ay (fun g hg hm => by have au := List.mem_singleton.1 hm; rcases G with ea | ea; (rw [ea] at hg; have R := c _ hg; have ah := l _ hg; omega); (have ai := D _ hg; rw [ea] at hg; have ao := List.mem_singleton.1 hg; omega))
  have dt := a4.chH (o := .slice (some ⟨aj, 0, none⟩) 0 0) ay aB
  refine (Zeu (ys := ((b ++ [(⟨(⟨e, (a.V).length, f⟩ : Sv), (⟨h, ((apE a.V a.E bC 6)).length, k⟩ : Sv)⟩ : Gv)]).drop 1)) 1 ((b ++ [(⟨(⟨e, (a.V).length, f⟩ : Sv), (⟨h, ((apE a.V a.E bC 6)).length, k⟩ : Sv)⟩ : Gv)]).length) ds Gv.len el55 sz36 rfl ⟨_, _, rfl, by omega⟩ rfl (by first | omega | (simp only [List.length_append, List.length_singleton]; omega)) (by first | omega | (simp only [List.length_append, List.length_singleton]; omega)) (Zcb _ _) fun c0 a5 M ci => ?_)
  obtain ⟨O, P, rfl, c1, c2⟩ := a5.opn
  have bP := (dt).dropN 1
  have a6 := (a2.dropN 1).of M
  have Y := aB.dropN 1
  refine Za rfl rfl (Zd fa57_1 rfl) (Zl rfl rfl ?_)
  refine Zy (off := 1) ad sz55 rfl rfl rfl rfl fun du aq bf => ?_
  have d9 := bf.size
  have E := E.step bf (lS om)
  replace aq : Blk du aj 57 [(.int .i64 hF), (.slice O (((b ++ [(⟨(⟨e, (a.V).length, f⟩ : Sv), (⟨h, ((apE a.V a.E bC 6)).length, k⟩ : Sv)⟩ : Gv)]).drop 1)).length P)] := aq
  refine Ze (Zb (dr _ _ (Zc (Za rfl rfl (Zd fa57_0 rfl) (Za rfl rfl (Zp aq.at_ agg3 rfl rfl) (Za rfl rfl (Xc om rfl rfl) (Za rfl rfl (Zd fa57_0 rfl) (Zl rfl rfl ?_))))))))
  refine Zy (off := 0) aq sz3 rfl rfl rfl rfl fun dv aF bg => ?_
  have eb := bg.size
  have E := E.step bg (lS om)
  replace aF : Blk dv aj 57 [(.int .i64 (hF + 1)), (.slice O (((b ++ [(⟨(⟨e, (a.V).length, f⟩ : Sv), (⟨h, ((apE a.V a.E bC 6)).length, k⟩ : Sv)⟩ : Gv)]).drop 1)).length P)] := aF
  refine Ze (Zb (cw _ _ ?_))
  refine Zh fun fy dw => ?_
  refine Zc (Za rfl rfl (Zi aF.at_ agg57 sz57 rfl) (Zl rfl rfl ?_))
  have dx := (((((((((((((aR.ch0 C9).ch0 aa).ch ab (nS om)).ch0 Q).ch0 X).ch0 af).ch0 U).ch0 ac).ch Z (nS om)).ch0 ap).ch ax (fun hm => by have S := c _ hm; have R := l _ hm; omega)).ch ay (nS om)).ch bf (nS om)).ch bg (nS om)
  refine Zk (off := 0) 2 dx sz57 rfl (us := [(.int .i64 (hF + 1)), (.slice O (((b ++ [(⟨(⟨e, (a.V).length, f⟩ : Sv), (⟨h, ((apE a.V a.E bC 6)).length, k⟩ : Sv)⟩ : Gv)]).drop 1)).length P)]) rfl rfl rfl rfl fun bh aG bz => ?_
  have ec := bz.size
  have E := E.step bz (lS om)
  replace aG : Blk bh bn 57 [(.int .i64 (hF + 1)), (.slice O (((b ++ [(⟨(⟨e, (a.V).length, f⟩ : Sv), (⟨h, ((apE a.V a.E bC 6)).length, k⟩ : Sv)⟩ : Gv)]).drop 1)).length P)] := aG
  refine Za rfl rfl (Zf rfl) (Ze (Zb (dw _ _ ?_)))
  refine Zv ?_
  have dy := ((a5.ch bf (fun g hg hm => by have au := List.mem_singleton.1 hm; rw [M] at hg; rcases G with ea | ea; (rw [ea] at hg; have R := c _ hg; have ah := l _ hg; omega); (have ai := D _ hg; rw [ea] at hg; have ao := List.mem_singleton.1 hg; omega))).ch bg (fun g hg hm => by have au := List.mem_singleton.1 hm; rw [M] at hg; rcases G with ea | ea; (rw [ea] at hg; have R := c _ hg; have ah := l _ hg; omega); (have ai := D _ hg; rw [ea] at hg; have ao := List.mem_singleton.1 hg; omega))).ch bz (fun g hg hm => by have au := List.mem_singleton.1 hm; rw [M] at hg; rcases G with ea | ea; (rw [ea] at hg; have R := c _ hg; have ah := l _ hg; omega); (have ai := D _ hg; rw [ea] at hg; have ao := List.mem_singleton.1 hg; omega))
  have dz := ((bP.chH (o := .slice (some ⟨aj, 0, none⟩) 0 0) bf Y).chH (o := .slice (some ⟨aj, 0, none⟩) 0 0) bg Y).ch bz (oS om)
  have bV : Ol Gv.cs 36 2 bh (.slice O (((b ++ [(⟨(⟨e, (a.V).length, f⟩ : Sv), (⟨h, ((apE a.V a.E bC 6)).length, k⟩ : Sv)⟩ : Gv)]).drop 1)).length P) ((b ++ [(⟨(⟨e, (a.V).length, f⟩ : Sv), (⟨h, ((apE a.V a.E bC 6)).length, k⟩ : Sv)⟩ : Gv)]).drop 1) := by
   have hx := dy
   exact hx
  have bW : OdG 3 129 bh w.heap.size bh.heap.size ((b ++ [(⟨(⟨e, (a.V).length, f⟩ : Sv), (⟨h, ((apE a.V a.E bC 6)).length, k⟩ : Sv)⟩ : Gv)]).drop 1) (abG hF hG bC) := by
   have hx := dz.up (lo' := w.heap.size) (hi' := bh.heap.size) om om
   first | (rw [← (Yo (Qy p)).1]; exact hx) | (rw [← (Yo (Qz s)).1]; exact hx) | (rw [← (Yo (ab_a m n)).1]; exact hx) | (rw [← (Xk (Yp p s m n) m om).1]; exact hx) | (rw [← (Xj (Yp p s m n) m om).1]; exact hx)
  exact Zj [_, _] (Zn aG rfl agg57 sz57 ⟨rfl, trivial⟩) ⟨(.slice O (((b ++ [(⟨(⟨e, (a.V).length, f⟩ : Sv), (⟨h, ((apE a.V a.E bC 6)).length, k⟩ : Sv)⟩ : Gv)]).drop 1)).length P), ((b ++ [(⟨(⟨e, (a.V).length, f⟩ : Sv), (⟨h, ((apE a.V a.E bC 6)).length, k⟩ : Sv)⟩ : Gv)]).drop 1), ((congrArg (fun zq => (Value.tuple #[.agg #[.int .i64 zq, (.slice O (((b ++ [(⟨(⟨e, (a.V).length, f⟩ : Sv), (⟨h, ((apE a.V a.E bC 6)).length, k⟩ : Sv)⟩ : Gv)]).drop 1)).length P)], .bool true])) (by first | exact (Yo (Qy p)).2.1 | exact (Yo (Qz s)).2.1 | exact (Yo (ab_a m n)).2.1 | exact (Xk (Yp p s m n) m om).2.1 | exact (Xj (Yp p s m n) m om).2.1)).trans (congrArg (fun zq => (Value.tuple #[.agg #[.int .i64 (abF hF hG bC), (.slice O (((b ++ [(⟨(⟨e, (a.V).length, f⟩ : Sv), (⟨h, ((apE a.V a.E bC 6)).length, k⟩ : Sv)⟩ : Gv)]).drop 1)).length P)], .bool zq])) (by first | exact (Yo (Qy p)).2.2 | exact (Yo (Qz s)).2.2 | exact (Yo (ab_a m n)).2.2 | exact (Xk (Yp p s m n) m om).2.2 | exact (Xj (Yp p s m n) m om).2.2))), bV, (Lo.down (fun g hg => aw g (M ▸ hg)) om), bW, a6, E⟩
 have cx := T
 have T := Yu T
 refine Yf ?_
 refine Zb (cw _ _ ?_)
 refine Zh fun fz dA => ?_
 refine Zc (Za rfl rfl (Zi ad.at_ agg57 sz57 rfl) (Zl rfl rfl ?_))
 have dB := (((((((((((aR.ch0 C9).ch0 aa).ch ab (nS om)).ch0 Q).ch0 X).ch0 af).ch0 U).ch0 ac).ch Z (nS om)).ch0 ap).ch ax (fun hm => by have S := c _ hm; have R := l _ hm; omega)).ch ay (nS om)
 refine Zk (off := 0) 2 dB sz57 rfl (us := [(.int .i64 hF), (.slice I ((b ++ [(⟨(⟨e, (a.V).length, f⟩ : Sv), (⟨h, ((apE a.V a.E bC 6)).length, k⟩ : Sv)⟩ : Gv)])).length J)]) rfl rfl rfl rfl fun bi aH bA => ?_
 have ed := bA.size
 have E := E.step bA (lS om)
 replace aH : Blk bi bn 57 [(.int .i64 hF), (.slice I ((b ++ [(⟨(⟨e, (a.V).length, f⟩ : Sv), (⟨h, ((apE a.V a.E bC 6)).length, k⟩ : Sv)⟩ : Gv)])).length J)] := aH
 refine Za rfl rfl (Zf rfl) (Ze (Zb (dA _ _ ?_)))
 refine Zv ?_
 have dC := (az.ch ay (fun g hg hm => by have au := List.mem_singleton.1 hm; rcases G with ea | ea; (rw [ea] at hg; have R := c _ hg; have ah := l _ hg; omega); (have ai := D _ hg; rw [ea] at hg; have ao := List.mem_singleton.1 hg; omega))).ch bA (fun g hg hm => by have au := List.mem_singleton.1 hm; rcases G with ea | ea; (rw [ea] at hg; have R := c _ hg; have ah := l _ hg; omega); (have ai := D _ hg; rw [ea] at hg; have ao := List.mem_singleton.1 hg; omega))
 have dD := (a4.chH (o := .slice (some ⟨aj, 0, none⟩) 0 0) ay aB).ch bA (oS om)
 have bX : Ol Gv.cs 36 2 bi (.slice I ((b ++ [(⟨(⟨e, (a.V).length, f⟩ : Sv), (⟨h, ((apE a.V a.E bC 6)).length, k⟩ : Sv)⟩ : Gv)])).length J) (b ++ [(⟨(⟨e, (a.V).length, f⟩ : Sv), (⟨h, ((apE a.V a.E bC 6)).length, k⟩ : Sv)⟩ : Gv)]) := by
  have hx := dC
  exact hx
 have bY : OdG 3 129 bi w.heap.size bi.heap.size (b ++ [(⟨(⟨e, (a.V).length, f⟩ : Sv), (⟨h, ((apE a.V a.E bC 6)).length, k⟩ : Sv)⟩ : Gv)]) (abG hF hG bC) := by
  have hx := dD.up (lo' := w.heap.size) (hi' := bi.heap.size) om om
  first | (rw [← (Yo (Qy p)).1]; exact hx) | (rw [← (Yo (Qz s)).1]; exact hx) | (rw [← (Yo (ab_a m n)).1]; exact hx) | (rw [← (Xk (Yp p s m n) m om).1]; exact hx) | (rw [← (Xj (Yp p s m n) m om).1]; exact hx)
 exact Zj [_, _] (Zn aH rfl agg57 sz57 ⟨rfl, trivial⟩) ⟨(.slice I ((b ++ [(⟨(⟨e, (a.V).length, f⟩ : Sv), (⟨h, ((apE a.V a.E bC 6)).length, k⟩ : Sv)⟩ : Gv)])).length J), (b ++ [(⟨(⟨e, (a.V).length, f⟩ : Sv), (⟨h, ((apE a.V a.E bC 6)).length, k⟩ : Sv)⟩ : Gv)]), ((congrArg (fun zq => (Value.tuple #[.agg #[.int .i64 zq, (.slice I ((b ++ [(⟨(⟨e, (a.V).length, f⟩ : Sv), (⟨h, ((apE a.V a.E bC 6)).length, k⟩ : Sv)⟩ : Gv)])).length J)], .bool true])) (by first | exact (Yo (Qy p)).2.1 | exact (Yo (Qz s)).2.1 | exact (Yo (ab_a m n)).2.1 | exact (Xk (Yp p s m n) m om).2.1 | exact (Xj (Yp p s m n) m om).2.1)).trans (congrArg (fun zq => (Value.tuple #[.agg #[.int .i64 (abF hF hG bC), (.slice I ((b ++ [(⟨(⟨e, (a.V).length, f⟩ : Sv), (⟨h, ((apE a.V a.E bC 6)).length, k⟩ : Sv)⟩ : Gv)])).length J)], .bool zq])) (by first | exact (Yo (Qy p)).2.2 | exact (Yo (Qz s)).2.2 | exact (Yo (ab_a m n)).2.2 | exact (Xk (Yp p s m n) m om).2.2 | exact (Xj (Yp p s m n) m om).2.2))), bX, (Lo.down aw om), bY, a2, E⟩

/-- spec.CompactHistory -/
theorem Zcy {w : World} (hF : Int) {LL_shG R : Nat} {C : Value} {shG : List Gv} (o : Ls Gv.cs 2 w LL_shG R C shG) {LR_hG BB_hG : Nat} {hG : List GD} (p : RdG w LR_hG BB_hG shG hG) (n : Int) (hb : hG.length + Zau hG ≤ 4194304) :
 Ctr Try.prog 41 #[(.agg #[(.int .i64 hF), C]), (.int .i64 n)] w (fun v w' => ∃ (M : Value) (D : List Gv), v = .tuple #[.agg #[.int .i64 (chF hF hG n), M], .bool (tt (gaP hF hG n))] ∧ Ol Gv.cs 36 2 w' M D ∧ Lo w.heap.size M ∧ OdG 3 129 w' w.heap.size w'.heap.size D (chG hF hG n) ∧ SepH M D ∧ Ch [] w w') := by
 obtain ⟨F, G, O⟩ := o.val
 subst O
 have au := o.len
 have o := o.here (by decide)
 have p := p.here
 have av := p.1
 have E := Ch.refl [] w
 refine Yj (N := 33) (vs0 := [(.agg #[(.int .i64 hF), (.slice F shG.length G)]), (.int .i64 n)]) Try.func41 rfl rfl rfl ?_
 refine Zh fun K1 H1 => ?_
 refine Zc (Zl rfl rfl ?_)
 refine Xm rfl fun aN W2 ai C2 bF => ?_
 have bG := C2.size
 have E := E.trans C2
 have bH := ai.lt
 replace ai : Blk W2 aN 57 [(.int .i64 hF), (.slice F shG.length G)] := ai
 refine Zl rfl rfl ?_
 refine Yd zr57 fun aj W3 S C3 bI => ?_
 have bJ := C3.size
 have E := E.trans C3
 have bK := S.lt
 replace S : Blk W3 aj 57 [(.int .i64 0), (.slice none 0 0)] := S
 refine Za rfl rfl (Zf rfl) (Ze (Zb (H1 _ _ ?_)))
 refine Zh fun K4 H4 => ?_
 refine Zc ?_
 have F5 := ai.ch0 C3
 refine Za rfl rfl (Zi F5.at_ agg57 sz57 rfl) (Zl rfl rfl ?_)
 have F6 := (o.ch0 C2).ch0 C3
 have F7 := (p.ch0 C2).ch0 C3
 refine Step.call (Zm (xs := [.tmp 7]) fk71 rfl) (Zdr _ F6 F7 om) fun aE W8 aO => ?_
 obtain ⟨aw, a, rfl, m, b, k, l, C8⟩ := aO
 have bL := C8.size
 have E := E.trans C8
 obtain ⟨c, e, rfl, ak, f⟩ := m.opn
 have bM := k.1
 refine Zl rfl rfl ?_
 refine Yd zr57 fun al W9 am C9 bN => ?_
 have bO := C9.size
 have E := E.trans C9
 have bP := am.lt
 replace am : Blk W9 al 57 [(.int .i64 0), (.slice none 0 0)] := am
 refine Zl rfl rfl ?_
 refine Zk (off := 0) 2 am sz57 rfl (us := [(.int .i64 hF), (.slice c (a).length e)]) rfl rfl rfl rfl fun aP s z => ?_
 have aQ := z.size
 have E := E.step z (lS om)
 replace s : Blk aP al 57 [(.int .i64 hF), (.slice c (a).length e)] := s
 refine Ze (Zb (H4 _ _ ?_))
 refine Zh fun bQ aR => ?_
 refine Zh fun bR aF => ?_
 refine Yv [] 12 mixed rfl fun ax t => ?_
 have aS := t.size
 have E := E.trans t
 have an := (((F5.ch0 C8).ch0 C9).ch z (nS om)).ch0 t
 refine dT 0 rfl rfl rfl (Ye an.at_ (fun i hi => absurd hi List.not_mem_nil) agg57 sz57 rfl ?_)
 refine dO 1 (Zr rfl rfl rfl ?_)
 have aG := (((F6.ch0 C8).ch0 C9).ch z (oS om)).ch0 t
 have aH := (((F7.ch0 C8).ch0 C9).ch z (oS om)).ch0 t
 refine Step.call (Zm (xs := [.tmp 9]) fk34 rfl) (Xy _ aG aH ) fun aT aU ay => ?_
 obtain ⟨rfl, r⟩ := ay
 have aV := r.size
 have E := E.trans r
 have P : Ch [] ax aU := ((Ch.refl _ _).trans r)
 refine ⟨P, ?_⟩
 refine dV 2 rfl rfl rfl (fun _ => Xp rfl) (dV 3 rfl rfl rfl (fun _ => Zg rfl) ?_)
 refine Qq (d := 12) rfl (fun h => ?_) (fun h => ?_)
 ·have az := h
  have h := bf_t (Qj h)
  first | (have aW := Zbo h; have aE := h.2) | skip
  refine dK 4 rfl rfl rfl (dK 5 rfl rfl rfl (dK 6 rfl rfl rfl (dK 7 rfl rfl rfl (dK 8 rfl rfl rfl (dK 9 rfl rfl rfl (dK 10 rfl rfl rfl (dV 11 rfl rfl rfl (fun _ => Ym rfl rfl) ?_)))))))
  refine Zw (by kernel_rfl) ?_
  refine Zb (aF _ _ ?_)
  refine Xr rfl ?_
  refine Zh fun bS aX => ?_
  refine Zc ?_
  have aY := (s.ch0 t).ch0 r
  refine Za rfl rfl (Zi aY.at_ agg57 sz57 rfl) (Zl rfl rfl ?_)
  have aZ := ((((S.ch0 C8).ch0 C9).ch z (nS om)).ch0 t).ch0 r
  refine Zk (off := 0) 2 aZ sz57 rfl (us := [(.int .i64 hF), (.slice c (a).length e)]) rfl rfl rfl rfl fun T H ao => ?_
  have a0 := ao.size
  have E := E.step ao (lS om)
  replace H : Blk T aj 57 [(.int .i64 hF), (.slice c (a).length e)] := H
  refine Za rfl rfl (Zf rfl) (Ze (Zb (aX _ _ ?_)))
  refine Zv (Zt ?_)
  have a1 := ((((m.ch0 C9).ch z (dS b f om)).ch0 t).ch0 r).ch ao (dS b f om)
  have a2 := ((((k.ch0 C9).ch z (oS om)).ch0 t).ch0 r).ch ao (oS om)
  have U : Ol Gv.cs 36 2 T (.slice c (a).length e) a := by
   have hx := a1
   exact hx
  have V : OdG 3 129 T w.heap.size T.heap.size a (chG hF hG n) := by
   have hx := a2.up (lo' := w.heap.size) (hi' := T.heap.size) om om
   first | (rw [← Zgb (fun q => h q.1)]; exact hx) | (rw [← Zgb (fun q => j q.2)]; exact hx) | (rw [← Zgu ⟨h, j⟩]; exact hx)
  exact Zj [_, _] (Zn H rfl agg57 sz57 ⟨rfl, trivial⟩) ⟨(.slice c (a).length e), a, ((congrArg (fun zq => (Value.tuple #[.agg #[.int .i64 zq, (.slice c (a).length e)], .bool false])) (by first | exact Zfz (fun q => h q.1) | exact Zfz (fun q => j q.2) | exact Zbz ⟨h, j⟩)).trans (congrArg (fun zq => (Value.tuple #[.agg #[.int .i64 (chF hF hG n), (.slice c (a).length e)], .bool zq])) (by first | exact Zu (fun q => h q.1) | exact Zu (fun q => j q.2) | exact Xt ⟨h, j⟩))), U, (Lo.down b om), V, l, E⟩
 have az := h
 have h := bt_t (Qk h)
 first | (have aW := Zbo h; have aE := h.2) | skip
 refine dV 4 rfl rfl rfl (fun _ => Zg rfl) (dV 5 rfl rfl rfl (fun _ => Zd fa57_0 rfl) ?_)
 refine dT 6 rfl rfl rfl (Yi an.at_ (fun i hi => absurd hi List.not_mem_nil) agg3 rfl rfl ?_)
 refine dT 7 rfl rfl rfl (Ye an.at_ (fun i hi => absurd hi List.not_mem_nil) agg57 sz57 rfl ?_)
 refine dO 8 (Zr rfl rfl rfl ?_)
 have a3 := aG.ch0 r
 have a4 := aH.ch0 r
 refine Step.call (Zm (xs := [.tmp 16]) fk44 rfl) (Zaa _ a3 a4 ) fun a5 a6 aA => ?_
 obtain ⟨rfl, A⟩ := aA
 have a7 := A.size
 have E := E.trans A
 have Q : Ch [] ax a6 := (P.trans A)
 refine ⟨Q, ?_⟩
 refine dO 9 (Zr rfl rfl rfl ?_)
 refine Step.call (Zm (xs := [.tmp 13, .tmp 15, .tmp 17]) fk90 rfl) (Qv _ _ _ ) fun a8 a9 aB => ?_
 obtain ⟨rfl, B⟩ := aB
 have ba := B.size
 have E := E.trans B
 have X : Ch [] ax a9 := (Q.trans B)
 refine ⟨X, ?_⟩
 refine dV 10 rfl rfl rfl (fun _ => Xp rfl) (dV 11 rfl rfl rfl (fun _ => Yl rfl rfl) ?_)
 refine Zw (by kernel_rfl) ?_
 refine Zb (aF _ _ ?_)
 refine Zz rfl (fun j => ?_) (fun j => ?_)
 ·have aC := j
  have j := Yu (Qj j)
  refine Zh fun bT bb => ?_
  refine Zc ?_
  have bc := (((s.ch0 t).ch0 r).ch0 A).ch0 B
  refine Za rfl rfl (Zi bc.at_ agg57 sz57 rfl) (Zl rfl rfl ?_)
  have be := ((((((S.ch0 C8).ch0 C9).ch z (nS om)).ch0 t).ch0 r).ch0 A).ch0 B
  refine Zk (off := 0) 2 be sz57 rfl (us := [(.int .i64 hF), (.slice c (a).length e)]) rfl rfl rfl rfl fun Y I ap => ?_
  have bf := ap.size
  have E := E.step ap (lS om)
  replace I : Blk Y aj 57 [(.int .i64 hF), (.slice c (a).length e)] := I
  refine Za rfl rfl (Zf rfl) (Ze (Zb (bb _ _ ?_)))
  refine Zv (Zt ?_)
  have bg := ((((((m.ch0 C9).ch z (dS b f om)).ch0 t).ch0 r).ch0 A).ch0 B).ch ap (dS b f om)
  have bh := ((((((k.ch0 C9).ch z (oS om)).ch0 t).ch0 r).ch0 A).ch0 B).ch ap (oS om)
  have Z : Ol Gv.cs 36 2 Y (.slice c (a).length e) a := by
   have hx := bg
   exact hx
  have aa : OdG 3 129 Y w.heap.size Y.heap.size a (chG hF hG n) := by
   have hx := bh.up (lo' := w.heap.size) (hi' := Y.heap.size) om om
   first | (rw [← Zgb (fun q => h q.1)]; exact hx) | (rw [← Zgb (fun q => j q.2)]; exact hx) | (rw [← Zgu ⟨h, j⟩]; exact hx)
  exact Zj [_, _] (Zn I rfl agg57 sz57 ⟨rfl, trivial⟩) ⟨(.slice c (a).length e), a, ((congrArg (fun zq => (Value.tuple #[.agg #[.int .i64 zq, (.slice c (a).length e)], .bool false])) (by first | exact Zfz (fun q => h q.1) | exact Zfz (fun q => j q.2) | exact Zbz ⟨h, j⟩)).trans (congrArg (fun zq => (Value.tuple #[.agg #[.int .i64 (chF hF hG n), (.slice c (a).length e)], .bool zq])) (by first | exact Zu (fun q => h q.1) | exact Zu (fun q => j q.2) | exact Xt ⟨h, j⟩))), Z, (Lo.down b om), aa, l, E⟩
 have aC := j
 have j := Yt (Qk j)
 refine Yf ?_
 refine Zb (aR _ _ ?_)
 refine Zh fun bU bi => ?_
 refine Zc (Za rfl rfl (Zd fa57_1 rfl) ?_)
 have aI := (((s.ch0 t).ch0 r).ch0 A).ch0 B
 refine Za rfl rfl (Zp aI.at_ agg55 rfl rfl) (Za rfl rfl (Zg rfl) (Za rfl rfl (Zd fa57_0 rfl) ?_))
 have bj := ((an.ch0 r).ch0 A).ch0 B
 refine Za rfl rfl (Zp bj.at_ agg3 rfl rfl) (Za rfl rfl (Xe om rfl rfl) (Zl rfl rfl ?_))
 have bk := (((((m.ch0 C9).ch z (dS b f om)).ch0 t).ch0 r).ch0 A).ch0 B
 have bm := (((((k.ch0 C9).ch z (oS om)).ch0 t).ch0 r).ch0 A).ch0 B
 refine (Zeu (ys := (a.drop ((n - hF).toNat))) ((n - hF).toNat) a.length bk Gv.len el55 sz36 rfl ⟨_, _, rfl, by omega⟩ rfl om om (Zcb _ _) fun bn ab u aJ => ?_)
 obtain ⟨x, y, rfl, bp, bq⟩ := ab.opn
 have aD := (bm).dropN ((n - hF).toNat)
 have ac := (l.dropN ((n - hF).toNat)).of u
 refine Za rfl rfl (Zd fa57_1 rfl) (Zl rfl rfl ?_)
 refine Zy (off := 1) aI sz55 rfl rfl rfl rfl fun br J ad => ?_
 have bs := ad.size
 have E := E.step ad (lS om)
 replace J : Blk br al 57 [(.int .i64 hF), (.slice x ((a.drop ((n - hF).toNat))).length y)] := J
 refine Ze (Zb (bi _ _ ?_))
 refine Zh fun bV bu => ?_
 refine Zc (Za rfl rfl (Zg rfl) (Za rfl rfl (Zd fa57_0 rfl) (Zl rfl rfl ?_)))
 refine Zy (off := 0) J sz3 rfl rfl rfl rfl fun bv K ae => ?_
 have bw := ae.size
 have E := E.step ae (lS om)
 replace K : Blk bv al 57 [(.int .i64 n), (.slice x ((a.drop ((n - hF).toNat))).length y)] := K
 refine Ze (Zb (bu _ _ ?_))
 refine Zh fun bW bz => ?_
 refine Zc (Za rfl rfl (Zi K.at_ agg57 sz57 rfl) (Zl rfl rfl ?_))
 have bA := ((((((((S.ch0 C8).ch0 C9).ch z (nS om)).ch0 t).ch0 r).ch0 A).ch0 B).ch ad (nS om)).ch ae (nS om)
 refine Zk (off := 0) 2 bA sz57 rfl (us := [(.int .i64 n), (.slice x ((a.drop ((n - hF).toNat))).length y)]) rfl rfl rfl rfl fun af L aq => ?_
 have bB := aq.size
 have E := E.step aq (lS om)
 replace L : Blk af aj 57 [(.int .i64 n), (.slice x ((a.drop ((n - hF).toNat))).length y)] := L
 refine Za rfl rfl (Zf rfl) (Ze (Zb (bz _ _ ?_)))
 refine Zv ?_
 have bC := ((ab.ch ad (fun g hg hm => by have aK := List.mem_singleton.1 hm; rw [u] at hg; have aL := b _ hg; have aM := f _ hg; omega)).ch ae (fun g hg hm => by have aK := List.mem_singleton.1 hm; rw [u] at hg; have aL := b _ hg; have aM := f _ hg; omega)).ch aq (fun g hg hm => by have aK := List.mem_singleton.1 hm; rw [u] at hg; have aL := b _ hg; have aM := f _ hg; omega)
 have bD := ((aD.ch ad (oS om)).ch ae (oS om)).ch aq (oS om)
 have ag : Ol Gv.cs 36 2 af (.slice x ((a.drop ((n - hF).toNat))).length y) (a.drop ((n - hF).toNat)) := by
  have hx := bC
  exact hx
 have ah : OdG 3 129 af w.heap.size af.heap.size (a.drop ((n - hF).toNat)) (chG hF hG n) := by
  have hx := bD.up (lo' := w.heap.size) (hi' := af.heap.size) om om
  first | (rw [← Zgb (fun q => h q.1)]; exact hx) | (rw [← Zgb (fun q => j q.2)]; exact hx) | (rw [← Zgu ⟨h, j⟩]; exact hx)
 exact Zj [_, _] (Zn L rfl agg57 sz57 ⟨rfl, trivial⟩) ⟨(.slice x ((a.drop ((n - hF).toNat))).length y), (a.drop ((n - hF).toNat)), ((congrArg (fun zq => (Value.tuple #[.agg #[.int .i64 zq, (.slice x ((a.drop ((n - hF).toNat))).length y)], .bool true])) (by first | exact Zfz (fun q => h q.1) | exact Zfz (fun q => j q.2) | exact Zbz ⟨h, j⟩)).trans (congrArg (fun zq => (Value.tuple #[.agg #[.int .i64 (chF hF hG n), (.slice x ((a.drop ((n - hF).toNat))).length y)], .bool zq])) (by first | exact Zu (fun q => h q.1) | exact Zu (fun q => j q.2) | exact Xt ⟨h, j⟩))), ag, (Lo.down (fun g hg => b g (u ▸ hg)) om), ah, ac, E⟩

/-- spec.l1New -/
theorem Zel {w : World} {LL_code m : Nat} {k : Value} {code : List Int} (a : Ls ucs 1 w LL_code m k code) (hb : code.length ≤ 4194304) :
 Ctr Try.prog 81 #[k] w (fun v w' => ∃ b, v = .pointer (some ⟨b, 0, none⟩) ∧ Cu w' b ∧ w.heap.size ≤ b ∧ Ch [] w w') := by
 obtain ⟨c, e, l⟩ := a.val
 subst l
 have p := a.len
 have a := a.here (by decide)
 have E := Ch.refl [] w
 refine Yj (N := 32) (vs0 := [(.slice c code.length e)]) Try.func81 rfl rfl rfl ?_
 refine Zh fun K1 H1 => ?_
 refine Zc (Za rfl rfl (Zf rfl) (Ze (Zb (H1 _ _ ?_))))
 refine Zh fun K2 H2 => ?_
 refine Zc (Za rfl rfl (Zg rfl) (Za rfl rfl (Yr (by rw [el70]; rfl) rfl) (Za rfl rfl (Xc om rfl rfl) (Za rfl rfl (Zf rfl) (Ze (Zb (H2 _ _ ?_)))))))
 refine Zh fun K3 H3 => ?_
 refine Zh fun K4 H4 => ?_
 refine Zc (Za rfl rfl (Zf rfl) (Ze (Zb (H4 _ _ ?_))))
 refine Yn ?_
 refine Ql (σ := Nat × Int) (fun ⟨i, h⟩ => [(0, (.slice c code.length e)), (2, (.pointer none)), (3, (.int .i64 h)), (4, (.int .i64 ((i : Nat) : Int)))]) (fun ⟨i, h⟩ wx => Ch [] w wx ∧ w.heap.size ≤ wx.heap.size ∧ (i ≤ code.length)) (fun ⟨i, h⟩ => code.length - i) (0, (10101 + ((code.length : Nat) : Int))) (sC4 rfl rfl rfl rfl (Sub.nil _)) ⟨E, (Nat.le_refl _), om⟩ ?_
 rintro ⟨i, h⟩ R5 ⟨E, A, hi⟩
 have n := E
 have y := n.size
 refine Zh fun K6 H6 => ?_
 refine Zh fun K7 H7 => ?_
 refine Zc (Za rfl rfl (Zg rfl) (Za rfl rfl (Zg rfl) (Za rfl rfl (Yr (by rw [el70]; rfl) rfl) (Za rfl rfl (Qw rfl rfl) (Za rfl rfl (Zg rfl) ?_)))))
 refine Yy (d := 12) rfl (fun g => ?_) (fun g => ?_)
 ·have B := g
  have g := Yt g
  refine Za rfl rfl (Zg rfl) (Za rfl rfl (Qw rfl rfl) (Za rfl rfl (Ym rfl rfl) (Ze (Zb (H7 _ _ ?_)))))
  refine Zz rfl (fun j => ?_) (fun j => ?_)
  ·have C := j
   have j := Yt j
   refine Yf ?_
   refine Zb (H6 _ _ ?_)
   refine Zh fun Q D => ?_
   refine Yn ?_
   refine Zc (Za rfl rfl (Zg rfl) (Za rfl rfl (Zjc rfl rfl) (Za rfl rfl (Zg rfl) (Za rfl rfl (Zg rfl) (Zl rfl rfl ?_)))))
   have F := a.ch0 n
   refine (Qm F Zgx el70 sz5 rfl rfl rfl om fun G q z r => ?_)
   refine Za rfl rfl (Zce r agg5 rfl rfl) (Za rfl rfl (Zgj (by rw [un5]; rfl) un3 rfl) (Za rfl rfl (Zfo rfl rfl) (Za rfl rfl (Zfo rfl rfl) (Za rfl rfl (Zkx rfl rfl) (Za rfl rfl (Zf rfl) (Ze (Yc ?_)))))))
   refine Zb (D _ _ (Zc (Za rfl rfl (Zg rfl) (Za rfl rfl (Xc om rfl rfl) (Za rfl rfl (Zf rfl) (Ze ?_))))))
   exact Zb (Exists.intro ((i + 1), (iand (w64 ((w64 ((w64 (h * 131)) + (w64 q))) + 7)) 1073741823)) ⟨⟨E, om, om⟩, sC4 rfl rfl rfl rfl (Sub.nil _), (by first | omega | (dsimp only; omega))⟩)
  have C := j
  have j := Yu j
  refine Xx (Yh (Yh (Xg ?_)))
  refine Zb (H3 _ _ ?_)
  refine Zh fun R H => ?_
  refine Zc (Za rfl rfl (Zg rfl) (Za rfl rfl (Zg rfl) (Za rfl rfl (Ys (parts := [(0, .tmp 28), (2, .tmp 29)]) (cells := [(.slice c code.length e), (.int .i64 0), (.int .i64 h)]) zr151 pl151 rfl rfl) (Zl rfl rfl ?_))))
  refine Xm rfl fun o I f s t => ?_
  have J := s.size
  have E := E.trans s
  have u := f.lt
  replace f : Blk I o 151 [(.slice c code.length e), (.int .i64 0), (.int .i64 h)] := f
  refine Za rfl rfl (Zf rfl) (Ze (Zb (H _ _ ?_)))
  refine Zv ?_
  have K := (a.ch0 n).ch0 s
  exact Zj [_] ⟨rfl, trivial⟩ ⟨_, rfl, ⟨_, _, _, _, _, f, K.up om om, om, om⟩, om, E⟩
 have B := g
 have g := Yu g
 refine Zo rfl rfl (Zo rfl rfl (Za rfl rfl (Yl rfl rfl) (Ze (Zb (H7 _ _ ?_)))))
 refine Zck rfl ?_
 refine Xx (Yh (Yh (Xg ?_)))
 refine Zb (H3 _ _ ?_)
 refine Zh fun S L => ?_
 refine Zc (Za rfl rfl (Zg rfl) (Za rfl rfl (Zg rfl) (Za rfl rfl (Ys (parts := [(0, .tmp 28), (2, .tmp 29)]) (cells := [(.slice c code.length e), (.int .i64 0), (.int .i64 h)]) zr151 pl151 rfl rfl) (Zl rfl rfl ?_))))
 refine Xm rfl fun o M f x t => ?_
 have O := x.size
 have E := E.trans x
 have u := f.lt
 replace f : Blk M o 151 [(.slice c code.length e), (.int .i64 0), (.int .i64 h)] := f
 refine Za rfl rfl (Zf rfl) (Ze (Zb (L _ _ ?_)))
 refine Zv ?_
 have P := (a.ch0 n).ch0 x
 exact Zj [_] ⟨rfl, trivial⟩ ⟨_, rfl, ⟨_, _, _, _, _, f, P.up om om, om, om⟩, om, E⟩

/-- spec.l1Byte -/
theorem Zba {w : World} {b_c : Nat} (n : Cu w b_c) :
 Ctr Try.prog 126 #[(.pointer (some ⟨b_c, 0, none⟩))] w (fun v w' => ∃ (o : Int) , v = .int .i64 o ∧ (0 ≤ o ∧ o ≤ 255) ∧ Cu w' b_c ∧ Ch [b_c] w w') := by
 obtain ⟨y, x_c, t_c, i_c, k_c, m_c, c, z, A⟩ := n
 obtain ⟨e, f, g⟩ := c.val
 subst g
 have B := c.len
 have t := m_c.lt
 have E := Ch.refl [b_c] w
 refine Yj (N := 58) (vs0 := [(.pointer (some ⟨b_c, 0, none⟩))]) Try.func126 rfl rfl rfl ?_
 refine Zh fun K1 H1 => ?_
 refine Zc (Za rfl rfl (Zf rfl) (Ze (Zb (H1 _ _ ?_))))
 refine Zh fun K2 H2 => ?_
 refine Zc (Za rfl rfl (Zg rfl) (Za rfl rfl (Zg rfl) (Za rfl rfl (Zag rfl) (Za rfl rfl (Zd fa151_2 rfl) (Za rfl rfl (Zp m_c.at_ agg3 rfl rfl) (Za rfl rfl (Zjc rfl rfl) (Za rfl rfl (Zfo rfl rfl) ?_)))))))
 refine Za rfl rfl (Zag rfl) (Za rfl rfl (Zd fa151_2 rfl) (Zl rfl rfl ?_))
 refine Zy (off := 2) m_c sz3 rfl rfl rfl rfl fun W3 d C3 => ?_
 have O := C3.size
 have E := E.trans C3
 replace d : Blk W3 b_c t_c [(.slice e x_c.length f), (.int .i64 i_c), (.int .i64 (w64 ((w64 (k_c * 6364136223846793005)) + 1442695040888963407)))] := d
 refine Ze (Zb (H2 _ _ ?_))
 refine Zh fun K5 H5 => ?_
 refine Yv [] 13 mixed rfl fun W6 C6 => ?_
 have P := C6.size
 have E := E.trans C6.of_nil
 refine dV 0 rfl rfl rfl (fun _ => Zg rfl) (dV 1 rfl rfl rfl (fun _ => Zag rfl) (dV 2 rfl rfl rfl (fun _ => Zd fa151_2 rfl) ?_))
 have F7 := d.ch0 C6
 refine dT 3 rfl rfl rfl (Yi F7.at_ (fun i hi => absurd hi List.not_mem_nil) agg3 rfl rfl ?_)
 refine dV 4 rfl rfl rfl (fun _ => Zmf om rfl rfl) (dV 5 rfl rfl rfl (fun _ => Zg rfl) (dV 6 rfl rfl rfl (fun _ => Zag rfl) (dV 7 rfl rfl rfl (fun _ => Zd fa151_2 rfl) ?_)))
 refine dT 8 rfl rfl rfl (Yi F7.at_ (fun i hi => absurd hi List.not_mem_nil) agg3 rfl rfl ?_)
 refine dV 9 rfl rfl rfl (fun _ => Zmf om rfl rfl) (dV 10 rfl rfl rfl (fun _ => Zne rfl rfl) (dV 11 rfl rfl rfl (fun _ => Zkx rfl rfl) (dV 12 rfl rfl rfl (fun _ => Zf rfl) ?_)))
 refine Zw (by kernel_rfl) ?_
 refine Zb (H5 _ _ ?_)
 refine Zh fun K8 H8 => ?_
 refine Zh fun K9 H9 => ?_
 refine Yv [] 10 mixed rfl fun Q h => ?_
 have C := h.size
 have E := E.trans h.of_nil
 refine dV 0 rfl rfl rfl (fun _ => Zg rfl) (dV 1 rfl rfl rfl (fun _ => Zag rfl) (dV 2 rfl rfl rfl (fun _ => Zd fa151_1 rfl) ?_))
 have k := F7.ch0 h
 refine dT 3 rfl rfl rfl (Yi k.at_ (fun i hi => absurd hi List.not_mem_nil) agg3 rfl rfl ?_)
 refine dV 4 rfl rfl rfl (fun _ => Zg rfl) (dV 5 rfl rfl rfl (fun _ => Zag rfl) (dV 6 rfl rfl rfl (fun _ => Zd fa151_0 rfl) ?_))
 refine dT 7 rfl rfl rfl (Yi k.at_ (fun i hi => absurd hi List.not_mem_nil) agg70 rfl rfl ?_)
 refine dV 8 rfl rfl rfl (fun _ => Yr (by rw [el70]; rfl) rfl) (dV 9 rfl rfl rfl (fun _ => Qw rfl rfl) ?_)
 refine Zw (by kernel_rfl) ?_
 refine Zb (H9 _ _ ?_)
 refine Zz rfl (fun a => ?_) (fun a => ?_)
 ·have p := a
  have a := Yt a
  refine Zh fun R D => ?_
  refine Yv [] 15 mixed rfl fun S l => ?_
  have F := l.size
  have E := E.trans l.of_nil
  refine dV 0 rfl rfl rfl (fun _ => Zg rfl) (dV 1 rfl rfl rfl (fun _ => Zg rfl) (dV 2 rfl rfl rfl (fun _ => Zag rfl) (dV 3 rfl rfl rfl (fun _ => Zd fa151_0 rfl) ?_)))
  have m := k.ch0 l
  refine dT 4 rfl rfl rfl (Yi m.at_ (fun i hi => absurd hi List.not_mem_nil) agg70 rfl rfl ?_)
  refine dV 5 rfl rfl rfl (fun _ => Zg rfl) (dV 6 rfl rfl rfl (fun _ => Zag rfl) (dV 7 rfl rfl rfl (fun _ => Zd fa151_1 rfl) ?_))
  refine dT 8 rfl rfl rfl (Yi m.at_ (fun i hi => absurd hi List.not_mem_nil) agg3 rfl rfl ?_)
  have u := (((c.ch C3 (oS om)).ch0 C6).ch0 h).ch0 l
  refine dT 9 rfl rfl rfl (Xh (j := i_c.toNat) u Zgx el70 sz5 rfl rfl om om fun G q x r => ?_)
  refine dT 10 rfl rfl rfl (Zbt r (fun i hi => absurd hi List.not_mem_nil) agg5 rfl rfl ?_)
  refine dV 11 rfl rfl rfl (fun _ => Zgj (by rw [un5]; rfl) un3 rfl) (dV 12 rfl rfl rfl (fun _ => Zfo rfl rfl) (dV 13 rfl rfl rfl (fun _ => Zkx rfl rfl) (dV 14 rfl rfl rfl (fun _ => Zf rfl) ?_)))
  refine Zw (by kernel_rfl) ?_
  refine Zb (D _ _ (Zc (Za rfl rfl (Zg rfl) (Za rfl rfl (Zg rfl) (Za rfl rfl (Zag rfl) (Za rfl rfl (Zd fa151_1 rfl) (Za rfl rfl (Zp m.at_ agg3 rfl rfl) (Za rfl rfl (Xc om rfl rfl) ?_))))))))
  refine Za rfl rfl (Zag rfl) (Za rfl rfl (Zd fa151_1 rfl) (Zl rfl rfl ?_))
  refine Zy (off := 1) m sz3 rfl rfl rfl rfl fun H b s => ?_
  have I := s.size
  have E := E.trans s
  replace b : Blk H b_c t_c [(.slice e x_c.length f), (.int .i64 (i_c + 1)), (.int .i64 (w64 ((w64 (k_c * 6364136223846793005)) + 1442695040888963407)))] := b
  refine Ze (Zb (H8 _ _ ?_))
  refine Zh fun T J => ?_
  refine Zc (Za rfl rfl (Zg rfl) (Za rfl rfl (Zf rfl) (Ze (Zb (J _ _ ?_)))))
  refine Zv ?_
  have K := u.ch s (oS om)
  exact Zj [_] ⟨rfl, trivial⟩ ⟨(iand (w64 ((iand (ixor (ishr (w64 ((w64 (k_c * 6364136223846793005)) + 1442695040888963407)) 33) (ishr (w64 ((w64 (k_c * 6364136223846793005)) + 1442695040888963407)) 45)) 255) + (w64 q))) 255), (congrArg (fun zq => (Value.int .i64 zq)) (by first | rfl | simp_all)), (Zjf _), ⟨_, _, _, _, _, b, K, om, om⟩, E⟩
 have p := a
 have a := Yu a
 refine Yf ?_
 refine Zb (H8 _ _ ?_)
 refine Zh fun U L => ?_
 refine Zc (Za rfl rfl (Zg rfl) (Za rfl rfl (Zf rfl) (Ze (Zb (L _ _ ?_)))))
 refine Zv ?_
 have M := ((c.ch C3 (oS om)).ch0 C6).ch0 h
 exact Zj [_] ⟨rfl, trivial⟩ ⟨(iand (ixor (ishr (w64 ((w64 (k_c * 6364136223846793005)) + 1442695040888963407)) 33) (ishr (w64 ((w64 (k_c * 6364136223846793005)) + 1442695040888963407)) 45)) 255), (congrArg (fun zq => (Value.int .i64 zq)) (by first | rfl | simp_all)), (Zjf _), ⟨_, _, _, _, _, k, M, om, om⟩, E⟩

/-- spec.l1Below -/
theorem Zs {w : World} {b_c : Nat} (c : Cu w b_c) (n : Int) (hn : 0 < n) :
 Ctr Try.prog 95 #[(.pointer (some ⟨b_c, 0, none⟩)), (.int .i64 n)] w (fun v w' => ∃ (i : Int) , v = .int .i64 i ∧ (0 ≤ i ∧ i < n) ∧ Cu w' b_c ∧ Ch [b_c] w w') := by
 have B := c.lt
 have E := Ch.refl [b_c] w
 refine Yj (N := 37) (vs0 := [(.pointer (some ⟨b_c, 0, none⟩)), (.int .i64 n)]) Try.func95 rfl rfl rfl ?_
 refine Zh fun K1 H1 => ?_
 refine Zc (Za rfl rfl (Zf rfl) (Ze (Zb (H1 _ _ ?_))))
 refine Zh fun K2 H2 => ?_
 refine Zh fun K3 H3 => ?_
 refine Zc (Za rfl rfl (Zg rfl) (Za rfl rfl (Zga rfl rfl) (Ze (Zb (H3 _ _ ?_)))))
 refine Zz rfl (fun a => ?_) (fun a => ?_)
 ·have I := a
  have a := Yt a
  refine Zh fun K5 H5 => ?_
  refine Zc (Za rfl rfl (Zf rfl) (Ze (Zb (H5 _ _ ?_))))
  refine Zv (Zt ?_)
  exact Zj [_] ⟨rfl, trivial⟩ ⟨0, (congrArg (fun zq => (Value.int .i64 zq)) (by first | rfl | simp_all)), (by first | exact Zfv om om | omega), c, E⟩
 have I := a
 have a := Yu a
 refine Yf ?_
 refine Zb (H2 _ _ ?_)
 refine Zh fun K6 H6 => ?_
 refine Zh fun K7 H7 => ?_
 refine Zc (Za rfl rfl (Zg rfl) (Za rfl rfl (Zga rfl rfl) (Ze (Zb (H7 _ _ ?_)))))
 refine Zz rfl (fun b => ?_) (fun b => ?_)
 ·have J := b
  have b := Yt b
  refine Zh fun K9 H9 => ?_
  refine Zc (Za rfl rfl (Zg rfl) (Zl rfl rfl ?_))
  refine Step.call (Zm (xs := [.tmp 13]) fk126 rfl) (Zba c ) fun K ab j => ?_
  obtain ⟨d, rfl, k, l, C⟩ := j
  have L := C.size
  have E := E.trans C
  refine Za rfl rfl (Zg rfl) (Za rfl rfl (Zmi om rfl rfl) (Za rfl rfl (Zf rfl) (Ze (Zb (H9 _ _ ?_)))))
  refine Zv (Zt ?_)
  exact Zj [_] ⟨rfl, trivial⟩ ⟨(d.tmod n), (congrArg (fun zq => (Value.int .i64 zq)) (by first | rfl | simp_all)), (by first | exact Zfv om om | omega), l, E⟩
 have J := b
 have b := Yu b
 refine Yf ?_
 refine Zb (H6 _ _ ?_)
 refine Zh fun ac M => ?_
 refine Zc (Za rfl rfl (Zg rfl) (Zl rfl rfl ?_))
 refine Step.call (Zm (xs := [.tmp 17]) fk126 rfl) (Zba c ) fun O ad m => ?_
 obtain ⟨e, rfl, o, p, D⟩ := m
 have P := D.size
 have E := E.trans D
 refine Za rfl rfl (Zf rfl) (Ze (Zb (M _ _ ?_)))
 refine Zh fun ae Q => ?_
 refine Zc (Za rfl rfl (Zg rfl) (Zl rfl rfl ?_))
 refine Step.call (Zm (xs := [.tmp 19]) fk126 rfl) (Zba p ) fun R af q => ?_
 obtain ⟨f, rfl, r, s, F⟩ := q
 have S := F.size
 have E := E.trans F
 refine Za rfl rfl (Zf rfl) (Ze (Zb (Q _ _ ?_)))
 refine Zh fun ag T => ?_
 refine Zc (Za rfl rfl (Zg rfl) (Zl rfl rfl ?_))
 refine Step.call (Zm (xs := [.tmp 21]) fk126 rfl) (Zba s ) fun U ah t => ?_
 obtain ⟨g, rfl, u, x, G⟩ := t
 have V := G.size
 have E := E.trans G
 refine Za rfl rfl (Zf rfl) (Ze (Zb (T _ _ ?_)))
 refine Zh fun ai X => ?_
 refine Zc (Za rfl rfl (Zg rfl) (Zl rfl rfl ?_))
 refine Step.call (Zm (xs := [.tmp 23]) fk126 rfl) (Zba x ) fun Y aj y => ?_
 obtain ⟨h, rfl, z, A, H⟩ := y
 have Z := H.size
 have E := E.trans H
 refine Za rfl rfl (Zf rfl) (Ze (Zb (X _ _ ?_)))
 refine Zh fun ak aa => ?_
 refine Zc (Za rfl rfl (Zg rfl) (Za rfl rfl (Zkv om rfl rfl) (Za rfl rfl (Zg rfl) (Za rfl rfl (Zkv om rfl rfl) (Za rfl rfl (Xc om rfl rfl) (Za rfl rfl (Zg rfl) (Za rfl rfl (Zkv om rfl rfl) ?_)))))))
 refine Za rfl rfl (Xc om rfl rfl) (Za rfl rfl (Zg rfl) (Za rfl rfl (Xc om rfl rfl) (Za rfl rfl (Zg rfl) (Za rfl rfl (Zmi om rfl rfl) (Za rfl rfl (Zf rfl) (Ze (Zb (aa _ _ ?_))))))))
 refine Zv ?_
 exact Zj [_] ⟨rfl, trivial⟩ ⟨(((((e * 16777216) + (f * 65536)) + (g * 256)) + h).tmod n), (congrArg (fun zq => (Value.int .i64 zq)) (by first | rfl | simp_all)), (by first | exact Zfv om om | omega), A, E⟩

/-- spec.l1Once -/
theorem Zcn {w : World} {b_c : Nat} (a : Cu w b_c) (n : Int) (hn : 0 < n) :
 Ctr Try.prog 120 #[(.pointer (some ⟨b_c, 0, none⟩)), (.int .i64 n)] w (fun v w' => ∃ (e : Bool) , v = .bool e ∧ Cu w' b_c ∧ Ch [b_c] w w') := by
 have c := a.lt
 have E := Ch.refl [b_c] w
 refine Yj (N := 9) (vs0 := [(.pointer (some ⟨b_c, 0, none⟩)), (.int .i64 n)]) Try.func120 rfl rfl rfl ?_
 refine Zh fun K1 H1 => ?_
 refine Zc (Za rfl rfl (Zf rfl) (Ze (Zb (H1 _ _ ?_))))
 refine Zh fun K2 H2 => ?_
 refine Zc (Za rfl rfl (Zg rfl) (Za rfl rfl (Zg rfl) (Zl rfl rfl ?_)))
 refine Step.call (Zm (xs := [.tmp 5, .tmp 6]) fk95 rfl) (Zs a _ om) fun h W3 f => ?_
 obtain ⟨b, rfl, d, g, C3⟩ := f
 have i := C3.size
 have E := E.trans C3
 refine Za rfl rfl (Qg rfl rfl) (Za rfl rfl (Zf rfl) (Ze (Zb (H2 _ _ ?_))))
 refine Zv ?_
 exact Zj [_] ⟨rfl, trivial⟩ ⟨(decide (b = 0)), (congrArg (fun zq => (Value.bool zq)) (by first | rfl | simp_all)), g, E⟩

/-- spec.l1PickInt -/
theorem Zx {w : World} {b_c : Nat} (f : Cu w b_c) {e_list : Nat} {a : Value} {list : List Int} (b : Ol ics e_list 1 w a list) (hl : 0 < list.length ∧ list.length ≤ 4096) (K9 : Nat) (q : b_c < K9) (i : Lo K9 a) :
 Ctr Try.prog 117 #[(.pointer (some ⟨b_c, 0, none⟩)), a] w (fun v w' => ∃ (n : Int) , v = .int .i64 n ∧ (n ∈ list) ∧ Cu w' b_c ∧ Ch [b_c] w w') := by
 have o := f.lt
 obtain ⟨d, e, rfl, h, c⟩ := b.opn
 have E := Ch.refl [b_c] w
 refine Yj (N := 12) (vs0 := [(.pointer (some ⟨b_c, 0, none⟩)), (.slice d list.length e)]) Try.func117 rfl rfl rfl ?_
 refine Zh fun V1 H1 => ?_
 refine Zc (Za rfl rfl (Zf rfl) (Ze (Zb (H1 _ _ ?_))))
 refine Zh fun V2 H2 => ?_
 refine Zc (Za rfl rfl (Zg rfl) (Za rfl rfl (Zg rfl) (Za rfl rfl (Zg rfl) (Za rfl rfl (Yr (by rw [el22]; rfl) rfl) (Zl rfl rfl ?_)))))
 refine Step.call (Zm (xs := [.tmp 6, .tmp 8]) fk95 rfl) (Zs f _ om) fun u W3 r => ?_
 obtain ⟨k, rfl, p, s, C3⟩ := r
 have x := C3.size
 have E := E.trans C3
 refine Zl rfl rfl ?_
 have F4 := b.ch C3 (dS i c om)
 refine (Qm (j := k.toNat) F4.ls Yx el22 sz3 rfl rfl om om fun t l g m => ?_)
 refine Za rfl rfl (Zce m agg3 rfl rfl) (Za rfl rfl (Zf rfl) (Ze (Zb (H2 _ _ ?_))))
 refine Zv ?_
 exact Zj [_] ⟨rfl, trivial⟩ ⟨l, (congrArg (fun zq => (Value.int .i64 zq)) (by first | rfl | simp_all)), (Qf g), s, E⟩

/-- spec.l3Some -/
theorem Zfy {w : World} {b_c : Nat} (cH : Cu w b_c) {LL_gV c8 : Nat} {cr : Value} {gV : List Int} (aX : Ls ics 1 w LL_gV c8 cr gV) {LL_gE c9 : Nat} {ct : Value} {gE : List GEdge} (aY : Ls GEdge.cs 4 w LL_gE c9 ct gE) (hq : b_c < LL_gV ∧ b_c < LL_gE) :
 Ctr Try.prog 119 #[(.pointer (some ⟨b_c, 0, none⟩)), (.agg #[cr, ct])] w (fun v w' => ∃ (hp : GEdge) , v = .agg (GEdge.cs hp).toArray ∧ Cu w' b_c ∧ Ch [b_c] w w') := by
 have gb := cH.lt
 obtain ⟨cu, cv, cI⟩ := aX.val
 subst cI
 have gc := aX.len
 have aX := aX.here (by decide)
 obtain ⟨cw, cx, cJ⟩ := aY.val
 subst cJ
 have gd := aY.len
 have aY := aY.here (by decide)
 have E := Ch.refl [b_c] w
 refine Yj (N := 45) (vs0 := [(.pointer (some ⟨b_c, 0, none⟩)), (.agg #[(.slice cu gV.length cv), (.slice cw gE.length cx)])]) Try.func119 rfl rfl rfl ?_
 refine Zh fun K1 H1 => ?_
 refine Zc (Zl rfl rfl ?_)
 refine Xm rfl fun hr W2 dA C2 jC => ?_
 have jD := C2.size
 have E := E.trans C2.of_nil
 have jE := dA.lt
 replace dA : Blk W2 hr 36 [(.slice cu gV.length cv), (.slice cw gE.length cx)] := dA
 refine Zl rfl rfl ?_
 refine Yd zr129 fun B W3 A C3 jF => ?_
 have jG := C3.size
 have E := E.trans C3.of_nil
 have jH := A.lt
 replace A : Blk W3 B 129 [(.int .i64 0), (.int .i64 0), (.int .i64 0), (.int .i64 0)] := A
 refine Ze (Zb (H1 _ _ ?_))
 refine Zh fun K4 H4 => ?_
 refine Yv [b_c] 20 mixed rfl fun W5 C5 => ?_
 have jI := C5.size
 have E := E.trans C5.of_nil
 refine dV 0 rfl rfl rfl (fun _ => Zg rfl) (dV 3 rfl rfl rfl (fun _ => Zg rfl) (dV 4 rfl rfl rfl (fun _ => Zd fa36_0 rfl) ?_))
 have F6 := (dA.ch0 C3).ch0 C5
 refine dT 5 rfl rfl rfl (Yi F6.at_ (oS om) agg22 rfl rfl ?_)
 refine dV 6 rfl rfl rfl (fun _ => Yr (by rw [el22]; rfl) rfl) (dV 7 rfl rfl rfl (fun _ => Zmc rfl rfl) (dV 9 rfl rfl rfl (fun _ => Zg rfl) (dV 10 rfl rfl rfl (fun _ => Zd fa36_0 rfl) ?_)))
 refine dT 11 rfl rfl rfl (Yi F6.at_ (oS om) agg22 rfl rfl ?_)
 refine dV 12 rfl rfl rfl (fun _ => Yr (by rw [el22]; rfl) rfl) (dV 13 rfl rfl rfl (fun _ => Zmc rfl rfl) (dV 15 rfl rfl rfl (fun _ => Zg rfl) ?_))
 refine Xd 1 18 (by kernel_rfl) ?_ ?_
 ·refine Zr rfl rfl rfl ?_
  have F7 := ((cH.ch0 C2).ch0 C3).ch0 C5
  refine Step.call (Zm (xs := [.tmp 6, .const (Go.Value.int Go.IntKind.i64 40)]) fk95 rfl) (Zs F7 _ (by first | omega | (split <;> omega))) fun hs W8 dQ => ?_
  obtain ⟨d, rfl, da, dB, C8⟩ := dQ
  have jJ := C8.size
  have E := E.trans C8
  have cK : Ch [b_c] W5 W8 := ((Ch.refl _ _).step C8 (fun i hm => by have m := List.mem_singleton.1 hm; exact .inr (by rw [m]; exact (List.mem_singleton.2 rfl))))
  refine ⟨cK, ?_⟩
  refine dV 2 rfl rfl rfl (fun _ => Xc om rfl rfl) ?_
  refine Xd 8 18 (by kernel_rfl) ?_ ?_
  ·refine Zr rfl rfl rfl ?_
   refine Step.call (Zm (xs := [.tmp 9, .tmp 13]) fk95 rfl) (Zs dB _ (by first | omega | (split <;> omega))) fun db ht ba => ?_
   obtain ⟨a, rfl, bb, a9, au⟩ := ba
   have hu := au.size
   have E := E.trans au
   have bc : Ch [b_c] W5 ht := (cK.step au (fun i hm => by have m := List.mem_singleton.1 hm; exact .inr (by rw [m]; exact (List.mem_singleton.2 rfl))))
   refine ⟨bc, ?_⟩
   refine Xd 14 18 (by kernel_rfl) ?_ ?_
   ·refine Zr rfl rfl rfl ?_
    refine Step.call (Zm (xs := [.tmp 15, .tmp 19]) fk95 rfl) (Zs a9 _ (by first | omega | (split <;> omega))) fun cL hv av => ?_
    obtain ⟨c, rfl, aw, ab, be⟩ := av
    have hw := be.size
    have E := E.trans be
    have bf : Ch [b_c] W5 hv := (bc.step be (fun i hm => by have m := List.mem_singleton.1 hm; exact .inr (by rw [m]; exact (List.mem_singleton.2 rfl))))
    refine ⟨bf, ?_⟩
    refine Xd 16 18 (by kernel_rfl) ?_ ?_
    ·refine Zr rfl rfl rfl ?_
     refine Step.call (Zm (xs := [.tmp 21, .const (Go.Value.int Go.IntKind.i64 3)]) fk95 rfl) (Zs ab _ (by first | omega | (split <;> omega))) fun bT hx I => ?_
     obtain ⟨b, rfl, J, K, cM⟩ := I
     have hy := cM.size
     have E := E.trans cM
     have cy : Ch [b_c] W5 hx := (bf.step cM (fun i hm => by have m := List.mem_singleton.1 hm; exact .inr (by rw [m]; exact (List.mem_singleton.2 rfl))))
     refine ⟨cy, ?_⟩
     refine dV 17 rfl rfl rfl (fun _ => Ys (parts := [(0, .tmp 8), (1, .tmp 14), (2, .tmp 20), (3, .tmp 22)]) (cells := [(.int .i64 (1 + d)), (.int .i64 a), (.int .i64 c), (.int .i64 b)]) zr129 pl129 rfl rfl) (dO 18 (Zr rfl rfl rfl ?_))
     refine Yd zr129 fun n ge z cz dC => ?_
     have hz := cz.size
     have E := E.trans cz.of_nil
     have dD := z.lt
     replace z : Blk ge n 129 [(.int .i64 0), (.int .i64 0), (.int .i64 0), (.int .i64 0)] := z
     have cA : Ch [b_c] W5 ge := (cy.trans cz.of_nil)
     refine ⟨cA, ?_⟩
     refine dO 19 (Zr rfl rfl rfl ?_)
     refine Zk (off := 0) 4 z sz129 rfl (us := [(.int .i64 (1 + d)), (.int .i64 a), (.int .i64 c), (.int .i64 b)]) rfl rfl rfl rfl fun gf G cB => ?_
     have hA := cB.size
     have E := E.step cB (lS om)
     replace G : Blk gf n 129 [(.int .i64 (1 + d)), (.int .i64 a), (.int .i64 c), (.int .i64 b)] := G
     have dc : Ch [b_c] W5 gf := (cA.step cB (fun i hm => by have m := List.mem_singleton.1 hm; left; omega))
     refine ⟨dc, ?_⟩
     refine Zw (by kernel_rfl) ?_
     refine Zb (H4 _ _ ?_)
     refine Zh fun jK dE => ?_
     refine Zh fun jL hB => ?_
     refine Zc (Za rfl rfl (Zg rfl) (Zl rfl rfl ?_))
     have hC := (K.ch0 cz).ch cB (oS om)
     refine Step.call (Zm (xs := [.tmp 24, .const (Go.Value.int Go.IntKind.i64 16)]) fk95 rfl) (Zs hC _ (by first | omega | (split <;> omega))) fun bU dR L => ?_
     obtain ⟨aZ, rfl, M, l, bR⟩ := L
     have hD := bR.size
     have E := E.trans bR
     refine Ze (Zb (hB _ _ ?_))
     refine Yn ?_
     refine Zh fun jM hE => ?_
     refine Zc (Za rfl rfl (Qg rfl rfl) (Za rfl rfl (Zf rfl) (Ze (Zb (hE _ _ ?_)))))
     refine Zz rfl (fun h => ?_) (fun h => ?_)
     ·have dU := h
      have h := Yt h
      refine Zc (Za rfl rfl (Zg rfl) (Zl rfl rfl ?_))
      refine Zq (cs := ics) (parts := [(0, .const (Go.Value.int Go.IntKind.i64 0)), (1, .const (Go.Value.int Go.IntKind.i64 99)), (2, .const (Go.Value.int Go.IntKind.i64 100))]) (0 : Int) [0, 99, 100] el22 sz3 zr3 Yx (by decide) rfl rfl rfl (by decide) (by decide) rfl fun bV jN o p dd => ?_
      have hF := dd.size
      have E := E.trans dd.of_nil
      obtain ⟨a0, a1, rfl, a2, O⟩ := o.opn
      refine Zl rfl rfl ?_
      have hG := l.ch0 dd
      refine Step.call (Zm (xs := [.tmp 28, .tmp 29]) fk117 rfl) (Zx hG o (by decide) dR.heap.size om p) fun bW jO P => ?_
      obtain ⟨e, rfl, Q, R, dF⟩ := P
      have hH := dF.size
      have E := E.trans dF
      refine Za rfl rfl (Zd fa129_0 rfl) (Zl rfl rfl ?_)
      have hI := ((G.ch bR (nS om)).ch0 dd).ch dF (nS om)
      refine Zy (off := 0) hI sz3 rfl rfl rfl rfl fun hJ bg dG => ?_
      have hK := dG.size
      have E := E.step dG (lS om)
      replace bg : Blk hJ n 129 [(.int .i64 e), (.int .i64 a), (.int .i64 c), (.int .i64 b)] := bg
      refine Ze (Yc (Zb (dE _ _ ?_)))
      refine Zh fun jP hL => ?_
      refine Zc (Za rfl rfl (Zi bg.at_ agg129 sz129 rfl) (Zl rfl rfl ?_))
      have hM := ((((((((((A.ch0 C5).ch C8 (nS om)).ch au (nS om)).ch be (nS om)).ch cM (nS om)).ch0 cz).ch cB (nS om)).ch bR (nS om)).ch0 dd).ch dF (nS om)).ch dG (nS om)
      refine Zk (off := 0) 4 hM sz129 rfl (us := [(.int .i64 e), (.int .i64 a), (.int .i64 c), (.int .i64 b)]) rfl rfl rfl rfl fun hN bh dW => ?_
      have hO := dW.size
      have E := E.step dW (lS om)
      replace bh : Blk hN B 129 [(.int .i64 e), (.int .i64 a), (.int .i64 c), (.int .i64 b)] := bh
      refine Ze (Zb (hL _ _ ?_))
      refine Zv ?_
      have hP := (R.ch dG (oS om)).ch dW (oS om)
      exact Zj [_] (Zn bh rfl agg129 sz129 trivial) ⟨(⟨e, a, c, b⟩ : GEdge), (congrArg (fun zq => (Value.agg (GEdge.cs zq).toArray)) (Eq.refl (⟨e, a, c, b⟩ : GEdge))), hP, E⟩
     have dU := h
     have h := Yu h
     refine Zh fun jQ hQ => ?_
     refine Zc (Za rfl rfl (Qg rfl rfl) (Za rfl rfl (Zf rfl) (Ze (Zb (hQ _ _ ?_)))))
     refine Zz rfl (fun j => ?_) (fun j => ?_)
     ·have dX := j
      have j := Yt j
      refine Zc (Za rfl rfl (Zg rfl) (Zl rfl rfl ?_))
      refine Zq (cs := ics) (parts := [(0, .const (Go.Value.int Go.IntKind.i64 (-1))), (1, .const (Go.Value.int Go.IntKind.i64 5))]) (0 : Int) [(-1), 5] el22 sz3 zr3 Yx (by decide) rfl rfl rfl (by decide) (by decide) rfl fun bX jR q r de => ?_
      have hR := de.size
      have E := E.trans de.of_nil
      obtain ⟨a3, a4, rfl, a5, S⟩ := q.opn
      refine Zl rfl rfl ?_
      have hS := l.ch0 de
      refine Step.call (Zm (xs := [.tmp 34, .tmp 35]) fk117 rfl) (Zx hS q (by decide) dR.heap.size om r) fun bY jS T => ?_
      obtain ⟨f, rfl, U, V, dH⟩ := T
      have hT := dH.size
      have E := E.trans dH
      refine Za rfl rfl (Zd fa129_2 rfl) (Zl rfl rfl ?_)
      have hU := ((G.ch bR (nS om)).ch0 de).ch dH (nS om)
      refine Zy (off := 2) hU sz3 rfl rfl rfl rfl fun hV bi dI => ?_
      have hW := dI.size
      have E := E.step dI (lS om)
      replace bi : Blk hV n 129 [(.int .i64 (1 + d)), (.int .i64 a), (.int .i64 f), (.int .i64 b)] := bi
      refine Ze (Yc (Zb (dE _ _ ?_)))
      refine Zh fun jT hX => ?_
      refine Zc (Za rfl rfl (Zi bi.at_ agg129 sz129 rfl) (Zl rfl rfl ?_))
      have hY := ((((((((((A.ch0 C5).ch C8 (nS om)).ch au (nS om)).ch be (nS om)).ch cM (nS om)).ch0 cz).ch cB (nS om)).ch bR (nS om)).ch0 de).ch dH (nS om)).ch dI (nS om)
      refine Zk (off := 0) 4 hY sz129 rfl (us := [(.int .i64 (1 + d)), (.int .i64 a), (.int .i64 f), (.int .i64 b)]) rfl rfl rfl rfl fun hZ bj dY => ?_
      have h0 := dY.size
      have E := E.step dY (lS om)
      replace bj : Blk hZ B 129 [(.int .i64 (1 + d)), (.int .i64 a), (.int .i64 f), (.int .i64 b)] := bj
      refine Ze (Zb (hX _ _ ?_))
      refine Zv ?_
      have h1 := (V.ch dI (oS om)).ch dY (oS om)
      exact Zj [_] (Zn bj rfl agg129 sz129 trivial) ⟨(⟨(1 + d), a, f, b⟩ : GEdge), (congrArg (fun zq => (Value.agg (GEdge.cs zq).toArray)) (Eq.refl (⟨(1 + d), a, f, b⟩ : GEdge))), h1, E⟩
     have dX := j
     have j := Yu j
     refine Zh fun jU h2 => ?_
     refine Zc (Za rfl rfl (Qg rfl rfl) (Za rfl rfl (Zf rfl) (Ze (Zb (h2 _ _ ?_)))))
     refine Zz rfl (fun k => ?_) (fun k => ?_)
     ·have dZ := k
      have k := Yt k
      refine Zc (Za rfl rfl (Zg rfl) (Zl rfl rfl ?_))
      refine Zq (cs := ics) (parts := [(0, .const (Go.Value.int Go.IntKind.i64 (-1))), (1, .const (Go.Value.int Go.IntKind.i64 3))]) (0 : Int) [(-1), 3] el22 sz3 zr3 Yx (by decide) rfl rfl rfl (by decide) (by decide) rfl fun bZ jV s t df => ?_
      have h3 := df.size
      have E := E.trans df.of_nil
      obtain ⟨a6, a7, rfl, a8, X⟩ := s.opn
      refine Zl rfl rfl ?_
      have h4 := l.ch0 df
      refine Step.call (Zm (xs := [.tmp 40, .tmp 41]) fk117 rfl) (Zx h4 s (by decide) dR.heap.size om t) fun b0 jW Y => ?_
      obtain ⟨g, rfl, Z, aa, dJ⟩ := Y
      have h5 := dJ.size
      have E := E.trans dJ
      refine Za rfl rfl (Zd fa129_3 rfl) (Zl rfl rfl ?_)
      have h6 := ((G.ch bR (nS om)).ch0 df).ch dJ (nS om)
      refine Zy (off := 3) h6 sz3 rfl rfl rfl rfl fun h7 bk dL => ?_
      have h8 := dL.size
      have E := E.step dL (lS om)
      replace bk : Blk h7 n 129 [(.int .i64 (1 + d)), (.int .i64 a), (.int .i64 c), (.int .i64 g)] := bk
      refine Ze (Yc (Zb (dE _ _ ?_)))
      refine Zh fun jX h9 => ?_
      refine Zc (Za rfl rfl (Zi bk.at_ agg129 sz129 rfl) (Zl rfl rfl ?_))
      have ia := ((((((((((A.ch0 C5).ch C8 (nS om)).ch au (nS om)).ch be (nS om)).ch cM (nS om)).ch0 cz).ch cB (nS om)).ch bR (nS om)).ch0 df).ch dJ (nS om)).ch dL (nS om)
      refine Zk (off := 0) 4 ia sz129 rfl (us := [(.int .i64 (1 + d)), (.int .i64 a), (.int .i64 c), (.int .i64 g)]) rfl rfl rfl rfl fun ib bm d0 => ?_
      have ic := d0.size
      have E := E.step d0 (lS om)
      replace bm : Blk ib B 129 [(.int .i64 (1 + d)), (.int .i64 a), (.int .i64 c), (.int .i64 g)] := bm
      refine Ze (Zb (h9 _ _ ?_))
      refine Zv ?_
      have ie := (aa.ch dL (oS om)).ch d0 (oS om)
      exact Zj [_] (Zn bm rfl agg129 sz129 trivial) ⟨(⟨(1 + d), a, c, g⟩ : GEdge), (congrArg (fun zq => (Value.agg (GEdge.cs zq).toArray)) (Eq.refl (⟨(1 + d), a, c, g⟩ : GEdge))), ie, E⟩
     have dZ := k
     have k := Yu k
     refine Yf ?_
     refine Yc (Zb (dE _ _ ?_))
     refine Zh fun jY ig => ?_
     refine Zc ?_
     have ih := G.ch bR (nS om)
     refine Za rfl rfl (Zi ih.at_ agg129 sz129 rfl) (Zl rfl rfl ?_)
     have ii := (((((((A.ch0 C5).ch C8 (nS om)).ch au (nS om)).ch be (nS om)).ch cM (nS om)).ch0 cz).ch cB (nS om)).ch bR (nS om)
     refine Zk (off := 0) 4 ii sz129 rfl (us := [(.int .i64 (1 + d)), (.int .i64 a), (.int .i64 c), (.int .i64 b)]) rfl rfl rfl rfl fun ij bn d1 => ?_
     have ik := d1.size
     have E := E.step d1 (lS om)
     replace bn : Blk ij B 129 [(.int .i64 (1 + d)), (.int .i64 a), (.int .i64 c), (.int .i64 b)] := bn
     refine Ze (Zb (ig _ _ ?_))
     refine Zv ?_
     have il := l.ch d1 (oS om)
     exact Zj [_] (Zn bn rfl agg129 sz129 trivial) ⟨(⟨(1 + d), a, c, b⟩ : GEdge), (congrArg (fun zq => (Value.agg (GEdge.cs zq).toArray)) (Eq.refl (⟨(1 + d), a, c, b⟩ : GEdge))), il, E⟩
    refine Zr rfl rfl rfl ?_
    refine Yd zr129 fun n gg z cC dC => ?_
    have im := cC.size
    have E := E.trans cC.of_nil
    have dD := z.lt
    replace z : Blk gg n 129 [(.int .i64 0), (.int .i64 0), (.int .i64 0), (.int .i64 0)] := z
    have cD : Ch [b_c] W5 gg := (bf.trans cC.of_nil)
    refine ⟨cD, ?_⟩
    refine dO 16 (Zr rfl rfl rfl ?_)
    have io := ab.ch0 cC
    refine Step.call (Zm (xs := [.tmp 21, .const (Go.Value.int Go.IntKind.i64 3)]) fk95 rfl) (Zs io _ (by first | omega | (split <;> omega))) fun bT ip I => ?_
    obtain ⟨b, rfl, J, K, cE⟩ := I
    have iq := cE.size
    have E := E.trans cE
    have cF : Ch [b_c] W5 ip := (cD.step cE (fun i hm => by have m := List.mem_singleton.1 hm; exact .inr (by rw [m]; exact (List.mem_singleton.2 rfl))))
    refine ⟨cF, ?_⟩
    refine dV 17 rfl rfl rfl (fun _ => Ys (parts := [(0, .tmp 8), (1, .tmp 14), (2, .tmp 20), (3, .tmp 22)]) (cells := [(.int .i64 (1 + d)), (.int .i64 a), (.int .i64 c), (.int .i64 b)]) zr129 pl129 rfl rfl) (dO 19 (Zr rfl rfl rfl ?_))
    have ir := z.ch cE (nS om)
    refine Zk (off := 0) 4 ir sz129 rfl (us := [(.int .i64 (1 + d)), (.int .i64 a), (.int .i64 c), (.int .i64 b)]) rfl rfl rfl rfl fun gh H cG => ?_
    have it := cG.size
    have E := E.step cG (lS om)
    replace H : Blk gh n 129 [(.int .i64 (1 + d)), (.int .i64 a), (.int .i64 c), (.int .i64 b)] := H
    have dg : Ch [b_c] W5 gh := (cF.step cG (fun i hm => by have m := List.mem_singleton.1 hm; left; omega))
    refine ⟨dg, ?_⟩
    refine Zw (by kernel_rfl) ?_
    refine Zb (H4 _ _ ?_)
    refine Zh fun jZ dM => ?_
    refine Zh fun j0 iu => ?_
    refine Zc (Za rfl rfl (Zg rfl) (Zl rfl rfl ?_))
    have iv := K.ch cG (oS om)
    refine Step.call (Zm (xs := [.tmp 24, .const (Go.Value.int Go.IntKind.i64 16)]) fk95 rfl) (Zs iv _ (by first | omega | (split <;> omega))) fun bU d2 L => ?_
    obtain ⟨aZ, rfl, M, l, bS⟩ := L
    have iw := bS.size
    have E := E.trans bS
    refine Ze (Zb (iu _ _ ?_))
    refine Yn ?_
    refine Zh fun j1 ix => ?_
    refine Zc (Za rfl rfl (Qg rfl rfl) (Za rfl rfl (Zf rfl) (Ze (Zb (ix _ _ ?_)))))
    refine Zz rfl (fun h => ?_) (fun h => ?_)
    ·have d3 := h
     have h := Yt h
     refine Zc (Za rfl rfl (Zg rfl) (Zl rfl rfl ?_))
     refine Zq (cs := ics) (parts := [(0, .const (Go.Value.int Go.IntKind.i64 0)), (1, .const (Go.Value.int Go.IntKind.i64 99)), (2, .const (Go.Value.int Go.IntKind.i64 100))]) (0 : Int) [0, 99, 100] el22 sz3 zr3 Yx (by decide) rfl rfl rfl (by decide) (by decide) rfl fun bV j2 o p dh => ?_
     have iy := dh.size
     have E := E.trans dh.of_nil
     obtain ⟨a0, a1, rfl, a2, O⟩ := o.opn
     refine Zl rfl rfl ?_
     have iz := l.ch0 dh
     refine Step.call (Zm (xs := [.tmp 28, .tmp 29]) fk117 rfl) (Zx iz o (by decide) d2.heap.size om p) fun bW j3 P => ?_
     obtain ⟨e, rfl, Q, R, dN⟩ := P
     have iA := dN.size
     have E := E.trans dN
     refine Za rfl rfl (Zd fa129_0 rfl) (Zl rfl rfl ?_)
     have iB := ((H.ch bS (nS om)).ch0 dh).ch dN (nS om)
     refine Zy (off := 0) iB sz3 rfl rfl rfl rfl fun iC bp dP => ?_
     have iD := dP.size
     have E := E.step dP (lS om)
     replace bp : Blk iC n 129 [(.int .i64 e), (.int .i64 a), (.int .i64 c), (.int .i64 b)] := bp
     refine Ze (Yc (Zb (dM _ _ ?_)))
     refine Zh fun j4 iE => ?_
     refine Zc (Za rfl rfl (Zi bp.at_ agg129 sz129 rfl) (Zl rfl rfl ?_))
     have iF := ((((((((((A.ch0 C5).ch C8 (nS om)).ch au (nS om)).ch be (nS om)).ch0 cC).ch cE (nS om)).ch cG (nS om)).ch bS (nS om)).ch0 dh).ch dN (nS om)).ch dP (nS om)
     refine Zk (off := 0) 4 iF sz129 rfl (us := [(.int .i64 e), (.int .i64 a), (.int .i64 c), (.int .i64 b)]) rfl rfl rfl rfl fun iG bq d4 => ?_
     have iH := d4.size
     have E := E.step d4 (lS om)
     replace bq : Blk iG B 129 [(.int .i64 e), (.int .i64 a), (.int .i64 c), (.int .i64 b)] := bq
     refine Ze (Zb (iE _ _ ?_))
     refine Zv ?_
     have iI := (R.ch dP (oS om)).ch d4 (oS om)
     exact Zj [_] (Zn bq rfl agg129 sz129 trivial) ⟨(⟨e, a, c, b⟩ : GEdge), (congrArg (fun zq => (Value.agg (GEdge.cs zq).toArray)) (Eq.refl (⟨e, a, c, b⟩ : GEdge))), iI, E⟩
    have d3 := h
    have h := Yu h
    refine Zh fun j5 iJ => ?_
    refine Zc (Za rfl rfl (Qg rfl rfl) (Za rfl rfl (Zf rfl) (Ze (Zb (iJ _ _ ?_)))))
    refine Zz rfl (fun j => ?_) (fun j => ?_)
    ·have d5 := j
     have j := Yt j
     refine Zc (Za rfl rfl (Zg rfl) (Zl rfl rfl ?_))
     refine Zq (cs := ics) (parts := [(0, .const (Go.Value.int Go.IntKind.i64 (-1))), (1, .const (Go.Value.int Go.IntKind.i64 5))]) (0 : Int) [(-1), 5] el22 sz3 zr3 Yx (by decide) rfl rfl rfl (by decide) (by decide) rfl fun bX j6 q r di => ?_
     have iK := di.size
     have E := E.trans di.of_nil
     obtain ⟨a3, a4, rfl, a5, S⟩ := q.opn
     refine Zl rfl rfl ?_
     have iL := l.ch0 di
     refine Step.call (Zm (xs := [.tmp 34, .tmp 35]) fk117 rfl) (Zx iL q (by decide) d2.heap.size om r) fun bY iM T => ?_
     obtain ⟨f, rfl, U, V, b1⟩ := T
     have gi := b1.size
     have E := E.trans b1
     refine Za rfl rfl (Zd fa129_2 rfl) (Zl rfl rfl ?_)
     have d6 := ((H.ch bS (nS om)).ch0 di).ch b1 (nS om)
     refine Zy (off := 2) d6 sz3 rfl rfl rfl rfl fun d7 ax b2 => ?_
     have gj := b2.size
     have E := E.step b2 (lS om)
     replace ax : Blk d7 n 129 [(.int .i64 (1 + d)), (.int .i64 a), (.int .i64 f), (.int .i64 b)] := ax
     refine Ze (Yc (Zb (dM _ _ ?_)))
     refine Zh fun iN d8 => ?_
     refine Zc (Za rfl rfl (Zi ax.at_ agg129 sz129 rfl) (Zl rfl rfl ?_))
     have d9 := ((((((((((A.ch0 C5).ch C8 (nS om)).ch au (nS om)).ch be (nS om)).ch0 cC).ch cE (nS om)).ch cG (nS om)).ch bS (nS om)).ch0 di).ch b1 (nS om)).ch b2 (nS om)
     refine Zk (off := 0) 4 d9 sz129 rfl (us := [(.int .i64 (1 + d)), (.int .i64 a), (.int .i64 f), (.int .i64 b)]) rfl rfl rfl rfl fun ea ay cN => ?_
     have gk := cN.size
     have E := E.step cN (lS om)
     replace ay : Blk ea B 129 [(.int .i64 (1 + d)), (.int .i64 a), (.int .i64 f), (.int .i64 b)] := ay
     refine Ze (Zb (d8 _ _ ?_))
     refine Zv ?_
     have eb := (V.ch b2 (oS om)).ch cN (oS om)
     exact Zj [_] (Zn ay rfl agg129 sz129 trivial) ⟨(⟨(1 + d), a, f, b⟩ : GEdge), (congrArg (fun zq => (Value.agg (GEdge.cs zq).toArray)) (Eq.refl (⟨(1 + d), a, f, b⟩ : GEdge))), eb, E⟩
    have d5 := j
    have j := Yu j
    refine Zh fun iO ec => ?_
    refine Zc (Za rfl rfl (Qg rfl rfl) (Za rfl rfl (Zf rfl) (Ze (Zb (ec _ _ ?_)))))
    refine Zz rfl (fun k => ?_) (fun k => ?_)
    ·have dj := k
     have k := Yt k
     refine Zc (Za rfl rfl (Zg rfl) (Zl rfl rfl ?_))
     refine Zq (cs := ics) (parts := [(0, .const (Go.Value.int Go.IntKind.i64 (-1))), (1, .const (Go.Value.int Go.IntKind.i64 3))]) (0 : Int) [(-1), 3] el22 sz3 zr3 Yx (by decide) rfl rfl rfl (by decide) (by decide) rfl fun bZ iP s t br => ?_
     have gl := br.size
     have E := E.trans br.of_nil
     obtain ⟨a6, a7, rfl, a8, X⟩ := s.opn
     refine Zl rfl rfl ?_
     have ed := l.ch0 br
     refine Step.call (Zm (xs := [.tmp 40, .tmp 41]) fk117 rfl) (Zx ed s (by decide) d2.heap.size om t) fun b0 iQ Y => ?_
     obtain ⟨g, rfl, Z, aa, b3⟩ := Y
     have gm := b3.size
     have E := E.trans b3
     refine Za rfl rfl (Zd fa129_3 rfl) (Zl rfl rfl ?_)
     have ee := ((H.ch bS (nS om)).ch0 br).ch b3 (nS om)
     refine Zy (off := 3) ee sz3 rfl rfl rfl rfl fun ef az b4 => ?_
     have gn := b4.size
     have E := E.step b4 (lS om)
     replace az : Blk ef n 129 [(.int .i64 (1 + d)), (.int .i64 a), (.int .i64 c), (.int .i64 g)] := az
     refine Ze (Yc (Zb (dM _ _ ?_)))
     refine Zh fun iR eg => ?_
     refine Zc (Za rfl rfl (Zi az.at_ agg129 sz129 rfl) (Zl rfl rfl ?_))
     have eh := ((((((((((A.ch0 C5).ch C8 (nS om)).ch au (nS om)).ch be (nS om)).ch0 cC).ch cE (nS om)).ch cG (nS om)).ch bS (nS om)).ch0 br).ch b3 (nS om)).ch b4 (nS om)
     refine Zk (off := 0) 4 eh sz129 rfl (us := [(.int .i64 (1 + d)), (.int .i64 a), (.int .i64 c), (.int .i64 g)]) rfl rfl rfl rfl fun ei aA cO => ?_
     have gp := cO.size
     have E := E.step cO (lS om)
     replace aA : Blk ei B 129 [(.int .i64 (1 + d)), (.int .i64 a), (.int .i64 c), (.int .i64 g)] := aA
     refine Ze (Zb (eg _ _ ?_))
     refine Zv ?_
     have ej := (aa.ch b4 (oS om)).ch cO (oS om)
     exact Zj [_] (Zn aA rfl agg129 sz129 trivial) ⟨(⟨(1 + d), a, c, g⟩ : GEdge), (congrArg (fun zq => (Value.agg (GEdge.cs zq).toArray)) (Eq.refl (⟨(1 + d), a, c, g⟩ : GEdge))), ej, E⟩
    have dj := k
    have k := Yu k
    refine Yf ?_
    refine Yc (Zb (dM _ _ ?_))
    refine Zh fun iS ek => ?_
    refine Zc ?_
    have el := H.ch bS (nS om)
    refine Za rfl rfl (Zi el.at_ agg129 sz129 rfl) (Zl rfl rfl ?_)
    have em := (((((((A.ch0 C5).ch C8 (nS om)).ch au (nS om)).ch be (nS om)).ch0 cC).ch cE (nS om)).ch cG (nS om)).ch bS (nS om)
    refine Zk (off := 0) 4 em sz129 rfl (us := [(.int .i64 (1 + d)), (.int .i64 a), (.int .i64 c), (.int .i64 b)]) rfl rfl rfl rfl fun en aB cP => ?_
    have gq := cP.size
    have E := E.step cP (lS om)
    replace aB : Blk en B 129 [(.int .i64 (1 + d)), (.int .i64 a), (.int .i64 c), (.int .i64 b)] := aB
    refine Ze (Zb (ek _ _ ?_))
    refine Zv ?_
    have eo := l.ch cP (oS om)
    exact Zj [_] (Zn aB rfl agg129 sz129 trivial) ⟨(⟨(1 + d), a, c, b⟩ : GEdge), (congrArg (fun zq => (Value.agg (GEdge.cs zq).toArray)) (Eq.refl (⟨(1 + d), a, c, b⟩ : GEdge))), eo, E⟩
   refine Zr rfl rfl rfl ?_
   refine Yd zr129 fun n dk z ac dC => ?_
   have gr := ac.size
   have E := E.trans ac.of_nil
   have dD := z.lt
   replace z : Blk dk n 129 [(.int .i64 0), (.int .i64 0), (.int .i64 0), (.int .i64 0)] := z
   have bs : Ch [b_c] W5 dk := (bc.trans ac.of_nil)
   refine ⟨bs, ?_⟩
   refine dO 14 (Zr rfl rfl rfl ?_)
   have ep := a9.ch0 ac
   refine Step.call (Zm (xs := [.tmp 15, .tmp 19]) fk95 rfl) (Zs ep _ (by first | omega | (split <;> omega))) fun cL er av => ?_
   obtain ⟨c, rfl, aw, ab, ad⟩ := av
   have gs := ad.size
   have E := E.trans ad
   have bu : Ch [b_c] W5 er := (bs.step ad (fun i hm => by have m := List.mem_singleton.1 hm; exact .inr (by rw [m]; exact (List.mem_singleton.2 rfl))))
   refine ⟨bu, ?_⟩
   refine dO 16 (Zr rfl rfl rfl ?_)
   refine Step.call (Zm (xs := [.tmp 21, .const (Go.Value.int Go.IntKind.i64 3)]) fk95 rfl) (Zs ab _ (by first | omega | (split <;> omega))) fun bT es I => ?_
   obtain ⟨b, rfl, J, K, ae⟩ := I
   have gt := ae.size
   have E := E.trans ae
   have bv : Ch [b_c] W5 es := (bu.step ae (fun i hm => by have m := List.mem_singleton.1 hm; exact .inr (by rw [m]; exact (List.mem_singleton.2 rfl))))
   refine ⟨bv, ?_⟩
   refine dV 17 rfl rfl rfl (fun _ => Ys (parts := [(0, .tmp 8), (1, .tmp 14), (2, .tmp 20), (3, .tmp 22)]) (cells := [(.int .i64 (1 + d)), (.int .i64 a), (.int .i64 c), (.int .i64 b)]) zr129 pl129 rfl rfl) (dO 19 (Zr rfl rfl rfl ?_))
   have et := (z.ch ad (nS om)).ch ae (nS om)
   refine Zk (off := 0) 4 et sz129 rfl (us := [(.int .i64 (1 + d)), (.int .i64 a), (.int .i64 c), (.int .i64 b)]) rfl rfl rfl rfl fun dl u af => ?_
   have gu := af.size
   have E := E.step af (lS om)
   replace u : Blk dl n 129 [(.int .i64 (1 + d)), (.int .i64 a), (.int .i64 c), (.int .i64 b)] := u
   have cQ : Ch [b_c] W5 dl := (bv.step af (fun i hm => by have m := List.mem_singleton.1 hm; left; omega))
   refine ⟨cQ, ?_⟩
   refine Zw (by kernel_rfl) ?_
   refine Zb (H4 _ _ ?_)
   refine Zh fun iT b5 => ?_
   refine Zh fun iU eu => ?_
   refine Zc (Za rfl rfl (Zg rfl) (Zl rfl rfl ?_))
   have ew := K.ch af (oS om)
   refine Step.call (Zm (xs := [.tmp 24, .const (Go.Value.int Go.IntKind.i64 16)]) fk95 rfl) (Zs ew _ (by first | omega | (split <;> omega))) fun bU cR L => ?_
   obtain ⟨aZ, rfl, M, l, C⟩ := L
   have gv := C.size
   have E := E.trans C
   refine Ze (Zb (eu _ _ ?_))
   refine Yn ?_
   refine Zh fun iV ex => ?_
   refine Zc (Za rfl rfl (Qg rfl rfl) (Za rfl rfl (Zf rfl) (Ze (Zb (ex _ _ ?_)))))
   refine Zz rfl (fun h => ?_) (fun h => ?_)
   ·have dm := h
    have h := Yt h
    refine Zc (Za rfl rfl (Zg rfl) (Zl rfl rfl ?_))
    refine Zq (cs := ics) (parts := [(0, .const (Go.Value.int Go.IntKind.i64 0)), (1, .const (Go.Value.int Go.IntKind.i64 99)), (2, .const (Go.Value.int Go.IntKind.i64 100))]) (0 : Int) [0, 99, 100] el22 sz3 zr3 Yx (by decide) rfl rfl rfl (by decide) (by decide) rfl fun bV iW o p bw => ?_
    have gw := bw.size
    have E := E.trans bw.of_nil
    obtain ⟨a0, a1, rfl, a2, O⟩ := o.opn
    refine Zl rfl rfl ?_
    have ey := l.ch0 bw
    refine Step.call (Zm (xs := [.tmp 28, .tmp 29]) fk117 rfl) (Zx ey o (by decide) cR.heap.size om p) fun bW iX P => ?_
    obtain ⟨e, rfl, Q, R, b6⟩ := P
    have gx := b6.size
    have E := E.trans b6
    refine Za rfl rfl (Zd fa129_0 rfl) (Zl rfl rfl ?_)
    have ez := ((u.ch C (nS om)).ch0 bw).ch b6 (nS om)
    refine Zy (off := 0) ez sz3 rfl rfl rfl rfl fun eA aC b7 => ?_
    have gy := b7.size
    have E := E.step b7 (lS om)
    replace aC : Blk eA n 129 [(.int .i64 e), (.int .i64 a), (.int .i64 c), (.int .i64 b)] := aC
    refine Ze (Yc (Zb (b5 _ _ ?_)))
    refine Zh fun iY eB => ?_
    refine Zc (Za rfl rfl (Zi aC.at_ agg129 sz129 rfl) (Zl rfl rfl ?_))
    have eC := ((((((((((A.ch0 C5).ch C8 (nS om)).ch au (nS om)).ch0 ac).ch ad (nS om)).ch ae (nS om)).ch af (nS om)).ch C (nS om)).ch0 bw).ch b6 (nS om)).ch b7 (nS om)
    refine Zk (off := 0) 4 eC sz129 rfl (us := [(.int .i64 e), (.int .i64 a), (.int .i64 c), (.int .i64 b)]) rfl rfl rfl rfl fun eD aD cS => ?_
    have gz := cS.size
    have E := E.step cS (lS om)
    replace aD : Blk eD B 129 [(.int .i64 e), (.int .i64 a), (.int .i64 c), (.int .i64 b)] := aD
    refine Ze (Zb (eB _ _ ?_))
    refine Zv ?_
    have eE := (R.ch b7 (oS om)).ch cS (oS om)
    exact Zj [_] (Zn aD rfl agg129 sz129 trivial) ⟨(⟨e, a, c, b⟩ : GEdge), (congrArg (fun zq => (Value.agg (GEdge.cs zq).toArray)) (Eq.refl (⟨e, a, c, b⟩ : GEdge))), eE, E⟩
   have dm := h
   have h := Yu h
   refine Zh fun iZ eF => ?_
   refine Zc (Za rfl rfl (Qg rfl rfl) (Za rfl rfl (Zf rfl) (Ze (Zb (eF _ _ ?_)))))
   refine Zz rfl (fun j => ?_) (fun j => ?_)
   ·have dn := j
    have j := Yt j
    refine Zc (Za rfl rfl (Zg rfl) (Zl rfl rfl ?_))
    refine Zq (cs := ics) (parts := [(0, .const (Go.Value.int Go.IntKind.i64 (-1))), (1, .const (Go.Value.int Go.IntKind.i64 5))]) (0 : Int) [(-1), 5] el22 sz3 zr3 Yx (by decide) rfl rfl rfl (by decide) (by decide) rfl fun bX i0 q r bz => ?_
    have gA := bz.size
    have E := E.trans bz.of_nil
    obtain ⟨a3, a4, rfl, a5, S⟩ := q.opn
    refine Zl rfl rfl ?_
    have eG := l.ch0 bz
    refine Step.call (Zm (xs := [.tmp 34, .tmp 35]) fk117 rfl) (Zx eG q (by decide) cR.heap.size om r) fun bY i1 T => ?_
    obtain ⟨f, rfl, U, V, b8⟩ := T
    have gB := b8.size
    have E := E.trans b8
    refine Za rfl rfl (Zd fa129_2 rfl) (Zl rfl rfl ?_)
    have eH := ((u.ch C (nS om)).ch0 bz).ch b8 (nS om)
    refine Zy (off := 2) eH sz3 rfl rfl rfl rfl fun eI aE b9 => ?_
    have gC := b9.size
    have E := E.step b9 (lS om)
    replace aE : Blk eI n 129 [(.int .i64 (1 + d)), (.int .i64 a), (.int .i64 f), (.int .i64 b)] := aE
    refine Ze (Yc (Zb (b5 _ _ ?_)))
    refine Zh fun i2 eJ => ?_
    refine Zc (Za rfl rfl (Zi aE.at_ agg129 sz129 rfl) (Zl rfl rfl ?_))
    have eK := ((((((((((A.ch0 C5).ch C8 (nS om)).ch au (nS om)).ch0 ac).ch ad (nS om)).ch ae (nS om)).ch af (nS om)).ch C (nS om)).ch0 bz).ch b8 (nS om)).ch b9 (nS om)
    refine Zk (off := 0) 4 eK sz129 rfl (us := [(.int .i64 (1 + d)), (.int .i64 a), (.int .i64 f), (.int .i64 b)]) rfl rfl rfl rfl fun eL aF cT => ?_
    have gD := cT.size
    have E := E.step cT (lS om)
    replace aF : Blk eL B 129 [(.int .i64 (1 + d)), (.int .i64 a), (.int .i64 f), (.int .i64 b)] := aF
    refine Ze (Zb (eJ _ _ ?_))
    refine Zv ?_
    have eM := (V.ch b9 (oS om)).ch cT (oS om)
    exact Zj [_] (Zn aF rfl agg129 sz129 trivial) ⟨(⟨(1 + d), a, f, b⟩ : GEdge), (congrArg (fun zq => (Value.agg (GEdge.cs zq).toArray)) (Eq.refl (⟨(1 + d), a, f, b⟩ : GEdge))), eM, E⟩
   have dn := j
   have j := Yu j
   refine Zh fun i3 eN => ?_
   refine Zc (Za rfl rfl (Qg rfl rfl) (Za rfl rfl (Zf rfl) (Ze (Zb (eN _ _ ?_)))))
   refine Zz rfl (fun k => ?_) (fun k => ?_)
   ·have dp := k
    have k := Yt k
    refine Zc (Za rfl rfl (Zg rfl) (Zl rfl rfl ?_))
    refine Zq (cs := ics) (parts := [(0, .const (Go.Value.int Go.IntKind.i64 (-1))), (1, .const (Go.Value.int Go.IntKind.i64 3))]) (0 : Int) [(-1), 3] el22 sz3 zr3 Yx (by decide) rfl rfl rfl (by decide) (by decide) rfl fun bZ i4 s t bA => ?_
    have gF := bA.size
    have E := E.trans bA.of_nil
    obtain ⟨a6, a7, rfl, a8, X⟩ := s.opn
    refine Zl rfl rfl ?_
    have eO := l.ch0 bA
    refine Step.call (Zm (xs := [.tmp 40, .tmp 41]) fk117 rfl) (Zx eO s (by decide) cR.heap.size om t) fun b0 i5 Y => ?_
    obtain ⟨g, rfl, Z, aa, ca⟩ := Y
    have gG := ca.size
    have E := E.trans ca
    refine Za rfl rfl (Zd fa129_3 rfl) (Zl rfl rfl ?_)
    have eP := ((u.ch C (nS om)).ch0 bA).ch ca (nS om)
    refine Zy (off := 3) eP sz3 rfl rfl rfl rfl fun eQ aG cb => ?_
    have gH := cb.size
    have E := E.step cb (lS om)
    replace aG : Blk eQ n 129 [(.int .i64 (1 + d)), (.int .i64 a), (.int .i64 c), (.int .i64 g)] := aG
    refine Ze (Yc (Zb (b5 _ _ ?_)))
    refine Zh fun i6 eR => ?_
    refine Zc (Za rfl rfl (Zi aG.at_ agg129 sz129 rfl) (Zl rfl rfl ?_))
    have eS := ((((((((((A.ch0 C5).ch C8 (nS om)).ch au (nS om)).ch0 ac).ch ad (nS om)).ch ae (nS om)).ch af (nS om)).ch C (nS om)).ch0 bA).ch ca (nS om)).ch cb (nS om)
    refine Zk (off := 0) 4 eS sz129 rfl (us := [(.int .i64 (1 + d)), (.int .i64 a), (.int .i64 c), (.int .i64 g)]) rfl rfl rfl rfl fun eT aH cU => ?_
    have gI := cU.size
    have E := E.step cU (lS om)
    replace aH : Blk eT B 129 [(.int .i64 (1 + d)), (.int .i64 a), (.int .i64 c), (.int .i64 g)] := aH
    refine Ze (Zb (eR _ _ ?_))
    refine Zv ?_
    have eU := (aa.ch cb (oS om)).ch cU (oS om)
    exact Zj [_] (Zn aH rfl agg129 sz129 trivial) ⟨(⟨(1 + d), a, c, g⟩ : GEdge), (congrArg (fun zq => (Value.agg (GEdge.cs zq).toArray)) (Eq.refl (⟨(1 + d), a, c, g⟩ : GEdge))), eU, E⟩
   have dp := k
   have k := Yu k
   refine Yf ?_
   refine Yc (Zb (b5 _ _ ?_))
   refine Zh fun i7 eV => ?_
   refine Zc ?_
   have eW := u.ch C (nS om)
   refine Za rfl rfl (Zi eW.at_ agg129 sz129 rfl) (Zl rfl rfl ?_)
   have eX := (((((((A.ch0 C5).ch C8 (nS om)).ch au (nS om)).ch0 ac).ch ad (nS om)).ch ae (nS om)).ch af (nS om)).ch C (nS om)
   refine Zk (off := 0) 4 eX sz129 rfl (us := [(.int .i64 (1 + d)), (.int .i64 a), (.int .i64 c), (.int .i64 b)]) rfl rfl rfl rfl fun eY aI cV => ?_
   have gJ := cV.size
   have E := E.step cV (lS om)
   replace aI : Blk eY B 129 [(.int .i64 (1 + d)), (.int .i64 a), (.int .i64 c), (.int .i64 b)] := aI
   refine Ze (Zb (eV _ _ ?_))
   refine Zv ?_
   have eZ := l.ch cV (oS om)
   exact Zj [_] (Zn aI rfl agg129 sz129 trivial) ⟨(⟨(1 + d), a, c, b⟩ : GEdge), (congrArg (fun zq => (Value.agg (GEdge.cs zq).toArray)) (Eq.refl (⟨(1 + d), a, c, b⟩ : GEdge))), eZ, E⟩
  refine Zr rfl rfl rfl ?_
  refine Yd zr129 fun n dq z ag dC => ?_
  have gK := ag.size
  have E := E.trans ag.of_nil
  have dD := z.lt
  replace z : Blk dq n 129 [(.int .i64 0), (.int .i64 0), (.int .i64 0), (.int .i64 0)] := z
  have bB : Ch [b_c] W5 dq := (cK.trans ag.of_nil)
  refine ⟨bB, ?_⟩
  refine dO 8 (Zr rfl rfl rfl ?_)
  have e0 := dB.ch0 ag
  refine Step.call (Zm (xs := [.tmp 9, .tmp 13]) fk95 rfl) (Zs e0 _ (by first | omega | (split <;> omega))) fun db e1 ba => ?_
  obtain ⟨a, rfl, bb, a9, ah⟩ := ba
  have gL := ah.size
  have E := E.trans ah
  have bC : Ch [b_c] W5 e1 := (bB.step ah (fun i hm => by have m := List.mem_singleton.1 hm; exact .inr (by rw [m]; exact (List.mem_singleton.2 rfl))))
  refine ⟨bC, ?_⟩
  refine dO 14 (Zr rfl rfl rfl ?_)
  refine Step.call (Zm (xs := [.tmp 15, .tmp 19]) fk95 rfl) (Zs a9 _ (by first | omega | (split <;> omega))) fun cL e2 av => ?_
  obtain ⟨c, rfl, aw, ab, ai⟩ := av
  have gM := ai.size
  have E := E.trans ai
  have bD : Ch [b_c] W5 e2 := (bC.step ai (fun i hm => by have m := List.mem_singleton.1 hm; exact .inr (by rw [m]; exact (List.mem_singleton.2 rfl))))
  refine ⟨bD, ?_⟩
  refine dO 16 (Zr rfl rfl rfl ?_)
  refine Step.call (Zm (xs := [.tmp 21, .const (Go.Value.int Go.IntKind.i64 3)]) fk95 rfl) (Zs ab _ (by first | omega | (split <;> omega))) fun bT e3 I => ?_
  obtain ⟨b, rfl, J, K, aj⟩ := I
  have gN := aj.size
  have E := E.trans aj
  have bF : Ch [b_c] W5 e3 := (bD.step aj (fun i hm => by have m := List.mem_singleton.1 hm; exact .inr (by rw [m]; exact (List.mem_singleton.2 rfl))))
  refine ⟨bF, ?_⟩
  refine dV 17 rfl rfl rfl (fun _ => Ys (parts := [(0, .tmp 8), (1, .tmp 14), (2, .tmp 20), (3, .tmp 22)]) (cells := [(.int .i64 (1 + d)), (.int .i64 a), (.int .i64 c), (.int .i64 b)]) zr129 pl129 rfl rfl) (dO 19 (Zr rfl rfl rfl ?_))
  have e4 := ((z.ch ah (nS om)).ch ai (nS om)).ch aj (nS om)
  refine Zk (off := 0) 4 e4 sz129 rfl (us := [(.int .i64 (1 + d)), (.int .i64 a), (.int .i64 c), (.int .i64 b)]) rfl rfl rfl rfl fun dr x ak => ?_
  have gO := ak.size
  have E := E.step ak (lS om)
  replace x : Blk dr n 129 [(.int .i64 (1 + d)), (.int .i64 a), (.int .i64 c), (.int .i64 b)] := x
  have cW : Ch [b_c] W5 dr := (bF.step ak (fun i hm => by have m := List.mem_singleton.1 hm; left; omega))
  refine ⟨cW, ?_⟩
  refine Zw (by kernel_rfl) ?_
  refine Zb (H4 _ _ ?_)
  refine Zh fun i8 cc => ?_
  refine Zh fun i9 e5 => ?_
  refine Zc (Za rfl rfl (Zg rfl) (Zl rfl rfl ?_))
  have e6 := K.ch ak (oS om)
  refine Step.call (Zm (xs := [.tmp 24, .const (Go.Value.int Go.IntKind.i64 16)]) fk95 rfl) (Zs e6 _ (by first | omega | (split <;> omega))) fun bU cX L => ?_
  obtain ⟨aZ, rfl, M, l, D⟩ := L
  have gP := D.size
  have E := E.trans D
  refine Ze (Zb (e5 _ _ ?_))
  refine Yn ?_
  refine Zh fun ja e7 => ?_
  refine Zc (Za rfl rfl (Qg rfl rfl) (Za rfl rfl (Zf rfl) (Ze (Zb (e7 _ _ ?_)))))
  refine Zz rfl (fun h => ?_) (fun h => ?_)
  ·have ds := h
   have h := Yt h
   refine Zc (Za rfl rfl (Zg rfl) (Zl rfl rfl ?_))
   refine Zq (cs := ics) (parts := [(0, .const (Go.Value.int Go.IntKind.i64 0)), (1, .const (Go.Value.int Go.IntKind.i64 99)), (2, .const (Go.Value.int Go.IntKind.i64 100))]) (0 : Int) [0, 99, 100] el22 sz3 zr3 Yx (by decide) rfl rfl rfl (by decide) (by decide) rfl fun bV jb o p bG => ?_
   have gQ := bG.size
   have E := E.trans bG.of_nil
   obtain ⟨a0, a1, rfl, a2, O⟩ := o.opn
   refine Zl rfl rfl ?_
   have e8 := l.ch0 bG
   refine Step.call (Zm (xs := [.tmp 28, .tmp 29]) fk117 rfl) (Zx e8 o (by decide) cX.heap.size om p) fun bW jc P => ?_
   obtain ⟨e, rfl, Q, R, cd⟩ := P
   have gR := cd.size
   have E := E.trans cd
   refine Za rfl rfl (Zd fa129_0 rfl) (Zl rfl rfl ?_)
   have e9 := ((x.ch D (nS om)).ch0 bG).ch cd (nS om)
   refine Zy (off := 0) e9 sz3 rfl rfl rfl rfl fun fa aJ ce => ?_
   have gS := ce.size
   have E := E.step ce (lS om)
   replace aJ : Blk fa n 129 [(.int .i64 e), (.int .i64 a), (.int .i64 c), (.int .i64 b)] := aJ
   refine Ze (Yc (Zb (cc _ _ ?_)))
   refine Zh fun jd fb => ?_
   refine Zc (Za rfl rfl (Zi aJ.at_ agg129 sz129 rfl) (Zl rfl rfl ?_))
   have fc := ((((((((((A.ch0 C5).ch C8 (nS om)).ch0 ag).ch ah (nS om)).ch ai (nS om)).ch aj (nS om)).ch ak (nS om)).ch D (nS om)).ch0 bG).ch cd (nS om)).ch ce (nS om)
   refine Zk (off := 0) 4 fc sz129 rfl (us := [(.int .i64 e), (.int .i64 a), (.int .i64 c), (.int .i64 b)]) rfl rfl rfl rfl fun fd aK cY => ?_
   have gT := cY.size
   have E := E.step cY (lS om)
   replace aK : Blk fd B 129 [(.int .i64 e), (.int .i64 a), (.int .i64 c), (.int .i64 b)] := aK
   refine Ze (Zb (fb _ _ ?_))
   refine Zv ?_
   have fe := (R.ch ce (oS om)).ch cY (oS om)
   exact Zj [_] (Zn aK rfl agg129 sz129 trivial) ⟨(⟨e, a, c, b⟩ : GEdge), (congrArg (fun zq => (Value.agg (GEdge.cs zq).toArray)) (Eq.refl (⟨e, a, c, b⟩ : GEdge))), fe, E⟩
  have ds := h
  have h := Yu h
  refine Zh fun je ff => ?_
  refine Zc (Za rfl rfl (Qg rfl rfl) (Za rfl rfl (Zf rfl) (Ze (Zb (ff _ _ ?_)))))
  refine Zz rfl (fun j => ?_) (fun j => ?_)
  ·have dt := j
   have j := Yt j
   refine Zc (Za rfl rfl (Zg rfl) (Zl rfl rfl ?_))
   refine Zq (cs := ics) (parts := [(0, .const (Go.Value.int Go.IntKind.i64 (-1))), (1, .const (Go.Value.int Go.IntKind.i64 5))]) (0 : Int) [(-1), 5] el22 sz3 zr3 Yx (by decide) rfl rfl rfl (by decide) (by decide) rfl fun bX jf q r bH => ?_
   have gU := bH.size
   have E := E.trans bH.of_nil
   obtain ⟨a3, a4, rfl, a5, S⟩ := q.opn
   refine Zl rfl rfl ?_
   have fg := l.ch0 bH
   refine Step.call (Zm (xs := [.tmp 34, .tmp 35]) fk117 rfl) (Zx fg q (by decide) cX.heap.size om r) fun bY jg T => ?_
   obtain ⟨f, rfl, U, V, cf⟩ := T
   have gW := cf.size
   have E := E.trans cf
   refine Za rfl rfl (Zd fa129_2 rfl) (Zl rfl rfl ?_)
   have fh := ((x.ch D (nS om)).ch0 bH).ch cf (nS om)
   refine Zy (off := 2) fh sz3 rfl rfl rfl rfl fun fi aL cg => ?_
   have gX := cg.size
   have E := E.step cg (lS om)
   replace aL : Blk fi n 129 [(.int .i64 (1 + d)), (.int .i64 a), (.int .i64 f), (.int .i64 b)] := aL
   refine Ze (Yc (Zb (cc _ _ ?_)))
   refine Zh fun jh fj => ?_
   refine Zc (Za rfl rfl (Zi aL.at_ agg129 sz129 rfl) (Zl rfl rfl ?_))
   have fk := ((((((((((A.ch0 C5).ch C8 (nS om)).ch0 ag).ch ah (nS om)).ch ai (nS om)).ch aj (nS om)).ch ak (nS om)).ch D (nS om)).ch0 bH).ch cf (nS om)).ch cg (nS om)
   refine Zk (off := 0) 4 fk sz129 rfl (us := [(.int .i64 (1 + d)), (.int .i64 a), (.int .i64 f), (.int .i64 b)]) rfl rfl rfl rfl fun fl aM cZ => ?_
   have gY := cZ.size
   have E := E.step cZ (lS om)
   replace aM : Blk fl B 129 [(.int .i64 (1 + d)), (.int .i64 a), (.int .i64 f), (.int .i64 b)] := aM
   refine Ze (Zb (fj _ _ ?_))
   refine Zv ?_
   have fm := (V.ch cg (oS om)).ch cZ (oS om)
   exact Zj [_] (Zn aM rfl agg129 sz129 trivial) ⟨(⟨(1 + d), a, f, b⟩ : GEdge), (congrArg (fun zq => (Value.agg (GEdge.cs zq).toArray)) (Eq.refl (⟨(1 + d), a, f, b⟩ : GEdge))), fm, E⟩
  have dt := j
  have j := Yu j
  refine Zh fun ji fn => ?_
  refine Zc (Za rfl rfl (Qg rfl rfl) (Za rfl rfl (Zf rfl) (Ze (Zb (fn _ _ ?_)))))
  refine Zz rfl (fun k => ?_) (fun k => ?_)
  ·have du := k
   have k := Yt k
   refine Zc (Za rfl rfl (Zg rfl) (Zl rfl rfl ?_))
   refine Zq (cs := ics) (parts := [(0, .const (Go.Value.int Go.IntKind.i64 (-1))), (1, .const (Go.Value.int Go.IntKind.i64 3))]) (0 : Int) [(-1), 3] el22 sz3 zr3 Yx (by decide) rfl rfl rfl (by decide) (by decide) rfl fun bZ jj s t bI => ?_
   have gZ := bI.size
   have E := E.trans bI.of_nil
   obtain ⟨a6, a7, rfl, a8, X⟩ := s.opn
   refine Zl rfl rfl ?_
   have fo := l.ch0 bI
   refine Step.call (Zm (xs := [.tmp 40, .tmp 41]) fk117 rfl) (Zx fo s (by decide) cX.heap.size om t) fun b0 jk Y => ?_
   obtain ⟨g, rfl, Z, aa, ci⟩ := Y
   have g0 := ci.size
   have E := E.trans ci
   refine Za rfl rfl (Zd fa129_3 rfl) (Zl rfl rfl ?_)
   have fp := ((x.ch D (nS om)).ch0 bI).ch ci (nS om)
   refine Zy (off := 3) fp sz3 rfl rfl rfl rfl fun fq aN cj => ?_
   have g1 := cj.size
   have E := E.step cj (lS om)
   replace aN : Blk fq n 129 [(.int .i64 (1 + d)), (.int .i64 a), (.int .i64 c), (.int .i64 g)] := aN
   refine Ze (Yc (Zb (cc _ _ ?_)))
   refine Zh fun jl fr => ?_
   refine Zc (Za rfl rfl (Zi aN.at_ agg129 sz129 rfl) (Zl rfl rfl ?_))
   have fs := ((((((((((A.ch0 C5).ch C8 (nS om)).ch0 ag).ch ah (nS om)).ch ai (nS om)).ch aj (nS om)).ch ak (nS om)).ch D (nS om)).ch0 bI).ch ci (nS om)).ch cj (nS om)
   refine Zk (off := 0) 4 fs sz129 rfl (us := [(.int .i64 (1 + d)), (.int .i64 a), (.int .i64 c), (.int .i64 g)]) rfl rfl rfl rfl fun ft aO c0 => ?_
   have g2 := c0.size
   have E := E.step c0 (lS om)
   replace aO : Blk ft B 129 [(.int .i64 (1 + d)), (.int .i64 a), (.int .i64 c), (.int .i64 g)] := aO
   refine Ze (Zb (fr _ _ ?_))
   refine Zv ?_
   have fu := (aa.ch cj (oS om)).ch c0 (oS om)
   exact Zj [_] (Zn aO rfl agg129 sz129 trivial) ⟨(⟨(1 + d), a, c, g⟩ : GEdge), (congrArg (fun zq => (Value.agg (GEdge.cs zq).toArray)) (Eq.refl (⟨(1 + d), a, c, g⟩ : GEdge))), fu, E⟩
  have du := k
  have k := Yu k
  refine Yf ?_
  refine Yc (Zb (cc _ _ ?_))
  refine Zh fun jm fv => ?_
  refine Zc ?_
  have fw := x.ch D (nS om)
  refine Za rfl rfl (Zi fw.at_ agg129 sz129 rfl) (Zl rfl rfl ?_)
  have fx := (((((((A.ch0 C5).ch C8 (nS om)).ch0 ag).ch ah (nS om)).ch ai (nS om)).ch aj (nS om)).ch ak (nS om)).ch D (nS om)
  refine Zk (off := 0) 4 fx sz129 rfl (us := [(.int .i64 (1 + d)), (.int .i64 a), (.int .i64 c), (.int .i64 b)]) rfl rfl rfl rfl fun fy aP c1 => ?_
  have g3 := c1.size
  have E := E.step c1 (lS om)
  replace aP : Blk fy B 129 [(.int .i64 (1 + d)), (.int .i64 a), (.int .i64 c), (.int .i64 b)] := aP
  refine Ze (Zb (fv _ _ ?_))
  refine Zv ?_
  have fz := l.ch c1 (oS om)
  exact Zj [_] (Zn aP rfl agg129 sz129 trivial) ⟨(⟨(1 + d), a, c, b⟩ : GEdge), (congrArg (fun zq => (Value.agg (GEdge.cs zq).toArray)) (Eq.refl (⟨(1 + d), a, c, b⟩ : GEdge))), fz, E⟩
 refine Zr rfl rfl rfl ?_
 refine Yd zr129 fun n dv z al dC => ?_
 have g4 := al.size
 have E := E.trans al.of_nil
 have dD := z.lt
 replace z : Blk dv n 129 [(.int .i64 0), (.int .i64 0), (.int .i64 0), (.int .i64 0)] := z
 have bJ : Ch [b_c] W5 dv := ((Ch.refl _ _).trans al.of_nil)
 refine ⟨bJ, ?_⟩
 refine dO 1 (Zr rfl rfl rfl ?_)
 have fA := (((cH.ch0 C2).ch0 C3).ch0 C5).ch0 al
 refine Step.call (Zm (xs := [.tmp 6, .const (Go.Value.int Go.IntKind.i64 40)]) fk95 rfl) (Zs fA _ (by first | omega | (split <;> omega))) fun hs fB dQ => ?_
 obtain ⟨d, rfl, da, dB, am⟩ := dQ
 have g5 := am.size
 have E := E.trans am
 have bK : Ch [b_c] W5 fB := (bJ.step am (fun i hm => by have m := List.mem_singleton.1 hm; exact .inr (by rw [m]; exact (List.mem_singleton.2 rfl))))
 refine ⟨bK, ?_⟩
 refine dV 2 rfl rfl rfl (fun _ => Xc om rfl rfl) (dO 8 (Zr rfl rfl rfl ?_))
 refine Step.call (Zm (xs := [.tmp 9, .tmp 13]) fk95 rfl) (Zs dB _ (by first | omega | (split <;> omega))) fun db fC ba => ?_
 obtain ⟨a, rfl, bb, a9, an⟩ := ba
 have g6 := an.size
 have E := E.trans an
 have bL : Ch [b_c] W5 fC := (bK.step an (fun i hm => by have m := List.mem_singleton.1 hm; exact .inr (by rw [m]; exact (List.mem_singleton.2 rfl))))
 refine ⟨bL, ?_⟩
 refine dO 14 (Zr rfl rfl rfl ?_)
 refine Step.call (Zm (xs := [.tmp 15, .tmp 19]) fk95 rfl) (Zs a9 _ (by first | omega | (split <;> omega))) fun cL fD av => ?_
 obtain ⟨c, rfl, aw, ab, ao⟩ := av
 have g7 := ao.size
 have E := E.trans ao
 have bM : Ch [b_c] W5 fD := (bL.step ao (fun i hm => by have m := List.mem_singleton.1 hm; exact .inr (by rw [m]; exact (List.mem_singleton.2 rfl))))
 refine ⟨bM, ?_⟩
 refine dO 16 (Zr rfl rfl rfl ?_)
 refine Step.call (Zm (xs := [.tmp 21, .const (Go.Value.int Go.IntKind.i64 3)]) fk95 rfl) (Zs ab _ (by first | omega | (split <;> omega))) fun bT fE I => ?_
 obtain ⟨b, rfl, J, K, ap⟩ := I
 have g8 := ap.size
 have E := E.trans ap
 have bN : Ch [b_c] W5 fE := (bM.step ap (fun i hm => by have m := List.mem_singleton.1 hm; exact .inr (by rw [m]; exact (List.mem_singleton.2 rfl))))
 refine ⟨bN, ?_⟩
 refine dV 17 rfl rfl rfl (fun _ => Ys (parts := [(0, .tmp 8), (1, .tmp 14), (2, .tmp 20), (3, .tmp 22)]) (cells := [(.int .i64 (1 + d)), (.int .i64 a), (.int .i64 c), (.int .i64 b)]) zr129 pl129 rfl rfl) (dO 19 (Zr rfl rfl rfl ?_))
 have fF := (((z.ch am (nS om)).ch an (nS om)).ch ao (nS om)).ch ap (nS om)
 refine Zk (off := 0) 4 fF sz129 rfl (us := [(.int .i64 (1 + d)), (.int .i64 a), (.int .i64 c), (.int .i64 b)]) rfl rfl rfl rfl fun dw y aq => ?_
 have g9 := aq.size
 have E := E.step aq (lS om)
 replace y : Blk dw n 129 [(.int .i64 (1 + d)), (.int .i64 a), (.int .i64 c), (.int .i64 b)] := y
 have c2 : Ch [b_c] W5 dw := (bN.step aq (fun i hm => by have m := List.mem_singleton.1 hm; left; omega))
 refine ⟨c2, ?_⟩
 refine Zw (by kernel_rfl) ?_
 refine Zb (H4 _ _ ?_)
 refine Zh fun jn ck => ?_
 refine Zh fun jo fG => ?_
 refine Zc (Za rfl rfl (Zg rfl) (Zl rfl rfl ?_))
 have fH := K.ch aq (oS om)
 refine Step.call (Zm (xs := [.tmp 24, .const (Go.Value.int Go.IntKind.i64 16)]) fk95 rfl) (Zs fH _ (by first | omega | (split <;> omega))) fun bU c3 L => ?_
 obtain ⟨aZ, rfl, M, l, F⟩ := L
 have ha := F.size
 have E := E.trans F
 refine Ze (Zb (fG _ _ ?_))
 refine Yn ?_
 refine Zh fun jp fI => ?_
 refine Zc (Za rfl rfl (Qg rfl rfl) (Za rfl rfl (Zf rfl) (Ze (Zb (fI _ _ ?_)))))
 refine Zz rfl (fun h => ?_) (fun h => ?_)
 ·have dx := h
  have h := Yt h
  refine Zc (Za rfl rfl (Zg rfl) (Zl rfl rfl ?_))
  refine Zq (cs := ics) (parts := [(0, .const (Go.Value.int Go.IntKind.i64 0)), (1, .const (Go.Value.int Go.IntKind.i64 99)), (2, .const (Go.Value.int Go.IntKind.i64 100))]) (0 : Int) [0, 99, 100] el22 sz3 zr3 Yx (by decide) rfl rfl rfl (by decide) (by decide) rfl fun bV jq o p bO => ?_
  have hb := bO.size
  have E := E.trans bO.of_nil
  obtain ⟨a0, a1, rfl, a2, O⟩ := o.opn
  refine Zl rfl rfl ?_
  have fJ := l.ch0 bO
  refine Step.call (Zm (xs := [.tmp 28, .tmp 29]) fk117 rfl) (Zx fJ o (by decide) c3.heap.size om p) fun bW jr P => ?_
  obtain ⟨e, rfl, Q, R, cl⟩ := P
  have hc := cl.size
  have E := E.trans cl
  refine Za rfl rfl (Zd fa129_0 rfl) (Zl rfl rfl ?_)
  have fK := ((y.ch F (nS om)).ch0 bO).ch cl (nS om)
  refine Zy (off := 0) fK sz3 rfl rfl rfl rfl fun fL aQ cm => ?_
  have hd := cm.size
  have E := E.step cm (lS om)
  replace aQ : Blk fL n 129 [(.int .i64 e), (.int .i64 a), (.int .i64 c), (.int .i64 b)] := aQ
  refine Ze (Yc (Zb (ck _ _ ?_)))
  refine Zh fun js fM => ?_
  refine Zc (Za rfl rfl (Zi aQ.at_ agg129 sz129 rfl) (Zl rfl rfl ?_))
  have fN := ((((((((((A.ch0 C5).ch0 al).ch am (nS om)).ch an (nS om)).ch ao (nS om)).ch ap (nS om)).ch aq (nS om)).ch F (nS om)).ch0 bO).ch cl (nS om)).ch cm (nS om)
  refine Zk (off := 0) 4 fN sz129 rfl (us := [(.int .i64 e), (.int .i64 a), (.int .i64 c), (.int .i64 b)]) rfl rfl rfl rfl fun fO aR c4 => ?_
  have he := c4.size
  have E := E.step c4 (lS om)
  replace aR : Blk fO B 129 [(.int .i64 e), (.int .i64 a), (.int .i64 c), (.int .i64 b)] := aR
  refine Ze (Zb (fM _ _ ?_))
  refine Zv ?_
  have fP := (R.ch cm (oS om)).ch c4 (oS om)
  exact Zj [_] (Zn aR rfl agg129 sz129 trivial) ⟨(⟨e, a, c, b⟩ : GEdge), (congrArg (fun zq => (Value.agg (GEdge.cs zq).toArray)) (Eq.refl (⟨e, a, c, b⟩ : GEdge))), fP, E⟩
 have dx := h
 have h := Yu h
 refine Zh fun jt fQ => ?_
 refine Zc (Za rfl rfl (Qg rfl rfl) (Za rfl rfl (Zf rfl) (Ze (Zb (fQ _ _ ?_)))))
 refine Zz rfl (fun j => ?_) (fun j => ?_)
 ·have dy := j
  have j := Yt j
  refine Zc (Za rfl rfl (Zg rfl) (Zl rfl rfl ?_))
  refine Zq (cs := ics) (parts := [(0, .const (Go.Value.int Go.IntKind.i64 (-1))), (1, .const (Go.Value.int Go.IntKind.i64 5))]) (0 : Int) [(-1), 5] el22 sz3 zr3 Yx (by decide) rfl rfl rfl (by decide) (by decide) rfl fun bX ju q r bP => ?_
  have hf := bP.size
  have E := E.trans bP.of_nil
  obtain ⟨a3, a4, rfl, a5, S⟩ := q.opn
  refine Zl rfl rfl ?_
  have fR := l.ch0 bP
  refine Step.call (Zm (xs := [.tmp 34, .tmp 35]) fk117 rfl) (Zx fR q (by decide) c3.heap.size om r) fun bY jv T => ?_
  obtain ⟨f, rfl, U, V, cn⟩ := T
  have hg := cn.size
  have E := E.trans cn
  refine Za rfl rfl (Zd fa129_2 rfl) (Zl rfl rfl ?_)
  have fS := ((y.ch F (nS om)).ch0 bP).ch cn (nS om)
  refine Zy (off := 2) fS sz3 rfl rfl rfl rfl fun fT aS co => ?_
  have hh := co.size
  have E := E.step co (lS om)
  replace aS : Blk fT n 129 [(.int .i64 (1 + d)), (.int .i64 a), (.int .i64 f), (.int .i64 b)] := aS
  refine Ze (Yc (Zb (ck _ _ ?_)))
  refine Zh fun jw fU => ?_
  refine Zc (Za rfl rfl (Zi aS.at_ agg129 sz129 rfl) (Zl rfl rfl ?_))
  have fV := ((((((((((A.ch0 C5).ch0 al).ch am (nS om)).ch an (nS om)).ch ao (nS om)).ch ap (nS om)).ch aq (nS om)).ch F (nS om)).ch0 bP).ch cn (nS om)).ch co (nS om)
  refine Zk (off := 0) 4 fV sz129 rfl (us := [(.int .i64 (1 + d)), (.int .i64 a), (.int .i64 f), (.int .i64 b)]) rfl rfl rfl rfl fun fW aT c5 => ?_
  have hi := c5.size
  have E := E.step c5 (lS om)
  replace aT : Blk fW B 129 [(.int .i64 (1 + d)), (.int .i64 a), (.int .i64 f), (.int .i64 b)] := aT
  refine Ze (Zb (fU _ _ ?_))
  refine Zv ?_
  have fX := (V.ch co (oS om)).ch c5 (oS om)
  exact Zj [_] (Zn aT rfl agg129 sz129 trivial) ⟨(⟨(1 + d), a, f, b⟩ : GEdge), (congrArg (fun zq => (Value.agg (GEdge.cs zq).toArray)) (Eq.refl (⟨(1 + d), a, f, b⟩ : GEdge))), fX, E⟩
 have dy := j
 have j := Yu j
 refine Zh fun jx fY => ?_
 refine Zc (Za rfl rfl (Qg rfl rfl) (Za rfl rfl (Zf rfl) (Ze (Zb (fY _ _ ?_)))))
 refine Zz rfl (fun k => ?_) (fun k => ?_)
 ·have dz := k
  have k := Yt k
  refine Zc (Za rfl rfl (Zg rfl) (Zl rfl rfl ?_))
  refine Zq (cs := ics) (parts := [(0, .const (Go.Value.int Go.IntKind.i64 (-1))), (1, .const (Go.Value.int Go.IntKind.i64 3))]) (0 : Int) [(-1), 3] el22 sz3 zr3 Yx (by decide) rfl rfl rfl (by decide) (by decide) rfl fun bZ jy s t bQ => ?_
  have hj := bQ.size
  have E := E.trans bQ.of_nil
  obtain ⟨a6, a7, rfl, a8, X⟩ := s.opn
  refine Zl rfl rfl ?_
  have fZ := l.ch0 bQ
  refine Step.call (Zm (xs := [.tmp 40, .tmp 41]) fk117 rfl) (Zx fZ s (by decide) c3.heap.size om t) fun b0 jz Y => ?_
  obtain ⟨g, rfl, Z, aa, cp⟩ := Y
  have hk := cp.size
  have E := E.trans cp
  refine Za rfl rfl (Zd fa129_3 rfl) (Zl rfl rfl ?_)
  have f0 := ((y.ch F (nS om)).ch0 bQ).ch cp (nS om)
  refine Zy (off := 3) f0 sz3 rfl rfl rfl rfl fun f1 aU cq => ?_
  have hl := cq.size
  have E := E.step cq (lS om)
  replace aU : Blk f1 n 129 [(.int .i64 (1 + d)), (.int .i64 a), (.int .i64 c), (.int .i64 g)] := aU
  refine Ze (Yc (Zb (ck _ _ ?_)))
  refine Zh fun jA f2 => ?_
  refine Zc (Za rfl rfl (Zi aU.at_ agg129 sz129 rfl) (Zl rfl rfl ?_))
  have f3 := ((((((((((A.ch0 C5).ch0 al).ch am (nS om)).ch an (nS om)).ch ao (nS om)).ch ap (nS om)).ch aq (nS om)).ch F (nS om)).ch0 bQ).ch cp (nS om)).ch cq (nS om)
  refine Zk (off := 0) 4 f3 sz129 rfl (us := [(.int .i64 (1 + d)), (.int .i64 a), (.int .i64 c), (.int .i64 g)]) rfl rfl rfl rfl fun f4 aV c6 => ?_
  have hn := c6.size
  have E := E.step c6 (lS om)
  replace aV : Blk f4 B 129 [(.int .i64 (1 + d)), (.int .i64 a), (.int .i64 c), (.int .i64 g)] := aV
  refine Ze (Zb (f2 _ _ ?_))
  refine Zv ?_
  have f5 := (aa.ch cq (oS om)).ch c6 (oS om)
  exact Zj [_] (Zn aV rfl agg129 sz129 trivial) ⟨(⟨(1 + d), a, c, g⟩ : GEdge), (congrArg (fun zq => (Value.agg (GEdge.cs zq).toArray)) (Eq.refl (⟨(1 + d), a, c, g⟩ : GEdge))), f5, E⟩
 have dz := k
 have k := Yu k
 refine Yf ?_
 refine Yc (Zb (ck _ _ ?_))
 refine Zh fun jB f6 => ?_
 refine Zc ?_
 have f7 := y.ch F (nS om)
 refine Za rfl rfl (Zi f7.at_ agg129 sz129 rfl) (Zl rfl rfl ?_)
 have f8 := (((((((A.ch0 C5).ch0 al).ch am (nS om)).ch an (nS om)).ch ao (nS om)).ch ap (nS om)).ch aq (nS om)).ch F (nS om)
 refine Zk (off := 0) 4 f8 sz129 rfl (us := [(.int .i64 (1 + d)), (.int .i64 a), (.int .i64 c), (.int .i64 b)]) rfl rfl rfl rfl fun f9 aW c7 => ?_
 have ho := c7.size
 have E := E.step c7 (lS om)
 replace aW : Blk f9 B 129 [(.int .i64 (1 + d)), (.int .i64 a), (.int .i64 c), (.int .i64 b)] := aW
 refine Ze (Zb (f6 _ _ ?_))
 refine Zv ?_
 have ga := l.ch c7 (oS om)
 exact Zj [_] (Zn aW rfl agg129 sz129 trivial) ⟨(⟨(1 + d), a, c, b⟩ : GEdge), (congrArg (fun zq => (Value.agg (GEdge.cs zq).toArray)) (Eq.refl (⟨(1 + d), a, c, b⟩ : GEdge))), ga, E⟩

/-- spec.l6Batch -/
theorem Qd {w : World} {b_c : Nat} (c9 : Cu w b_c) {LL_gV da : Nat} {b9 : Value} {gV : List Int} (ba : Ls ics 1 w LL_gV da b9 gV) {LL_gE db : Nat} {ca : Value} {gE : List GEdge} (bb : Ls GEdge.cs 4 w LL_gE db ca gE) (n : Int) (hq : b_c < LL_gV ∧ b_c < LL_gE) (hb : gV.length ≤ 1000 ∧ gE.length ≤ 1000) (hn : 0 ≤ n ∧ n ≤ 6) :
 Ctr Try.prog 83 #[(.pointer (some ⟨b_c, 0, none⟩)), (.agg #[b9, ca]), (.int .i64 n)] w (fun v w' => ∃ (fB : List Chg) (bO : Value), v = .agg #[bO] ∧ Ol Chg.cs 142 5 w' bO (fB) ∧ Lo w.heap.size bO ∧ ((fB.length : Int) ≤ n) ∧ Cu w' b_c ∧ Ch [b_c] w w') := by
 have fC := c9.lt
 obtain ⟨cb, cc, cw⟩ := ba.val
 subst cw
 have fD := ba.len
 have ba := ba.here (by decide)
 obtain ⟨cd, ce, cx⟩ := bb.val
 subst cx
 have fE := bb.len
 have bb := bb.here (by decide)
 have E := Ch.refl [b_c] w
 refine Yj (N := 90) (vs0 := [(.pointer (some ⟨b_c, 0, none⟩)), (.agg #[(.slice cb gV.length cc), (.slice cd gE.length ce)]), (.int .i64 n)]) Try.func83 rfl rfl rfl ?_
 refine Zh fun K1 H1 => ?_
 refine Zc (Zl rfl rfl ?_)
 refine Xm rfl fun f0 W2 dL C2 hJ => ?_
 have hK := C2.size
 have E := E.trans C2.of_nil
 have hL := dL.lt
 replace dL : Blk W2 f0 36 [(.slice cb gV.length cc), (.slice cd gE.length ce)] := dL
 refine Zl rfl rfl ?_
 refine Yd zr63 fun bz W3 dM C3 hM => ?_
 have hN := C3.size
 have E := E.trans C3.of_nil
 have hO := dM.lt
 replace dM : Blk W3 bz 63 [(.slice none 0 0)] := dM
 refine Ze (Zb (H1 _ _ ?_))
 refine Zh fun K4 H4 => ?_
 refine Zc (Za rfl rfl (Ys (parts := []) (cells := [(.slice none 0 0)]) zr63 pl63 rfl rfl) (Zl rfl rfl ?_))
 refine Yd zr63 fun bg W5 dN C5 hP => ?_
 have hQ := C5.size
 have E := E.trans C5.of_nil
 have hR := dN.lt
 replace dN : Blk W5 bg 63 [(.slice none 0 0)] := dN
 refine Zl rfl rfl ?_
 refine Zk (off := 0) 1 dN sz63 rfl (us := [(.slice none 0 0)]) rfl rfl rfl rfl fun W6 cy C6 => ?_
 have hS := C6.size
 have E := E.step C6 (lS om)
 replace cy : Blk W6 bg 63 [(.slice none 0 0)] := cy
 refine Ze (Zb (H4 _ _ ?_))
 refine Zh fun K8 H8 => ?_
 refine Zc ?_
 have F9 := ((dL.ch0 C3).ch0 C5).ch C6 (nS om)
 refine Za rfl rfl (Zi F9.at_ agg36 sz36 rfl) (Zl rfl rfl ?_)
 have f1 := (((ba.ch0 C2).ch0 C3).ch0 C5).ch C6 (oS om)
 have f2 := (((bb.ch0 C2).ch0 C3).ch0 C5).ch C6 (oS om)
 refine Step.call (Zm (xs := [.tmp 15]) fk92 rfl) (Yz f1 f2 om) fun f3 hT d5 => ?_
 obtain ⟨dP, dQ, rfl, aA, P, aB, Q, X, dc⟩ := d5
 have f4 := dc.size
 have E := E.trans dc.of_nil
 obtain ⟨am, an, rfl, dd, aa⟩ := aA.opn
 obtain ⟨ao, ap, rfl, de, ab⟩ := aB.opn
 refine Zl rfl rfl ?_
 refine Yd zr36 fun bc f5 dR cz hU => ?_
 have f6 := cz.size
 have E := E.trans cz.of_nil
 have hV := dR.lt
 replace dR : Blk f5 bc 36 [(.slice none 0 0), (.slice none 0 0)] := dR
 refine Zl rfl rfl ?_
 refine Zk (off := 0) 2 dR sz36 rfl (us := [(.slice am (gV).length an), (.slice ao (gE).length ap)]) rfl rfl rfl rfl fun f7 bP cA => ?_
 have f8 := cA.size
 have E := E.step cA (lS om)
 replace bP : Blk f7 bc 36 [(.slice am (gV).length an), (.slice ao (gE).length ap)] := bP
 refine Ze (Zb (H8 _ _ ?_))
 refine Zh fun hW f9 => ?_
 refine Zh fun hX ga => ?_
 refine Zc (Za rfl rfl (Zg rfl) (Za rfl rfl (Zg rfl) (Za rfl rfl (Xc om rfl rfl) (Zl rfl rfl ?_))))
 have gb := ((((((c9.ch0 C2).ch0 C3).ch0 C5).ch C6 (oS om)).ch0 dc).ch0 cz).ch cA (oS om)
 refine Step.call (Zm (xs := [.tmp 17, .tmp 19]) fk95 rfl) (Zs gb _ om) fun gc c8 d6 => ?_
 obtain ⟨df, rfl, d7, d8, cB⟩ := d6
 have gd := cB.size
 have E := E.trans cB
 refine Za rfl rfl (Zf rfl) (Ze (Zb (ga _ _ ?_)))
 refine Yn ?_
 have cC : Ol Chg.cs 142 5 c8 (.slice none 0 0) (([] : List Chg)) := by
  have hx := Ol.nil (cs := Chg.cs) (e := 142) (k := 5) c8
  first | exact hx | simpa using hx
 have ge := ((aA.ch0 cz).ch cA (dS P aa om)).ch cB (dS P aa om)
 have cD : Ol ics 3 1 c8 (.slice am (gV).length an) (gV) := by
  have hx := ge
  first | exact hx | simpa using hx
 have gf := ((aB.ch0 cz).ch cA (dS Q ab om)).ch cB (dS Q ab om)
 have cE : Ol GEdge.cs 129 4 c8 (.slice ao (gE).length ap) (gE) := by
  have hx := gf
  first | exact hx | simpa using hx
 have gg := (((cy.ch0 dc).ch0 cz).ch cA (nS om)).ch cB (nS om)
 have gh := bP.ch cB (nS om)
 have gi := (((((dM.ch0 C5).ch C6 (nS om)).ch0 dc).ch0 cz).ch cA (nS om)).ch cB (nS om)
 refine Ql (σ := Int × List GEdge × List Chg × Value × Value × Value) (fun ⟨m, F, C, cv, vv, ev⟩ => [(0, (.pointer (some ⟨b_c, 0, none⟩))), (6, (.pointer (some ⟨bz, 0, none⟩))), (7, (.pointer (some ⟨bg, 0, none⟩))), (8, (.pointer (some ⟨bc, 0, none⟩))), (9, (.int .i64 m))]) (fun ⟨m, F, C, cv, vv, ev⟩ wx => Ch [b_c] w wx ∧ c8.heap.size ≤ wx.heap.size ∧ (0 ≤ m ∧ m ≤ n ∧ (F.length : Int) + m ≤ gE.length + n ∧ (C.length : Int) + m ≤ n) ∧ Cu wx b_c ∧ Blk wx bz 63 [(.slice none 0 0)] ∧ Ol Chg.cs 142 5 wx cv C ∧ Lo c8.heap.size cv ∧ Ol ics 3 1 wx vv gV ∧ Lo W6.heap.size vv ∧ Ol GEdge.cs 129 4 wx ev F ∧ Lo W6.heap.size ev ∧ Blk wx bg 63 [cv] ∧ Blk wx bc 36 [vv, ev] ∧ (bg ∉ bl cv) ∧ (∀ g ∈ bl vv, g ∉ bl cv) ∧ (bc ∉ bl vv) ∧ (∀ g ∈ bl ev, g ∉ bl cv) ∧ (∀ g ∈ bl ev, g ∉ bl vv) ∧ (bc ∉ bl ev)) (fun ⟨m, F, C, cv, vv, ev⟩ => m.toNat) (df, gE, ([] : List Chg), (.slice none 0 0), (.slice am (gV).length an), (.slice ao (gE).length ap)) (sC4 rfl rfl rfl rfl (sC1 rfl (Sub.nil _))) ⟨E, (Nat.le_refl _), ⟨by omega, by omega, by omega, by simp; omega⟩, d8, gi, cC, (Lo.nil _), cD, P, cE, Q, gg, gh, (fun hm => by cases hm), (fun g hm hg => by cases hg), (fun hm => by have a8 := P _ hm; have bA := aa _ hm; omega), (fun g hm hg => by cases hg), (fun g hm hg => by exact X _ hg hm), (fun hm => by have a8 := Q _ hm; have bA := ab _ hm; omega)⟩ ?_
 rintro ⟨m, F, C, cv, vv, ev⟩ hY ⟨E, gj, hm, cf, bB, bC, p, bD, B, a1, s, bQ, cg, a2, bi, cF, bj, bk, bR⟩
 have d9 := E
 have fF := d9.size
 have eb := bB.lt
 obtain ⟨Acv, Ccv, rfl, lcv, hicv⟩ := bC.opn
 obtain ⟨Avv, Cvv, rfl, lvv, R⟩ := bD.opn
 obtain ⟨Aev, Cev, rfl, lev, hiev⟩ := a1.opn
 refine Zh fun hZ gk => ?_
 refine Zh fun h0 gl => ?_
 refine Zc (Za rfl rfl (Zg rfl) (Za rfl rfl (Zcj rfl rfl) (Ze (Zb (gl _ _ ?_)))))
 refine Zz rfl (fun bm => ?_) (fun bm => ?_)
 ·have ec := bm
  have bm := Yt bm
  refine Yf ?_
  refine Zb (gk _ _ ?_)
  refine Zh fun h1 fG => ?_
  refine Yn ?_
  refine Zh fun h2 gm => ?_
  refine Zc (Za rfl rfl (Zg rfl) (Za rfl rfl (Zi cg.at_ agg36 sz36 rfl) (Zl rfl rfl ?_)))
  refine Step.call (Zm (xs := [.tmp 25, .tmp 26]) fk119 rfl) (Zfy cf (Ol.lsR bD (lo := _) (hi := _) B R) (Ol.lsR a1 (lo := _) (hi := _) s hiev) om) fun gn h3 ed => ?_
  obtain ⟨D, rfl, dg, bH⟩ := ed
  have gp := bH.size
  have E := E.trans bH
  refine Za rfl rfl (Ys (parts := [(0, .const (Go.Value.bool true)), (1, .tmp 27)]) (cells := [(.bool true), (.int .i64 D.id), (.int .i64 D.f), (.int .i64 D.t), (.int .i64 D.label)]) zr142 pl142 rfl rfl) (Zl rfl rfl ?_)
  refine Yd zr142 fun S gq b0 bn gr => ?_
  have gs := bn.size
  have E := E.trans bn.of_nil
  have gt := b0.lt
  replace b0 : Blk gq S 142 [(.bool false), (.int .i64 0), (.int .i64 0), (.int .i64 0), (.int .i64 0)] := b0
  refine Zl rfl rfl ?_
  refine Zk (off := 0) 5 b0 sz142 rfl (us := [(.bool true), (.int .i64 D.id), (.int .i64 D.f), (.int .i64 D.t), (.int .i64 D.label)]) rfl rfl rfl rfl fun ee bF bp => ?_
  have gu := bp.size
  have E := E.step bp (lS om)
  replace bF : Blk ee S 142 [(.bool true), (.int .i64 D.id), (.int .i64 D.f), (.int .i64 D.t), (.int .i64 D.label)] := bF
  refine Ze (Zb (gm _ _ ?_))
  refine Zh fun gv gw => ?_
  have ci : ∀ (lj : KL) (H : World) (a : Bool) (b : Int) (c : Int) (l : Int) (o : Int), Go.KLib.Sub [(0, (.pointer (some ⟨b_c, 0, none⟩))), (6, (.pointer (some ⟨bz, 0, none⟩))), (7, (.pointer (some ⟨bg, 0, none⟩))), (8, (.pointer (some ⟨bc, 0, none⟩))), (9, (.int .i64 m)), (10, (.pointer (some ⟨S, 0, none⟩))), (22, (.bool (decide (0 < m))))] lj → Ch [b_c] w H → ee.heap.size ≤ H.heap.size → Blk H S 142 [(.bool a), (.int .i64 b), (.int .i64 c), (.int .i64 l), (.int .i64 o)] → Cu H b_c → Blk H bz 63 [(.slice none 0 0)] → Blk H bg 63 [(.slice Acv (C).length Ccv)] → Ol Chg.cs 142 5 H (.slice Acv (C).length Ccv) C → Blk H bc 36 [(.slice Avv (gV).length Cvv), (.slice Aev (F).length Cev)] → Ol ics 3 1 H (.slice Avv (gV).length Cvv) gV → Ol GEdge.cs 129 4 H (.slice Aev (F).length Cev) F → gv lj H := by
   intro lj H a b c l o aq E dU be aR au T aS av aT aU
   refine gw _ _ (Zgr aq ?_)
   have dh := E
   have eg := dh.size
   have cG := au.lt
   have cH := T.lt
   have cI := av.lt
   have di := be.lt
   refine Zh fun gx gy => ?_
   have cj : ∀ (lj : KL) (M : World) (a : Bool) (b : Int) (c : Int) (l : Int) (o : Int), Go.KLib.Sub [(0, (.pointer (some ⟨b_c, 0, none⟩))), (6, (.pointer (some ⟨bz, 0, none⟩))), (7, (.pointer (some ⟨bg, 0, none⟩))), (8, (.pointer (some ⟨bc, 0, none⟩))), (9, (.int .i64 m)), (10, (.pointer (some ⟨S, 0, none⟩))), (22, (.bool (decide (0 < m))))] lj → Ch [b_c] w M → H.heap.size ≤ M.heap.size → Blk M S 142 [(.bool a), (.int .i64 b), (.int .i64 c), (.int .i64 l), (.int .i64 o)] → Cu M b_c → Blk M bz 63 [(.slice none 0 0)] → Blk M bg 63 [(.slice Acv (C).length Ccv)] → Ol Chg.cs 142 5 M (.slice Acv (C).length Ccv) C → Blk M bc 36 [(.slice Avv (gV).length Cvv), (.slice Aev (F).length Cev)] → Ol ics 3 1 M (.slice Avv (gV).length Cvv) gV → Ol GEdge.cs 129 4 M (.slice Aev (F).length Cev) F → gx lj M := by
    intro lj M a b c l o aq E dW be aV aw ax aW U bI bJ
    refine gy _ _ (Zgr aq ?_)
    have dj := E
    have eh := dj.size
    have cJ := aw.lt
    have cK := ax.lt
    have cL := U.lt
    have di := be.lt
    refine Zh fun h4 gz => ?_
    refine Zc (Za rfl rfl (Zi U.at_ agg36 sz36 rfl) (Za rfl rfl (Zi be.at_ agg142 sz142 rfl) (Zl rfl rfl ?_)))
    refine Zq (cs := Chg.cs) (parts := [(0, .tmp 71)]) (⟨false, 0, 0, 0, 0⟩ : Chg) [(⟨a, b, c, l, o⟩ : Chg)] el61 sz142 zr142 Chg.len (by decide) rfl rfl rfl (by decide) (by decide) rfl fun gA h5 dk fH bh => ?_
    have gB := bh.size
    have E := E.trans bh.of_nil
    obtain ⟨dl, dm, rfl, fI, ei⟩ := dk.opn
    refine Za rfl rfl (Ys (parts := [(0, .tmp 72)]) (cells := [(.slice dl ([(⟨a, b, c, l, o⟩ : Chg)]).length dm)]) zr63 pl63 rfl rfl) (Zl rfl rfl ?_)
    have ej := bI.ch0 bh
    have ek := bJ.ch0 bh
    refine Step.call (Zm (xs := [.tmp 70, .tmp 73]) fk93 rfl) (Zde ej.ls ek.ls dk.ls om (by simp)) fun gC h6 em => ?_
    obtain ⟨dX, dY, rfl, ac, q, ad, r, Y, a9⟩ := em
    have gD := a9.size
    have E := E.trans a9.of_nil
    obtain ⟨I, J, rfl, dn, u⟩ := ac.opn
    obtain ⟨K, L, rfl, dp, x⟩ := ad.opn
    have gF : ((apL gV F ([(⟨a, b, c, l, o⟩ : Chg)])).getD F).length ≤ F.length + 1 := apD1 _ _ _
    refine Za rfl rfl (Zg rfl) (Za rfl rfl (Yb rfl rfl) (Za rfl rfl (Yb rfl rfl) (Zl rfl rfl ?_)))
    refine Yd zr36 fun b1 gG b2 aK gH => ?_
    have gI := aK.size
    have E := E.trans aK.of_nil
    have gJ := b2.lt
    replace b2 : Blk gG b1 36 [(.slice none 0 0), (.slice none 0 0)] := b2
    refine Zl rfl rfl ?_
    refine Zk (off := 0) 2 b2 sz36 rfl (us := [(.slice I (gV).length J), (.slice K ((apL gV F ([(⟨a, b, c, l, o⟩ : Chg)])).getD F).length L)]) rfl rfl rfl rfl fun fJ bG aL => ?_
    have gK := aL.size
    have E := E.step aL (lS om)
    replace bG : Blk fJ b1 36 [(.slice I (gV).length J), (.slice K ((apL gV F ([(⟨a, b, c, l, o⟩ : Chg)])).getD F).length L)] := bG
    refine Za rfl rfl (Zf rfl) (Ze (Zb (gz _ _ ?_)))
    refine Zh fun gL gM => ?_
    have ck : ∀ (lj : KL) (y : World) (dq : Bool), Go.KLib.Sub [(0, (.pointer (some ⟨b_c, 0, none⟩))), (6, (.pointer (some ⟨bz, 0, none⟩))), (7, (.pointer (some ⟨bg, 0, none⟩))), (8, (.pointer (some ⟨bc, 0, none⟩))), (9, (.int .i64 m)), (10, (.pointer (some ⟨S, 0, none⟩))), (12, (.pointer (some ⟨b1, 0, none⟩))), (13, (.bool ((apL gV F ([(⟨a, b, c, l, o⟩ : Chg)])).isSome))), (22, (.bool (decide (0 < m)))), (81, (.bool dq))] lj → Ch [b_c] w y → fJ.heap.size ≤ y.heap.size → Cu y b_c → Blk y bz 63 [(.slice none 0 0)] → Blk y bg 63 [(.slice Acv (C).length Ccv)] → Ol Chg.cs 142 5 y (.slice Acv (C).length Ccv) C → Blk y bc 36 [(.slice Avv (gV).length Cvv), (.slice Aev (F).length Cev)] → Ol ics 3 1 y (.slice Avv (gV).length Cvv) gV → Ol GEdge.cs 129 4 y (.slice Aev (F).length Cev) F → Blk y S 142 [(.bool a), (.int .i64 b), (.int .i64 c), (.int .i64 l), (.int .i64 o)] → Blk y b1 36 [(.slice I (gV).length J), (.slice K ((apL gV F ([(⟨a, b, c, l, o⟩ : Chg)])).getD F).length L)] → Ol ics 3 1 y (.slice I (gV).length J) gV → Ol GEdge.cs 129 4 y (.slice K ((apL gV F ([(⟨a, b, c, l, o⟩ : Chg)])).getD F).length L) ((apL gV F ([(⟨a, b, c, l, o⟩ : Chg)])).getD F) → gL lj y := by
     intro lj y dq aq E dZ aX ay V aY az bK bL aZ a0 bM bq
     refine gM _ _ (Zgr aq ?_)
     have dr := E
     have en := dr.size
     have cM := ay.lt
     have cN := V.lt
     have cO := az.lt
     have cP := aZ.lt
     have cQ := a0.lt
     refine Zz rfl (fun cR => ?_) (fun cR => ?_)
     ·have eo := cR
      refine Zh fun h7 gN => ?_
      refine Zc (Za rfl rfl (Zd fa63_0 rfl) (Za rfl rfl (Zp V.at_ agg61 rfl rfl) (Za rfl rfl (Zi aZ.at_ agg142 sz142 rfl) (Zl rfl rfl ?_))))
      refine Zq (cs := Chg.cs) (parts := [(0, .tmp 84)]) (⟨false, 0, 0, 0, 0⟩ : Chg) [(⟨a, b, c, l, o⟩ : Chg)] el61 sz142 zr142 Chg.len (by decide) rfl rfl rfl (by decide) (by decide) rfl fun gO h8 ds fK bZ => ?_
      have gP := bZ.size
      have E := E.trans bZ.of_nil
      obtain ⟨fL, fM, rfl, fN, ep⟩ := ds.opn
      refine Zl rfl rfl ?_
      have gQ := aY.ch0 bZ
      refine Yg (cs := Chg.cs) el61 sz142 by142 zr142 rfl (by decide) Chg.one gQ ds.ls rfl rfl bd bd p om fun gR h9 dt du bf b3 => ?_
      have gS := b3.size
      have E := E.step b3 (fun i hi => .inl (by have a8 := p _ hi; omega))
      obtain ⟨bS, bT, rfl, fO, aC⟩ := dt.opn
      refine Za rfl rfl (Zd fa63_0 rfl) (Zl rfl rfl ?_)
      have gT := (V.ch0 bZ).ch b3 (fun hm => by exact a2 (by first | exact hm | exact bU ▸ hm))
      refine Zy (off := 0) gT sz61 rfl rfl rfl rfl fun gU bV b4 => ?_
      have gW := b4.size
      have E := E.step b4 (lS om)
      replace bV : Blk gU bg 63 [(.slice bS ((C ++ [(⟨a, b, c, l, o⟩ : Chg)])).length bT)] := bV
      refine Ze (Zb (gN _ _ (Zc ?_)))
      have gX := ((a0.ch0 bZ).ch b3 (fun hm => by have a8 := p _ hm; have bA := hicv _ hm; omega)).ch b4 (nS om)
      refine Za rfl rfl (Zi gX.at_ agg36 sz36 rfl) (Zl rfl rfl ?_)
      have gY := ((az.ch0 bZ).ch b3 (fun hm => by have a8 := p _ hm; have bA := hicv _ hm; omega)).ch b4 (nS om)
      refine Zk (off := 0) 2 gY sz36 rfl (us := [(.slice I (gV).length J), (.slice K ((apL gV F ([(⟨a, b, c, l, o⟩ : Chg)])).getD F).length L)]) rfl rfl rfl rfl fun d0 bW cl => ?_
      have gZ := cl.size
      have E := E.step cl (lS om)
      replace bW : Blk d0 bc 36 [(.slice I (gV).length J), (.slice K ((apL gV F ([(⟨a, b, c, l, o⟩ : Chg)])).getD F).length L)] := bW
      refine Ze (Yc (Zb (fG _ _ (Zc (Za rfl rfl (Zg rfl) (Za rfl rfl (Xe om rfl rfl) (Za rfl rfl (Zf rfl) (Ze ?_))))))))
      have g0 := (dt.ch b4 (fun g hg hm => by have bU := List.mem_singleton.1 hm; rcases bf with ea | ea; (rw [ea] at hg; exact a2 (by first | exact hg | exact bU ▸ hg)); (have cS := aC _ hg; rw [ea] at hg; have d1 := List.mem_singleton.1 hg; omega))).ch cl (fun g hg hm => by have bU := List.mem_singleton.1 hm; rcases bf with ea | ea; (rw [ea] at hg; have bA := p _ hg; have d2 := hicv _ hg; omega); (have cS := aC _ hg; rw [ea] at hg; have d1 := List.mem_singleton.1 hg; omega))
      have cT : Ol Chg.cs 142 5 d0 (.slice bS ((C ++ [(⟨a, b, c, l, o⟩ : Chg)])).length bT) ((C ++ [(⟨a, b, c, l, o⟩ : Chg)])) := by
       have hx := g0
       exact hx
      have g1 := (((bM.ch0 bZ).ch b3 (fun g hg hm => by have a8 := p _ hm; have bA := hicv _ hm; have d2 := q _ hg; have er := u _ hg; omega)).ch b4 (dS q u om)).ch cl (dS q u om)
      have cU : Ol ics 3 1 d0 (.slice I (gV).length J) (gV) := by
       have hx := g1
       exact hx
      have g2 := (((bq.ch0 bZ).ch b3 (fun g hg hm => by have a8 := p _ hm; have bA := hicv _ hm; have d2 := r _ hg; have er := x _ hg; omega)).ch b4 (dS r x om)).ch cl (dS r x om)
      have cV : Ol GEdge.cs 129 4 d0 (.slice K ((apL gV F ([(⟨a, b, c, l, o⟩ : Chg)])).getD F).length L) ((apL gV F ([(⟨a, b, c, l, o⟩ : Chg)])).getD F) := by
       have hx := g2
       exact hx
      have g3 := bV.ch cl (nS om)
      have g4 := (((aX.ch0 bZ).ch b3 (fun i hm => by have a8 := p _ hm; have bA := hicv _ hm; omega)).ch b4 (oS om)).ch cl (oS om)
      have g5 := (((ay.ch0 bZ).ch b3 (fun hm => by have a8 := p _ hm; have bA := hicv _ hm; omega)).ch b4 (nS om)).ch cl (nS om)
      exact Zb (Exists.intro ((m - 1), (apL gV F ([(⟨a, b, c, l, o⟩ : Chg)])).getD F, (C ++ [(⟨a, b, c, l, o⟩ : Chg)]), (.slice bS ((C ++ [(⟨a, b, c, l, o⟩ : Chg)])).length bT), (.slice I (gV).length J), (.slice K ((apL gV F ([(⟨a, b, c, l, o⟩ : Chg)])).getD F).length L)) ⟨⟨E, om, (by first | omega | (simp only [List.length_append, List.length_singleton]; omega)), g4, g5, cT, (Lo.down du om), cU, (Lo.down q om), cV, (Lo.down r om), g3, bW, (fun hm => by rcases bf with ea | ea; (rw [ea] at hm; exact a2 (by first | exact hm | exact bU ▸ hm)); (have g6 := aC _ hm; rw [ea] at hm; have d1 := List.mem_singleton.1 hm; omega)), (fun g hm hg => by rcases bf with ea | ea; (rw [ea] at hg; have a8 := q _ hm; have bA := u _ hm; have d2 := p _ hg; have er := hicv _ hg; omega); (have cS := aC _ hg; rw [ea] at hg; have d1 := List.mem_singleton.1 hg; have a8 := q _ hm; have bA := u _ hm; omega)), (fun hm => by have a8 := q _ hm; have bA := u _ hm; omega), (fun g hm hg => by rcases bf with ea | ea; (rw [ea] at hg; have a8 := r _ hm; have bA := x _ hm; have d2 := p _ hg; have er := hicv _ hg; omega); (have cS := aC _ hg; rw [ea] at hg; have d1 := List.mem_singleton.1 hg; have a8 := r _ hm; have bA := x _ hm; omega)), (fun g hm hg => by exact Y _ hg hm), (fun hm => by have a8 := r _ hm; have bA := x _ hm; omega)⟩, sC4 rfl rfl rfl rfl (sC1 rfl (Sub.nil _)), (by first | omega | (dsimp only; omega))⟩)
     have eo := cR
     refine Yf ?_
     refine Yc (Zb (fG _ _ (Zc (Za rfl rfl (Zg rfl) (Za rfl rfl (Xe om rfl rfl) (Za rfl rfl (Zf rfl) (Ze ?_)))))))
     have cW : Ol Chg.cs 142 5 y (.slice Acv (C).length Ccv) (C) := by
      have hx := aY
      exact hx
     have cX : Ol ics 3 1 y (.slice Avv (gV).length Cvv) (gV) := by
      have hx := bK
      exact hx
     have cY : Ol GEdge.cs 129 4 y (.slice Aev (F).length Cev) (F) := by
      have hx := bL
      exact hx
     exact Zb (Exists.intro ((m - 1), F, C, (.slice Acv (C).length Ccv), (.slice Avv (gV).length Cvv), (.slice Aev (F).length Cev)) ⟨⟨E, om, (by first | omega | (simp only [List.length_append, List.length_singleton]; omega)), aX, ay, cW, (Lo.down p om), cX, (Lo.down B om), cY, (Lo.down s om), V, az, (fun hm => by exact a2 (by first | exact hm | exact bU ▸ hm)), (fun g hm hg => by exact bi _ hm hg), (fun hm => by exact cF (by first | exact hm | exact bU ▸ hm)), (fun g hm hg => by exact bj _ hm hg), (fun g hm hg => by exact bk _ hm hg), (fun hm => by exact bR (by first | exact hm | exact bU ▸ hm))⟩, sC4 rfl rfl rfl rfl (sC1 rfl (Sub.nil _)), (by first | omega | (dsimp only; omega))⟩)
    refine Zc (Za rfl rfl (Zg rfl) (Za rfl rfl (Zg rfl) ?_))
    refine Yy (d := 78) rfl (fun cZ => ?_) (fun cZ => ?_)
    ·have es := cZ
     refine Zo rfl rfl (Zo rfl rfl (Za rfl rfl (Ym rfl rfl) (Ze (Zb ?_))))
     have g7 := (((aV.ch0 bh).ch0 a9).ch0 aK).ch aL (oS om)
     have g8 := (((aw.ch0 bh).ch0 a9).ch0 aK).ch aL (nS om)
     have g9 := (((ax.ch0 bh).ch0 a9).ch0 aK).ch aL (nS om)
     have ha := (((aW.ch0 bh).ch0 a9).ch0 aK).ch aL (dS p hicv om)
     have hc := (((U.ch0 bh).ch0 a9).ch0 aK).ch aL (nS om)
     have hd := ((ej.ch0 a9).ch0 aK).ch aL (dS B R om)
     have he := ((ek.ch0 a9).ch0 aK).ch aL (dS s hiev om)
     have hf := (((be.ch0 bh).ch0 a9).ch0 aK).ch aL (nS om)
     have hh := (ac.ch0 aK).ch aL (dS q u om)
     have hj := (ad.ch0 aK).ch aL (dS r x om)
     exact ck _ _ true (sC8 rfl rfl rfl rfl rfl rfl rfl rfl (sC2 rfl rfl (Sub.nil _))) E om g7 g8 g9 ha hc hd he hf bG hh hj
    have es := cZ
    refine Za rfl rfl (Zg rfl) (Zl rfl rfl ?_)
    have hk := (((aV.ch0 bh).ch0 a9).ch0 aK).ch aL (oS om)
    refine Step.call (Zm (xs := [.tmp 79, .const (Go.Value.int Go.IntKind.i64 12)]) fk120 rfl) (Zcn hk _ om) fun hl ia eu => ?_
    obtain ⟨dv, rfl, ew, bN⟩ := eu
    have ho := bN.size
    have E := E.trans bN
    refine Za rfl rfl (Yl rfl rfl) (Ze (Zb ?_))
    have hp := ((((aw.ch0 bh).ch0 a9).ch0 aK).ch aL (nS om)).ch bN (nS om)
    have hr := ((((ax.ch0 bh).ch0 a9).ch0 aK).ch aL (nS om)).ch bN (nS om)
    have hs := ((((aW.ch0 bh).ch0 a9).ch0 aK).ch aL (dS p hicv om)).ch bN (dS p hicv om)
    have ht := ((((U.ch0 bh).ch0 a9).ch0 aK).ch aL (nS om)).ch bN (nS om)
    have hu := (((ej.ch0 a9).ch0 aK).ch aL (dS B R om)).ch bN (dS B R om)
    have ex := (((ek.ch0 a9).ch0 aK).ch aL (dS s hiev om)).ch bN (dS s hiev om)
    have ey := ((((be.ch0 bh).ch0 a9).ch0 aK).ch aL (nS om)).ch bN (nS om)
    have ez := bG.ch bN (nS om)
    have eA := ((ac.ch0 aK).ch aL (dS q u om)).ch bN (dS q u om)
    have eB := ((ad.ch0 aK).ch aL (dS r x om)).ch bN (dS r x om)
    exact ck _ _ dv (sC8 rfl rfl rfl rfl rfl rfl rfl rfl (sC2 rfl rfl (Sub.nil _))) E om ew hp hr hs ht hu ex ey ez eA eB
   refine Zh fun eC eD => ?_
   have bX : ∀ (lj : KL) (z : World) (c0 : Bool), Go.KLib.Sub [(0, (.pointer (some ⟨b_c, 0, none⟩))), (6, (.pointer (some ⟨bz, 0, none⟩))), (7, (.pointer (some ⟨bg, 0, none⟩))), (8, (.pointer (some ⟨bc, 0, none⟩))), (9, (.int .i64 m)), (10, (.pointer (some ⟨S, 0, none⟩))), (22, (.bool (decide (0 < m)))), (54, (.bool c0))] lj → Ch [b_c] w z → H.heap.size ≤ z.heap.size → Cu z b_c → Blk z bz 63 [(.slice none 0 0)] → Blk z bg 63 [(.slice Acv (C).length Ccv)] → Ol Chg.cs 142 5 z (.slice Acv (C).length Ccv) C → Blk z bc 36 [(.slice Avv (gV).length Cvv), (.slice Aev (F).length Cev)] → Ol ics 3 1 z (.slice Avv (gV).length Cvv) gV → Ol GEdge.cs 129 4 z (.slice Aev (F).length Cev) F → Blk z S 142 [(.bool a), (.int .i64 b), (.int .i64 c), (.int .i64 l), (.int .i64 o)] → (c0 = true → 0 < C.length) → eC lj z := by
    intro lj z c0 aq E dw aD ae O af ag aE aF ah eE
    refine eD _ _ (Zgr aq ?_)
    have c1 := E
    have d3 := c1.size
    have cm := ae.lt
    have cn := O.lt
    have co := ag.lt
    have cp := ah.lt
    refine Zz rfl (fun b5 => ?_) (fun b5 => ?_)
    ·have dx := b5
     have hv := eE b5
     refine Zh fun hw eF => ?_
     refine Zc (Za rfl rfl (Zd fa63_0 rfl) (Za rfl rfl (Zp O.at_ agg61 rfl rfl) (Za rfl rfl (Zd fa63_0 rfl) (Za rfl rfl (Zp O.at_ agg61 rfl rfl) (Za rfl rfl (Yr (by rw [el61]; rfl) rfl) (Za rfl rfl (Xe om rfl rfl) (Zl rfl rfl ?_)))))))
     refine (Qm (j := (((C.length : Nat) : Int) - 1).toNat) af.ls Chg.len el61 sz142 rfl rfl om om fun hy G fP eG => ?_)
     refine Za rfl rfl (Zi eG agg142 sz142 rfl) (Zl rfl rfl ?_)
     refine Yd zr142 fun dy eH b6 aM hz => ?_
     have fQ := aM.size
     have E := E.trans aM.of_nil
     have hA := b6.lt
     replace b6 : Blk eH dy 142 [(.bool false), (.int .i64 0), (.int .i64 0), (.int .i64 0), (.int .i64 0)] := b6
     refine Zl rfl rfl ?_
     refine Zk (off := 0) 5 b6 sz142 rfl (us := [(.bool G.ins), (.int .i64 G.eid), (.int .i64 G.ef), (.int .i64 G.et), (.int .i64 G.el)]) rfl rfl rfl rfl fun eI a3 aN => ?_
     have fR := aN.size
     have E := E.step aN (lS om)
     replace a3 : Blk eI dy 142 [(.bool G.ins), (.int .i64 G.eid), (.int .i64 G.ef), (.int .i64 G.et), (.int .i64 G.el)] := a3
     refine Ze (Zb (eF _ _ (Zc (Za rfl rfl (Zd fa142_0 rfl) (Za rfl rfl (Zp a3.at_ agg4 rfl rfl) (Za rfl rfl (Xp rfl) (Za rfl rfl (Zd fa142_1 rfl) (Za rfl rfl (Zdl 4 a3.at_ agg129 sz129 rfl rfl) ?_))))))))
     refine Za rfl rfl (Ys (parts := [(0, .tmp 65), (1, .tmp 67)]) (cells := [(.bool (!G.ins)), (.int .i64 G.eid), (.int .i64 G.ef), (.int .i64 G.et), (.int .i64 G.el)]) zr142 pl142 rfl rfl) (Zl rfl rfl ?_)
     have eJ := (ah.ch0 aM).ch aN (nS om)
     refine Zk (off := 0) 5 eJ sz142 rfl (us := [(.bool (!G.ins)), (.int .i64 G.eid), (.int .i64 G.ef), (.int .i64 G.et), (.int .i64 G.el)]) rfl rfl rfl rfl fun eK br a4 => ?_
     have fS := a4.size
     have E := E.step a4 (lS om)
     replace br : Blk eK S 142 [(.bool (!G.ins)), (.int .i64 G.eid), (.int .i64 G.ef), (.int .i64 G.et), (.int .i64 G.el)] := br
     refine Ze (Zb ?_)
     have eL := ((aD.ch0 aM).ch aN (oS om)).ch a4 (oS om)
     have eM := ((ae.ch0 aM).ch aN (nS om)).ch a4 (nS om)
     have eN := ((O.ch0 aM).ch aN (nS om)).ch a4 (nS om)
     have eO := ((af.ch0 aM).ch aN (dS p hicv om)).ch a4 (dS p hicv om)
     have eP := ((ag.ch0 aM).ch aN (nS om)).ch a4 (nS om)
     have eQ := ((aE.ch0 aM).ch aN (dS B R om)).ch a4 (dS B R om)
     have eR := ((aF.ch0 aM).ch aN (dS s hiev om)).ch a4 (dS s hiev om)
     exact cj _ _ (!G.ins) G.eid G.ef G.et G.el (sC4 rfl rfl rfl rfl (sC2 rfl rfl (sC1 rfl (Sub.nil _)))) E om br eL eM eN eO eP eQ eR
    have dx := b5
    refine Yf ?_
    refine Zb ?_
    exact cj _ _ a b c l o (sC4 rfl rfl rfl rfl (sC2 rfl rfl (sC1 rfl (Sub.nil _)))) E om ah aD ae O af ag aE aF
   refine Zc (Za rfl rfl (Zd fa63_0 rfl) (Za rfl rfl (Zp T.at_ agg61 rfl rfl) (Za rfl rfl (Yr (by rw [el61]; rfl) rfl) (Za rfl rfl (Zcj rfl rfl) (Za rfl rfl (Zg rfl) ?_)))))
   refine Yy (d := 51) rfl (fun bs => ?_) (fun bs => ?_)
   ·have dz := bs
    have bs := Yt bs
    refine Za rfl rfl (Zg rfl) (Zl rfl rfl ?_)
    refine Step.call (Zm (xs := [.tmp 52, .const (Go.Value.int Go.IntKind.i64 4)]) fk120 rfl) (Zcn aR _ om) fun hB hC eS => ?_
    obtain ⟨dA, rfl, eT, a5⟩ := eS
    have fT := a5.size
    have E := E.trans a5
    refine Za rfl rfl (Ym rfl rfl) (Ze (Zb ?_))
    have eU := au.ch a5 (nS om)
    have eV := T.ch a5 (nS om)
    have eW := aS.ch a5 (dS p hicv om)
    have eX := av.ch a5 (nS om)
    have eY := aT.ch a5 (dS B R om)
    have eZ := aU.ch a5 (dS s hiev om)
    have e0 := be.ch a5 (nS om)
    exact bX _ _ dA (sC8 rfl rfl rfl rfl rfl rfl rfl rfl (Sub.nil _)) E om eT eU eV eW eX eY eZ e0 (by first | (intro h; cases h; done) | (intro _; omega))
   have dz := bs
   have bs := Yu bs
   refine Zo rfl rfl (Zo rfl rfl (Za rfl rfl (Yl rfl rfl) (Ze (Zb ?_))))
   exact bX _ _ false (sC8 rfl rfl rfl rfl rfl rfl rfl rfl (Sub.nil _)) E om aR au T aS av aT aU be (by first | (intro h; cases h; done) | (intro _; omega))
  refine Zh fun e1 e2 => ?_
  have bY : ∀ (lj : KL) (A : World) (c2 : Bool), Go.KLib.Sub [(0, (.pointer (some ⟨b_c, 0, none⟩))), (6, (.pointer (some ⟨bz, 0, none⟩))), (7, (.pointer (some ⟨bg, 0, none⟩))), (8, (.pointer (some ⟨bc, 0, none⟩))), (9, (.int .i64 m)), (10, (.pointer (some ⟨S, 0, none⟩))), (22, (.bool (decide (0 < m)))), (36, (.bool c2))] lj → Ch [b_c] w A → ee.heap.size ≤ A.heap.size → Cu A b_c → Blk A bz 63 [(.slice none 0 0)] → Blk A bg 63 [(.slice Acv (C).length Ccv)] → Ol Chg.cs 142 5 A (.slice Acv (C).length Ccv) C → Blk A bc 36 [(.slice Avv (gV).length Cvv), (.slice Aev (F).length Cev)] → Ol ics 3 1 A (.slice Avv (gV).length Cvv) gV → Ol GEdge.cs 129 4 A (.slice Aev (F).length Cev) F → Blk A S 142 [(.bool true), (.int .i64 D.id), (.int .i64 D.f), (.int .i64 D.t), (.int .i64 D.label)] → (c2 = true → 0 < F.length) → e1 lj A := by
   intro lj A c2 aq E dB aG ai aj aH ak aI aJ al e3
   refine e2 _ _ (Zgr aq ?_)
   have c3 := E
   have d4 := c3.size
   have cq := ai.lt
   have cr := aj.lt
   have ct := ak.lt
   have cu := al.lt
   refine Zz rfl (fun b7 => ?_) (fun b7 => ?_)
   ·have dC := b7
    have hD := e3 b7
    refine Yv ([b_c] ++ [S]) 11 mixed rfl fun dD aO => ?_
    have fU := aO.size
    have E := E.trans aO.of_nil
    refine dV 0 rfl rfl rfl (fun _ => Zd fa36_1 rfl) ?_
    have c4 := ak.ch0 aO
    refine dT 1 rfl rfl rfl (Yi c4.at_ (fun i hm => by rcases List.mem_append.1 hm with hm | hm; (have a8 := List.mem_singleton.1 hm; omega); (have a8 := List.mem_singleton.1 hm; omega)) agg34 rfl rfl ?_)
    refine dV 2 rfl rfl rfl (fun _ => Zg rfl) (dV 3 rfl rfl rfl (fun _ => Zd fa36_1 rfl) ?_)
    refine dT 4 rfl rfl rfl (Yi c4.at_ (fun i hm => by rcases List.mem_append.1 hm with hm | hm; (have a8 := List.mem_singleton.1 hm; omega); (have a8 := List.mem_singleton.1 hm; omega)) agg34 rfl rfl ?_)
    refine dV 5 rfl rfl rfl (fun _ => Yr (by rw [el34]; rfl) rfl) (dO 6 (Zr rfl rfl rfl ?_))
    have e4 := aG.ch0 aO
    refine Step.call (Zm (xs := [.tmp 39, .tmp 42]) fk95 rfl) (Zs e4 _ om) fun hE e5 e6 => ?_
    obtain ⟨dE, rfl, e7, e8, aP⟩ := e6
    have fV := aP.size
    have E := E.trans aP
    have a6 : Ch ([b_c] ++ [S]) dD e5 := ((Ch.refl _ _).step aP (fun i hm => by have bU := List.mem_singleton.1 hm; exact .inr (by rw [bU]; exact (List.mem_append_left _ (List.mem_singleton.2 rfl)))))
    refine ⟨a6, ?_⟩
    refine dO 7 (Zr rfl rfl rfl ?_)
    have dF := (aJ.ch0 aO).ch aP (dS s hiev om)
    refine (Qm (j := dE.toNat) dF.ls GEdge.len el34 sz129 rfl rfl om om fun hF Z fW e9 => ?_)
    refine ⟨a6, ?_⟩
    refine dO 8 (Zr rfl rfl rfl ?_)
    refine s_v (Zi e9 agg129 sz129 rfl) ?_
    refine ⟨a6, ?_⟩
    refine dV 9 rfl rfl rfl (fun _ => Ys (parts := [(1, .tmp 45)]) (cells := [(.bool false), (.int .i64 Z.id), (.int .i64 Z.f), (.int .i64 Z.t), (.int .i64 Z.label)]) zr142 pl142 rfl rfl) (dO 10 (Zr rfl rfl rfl ?_))
    have fa := (al.ch0 aO).ch aP (nS om)
    refine Zk (off := 0) 5 fa sz142 rfl (us := [(.bool false), (.int .i64 Z.id), (.int .i64 Z.f), (.int .i64 Z.t), (.int .i64 Z.label)]) rfl rfl rfl rfl fun dG bu aQ => ?_
    have fX := aQ.size
    have E := E.step aQ (lS om)
    replace bu : Blk dG S 142 [(.bool false), (.int .i64 Z.id), (.int .i64 Z.f), (.int .i64 Z.t), (.int .i64 Z.label)] := bu
    have c5 : Ch ([b_c] ++ [S]) dD dG := (a6.step aQ (fun i hm => by have bU := List.mem_singleton.1 hm; exact .inr (by rw [bU]; exact (List.mem_append_right _ (List.mem_singleton.2 rfl)))))
    refine ⟨c5, ?_⟩
    refine Zw (by kernel_rfl) ?_
    refine Zb ?_
    have fb := e8.ch aQ (oS om)
    have fc := ((ai.ch0 aO).ch aP (nS om)).ch aQ (nS om)
    have fd := ((aj.ch0 aO).ch aP (nS om)).ch aQ (nS om)
    have fe := ((aH.ch0 aO).ch aP (dS p hicv om)).ch aQ (dS p hicv om)
    have ff := (c4.ch aP (nS om)).ch aQ (nS om)
    have fg := ((aI.ch0 aO).ch aP (dS B R om)).ch aQ (dS B R om)
    have fh := dF.ch aQ (dS s hiev om)
    exact ci _ _ false Z.id Z.f Z.t Z.label (sC4 rfl rfl rfl rfl (sC2 rfl rfl (sC1 rfl (Sub.nil _)))) E om bu fb fc fd fe ff fg fh
   have dC := b7
   refine Yf ?_
   refine Zb ?_
   exact ci _ _ true D.id D.f D.t D.label (sC4 rfl rfl rfl rfl (sC2 rfl rfl (sC1 rfl (Sub.nil _)))) E om al aG ai aj aH ak aI aJ
  refine Zc (Za rfl rfl (Zd fa36_1 rfl) ?_)
  have c6 := ((cg.ch bH (nS om)).ch0 bn).ch bp (nS om)
  refine Za rfl rfl (Zp c6.at_ agg34 rfl rfl) (Za rfl rfl (Yr (by rw [el34]; rfl) rfl) (Za rfl rfl (Zcj rfl rfl) (Za rfl rfl (Zg rfl) ?_)))
  refine Yy (d := 33) rfl (fun bv => ?_) (fun bv => ?_)
  ·have dH := bv
   have bv := Yt bv
   refine Za rfl rfl (Zg rfl) (Zl rfl rfl ?_)
   have fi := (dg.ch0 bn).ch bp (oS om)
   refine Step.call (Zm (xs := [.tmp 34, .const (Go.Value.int Go.IntKind.i64 2)]) fk120 rfl) (Zcn fi _ om) fun hG hH fj => ?_
   obtain ⟨dI, rfl, fk, a7⟩ := fj
   have fY := a7.size
   have E := E.trans a7
   refine Za rfl rfl (Ym rfl rfl) (Ze (Zb ?_))
   have fl := (((bB.ch bH (nS om)).ch0 bn).ch bp (nS om)).ch a7 (nS om)
   have fm := (((bQ.ch bH (nS om)).ch0 bn).ch bp (nS om)).ch a7 (nS om)
   have fn := (((bC.ch bH (dS p hicv om)).ch0 bn).ch bp (dS p hicv om)).ch a7 (dS p hicv om)
   have fo := c6.ch a7 (nS om)
   have fp := (((bD.ch bH (dS B R om)).ch0 bn).ch bp (dS B R om)).ch a7 (dS B R om)
   have fq := (((a1.ch bH (dS s hiev om)).ch0 bn).ch bp (dS s hiev om)).ch a7 (dS s hiev om)
   have fr := bF.ch a7 (nS om)
   exact bY _ _ dI (sC8 rfl rfl rfl rfl rfl rfl rfl rfl (Sub.nil _)) E om fk fl fm fn fo fp fq fr (by first | (intro h; cases h; done) | (intro _; omega))
  have dH := bv
  have bv := Yu bv
  refine Zo rfl rfl (Zo rfl rfl (Za rfl rfl (Yl rfl rfl) (Ze (Zb ?_))))
  have fs := (dg.ch0 bn).ch bp (oS om)
  have ft := ((bB.ch bH (nS om)).ch0 bn).ch bp (nS om)
  have fu := ((bQ.ch bH (nS om)).ch0 bn).ch bp (nS om)
  have fv := ((bC.ch bH (dS p hicv om)).ch0 bn).ch bp (dS p hicv om)
  have fw := ((bD.ch bH (dS B R om)).ch0 bn).ch bp (dS B R om)
  have fx := ((a1.ch bH (dS s hiev om)).ch0 bn).ch bp (dS s hiev om)
  exact bY _ _ false (sC8 rfl rfl rfl rfl rfl rfl rfl rfl (Sub.nil _)) E om fs ft fu fv c6 fw fx bF (by first | (intro h; cases h; done) | (intro _; omega))
 have ec := bm
 have bm := Yu bm
 refine Xx (Yh (Yh (Xg ?_)))
 refine Zb (f9 _ _ ?_)
 refine Zh fun hI fy => ?_
 refine Zc (Za rfl rfl (Zi bQ.at_ agg63 sz63 rfl) (Zl rfl rfl ?_))
 refine Zk (off := 0) 1 bB sz63 rfl (us := [(.slice Acv (C).length Ccv)]) rfl rfl rfl rfl fun dJ bw b8 => ?_
 have fZ := b8.size
 have E := E.step b8 (lS om)
 replace bw : Blk dJ bz 63 [(.slice Acv (C).length Ccv)] := bw
 refine Ze (Zb (fy _ _ ?_))
 refine Zv ?_
 have fz := bC.ch b8 (dS p hicv om)
 have c7 : Ol Chg.cs 142 5 dJ (.slice Acv (C).length Ccv) (C) := by
  have hx := fz
  first | exact hx | simpa using hx
 have fA := cf.ch b8 (oS om)
 exact Zj [_] (Zn bw rfl agg63 sz63 trivial) ⟨C, (.slice Acv (C).length Ccv), rfl, c7, (Lo.down p om), om, fA, E⟩

end Go.Proofs.Ytkmhgeppenifoaa
