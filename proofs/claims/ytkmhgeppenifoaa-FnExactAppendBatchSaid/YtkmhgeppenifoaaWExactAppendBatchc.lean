/- Walks of functions that FnExactAppendBatch reaches: what each returns, and that it leaves the memory that was there alone. -/
import Derived.Test.YtkmhgeppenifoaaLibA
import Derived.Test.YtkmhgeppenifoaaLibB
import Derived.Test.YtkmhgeppenifoaaWExactAppendBatch
import Derived.Test.YtkmhgeppenifoaaWExactAppendBatchb
import Derived.Test.YtkmhgeppenifoaaProg
namespace Go.Proofs.Ytkmhgeppenifoaa
open Go.KLib Go.Shelf
set_option maxHeartbeats 1000000
set_option maxRecDepth 20000
set_option linter.unusedVariables false
set_option linter.unusedSimpArgs false
namespace TExactAppendBatchc
theorem agg129 : Ya Try.prog 129 = some true := by kernel_rfl
theorem agg22 : Ya Try.prog 22 = some false := by kernel_rfl
theorem agg3 : Ya Try.prog 3 = some false := by kernel_rfl
theorem agg34 : Ya Try.prog 34 = some false := by kernel_rfl
theorem agg36 : Ya Try.prog 36 = some true := by kernel_rfl
theorem agg4 : Ya Try.prog 4 = some false := by kernel_rfl
theorem agg49 : Ya Try.prog 49 = some true := by kernel_rfl
theorem agg52 : Ya Try.prog 52 = some true := by kernel_rfl
theorem agg55 : Ya Try.prog 55 = some false := by kernel_rfl
theorem agg57 : Ya Try.prog 57 = some true := by kernel_rfl
theorem agg61 : Ya Try.prog 61 = some false := by kernel_rfl
theorem agg63 : Ya Try.prog 63 = some true := by kernel_rfl
theorem by36 : Qc Try.prog 36 = some 48 := by kernel_rfl
theorem el22 : elB Try.prog 22 = some 3 := by kernel_rfl
theorem el34 : elB Try.prog 34 = some 129 := by kernel_rfl
theorem el55 : elB Try.prog 55 = some 36 := by kernel_rfl
theorem el61 : elB Try.prog 61 = some 142 := by kernel_rfl
theorem fa129_0 : faB Try.prog 129 0 = some 0 := by kernel_rfl
theorem fa142_0 : faB Try.prog 142 0 = some 0 := by kernel_rfl
theorem fa142_1 : faB Try.prog 142 1 = some 1 := by kernel_rfl
theorem fa36_0 : faB Try.prog 36 0 = some 0 := by kernel_rfl
theorem fa36_1 : faB Try.prog 36 1 = some 1 := by kernel_rfl
theorem fa57_0 : faB Try.prog 57 0 = some 0 := by kernel_rfl
theorem fa57_1 : faB Try.prog 57 1 = some 1 := by kernel_rfl
theorem fa63_0 : faB Try.prog 63 0 = some 0 := by kernel_rfl
theorem fk124 : fnB Try.prog 124 = true := by kernel_rfl
theorem fk125 : fnB Try.prog 125 = true := by kernel_rfl
theorem fk19 : fnB Try.prog 19 = true := by kernel_rfl
theorem fk20 : fnB Try.prog 20 = true := by kernel_rfl
theorem fk21 : fnB Try.prog 21 = true := by kernel_rfl
theorem fk22 : fnB Try.prog 22 = true := by kernel_rfl
theorem fk23 : fnB Try.prog 23 = true := by kernel_rfl
theorem fk24 : fnB Try.prog 24 = true := by kernel_rfl
theorem fk25 : fnB Try.prog 25 = true := by kernel_rfl
theorem fk26 : fnB Try.prog 26 = true := by kernel_rfl
theorem fk27 : fnB Try.prog 27 = true := by kernel_rfl
theorem fk28 : fnB Try.prog 28 = true := by kernel_rfl
theorem fk29 : fnB Try.prog 29 = true := by kernel_rfl
theorem fk34 : fnB Try.prog 34 = true := by kernel_rfl
theorem fk37 : fnB Try.prog 37 = true := by kernel_rfl
theorem fk44 : fnB Try.prog 44 = true := by kernel_rfl
theorem fk71 : fnB Try.prog 71 = true := by kernel_rfl
theorem fk88 : fnB Try.prog 88 = true := by kernel_rfl
theorem fk89 : fnB Try.prog 89 = true := by kernel_rfl
theorem fk90 : fnB Try.prog 90 = true := by kernel_rfl
theorem fk92 : fnB Try.prog 92 = true := by kernel_rfl
theorem fk93 : fnB Try.prog 93 = true := by kernel_rfl
theorem fk99 : fnB Try.prog 99 = true := by kernel_rfl
theorem ist129 : Zbf Try.prog 129 4 = true := by kernel_rfl
theorem mixed : Try.prog.follows .mixedOrders = true := by kernel_rfl
theorem pl57 : Zcr Try.prog 57 = some [(0, 1), (1, 1)] := by kernel_rfl
theorem sz129 : Zw Try.prog 129 = some 4 := by kernel_rfl
theorem sz142 : Zw Try.prog 142 = some 5 := by kernel_rfl
theorem sz3 : Zw Try.prog 3 = some 1 := by kernel_rfl
theorem sz36 : Zw Try.prog 36 = some 2 := by kernel_rfl
theorem sz49 : Zw Try.prog 49 = some 2 := by kernel_rfl
theorem sz52 : Zw Try.prog 52 = some 1 := by kernel_rfl
theorem sz55 : Zw Try.prog 55 = some 1 := by kernel_rfl
theorem sz57 : Zw Try.prog 57 = some 2 := by kernel_rfl
theorem sz63 : Zw Try.prog 63 = some 1 := by kernel_rfl
theorem un4 : Try.prog.underlying 4 = some (.bool) := by kernel_rfl
theorem zr129 : Yx Try.prog 129 = some (.agg #[.int .i64 0, .int .i64 0, .int .i64 0, .int .i64 0]) := by kernel_rfl
theorem zr36 : Yx Try.prog 36 = some (.agg #[.slice none 0 0, .slice none 0 0]) := by kernel_rfl
theorem zr57 : Yx Try.prog 57 = some (.agg #[.int .i64 0, .slice none 0 0]) := by kernel_rfl
theorem zr63 : Yx Try.prog 63 = some (.agg #[.slice none 0 0]) := by kernel_rfl
end TExactAppendBatchc
open TExactAppendBatchc

/-- spec.l6Apply -/
theorem Zgb {w : World} {LL_gV cq : Nat} {bW : Value} {gV : List Int} (aY : Ls ics 1 w LL_gV cq bW gV) {LL_gE cr : Nat} {bX : Value} {gE : List GEdge} (aZ : Ls GEdge.cs 4 w LL_gE cr bX gE) {LL_bC ct : Nat} {bY : Value} {bC : List Chg} (a0 : Ls Chg.cs 5 w LL_bC ct bY bC) (hg : Qq gV gE) (hc : bC.length ≤ 6) :
 Ctr Try.prog 93 #[(.agg #[bW, bX]), (.agg #[bY])] w (fun v w' => ∃ (bG : Value) (bH : Value), v = .tuple #[.agg #[bG, bH], .bool ((apL gV gE bC).isSome)] ∧ Ol ics 3 1 w' bG (gV) ∧ Lo w.heap.size bG ∧ Ol GEdge.cs 129 4 w' bH ((apL gV gE bC).getD gE) ∧ Lo w.heap.size bH ∧ (∀ g ∈ bl bG, g ∉ bl bH) ∧ Ch [] w w') := by
 obtain ⟨bg, bh, b0⟩ := aY.val
 subst b0
 have eh := aY.len
 have aY := aY.here (by decide)
 obtain ⟨bi, bj, b1⟩ := aZ.val
 subst b1
 have ei := aZ.len
 have aZ := aZ.here (by decide)
 obtain ⟨bs, bu, b2⟩ := a0.val
 subst b2
 have ej := a0.len
 have a0 := a0.here (by decide)
 have E := Ch.refl [] w
 have f9 := hg.2.2.1; have ga := hg.2.2.2
 refine Zx (N := 80) (vs0 := [(.agg #[(.slice bg gV.length bh), (.slice bi gE.length bj)]), (.agg #[(.slice bs bC.length bu)])]) Try.func93 rfl rfl rfl ?_
 refine Zf fun K1 H1 => ?_
 refine Zc (Zl rfl rfl ?_)
 refine Yw rfl fun da W2 cR C2 gb => ?_
 have gc := C2.size
 have E := E.trans C2
 have gd := cR.lt
 replace cR : Blk W2 da 36 [(.slice bg gV.length bh), (.slice bi gE.length bj)] := cR
 refine Zl rfl rfl ?_
 refine Yw rfl fun db W3 cS C3 ge => ?_
 have gf := C3.size
 have E := E.trans C3
 have gg := cS.lt
 replace cS : Blk W3 db 63 [(.slice bs bC.length bu)] := cS
 refine Zl rfl rfl ?_
 refine Yb zr36 fun bI W4 cT C4 gh => ?_
 have gi := C4.size
 have E := E.trans C4
 have gj := cT.lt
 replace cT : Blk W4 bI 36 [(.slice none 0 0), (.slice none 0 0)] := cT
 refine Za rfl rfl (Ze rfl) (Zd (Zb (H1 _ _ ?_)))
 refine Zf fun K5 H5 => ?_
 refine Zc ?_
 have F6 := (cR.ch0 C3).ch0 C4
 refine Za rfl rfl (Zj F6.at_ agg36 sz36 rfl) (Zl rfl rfl ?_)
 have F7 := ((aY.ch0 C2).ch0 C3).ch0 C4
 have F8 := ((aZ.ch0 C2).ch0 C3).ch0 C4
 refine Step.call (Zr (xs := [.tmp 14]) fk92 rfl) (Xb F7 F8 om) fun eM W9 dc => ?_
 obtain ⟨cU, cV, rfl, aE, P, aF, Q, ad, C9⟩ := dc
 have gk := C9.size
 have E := E.trans C9
 obtain ⟨ao, ap, rfl, cu, aG⟩ := aE.opn
 obtain ⟨aq, au, rfl, cv, aH⟩ := aF.opn
 refine Zl rfl rfl ?_
 refine Yb zr36 fun bZ eN cW bJ gl => ?_
 have eO := bJ.size
 have E := E.trans bJ
 have gm := cW.lt
 replace cW : Blk eN bZ 36 [(.slice none 0 0), (.slice none 0 0)] := cW
 refine Zl rfl rfl ?_
 refine Zo (off := 0) 2 cW sz36 rfl (us := [(.slice ao (gV).length ap), (.slice aq (gE).length au)]) rfl rfl rfl rfl fun cX bv bK => ?_
 have eP := bK.size
 have E := E.step bK (lS om)
 replace bv : Blk cX bZ 36 [(.slice ao (gV).length ap), (.slice aq (gE).length au)] := bv
 refine Zd (Zb (H5 _ _ ?_))
 refine Zf fun gn co => ?_
 refine Zf fun gp eQ => ?_
 refine Zc (Za rfl rfl (Ze rfl) (Zd (Zb (eQ _ _ ?_))))
 refine Zz ?_
 have eR := (aE.ch0 bJ).ch bK (dS P aG om)
 have b3 : Ol ics 3 1 cX (.slice ao (gV).length ap) (gV) := by
  have hx := eR
  first | exact hx | simpa using hx
 have eS := (aF.ch0 bJ).ch bK (dS Q aH om)
 have b4 : Ol GEdge.cs 129 4 cX (.slice aq (gE).length au) (gE) := by
  have hx := eS
  first | exact hx | simpa using hx
 have eT := ((F6.ch0 C9).ch0 bJ).ch bK (nS om)
 have eU := ((F7.ch0 C9).ch0 bJ).ch bK (oS om)
 have eV := ((F8.ch0 C9).ch0 bJ).ch bK (oS om)
 have eW := (((cS.ch0 C4).ch0 C9).ch0 bJ).ch bK (nS om)
 have eX := ((cT.ch0 C9).ch0 bJ).ch bK (nS om)
 refine Xk (σ := Nat × List GEdge × Value × Value) (fun ⟨i, F, vv, ev⟩ => [(2, (.pointer (some ⟨da, 0, none⟩))), (3, (.pointer (some ⟨db, 0, none⟩))), (4, (.pointer (some ⟨bI, 0, none⟩))), (6, (.pointer (some ⟨bZ, 0, none⟩))), (7, (.int .i64 ((i : Nat) : Int)))]) (fun ⟨i, F, vv, ev⟩ wx => Ch [] w wx ∧ cX.heap.size ≤ wx.heap.size ∧ (i ≤ bC.length) ∧ (apL gV gE (bC.take i) = some F) ∧ (F.length ≤ 12 + i) ∧ Blk wx da 36 [(.slice bg gV.length bh), (.slice bi gE.length bj)] ∧ Ls ics 1 wx LL_gV w.heap.size (.slice bg gV.length bh) gV ∧ Ls GEdge.cs 4 wx LL_gE w.heap.size (.slice bi gE.length bj) gE ∧ Blk wx db 63 [(.slice bs bC.length bu)] ∧ Blk wx bI 36 [(.slice none 0 0), (.slice none 0 0)] ∧ Ol ics 3 1 wx vv gV ∧ Lo W4.heap.size vv ∧ Ol GEdge.cs 129 4 wx ev F ∧ Lo W4.heap.size ev ∧ Blk wx bZ 36 [vv, ev] ∧ (bZ ∉ bl vv) ∧ (∀ g ∈ bl ev, g ∉ bl vv) ∧ (bZ ∉ bl ev)) (fun ⟨i, F, vv, ev⟩ => bC.length - i) (0, gE, (.slice ao (gV).length ap), (.slice aq (gE).length au)) (sC4 rfl rfl rfl rfl (sC1 rfl (Sub.nil _))) ⟨E, (Nat.le_refl _), om, rfl, om, eT, eU, eV, eW, eX, b3, P, b4, Q, bv, (fun hm => by have cw := P _ hm; have cx := aG _ hm; omega), (fun g hm hg => by exact ad _ hg hm), (fun hm => by have cw := Q _ hm; have cx := aH _ hm; omega)⟩ ?_
 rintro ⟨i, F, vv, ev⟩ gq ⟨E, eY, hi, hF, hl, aI, aV, aW, bk, av, a1, ay, aJ, aa, bm, dd, aK, cy⟩
 have cz := E
 have ek := cz.size
 have de := aI.lt
 have df := bk.lt
 have dg := av.lt
 obtain ⟨Avv, Cvv, rfl, lvv, bn⟩ := a1.opn
 obtain ⟨Aev, Cev, rfl, lev, hiev⟩ := aJ.opn
 refine Zf fun gr eZ => ?_
 refine Zf fun gs em => ?_
 refine Zc (Za rfl rfl (Zg rfl) (Za rfl rfl (Zh fa63_0 rfl) (Za rfl rfl (Zn bk.at_ agg61 rfl rfl) (Za rfl rfl (Yi (by rw [el61]; rfl) rfl) (Za rfl rfl (Yv rfl rfl) (Za rfl rfl (Zg rfl) ?_))))))
 refine Yz (d := 21) rfl (fun a3 => ?_) (fun a3 => ?_)
 ·have dh := a3
  have a3 := Yh a3
  refine Za rfl rfl (Zg rfl) (Za rfl rfl (Zjh rfl rfl) (Za rfl rfl (Yo rfl rfl) (Zd (Zb (em _ _ ?_)))))
  refine Zu rfl (fun a4 => ?_) (fun a4 => ?_)
  ·have di := a4
   have a4 := Yh a4
   refine Zt ?_
   refine Zb (eZ _ _ ?_)
   refine Zf fun gt cp => ?_
   refine Zz ?_
   refine Zf fun gu e0 => ?_
   refine Zc (Za rfl rfl (Zh fa63_0 rfl) (Za rfl rfl (Zn bk.at_ agg61 rfl rfl) (Za rfl rfl (Zg rfl) (Zl rfl rfl ?_))))
   have en := a0.ch0 cz
   refine (Xo en Chg.len el61 sz142 rfl rfl rfl om fun e1 a cA dj => ?_)
   refine Za rfl rfl (Zh fa142_1 rfl) (Za rfl rfl (Zbw 4 dj agg129 sz129 rfl rfl) (Zl rfl rfl ?_))
   refine Yb zr129 fun eo e2 cY ab gv => ?_
   have e3 := ab.size
   have E := E.trans ab
   have gw := cY.lt
   replace cY : Blk e2 eo 129 [(.int .i64 0), (.int .i64 0), (.int .i64 0), (.int .i64 0)] := cY
   refine Zl rfl rfl ?_
   refine Zo (off := 0) 4 cY sz129 rfl (us := [(.int .i64 a.eid), (.int .i64 a.ef), (.int .i64 a.et), (.int .i64 a.el)]) rfl rfl rfl rfl fun e4 a2 ac => ?_
   have e5 := ac.size
   have E := E.step ac (lS om)
   replace a2 : Blk e4 eo 129 [(.int .i64 a.eid), (.int .i64 a.ef), (.int .i64 a.et), (.int .i64 a.el)] := a2
   refine Zd (Zb (e0 _ _ ?_))
   refine Zf fun gx ep => ?_
   refine Zf fun gy e6 => ?_
   refine Zc (Za rfl rfl (Zh fa63_0 rfl) ?_)
   have dk := (bk.ch0 ab).ch ac (nS om)
   refine Za rfl rfl (Zn dk.at_ agg61 rfl rfl) (Za rfl rfl (Zg rfl) (Zl rfl rfl ?_))
   have e7 := (en.ch0 ab).ch ac (oS om)
   refine (Xo e7 Chg.len el61 sz142 rfl rfl rfl om fun e8 e9 p dl => ?_)
   cases Zce p cA
   refine Za rfl rfl (Zh fa142_0 rfl) (Za rfl rfl (Zn dl agg4 rfl rfl) (Zd (Zb (e6 _ _ ?_))))
   refine Zu rfl (fun b => ?_) (fun b => ?_)
   ·have dm := b
    refine Zf fun gz fa => ?_
    refine Zc ?_
    have er := (bm.ch0 ab).ch ac (nS om)
    refine Za rfl rfl (Zj er.at_ agg36 sz36 rfl) (Za rfl rfl (Zj a2.at_ agg129 sz129 rfl) (Zl rfl rfl ?_))
    have fb := (a1.ch0 ab).ch ac (dS ay bn om)
    have fc := (aJ.ch0 ab).ch ac (dS aa hiev om)
    refine Step.call (Zr (xs := [.tmp 40, .tmp 41]) fk124 rfl) (Zec fb.ls fc.ls ⟨a.eid, a.ef, a.et, a.el⟩ om) fun fd gA dn => ?_
    obtain ⟨cZ, c0, rfl, aL, s, aM, u, ae, br⟩ := dn
    have fe := br.size
    have E := E.trans br
    obtain ⟨D, G, rfl, cB, ai⟩ := aL.opn
    obtain ⟨H, I, rfl, cC, aj⟩ := aM.opn
    have ff := Zfg gV F a.edge
    refine Za rfl rfl (Zg rfl) (Za rfl rfl (Yj rfl rfl) (Za rfl rfl (Yj rfl rfl) (Zl rfl rfl ?_)))
    refine Yb zr36 fun es fg c1 bp gB => ?_
    have fh := bp.size
    have E := E.trans bp
    have gC := c1.lt
    replace c1 : Blk fg es 36 [(.slice none 0 0), (.slice none 0 0)] := c1
    refine Zl rfl rfl ?_
    refine Zo (off := 0) 2 c1 sz36 rfl (us := [(.slice D (gV).length G), (.slice H ((Qr gV F (⟨a.eid, a.ef, a.et, a.el⟩ : GEdge)).1).length I)]) rfl rfl rfl rfl fun fi bw bq => ?_
    have fj := bq.size
    have E := E.step bq (lS om)
    replace bw : Blk fi es 36 [(.slice D (gV).length G), (.slice H ((Qr gV F (⟨a.eid, a.ef, a.et, a.el⟩ : GEdge)).1).length I)] := bw
    refine Za rfl rfl (Ze rfl) (Zd (Zb (fa _ _ ?_)))
    refine Zf fun gD eu => ?_
    refine Zf fun gF fk => ?_
    refine Zc (Za rfl rfl (Zg rfl) (Za rfl rfl (Xp rfl) (Zd (Zb (fk _ _ ?_)))))
    refine Zu rfl (fun A => ?_) (fun A => ?_)
    ·have dp := A
     have A := Xv A
     refine Zf fun gG fl => ?_
     refine Zc ?_
     have fm := ((((aI.ch0 ab).ch ac (nS om)).ch0 br).ch0 bp).ch bq (nS om)
     refine Za rfl rfl (Zj fm.at_ agg36 sz36 rfl) (Zl rfl rfl ?_)
     have fn := ((((aV.ch0 ab).ch ac (oS om)).ch0 br).ch0 bp).ch bq (oS om)
     have fo := ((((aW.ch0 ab).ch ac (oS om)).ch0 br).ch0 bp).ch bq (oS om)
     refine Step.call (Zr (xs := [.tmp 47]) fk92 rfl) (Xb fn fo om) fun fp gH dq => ?_
     obtain ⟨c2, c3, rfl, aN, az, aO, aA, af, dr⟩ := dq
     have fq := dr.size
     have E := E.trans dr
     obtain ⟨R, S, rfl, cD, a5⟩ := aN.opn
     obtain ⟨T, U, rfl, cE, a6⟩ := aO.opn
     refine Zl rfl rfl ?_
     have fr := (((((av.ch0 ab).ch ac (nS om)).ch0 br).ch0 bp).ch bq (nS om)).ch0 dr
     refine Zo (off := 0) 2 fr sz36 rfl (us := [(.slice R (gV).length S), (.slice T (gE).length U)]) rfl rfl rfl rfl fun ds bz c4 => ?_
     have fs := c4.size
     have E := E.step c4 (lS om)
     replace bz : Blk ds bI 36 [(.slice R (gV).length S), (.slice T (gE).length U)] := bz
     refine Za rfl rfl (Ze rfl) (Zd (Zb (fl _ _ ?_)))
     refine Zp (Zk (Zk (Zy (Zk (Zk (Zy (Zk ?_)))))))
     clear co cp ep eu
     have ft := aN.ch c4 (dS az a5 om)
     have cF : Ol ics 3 1 ds (.slice R (gV).length S) (gV) := by
      have hx := ft
      first | exact hx | simpa using hx
     have fu := aO.ch c4 (dS aA a6 om)
     have cG : Ol GEdge.cs 129 4 ds (.slice T (gE).length U) ((apL gV gE bC).getD gE) := by
      have hx := fu
      first | exact hx.eq (by rw [Xu hF om]; rfl) | exact hx.eq (by rw [(Xf (k := i + 1) (by rw [Yy hF p]; first | exact Xt b A | exact Zba b O | exact Zay b x B | exact Xr b C))]; rfl)
     exact Zi [_, _] (Zq bz rfl agg36 sz36 ⟨rfl, trivial⟩) ⟨(.slice R (gV).length S), (.slice T (gE).length U), (congrArg (fun zq => (Value.tuple #[.agg #[(.slice R (gV).length S), (.slice T (gE).length U)], .bool zq])) (by first | (rw [(Xf (k := i + 1) (by rw [Yy hF p]; first | exact Xt b A | exact Zba b O | exact Zay b x B | exact Xr b C))]; rfl) | (rw [Xu hF om]; rfl))), cF, (Lo.down az om), cG, (Lo.down aA om), (fun g hm hg => by exact af _ hm hg), E⟩
    have dp := A
    have A := Xw A
    refine Zt ?_
    refine Zb (eu _ _ ?_)
    refine Zf fun gI fv => ?_
    refine Zc (Za rfl rfl (Zj bw.at_ agg36 sz36 rfl) (Zl rfl rfl ?_))
    have fw := ((er.ch0 br).ch0 bp).ch bq (nS om)
    refine Zo (off := 0) 2 fw sz36 rfl (us := [(.slice D (gV).length G), (.slice H ((Qr gV F (⟨a.eid, a.ef, a.et, a.el⟩ : GEdge)).1).length I)]) rfl rfl rfl rfl fun dt bA bL => ?_
    have fx := bL.size
    have E := E.step bL (lS om)
    replace bA : Blk dt bZ 36 [(.slice D (gV).length G), (.slice H ((Qr gV F (⟨a.eid, a.ef, a.et, a.el⟩ : GEdge)).1).length I)] := bA
    refine Zd (Zb (fv _ _ ?_))
    refine Xc (Zv (Ys ?_))
    refine Zb (cp _ _ (Zc (Za rfl rfl (Zg rfl) (Za rfl rfl (Yq om rfl rfl) (Za rfl rfl (Ze rfl) (Zd ?_))))))
    have fy := ((aL.ch0 bp).ch bq (dS s ai om)).ch bL (dS s ai om)
    have b5 : Ol ics 3 1 dt (.slice D (gV).length G) (gV) := by
     have hx := fy
     exact hx
    have fz := ((aM.ch0 bp).ch bq (dS u aj om)).ch bL (dS u aj om)
    have b6 : Ol GEdge.cs 129 4 dt (.slice H ((Qr gV F (⟨a.eid, a.ef, a.et, a.el⟩ : GEdge)).1).length I) ((Qr gV F (⟨a.eid, a.ef, a.et, a.el⟩ : GEdge)).1) := by
     have hx := fz
     exact hx
    have fA := (((((aI.ch0 ab).ch ac (nS om)).ch0 br).ch0 bp).ch bq (nS om)).ch bL (nS om)
    have fB := (((((aV.ch0 ab).ch ac (oS om)).ch0 br).ch0 bp).ch bq (oS om)).ch bL (oS om)
    have fC := (((((aW.ch0 ab).ch ac (oS om)).ch0 br).ch0 bp).ch bq (oS om)).ch bL (oS om)
    have fD := (((dk.ch0 br).ch0 bp).ch bq (nS om)).ch bL (nS om)
    have fE := (((((av.ch0 ab).ch ac (nS om)).ch0 br).ch0 bp).ch bq (nS om)).ch bL (nS om)
    exact Zb (Exists.intro ((i + 1), (Qr gV F (⟨a.eid, a.ef, a.et, a.el⟩ : GEdge)).1, (.slice D (gV).length G), (.slice H ((Qr gV F (⟨a.eid, a.ef, a.et, a.el⟩ : GEdge)).1).length I)) ⟨⟨E, om, om, (by rw [Yy hF p]; first | exact Zgq b A | exact Zgr b (Zgl x B) C), (by first | exact Nat.le_trans (Zfg _ _ _) om | exact Nat.le_trans (Zfh _ _ _) om), fA, fB, fC, fD, fE, b5, (Lo.down s om), b6, (Lo.down u om), bA, (fun hm => by have cw := s _ hm; have cx := ai _ hm; omega), (fun g hm hg => by exact ae _ hg hm), (fun hm => by have cw := u _ hm; have cx := aj _ hm; omega)⟩, sC4 rfl rfl rfl rfl (sC1 rfl (Sub.nil _)), (by first | omega | (dsimp only; omega))⟩)
   have dm := b
   refine Zt ?_
   refine Zb (ep _ _ ?_)
   refine Zf fun gJ fF => ?_
   refine Zc ?_
   have ew := (bm.ch0 ab).ch ac (nS om)
   refine Za rfl rfl (Zj ew.at_ agg36 sz36 rfl) (Za rfl rfl (Zh fa129_0 rfl) (Za rfl rfl (Zn a2.at_ agg3 rfl rfl) (Zl rfl rfl ?_)))
   have ex := (a1.ch0 ab).ch ac (dS ay bn om)
   have ey := (aJ.ch0 ab).ch ac (dS aa hiev om)
   refine Step.call (Zr (xs := [.tmp 50, .tmp 52]) fk99 rfl) (Zbb ex.ls ey.ls _ ) fun fG gK du => ?_
   obtain ⟨rfl, aP⟩ := du
   have fH := aP.size
   have E := E.trans aP
   have fI := Zjl F a.eid
   refine Za rfl rfl (Ze rfl) (Zd (Zb (fF _ _ ?_)))
   refine Zf fun gL dv => ?_
   refine Zf fun gM ez => ?_
   refine Xd [] 11 mixed rfl fun gN aQ => ?_
   have fJ := aQ.size
   have E := E.trans aQ
   refine dV 0 rfl rfl rfl (fun _ => Zg rfl) (dV 1 rfl rfl rfl (fun _ => Yv rfl rfl) (dV 2 rfl rfl rfl (fun _ => Zg rfl) ?_))
   refine Zbc (d := 56) rfl (fun O => ?_) (fun O => ?_)
   ·have dw := O
    have O := Yh O
    refine dK 3 rfl rfl rfl (dK 4 rfl rfl rfl (dK 5 rfl rfl rfl (dK 6 rfl rfl rfl (dK 7 rfl rfl rfl (dK 8 rfl rfl rfl (dK 9 rfl rfl rfl (dV 10 rfl rfl rfl (fun _ => Yo rfl rfl) ?_)))))))
    refine Ye (by kernel_rfl) ?_
    refine Zb (ez _ _ ?_)
    refine Xy rfl ?_
    refine Zf fun gO fK => ?_
    refine Zc ?_
    have fL := (((aI.ch0 ab).ch ac (nS om)).ch0 aP).ch0 aQ
    refine Za rfl rfl (Zj fL.at_ agg36 sz36 rfl) (Zl rfl rfl ?_)
    have fM := (((aV.ch0 ab).ch ac (oS om)).ch0 aP).ch0 aQ
    have fN := (((aW.ch0 ab).ch ac (oS om)).ch0 aP).ch0 aQ
    refine Step.call (Zr (xs := [.tmp 65]) fk92 rfl) (Xb fM fN om) fun dx gP b7 => ?_
    obtain ⟨bM, bN, rfl, q, n, r, o, m, dy⟩ := b7
    have fO := dy.size
    have E := E.trans dy
    obtain ⟨c, e, rfl, bB, ak⟩ := q.opn
    obtain ⟨h, l, rfl, bD, al⟩ := r.opn
    refine Zl rfl rfl ?_
    have fP := ((((av.ch0 ab).ch ac (nS om)).ch0 aP).ch0 aQ).ch0 dy
    refine Zo (off := 0) 2 fP sz36 rfl (us := [(.slice c (gV).length e), (.slice h (gE).length l)]) rfl rfl rfl rfl fun dz bF c5 => ?_
    have fQ := c5.size
    have E := E.step c5 (lS om)
    replace bF : Blk dz bI 36 [(.slice c (gV).length e), (.slice h (gE).length l)] := bF
    refine Za rfl rfl (Ze rfl) (Zd (Zb (fK _ _ ?_)))
    refine Zp (Zk (Zy (Zk (Zk (Zy (Zk ?_))))))
    clear co cp dv
    have fR := q.ch c5 (dS n ak om)
    have cH : Ol ics 3 1 dz (.slice c (gV).length e) (gV) := by
     have hx := fR
     first | exact hx | simpa using hx
    have fS := r.ch c5 (dS o al om)
    have cI : Ol GEdge.cs 129 4 dz (.slice h (gE).length l) ((apL gV gE bC).getD gE) := by
     have hx := fS
     first | exact hx.eq (by rw [Xu hF om]; rfl) | exact hx.eq (by rw [(Xf (k := i + 1) (by rw [Yy hF p]; first | exact Xt b A | exact Zba b O | exact Zay b x B | exact Xr b C))]; rfl)
    exact Zi [_, _] (Zq bF rfl agg36 sz36 ⟨rfl, trivial⟩) ⟨(.slice c (gV).length e), (.slice h (gE).length l), (congrArg (fun zq => (Value.tuple #[.agg #[(.slice c (gV).length e), (.slice h (gE).length l)], .bool zq])) (by first | (rw [(Xf (k := i + 1) (by rw [Yy hF p]; first | exact Xt b A | exact Zba b O | exact Zay b x B | exact Xr b C))]; rfl) | (rw [Xu hF om]; rfl))), cH, (Lo.down n om), cI, (Lo.down o om), (fun g hm hg => by exact m _ hm hg), E⟩
   have dw := O
   have O := Yg O
   refine dV 3 rfl rfl rfl (fun _ => Zh fa36_1 rfl) ?_
   have dA := (ew.ch0 aP).ch0 aQ
   refine dT 4 rfl rfl rfl (Ym dA.at_ (fun i hi => absurd hi List.not_mem_nil) agg34 rfl rfl ?_)
   refine dV 5 rfl rfl rfl (fun _ => Zg rfl) ?_
   have eA := (a2.ch0 aP).ch0 aQ
   refine dT 8 rfl rfl rfl (Yl eA.at_ (fun i hi => absurd hi List.not_mem_nil) agg129 sz129 rfl ?_)
   refine dO 6 (Yf rfl rfl rfl ?_)
   have eB := (ey.ch0 aP).ch0 aQ
   refine (Xo (j := (eiR F a.eid).toNat) eB.ls GEdge.len el34 sz129 rfl rfl om om fun fT bO x dB => ?_)
   refine ⟨(Ch.refl _ _), ?_⟩
   refine dT 7 rfl rfl rfl (Yl dB (fun i hi => absurd hi List.not_mem_nil) agg129 sz129 rfl ?_)
   refine dV 9 rfl rfl rfl (fun _ => Zng [bO.id, bO.f, bO.t, bO.label] [a.eid, a.ef, a.et, a.el] ist129 rfl rfl rfl) (dV 10 rfl rfl rfl (fun _ => Yn rfl rfl) ?_)
   refine Ye (by kernel_rfl) ?_
   refine Zb (ez _ _ ?_)
   refine Zu rfl (fun B => ?_) (fun B => ?_)
   ·have cJ := B
    have B := Yg (Xv B)
    refine Zf fun fU dC => ?_
    refine Zc ?_
    have dD := (((aI.ch0 ab).ch ac (nS om)).ch0 aP).ch0 aQ
    refine Za rfl rfl (Zj dD.at_ agg36 sz36 rfl) (Zl rfl rfl ?_)
    have dE := (((aV.ch0 ab).ch ac (oS om)).ch0 aP).ch0 aQ
    have dF := (((aW.ch0 ab).ch ac (oS om)).ch0 aP).ch0 aQ
    refine Step.call (Zr (xs := [.tmp 65]) fk92 rfl) (Xb dE dF om) fun dx fV b7 => ?_
    obtain ⟨bM, bN, rfl, q, n, r, o, m, b8⟩ := b7
    have eC := b8.size
    have E := E.trans b8
    obtain ⟨c, e, rfl, bB, ak⟩ := q.opn
    obtain ⟨h, l, rfl, bD, al⟩ := r.opn
    refine Zl rfl rfl ?_
    have dG := ((((av.ch0 ab).ch ac (nS om)).ch0 aP).ch0 aQ).ch0 b8
    refine Zo (off := 0) 2 dG sz36 rfl (us := [(.slice c (gV).length e), (.slice h (gE).length l)]) rfl rfl rfl rfl fun b9 a7 bP => ?_
    have eD := bP.size
    have E := E.step bP (lS om)
    replace a7 : Blk b9 bI 36 [(.slice c (gV).length e), (.slice h (gE).length l)] := a7
    refine Za rfl rfl (Ze rfl) (Zd (Zb (dC _ _ ?_)))
    refine Zp (Zk (Zy (Zk (Zk (Zy (Zk ?_))))))
    clear co cp dv
    have dH := q.ch bP (dS n ak om)
    have ca : Ol ics 3 1 b9 (.slice c (gV).length e) (gV) := by
     have hx := dH
     first | exact hx | simpa using hx
    have dI := r.ch bP (dS o al om)
    have cb : Ol GEdge.cs 129 4 b9 (.slice h (gE).length l) ((apL gV gE bC).getD gE) := by
     have hx := dI
     first | exact hx.eq (by rw [Xu hF om]; rfl) | exact hx.eq (by rw [(Xf (k := i + 1) (by rw [Yy hF p]; first | exact Xt b A | exact Zba b O | exact Zay b x B | exact Xr b C))]; rfl)
    exact Zi [_, _] (Zq a7 rfl agg36 sz36 ⟨rfl, trivial⟩) ⟨(.slice c (gV).length e), (.slice h (gE).length l), (congrArg (fun zq => (Value.tuple #[.agg #[(.slice c (gV).length e), (.slice h (gE).length l)], .bool zq])) (by first | (rw [(Xf (k := i + 1) (by rw [Yy hF p]; first | exact Xt b A | exact Zba b O | exact Zay b x B | exact Xr b C))]; rfl) | (rw [Xu hF om]; rfl))), ca, (Lo.down n om), cb, (Lo.down o om), (fun g hm hg => by exact m _ hm hg), E⟩
   have cJ := B
   have B := Yh (Xw B)
   refine Zt ?_
   refine Zb (dv _ _ ?_)
   refine Zf fun fW dJ => ?_
   refine Zc (Za rfl rfl (Zj dA.at_ agg36 sz36 rfl) (Za rfl rfl (Zh fa129_0 rfl) (Za rfl rfl (Zn eA.at_ agg3 rfl rfl) (Zl rfl rfl ?_))))
   have dL := (ex.ch0 aP).ch0 aQ
   refine Step.call (Zr (xs := [.tmp 68, .tmp 70]) fk125 rfl) (Zef dL.ls eB.ls _ om) fun fX fY dM => ?_
   obtain ⟨c6, c7, rfl, aR, y, aS, z, ag, aD⟩ := dM
   have eE := aD.size
   have E := E.trans aD
   obtain ⟨J, K, rfl, cK, am⟩ := aR.opn
   obtain ⟨L, M, rfl, cL, an⟩ := aS.opn
   have fZ := Zfh gV F a.eid
   refine Za rfl rfl (Zg rfl) (Za rfl rfl (Yj rfl rfl) (Za rfl rfl (Yj rfl rfl) (Zl rfl rfl ?_)))
   refine Yb zr36 fun cM dN bQ aw f0 => ?_
   have eF := aw.size
   have E := E.trans aw
   have f1 := bQ.lt
   replace bQ : Blk dN cM 36 [(.slice none 0 0), (.slice none 0 0)] := bQ
   refine Zl rfl rfl ?_
   refine Zo (off := 0) 2 bQ sz36 rfl (us := [(.slice J (gV).length K), (.slice L ((delR gV F a.eid).1).length M)]) rfl rfl rfl rfl fun dP a8 ax => ?_
   have eG := ax.size
   have E := E.step ax (lS om)
   replace a8 : Blk dP cM 36 [(.slice J (gV).length K), (.slice L ((delR gV F a.eid).1).length M)] := a8
   refine Za rfl rfl (Ze rfl) (Zd (Zb (dJ _ _ ?_)))
   refine Zf fun f2 cN => ?_
   refine Zf fun f3 dQ => ?_
   refine Zc (Za rfl rfl (Zg rfl) (Za rfl rfl (Xp rfl) (Zd (Zb (dQ _ _ ?_)))))
   refine Zu rfl (fun C => ?_) (fun C => ?_)
   ·have cO := C
    have C := Xv C
    refine Zf fun f4 dR => ?_
    refine Zc ?_
    have dU := ((((((aI.ch0 ab).ch ac (nS om)).ch0 aP).ch0 aQ).ch0 aD).ch0 aw).ch ax (nS om)
    refine Za rfl rfl (Zj dU.at_ agg36 sz36 rfl) (Zl rfl rfl ?_)
    have dW := ((((((aV.ch0 ab).ch ac (oS om)).ch0 aP).ch0 aQ).ch0 aD).ch0 aw).ch ax (oS om)
    have dX := ((((((aW.ch0 ab).ch ac (oS om)).ch0 aP).ch0 aQ).ch0 aD).ch0 aw).ch ax (oS om)
    refine Step.call (Zr (xs := [.tmp 76]) fk92 rfl) (Xb dW dX om) fun f5 f6 dY => ?_
    obtain ⟨c8, c9, rfl, aT, aB, aU, aC, ah, cc⟩ := dY
    have eH := cc.size
    have E := E.trans cc
    obtain ⟨V, X, rfl, cP, a9⟩ := aT.opn
    obtain ⟨Y, Z, rfl, cQ, ba⟩ := aU.opn
    refine Zl rfl rfl ?_
    have dZ := (((((((av.ch0 ab).ch ac (nS om)).ch0 aP).ch0 aQ).ch0 aD).ch0 aw).ch ax (nS om)).ch0 cc
    refine Zo (off := 0) 2 dZ sz36 rfl (us := [(.slice V (gV).length X), (.slice Y (gE).length Z)]) rfl rfl rfl rfl fun cd bb bR => ?_
    have eI := bR.size
    have E := E.step bR (lS om)
    replace bb : Blk cd bI 36 [(.slice V (gV).length X), (.slice Y (gE).length Z)] := bb
    refine Za rfl rfl (Ze rfl) (Zd (Zb (dR _ _ ?_)))
    refine Zp (Zk (Zy (Zk (Zk (Zy (Zk ?_))))))
    clear co cp cN
    have d0 := aT.ch bR (dS aB a9 om)
    have ce : Ol ics 3 1 cd (.slice V (gV).length X) (gV) := by
     have hx := d0
     first | exact hx | simpa using hx
    have d1 := aU.ch bR (dS aC ba om)
    have cf : Ol GEdge.cs 129 4 cd (.slice Y (gE).length Z) ((apL gV gE bC).getD gE) := by
     have hx := d1
     first | exact hx.eq (by rw [Xu hF om]; rfl) | exact hx.eq (by rw [(Xf (k := i + 1) (by rw [Yy hF p]; first | exact Xt b A | exact Zba b O | exact Zay b x B | exact Xr b C))]; rfl)
    exact Zi [_, _] (Zq bb rfl agg36 sz36 ⟨rfl, trivial⟩) ⟨(.slice V (gV).length X), (.slice Y (gE).length Z), (congrArg (fun zq => (Value.tuple #[.agg #[(.slice V (gV).length X), (.slice Y (gE).length Z)], .bool zq])) (by first | (rw [(Xf (k := i + 1) (by rw [Yy hF p]; first | exact Xt b A | exact Zba b O | exact Zay b x B | exact Xr b C))]; rfl) | (rw [Xu hF om]; rfl))), ce, (Lo.down aB om), cf, (Lo.down aC om), (fun g hm hg => by exact ah _ hm hg), E⟩
   have cO := C
   have C := Xw C
   refine Zt ?_
   refine Zb (cN _ _ (Zc (Za rfl rfl (Zj a8.at_ agg36 sz36 rfl) (Zl rfl rfl ?_))))
   have d2 := ((dA.ch0 aD).ch0 aw).ch ax (nS om)
   refine Zo (off := 0) 2 d2 sz36 rfl (us := [(.slice J (gV).length K), (.slice L ((delR gV F a.eid).1).length M)]) rfl rfl rfl rfl fun cg bc aX => ?_
   have eJ := aX.size
   have E := E.step aX (lS om)
   replace bc : Blk cg bZ 36 [(.slice J (gV).length K), (.slice L ((delR gV F a.eid).1).length M)] := bc
   refine Zd (Yr (Zb (cp _ _ (Zc (Za rfl rfl (Zg rfl) (Za rfl rfl (Yq om rfl rfl) (Za rfl rfl (Ze rfl) (Zd ?_))))))))
   have d3 := ((aR.ch0 aw).ch ax (dS y am om)).ch aX (dS y am om)
   have bS : Ol ics 3 1 cg (.slice J (gV).length K) (gV) := by
    have hx := d3
    exact hx
   have d4 := ((aS.ch0 aw).ch ax (dS z an om)).ch aX (dS z an om)
   have bT : Ol GEdge.cs 129 4 cg (.slice L ((delR gV F a.eid).1).length M) ((delR gV F a.eid).1) := by
    have hx := d4
    exact hx
   have d5 := (((((((aI.ch0 ab).ch ac (nS om)).ch0 aP).ch0 aQ).ch0 aD).ch0 aw).ch ax (nS om)).ch aX (nS om)
   have d6 := (((((((aV.ch0 ab).ch ac (oS om)).ch0 aP).ch0 aQ).ch0 aD).ch0 aw).ch ax (oS om)).ch aX (oS om)
   have d7 := (((((((aW.ch0 ab).ch ac (oS om)).ch0 aP).ch0 aQ).ch0 aD).ch0 aw).ch ax (oS om)).ch aX (oS om)
   have d8 := (((((dk.ch0 aP).ch0 aQ).ch0 aD).ch0 aw).ch ax (nS om)).ch aX (nS om)
   have d9 := (((((((av.ch0 ab).ch ac (nS om)).ch0 aP).ch0 aQ).ch0 aD).ch0 aw).ch ax (nS om)).ch aX (nS om)
   exact Zb (Exists.intro ((i + 1), (delR gV F a.eid).1, (.slice J (gV).length K), (.slice L ((delR gV F a.eid).1).length M)) ⟨⟨E, om, om, (by rw [Yy hF p]; first | exact Zgq b A | exact Zgr b (Zgl x B) C), (by first | exact Nat.le_trans (Zfg _ _ _) om | exact Nat.le_trans (Zfh _ _ _) om), d5, d6, d7, d8, d9, bS, (Lo.down y om), bT, (Lo.down z om), bc, (fun hm => by have cw := y _ hm; have cx := am _ hm; omega), (fun g hm hg => by exact ag _ hg hm), (fun hm => by have cw := z _ hm; have cx := an _ hm; omega)⟩, sC4 rfl rfl rfl rfl (sC1 rfl (Sub.nil _)), (by first | omega | (dsimp only; omega))⟩)
  have di := a4
  have a4 := Yg a4
  refine Xc (Zv (Zv (Ys ?_)))
  refine Zb (co _ _ ?_)
  refine Zf fun f7 ea => ?_
  refine Zc (Za rfl rfl (Zj bm.at_ agg36 sz36 rfl) (Zl rfl rfl ?_))
  refine Zo (off := 0) 2 av sz36 rfl (us := [(.slice Avv (gV).length Cvv), (.slice Aev (F).length Cev)]) rfl rfl rfl rfl fun ci be bU => ?_
  have eK := bU.size
  have E := E.step bU (lS om)
  replace be : Blk ci bI 36 [(.slice Avv (gV).length Cvv), (.slice Aev (F).length Cev)] := be
  refine Za rfl rfl (Ze rfl) (Zd (Zb (ea _ _ ?_)))
  refine Zp ?_
  have eb := a1.ch bU (dS ay bn om)
  have cj : Ol ics 3 1 ci (.slice Avv (gV).length Cvv) (gV) := by
   have hx := eb
   first | exact hx | simpa using hx
  have ec := aJ.ch bU (dS aa hiev om)
  have ck : Ol GEdge.cs 129 4 ci (.slice Aev (F).length Cev) ((apL gV gE bC).getD gE) := by
   have hx := ec
   first | exact hx.eq (by rw [Xu hF om]; rfl) | exact hx.eq (by rw [(Xf (k := i + 1) (by rw [Yy hF p]; first | exact Xt b A | exact Zba b O | exact Zay b x B | exact Xr b C))]; rfl)
  exact Zi [_, _] (Zq be rfl agg36 sz36 ⟨rfl, trivial⟩) ⟨(.slice Avv (gV).length Cvv), (.slice Aev (F).length Cev), (congrArg (fun zq => (Value.tuple #[.agg #[(.slice Avv (gV).length Cvv), (.slice Aev (F).length Cev)], .bool zq])) (by first | (rw [(Xf (k := i + 1) (by rw [Yy hF p]; first | exact Xt b A | exact Zba b O | exact Zay b x B | exact Xr b C))]; rfl) | (rw [Xu hF om]; rfl))), cj, (Lo.down ay om), ck, (Lo.down aa om), (fun g hm hg => by exact aK _ hg hm), E⟩
 have dh := a3
 have a3 := Yg a3
 refine Zm rfl rfl (Zm rfl rfl (Za rfl rfl (Yn rfl rfl) (Zd (Zb (em _ _ ?_)))))
 refine Zdf rfl ?_
 refine Xc (Zv (Zv (Ys ?_)))
 refine Zb (co _ _ ?_)
 refine Zf fun f8 ed => ?_
 refine Zc (Za rfl rfl (Zj bm.at_ agg36 sz36 rfl) (Zl rfl rfl ?_))
 refine Zo (off := 0) 2 av sz36 rfl (us := [(.slice Avv (gV).length Cvv), (.slice Aev (F).length Cev)]) rfl rfl rfl rfl fun cl bf bV => ?_
 have eL := bV.size
 have E := E.step bV (lS om)
 replace bf : Blk cl bI 36 [(.slice Avv (gV).length Cvv), (.slice Aev (F).length Cev)] := bf
 refine Za rfl rfl (Ze rfl) (Zd (Zb (ed _ _ ?_)))
 refine Zp ?_
 have ee := a1.ch bV (dS ay bn om)
 have cm : Ol ics 3 1 cl (.slice Avv (gV).length Cvv) (gV) := by
  have hx := ee
  first | exact hx | simpa using hx
 have eg := aJ.ch bV (dS aa hiev om)
 have cn : Ol GEdge.cs 129 4 cl (.slice Aev (F).length Cev) ((apL gV gE bC).getD gE) := by
  have hx := eg
  first | exact hx.eq (by rw [Xu hF om]; rfl) | exact hx.eq (by rw [(Xf (k := i + 1) (by rw [Yy hF p]; first | exact Xt b A | exact Zba b O | exact Zay b x B | exact Xr b C))]; rfl)
 exact Zi [_, _] (Zq bf rfl agg36 sz36 ⟨rfl, trivial⟩) ⟨(.slice Avv (gV).length Cvv), (.slice Aev (F).length Cev), (congrArg (fun zq => (Value.tuple #[.agg #[(.slice Avv (gV).length Cvv), (.slice Aev (F).length Cev)], .bool zq])) (by first | (rw [(Xf (k := i + 1) (by rw [Yy hF p]; first | exact Xt b A | exact Zba b O | exact Zay b x B | exact Xr b C))]; rfl) | (rw [Xu hF om]; rfl))), cm, (Lo.down ay om), cn, (Lo.down aa om), (fun g hm hg => by exact aK _ hg hm), E⟩

/-- spec.ApplyBatch -/
theorem Zcd {w : World} {LL_gV ai : Nat} {T : Value} {gV : List Int} (C : Ls ics 1 w LL_gV ai T gV) {LL_gE aj : Nat} {U : Value} {gE : List GEdge} (D : Ls GEdge.cs 4 w LL_gE aj U gE) {LL_bC ak : Nat} {V : Value} {bC : List Chg} (F : Ls Chg.cs 5 w LL_bC ak V bC) (hb : gV.length ≤ 4194304 ∧ gE.length ≤ 4194304) :
 Ctr Try.prog 37 #[(.agg #[T, U]), (.agg #[V])] w (fun v w' => ∃ (P : Value) (Q : Value), v = .tuple #[.agg #[P, Q], .bool (tt (ApOk gV gE bC 6))] ∧ Ol ics 3 1 w' P (gV) ∧ Lo w.heap.size P ∧ Ol GEdge.cs 129 4 w' Q ((apE gV gE bC 6)) ∧ Lo w.heap.size Q ∧ (∀ g ∈ bl P, g ∉ bl Q) ∧ Ch [] w w') := by
 obtain ⟨X, Y, ad⟩ := C.val
 subst ad
 have aR := C.len
 have C := C.here (by decide)
 obtain ⟨Z, aa, ae⟩ := D.val
 subst ae
 have aS := D.len
 have D := D.here (by decide)
 obtain ⟨ab, ac, af⟩ := F.val
 subst af
 have aT := F.len
 have F := F.here (by decide)
 have E := Ch.refl [] w
 refine Zx (N := 27) (vs0 := [(.agg #[(.slice X gV.length Y), (.slice Z gE.length aa)]), (.agg #[(.slice ab bC.length ac)])]) Try.func37 rfl rfl rfl ?_
 refine Zf fun K1 H1 => ?_
 refine Zc (Zl rfl rfl ?_)
 refine Yw rfl fun aW W2 ay C2 bG => ?_
 have bH := C2.size
 have E := E.trans C2
 have bI := ay.lt
 replace ay : Blk W2 aW 36 [(.slice X gV.length Y), (.slice Z gE.length aa)] := ay
 refine Zl rfl rfl ?_
 refine Yw rfl fun aX W3 az C3 bJ => ?_
 have bK := C3.size
 have E := E.trans C3
 have bL := az.lt
 replace az : Blk W3 aX 63 [(.slice ab bC.length ac)] := az
 refine Zl rfl rfl ?_
 refine Yb zr36 fun aA W4 ah C4 bM => ?_
 have bN := C4.size
 have E := E.trans C4
 have bO := ah.lt
 replace ah : Blk W4 aA 36 [(.slice none 0 0), (.slice none 0 0)] := ah
 refine Za rfl rfl (Ze rfl) (Zd (Zb (H1 _ _ ?_)))
 refine Zf fun K5 H5 => ?_
 refine Zf fun K6 H6 => ?_
 refine Zc ?_
 have F7 := (ay.ch0 C3).ch0 C4
 refine Za rfl rfl (Zj F7.at_ agg36 sz36 rfl) (Zl rfl rfl ?_)
 have F8 := ((C.ch0 C2).ch0 C3).ch0 C4
 have F9 := ((D.ch0 C2).ch0 C3).ch0 C4
 refine Step.call (Zr (xs := [.tmp 8]) fk88 rfl) (Zab F8 F9 ) fun bP bQ aY => ?_
 obtain ⟨rfl, G⟩ := aY
 have aZ := G.size
 have E := E.trans G
 refine Za rfl rfl (Xp rfl) (Za rfl rfl (Zg rfl) ?_)
 refine Yz (d := 11) rfl (fun p => ?_) (fun p => ?_)
 ·have aH := p
  have p := bf_t (Xv p)
  refine Zm rfl rfl (Zm rfl rfl (Zm rfl rfl (Zm rfl rfl (Za rfl rfl (Yo rfl rfl) (Zd (Zb (H6 _ _ ?_)))))))
  refine Xy rfl ?_
  refine Zf fun bR a0 => ?_
  refine Zc ?_
  have a1 := F7.ch0 G
  refine Za rfl rfl (Zj a1.at_ agg36 sz36 rfl) (Zl rfl rfl ?_)
  have a2 := F8.ch0 G
  have a3 := F9.ch0 G
  refine Step.call (Zr (xs := [.tmp 17]) fk92 rfl) (Xb a2 a3 om) fun aI bS ag => ?_
  obtain ⟨R, S, rfl, j, h, k, i, f, aJ⟩ := ag
  have a4 := aJ.size
  have E := E.trans aJ
  obtain ⟨a, b, rfl, I, u⟩ := j.opn
  obtain ⟨c, e, rfl, J, x⟩ := k.opn
  refine Zl rfl rfl ?_
  have a5 := (ah.ch0 G).ch0 aJ
  refine Zo (off := 0) 2 a5 sz36 rfl (us := [(.slice a (gV).length b), (.slice c (gE).length e)]) rfl rfl rfl rfl fun aK K aB => ?_
  have a6 := aB.size
  have E := E.step aB (lS om)
  replace K : Blk aK aA 36 [(.slice a (gV).length b), (.slice c (gE).length e)] := K
  refine Za rfl rfl (Ze rfl) (Zd (Zb (a0 _ _ ?_)))
  refine Zp (Zk ?_)
  have a7 := j.ch aB (dS h u om)
  have al : Ol ics 3 1 aK (.slice a (gV).length b) (gV) := by
   have hx := a7
   first | exact hx | simpa using hx
  have a8 := k.ch aB (dS i x om)
  have am : Ol GEdge.cs 129 4 aK (.slice c (gE).length e) ((apE gV gE bC 6)) := by
   have hx := a8
   first | exact hx.eq (ap_n (by first | exact fun q => p q.1 | exact fun q => absurd q.2.1 om)).1.symm | exact hx.eq (Zgi p om).1.symm
  exact Zi [_, _] (Zq K rfl agg36 sz36 ⟨rfl, trivial⟩) ⟨(.slice a (gV).length b), (.slice c (gE).length e), (congrArg (fun zq => (Value.tuple #[.agg #[(.slice a (gV).length b), (.slice c (gE).length e)], .bool zq])) (by first | exact (ap_n (by first | exact fun q => p q.1 | exact fun q => absurd q.2.1 om)).2.symm | exact (Zgi p om).2.symm)), al, (Lo.down h om), am, (Lo.down i om), (fun g hm hg => by exact f _ hm hg), E⟩
 have aH := p
 have p := bt_t (Xw p)
 refine Za rfl rfl (Zh fa63_0 rfl) ?_
 have aU := (az.ch0 C4).ch0 G
 refine Za rfl rfl (Zn aU.at_ agg61 rfl rfl) (Za rfl rfl (Yi (by rw [el61]; rfl) rfl) (Za rfl rfl (Zeo rfl rfl) (Za rfl rfl (Yn rfl rfl) (Zd (Zb (H6 _ _ ?_))))))
 refine Zu rfl (fun H => ?_) (fun H => ?_)
 ·have aL := H
  have H := Yh H
  refine Zf fun bT a9 => ?_
  refine Zc ?_
  have ba := F7.ch0 G
  refine Za rfl rfl (Zj ba.at_ agg36 sz36 rfl) (Zl rfl rfl ?_)
  have bb := F8.ch0 G
  have bc := F9.ch0 G
  refine Step.call (Zr (xs := [.tmp 17]) fk92 rfl) (Xb bb bc om) fun aI bU ag => ?_
  obtain ⟨R, S, rfl, j, h, k, i, f, aM⟩ := ag
  have be := aM.size
  have E := E.trans aM
  obtain ⟨a, b, rfl, I, u⟩ := j.opn
  obtain ⟨c, e, rfl, J, x⟩ := k.opn
  refine Zl rfl rfl ?_
  have bf := (ah.ch0 G).ch0 aM
  refine Zo (off := 0) 2 bf sz36 rfl (us := [(.slice a (gV).length b), (.slice c (gE).length e)]) rfl rfl rfl rfl fun aN L aC => ?_
  have bg := aC.size
  have E := E.step aC (lS om)
  replace L : Blk aN aA 36 [(.slice a (gV).length b), (.slice c (gE).length e)] := L
  refine Za rfl rfl (Ze rfl) (Zd (Zb (a9 _ _ ?_)))
  refine Zp (Zk ?_)
  have bh := j.ch aC (dS h u om)
  have an : Ol ics 3 1 aN (.slice a (gV).length b) (gV) := by
   have hx := bh
   first | exact hx | simpa using hx
  have bi := k.ch aC (dS i x om)
  have ao : Ol GEdge.cs 129 4 aN (.slice c (gE).length e) ((apE gV gE bC 6)) := by
   have hx := bi
   first | exact hx.eq (ap_n (by first | exact fun q => p q.1 | exact fun q => absurd q.2.1 om)).1.symm | exact hx.eq (Zgi p om).1.symm
  exact Zi [_, _] (Zq L rfl agg36 sz36 ⟨rfl, trivial⟩) ⟨(.slice a (gV).length b), (.slice c (gE).length e), (congrArg (fun zq => (Value.tuple #[.agg #[(.slice a (gV).length b), (.slice c (gE).length e)], .bool zq])) (by first | exact (ap_n (by first | exact fun q => p q.1 | exact fun q => absurd q.2.1 om)).2.symm | exact (Zgi p om).2.symm)), an, (Lo.down h om), ao, (Lo.down i om), (fun g hm hg => by exact f _ hm hg), E⟩
 have aL := H
 have H := Yg H
 refine Zt ?_
 refine Zb (H5 _ _ ?_)
 refine Zf fun bV bj => ?_
 refine Zc ?_
 have bk := F7.ch0 G
 refine Za rfl rfl (Zj bk.at_ agg36 sz36 rfl) (Za rfl rfl (Zj aU.at_ agg63 sz63 rfl) (Zl rfl rfl ?_))
 have bm := F8.ch0 G
 have bn := F9.ch0 G
 have bp := (((F.ch0 C2).ch0 C3).ch0 C4).ch0 G
 refine Step.call (Zr (xs := [.tmp 20, .tmp 21]) fk93 rfl) (Zgb bm bn bp p om) fun bq bW aO => ?_
 obtain ⟨aD, aE, rfl, y, r, z, s, t, aP⟩ := aO
 have br := aP.size
 have E := E.trans aP
 obtain ⟨l, m, rfl, ap, A⟩ := y.opn
 obtain ⟨n, o, rfl, aq, B⟩ := z.opn
 refine Za rfl rfl (Zg rfl) (Za rfl rfl (Yj rfl rfl) (Za rfl rfl (Yj rfl rfl) (Zl rfl rfl ?_)))
 refine Yb zr36 fun aV bs aF au bX => ?_
 have bu := au.size
 have E := E.trans au
 have bY := aF.lt
 replace aF : Blk bs aV 36 [(.slice none 0 0), (.slice none 0 0)] := aF
 refine Zl rfl rfl ?_
 refine Zo (off := 0) 2 aF sz36 rfl (us := [(.slice l (gV).length m), (.slice n ((apL gV gE bC).getD gE).length o)]) rfl rfl rfl rfl fun bv M av => ?_
 have bw := av.size
 have E := E.step av (lS om)
 replace M : Blk bv aV 36 [(.slice l (gV).length m), (.slice n ((apL gV gE bC).getD gE).length o)] := M
 refine Za rfl rfl (Ze rfl) (Zd (Zb (bj _ _ ?_)))
 refine Zf fun bZ bz => ?_
 refine Zc (Za rfl rfl (Zj M.at_ agg36 sz36 rfl) (Za rfl rfl (Zg rfl) (Zl rfl rfl ?_)))
 have bA := (((ah.ch0 G).ch0 aP).ch0 au).ch av (nS om)
 refine Zo (off := 0) 2 bA sz36 rfl (us := [(.slice l (gV).length m), (.slice n ((apL gV gE bC).getD gE).length o)]) rfl rfl rfl rfl fun aQ O aG => ?_
 have bB := aG.size
 have E := E.step aG (lS om)
 replace O : Blk aQ aA 36 [(.slice l (gV).length m), (.slice n ((apL gV gE bC).getD gE).length o)] := O
 refine Za rfl rfl (Ze rfl) (Zd (Zb (bz _ _ ?_)))
 refine Zp ?_
 have bD := ((y.ch0 au).ch av (dS r A om)).ch aG (dS r A om)
 have aw : Ol ics 3 1 aQ (.slice l (gV).length m) (gV) := by
  have hx := bD
  first | exact hx | simpa using hx
 have bF := ((z.ch0 au).ch av (dS s B om)).ch aG (dS s B om)
 have ax : Ol GEdge.cs 129 4 aQ (.slice n ((apL gV gE bC).getD gE).length o) ((apE gV gE bC 6)) := by
  have hx := bF
  first | exact hx.eq (ap_n (by first | exact fun q => p q.1 | exact fun q => absurd q.2.1 om)).1.symm | exact hx.eq (Zgi p om).1.symm
 exact Zi [_, _] (Zq O rfl agg36 sz36 ⟨rfl, trivial⟩) ⟨(.slice l (gV).length m), (.slice n ((apL gV gE bC).getD gE).length o), (congrArg (fun zq => (Value.tuple #[.agg #[(.slice l (gV).length m), (.slice n ((apL gV gE bC).getD gE).length o)], .bool zq])) (by first | exact (ap_n (by first | exact fun q => p q.1 | exact fun q => absurd q.2.1 om)).2.symm | exact (Zgi p om).2.symm)), aw, (Lo.down r om), ax, (Lo.down s om), (fun g hm hg => by exact t _ hm hg), E⟩

/-- spec.l2Cmp -/
theorem Zhx {w : World} {LL_a G : Nat} {t : Value} {a : List Int} (q : Ls ics 1 w LL_a G t a) {LL_b H : Nat} {u : Value} {b : List Int} (r : Ls ics 1 w LL_b H u b) :
 Ctr Try.prog 89 #[t, u] w (fun v w' => v = .int .i64 (cmpL a b) ∧ Ch [] w w') := by
 obtain ⟨x, y, z⟩ := q.val
 subst z
 have ac := q.len
 have q := q.here (by decide)
 obtain ⟨A, B, C⟩ := r.val
 subst C
 have ad := r.len
 have r := r.here (by decide)
 have E := Ch.refl [] w
 refine Zx (N := 46) (vs0 := [(.slice x a.length y), (.slice A b.length B)]) Try.func89 rfl rfl rfl ?_
 refine Zf fun K1 H1 => ?_
 refine Zc (Za rfl rfl (Ze rfl) (Zd (Zb (H1 _ _ ?_))))
 refine Zf fun K2 H2 => ?_
 refine Zf fun K3 H3 => ?_
 refine Zc (Za rfl rfl (Ze rfl) (Zd (Zb (H3 _ _ ?_))))
 refine Zz ?_
 refine Xk (σ := Nat) (fun (k : Nat) => [(0, (.slice x a.length y)), (1, (.slice A b.length B)), (5, (.int .i64 ((k : Nat) : Int)))]) (fun (k : Nat) wx => Ch [] w wx ∧ w.heap.size ≤ wx.heap.size ∧ (k ≤ a.length) ∧ (k ≤ b.length) ∧ (a.take k = b.take k)) (fun (k : Nat) => a.length - k) 0 (sC2 rfl rfl (sC1 rfl (Sub.nil _))) ⟨E, (Nat.le_refl _), om, om, rfl⟩ ?_
 rintro k R4 ⟨E, ae, aL, af, n⟩
 have s := E
 have T := s.size
 refine Zf fun K5 H5 => ?_
 refine Zf fun K6 H6 => ?_
 refine Zc (Za rfl rfl (Zg rfl) (Za rfl rfl (Zg rfl) (Za rfl rfl (Yi (by rw [el22]; rfl) rfl) (Za rfl rfl (Yv rfl rfl) (Za rfl rfl (Zg rfl) ?_)))))
 refine Yz (d := 10) rfl (fun o => ?_) (fun o => ?_)
 ·have ag := o
  have o := Yh o
  refine Za rfl rfl (Zg rfl) (Za rfl rfl (Zg rfl) (Za rfl rfl (Yi (by rw [el22]; rfl) rfl) (Za rfl rfl (Yv rfl rfl) (Za rfl rfl (Yo rfl rfl) (Zd (Zb (H6 _ _ ?_)))))))
  refine Zu rfl (fun p => ?_) (fun p => ?_)
  ·have ah := p
   have p := Yh p
   refine Zt ?_
   refine Zb (H5 _ _ ?_)
   refine Zf fun K9 H9 => ?_
   refine Zz ?_
   refine Zf fun aM U => ?_
   refine Zf fun aN ai => ?_
   refine Xd [] 9 mixed rfl fun aO D => ?_
   have aj := D.size
   have E := E.trans D
   refine dV 0 rfl rfl rfl (fun _ => Zg rfl) (dV 1 rfl rfl rfl (fun _ => Zg rfl) ?_)
   have V := (q.ch0 s).ch0 D
   refine dT 2 rfl rfl rfl (Xj V Qz el22 sz3 rfl rfl rfl om fun ak al c I => ?_)
   refine dT 3 rfl rfl rfl (Zav I (fun i hi => absurd hi List.not_mem_nil) agg3 rfl rfl ?_)
   refine dV 4 rfl rfl rfl (fun _ => Zg rfl) (dV 5 rfl rfl rfl (fun _ => Zg rfl) ?_)
   have X := (r.ch0 s).ch0 D
   refine dT 6 rfl rfl rfl (Xj X Qz el22 sz3 rfl rfl rfl om fun am an e J => ?_)
   refine dT 7 rfl rfl rfl (Zav J (fun i hi => absurd hi List.not_mem_nil) agg3 rfl rfl ?_)
   refine dV 8 rfl rfl rfl (fun _ => Yv rfl rfl) ?_
   refine Ye (by kernel_rfl) ?_
   refine Zb (ai _ _ ?_)
   refine Zu rfl (fun f => ?_) (fun f => ?_)
   ·have K := f
    have f := Yh f
    refine Zf fun aP ao => ?_
    refine Zc (Za rfl rfl (Ze rfl) (Zd (Zb (ao _ _ ?_))))
    refine Zp (Zk (Zy (Zk (Zk (Zy (Zk ?_))))))
    clear H2 H9 U
    exact Zi [_] ⟨rfl, trivial⟩ ⟨congrArg (Value.int .i64) (by first | exact Zcq n c e f | exact Zcp n l m g | (have hc := Zbk n om om om; rw [hc]; first | (rw [if_pos om]; done) | (rw [if_neg om, if_pos om]; done) | (rw [if_neg om, if_neg om]; done))), E⟩
   have K := f
   have f := Yg f
   refine Zt ?_
   refine Zb (U _ _ ?_)
   refine Zf fun aQ ap => ?_
   refine Xd [] 9 mixed rfl fun aR F => ?_
   have aq := F.size
   have E := E.trans F
   refine dV 0 rfl rfl rfl (fun _ => Zg rfl) (dV 1 rfl rfl rfl (fun _ => Zg rfl) ?_)
   have au := V.ch0 F
   refine dT 2 rfl rfl rfl (Xj au Qz el22 sz3 rfl rfl rfl om fun av aw l L => ?_)
   refine dT 3 rfl rfl rfl (Zav L (fun i hi => absurd hi List.not_mem_nil) agg3 rfl rfl ?_)
   refine dV 4 rfl rfl rfl (fun _ => Zg rfl) (dV 5 rfl rfl rfl (fun _ => Zg rfl) ?_)
   have ax := X.ch0 F
   refine dT 6 rfl rfl rfl (Xj ax Qz el22 sz3 rfl rfl rfl om fun ay az m M => ?_)
   refine dT 7 rfl rfl rfl (Zav M (fun i hi => absurd hi List.not_mem_nil) agg3 rfl rfl ?_)
   refine dV 8 rfl rfl rfl (fun _ => Zeo rfl rfl) ?_
   refine Ye (by kernel_rfl) ?_
   refine Zb (ap _ _ ?_)
   refine Zu rfl (fun g => ?_) (fun g => ?_)
   ·have O := g
    have g := Yh g
    refine Zf fun aS aA => ?_
    refine Zc (Za rfl rfl (Ze rfl) (Zd (Zb (aA _ _ ?_))))
    refine Zp (Zy (Zk (Zk (Zy (Zk ?_)))))
    clear H2 H9
    exact Zi [_] ⟨rfl, trivial⟩ ⟨congrArg (Value.int .i64) (by first | exact Zcq n c e f | exact Zcp n l m g | (have hc := Zbk n om om om; rw [hc]; first | (rw [if_pos om]; done) | (rw [if_neg om, if_pos om]; done) | (rw [if_neg om, if_neg om]; done))), E⟩
   have O := g
   have g := Yg g
   refine Zt ?_
   refine Yr (Zb (H9 _ _ (Zc (Za rfl rfl (Zg rfl) (Za rfl rfl (Yq om rfl rfl) (Za rfl rfl (Ze rfl) (Zd ?_)))))))
   exact Zb (Exists.intro (k + 1) ⟨⟨E, om, om, om, (Zam n c e (by have aT := Zce c l; have aU := Zce e m; omega))⟩, sC2 rfl rfl (sC1 rfl (Sub.nil _)), (by first | omega | (dsimp only; omega))⟩)
  have ah := p
  have p := Yg p
  refine Xc (Zv (Zv (Ys ?_)))
  refine Zb (H2 _ _ ?_)
  refine Zf fun aV Y => ?_
  refine Zf fun aW aB => ?_
  refine Zc (Za rfl rfl (Zg rfl) (Za rfl rfl (Yi (by rw [el22]; rfl) rfl) (Za rfl rfl (Zg rfl) (Za rfl rfl (Yi (by rw [el22]; rfl) rfl) (Za rfl rfl (Yv rfl rfl) (Zd (Zb (aB _ _ ?_))))))))
  refine Zu rfl (fun h => ?_) (fun h => ?_)
  ·have P := h
   have h := Yh h
   refine Zf fun aX aC => ?_
   refine Zc (Za rfl rfl (Ze rfl) (Zd (Zb (aC _ _ ?_))))
   refine Zp (Zk ?_)
   clear H5 Y
   exact Zi [_] ⟨rfl, trivial⟩ ⟨congrArg (Value.int .i64) (by first | exact Zcq n c e f | exact Zcp n l m g | (have hc := Zbk n om om om; rw [hc]; first | (rw [if_pos om]; done) | (rw [if_neg om, if_pos om]; done) | (rw [if_neg om, if_neg om]; done))), E⟩
  have P := h
  have h := Yg h
  refine Zt ?_
  refine Zb (Y _ _ ?_)
  refine Zf fun aY Z => ?_
  refine Zf fun aZ aD => ?_
  refine Zc (Za rfl rfl (Zg rfl) (Za rfl rfl (Yi (by rw [el22]; rfl) rfl) (Za rfl rfl (Zg rfl) (Za rfl rfl (Yi (by rw [el22]; rfl) rfl) (Za rfl rfl (Zeo rfl rfl) (Zd (Zb (aD _ _ ?_))))))))
  refine Zu rfl (fun j => ?_) (fun j => ?_)
  ·have Q := j
   have j := Yh j
   refine Zf fun a0 aE => ?_
   refine Zc (Za rfl rfl (Ze rfl) (Zd (Zb (aE _ _ ?_))))
   refine Zp (Zk ?_)
   clear H5 Z
   exact Zi [_] ⟨rfl, trivial⟩ ⟨congrArg (Value.int .i64) (by first | exact Zcq n c e f | exact Zcp n l m g | (have hc := Zbk n om om om; rw [hc]; first | (rw [if_pos om]; done) | (rw [if_neg om, if_pos om]; done) | (rw [if_neg om, if_neg om]; done))), E⟩
  have Q := j
  have j := Yg j
  refine Zt ?_
  refine Zb (Z _ _ ?_)
  refine Zf fun a1 aF => ?_
  refine Zc (Za rfl rfl (Ze rfl) (Zd (Zb (aF _ _ ?_))))
  refine Zp ?_
  exact Zi [_] ⟨rfl, trivial⟩ ⟨congrArg (Value.int .i64) (by first | exact Zcq n c e f | exact Zcp n l m g | (have hc := Zbk n om om om; rw [hc]; first | (rw [if_pos om]; done) | (rw [if_neg om, if_pos om]; done) | (rw [if_neg om, if_neg om]; done))), E⟩
 have ag := o
 have o := Yg o
 refine Zm rfl rfl (Zm rfl rfl (Zm rfl rfl (Zm rfl rfl (Za rfl rfl (Yn rfl rfl) (Zd (Zb (H6 _ _ ?_)))))))
 refine Zdf rfl ?_
 refine Xc (Zv (Zv (Ys ?_)))
 refine Zb (H2 _ _ ?_)
 refine Zf fun a2 aa => ?_
 refine Zf fun a3 aG => ?_
 refine Zc (Za rfl rfl (Zg rfl) (Za rfl rfl (Yi (by rw [el22]; rfl) rfl) (Za rfl rfl (Zg rfl) (Za rfl rfl (Yi (by rw [el22]; rfl) rfl) (Za rfl rfl (Yv rfl rfl) (Zd (Zb (aG _ _ ?_))))))))
 refine Zu rfl (fun h => ?_) (fun h => ?_)
 ·have R := h
  have h := Yh h
  refine Zf fun a4 aH => ?_
  refine Zc (Za rfl rfl (Ze rfl) (Zd (Zb (aH _ _ ?_))))
  refine Zp (Zk ?_)
  clear H5 aa
  exact Zi [_] ⟨rfl, trivial⟩ ⟨congrArg (Value.int .i64) (by first | exact Zcq n c e f | exact Zcp n l m g | (have hc := Zbk n om om om; rw [hc]; first | (rw [if_pos om]; done) | (rw [if_neg om, if_pos om]; done) | (rw [if_neg om, if_neg om]; done))), E⟩
 have R := h
 have h := Yg h
 refine Zt ?_
 refine Zb (aa _ _ ?_)
 refine Zf fun a5 ab => ?_
 refine Zf fun a6 aI => ?_
 refine Zc (Za rfl rfl (Zg rfl) (Za rfl rfl (Yi (by rw [el22]; rfl) rfl) (Za rfl rfl (Zg rfl) (Za rfl rfl (Yi (by rw [el22]; rfl) rfl) (Za rfl rfl (Zeo rfl rfl) (Zd (Zb (aI _ _ ?_))))))))
 refine Zu rfl (fun j => ?_) (fun j => ?_)
 ·have S := j
  have j := Yh j
  refine Zf fun a7 aJ => ?_
  refine Zc (Za rfl rfl (Ze rfl) (Zd (Zb (aJ _ _ ?_))))
  refine Zp (Zk ?_)
  clear H5 ab
  exact Zi [_] ⟨rfl, trivial⟩ ⟨congrArg (Value.int .i64) (by first | exact Zcq n c e f | exact Zcp n l m g | (have hc := Zbk n om om om; rw [hc]; first | (rw [if_pos om]; done) | (rw [if_neg om, if_pos om]; done) | (rw [if_neg om, if_neg om]; done))), E⟩
 have S := j
 have j := Yg j
 refine Zt ?_
 refine Zb (ab _ _ ?_)
 refine Zf fun a8 aK => ?_
 refine Zc (Za rfl rfl (Ze rfl) (Zd (Zb (aK _ _ ?_))))
 refine Zp ?_
 exact Zi [_] ⟨rfl, trivial⟩ ⟨congrArg (Value.int .i64) (by first | exact Zcq n c e f | exact Zcp n l m g | (have hc := Zbk n om om om; rw [hc]; first | (rw [if_pos om]; done) | (rw [if_neg om, if_pos om]; done) | (rw [if_neg om, if_neg om]; done))), E⟩

/-- spec.IsValidHistory -/
theorem Zax {w : World} (hF : Int) {LL_shG H : Nat} {z : Value} {shG : List Gv} (c : Ls Gv.cs 2 w LL_shG H z shG) {LR_hG BB_hG : Nat} {hG : List GD} (h : RdG w LR_hG BB_hG shG hG) :
 Ctr Try.prog 34 #[(.agg #[(.int .i64 hF), z])] w (fun v w' => v = .bool (tt (Zbh hF hG)) ∧ Ch [] w w') := by
 obtain ⟨r, s, B⟩ := c.val
 subst B
 have U := c.len
 have c := c.here (by decide)
 have h := h.here
 have l := h.1
 have E := Ch.refl [] w
 refine Zx (N := 47) (vs0 := [(.agg #[(.int .i64 hF), (.slice r shG.length s)])]) Try.func34 rfl rfl rfl ?_
 refine Zf fun K1 H1 => ?_
 refine Zc (Zl rfl rfl ?_)
 refine Yw rfl fun X W2 R C2 bj => ?_
 have bk := C2.size
 have E := E.trans C2
 have bm := R.lt
 replace R : Blk W2 X 57 [(.int .i64 hF), (.slice r shG.length s)] := R
 refine Za rfl rfl (Ze rfl) (Zd (Zb (H1 _ _ ?_)))
 refine Zf fun K3 H3 => ?_
 refine Zf fun K4 H4 => ?_
 refine Zc (Za rfl rfl (Ze rfl) (Zd (Zb (H4 _ _ ?_))))
 refine Zz ?_
 refine Xk (σ := Nat) (fun (k : Nat) => [(1, (.pointer (some ⟨X, 0, none⟩))), (3, (.int .i64 ((k : Nat) : Int)))]) (fun (k : Nat) wx => Ch [] w wx ∧ W2.heap.size ≤ wx.heap.size ∧ (k ≤ hG.length) ∧ (Zhh hG k) ∧ Blk wx X 57 [(.int .i64 hF), (.slice r shG.length s)]) (fun (k : Nat) => hG.length - k) 0 (sC2 rfl rfl (Sub.nil _)) ⟨E, (Nat.le_refl _), om, (Zhs _), R⟩ ?_
 rintro k R5 ⟨E, aK, bn, hs, m⟩
 have I := E
 have aF := I.size
 have Y := m.lt
 refine Zf fun K6 H6 => ?_
 refine Zf fun K7 H7 => ?_
 refine Zc (Za rfl rfl (Zg rfl) (Za rfl rfl (Zh fa57_1 rfl) (Za rfl rfl (Zn m.at_ agg55 rfl rfl) (Za rfl rfl (Yi (by rw [el55]; rfl) rfl) (Za rfl rfl (Yv rfl rfl) (Zd (Zb (H7 _ _ ?_))))))))
 refine Zu rfl (fun J => ?_) (fun J => ?_)
 ·have aL := J
  have J := Yh J
  refine Zt ?_
  refine Zb (H6 _ _ ?_)
  refine Zf fun K9 H9 => ?_
  refine Zz ?_
  refine Zf fun bp aG => ?_
  refine Xd [] 22 mixed rfl fun F L => ?_
  have aM := L.size
  have E := E.trans L
  refine dV 0 rfl rfl rfl (fun _ => Zh fa57_1 rfl) ?_
  have S := m.ch0 L
  refine dT 1 rfl rfl rfl (Ym S.at_ (fun i hi => absurd hi List.not_mem_nil) agg55 rfl rfl ?_)
  refine dV 2 rfl rfl rfl (fun _ => Zg rfl) ?_
  have Z := (c.ch0 I).ch0 L
  have aa := (h.ch0 I).ch0 L
  refine dT 3 rfl rfl rfl (Xj Z Gv.len el55 sz36 rfl rfl rfl om fun aN ab M ac => ?_)
  obtain ⟨u, a, n, A⟩ := aa.get M
  obtain ⟨⟨ad, aO, ae⟩, ⟨af, aP, ag⟩⟩ := ab
  obtain rfl := n.eqn
  obtain rfl := A.eqn
  have aQ := n.len
  have aR := A.len
  replace n : Ls ics 1 F LR_hG w.heap.size (.slice ad u.V.length ae) u.V := n
  replace A : Ls GEdge.cs 4 F LR_hG w.heap.size (.slice af u.E.length ag) u.E := A
  refine dT 4 rfl rfl rfl (Yl ac (fun i hi => absurd hi List.not_mem_nil) agg36 sz36 rfl ?_)
  refine dO 5 (Yf rfl rfl rfl ?_)
  refine Step.call (Zr (xs := [.tmp 15]) fk88 rfl) (Zab n A ) fun aS aT ah => ?_
  obtain ⟨rfl, K⟩ := ah
  have aU := K.size
  have E := E.trans K
  have G : Ch [] F aT := ((Ch.refl _ _).trans K)
  refine ⟨G, ?_⟩
  refine dV 6 rfl rfl rfl (fun _ => Xp rfl) (dV 7 rfl rfl rfl (fun _ => Zg rfl) ?_)
  refine Zbc (d := 18) rfl (fun b => ?_) (fun b => ?_)
  ·have ai := b
   have b := bf_t (Xv b)
   refine dK 8 rfl rfl rfl (dK 9 rfl rfl rfl (dK 10 rfl rfl rfl (dK 11 rfl rfl rfl (dK 12 rfl rfl rfl (dK 13 rfl rfl rfl (dK 14 rfl rfl rfl (dK 15 rfl rfl rfl ?_)))))))
   refine dK 16 rfl rfl rfl (dK 17 rfl rfl rfl (dK 18 rfl rfl rfl (dK 19 rfl rfl rfl (dK 20 rfl rfl rfl (dV 21 rfl rfl rfl (fun _ => Yo rfl rfl) ?_)))))
   refine Ye (by kernel_rfl) ?_
   refine Zb (aG _ _ ?_)
   refine Xy rfl ?_
   refine Zf fun bq aV => ?_
   refine Zc (Za rfl rfl (Ze rfl) (Zd (Zb (aV _ _ ?_))))
   refine Zp (Zy (Zk (Zk (Zy (Zk ?_)))))
   clear H3 H9
   exact Zi [_] ⟨rfl, trivial⟩ ⟨congrArg Value.bool (by first | exact Zs (fun q => b (Zas q a)) | exact Zs (fun q => e (Zdx.2 (Zao q f g))) | (rw [l]; exact vh_y hs om om) | exact Zs (fun q => by have aj := q.2.1; omega)), E⟩
  have ai := b
  have b := bt_t (Xw b)
  refine dV 8 rfl rfl rfl (fun _ => Zh fa57_1 rfl) ?_
  refine dT 9 rfl rfl rfl (Ym S.at_ (fun i hi => absurd hi List.not_mem_nil) agg55 rfl rfl ?_)
  refine dV 10 rfl rfl rfl (fun _ => Zg rfl) ?_
  refine dT 11 rfl rfl rfl (Xj Z Gv.len el55 sz36 rfl rfl rfl om fun aW ak O al => ?_)
  obtain ⟨x, f, o, C⟩ := aa.get O
  obtain ⟨⟨am, aX, an⟩, ⟨ao, aY, ap⟩⟩ := ak
  obtain rfl := o.eqn
  obtain rfl := C.eqn
  have aZ := o.len
  have a0 := C.len
  replace o : Ls ics 1 F LR_hG w.heap.size (.slice am x.V.length an) x.V := o
  replace C : Ls GEdge.cs 4 F LR_hG w.heap.size (.slice ao x.E.length ap) x.E := C
  refine dV 12 rfl rfl rfl (fun _ => Zh fa36_0 rfl) ?_
  refine dT 13 rfl rfl rfl (Ym al (fun i hi => absurd hi List.not_mem_nil) agg22 rfl rfl ?_)
  refine dV 14 rfl rfl rfl (fun _ => Zh fa57_1 rfl) ?_
  refine dT 15 rfl rfl rfl (Ym S.at_ (fun i hi => absurd hi List.not_mem_nil) agg55 rfl rfl ?_)
  refine dT 16 rfl rfl rfl (Xj (j := 0) Z Gv.len el55 sz36 rfl rfl rfl om fun a1 aq P au => ?_)
  obtain ⟨y, g, p, D⟩ := aa.get P
  obtain ⟨⟨av, a2, aw⟩, ⟨ax, a3, ay⟩⟩ := aq
  obtain rfl := p.eqn
  obtain rfl := D.eqn
  have a4 := p.len
  have a5 := D.len
  replace p : Ls ics 1 F LR_hG w.heap.size (.slice av y.V.length aw) y.V := p
  replace D : Ls GEdge.cs 4 F LR_hG w.heap.size (.slice ax y.E.length ay) y.E := D
  refine dV 17 rfl rfl rfl (fun _ => Zh fa36_0 rfl) ?_
  refine dT 18 rfl rfl rfl (Ym au (fun i hi => absurd hi List.not_mem_nil) agg22 rfl rfl ?_)
  refine dO 19 (Yf rfl rfl rfl ?_)
  have a6 := o.ch0 K
  have a7 := p.ch0 K
  refine Step.call (Zr (xs := [.tmp 24, .tmp 29]) fk89 rfl) (Zhx a6 a7 ) fun a8 a9 az => ?_
  obtain ⟨rfl, T⟩ := az
  have ba := T.size
  have E := E.trans T
  have Q : Ch [] F a9 := (G.trans T)
  refine ⟨Q, ?_⟩
  refine dV 20 rfl rfl rfl (fun _ => Zbs rfl rfl) (dV 21 rfl rfl rfl (fun _ => Yn rfl rfl) ?_)
  refine Ye (by kernel_rfl) ?_
  refine Zb (aG _ _ ?_)
  refine Zu rfl (fun e => ?_) (fun e => ?_)
  ·have aA := e
   have e := Yg (Xv e)
   refine Zf fun br bb => ?_
   refine Zc (Za rfl rfl (Ze rfl) (Zd (Zb (bb _ _ ?_))))
   refine Zp (Zy (Zk (Zk (Zy (Zk ?_)))))
   clear H3 H9
   exact Zi [_] ⟨rfl, trivial⟩ ⟨congrArg Value.bool (by first | exact Zs (fun q => b (Zas q a)) | exact Zs (fun q => e (Zdx.2 (Zao q f g))) | (rw [l]; exact vh_y hs om om) | exact Zs (fun q => by have aj := q.2.1; omega)), E⟩
  have aA := e
  have e := Yh (Xw e)
  refine Zt ?_
  refine Yr (Zb (H9 _ _ (Zc (Za rfl rfl (Zg rfl) (Za rfl rfl (Yq om rfl rfl) (Za rfl rfl (Ze rfl) (Zd ?_)))))))
  have bc := (S.ch0 K).ch0 T
  exact Zb (Exists.intro (k + 1) ⟨⟨E, om, om, (by have be := Zce a f; exact Zhu hs a g b (by rw [be]; exact Zdx.1 om)), bc⟩, sC2 rfl rfl (Sub.nil _), (by first | omega | (dsimp only; omega))⟩)
 have aL := J
 have J := Yg J
 refine Xc (Zv (Zv (Ys ?_)))
 refine Zb (H3 _ _ ?_)
 refine Zf fun bs aH => ?_
 refine Zc (Za rfl rfl (Zh fa57_1 rfl) (Za rfl rfl (Zn m.at_ agg55 rfl rfl) (Za rfl rfl (Yi (by rw [el55]; rfl) rfl) (Zl rfl rfl ?_))))
 refine Step.call (Zr (xs := [.tmp 35, .const (Go.Value.int Go.IntKind.i64 1), .const (Go.Value.int Go.IntKind.i64 8)]) fk90 rfl) (Zae _ _ _ ) fun bf bu aB => ?_
 obtain ⟨rfl, aC⟩ := aB
 have bg := aC.size
 have E := E.trans aC
 refine Za rfl rfl (Zg rfl) ?_
 refine Yz (d := 37) rfl (fun t => ?_) (fun t => ?_)
 ·have aD := t
  have t := Yh t
  refine Za rfl rfl (Zh fa57_0 rfl) ?_
  have aI := m.ch0 aC
  refine Za rfl rfl (Zn aI.at_ agg3 rfl rfl) (Za rfl rfl (Zh fa57_1 rfl) (Za rfl rfl (Zn aI.at_ agg55 rfl rfl) (Za rfl rfl (Yi (by rw [el55]; rfl) rfl) (Za rfl rfl (Zdb om rfl rfl) (Za rfl rfl (Yq om rfl rfl) (Zl rfl rfl ?_))))))
  refine Step.call (Zr (xs := [.tmp 39, .const (Go.Value.int Go.IntKind.i64 1), .tmp 44]) fk90 rfl) (Zae _ _ _ ) fun bh bv aE => ?_
  obtain ⟨rfl, aJ⟩ := aE
  have bi := aJ.size
  have E := E.trans aJ
  refine Za rfl rfl (Yo rfl rfl) (Za rfl rfl (Ze rfl) (Zd (Zb (aH _ _ ?_))))
  refine Zp ?_
  exact Zi [_] ⟨rfl, trivial⟩ ⟨congrArg Value.bool (by first | exact Zs (fun q => b (Zas q a)) | exact Zs (fun q => e (Zdx.2 (Zao q f g))) | (rw [l]; exact vh_y hs om om) | exact Zs (fun q => by have aj := q.2.1; omega)), E⟩
 have aD := t
 have t := Yg t
 refine Zm rfl rfl (Zm rfl rfl (Zm rfl rfl (Zm rfl rfl (Zm rfl rfl (Zm rfl rfl (Zm rfl rfl (Zm rfl rfl ?_)))))))
 refine Za rfl rfl (Yn rfl rfl) (Za rfl rfl (Ze rfl) (Zd (Zb (aH _ _ ?_))))
 refine Zp ?_
 exact Zi [_] ⟨rfl, trivial⟩ ⟨congrArg Value.bool (by first | exact Zs (fun q => b (Zas q a)) | exact Zs (fun q => e (Zdx.2 (Zao q f g))) | (rw [l]; exact vh_y hs om om) | exact Zs (fun q => by have aj := q.2.1; omega)), E⟩

/-- spec.LatestVersion -/
theorem Zdc {w : World} (hF : Int) {LL_shG i : Nat} {d : Value} {shG : List Gv} (a : Ls Gv.cs 2 w LL_shG i d shG) {LR_hG BB_hG : Nat} {hG : List GD} (b : RdG w LR_hG BB_hG shG hG) :
 Ctr Try.prog 44 #[(.agg #[(.int .i64 hF), d])] w (fun v w' => v = .int .i64 (lvR hF hG) ∧ Ch [] w w') := by
 obtain ⟨e, f, h⟩ := a.val
 subst h
 have k := a.len
 have a := a.here (by decide)
 have b := b.here
 have g := b.1
 have E := Ch.refl [] w
 refine Zx (N := 13) (vs0 := [(.agg #[(.int .i64 hF), (.slice e shG.length f)])]) Try.func44 rfl rfl rfl ?_
 refine Zf fun K1 H1 => ?_
 refine Zc (Zl rfl rfl ?_)
 refine Yw rfl fun m W2 j C2 r => ?_
 have s := C2.size
 have E := E.trans C2
 have t := j.lt
 replace j : Blk W2 m 57 [(.int .i64 hF), (.slice e shG.length f)] := j
 refine Za rfl rfl (Ze rfl) (Zd (Zb (H1 _ _ ?_)))
 refine Zf fun K3 H3 => ?_
 refine Zf fun K4 H4 => ?_
 refine Zc (Za rfl rfl (Zj j.at_ agg57 sz57 rfl) (Zl rfl rfl ?_))
 have F5 := a.ch0 C2
 have F6 := b.ch0 C2
 refine Step.call (Zr (xs := [.tmp 3]) fk34 rfl) (Zax _ F5 F6 ) fun u W7 n => ?_
 obtain ⟨rfl, C7⟩ := n
 have x := C7.size
 have E := E.trans C7
 refine Za rfl rfl (Xp rfl) (Zd (Zb (H4 _ _ ?_)))
 refine Zu rfl (fun c => ?_) (fun c => ?_)
 ·have o := c
  have c := bf_t (Xv c)
  first | have p := c.2 | skip
  refine Zf fun K9 H9 => ?_
  refine Zc (Za rfl rfl (Ze rfl) (Zd (Zb (H9 _ _ ?_))))
  refine Zp (Zk ?_)
  exact Zi [_] ⟨rfl, trivial⟩ ⟨congrArg (Value.int .i64) (by first | exact lv_n c | (rw [g]; exact lv_y c)), E⟩
 have o := c
 have c := bt_t (Xw c)
 first | have p := c.2 | skip
 refine Zt ?_
 refine Zb (H3 _ _ ?_)
 refine Zf fun y q => ?_
 refine Zc (Za rfl rfl (Zh fa57_0 rfl) ?_)
 have l := j.ch0 C7
 refine Za rfl rfl (Zn l.at_ agg3 rfl rfl) (Za rfl rfl (Zh fa57_1 rfl) (Za rfl rfl (Zn l.at_ agg55 rfl rfl) (Za rfl rfl (Yi (by rw [el55]; rfl) rfl) (Za rfl rfl (Yq om rfl rfl) (Za rfl rfl (Zdb om rfl rfl) (Za rfl rfl (Ze rfl) (Zd ?_)))))))
 refine Zb (q _ _ ?_)
 refine Zp ?_
 exact Zi [_] ⟨rfl, trivial⟩ ⟨congrArg (Value.int .i64) (by first | exact lv_n c | (rw [g]; exact lv_y c)), E⟩

/-- spec.l7Copy -/
theorem Zhd {w : World} (hF : Int) {LL_shG ae : Nat} {I : Value} {shG : List Gv} (q : Ls Gv.cs 2 w LL_shG ae I shG) {LR_hG BB_hG : Nat} {hG : List GD} (z : RdG w LR_hG BB_hG shG hG) (hb : hG.length + Xi hG ≤ 4194304) :
 Ctr Try.prog 71 #[(.agg #[(.int .i64 hF), I])] w (fun v w' => ∃ (T : Value) (J : List Gv), v = .agg #[.int .i64 hF, T] ∧ Ol Gv.cs 36 2 w' T J ∧ Lo w.heap.size T ∧ OdG 3 129 w' w.heap.size w'.heap.size J (hG) ∧ SepH T J ∧ Ch [] w w') := by
 obtain ⟨B, C, U⟩ := q.val
 subst U
 have aM := q.len
 have q := q.here (by decide)
 have z := z.here
 have aN := z.1
 have E := Ch.refl [] w
 refine Zx (N := 29) (vs0 := [(.agg #[(.int .i64 hF), (.slice B shG.length C)])]) Try.func71 rfl rfl rfl ?_
 refine Zf fun K1 H1 => ?_
 refine Zc (Zl rfl rfl ?_)
 refine Yw rfl fun aO W2 aD C2 bX => ?_
 have bY := C2.size
 have E := E.trans C2
 have al := aD.lt
 replace aD : Blk W2 aO 57 [(.int .i64 hF), (.slice B shG.length C)] := aD
 refine Zl rfl rfl ?_
 refine Yb zr57 fun aE W3 aF C3 bZ => ?_
 have b0 := C3.size
 have E := E.trans C3
 have b1 := aF.lt
 replace aF : Blk W3 aE 57 [(.int .i64 0), (.slice none 0 0)] := aF
 refine Zd (Zb (H1 _ _ ?_))
 refine Zf fun K4 H4 => ?_
 refine Zc (Za rfl rfl (Zh fa57_0 rfl) ?_)
 have F5 := aD.ch0 C3
 refine Za rfl rfl (Zn F5.at_ agg3 rfl rfl) (Za rfl rfl (Zbq (parts := [(0, .tmp 7)]) (cells := [(.int .i64 hF), (.slice none 0 0)]) zr57 pl57 rfl rfl) (Zl rfl rfl ?_))
 refine Yb zr57 fun am W6 aG C6 b2 => ?_
 have b3 := C6.size
 have E := E.trans C6
 have b4 := aG.lt
 replace aG : Blk W6 am 57 [(.int .i64 0), (.slice none 0 0)] := aG
 refine Zl rfl rfl ?_
 refine Zo (off := 0) 2 aG sz57 rfl (us := [(.int .i64 hF), (.slice none 0 0)]) rfl rfl rfl rfl fun W7 af C7 => ?_
 have b5 := C7.size
 have E := E.step C7 (lS om)
 replace af : Blk W7 am 57 [(.int .i64 hF), (.slice none 0 0)] := af
 refine Zd (Zb (H4 _ _ ?_))
 refine Zf fun K9 H9 => ?_
 refine Zf fun b6 bf => ?_
 refine Zc (Za rfl rfl (Ze rfl) (Zd (Zb (bf _ _ ?_))))
 refine Zz ?_
 have ag : Ol Gv.cs 36 2 W7 (.slice none 0 0) (([] : List Gv)) := by
  have hx := Ol.nil (cs := Gv.cs) (e := 36) (k := 2) W7
  exact hx
 have bg := (F5.ch0 C6).ch C7 (nS om)
 have bh := (aF.ch0 C6).ch C7 (nS om)
 refine Xk (σ := Nat × List Gv × Value) (fun ⟨k, vs, kv⟩ => [(1, (.pointer (some ⟨aO, 0, none⟩))), (2, (.pointer (some ⟨aE, 0, none⟩))), (3, (.pointer (some ⟨am, 0, none⟩))), (4, (.int .i64 ((k : Nat) : Int)))]) (fun ⟨k, vs, kv⟩ wx => Ch [] w wx ∧ W7.heap.size ≤ wx.heap.size ∧ (k ≤ hG.length) ∧ (vs.length = k) ∧ Blk wx aO 57 [(.int .i64 hF), (.slice B shG.length C)] ∧ Blk wx aE 57 [(.int .i64 0), (.slice none 0 0)] ∧ Ol Gv.cs 36 2 wx kv vs ∧ Lo W7.heap.size kv ∧ OdG 3 129 wx W7.heap.size wx.heap.size vs (hG.take k) ∧ Blk wx am 57 [(.int .i64 hF), kv] ∧ (am ∉ bl kv) ∧ (SepH kv vs)) (fun ⟨k, vs, kv⟩ => hG.length - k) (0, ([] : List Gv), (.slice none 0 0)) (sC4 rfl rfl rfl rfl (Sub.nil _)) ⟨E, (Nat.le_refl _), om, rfl, bg, bh, ag, (Lo.nil _), OdG.nil, af, (fun hm => by cases hm), (fun u hu => by cases hu)⟩ ?_
 rintro ⟨k, vs, kv⟩ aH ⟨E, bi, b7, hvl, G, K, D, n, od, aa, r, p⟩
 have ah := E
 have a3 := ah.size
 have aP := G.lt
 have aQ := K.lt
 obtain ⟨Akv, Ckv, rfl, lkv, hikv⟩ := D.opn
 refine Zf fun b8 bj => ?_
 refine Zf fun b9 bk => ?_
 refine Zc (Za rfl rfl (Zg rfl) (Za rfl rfl (Zh fa57_1 rfl) (Za rfl rfl (Zn G.at_ agg55 rfl rfl) (Za rfl rfl (Yi (by rw [el55]; rfl) rfl) (Za rfl rfl (Yv rfl rfl) (Zd (Zb (bk _ _ ?_))))))))
 refine Zu rfl (fun F => ?_) (fun F => ?_)
 ·have aR := F
  have F := Yh F
  refine Zt ?_
  refine Zb (bj _ _ ?_)
  refine Zf fun ca bm => ?_
  refine Zz ?_
  refine Zf fun cb bn => ?_
  refine Zc (Za rfl rfl (Zh fa57_1 rfl) (Za rfl rfl (Zn G.at_ agg55 rfl rfl) (Za rfl rfl (Zg rfl) (Zl rfl rfl ?_))))
  have bp := q.ch0 ah
  refine (Xo bp Gv.len el55 sz36 rfl rfl rfl om fun bq aS an aT => ?_)
  have br := z.ch0 ah
  obtain ⟨a, L, A, M⟩ := br.get an
  obtain ⟨⟨aU, bs, aV⟩, ⟨aW, bu, aX⟩⟩ := aS
  obtain rfl := A.eqn
  obtain rfl := M.eqn
  have bv := A.len
  have bw := M.len
  replace A : Ls ics 1 aH LR_hG w.heap.size (.slice aU a.V.length aV) a.V := A
  replace M : Ls GEdge.cs 4 aH LR_hG w.heap.size (.slice aW a.E.length aX) a.E := M
  refine Za rfl rfl (Zj aT agg36 sz36 rfl) (Zl rfl rfl ?_)
  refine Step.call (Zr (xs := [.tmp 20]) fk92 rfl) (Xb A M (by have a4 := Zcx L; omega)) fun bz cc aY => ?_
  obtain ⟨aI, aJ, rfl, s, b, t, c, o, ai⟩ := aY
  have bA := ai.size
  have E := E.trans ai
  obtain ⟨d, f, rfl, ao, h⟩ := s.opn
  obtain ⟨j, l, rfl, ap, m⟩ := t.opn
  refine Zl rfl rfl ?_
  refine Yb zr36 fun a5 bB aK X cd => ?_
  have bC := X.size
  have E := E.trans X
  have ce := aK.lt
  replace aK : Blk bB a5 36 [(.slice none 0 0), (.slice none 0 0)] := aK
  refine Zl rfl rfl ?_
  refine Zo (off := 0) 2 aK sz36 rfl (us := [(.slice d (a.V).length f), (.slice j (a.E).length l)]) rfl rfl rfl rfl fun bD O Y => ?_
  have bF := Y.size
  have E := E.step Y (lS om)
  replace O : Blk bD a5 36 [(.slice d (a.V).length f), (.slice j (a.E).length l)] := O
  refine Zd (Zb (bn _ _ (Zc (Za rfl rfl (Zh fa57_1 rfl) ?_))))
  have a6 := ((aa.ch0 ai).ch0 X).ch Y (nS om)
  refine Za rfl rfl (Zn a6.at_ agg55 rfl rfl) (Za rfl rfl (Zj O.at_ agg36 sz36 rfl) (Zl rfl rfl ?_))
  refine Xa (cs := Gv.cs) (parts := [(0, .tmp 24)]) (⟨⟨none, 0, 0⟩, ⟨none, 0, 0⟩⟩ : Gv) [(⟨(⟨d, (a.V).length, f⟩ : Sv), (⟨j, (a.E).length, l⟩ : Sv)⟩ : Gv)] el55 sz36 zr36 Gv.len (by decide) rfl rfl rfl (by decide) (by decide) rfl fun bG a7 aq ab Z => ?_
  have bH := Z.size
  have E := E.trans Z
  obtain ⟨au, av, rfl, a8, aZ⟩ := aq.opn
  have a9 := ((s.ch0 X).ch Y (dS b h om)).ch0 Z
  have ba := ((t.ch0 X).ch Y (dS c m om)).ch0 Z
  have bI : OdG 3 129 a7 aH.heap.size a7.heap.size ([(⟨(⟨d, (a.V).length, f⟩ : Sv), (⟨j, (a.E).length, l⟩ : Sv)⟩ : Gv)]) ([(⟨a.V, a.E⟩ : GD)]) := OdG.snoc (hi := aH.heap.size) (vs := []) (xs := []) OdG.nil a9 ba (Lo.down b om) (Lo.down c om) (fun g hg => by have H := h g hg; omega) (fun g hg => by have H := m g hg; omega) (fun g hm hg => by exact o _ hm hg) om om
  have bb : SepH (.slice au ([(⟨(⟨d, (a.V).length, f⟩ : Sv), (⟨j, (a.E).length, l⟩ : Sv)⟩ : Gv)]).length av) [(⟨(⟨d, (a.V).length, f⟩ : Sv), (⟨j, (a.E).length, l⟩ : Sv)⟩ : Gv)] := fun u hu => by rw [List.mem_singleton.1 hu]; exact ⟨fun g hg hm => by have H := h _ hg; have aj := ab _ hm; omega, fun g hg hm => by have H := m _ hg; have aj := ab _ hm; omega⟩
  refine Zl rfl rfl ?_
  have bJ := (((D.ch0 ai).ch0 X).ch Y (dS n hikv om)).ch0 Z
  refine Yk (cs := Gv.cs) el55 sz36 by36 zr36 rfl (by decide) Gv.one bJ aq.ls rfl rfl (by simp only [List.length_singleton]; omega) (by simp only [List.length_singleton]; omega) n om fun bK cf aw ax y ac => ?_
  have bL := ac.size
  have E := E.step ac (fun i hi => .inl (by have H := n _ hi; omega))
  obtain ⟨P, Q, rfl, bc, a0⟩ := aw.opn
  refine Za rfl rfl (Zh fa57_1 rfl) (Zl rfl rfl ?_)
  have bM := (a6.ch0 Z).ch ac (fun hm => by exact r (by first | exact hm | exact a1 ▸ hm))
  refine Yp (off := 1) bM sz55 rfl rfl rfl rfl fun be R ad => ?_
  have bN := ad.size
  have E := E.step ad (lS om)
  replace R : Blk be am 57 [(.int .i64 hF), (.slice P ((vs ++ [(⟨(⟨d, (a.V).length, f⟩ : Sv), (⟨j, (a.E).length, l⟩ : Sv)⟩ : Gv)])).length Q)] := R
  refine Zd (Yr (Zb (bm _ _ (Zc (Za rfl rfl (Zg rfl) (Za rfl rfl (Yq om rfl rfl) (Za rfl rfl (Ze rfl) (Zd ?_))))))))
  have bO := aw.ch ad (fun g hg hm => by have a1 := List.mem_singleton.1 hm; rcases y with ea | ea; (rw [ea] at hg; exact r (by first | exact hg | exact a1 ▸ hg)); (rw [ea] at hg; have al := List.mem_singleton.1 hg; omega))
  have ak : Ol Gv.cs 36 2 be (.slice P ((vs ++ [(⟨(⟨d, (a.V).length, f⟩ : Sv), (⟨j, (a.E).length, l⟩ : Sv)⟩ : Gv)])).length Q) ((vs ++ [(⟨(⟨d, (a.V).length, f⟩ : Sv), (⟨j, (a.E).length, l⟩ : Sv)⟩ : Gv)])) := by
   have hx := bO
   exact hx
  have a2 := (((((od.ch0 ai).ch0 X).ch Y (oS om)).ch0 Z).chH ac p).ch ad (oS om)
  have bP := (a9.ch ac (fun g hg hm => by have H := n _ hm; have aj := hikv _ hm; have ay := b _ hg; have az := h _ hg; omega)).ch ad (dS b h om)
  have bQ := (ba.ch ac (fun g hg hm => by have H := n _ hm; have aj := hikv _ hm; have ay := c _ hg; have az := m _ hg; omega)).ch ad (dS c m om)
  have bR := (((((G.ch0 ai).ch0 X).ch Y (nS om)).ch0 Z).ch ac (fun hm => by have H := n _ hm; have aj := hikv _ hm; omega)).ch ad (nS om)
  have bS := (((((K.ch0 ai).ch0 X).ch Y (nS om)).ch0 Z).ch ac (fun hm => by have H := n _ hm; have aj := hikv _ hm; omega)).ch ad (nS om)
  exact Zb (Exists.intro ((k + 1), (vs ++ [(⟨(⟨d, (a.V).length, f⟩ : Sv), (⟨j, (a.E).length, l⟩ : Sv)⟩ : Gv)]), (.slice P ((vs ++ [(⟨(⟨d, (a.V).length, f⟩ : Sv), (⟨j, (a.E).length, l⟩ : Sv)⟩ : Gv)])).length Q)) ⟨⟨E, om, om, (by simp [hvl]), bR, bS, ak, (Lo.down ax om), (by rw [Qv L]; exact OdG.snoc a2 (x := a) bP bQ (Lo.down b om) (Lo.down c om) (fun g hg => by have H := h g hg; omega) (fun g hg => by have H := m g hg; omega) (fun g hm hg => by exact o _ hm hg) om om), R, (fun hm => by rcases y with ea | ea; (rw [ea] at hm; exact r (by first | exact hm | exact a1 ▸ hm)); (rw [ea] at hm; have al := List.mem_singleton.1 hm; omega)), (fun u hu => ⟨fun g hg hm => by rcases List.mem_append.1 hu with hu | hu; (rcases y with ea | ea; (rw [ea] at hm; exact (p _ hu).1 _ hg hm); (rw [ea] at hm; have al := List.mem_singleton.1 hm; have a4 := (a2.rng hu).1 _ hg; omega)); (rw [List.mem_singleton.1 hu] at hg; rcases y with ea | ea; (rw [ea] at hm; have H := n _ hm; have aj := hikv _ hm; have ay := b _ hg; have az := h _ hg; omega); (rw [ea] at hm; have al := List.mem_singleton.1 hm; have ay := b _ hg; have az := h _ hg; omega)), fun g hg hm => by rcases List.mem_append.1 hu with hu | hu; (rcases y with ea | ea; (rw [ea] at hm; exact (p _ hu).2 _ hg hm); (rw [ea] at hm; have al := List.mem_singleton.1 hm; have a4 := (a2.rng hu).2 _ hg; omega)); (rw [List.mem_singleton.1 hu] at hg; rcases y with ea | ea; (rw [ea] at hm; have H := n _ hm; have aj := hikv _ hm; have ay := c _ hg; have az := m _ hg; omega); (rw [ea] at hm; have al := List.mem_singleton.1 hm; have ay := c _ hg; have az := m _ hg; omega))⟩)⟩, sC4 rfl rfl rfl rfl (Sub.nil _), (by first | omega | (dsimp only; omega))⟩)
 have aR := F
 have F := Yg F
 refine Xc (Zv (Zv (Ys ?_)))
 refine Zb (H9 _ _ ?_)
 refine Zf fun cg bT => ?_
 refine Zc (Za rfl rfl (Zj aa.at_ agg57 sz57 rfl) (Zl rfl rfl ?_))
 refine Zo (off := 0) 2 K sz57 rfl (us := [(.int .i64 hF), (.slice Akv (vs).length Ckv)]) rfl rfl rfl rfl fun aA S aL => ?_
 have bU := aL.size
 have E := E.step aL (lS om)
 replace S : Blk aA aE 57 [(.int .i64 hF), (.slice Akv (vs).length Ckv)] := S
 refine Zd (Zb (bT _ _ ?_))
 refine Zp ?_
 have bV := D.ch aL (dS n hikv om)
 have bW := od.ch aL (oS om)
 have aB : Ol Gv.cs 36 2 aA (.slice Akv (vs).length Ckv) vs := by
  have hx := bV
  exact hx
 have aC : OdG 3 129 aA w.heap.size aA.heap.size vs (hG) := by
  have hx := bW.up (lo' := w.heap.size) (hi' := aA.heap.size) om om
  rwa [List.take_of_length_le om] at hx
 exact Zi [_] (Zq S rfl agg57 sz57 trivial) ⟨(.slice Akv (vs).length Ckv), vs, (congrArg (fun zq => (Value.agg #[.int .i64 zq, (.slice Akv (vs).length Ckv)])) (by first | rfl | simp_all)), aB, (Lo.down n om), aC, p, E⟩

/-- spec.AppendBatch -/
theorem Zad {w : World} (hF : Int) {LL_shG bK : Nat} {aN : Value} {shG : List Gv} (ag : Ls Gv.cs 2 w LL_shG bK aN shG) {LR_hG BB_hG : Nat} {hG : List GD} (an : RdG w LR_hG BB_hG shG hG) {LL_bC bZ : Nat} {bB : Value} {bC : List Chg} (ak : Ls Chg.cs 5 w LL_bC bZ bB bC) (hb : hG.length + Xi hG ≤ 4194304) :
 Ctr Try.prog 21 #[(.agg #[(.int .i64 hF), aN]), (.agg #[bB])] w (fun v w' => ∃ (bk : Value) (aO : List Gv), v = .tuple #[.agg #[.int .i64 (abF hF hG bC), bk], .bool (tt (AbOk hF hG bC))] ∧ Ol Gv.cs 36 2 w' bk aO ∧ Lo w.heap.size bk ∧ OdG 3 129 w' w.heap.size w'.heap.size aO (abG hF hG bC) ∧ SepH bk aO ∧ Ch [] w w') := by
 obtain ⟨aP, aQ, bm⟩ := ag.val
 subst bm
 have cG := ag.len
 have ag := ag.here (by decide)
 have an := an.here
 have cH := an.1
 obtain ⟨bD, bF, bL⟩ := ak.val
 subst bL
 have dE := ak.len
 have ak := ak.here (by decide)
 have E := Ch.refl [] w
 refine Zx (N := 55) (vs0 := [(.agg #[(.int .i64 hF), (.slice aP shG.length aQ)]), (.agg #[(.slice bD bC.length bF)])]) Try.func21 rfl rfl rfl ?_
 refine Zf fun K1 H1 => ?_
 refine Zc (Zl rfl rfl ?_)
 refine Yw rfl fun ee W2 cy C2 fA => ?_
 have fB := C2.size
 have E := E.trans C2
 have fC := cy.lt
 replace cy : Blk W2 ee 57 [(.int .i64 hF), (.slice aP shG.length aQ)] := cy
 refine Zl rfl rfl ?_
 refine Yw rfl fun ef W3 cz C3 fD => ?_
 have fE := C3.size
 have E := E.trans C3
 have fF := cz.lt
 replace cz : Blk W3 ef 63 [(.slice bD bC.length bF)] := cz
 refine Zl rfl rfl ?_
 refine Yb zr57 fun bn W4 aR C4 fG => ?_
 have fH := C4.size
 have E := E.trans C4
 have fI := aR.lt
 replace aR : Blk W4 bn 57 [(.int .i64 0), (.slice none 0 0)] := aR
 refine Za rfl rfl (Ze rfl) (Zd (Zb (H1 _ _ ?_)))
 refine Zf fun K5 H5 => ?_
 refine Zc ?_
 have F6 := (cy.ch0 C3).ch0 C4
 refine Za rfl rfl (Zj F6.at_ agg57 sz57 rfl) (Zl rfl rfl ?_)
 have F7 := ((ag.ch0 C2).ch0 C3).ch0 C4
 have F8 := ((an.ch0 C2).ch0 C3).ch0 C4
 refine Step.call (Zr (xs := [.tmp 9]) fk71 rfl) (Zhd _ F7 F8 om) fun eg W9 cI => ?_
 obtain ⟨cA, b, rfl, H, c, F, B, C9⟩ := cI
 have fJ := C9.size
 have E := E.trans C9
 obtain ⟨q, r, rfl, b0, l⟩ := H.opn
 have eh := F.1
 refine Zl rfl rfl ?_
 refine Yb zr57 fun aj ei cB aa fK => ?_
 have ej := aa.size
 have E := E.trans aa
 have fL := cB.lt
 replace cB : Blk ei aj 57 [(.int .i64 0), (.slice none 0 0)] := cB
 refine Zl rfl rfl ?_
 refine Zo (off := 0) 2 cB sz57 rfl (us := [(.int .i64 hF), (.slice q (b).length r)]) rfl rfl rfl rfl fun ek ae ab => ?_
 have el := ab.size
 have E := E.step ab (lS om)
 replace ae : Blk ek aj 57 [(.int .i64 hF), (.slice q (b).length r)] := ae
 refine Zd (Zb (H5 _ _ ?_))
 refine Zf fun fM em => ?_
 refine Zf fun fN dF => ?_
 refine Zc ?_
 have dG := ((F6.ch0 C9).ch0 aa).ch ab (nS om)
 refine Za rfl rfl (Zj dG.at_ agg57 sz57 rfl) (Zl rfl rfl ?_)
 have dH := ((F7.ch0 C9).ch0 aa).ch ab (oS om)
 have dI := ((F8.ch0 C9).ch0 aa).ch ab (oS om)
 refine Step.call (Zr (xs := [.tmp 11]) fk34 rfl) (Zax _ dH dI ) fun en fO cJ => ?_
 obtain ⟨rfl, Q⟩ := cJ
 have eo := Q.size
 have E := E.trans Q
 refine Za rfl rfl (Xp rfl) (Za rfl rfl (Zg rfl) ?_)
 refine Yz (d := 14) rfl (fun p => ?_) (fun p => ?_)
 ·have cK := p
  have p := bf_t (Xv p)
  refine Zm rfl rfl (Zm rfl rfl (Zm rfl rfl (Za rfl rfl (Yo rfl rfl) (Zd (Zb (dF _ _ ?_))))))
  refine Xy rfl ?_
  refine Zf fun fP ep => ?_
  refine Zc ?_
  have er := ae.ch0 Q
  refine Za rfl rfl (Zj er.at_ agg57 sz57 rfl) (Zl rfl rfl ?_)
  have es := (((aR.ch0 C9).ch0 aa).ch ab (nS om)).ch0 Q
  refine Zo (off := 0) 2 es sz57 rfl (us := [(.int .i64 hF), (.slice q (b).length r)]) rfl rfl rfl rfl fun b1 aS cC => ?_
  have et := cC.size
  have E := E.step cC (lS om)
  replace aS : Blk b1 bn 57 [(.int .i64 hF), (.slice q (b).length r)] := aS
  refine Za rfl rfl (Ze rfl) (Zd (Zb (ep _ _ ?_)))
  refine Zp (Zk ?_)
  have eu := (((H.ch0 aa).ch ab (dS c l om)).ch0 Q).ch cC (dS c l om)
  have ew := (((F.ch0 aa).ch ab (oS om)).ch0 Q).ch cC (oS om)
  have b2 : Ol Gv.cs 36 2 b1 (.slice q (b).length r) b := by
   have hx := eu
   exact hx
  have b3 : OdG 3 129 b1 w.heap.size b1.heap.size b (abG hF hG bC) := by
   have hx := ew.up (lo' := w.heap.size) (hi' := b1.heap.size) om om
   first | (rw [← (Yc (Qm p)).1]; exact hx) | (rw [← (Yc (Ql s)).1]; exact hx) | (rw [← (Yc (Qn m n)).1]; exact hx) | (rw [← (Xg (Yd p s m n) m om).1]; exact hx) | (rw [← (Xh (Yd p s m n) m om).1]; exact hx)
  exact Zi [_, _] (Zq aS rfl agg57 sz57 ⟨rfl, trivial⟩) ⟨(.slice q (b).length r), b, ((congrArg (fun zq => (Value.tuple #[.agg #[.int .i64 zq, (.slice q (b).length r)], .bool false])) (by first | exact (Yc (Qm p)).2.1 | exact (Yc (Ql s)).2.1 | exact (Yc (Qn m n)).2.1 | exact (Xg (Yd p s m n) m om).2.1 | exact (Xh (Yd p s m n) m om).2.1)).trans (congrArg (fun zq => (Value.tuple #[.agg #[.int .i64 (abF hF hG bC), (.slice q (b).length r)], .bool zq])) (by first | exact (Yc (Qm p)).2.2 | exact (Yc (Ql s)).2.2 | exact (Yc (Qn m n)).2.2 | exact (Xg (Yd p s m n) m om).2.2 | exact (Xh (Yd p s m n) m om).2.2))), b2, (Lo.down c om), b3, B, E⟩
 have cK := p
 have p := bt_t (Xw p)
 have ex := p.2
 have dJ := dG.ch0 Q
 refine Za rfl rfl (Zj dJ.at_ agg57 sz57 rfl) (Zl rfl rfl ?_)
 have dL := dH.ch0 Q
 have dM := dI.ch0 Q
 refine Step.call (Zr (xs := [.tmp 15]) fk44 rfl) (Zdc _ dL dM ) fun ey fQ cL => ?_
 obtain ⟨rfl, X⟩ := cL
 have ez := X.size
 have E := E.trans X
 refine Za rfl rfl (Zff rfl rfl) (Za rfl rfl (Yn rfl rfl) (Zd (Zb (dF _ _ ?_))))
 refine Zu rfl (fun s => ?_) (fun s => ?_)
 ·have cM := s
  have s := Yh s
  refine Zf fun fR eA => ?_
  refine Zc ?_
  have eB := (ae.ch0 Q).ch0 X
  refine Za rfl rfl (Zj eB.at_ agg57 sz57 rfl) (Zl rfl rfl ?_)
  have eC := ((((aR.ch0 C9).ch0 aa).ch ab (nS om)).ch0 Q).ch0 X
  refine Zo (off := 0) 2 eC sz57 rfl (us := [(.int .i64 hF), (.slice q (b).length r)]) rfl rfl rfl rfl fun b4 aT cD => ?_
  have eD := cD.size
  have E := E.step cD (lS om)
  replace aT : Blk b4 bn 57 [(.int .i64 hF), (.slice q (b).length r)] := aT
  refine Za rfl rfl (Ze rfl) (Zd (Zb (eA _ _ ?_)))
  refine Zp (Zk ?_)
  have eE := ((((H.ch0 aa).ch ab (dS c l om)).ch0 Q).ch0 X).ch cD (dS c l om)
  have eF := ((((F.ch0 aa).ch ab (oS om)).ch0 Q).ch0 X).ch cD (oS om)
  have b5 : Ol Gv.cs 36 2 b4 (.slice q (b).length r) b := by
   have hx := eE
   exact hx
  have b6 : OdG 3 129 b4 w.heap.size b4.heap.size b (abG hF hG bC) := by
   have hx := eF.up (lo' := w.heap.size) (hi' := b4.heap.size) om om
   first | (rw [← (Yc (Qm p)).1]; exact hx) | (rw [← (Yc (Ql s)).1]; exact hx) | (rw [← (Yc (Qn m n)).1]; exact hx) | (rw [← (Xg (Yd p s m n) m om).1]; exact hx) | (rw [← (Xh (Yd p s m n) m om).1]; exact hx)
  exact Zi [_, _] (Zq aT rfl agg57 sz57 ⟨rfl, trivial⟩) ⟨(.slice q (b).length r), b, ((congrArg (fun zq => (Value.tuple #[.agg #[.int .i64 zq, (.slice q (b).length r)], .bool false])) (by first | exact (Yc (Qm p)).2.1 | exact (Yc (Ql s)).2.1 | exact (Yc (Qn m n)).2.1 | exact (Xg (Yd p s m n) m om).2.1 | exact (Xh (Yd p s m n) m om).2.1)).trans (congrArg (fun zq => (Value.tuple #[.agg #[.int .i64 (abF hF hG bC), (.slice q (b).length r)], .bool zq])) (by first | exact (Yc (Qm p)).2.2 | exact (Yc (Ql s)).2.2 | exact (Yc (Qn m n)).2.2 | exact (Xg (Yd p s m n) m om).2.2 | exact (Xh (Yd p s m n) m om).2.2))), b5, (Lo.down c om), b6, B, E⟩
 have cM := s
 have s := Yg s
 refine Zt ?_
 refine Zb (em _ _ ?_)
 refine Zf fun fS dN => ?_
 refine Xd [] 16 mixed rfl fun bj af => ?_
 have eG := af.size
 have E := E.trans af
 refine dV 0 rfl rfl rfl (fun _ => Zh fa57_1 rfl) ?_
 have dP := (dJ.ch0 X).ch0 af
 refine dT 1 rfl rfl rfl (Ym dP.at_ (fun i hi => absurd hi List.not_mem_nil) agg55 rfl rfl ?_)
 refine dV 2 rfl rfl rfl (fun _ => Zh fa57_1 rfl) ?_
 refine dT 3 rfl rfl rfl (Ym dP.at_ (fun i hi => absurd hi List.not_mem_nil) agg55 rfl rfl ?_)
 refine dV 4 rfl rfl rfl (fun _ => Yi (by rw [el55]; rfl) rfl) (dV 5 rfl rfl rfl (fun _ => Zdb om rfl rfl) ?_)
 have eH := (dL.ch0 X).ch0 af
 have eI := (dM.ch0 X).ch0 af
 refine dT 6 rfl rfl rfl (Xj (j := (((shG.length : Nat) : Int) - 1).toNat) eH Gv.len el55 sz36 rfl rfl om om fun eJ cN b7 cO => ?_)
 obtain ⟨a, aU, al, aL⟩ := eI.get b7
 obtain ⟨⟨cP, eK, cQ⟩, ⟨cR, eL, cS⟩⟩ := cN
 obtain rfl := al.eqn
 obtain rfl := aL.eqn
 have eM := al.len
 have eN := aL.len
 replace al : Ls ics 1 bj LR_hG w.heap.size (.slice cP a.V.length cQ) a.V := al
 replace aL : Ls GEdge.cs 4 bj LR_hG w.heap.size (.slice cR a.E.length cS) a.E := aL
 have fT := Zjp p aU
 have m : hG[hG.length - 1]? = some a := by rw [show hG.length - 1 = (((shG.length : Nat) : Int) - 1).toNat by omega]; exact aU
 refine dT 7 rfl rfl rfl (Yl cO (fun i hi => absurd hi List.not_mem_nil) agg36 sz36 rfl ?_)
 have eO := ((((((cz.ch0 C4).ch0 C9).ch0 aa).ch ab (nS om)).ch0 Q).ch0 X).ch0 af
 refine dT 8 rfl rfl rfl (Yl eO.at_ (fun i hi => absurd hi List.not_mem_nil) agg63 sz63 rfl ?_)
 refine Zau 9 13 (by kernel_rfl) ?_ ?_
 ·refine Yf rfl rfl rfl ?_
  have eP := ((((((((ak.ch0 C2).ch0 C3).ch0 C4).ch0 C9).ch0 aa).ch ab (oS om)).ch0 Q).ch0 X).ch0 af
  refine Step.call (Zr (xs := [.tmp 28, .tmp 29]) fk37 rfl) (Zcd al aL eP om) fun cT eQ bM => ?_
  obtain ⟨bp, bq, rfl, K, t, L, y, C, aM⟩ := bM
  have eR := aM.size
  have E := E.trans aM
  obtain ⟨e, f, rfl, aV, z⟩ := K.opn
  obtain ⟨h, k, rfl, aW, A⟩ := L.opn
  have bG : Ch [] bj eQ := ((Ch.refl _ _).trans aM)
  refine ⟨bG, ?_⟩
  refine dV 10 rfl rfl rfl (fun _ => Zg rfl) (dV 11 rfl rfl rfl (fun _ => Yj rfl rfl) (dV 12 rfl rfl rfl (fun _ => Yj rfl rfl) (dO 13 (Yf rfl rfl rfl ?_))))
  refine Yb zr36 fun b8 dQ br aI eS => ?_
  have eT := aI.size
  have E := E.trans aI
  have eU := br.lt
  replace br : Blk dQ b8 36 [(.slice none 0 0), (.slice none 0 0)] := br
  have bH : Ch [] bj dQ := (bG.trans aI)
  refine ⟨bH, ?_⟩
  refine dO 14 (Yf rfl rfl rfl ?_)
  refine Zo (off := 0) 2 br sz36 rfl (us := [(.slice e (a.V).length f), (.slice h ((apE a.V a.E bC 6)).length k)]) rfl rfl rfl rfl fun dR aX aJ => ?_
  have eV := aJ.size
  have E := E.step aJ (lS om)
  replace aX : Blk dR b8 36 [(.slice e (a.V).length f), (.slice h ((apE a.V a.E bC 6)).length k)] := aX
  have b9 : Ch [] bj dR := (bH.step aJ (fun i hm => by have au := List.mem_singleton.1 hm; left; omega))
  refine ⟨b9, ?_⟩
  refine dV 15 rfl rfl rfl (fun _ => Ze rfl) ?_
  refine Ye (by kernel_rfl) ?_
  refine Zb (dN _ _ ?_)
  refine Zf fun fU eW => ?_
  refine Zf fun fV eX => ?_
  refine Zc (Za rfl rfl (Zg rfl) (Za rfl rfl (Xp rfl) (Zd (Zb (eX _ _ ?_)))))
  refine Zu rfl (fun n => ?_) (fun n => ?_)
  ·have cU := n
   have n := bf_t (Xv n)
   refine Zf fun fW eY => ?_
   refine Zc ?_
   have eZ := (((((ae.ch0 Q).ch0 X).ch0 af).ch0 aM).ch0 aI).ch aJ (nS om)
   refine Za rfl rfl (Zj eZ.at_ agg57 sz57 rfl) (Zl rfl rfl ?_)
   have e0 := ((((((((aR.ch0 C9).ch0 aa).ch ab (nS om)).ch0 Q).ch0 X).ch0 af).ch0 aM).ch0 aI).ch aJ (nS om)
   refine Zo (off := 0) 2 e0 sz57 rfl (us := [(.int .i64 hF), (.slice q (b).length r)]) rfl rfl rfl rfl fun ca aY cE => ?_
   have e1 := cE.size
   have E := E.step cE (lS om)
   replace aY : Blk ca bn 57 [(.int .i64 hF), (.slice q (b).length r)] := aY
   refine Za rfl rfl (Ze rfl) (Zd (Zb (eY _ _ ?_)))
   refine Zp (Zk ?_)
   have e2 := ((((((((H.ch0 aa).ch ab (dS c l om)).ch0 Q).ch0 X).ch0 af).ch0 aM).ch0 aI).ch aJ (dS c l om)).ch cE (dS c l om)
   have e3 := ((((((((F.ch0 aa).ch ab (oS om)).ch0 Q).ch0 X).ch0 af).ch0 aM).ch0 aI).ch aJ (oS om)).ch cE (oS om)
   have cb : Ol Gv.cs 36 2 ca (.slice q (b).length r) b := by
    have hx := e2
    exact hx
   have cc : OdG 3 129 ca w.heap.size ca.heap.size b (abG hF hG bC) := by
    have hx := e3.up (lo' := w.heap.size) (hi' := ca.heap.size) om om
    first | (rw [← (Yc (Qm p)).1]; exact hx) | (rw [← (Yc (Ql s)).1]; exact hx) | (rw [← (Yc (Qn m n)).1]; exact hx) | (rw [← (Xg (Yd p s m n) m om).1]; exact hx) | (rw [← (Xh (Yd p s m n) m om).1]; exact hx)
   exact Zi [_, _] (Zq aY rfl agg57 sz57 ⟨rfl, trivial⟩) ⟨(.slice q (b).length r), b, ((congrArg (fun zq => (Value.tuple #[.agg #[.int .i64 zq, (.slice q (b).length r)], .bool false])) (by first | exact (Yc (Qm p)).2.1 | exact (Yc (Ql s)).2.1 | exact (Yc (Qn m n)).2.1 | exact (Xg (Yd p s m n) m om).2.1 | exact (Xh (Yd p s m n) m om).2.1)).trans (congrArg (fun zq => (Value.tuple #[.agg #[.int .i64 (abF hF hG bC), (.slice q (b).length r)], .bool zq])) (by first | exact (Yc (Qm p)).2.2 | exact (Yc (Ql s)).2.2 | exact (Yc (Qn m n)).2.2 | exact (Xg (Yd p s m n) m om).2.2 | exact (Xh (Yd p s m n) m om).2.2))), cb, (Lo.down c om), cc, B, E⟩
  have cU := n
  have n := bt_t (Xw n)
  refine Zt ?_
  refine Zb (eW _ _ ?_)
  refine Zf fun fX e4 => ?_
  refine Zc (Za rfl rfl (Zh fa57_1 rfl) ?_)
  have dU := (((((ae.ch0 Q).ch0 X).ch0 af).ch0 aM).ch0 aI).ch aJ (nS om)
  refine Za rfl rfl (Zn dU.at_ agg55 rfl rfl) (Za rfl rfl (Zj aX.at_ agg36 sz36 rfl) (Zl rfl rfl ?_))
  refine Xa (cs := Gv.cs) (parts := [(0, .tmp 38)]) (⟨⟨none, 0, 0⟩, ⟨none, 0, 0⟩⟩ : Gv) [(⟨(⟨e, (a.V).length, f⟩ : Sv), (⟨h, ((apE a.V a.E bC 6)).length, k⟩ : Sv)⟩ : Gv)] el55 sz36 zr36 Gv.len (by decide) rfl rfl rfl (by decide) (by decide) rfl fun cV dW aZ av bs => ?_
  have e5 := bs.size
  have E := E.trans bs
  obtain ⟨a0, a1, rfl, cd, bN⟩ := aZ.opn
  have dX := ((K.ch0 aI).ch aJ (dS t z om)).ch0 bs
  have dY := ((L.ch0 aI).ch aJ (dS y A om)).ch0 bs
  have cW : OdG 3 129 dW bj.heap.size dW.heap.size ([(⟨(⟨e, (a.V).length, f⟩ : Sv), (⟨h, ((apE a.V a.E bC 6)).length, k⟩ : Sv)⟩ : Gv)]) ([(⟨a.V, (apE a.V a.E bC 6)⟩ : GD)]) := OdG.snoc (hi := bj.heap.size) (vs := []) (xs := []) OdG.nil dX dY (Lo.down t om) (Lo.down y om) (fun g hg => by have S := z g hg; omega) (fun g hg => by have S := A g hg; omega) (fun g hm hg => by exact C _ hm hg) om om
  have ce : SepH (.slice a0 ([(⟨(⟨e, (a.V).length, f⟩ : Sv), (⟨h, ((apE a.V a.E bC 6)).length, k⟩ : Sv)⟩ : Gv)]).length a1) [(⟨(⟨e, (a.V).length, f⟩ : Sv), (⟨h, ((apE a.V a.E bC 6)).length, k⟩ : Sv)⟩ : Gv)] := fun u hu => by rw [List.mem_singleton.1 hu]; exact ⟨fun g hg hm => by have S := z _ hg; have R := av _ hm; omega, fun g hg hm => by have S := A _ hg; have R := av _ hm; omega⟩
  refine Zl rfl rfl ?_
  have e6 := ((((((((H.ch0 aa).ch ab (dS c l om)).ch0 Q).ch0 X).ch0 af).ch0 aM).ch0 aI).ch aJ (dS c l om)).ch0 bs
  refine Yk (cs := Gv.cs) el55 sz36 by36 zr36 rfl (by decide) Gv.one e6 aZ.ls rfl rfl (by simp only [List.length_singleton]; omega) (by simp only [List.length_singleton]; omega) c om fun cX dZ az aw G bI => ?_
  have e7 := bI.size
  have E := E.step bI (fun i hi => .inl (by have S := c _ hi; omega))
  obtain ⟨I, J, rfl, cf, D⟩ := az.opn
  have cg := (((((((((F.ch0 aa).ch ab (oS om)).ch0 Q).ch0 X).ch0 af).ch0 aM).ch0 aI).ch aJ (oS om)).ch0 bs).chH bI B
  have cY : (b ++ [(⟨(⟨e, (a.V).length, f⟩ : Sv), (⟨h, ((apE a.V a.E bC 6)).length, k⟩ : Sv)⟩ : Gv)]).length = hG.length + 1 := by simp only [List.length_append, List.length_singleton]; omega
  have a2 : SepH (.slice I ((b ++ [(⟨(⟨e, (a.V).length, f⟩ : Sv), (⟨h, ((apE a.V a.E bC 6)).length, k⟩ : Sv)⟩ : Gv)])).length J) (b ++ [(⟨(⟨e, (a.V).length, f⟩ : Sv), (⟨h, ((apE a.V a.E bC 6)).length, k⟩ : Sv)⟩ : Gv)]) := (fun u hu => ⟨fun g hg hm => by rcases List.mem_append.1 hu with hu | hu; (rcases G with ea | ea; (rw [ea] at hm; exact (B _ hu).1 _ hg hm); (have aA := D _ hm; rw [ea] at hm; have ao := List.mem_singleton.1 hm; have bO := (cg.rng hu).1 _ hg; omega)); (rw [List.mem_singleton.1 hu] at hg; rcases G with ea | ea; (rw [ea] at hm; have S := c _ hm; have R := l _ hm; have ah := t _ hg; have a3 := z _ hg; omega); (have aA := D _ hm; rw [ea] at hm; have ao := List.mem_singleton.1 hm; have ah := t _ hg; have a3 := z _ hg; omega)), fun g hg hm => by rcases List.mem_append.1 hu with hu | hu; (rcases G with ea | ea; (rw [ea] at hm; exact (B _ hu).2 _ hg hm); (have aA := D _ hm; rw [ea] at hm; have ao := List.mem_singleton.1 hm; have bO := (cg.rng hu).2 _ hg; omega)); (rw [List.mem_singleton.1 hu] at hg; rcases G with ea | ea; (rw [ea] at hm; have S := c _ hm; have R := l _ hm; have ah := y _ hg; have a3 := A _ hg; omega); (have aA := D _ hm; rw [ea] at hm; have ao := List.mem_singleton.1 hm; have ah := y _ hg; have a3 := A _ hg; omega))⟩)
  have e8 := dX.ch bI (fun g hg hm => by have S := c _ hm; have R := l _ hm; have ah := t _ hg; have a3 := z _ hg; omega)
  have e9 := dY.ch bI (fun g hg hm => by have S := c _ hm; have R := l _ hm; have ah := y _ hg; have a3 := A _ hg; omega)
  have a4 : OdG 3 129 dZ W4.heap.size dZ.heap.size (b ++ [(⟨(⟨e, (a.V).length, f⟩ : Sv), (⟨h, ((apE a.V a.E bC 6)).length, k⟩ : Sv)⟩ : Gv)]) (hG ++ [(⟨a.V, (apE a.V a.E bC 6)⟩ : GD)]) := OdG.snoc cg (x := (⟨a.V, (apE a.V a.E bC 6)⟩ : GD)) e8 e9 (Lo.down t om) (Lo.down y om) (fun g hg => by have S := z g hg; omega) (fun g hg => by have S := A g hg; omega) (fun g hm hg => by exact C _ hm hg) om om
  have aB : SepH (.slice (some ⟨aj, 0, none⟩) 0 0) (b ++ [(⟨(⟨e, (a.V).length, f⟩ : Sv), (⟨h, ((apE a.V a.E bC 6)).length, k⟩ : Sv)⟩ : Gv)]) := fun u hu => ⟨fun g hg hm => by have au := List.mem_singleton.1 (show g ∈ [aj] from hm); rcases List.mem_append.1 hu with hu | hu; (have bO := (cg.rng hu).1 _ hg; omega); (rw [List.mem_singleton.1 hu] at hg; have S := t _ hg; have R := z _ hg; omega), fun g hg hm => by have au := List.mem_singleton.1 (show g ∈ [aj] from hm); rcases List.mem_append.1 hu with hu | hu; (have bO := (cg.rng hu).2 _ hg; omega); (rw [List.mem_singleton.1 hu] at hg; have S := y _ hg; have R := A _ hg; omega)⟩
  refine Za rfl rfl (Zh fa57_1 rfl) (Zl rfl rfl ?_)
  have fa := (dU.ch0 bs).ch bI (fun hm => by have S := c _ hm; have R := l _ hm; omega)
  refine Yp (off := 1) fa sz55 rfl rfl rfl rfl fun fb am bJ => ?_
  have fc := bJ.size
  have E := E.step bJ (lS om)
  replace am : Blk fb aj 57 [(.int .i64 hF), (.slice I ((b ++ [(⟨(⟨e, (a.V).length, f⟩ : Sv), (⟨h, ((apE a.V a.E bC 6)).length, k⟩ : Sv)⟩ : Gv)])).length J)] := am
  refine Zd (Zb (e4 _ _ ?_))
  refine Zf fun fY d0 => ?_
  refine Zf fun fZ fd => ?_
  refine Zc (Za rfl rfl (Zh fa57_1 rfl) (Za rfl rfl (Zn am.at_ agg55 rfl rfl) (Za rfl rfl (Yi (by rw [el55]; rfl) rfl) (Za rfl rfl (Zeo rfl rfl) (Zd (Zb (fd _ _ ?_)))))))
  refine Zu rfl (fun T => ?_) (fun T => ?_)
  ·have cZ := T
   have T := Yh T
   refine Zf fun f0 fe => ?_
   refine Zc (Za rfl rfl (Zh fa57_1 rfl) (Za rfl rfl (Zn am.at_ agg55 rfl rfl) (Zl rfl rfl ?_)))
   have ff := az.ch bJ (fun g hg hm => by have au := List.mem_singleton.1 hm; rcases G with ea | ea; (rw [ea] at hg; have R := c _ hg; have ah := l _ hg; omega); (have ai := D _ hg; rw [ea] at hg; have ao := List.mem_singleton.1 hg; omega))
   have fg := a4.chH (o := .slice (some ⟨aj, 0, none⟩) 0 0) bJ aB
   refine (Zhj (ys := ((b ++ [(⟨(⟨e, (a.V).length, f⟩ : Sv), (⟨h, ((apE a.V a.E bC 6)).length, k⟩ : Sv)⟩ : Gv)]).drop 1)) 1 ((b ++ [(⟨(⟨e, (a.V).length, f⟩ : Sv), (⟨h, ((apE a.V a.E bC 6)).length, k⟩ : Sv)⟩ : Gv)]).length) ff Gv.len el55 sz36 rfl ⟨_, _, rfl, by omega⟩ rfl (by first | omega | (simp only [List.length_append, List.length_singleton]; omega)) (by first | omega | (simp only [List.length_append, List.length_singleton]; omega)) (Zcs _ _) fun c0 a5 M ci => ?_)
   obtain ⟨O, P, rfl, c1, c2⟩ := a5.opn
   have bP := (fg).dropN 1
   have a6 := (a2.dropN 1).of M
   have Y := aB.dropN 1
   refine Za rfl rfl (Zh fa57_1 rfl) (Zl rfl rfl ?_)
   refine Yp (off := 1) am sz55 rfl rfl rfl rfl fun fh aK cj => ?_
   have fi := cj.size
   have E := E.step cj (lS om)
   replace aK : Blk fh aj 57 [(.int .i64 hF), (.slice O (((b ++ [(⟨(⟨e, (a.V).length, f⟩ : Sv), (⟨h, ((apE a.V a.E bC 6)).length, k⟩ : Sv)⟩ : Gv)]).drop 1)).length P)] := aK
   refine Zd (Zb (fe _ _ (Zc (Za rfl rfl (Zh fa57_0 rfl) (Za rfl rfl (Zn aK.at_ agg3 rfl rfl) (Za rfl rfl (Yq om rfl rfl) (Za rfl rfl (Zh fa57_0 rfl) (Zl rfl rfl ?_))))))))
   refine Yp (off := 0) aK sz3 rfl rfl rfl rfl fun fj a7 ck => ?_
   have fk := ck.size
   have E := E.step ck (lS om)
   replace a7 : Blk fj aj 57 [(.int .i64 (hF + 1)), (.slice O (((b ++ [(⟨(⟨e, (a.V).length, f⟩ : Sv), (⟨h, ((apE a.V a.E bC 6)).length, k⟩ : Sv)⟩ : Gv)]).drop 1)).length P)] := a7
   refine Zd (Zb (d0 _ _ ?_))
   refine Zf fun f1 fl => ?_
   refine Zc (Za rfl rfl (Zj a7.at_ agg57 sz57 rfl) (Zl rfl rfl ?_))
   have fm := (((((((((((((aR.ch0 C9).ch0 aa).ch ab (nS om)).ch0 Q).ch0 X).ch0 af).ch0 aM).ch0 aI).ch aJ (nS om)).ch0 bs).ch bI (fun hm => by have S := c _ hm; have R := l _ hm; omega)).ch bJ (nS om)).ch cj (nS om)).ch ck (nS om)
   refine Zo (off := 0) 2 fm sz57 rfl (us := [(.int .i64 (hF + 1)), (.slice O (((b ++ [(⟨(⟨e, (a.V).length, f⟩ : Sv), (⟨h, ((apE a.V a.E bC 6)).length, k⟩ : Sv)⟩ : Gv)]).drop 1)).length P)]) rfl rfl rfl rfl fun cl a8 cF => ?_
   have fn := cF.size
   have E := E.step cF (lS om)
   replace a8 : Blk cl bn 57 [(.int .i64 (hF + 1)), (.slice O (((b ++ [(⟨(⟨e, (a.V).length, f⟩ : Sv), (⟨h, ((apE a.V a.E bC 6)).length, k⟩ : Sv)⟩ : Gv)]).drop 1)).length P)] := a8
   refine Za rfl rfl (Ze rfl) (Zd (Zb (fl _ _ ?_)))
   refine Zp ?_
   have fo := ((a5.ch cj (fun g hg hm => by have au := List.mem_singleton.1 hm; rw [M] at hg; rcases G with ea | ea; (rw [ea] at hg; have R := c _ hg; have ah := l _ hg; omega); (have ai := D _ hg; rw [ea] at hg; have ao := List.mem_singleton.1 hg; omega))).ch ck (fun g hg hm => by have au := List.mem_singleton.1 hm; rw [M] at hg; rcases G with ea | ea; (rw [ea] at hg; have R := c _ hg; have ah := l _ hg; omega); (have ai := D _ hg; rw [ea] at hg; have ao := List.mem_singleton.1 hg; omega))).ch cF (fun g hg hm => by have au := List.mem_singleton.1 hm; rw [M] at hg; rcases G with ea | ea; (rw [ea] at hg; have R := c _ hg; have ah := l _ hg; omega); (have ai := D _ hg; rw [ea] at hg; have ao := List.mem_singleton.1 hg; omega))
   have fp := ((bP.chH (o := .slice (some ⟨aj, 0, none⟩) 0 0) cj Y).chH (o := .slice (some ⟨aj, 0, none⟩) 0 0) ck Y).ch cF (oS om)
   have cm : Ol Gv.cs 36 2 cl (.slice O (((b ++ [(⟨(⟨e, (a.V).length, f⟩ : Sv), (⟨h, ((apE a.V a.E bC 6)).length, k⟩ : Sv)⟩ : Gv)]).drop 1)).length P) ((b ++ [(⟨(⟨e, (a.V).length, f⟩ : Sv), (⟨h, ((apE a.V a.E bC 6)).length, k⟩ : Sv)⟩ : Gv)]).drop 1) := by
    have hx := fo
    exact hx
   have cn : OdG 3 129 cl w.heap.size cl.heap.size ((b ++ [(⟨(⟨e, (a.V).length, f⟩ : Sv), (⟨h, ((apE a.V a.E bC 6)).length, k⟩ : Sv)⟩ : Gv)]).drop 1) (abG hF hG bC) := by
    have hx := fp.up (lo' := w.heap.size) (hi' := cl.heap.size) om om
    first | (rw [← (Yc (Qm p)).1]; exact hx) | (rw [← (Yc (Ql s)).1]; exact hx) | (rw [← (Yc (Qn m n)).1]; exact hx) | (rw [← (Xg (Yd p s m n) m om).1]; exact hx) | (rw [← (Xh (Yd p s m n) m om).1]; exact hx)
   exact Zi [_, _] (Zq a8 rfl agg57 sz57 ⟨rfl, trivial⟩) ⟨(.slice O (((b ++ [(⟨(⟨e, (a.V).length, f⟩ : Sv), (⟨h, ((apE a.V a.E bC 6)).length, k⟩ : Sv)⟩ : Gv)]).drop 1)).length P), ((b ++ [(⟨(⟨e, (a.V).length, f⟩ : Sv), (⟨h, ((apE a.V a.E bC 6)).length, k⟩ : Sv)⟩ : Gv)]).drop 1), ((congrArg (fun zq => (Value.tuple #[.agg #[.int .i64 zq, (.slice O (((b ++ [(⟨(⟨e, (a.V).length, f⟩ : Sv), (⟨h, ((apE a.V a.E bC 6)).length, k⟩ : Sv)⟩ : Gv)]).drop 1)).length P)], .bool true])) (by first | exact (Yc (Qm p)).2.1 | exact (Yc (Ql s)).2.1 | exact (Yc (Qn m n)).2.1 | exact (Xg (Yd p s m n) m om).2.1 | exact (Xh (Yd p s m n) m om).2.1)).trans (congrArg (fun zq => (Value.tuple #[.agg #[.int .i64 (abF hF hG bC), (.slice O (((b ++ [(⟨(⟨e, (a.V).length, f⟩ : Sv), (⟨h, ((apE a.V a.E bC 6)).length, k⟩ : Sv)⟩ : Gv)]).drop 1)).length P)], .bool zq])) (by first | exact (Yc (Qm p)).2.2 | exact (Yc (Ql s)).2.2 | exact (Yc (Qn m n)).2.2 | exact (Xg (Yd p s m n) m om).2.2 | exact (Xh (Yd p s m n) m om).2.2))), cm, (Lo.down (fun g hg => aw g (M ▸ hg)) om), cn, a6, E⟩
  have cZ := T
  have T := Yg T
  refine Zt ?_
  refine Zb (d0 _ _ ?_)
  refine Zf fun fq c3 => ?_
  refine Zc (Za rfl rfl (Zj am.at_ agg57 sz57 rfl) (Zl rfl rfl ?_))
  have c4 := (((((((((((aR.ch0 C9).ch0 aa).ch ab (nS om)).ch0 Q).ch0 X).ch0 af).ch0 aM).ch0 aI).ch aJ (nS om)).ch0 bs).ch bI (fun hm => by have S := c _ hm; have R := l _ hm; omega)).ch bJ (nS om)
  refine Zo (off := 0) 2 c4 sz57 rfl (us := [(.int .i64 hF), (.slice I ((b ++ [(⟨(⟨e, (a.V).length, f⟩ : Sv), (⟨h, ((apE a.V a.E bC 6)).length, k⟩ : Sv)⟩ : Gv)])).length J)]) rfl rfl rfl rfl fun a9 aC bu => ?_
  have d1 := bu.size
  have E := E.step bu (lS om)
  replace aC : Blk a9 bn 57 [(.int .i64 hF), (.slice I ((b ++ [(⟨(⟨e, (a.V).length, f⟩ : Sv), (⟨h, ((apE a.V a.E bC 6)).length, k⟩ : Sv)⟩ : Gv)])).length J)] := aC
  refine Za rfl rfl (Ze rfl) (Zd (Zb (c3 _ _ ?_)))
  refine Zp ?_
  have c5 := (az.ch bJ (fun g hg hm => by have au := List.mem_singleton.1 hm; rcases G with ea | ea; (rw [ea] at hg; have R := c _ hg; have ah := l _ hg; omega); (have ai := D _ hg; rw [ea] at hg; have ao := List.mem_singleton.1 hg; omega))).ch bu (fun g hg hm => by have au := List.mem_singleton.1 hm; rcases G with ea | ea; (rw [ea] at hg; have R := c _ hg; have ah := l _ hg; omega); (have ai := D _ hg; rw [ea] at hg; have ao := List.mem_singleton.1 hg; omega))
  have c6 := (a4.chH (o := .slice (some ⟨aj, 0, none⟩) 0 0) bJ aB).ch bu (oS om)
  have bQ : Ol Gv.cs 36 2 a9 (.slice I ((b ++ [(⟨(⟨e, (a.V).length, f⟩ : Sv), (⟨h, ((apE a.V a.E bC 6)).length, k⟩ : Sv)⟩ : Gv)])).length J) (b ++ [(⟨(⟨e, (a.V).length, f⟩ : Sv), (⟨h, ((apE a.V a.E bC 6)).length, k⟩ : Sv)⟩ : Gv)]) := by
   have hx := c5
   exact hx
  have bR : OdG 3 129 a9 w.heap.size a9.heap.size (b ++ [(⟨(⟨e, (a.V).length, f⟩ : Sv), (⟨h, ((apE a.V a.E bC 6)).length, k⟩ : Sv)⟩ : Gv)]) (abG hF hG bC) := by
   have hx := c6.up (lo' := w.heap.size) (hi' := a9.heap.size) om om
   first | (rw [← (Yc (Qm p)).1]; exact hx) | (rw [← (Yc (Ql s)).1]; exact hx) | (rw [← (Yc (Qn m n)).1]; exact hx) | (rw [← (Xg (Yd p s m n) m om).1]; exact hx) | (rw [← (Xh (Yd p s m n) m om).1]; exact hx)
  exact Zi [_, _] (Zq aC rfl agg57 sz57 ⟨rfl, trivial⟩) ⟨(.slice I ((b ++ [(⟨(⟨e, (a.V).length, f⟩ : Sv), (⟨h, ((apE a.V a.E bC 6)).length, k⟩ : Sv)⟩ : Gv)])).length J), (b ++ [(⟨(⟨e, (a.V).length, f⟩ : Sv), (⟨h, ((apE a.V a.E bC 6)).length, k⟩ : Sv)⟩ : Gv)]), ((congrArg (fun zq => (Value.tuple #[.agg #[.int .i64 zq, (.slice I ((b ++ [(⟨(⟨e, (a.V).length, f⟩ : Sv), (⟨h, ((apE a.V a.E bC 6)).length, k⟩ : Sv)⟩ : Gv)])).length J)], .bool true])) (by first | exact (Yc (Qm p)).2.1 | exact (Yc (Ql s)).2.1 | exact (Yc (Qn m n)).2.1 | exact (Xg (Yd p s m n) m om).2.1 | exact (Xh (Yd p s m n) m om).2.1)).trans (congrArg (fun zq => (Value.tuple #[.agg #[.int .i64 (abF hF hG bC), (.slice I ((b ++ [(⟨(⟨e, (a.V).length, f⟩ : Sv), (⟨h, ((apE a.V a.E bC 6)).length, k⟩ : Sv)⟩ : Gv)])).length J)], .bool zq])) (by first | exact (Yc (Qm p)).2.2 | exact (Yc (Ql s)).2.2 | exact (Yc (Qn m n)).2.2 | exact (Xg (Yd p s m n) m om).2.2 | exact (Xh (Yd p s m n) m om).2.2))), bQ, (Lo.down aw om), bR, a2, E⟩
 refine Yf rfl rfl rfl ?_
 refine Yb zr36 fun b8 bv br U eS => ?_
 have d2 := U.size
 have E := E.trans U
 have eU := br.lt
 replace br : Blk bv b8 36 [(.slice none 0 0), (.slice none 0 0)] := br
 have ba : Ch [] bj bv := ((Ch.refl _ _).trans U)
 refine ⟨ba, ?_⟩
 refine dO 9 (Yf rfl rfl rfl ?_)
 have c7 := al.ch0 U
 have c8 := aL.ch0 U
 have c9 := (((((((((ak.ch0 C2).ch0 C3).ch0 C4).ch0 C9).ch0 aa).ch ab (oS om)).ch0 Q).ch0 X).ch0 af).ch0 U
 refine Step.call (Zr (xs := [.tmp 28, .tmp 29]) fk37 rfl) (Zcd c7 c8 c9 om) fun cT da bM => ?_
 obtain ⟨bp, bq, rfl, K, t, L, y, C, ac⟩ := bM
 have d3 := ac.size
 have E := E.trans ac
 obtain ⟨e, f, rfl, aV, z⟩ := K.opn
 obtain ⟨h, k, rfl, aW, A⟩ := L.opn
 have bb : Ch [] bj da := (ba.trans ac)
 refine ⟨bb, ?_⟩
 refine dV 10 rfl rfl rfl (fun _ => Zg rfl) (dV 11 rfl rfl rfl (fun _ => Yj rfl rfl) (dV 12 rfl rfl rfl (fun _ => Yj rfl rfl) (dO 14 (Yf rfl rfl rfl ?_))))
 have db := br.ch0 ac
 refine Zo (off := 0) 2 db sz36 rfl (us := [(.slice e (a.V).length f), (.slice h ((apE a.V a.E bC 6)).length k)]) rfl rfl rfl rfl fun co aD Z => ?_
 have d4 := Z.size
 have E := E.step Z (lS om)
 replace aD : Blk co b8 36 [(.slice e (a.V).length f), (.slice h ((apE a.V a.E bC 6)).length k)] := aD
 have bS : Ch [] bj co := (bb.step Z (fun i hm => by have au := List.mem_singleton.1 hm; left; omega))
 refine ⟨bS, ?_⟩
 refine dV 15 rfl rfl rfl (fun _ => Ze rfl) ?_
 refine Ye (by kernel_rfl) ?_
 refine Zb (dN _ _ ?_)
 refine Zf fun fr dc => ?_
 refine Zf fun fs dd => ?_
 refine Zc (Za rfl rfl (Zg rfl) (Za rfl rfl (Xp rfl) (Zd (Zb (dd _ _ ?_)))))
 refine Zu rfl (fun n => ?_) (fun n => ?_)
 ·have cp := n
  have n := bf_t (Xv n)
  refine Zf fun ft de => ?_
  refine Zc ?_
  have df := (((((ae.ch0 Q).ch0 X).ch0 af).ch0 U).ch0 ac).ch Z (nS om)
  refine Za rfl rfl (Zj df.at_ agg57 sz57 rfl) (Zl rfl rfl ?_)
  have dg := ((((((((aR.ch0 C9).ch0 aa).ch ab (nS om)).ch0 Q).ch0 X).ch0 af).ch0 U).ch0 ac).ch Z (nS om)
  refine Zo (off := 0) 2 dg sz57 rfl (us := [(.int .i64 hF), (.slice q (b).length r)]) rfl rfl rfl rfl fun bc aE bw => ?_
  have d5 := bw.size
  have E := E.step bw (lS om)
  replace aE : Blk bc bn 57 [(.int .i64 hF), (.slice q (b).length r)] := aE
  refine Za rfl rfl (Ze rfl) (Zd (Zb (de _ _ ?_)))
  refine Zp (Zk ?_)
  have dh := ((((((((H.ch0 aa).ch ab (dS c l om)).ch0 Q).ch0 X).ch0 af).ch0 U).ch0 ac).ch Z (dS c l om)).ch bw (dS c l om)
  have di := ((((((((F.ch0 aa).ch ab (oS om)).ch0 Q).ch0 X).ch0 af).ch0 U).ch0 ac).ch Z (oS om)).ch bw (oS om)
  have bT : Ol Gv.cs 36 2 bc (.slice q (b).length r) b := by
   have hx := dh
   exact hx
  have bU : OdG 3 129 bc w.heap.size bc.heap.size b (abG hF hG bC) := by
   have hx := di.up (lo' := w.heap.size) (hi' := bc.heap.size) om om
   first | (rw [← (Yc (Qm p)).1]; exact hx) | (rw [← (Yc (Ql s)).1]; exact hx) | (rw [← (Yc (Qn m n)).1]; exact hx) | (rw [← (Xg (Yd p s m n) m om).1]; exact hx) | (rw [← (Xh (Yd p s m n) m om).1]; exact hx)
  exact Zi [_, _] (Zq aE rfl agg57 sz57 ⟨rfl, trivial⟩) ⟨(.slice q (b).length r), b, ((congrArg (fun zq => (Value.tuple #[.agg #[.int .i64 zq, (.slice q (b).length r)], .bool false])) (by first | exact (Yc (Qm p)).2.1 | exact (Yc (Ql s)).2.1 | exact (Yc (Qn m n)).2.1 | exact (Xg (Yd p s m n) m om).2.1 | exact (Xh (Yd p s m n) m om).2.1)).trans (congrArg (fun zq => (Value.tuple #[.agg #[.int .i64 (abF hF hG bC), (.slice q (b).length r)], .bool zq])) (by first | exact (Yc (Qm p)).2.2 | exact (Yc (Ql s)).2.2 | exact (Yc (Qn m n)).2.2 | exact (Xg (Yd p s m n) m om).2.2 | exact (Xh (Yd p s m n) m om).2.2))), bT, (Lo.down c om), bU, B, E⟩
 have cp := n
 have n := bt_t (Xw n)
 refine Zt ?_
 refine Zb (dc _ _ ?_)
 refine Zf fun fu dj => ?_
 refine Zc (Za rfl rfl (Zh fa57_1 rfl) ?_)
 have cq := (((((ae.ch0 Q).ch0 X).ch0 af).ch0 U).ch0 ac).ch Z (nS om)
 refine Za rfl rfl (Zn cq.at_ agg55 rfl rfl) (Za rfl rfl (Zj aD.at_ agg36 sz36 rfl) (Zl rfl rfl ?_))
 refine Xa (cs := Gv.cs) (parts := [(0, .tmp 38)]) (⟨⟨none, 0, 0⟩, ⟨none, 0, 0⟩⟩ : Gv) [(⟨(⟨e, (a.V).length, f⟩ : Sv), (⟨h, ((apE a.V a.E bC 6)).length, k⟩ : Sv)⟩ : Gv)] el55 sz36 zr36 Gv.len (by decide) rfl rfl rfl (by decide) (by decide) rfl fun cV cr aZ av ap => ?_
 have d6 := ap.size
 have E := E.trans ap
 obtain ⟨a0, a1, rfl, cd, bN⟩ := aZ.opn
 have ct := (K.ch Z (dS t z om)).ch0 ap
 have cu := (L.ch Z (dS y A om)).ch0 ap
 have cW : OdG 3 129 cr bv.heap.size cr.heap.size ([(⟨(⟨e, (a.V).length, f⟩ : Sv), (⟨h, ((apE a.V a.E bC 6)).length, k⟩ : Sv)⟩ : Gv)]) ([(⟨a.V, (apE a.V a.E bC 6)⟩ : GD)]) := OdG.snoc (hi := bv.heap.size) (vs := []) (xs := []) OdG.nil ct cu (Lo.down t om) (Lo.down y om) (fun g hg => by have S := z g hg; omega) (fun g hg => by have S := A g hg; omega) (fun g hm hg => by exact C _ hm hg) om om
 have ce : SepH (.slice a0 ([(⟨(⟨e, (a.V).length, f⟩ : Sv), (⟨h, ((apE a.V a.E bC 6)).length, k⟩ : Sv)⟩ : Gv)]).length a1) [(⟨(⟨e, (a.V).length, f⟩ : Sv), (⟨h, ((apE a.V a.E bC 6)).length, k⟩ : Sv)⟩ : Gv)] := fun u hu => by rw [List.mem_singleton.1 hu]; exact ⟨fun g hg hm => by have S := z _ hg; have R := av _ hm; omega, fun g hg hm => by have S := A _ hg; have R := av _ hm; omega⟩
 refine Zl rfl rfl ?_
 have dk := ((((((((H.ch0 aa).ch ab (dS c l om)).ch0 Q).ch0 X).ch0 af).ch0 U).ch0 ac).ch Z (dS c l om)).ch0 ap
 refine Yk (cs := Gv.cs) el55 sz36 by36 zr36 rfl (by decide) Gv.one dk aZ.ls rfl rfl (by simp only [List.length_singleton]; omega) (by simp only [List.length_singleton]; omega) c om fun cX cv az aw G ax => ?_
 have d7 := ax.size
 have E := E.step ax (fun i hi => .inl (by have S := c _ hi; omega))
 obtain ⟨I, J, rfl, cf, D⟩ := az.opn
 have be := (((((((((F.ch0 aa).ch ab (oS om)).ch0 Q).ch0 X).ch0 af).ch0 U).ch0 ac).ch Z (oS om)).ch0 ap).chH ax B
 have cY : (b ++ [(⟨(⟨e, (a.V).length, f⟩ : Sv), (⟨h, ((apE a.V a.E bC 6)).length, k⟩ : Sv)⟩ : Gv)]).length = hG.length + 1 := by simp only [List.length_append, List.length_singleton]; omega
 have a2 : SepH (.slice I ((b ++ [(⟨(⟨e, (a.V).length, f⟩ : Sv), (⟨h, ((apE a.V a.E bC 6)).length, k⟩ : Sv)⟩ : Gv)])).length J) (b ++ [(⟨(⟨e, (a.V).length, f⟩ : Sv), (⟨h, ((apE a.V a.E bC 6)).length, k⟩ : Sv)⟩ : Gv)]) := (fun u hu => ⟨fun g hg hm => by rcases List.mem_append.1 hu with hu | hu; (rcases G with ea | ea; (rw [ea] at hm; exact (B _ hu).1 _ hg hm); (have aA := D _ hm; rw [ea] at hm; have ao := List.mem_singleton.1 hm; have bO := (be.rng hu).1 _ hg; omega)); (rw [List.mem_singleton.1 hu] at hg; rcases G with ea | ea; (rw [ea] at hm; have S := c _ hm; have R := l _ hm; have ah := t _ hg; have a3 := z _ hg; omega); (have aA := D _ hm; rw [ea] at hm; have ao := List.mem_singleton.1 hm; have ah := t _ hg; have a3 := z _ hg; omega)), fun g hg hm => by rcases List.mem_append.1 hu with hu | hu; (rcases G with ea | ea; (rw [ea] at hm; exact (B _ hu).2 _ hg hm); (have aA := D _ hm; rw [ea] at hm; have ao := List.mem_singleton.1 hm; have bO := (be.rng hu).2 _ hg; omega)); (rw [List.mem_singleton.1 hu] at hg; rcases G with ea | ea; (rw [ea] at hm; have S := c _ hm; have R := l _ hm; have ah := y _ hg; have a3 := A _ hg; omega); (have aA := D _ hm; rw [ea] at hm; have ao := List.mem_singleton.1 hm; have ah := y _ hg; have a3 := A _ hg; omega))⟩)
 have dl := ct.ch ax (fun g hg hm => by have S := c _ hm; have R := l _ hm; have ah := t _ hg; have a3 := z _ hg; omega)
 have dm := cu.ch ax (fun g hg hm => by have S := c _ hm; have R := l _ hm; have ah := y _ hg; have a3 := A _ hg; omega)
 have a4 : OdG 3 129 cv W4.heap.size cv.heap.size (b ++ [(⟨(⟨e, (a.V).length, f⟩ : Sv), (⟨h, ((apE a.V a.E bC 6)).length, k⟩ : Sv)⟩ : Gv)]) (hG ++ [(⟨a.V, (apE a.V a.E bC 6)⟩ : GD)]) := OdG.snoc be (x := (⟨a.V, (apE a.V a.E bC 6)⟩ : GD)) dl dm (Lo.down t om) (Lo.down y om) (fun g hg => by have S := z g hg; omega) (fun g hg => by have S := A g hg; omega) (fun g hm hg => by exact C _ hm hg) om om
 have aB : SepH (.slice (some ⟨aj, 0, none⟩) 0 0) (b ++ [(⟨(⟨e, (a.V).length, f⟩ : Sv), (⟨h, ((apE a.V a.E bC 6)).length, k⟩ : Sv)⟩ : Gv)]) := fun u hu => ⟨fun g hg hm => by have au := List.mem_singleton.1 (show g ∈ [aj] from hm); rcases List.mem_append.1 hu with hu | hu; (have bO := (be.rng hu).1 _ hg; omega); (rw [List.mem_singleton.1 hu] at hg; have S := t _ hg; have R := z _ hg; omega), fun g hg hm => by have au := List.mem_singleton.1 (show g ∈ [aj] from hm); rcases List.mem_append.1 hu with hu | hu; (have bO := (be.rng hu).2 _ hg; omega); (rw [List.mem_singleton.1 hu] at hg; have S := y _ hg; have R := A _ hg; omega)⟩
 refine Za rfl rfl (Zh fa57_1 rfl) (Zl rfl rfl ?_)
 have dn := (cq.ch0 ap).ch ax (fun hm => by have S := c _ hm; have R := l _ hm; omega)
 refine Yp (off := 1) dn sz55 rfl rfl rfl rfl fun dp ad ay => ?_
 have d8 := ay.size
 have E := E.step ay (lS om)
 replace ad : Blk dp aj 57 [(.int .i64 hF), (.slice I ((b ++ [(⟨(⟨e, (a.V).length, f⟩ : Sv), (⟨h, ((apE a.V a.E bC 6)).length, k⟩ : Sv)⟩ : Gv)])).length J)] := ad
 refine Zd (Zb (dj _ _ ?_))
 refine Zf fun fv cw => ?_
 refine Zf fun fw dq => ?_
 refine Zc (Za rfl rfl (Zh fa57_1 rfl) (Za rfl rfl (Zn ad.at_ agg55 rfl rfl) (Za rfl rfl (Yi (by rw [el55]; rfl) rfl) (Za rfl rfl (Zeo rfl rfl) (Zd (Zb (dq _ _ ?_)))))))
 refine Zu rfl (fun T => ?_) (fun T => ?_)
 ·have cx := T
  have T := Yh T
  refine Zf fun fx dr => ?_
  refine Zc (Za rfl rfl (Zh fa57_1 rfl) (Za rfl rfl (Zn ad.at_ agg55 rfl rfl) (Zl rfl rfl ?_)))
  have ds := az.ch ay (fun g hg hm => by have au := List.mem_singleton.1 hm; rcases G with ea | ea; (rw [ea] at hg; have R := c _ hg; have ah := l _ hg; omega); (have ai := D _ hg; rw [ea] at hg; have ao := List.mem_singleton.1 hg; omega))
  have dt := a4.chH (o := .slice (some ⟨aj, 0, none⟩) 0 0) ay aB
  refine (Zhj (ys := ((b ++ [(⟨(⟨e, (a.V).length, f⟩ : Sv), (⟨h, ((apE a.V a.E bC 6)).length, k⟩ : Sv)⟩ : Gv)]).drop 1)) 1 ((b ++ [(⟨(⟨e, (a.V).length, f⟩ : Sv), (⟨h, ((apE a.V a.E bC 6)).length, k⟩ : Sv)⟩ : Gv)]).length) ds Gv.len el55 sz36 rfl ⟨_, _, rfl, by omega⟩ rfl (by first | omega | (simp only [List.length_append, List.length_singleton]; omega)) (by first | omega | (simp only [List.length_append, List.length_singleton]; omega)) (Zcs _ _) fun c0 a5 M ci => ?_)
  obtain ⟨O, P, rfl, c1, c2⟩ := a5.opn
  have bP := (dt).dropN 1
  have a6 := (a2.dropN 1).of M
  have Y := aB.dropN 1
  refine Za rfl rfl (Zh fa57_1 rfl) (Zl rfl rfl ?_)
  refine Yp (off := 1) ad sz55 rfl rfl rfl rfl fun du aq bf => ?_
  have d9 := bf.size
  have E := E.step bf (lS om)
  replace aq : Blk du aj 57 [(.int .i64 hF), (.slice O (((b ++ [(⟨(⟨e, (a.V).length, f⟩ : Sv), (⟨h, ((apE a.V a.E bC 6)).length, k⟩ : Sv)⟩ : Gv)]).drop 1)).length P)] := aq
  refine Zd (Zb (dr _ _ (Zc (Za rfl rfl (Zh fa57_0 rfl) (Za rfl rfl (Zn aq.at_ agg3 rfl rfl) (Za rfl rfl (Yq om rfl rfl) (Za rfl rfl (Zh fa57_0 rfl) (Zl rfl rfl ?_))))))))
  refine Yp (off := 0) aq sz3 rfl rfl rfl rfl fun dv aF bg => ?_
  have eb := bg.size
  have E := E.step bg (lS om)
  replace aF : Blk dv aj 57 [(.int .i64 (hF + 1)), (.slice O (((b ++ [(⟨(⟨e, (a.V).length, f⟩ : Sv), (⟨h, ((apE a.V a.E bC 6)).length, k⟩ : Sv)⟩ : Gv)]).drop 1)).length P)] := aF
  refine Zd (Zb (cw _ _ ?_))
  refine Zf fun fy dw => ?_
  refine Zc (Za rfl rfl (Zj aF.at_ agg57 sz57 rfl) (Zl rfl rfl ?_))
  have dx := (((((((((((((aR.ch0 C9).ch0 aa).ch ab (nS om)).ch0 Q).ch0 X).ch0 af).ch0 U).ch0 ac).ch Z (nS om)).ch0 ap).ch ax (fun hm => by have S := c _ hm; have R := l _ hm; omega)).ch ay (nS om)).ch bf (nS om)).ch bg (nS om)
  refine Zo (off := 0) 2 dx sz57 rfl (us := [(.int .i64 (hF + 1)), (.slice O (((b ++ [(⟨(⟨e, (a.V).length, f⟩ : Sv), (⟨h, ((apE a.V a.E bC 6)).length, k⟩ : Sv)⟩ : Gv)]).drop 1)).length P)]) rfl rfl rfl rfl fun bh aG bz => ?_
  have ec := bz.size
  have E := E.step bz (lS om)
  replace aG : Blk bh bn 57 [(.int .i64 (hF + 1)), (.slice O (((b ++ [(⟨(⟨e, (a.V).length, f⟩ : Sv), (⟨h, ((apE a.V a.E bC 6)).length, k⟩ : Sv)⟩ : Gv)]).drop 1)).length P)] := aG
  refine Za rfl rfl (Ze rfl) (Zd (Zb (dw _ _ ?_)))
  refine Zp ?_
  have dy := ((a5.ch bf (fun g hg hm => by have au := List.mem_singleton.1 hm; rw [M] at hg; rcases G with ea | ea; (rw [ea] at hg; have R := c _ hg; have ah := l _ hg; omega); (have ai := D _ hg; rw [ea] at hg; have ao := List.mem_singleton.1 hg; omega))).ch bg (fun g hg hm => by have au := List.mem_singleton.1 hm; rw [M] at hg; rcases G with ea | ea; (rw [ea] at hg; have R := c _ hg; have ah := l _ hg; omega); (have ai := D _ hg; rw [ea] at hg; have ao := List.mem_singleton.1 hg; omega))).ch bz (fun g hg hm => by have au := List.mem_singleton.1 hm; rw [M] at hg; rcases G with ea | ea; (rw [ea] at hg; have R := c _ hg; have ah := l _ hg; omega); (have ai := D _ hg; rw [ea] at hg; have ao := List.mem_singleton.1 hg; omega))
  have dz := ((bP.chH (o := .slice (some ⟨aj, 0, none⟩) 0 0) bf Y).chH (o := .slice (some ⟨aj, 0, none⟩) 0 0) bg Y).ch bz (oS om)
  have bV : Ol Gv.cs 36 2 bh (.slice O (((b ++ [(⟨(⟨e, (a.V).length, f⟩ : Sv), (⟨h, ((apE a.V a.E bC 6)).length, k⟩ : Sv)⟩ : Gv)]).drop 1)).length P) ((b ++ [(⟨(⟨e, (a.V).length, f⟩ : Sv), (⟨h, ((apE a.V a.E bC 6)).length, k⟩ : Sv)⟩ : Gv)]).drop 1) := by
   have hx := dy
   exact hx
  have bW : OdG 3 129 bh w.heap.size bh.heap.size ((b ++ [(⟨(⟨e, (a.V).length, f⟩ : Sv), (⟨h, ((apE a.V a.E bC 6)).length, k⟩ : Sv)⟩ : Gv)]).drop 1) (abG hF hG bC) := by
   have hx := dz.up (lo' := w.heap.size) (hi' := bh.heap.size) om om
   first | (rw [← (Yc (Qm p)).1]; exact hx) | (rw [← (Yc (Ql s)).1]; exact hx) | (rw [← (Yc (Qn m n)).1]; exact hx) | (rw [← (Xg (Yd p s m n) m om).1]; exact hx) | (rw [← (Xh (Yd p s m n) m om).1]; exact hx)
  exact Zi [_, _] (Zq aG rfl agg57 sz57 ⟨rfl, trivial⟩) ⟨(.slice O (((b ++ [(⟨(⟨e, (a.V).length, f⟩ : Sv), (⟨h, ((apE a.V a.E bC 6)).length, k⟩ : Sv)⟩ : Gv)]).drop 1)).length P), ((b ++ [(⟨(⟨e, (a.V).length, f⟩ : Sv), (⟨h, ((apE a.V a.E bC 6)).length, k⟩ : Sv)⟩ : Gv)]).drop 1), ((congrArg (fun zq => (Value.tuple #[.agg #[.int .i64 zq, (.slice O (((b ++ [(⟨(⟨e, (a.V).length, f⟩ : Sv), (⟨h, ((apE a.V a.E bC 6)).length, k⟩ : Sv)⟩ : Gv)]).drop 1)).length P)], .bool true])) (by first | exact (Yc (Qm p)).2.1 | exact (Yc (Ql s)).2.1 | exact (Yc (Qn m n)).2.1 | exact (Xg (Yd p s m n) m om).2.1 | exact (Xh (Yd p s m n) m om).2.1)).trans (congrArg (fun zq => (Value.tuple #[.agg #[.int .i64 (abF hF hG bC), (.slice O (((b ++ [(⟨(⟨e, (a.V).length, f⟩ : Sv), (⟨h, ((apE a.V a.E bC 6)).length, k⟩ : Sv)⟩ : Gv)]).drop 1)).length P)], .bool zq])) (by first | exact (Yc (Qm p)).2.2 | exact (Yc (Ql s)).2.2 | exact (Yc (Qn m n)).2.2 | exact (Xg (Yd p s m n) m om).2.2 | exact (Xh (Yd p s m n) m om).2.2))), bV, (Lo.down (fun g hg => aw g (M ▸ hg)) om), bW, a6, E⟩
 have cx := T
 have T := Yg T
 refine Zt ?_
 refine Zb (cw _ _ ?_)
 refine Zf fun fz dA => ?_
 refine Zc (Za rfl rfl (Zj ad.at_ agg57 sz57 rfl) (Zl rfl rfl ?_))
 have dB := (((((((((((aR.ch0 C9).ch0 aa).ch ab (nS om)).ch0 Q).ch0 X).ch0 af).ch0 U).ch0 ac).ch Z (nS om)).ch0 ap).ch ax (fun hm => by have S := c _ hm; have R := l _ hm; omega)).ch ay (nS om)
 refine Zo (off := 0) 2 dB sz57 rfl (us := [(.int .i64 hF), (.slice I ((b ++ [(⟨(⟨e, (a.V).length, f⟩ : Sv), (⟨h, ((apE a.V a.E bC 6)).length, k⟩ : Sv)⟩ : Gv)])).length J)]) rfl rfl rfl rfl fun bi aH bA => ?_
 have ed := bA.size
 have E := E.step bA (lS om)
 replace aH : Blk bi bn 57 [(.int .i64 hF), (.slice I ((b ++ [(⟨(⟨e, (a.V).length, f⟩ : Sv), (⟨h, ((apE a.V a.E bC 6)).length, k⟩ : Sv)⟩ : Gv)])).length J)] := aH
 refine Za rfl rfl (Ze rfl) (Zd (Zb (dA _ _ ?_)))
 refine Zp ?_
 have dC := (az.ch ay (fun g hg hm => by have au := List.mem_singleton.1 hm; rcases G with ea | ea; (rw [ea] at hg; have R := c _ hg; have ah := l _ hg; omega); (have ai := D _ hg; rw [ea] at hg; have ao := List.mem_singleton.1 hg; omega))).ch bA (fun g hg hm => by have au := List.mem_singleton.1 hm; rcases G with ea | ea; (rw [ea] at hg; have R := c _ hg; have ah := l _ hg; omega); (have ai := D _ hg; rw [ea] at hg; have ao := List.mem_singleton.1 hg; omega))
 have dD := (a4.chH (o := .slice (some ⟨aj, 0, none⟩) 0 0) ay aB).ch bA (oS om)
 have bX : Ol Gv.cs 36 2 bi (.slice I ((b ++ [(⟨(⟨e, (a.V).length, f⟩ : Sv), (⟨h, ((apE a.V a.E bC 6)).length, k⟩ : Sv)⟩ : Gv)])).length J) (b ++ [(⟨(⟨e, (a.V).length, f⟩ : Sv), (⟨h, ((apE a.V a.E bC 6)).length, k⟩ : Sv)⟩ : Gv)]) := by
  have hx := dC
  exact hx
 have bY : OdG 3 129 bi w.heap.size bi.heap.size (b ++ [(⟨(⟨e, (a.V).length, f⟩ : Sv), (⟨h, ((apE a.V a.E bC 6)).length, k⟩ : Sv)⟩ : Gv)]) (abG hF hG bC) := by
  have hx := dD.up (lo' := w.heap.size) (hi' := bi.heap.size) om om
  first | (rw [← (Yc (Qm p)).1]; exact hx) | (rw [← (Yc (Ql s)).1]; exact hx) | (rw [← (Yc (Qn m n)).1]; exact hx) | (rw [← (Xg (Yd p s m n) m om).1]; exact hx) | (rw [← (Xh (Yd p s m n) m om).1]; exact hx)
 exact Zi [_, _] (Zq aH rfl agg57 sz57 ⟨rfl, trivial⟩) ⟨(.slice I ((b ++ [(⟨(⟨e, (a.V).length, f⟩ : Sv), (⟨h, ((apE a.V a.E bC 6)).length, k⟩ : Sv)⟩ : Gv)])).length J), (b ++ [(⟨(⟨e, (a.V).length, f⟩ : Sv), (⟨h, ((apE a.V a.E bC 6)).length, k⟩ : Sv)⟩ : Gv)]), ((congrArg (fun zq => (Value.tuple #[.agg #[.int .i64 zq, (.slice I ((b ++ [(⟨(⟨e, (a.V).length, f⟩ : Sv), (⟨h, ((apE a.V a.E bC 6)).length, k⟩ : Sv)⟩ : Gv)])).length J)], .bool true])) (by first | exact (Yc (Qm p)).2.1 | exact (Yc (Ql s)).2.1 | exact (Yc (Qn m n)).2.1 | exact (Xg (Yd p s m n) m om).2.1 | exact (Xh (Yd p s m n) m om).2.1)).trans (congrArg (fun zq => (Value.tuple #[.agg #[.int .i64 (abF hF hG bC), (.slice I ((b ++ [(⟨(⟨e, (a.V).length, f⟩ : Sv), (⟨h, ((apE a.V a.E bC 6)).length, k⟩ : Sv)⟩ : Gv)])).length J)], .bool zq])) (by first | exact (Yc (Qm p)).2.2 | exact (Yc (Ql s)).2.2 | exact (Yc (Qn m n)).2.2 | exact (Xg (Yd p s m n) m om).2.2 | exact (Xh (Yd p s m n) m om).2.2))), bX, (Lo.down aw om), bY, a2, E⟩

/-- laws.FnExactAppendBatch -/
theorem Zbr {w : World} (hF : Int) {LL_shG dx : Nat} {cp : Value} {shG : List Gv} (ae : Ls Gv.cs 2 w LL_shG dx cp shG) {LR_hG BB_hG : Nat} {hG : List GD} (aF : RdG w LR_hG BB_hG shG hG) {LL_bC d3 : Nat} {dk : Value} {bC : List Chg} (aY : Ls Chg.cs 5 w LL_bC d3 dk bC) :
 Ctr Try.prog 4 #[(.agg #[(.int .i64 hF), cp]), (.agg #[dk])] w (fun v w' => v = .bool (true) ∧ Ch [] w w') := by
 obtain ⟨cq, cr, dd⟩ := ae.val
 subst dd
 have e8 := ae.len
 have ae := ae.here (by decide)
 have aF := aF.here
 have e9 := aF.1
 obtain ⟨dl, dm, dy⟩ := aY.val
 subst dy
 have hk := aY.len
 have aY := aY.here (by decide)
 have E := Ch.refl [] w
 have km := Zhv hG; have kn := Zmk hF hG bC; have iE := Zkd 1 (abG hF hG bC); rw [Zgw] at iE
 refine Zx (N := 119) (vs0 := [(.agg #[(.int .i64 hF), (.slice cq shG.length cr)]), (.agg #[(.slice dl bC.length dm)])]) Try.func4 rfl rfl rfl ?_
 refine Zf fun K1 H1 => ?_
 refine Zc (Zl rfl rfl ?_)
 refine Yw rfl fun hl W2 eV C2 ko => ?_
 have kp := C2.size
 have E := E.trans C2
 have kq := eV.lt
 replace eV : Blk W2 hl 49 [(.int .i64 hF), (.slice cq shG.length cr)] := eV
 refine Zl rfl rfl ?_
 refine Yw rfl fun hn W3 eW C3 kr => ?_
 have ks := C3.size
 have E := E.trans C3
 have kt := eW.lt
 replace eW : Blk W3 hn 52 [(.slice dl bC.length dm)] := eW
 refine Za rfl rfl (Ze rfl) (Zd (Zb (H1 _ _ ?_)))
 refine Zf fun K4 H4 => ?_
 refine Zc (Za rfl rfl (Ze rfl) (Zd (Zb (H4 _ _ ?_))))
 refine Zf fun K5 H5 => ?_
 refine Zc ?_
 have F6 := eV.ch0 C3
 refine Za rfl rfl (Zj F6.at_ agg49 sz49 rfl) (Za rfl rfl (Zg rfl) (Zl rfl rfl ?_))
 have F7 := (ae.ch0 C2).ch0 C3
 have F8 := (aF.ch0 C2).ch0 C3
 refine Step.call (Zr (xs := [.tmp 17, .tmp 18]) fk19 rfl) (Zeu _ F7 F8 _ om om) fun iF W9 fa => ?_
 obtain ⟨rfl, C9⟩ := fa
 have ku := C9.size
 have E := E.trans C9
 refine Za rfl rfl (Ze rfl) (Zd (Zb (H5 _ _ ?_)))
 refine Zf fun kv iG => ?_
 refine Zf fun kw iH => ?_
 refine Zc (Za rfl rfl (Zg rfl) (Za rfl rfl (Yv rfl rfl) (Zd (Zb (iH _ _ ?_)))))
 refine Zu rfl (fun aG => ?_) (fun aG => ?_)
 ·have fb := aG
  have aG := Yh aG
  refine Zf fun kx iI => ?_
  refine Zc (Za rfl rfl (Ze rfl) (Zd (Zb (iI _ _ ?_))))
  refine Zp (Zk ?_)
  exact Zi [_] ⟨rfl, trivial⟩ ⟨congrArg Value.bool (by first | rfl | (exfalso; omega) | (exfalso; revert aG; simp; done) | (exfalso; revert aG; simp; omega)), E⟩
 have fb := aG
 have aG := Yg aG
 refine Zt ?_
 refine Zb (iG _ _ ?_)
 refine Zf fun ky iJ => ?_
 refine Zc ?_
 have fc := eW.ch0 C9
 refine Za rfl rfl (Zj fc.at_ agg52 sz52 rfl) (Za rfl rfl (Zg rfl) (Zl rfl rfl ?_))
 have d4 := ((aY.ch0 C2).ch0 C3).ch0 C9
 refine Step.call (Zr (xs := [.tmp 22, .tmp 23]) fk20 rfl) (Zgf d4 _ om om) fun iK dn fd => ?_
 obtain ⟨rfl, bq⟩ := fd
 have iL := bq.size
 have E := E.trans bq
 refine Za rfl rfl (Ze rfl) (Zd (Zb (iJ _ _ ?_)))
 refine Zf fun kz iM => ?_
 refine Zf fun kA iN => ?_
 refine Zc (Za rfl rfl (Zg rfl) (Za rfl rfl (Yv rfl rfl) (Zd (Zb (iN _ _ ?_)))))
 refine Zu rfl (fun aH => ?_) (fun aH => ?_)
 ·have fe := aH
  have aH := Yh aH
  refine Zf fun kB iO => ?_
  refine Zc (Za rfl rfl (Ze rfl) (Zd (Zb (iO _ _ ?_))))
  refine Zp (Zk ?_)
  exact Zi [_] ⟨rfl, trivial⟩ ⟨congrArg Value.bool (by first | rfl | (exfalso; omega) | (exfalso; revert aH; simp; done) | (exfalso; revert aH; simp; omega)), E⟩
 have fe := aH
 have aH := Yg aH
 refine Zt ?_
 refine Zb (iM _ _ ?_)
 refine Zf fun iP iQ => ?_
 have bY : ∀ (lj : KL) (Q : World) (dX : Nat) (aB : Value) (aI : List Gv), Go.KLib.Sub [(2, (.pointer (some ⟨hl, 0, none⟩))), (3, (.pointer (some ⟨hn, 0, none⟩))), (4, (.bool false)), (6, (.pointer (some ⟨dX, 0, none⟩))), (7, (.bool (tt (AbOk hF hG bC))))] lj → Ch [] dn Q → Ol Gv.cs 36 2 Q aB aI → Lo dn.heap.size aB → OdG 3 129 Q dn.heap.size Q.heap.size aI (abG hF hG bC) → SepH aB aI → Blk Q dX 57 [(.int .i64 (abF hF hG bC)), aB] → dn.heap.size ≤ dX → dX ∉ bl aB → iP lj Q := by
  intro lj Q dX aB aI ct K bZ I cu d5 dp ho dq
  refine iQ _ _ (Zms ct ?_)
  have d6 := K.size
  have E := E.trans K
  obtain ⟨eX, eY, rfl, eZ, J⟩ := bZ.opn
  have hp := dp.lt
  refine Zf fun kC iR => ?_
  refine Zc ?_
  have hq := ((F6.ch0 C9).ch0 bq).ch0 K
  refine Za rfl rfl (Zj hq.at_ agg49 sz49 rfl) (Zl rfl rfl ?_)
  have hr := ((F7.ch0 C9).ch0 bq).ch0 K
  have hs := ((F8.ch0 C9).ch0 bq).ch0 K
  refine Step.call (Zr (xs := [.tmp 35]) fk22 rfl) (Qk _ hr hs om) fun iS iT ff => ?_
  obtain ⟨e0, aC, rfl, af, G, aZ, av, da⟩ := ff
  have iU := da.size
  have E := E.trans da
  obtain ⟨a0, a1, rfl, d7, L⟩ := af.opn
  refine Zl rfl rfl ?_
  refine Yb zr57 fun ht iV e1 cn kD => ?_
  have iW := cn.size
  have E := E.trans cn
  have kE := e1.lt
  replace e1 : Blk iV ht 57 [(.int .i64 0), (.slice none 0 0)] := e1
  refine Zl rfl rfl ?_
  refine Zo (off := 0) 2 e1 sz57 rfl (us := [(.int .i64 hF), (.slice a0 (aC).length a1)]) rfl rfl rfl rfl fun iX cv co => ?_
  have iY := co.size
  have E := E.step co (lS om)
  replace cv : Blk iX ht 57 [(.int .i64 hF), (.slice a0 (aC).length a1)] := cv
  refine Zd (Zb (iR _ _ ?_))
  refine Zf fun kF iZ => ?_
  refine Zc ?_
  have hu := ((((fc.ch0 bq).ch0 K).ch0 da).ch0 cn).ch co (nS om)
  refine Za rfl rfl (Zj hu.at_ agg52 sz52 rfl) (Zl rfl rfl ?_)
  have hv := ((((d4.ch0 bq).ch0 K).ch0 da).ch0 cn).ch co (oS om)
  refine Step.call (Zr (xs := [.tmp 37]) fk23 rfl) (Qb hv om) fun i0 kG fg => ?_
  obtain ⟨e2, rfl, ag, a, b6⟩ := fg
  have i1 := b6.size
  have E := E.trans b6
  obtain ⟨a2, a3, rfl, d8, h⟩ := ag.opn
  refine Zl rfl rfl ?_
  refine Yb zr63 fun hw i2 e3 b0 kH => ?_
  have i3 := b0.size
  have E := E.trans b0
  have kI := e3.lt
  replace e3 : Blk i2 hw 63 [(.slice none 0 0)] := e3
  refine Zl rfl rfl ?_
  refine Zo (off := 0) 1 e3 sz63 rfl (us := [(.slice a2 (bC).length a3)]) rfl rfl rfl rfl fun hx b1 b2 => ?_
  have i4 := b2.size
  have E := E.step b2 (lS om)
  replace b1 : Blk hx hw 63 [(.slice a2 (bC).length a3)] := b1
  refine Zd (Zb (iZ _ _ ?_))
  refine Zf fun kJ i5 => ?_
  refine Zc ?_
  have hy := ((cv.ch0 b6).ch0 b0).ch b2 (nS om)
  refine Za rfl rfl (Zj hy.at_ agg57 sz57 rfl) (Za rfl rfl (Zj b1.at_ agg63 sz63 rfl) (Zl rfl rfl ?_))
  have hz := ((((af.ch0 cn).ch co (dS G L om)).ch0 b6).ch0 b0).ch b2 (dS G L om)
  have hA := ((((aZ.ch0 cn).ch co (oS om)).ch0 b6).ch0 b0).ch b2 (oS om)
  have hB := (ag.ch0 b0).ch b2 (dS a h om)
  refine Step.call (Zr (xs := [.tmp 40, .tmp 41]) fk24 rfl) (Qp _ hz.ls hA.rdg hB.ls om) fun i6 i7 fh => ?_
  obtain ⟨e4, aD, rfl, ah, H, a4, aw, br⟩ := fh
  have i8 := br.size
  have E := E.trans br
  obtain ⟨a5, a6, rfl, d9, M⟩ := ah.opn
  refine Za rfl rfl (Zg rfl) (Za rfl rfl (Yj rfl rfl) (Za rfl rfl (Yj rfl rfl) (Zl rfl rfl ?_)))
  refine Yb zr57 fun dz i9 de a7 ja => ?_
  have jb := a7.size
  have E := E.trans a7
  have jc := de.lt
  replace de : Blk i9 dz 57 [(.int .i64 0), (.slice none 0 0)] := de
  refine Zl rfl rfl ?_
  refine Zo (off := 0) 2 de sz57 rfl (us := [(.int .i64 (abF hF hG bC)), (.slice a5 (aD).length a6)]) rfl rfl rfl rfl fun jd b3 a8 => ?_
  have je := a8.size
  have E := E.step a8 (lS om)
  replace b3 : Blk jd dz 57 [(.int .i64 (abF hF hG bC)), (.slice a5 (aD).length a6)] := b3
  refine Za rfl rfl (Ze rfl) (Zd (Zb (i5 _ _ ?_)))
  refine Zf fun kK jf => ?_
  refine Zf fun kL hC => ?_
  refine Zc (Za rfl rfl (Zj b3.at_ agg57 sz57 rfl) ?_)
  have hD := ((((((((dp.ch0 da).ch0 cn).ch co (nS om)).ch0 b6).ch0 b0).ch b2 (nS om)).ch0 br).ch0 a7).ch a8 (nS om)
  refine Za rfl rfl (Zj hD.at_ agg57 sz57 rfl) (Zl rfl rfl ?_)
  have hE := (ah.ch0 a7).ch a8 (dS H M om)
  have hH := (a4.ch0 a7).ch a8 (oS om)
  have hI := ((((((((bZ.ch0 da).ch0 cn).ch co (dS I J om)).ch0 b6).ch0 b0).ch b2 (dS I J om)).ch0 br).ch0 a7).ch a8 (dS I J om)
  have hJ := ((((((((cu.ch0 da).ch0 cn).ch co (oS om)).ch0 b6).ch0 b0).ch b2 (oS om)).ch0 br).ch0 a7).ch a8 (oS om)
  refine Step.call (Zr (xs := [.tmp 45, .tmp 46]) fk25 rfl) (Zak _ hE.ls hH.rdg _ hI.ls hJ.rdg ) fun jg kM fi => ?_
  obtain ⟨rfl, aW⟩ := fi
  have jh := aW.size
  have E := E.trans aW
  refine Za rfl rfl (Xp rfl) (Za rfl rfl (Zg rfl) ?_)
  refine Yz (d := 49) rfl (fun aJ => ?_) (fun aJ => ?_)
  ·have dA := aJ
   have aJ := bf_t (Xv aJ)
   refine Zm rfl rfl (Zm rfl rfl (Zm rfl rfl (Za rfl rfl (Yo rfl rfl) (Zd (Zb (hC _ _ ?_))))))
   refine Xy rfl ?_
   refine Zf fun kN ji => ?_
   refine Zc (Za rfl rfl (Ze rfl) (Zd (Zb (ji _ _ ?_))))
   refine Zp (Zk ?_)
   exact Zi [_] ⟨rfl, trivial⟩ ⟨congrArg Value.bool (by first | rfl | (exfalso; omega) | (exfalso; revert aJ; simp; done) | (exfalso; revert aJ; simp; omega)), E⟩
  have dA := aJ
  have aJ := bt_t (Xw aJ)
  refine Za rfl rfl (Zg rfl) (Za rfl rfl (Zg rfl) (Za rfl rfl (Zih un4 rfl rfl) (Za rfl rfl (Yn rfl rfl) (Zd (Zb (hC _ _ ?_))))))
  refine Zu rfl (fun aK => ?_) (fun aK => ?_)
  ·have dB := aK
   have aK := bf_e (Xv aK)
   refine Zf fun kO jj => ?_
   refine Zc (Za rfl rfl (Ze rfl) (Zd (Zb (jj _ _ ?_))))
   refine Zp (Zk ?_)
   exact Zi [_] ⟨rfl, trivial⟩ ⟨congrArg Value.bool (by first | rfl | (exfalso; omega) | (exfalso; revert aK; simp; done) | (exfalso; revert aK; simp; omega)), E⟩
  have dB := aK
  have aK := bt_e (Xw aK)
  refine Zt ?_
  refine Zb (jf _ _ ?_)
  refine Zf fun kP jk => ?_
  refine Zf fun kQ jl => ?_
  refine Xd [] 5 mixed rfl fun hK aX => ?_
  have jm := aX.size
  have E := E.trans aX
  have hL := ((((hy.ch0 br).ch0 a7).ch a8 (nS om)).ch0 aW).ch0 aX
  refine dT 0 rfl rfl rfl (Yl hL.at_ (fun i hi => absurd hi List.not_mem_nil) agg57 sz57 rfl ?_)
  have hM := ((((((((((hq.ch0 da).ch0 cn).ch co (nS om)).ch0 b6).ch0 b0).ch b2 (nS om)).ch0 br).ch0 a7).ch a8 (nS om)).ch0 aW).ch0 aX
  refine dT 1 rfl rfl rfl (Yl hM.at_ (fun i hi => absurd hi List.not_mem_nil) agg49 sz49 rfl ?_)
  refine dO 2 (Yf rfl rfl rfl ?_)
  have fj := ((((((((((hr.ch0 da).ch0 cn).ch co (oS om)).ch0 b6).ch0 b0).ch b2 (oS om)).ch0 br).ch0 a7).ch a8 (oS om)).ch0 aW).ch0 aX
  have fk := ((((((((((hs.ch0 da).ch0 cn).ch co (oS om)).ch0 b6).ch0 b0).ch b2 (oS om)).ch0 br).ch0 a7).ch a8 (oS om)).ch0 aW).ch0 aX
  refine Step.call (Zr (xs := [.tmp 55]) fk22 rfl) (Qk _ fj fk om) fun jn jo fl => ?_
  obtain ⟨e5, dY, rfl, ai, dr, a9, db, ax⟩ := fl
  have jp := ax.size
  have E := E.trans ax
  obtain ⟨ea, eb, rfl, ec, dC⟩ := ai.opn
  have ds : Ch [] hK jo := ((Ch.refl _ _).trans ax)
  refine ⟨ds, ?_⟩
  refine dO 3 (Yf rfl rfl rfl ?_)
  have hN := (((((hz.ch0 br).ch0 a7).ch a8 (dS G L om)).ch0 aW).ch0 aX).ch0 ax
  have hO := (((((hA.ch0 br).ch0 a7).ch a8 (oS om)).ch0 aW).ch0 aX).ch0 ax
  refine Step.call (Zr (xs := [.tmp 54, .tmp 56]) fk25 rfl) (Zak _ hN.ls hO.rdg _ ai.ls a9.rdg ) fun jq jr fm => ?_
  obtain ⟨rfl, ay⟩ := fm
  have js := ay.size
  have E := E.trans ay
  have ed : Ch [] hK jr := (ds.trans ay)
  refine ⟨ed, ?_⟩
  refine dV 4 rfl rfl rfl (fun _ => Xp rfl) ?_
  refine Ye (by kernel_rfl) ?_
  refine Zb (jl _ _ ?_)
  refine Zu rfl (fun aL => ?_) (fun aL => ?_)
  ·have fn := aL
   have aL := bf_t (Xv aL)
   refine Zf fun kR jt => ?_
   refine Zc (Za rfl rfl (Ze rfl) (Zd (Zb (jt _ _ ?_))))
   refine Zp (Zk ?_)
   exact Zi [_] ⟨rfl, trivial⟩ ⟨congrArg Value.bool (by first | rfl | (exfalso; omega) | (exfalso; revert aL; simp; done) | (exfalso; revert aL; simp; omega)), E⟩
  have fn := aL
  have aL := bt_t (Xw aL)
  refine Zt ?_
  refine Zb (jk _ _ ?_)
  refine Zf fun kS ju => ?_
  refine Zf fun kT jv => ?_
  refine Xd [] 5 mixed rfl fun hP aE => ?_
  have jw := aE.size
  have E := E.trans aE
  have hQ := (((((((b1.ch0 br).ch0 a7).ch a8 (nS om)).ch0 aW).ch0 aX).ch0 ax).ch0 ay).ch0 aE
  refine dT 0 rfl rfl rfl (Yl hQ.at_ (fun i hi => absurd hi List.not_mem_nil) agg63 sz63 rfl ?_)
  have hR := ((((((((((hu.ch0 b6).ch0 b0).ch b2 (nS om)).ch0 br).ch0 a7).ch a8 (nS om)).ch0 aW).ch0 aX).ch0 ax).ch0 ay).ch0 aE
  refine dT 1 rfl rfl rfl (Yl hR.at_ (fun i hi => absurd hi List.not_mem_nil) agg52 sz52 rfl ?_)
  refine dO 2 (Yf rfl rfl rfl ?_)
  have e6 := ((((((((((hv.ch0 b6).ch0 b0).ch b2 (oS om)).ch0 br).ch0 a7).ch a8 (oS om)).ch0 aW).ch0 aX).ch0 ax).ch0 ay).ch0 aE
  refine Step.call (Zr (xs := [.tmp 60]) fk23 rfl) (Qb e6 om) fun jx jy fo => ?_
  obtain ⟨e7, rfl, aj, dt, ak⟩ := fo
  have jz := ak.size
  have E := E.trans ak
  obtain ⟨ee, ef, rfl, eg, dD⟩ := aj.opn
  have du : Ch [] hP jy := ((Ch.refl _ _).trans ak)
  refine ⟨du, ?_⟩
  refine dO 3 (Yf rfl rfl rfl ?_)
  have hS := ((((((((hB.ch0 br).ch0 a7).ch a8 (dS a h om)).ch0 aW).ch0 aX).ch0 ax).ch0 ay).ch0 aE).ch0 ak
  refine Step.call (Zr (xs := [.tmp 59, .tmp 61]) fk26 rfl) (Zge hS.ls aj.ls ) fun jA jB fp => ?_
  obtain ⟨rfl, al⟩ := fp
  have jC := al.size
  have E := E.trans al
  have eh : Ch [] hP jB := (du.trans al)
  refine ⟨eh, ?_⟩
  refine dV 4 rfl rfl rfl (fun _ => Xp rfl) ?_
  refine Ye (by kernel_rfl) ?_
  refine Zb (jv _ _ ?_)
  refine Zu rfl (fun aM => ?_) (fun aM => ?_)
  ·have fq := aM
   have aM := Yg (Xv aM)
   refine Zf fun kU jD => ?_
   refine Zc (Za rfl rfl (Ze rfl) (Zd (Zb (jD _ _ ?_))))
   refine Zp (Zk ?_)
   exact Zi [_] ⟨rfl, trivial⟩ ⟨congrArg Value.bool (by first | rfl | (exfalso; omega) | (exfalso; revert aM; simp; done) | (exfalso; revert aM; simp; omega)), E⟩
  have fq := aM
  have aM := Yh (Xw aM)
  refine Zt ?_
  refine Zb (ju _ _ ?_)
  refine Zf fun kV jE => ?_
  refine Zc (Za rfl rfl (Ze rfl) (Zd (Zb (jE _ _ ?_))))
  refine Zf fun kW jF => ?_
  refine Zc ?_
  have jG := ((((hL.ch0 ax).ch0 ay).ch0 aE).ch0 ak).ch0 al
  refine Za rfl rfl (Zj jG.at_ agg57 sz57 rfl) (Za rfl rfl (Zg rfl) (Zl rfl rfl ?_))
  have jH := (((hN.ch0 ay).ch0 aE).ch0 ak).ch0 al
  have jI := (((hO.ch0 ay).ch0 aE).ch0 ak).ch0 al
  refine Step.call (Zr (xs := [.tmp 64, .tmp 65]) fk27 rfl) (Zbn _ jH (jI.up (lo' := Q.heap.size) (hi' := iT.heap.size) om om) (fun g hm => by have B := G _ hm; have am := L _ hm; omega) av om _ om (by first | omega | (simp <;> omega))) fun jJ kX ei => ?_
  obtain ⟨rfl, ei, jK, aN⟩ := ei
  have jL := aN.size
  have E := E.step aN (fun i hm => by have B := Xm hm; left; omega)
  refine Za rfl rfl (Ze rfl) (Zd (Zb (jF _ _ ?_)))
  refine Zf fun kY jM => ?_
  refine Zc ?_
  have jN := ((hQ.ch0 ak).ch0 al).ch aN (fun hm => by have B := Xm hm; omega)
  refine Za rfl rfl (Zj jN.at_ agg63 sz63 rfl) (Za rfl rfl (Zg rfl) (Zl rfl rfl ?_))
  have jO := (hS.ch0 al).ch aN (fun g hg hm => by have cw := Xm hm; have B := a _ hg; have am := h _ hg; omega)
  refine Step.call (Zr (xs := [.tmp 67, .tmp 68]) fk28 rfl) (Zer jO _ om (by first | omega | (simp <;> omega))) fun jP kZ ej => ?_
  obtain ⟨rfl, ej, ba⟩ := ej
  have jQ := ba.size
  have E := E.step ba (fun i hi => .inl (by have B := a _ hi; omega))
  refine Za rfl rfl (Ze rfl) (Zd (Zb (jM _ _ ?_)))
  refine Zf fun k3 jR => ?_
  refine Zf fun jS ek => ?_
  refine Zc (Za rfl rfl (Zg rfl) (Za rfl rfl (Yv rfl rfl) (Za rfl rfl (Zg rfl) ?_)))
  refine Yz (d := 72) rfl (fun aO => ?_) (fun aO => ?_)
  ·have el := aO
   have aO := Yh aO
   refine Zm rfl rfl (Zm rfl rfl (Zm rfl rfl (Zm rfl rfl (Za rfl rfl (Yo rfl rfl) (Za rfl rfl (Zg rfl) (Zm rfl rfl (Zm rfl rfl ?_)))))))
   refine Zm rfl rfl (Za rfl rfl (Yo rfl rfl) (Zd (Zb (ek _ _ ?_))))
   refine Xy rfl ?_
   refine Zf fun jT fr => ?_
   refine Zc (Za rfl rfl (Ze rfl) (Zd (Zb (fr _ _ ?_))))
   refine Zp (Zk ?_)
   exact Zi [_] ⟨rfl, trivial⟩ ⟨congrArg Value.bool (by first | rfl | (exfalso; omega) | (exfalso; revert aO; simp; done) | (exfalso; revert aO; simp; omega)), E⟩
  have el := aO
  have aO := Yg aO
  have em := ((((((((b3.ch0 aW).ch0 aX).ch0 ax).ch0 ay).ch0 aE).ch0 ak).ch0 al).ch aN (fun hm => by have B := Xm hm; omega)).ch ba (fun hm => by have B := a _ hm; have am := h _ hm; omega)
  refine Za rfl rfl (Zj em.at_ agg57 sz57 rfl) ?_
  have en := ((((((((hD.ch0 aW).ch0 aX).ch0 ax).ch0 ay).ch0 aE).ch0 ak).ch0 al).ch aN (fun hm => by have B := Xm hm; omega)).ch ba (fun hm => by have B := a _ hm; have am := h _ hm; omega)
  refine Za rfl rfl (Zj en.at_ agg57 sz57 rfl) (Zl rfl rfl ?_)
  have eo := ((((((((hE.ch0 aW).ch0 aX).ch0 ax).ch0 ay).ch0 aE).ch0 ak).ch0 al).ch aN (fun g hg hm => by have cw := Xm hm; have B := H _ hg; have am := M _ hg; omega)).ch ba (fun g hg hm => by have B := a _ hm; have am := h _ hm; have jU := H _ hg; have jV := M _ hg; omega)
  have ep := ((((((((hH.ch0 aW).ch0 aX).ch0 ax).ch0 ay).ch0 aE).ch0 ak).ch0 al).ch aN (fun i hm => by have B := Xm hm; omega)).ch ba (fun i hm => by have B := a _ hm; have am := h _ hm; omega)
  have er := ((((((((hI.ch0 aW).ch0 aX).ch0 ax).ch0 ay).ch0 aE).ch0 ak).ch0 al).ch aN (fun g hg hm => by have cw := Xm hm; have B := I _ hg; have am := J _ hg; omega)).ch ba (fun g hg hm => by have B := a _ hm; have am := h _ hm; have jU := I _ hg; have jV := J _ hg; omega)
  have es := ((((((((hJ.ch0 aW).ch0 aX).ch0 ax).ch0 ay).ch0 aE).ch0 ak).ch0 al).ch aN (fun i hm => by have B := Xm hm; omega)).ch ba (fun i hm => by have B := a _ hm; have am := h _ hm; omega)
  refine Step.call (Zr (xs := [.tmp 73, .tmp 74]) fk25 rfl) (Zak _ eo.ls ep.rdg _ er.ls es.rdg ) fun jW jX fs => ?_
  obtain ⟨rfl, R⟩ := fs
  have hT := R.size
  have E := E.trans R
  refine Za rfl rfl (Xp rfl) (Za rfl rfl (Yn rfl rfl) (Za rfl rfl (Zg rfl) ?_))
  refine Zho (d := 78) rfl dA ?_
  refine Za rfl rfl (Zg rfl) (Za rfl rfl (Zg rfl) (Za rfl rfl (Zih un4 rfl rfl) (Za rfl rfl (Yn rfl rfl) (Zd (Zb (ek _ _ ?_))))))
  refine Zfa rfl dB ?_
  refine Zt ?_
  refine Zb (jR _ _ ?_)
  refine Zf fun jY ft => ?_
  refine Zc (Za rfl rfl (Ze rfl) (Zd (Zb (ft _ _ ?_))))
  refine Zf fun jZ fu => ?_
  refine Zc ?_
  have et := em.ch0 R
  refine Za rfl rfl (Zj et.at_ agg57 sz57 rfl) (Za rfl rfl (Zg rfl) (Zl rfl rfl ?_))
  have fv := eo.ch0 R
  have fw := ep.ch0 R
  refine Step.call (Zr (xs := [.tmp 83, .tmp 84]) fk27 rfl) (Zbn _ fv (fw.up (lo' := hx.heap.size) (hi' := i7.heap.size) om om) (fun g hm => by have B := H _ hm; have am := M _ hm; omega) aw om _ om (by first | omega | (simp <;> omega))) fun j0 j1 df => ?_
  obtain ⟨rfl, df, eu, V⟩ := df
  have hU := V.size
  have E := E.step V (fun i hm => by have B := Xm hm; left; omega)
  refine Za rfl rfl (Ze rfl) (Zd (Zb (fu _ _ ?_)))
  refine Zf fun j2 fx => ?_
  refine Zc (Za rfl rfl (Ze rfl) (Zd (Zb (fx _ _ ?_))))
  refine Zf fun j3 fy => ?_
  refine Zc ?_
  have ew := et.ch V (fun hm => by have B := Xm hm; omega)
  refine Za rfl rfl (Zj ew.at_ agg57 sz57 rfl) (Za rfl rfl (Zg rfl) (Zl rfl rfl ?_))
  refine Step.call (Zr (xs := [.tmp 86, .tmp 87]) fk29 rfl) (Zbm _ eu.ls df.rdg _ om (by rw [Zgx]; omega)) fun j4 bb fz => ?_
  obtain ⟨rfl, S⟩ := fz
  have hV := S.size
  have E := E.trans S
  refine Za rfl rfl (Ze rfl) (Zd (Zb (fy _ _ ?_)))
  refine Zf fun j5 fA => ?_
  refine Zf fun j6 fB => ?_
  refine Zc (Za rfl rfl (Zg rfl) (Za rfl rfl (Yv rfl rfl) (Zd (Zb (fB _ _ ?_)))))
  refine Zu rfl (fun aP => ?_) (fun aP => ?_)
  ·have dv := aP
   have aP := Yh aP
   refine Zf fun j7 fC => ?_
   refine Zc (Za rfl rfl (Ze rfl) (Zd (Zb (fC _ _ ?_))))
   refine Zp (Zk ?_)
   exact Zi [_] ⟨rfl, trivial⟩ ⟨congrArg Value.bool (by first | rfl | (exfalso; omega) | (exfalso; revert aP; simp; done) | (exfalso; revert aP; simp; omega)), E⟩
  have dv := aP
  have aP := Yg aP
  refine Zt ?_
  refine Zb (fA _ _ ?_)
  refine Zf fun j8 fD => ?_
  refine Zf fun j9 fE => ?_
  refine Zc (Za rfl rfl (Zg rfl) (Za rfl rfl (Zg rfl) (Za rfl rfl (Zbs rfl rfl) (Zd (Zb (fE _ _ ?_))))))
  refine Zu rfl (fun an => ?_) (fun an => ?_)
  ·have dw := an
   have an := Yg (Xv an)
   refine Zf fun ka fF => ?_
   refine Zc (Za rfl rfl (Ze rfl) (Zd (Zb (fF _ _ ?_))))
   refine Zp (Zk ?_)
   exact Zi [_] ⟨rfl, trivial⟩ ⟨congrArg Value.bool (by first | rfl | (exfalso; omega) | (exfalso; revert an; simp; done) | (exfalso; revert an; simp; omega)), E⟩
  have dw := an
  have an := Yh (Xw an)
  refine Zt ?_
  refine Zb (fD _ _ ?_)
  refine Zf fun fG fH => ?_
  have aQ : ∀ (lj : KL) (O : World) (cx : Nat) (aa : Value) (ad : List Gv), Go.KLib.Sub [(4, (.bool false)), (6, (.pointer (some ⟨dX, 0, none⟩))), (7, (.bool (tt (AbOk hF hG bC)))), (10, (.pointer (some ⟨dz, 0, none⟩))), (13, (.int .i64 (1 + Xx (abG hF hG bC)))), (14, (.int .i64 (Zcj 1 (Qa 1 (abG hF hG bC))))), (15, (.pointer (some ⟨cx, 0, none⟩))), (16, (.bool (tt (AbOk hF hG bC))))] lj → Ch [] bb O → Ol Gv.cs 36 2 O aa ad → Lo bb.heap.size aa → OdG 3 129 O bb.heap.size O.heap.size ad (abG hF hG bC) → SepH aa ad → Blk O cx 57 [(.int .i64 (abF hF hG bC)), aa] → bb.heap.size ≤ cx → cx ∉ bl aa → fG lj O := by
   intro lj O cx aa ad ct C bc dZ b7 d0 cy fI dc
   refine fH _ _ (Zms ct ?_)
   have d1 := C.size
   have E := E.trans C
   obtain ⟨ex, ey, rfl, ez, d2⟩ := bc.opn
   have fJ := cy.lt
   refine Zf fun kb fK => ?_
   refine Zf fun kc fL => ?_
   refine Zc (Za rfl rfl (Zj cy.at_ agg57 sz57 rfl) ?_)
   have fM := (((en.ch0 R).ch V (fun hm => by have B := Xm hm; omega)).ch0 S).ch0 C
   refine Za rfl rfl (Zj fM.at_ agg57 sz57 rfl) (Zl rfl rfl ?_)
   have fN := (((er.ch0 R).ch V (fun g hg hm => by have cw := Xm hm; have B := I _ hg; have am := J _ hg; omega)).ch0 S).ch0 C
   have fO := (((es.ch0 R).ch V (fun i hm => by have B := Xm hm; omega)).ch0 S).ch0 C
   refine Step.call (Zr (xs := [.tmp 102, .tmp 103]) fk25 rfl) (Zak _ bc.ls b7.rdg _ fN.ls fO.rdg ) fun hW kd eA => ?_
   obtain ⟨rfl, cz⟩ := eA
   have hX := cz.size
   have E := E.trans cz
   refine Za rfl rfl (Xp rfl) (Za rfl rfl (Zg rfl) ?_)
   refine Zho (d := 106) rfl dA ?_
   refine Za rfl rfl (Zg rfl) (Za rfl rfl (Zg rfl) (Za rfl rfl (Zih un4 rfl rfl) (Za rfl rfl (Yn rfl rfl) (Zd (Zb (fL _ _ ?_))))))
   refine Zfa rfl dB ?_
   refine Zt ?_
   refine Zb (fK _ _ ?_)
   refine Zf fun ke fP => ?_
   refine Zc (Za rfl rfl (Ze rfl) (Zd (Zb (fP _ _ ?_))))
   refine Zf fun kf fQ => ?_
   refine Zc ?_
   have fR := ((ew.ch0 S).ch0 C).ch0 cz
   refine Za rfl rfl (Zj fR.at_ agg57 sz57 rfl) (Za rfl rfl (Zg rfl) (Zl rfl rfl ?_))
   have fS := ((eu.ch0 S).ch0 C).ch0 cz
   have fT := ((df.ch0 S).ch0 C).ch0 cz
   refine Step.call (Zr (xs := [.tmp 111, .tmp 112]) fk29 rfl) (Zbm _ fS.ls fT.rdg _ om (by rw [Zgx]; omega)) fun hY kg eB => ?_
   obtain ⟨rfl, eC⟩ := eB
   have hZ := eC.size
   have E := E.trans eC
   refine Za rfl rfl (Ze rfl) (Zd (Zb (fQ _ _ ?_)))
   refine Zf fun kh fU => ?_
   refine Zf fun ki fV => ?_
   refine Zc (Za rfl rfl (Zg rfl) (Za rfl rfl (Yv rfl rfl) (Zd (Zb (fV _ _ ?_)))))
   refine Zfa rfl dv ?_
   refine Zt ?_
   refine Zb (fU _ _ ?_)
   refine Zf fun kj fW => ?_
   refine Zf fun kk fX => ?_
   refine Zc (Za rfl rfl (Zg rfl) (Za rfl rfl (Zg rfl) (Za rfl rfl (Zbs rfl rfl) (Zd (Zb (fX _ _ ?_))))))
   refine Zfa rfl dw ?_
   refine Zt ?_
   refine Zb (fW _ _ ?_)
   refine Zf fun kl fY => ?_
   refine Zc (Za rfl rfl (Ze rfl) (Zd (Zb (fY _ _ ?_))))
   refine Zp ?_
   exact Zi [_] ⟨rfl, trivial⟩ ⟨congrArg Value.bool (by first | rfl | (exfalso; omega) | (exfalso; revert an; simp; done) | (exfalso; revert an; simp; omega)), E⟩
  refine Xd [] 11 mixed rfl fun T X => ?_
  have h0 := X.size
  have E := E.trans X
  have fZ := ((((((((((hM.ch0 ax).ch0 ay).ch0 aE).ch0 ak).ch0 al).ch aN (fun hm => by have B := Xm hm; omega)).ch ba (fun hm => by have B := a _ hm; have am := h _ hm; omega)).ch0 R).ch V (fun hm => by have B := Xm hm; omega)).ch0 S).ch0 X
  refine dT 0 rfl rfl rfl (Yl fZ.at_ (fun i hi => absurd hi List.not_mem_nil) agg49 sz49 rfl ?_)
  have f0 := (((((((hR.ch0 ak).ch0 al).ch aN (fun hm => by have B := Xm hm; omega)).ch ba (fun hm => by have B := a _ hm; have am := h _ hm; omega)).ch0 R).ch V (fun hm => by have B := Xm hm; omega)).ch0 S).ch0 X
  refine dT 2 rfl rfl rfl (Yl f0.at_ (fun i hi => absurd hi List.not_mem_nil) agg52 sz52 rfl ?_)
  refine Zau 1 8 (by kernel_rfl) ?_ ?_
  ·refine Yf rfl rfl rfl ?_
   have f1 := ((((((((((fj.ch0 ax).ch0 ay).ch0 aE).ch0 ak).ch0 al).ch aN (fun i hm => by have B := Xm hm; omega)).ch ba (fun i hi => by have B := a _ hi; omega)).ch0 R).ch V (fun i hm => by have B := Xm hm; omega)).ch0 S).ch0 X
   have f2 := ((((((((((fk.ch0 ax).ch0 ay).ch0 aE).ch0 ak).ch0 al).ch aN (fun i hm => by have B := Xm hm; omega)).ch ba (fun i hm => by have B := a _ hm; have am := h _ hm; omega)).ch0 R).ch V (fun i hm => by have B := Xm hm; omega)).ch0 S).ch0 X
   refine Step.call (Zr (xs := [.tmp 95]) fk22 rfl) (Qk _ f1 f2 om) fun f3 f4 dE => ?_
   obtain ⟨dg, b8, rfl, z, be, D, az, bf⟩ := dE
   have h1 := bf.size
   have E := E.trans bf
   obtain ⟨cA, cB, rfl, cC, bs⟩ := z.opn
   have bu : Ch [] T f4 := ((Ch.refl _ _).trans bf)
   refine ⟨bu, ?_⟩
   refine Zau 3 8 (by kernel_rfl) ?_ ?_
   ·refine Yf rfl rfl rfl ?_
    have f5 := ((((((((e6.ch0 ak).ch0 al).ch aN (fun i hm => by have B := Xm hm; omega)).ch ba (fun i hi => by have B := a _ hi; omega)).ch0 R).ch V (fun i hm => by have B := Xm hm; omega)).ch0 S).ch0 X).ch0 bf
    refine Step.call (Zr (xs := [.tmp 97]) fk23 rfl) (Qb f5 om) fun eD f6 cD => ?_
    obtain ⟨b4, rfl, t, ab, aR⟩ := cD
    have h2 := aR.size
    have E := E.trans aR
    obtain ⟨bg, bh, rfl, bi, ao⟩ := t.opn
    have bv : Ch [] T f6 := (bu.trans aR)
    refine ⟨bv, ?_⟩
    refine Zau 4 8 (by kernel_rfl) ?_ ?_
    ·refine Yf rfl rfl rfl ?_
     have f7 := z.ch0 aR
     have f8 := D.ch0 aR
     refine Step.call (Zr (xs := [.tmp 96, .tmp 98]) fk24 rfl) (Qp _ f7.ls f8.rdg t.ls om) fun dF f9 bw => ?_
     obtain ⟨aS, e, rfl, j, b, x, r, dh⟩ := bw
     have h3 := dh.size
     have E := E.trans dh
     obtain ⟨k, l, rfl, ap, m⟩ := j.opn
     have cE : Ch [] T f9 := (bv.trans dh)
     refine ⟨cE, ?_⟩
     refine dV 5 rfl rfl rfl (fun _ => Zg rfl) (dV 6 rfl rfl rfl (fun _ => Yj rfl rfl) (dV 7 rfl rfl rfl (fun _ => Yj rfl rfl) (dO 8 (Yf rfl rfl rfl ?_))))
     refine Yb zr57 fun Y eE P b9 dG => ?_
     have h4 := b9.size
     have E := E.trans b9
     have dH := P.lt
     replace P : Blk eE Y 57 [(.int .i64 0), (.slice none 0 0)] := P
     have cF : Ch [] T eE := (cE.trans b9)
     refine ⟨cF, ?_⟩
     refine dO 9 (Yf rfl rfl rfl ?_)
     refine Zo (off := 0) 2 P sz57 rfl (us := [(.int .i64 (abF hF hG bC)), (.slice k (e).length l)]) rfl rfl rfl rfl fun eF bz ca => ?_
     have h5 := ca.size
     have E := E.step ca (lS om)
     replace bz : Blk eF Y 57 [(.int .i64 (abF hF hG bC)), (.slice k (e).length l)] := bz
     have dI : Ch [] T eF := (cF.step ca (fun i hm => by have cw := List.mem_singleton.1 hm; left; omega))
     refine ⟨dI, ?_⟩
     refine dV 10 rfl rfl rfl (fun _ => Ze rfl) ?_
     refine Ye (by kernel_rfl) ?_
     refine Zb ?_
     have ga := (j.ch0 b9).ch ca (dS b m om)
     have gb := (x.ch0 b9).ch ca (oS om)
     exact aQ _ _ Y (.slice k (e).length l) e (sC8 rfl rfl rfl rfl rfl rfl rfl rfl (Sub.nil _)) (((((((Ch.refl [] bb).trans X).trans bf).trans aR).trans dh).trans b9).step ca (lS om)) ga (Lo.down b om) (gb.up om om) r bz om (fun hm => by have B := b _ hm; have am := m _ hm; omega)
    refine Yf rfl rfl rfl ?_
    refine Yb zr57 fun Y eG P bA dG => ?_
    have h6 := bA.size
    have E := E.trans bA
    have dH := P.lt
    replace P : Blk eG Y 57 [(.int .i64 0), (.slice none 0 0)] := P
    have cG : Ch [] T eG := (bv.trans bA)
    refine ⟨cG, ?_⟩
    refine dO 4 (Yf rfl rfl rfl ?_)
    have gc := (z.ch0 aR).ch0 bA
    have gd := (D.ch0 aR).ch0 bA
    have ge := t.ch0 bA
    refine Step.call (Zr (xs := [.tmp 96, .tmp 98]) fk24 rfl) (Qp _ gc.ls gd.rdg ge.ls om) fun dF gf bw => ?_
    obtain ⟨aS, e, rfl, j, b, x, r, cH⟩ := bw
    have h7 := cH.size
    have E := E.trans cH
    obtain ⟨k, l, rfl, ap, m⟩ := j.opn
    have cI : Ch [] T gf := (cG.trans cH)
    refine ⟨cI, ?_⟩
    refine dV 5 rfl rfl rfl (fun _ => Zg rfl) (dV 6 rfl rfl rfl (fun _ => Yj rfl rfl) (dV 7 rfl rfl rfl (fun _ => Yj rfl rfl) (dO 9 (Yf rfl rfl rfl ?_))))
    have gg := P.ch0 cH
    refine Zo (off := 0) 2 gg sz57 rfl (us := [(.int .i64 (abF hF hG bC)), (.slice k (e).length l)]) rfl rfl rfl rfl fun eH bB cb => ?_
    have h8 := cb.size
    have E := E.step cb (lS om)
    replace bB : Blk eH Y 57 [(.int .i64 (abF hF hG bC)), (.slice k (e).length l)] := bB
    have dJ : Ch [] T eH := (cI.step cb (fun i hm => by have cw := List.mem_singleton.1 hm; left; omega))
    refine ⟨dJ, ?_⟩
    refine dV 10 rfl rfl rfl (fun _ => Ze rfl) ?_
    refine Ye (by kernel_rfl) ?_
    refine Zb ?_
    have gh := j.ch cb (dS b m om)
    have gi := x.ch cb (oS om)
    exact aQ _ _ Y (.slice k (e).length l) e (sC8 rfl rfl rfl rfl rfl rfl rfl rfl (Sub.nil _)) (((((((Ch.refl [] bb).trans X).trans bf).trans aR).trans bA).trans cH).step cb (lS om)) gh (Lo.down b om) (gi.up om om) r bB om (fun hm => by have B := b _ hm; have am := m _ hm; omega)
   refine Yf rfl rfl rfl ?_
   refine Yb zr57 fun Y eI P bD dG => ?_
   have h9 := bD.size
   have E := E.trans bD
   have dH := P.lt
   replace P : Blk eI Y 57 [(.int .i64 0), (.slice none 0 0)] := P
   have cJ : Ch [] T eI := (bu.trans bD)
   refine ⟨cJ, ?_⟩
   refine dO 3 (Yf rfl rfl rfl ?_)
   have gj := (((((((((e6.ch0 ak).ch0 al).ch aN (fun i hm => by have B := Xm hm; omega)).ch ba (fun i hi => by have B := a _ hi; omega)).ch0 R).ch V (fun i hm => by have B := Xm hm; omega)).ch0 S).ch0 X).ch0 bf).ch0 bD
   refine Step.call (Zr (xs := [.tmp 97]) fk23 rfl) (Qb gj om) fun eD gk cD => ?_
   obtain ⟨b4, rfl, t, ab, bF⟩ := cD
   have ia := bF.size
   have E := E.trans bF
   obtain ⟨bg, bh, rfl, bi, ao⟩ := t.opn
   have cK : Ch [] T gk := (cJ.trans bF)
   refine ⟨cK, ?_⟩
   refine dO 4 (Yf rfl rfl rfl ?_)
   have gl := (z.ch0 bD).ch0 bF
   have gm := (D.ch0 bD).ch0 bF
   refine Step.call (Zr (xs := [.tmp 96, .tmp 98]) fk24 rfl) (Qp _ gl.ls gm.rdg t.ls om) fun dF gn bw => ?_
   obtain ⟨aS, e, rfl, j, b, x, r, cL⟩ := bw
   have ib := cL.size
   have E := E.trans cL
   obtain ⟨k, l, rfl, ap, m⟩ := j.opn
   have cM : Ch [] T gn := (cK.trans cL)
   refine ⟨cM, ?_⟩
   refine dV 5 rfl rfl rfl (fun _ => Zg rfl) (dV 6 rfl rfl rfl (fun _ => Yj rfl rfl) (dV 7 rfl rfl rfl (fun _ => Yj rfl rfl) (dO 9 (Yf rfl rfl rfl ?_))))
   have gp := (P.ch0 bF).ch0 cL
   refine Zo (off := 0) 2 gp sz57 rfl (us := [(.int .i64 (abF hF hG bC)), (.slice k (e).length l)]) rfl rfl rfl rfl fun eJ bG cc => ?_
   have ic := cc.size
   have E := E.step cc (lS om)
   replace bG : Blk eJ Y 57 [(.int .i64 (abF hF hG bC)), (.slice k (e).length l)] := bG
   have dL : Ch [] T eJ := (cM.step cc (fun i hm => by have cw := List.mem_singleton.1 hm; left; omega))
   refine ⟨dL, ?_⟩
   refine dV 10 rfl rfl rfl (fun _ => Ze rfl) ?_
   refine Ye (by kernel_rfl) ?_
   refine Zb ?_
   have gq := j.ch cc (dS b m om)
   have gr := x.ch cc (oS om)
   exact aQ _ _ Y (.slice k (e).length l) e (sC8 rfl rfl rfl rfl rfl rfl rfl rfl (Sub.nil _)) (((((((Ch.refl [] bb).trans X).trans bf).trans bD).trans bF).trans cL).step cc (lS om)) gq (Lo.down b om) (gr.up om om) r bG om (fun hm => by have B := b _ hm; have am := m _ hm; omega)
  refine Yf rfl rfl rfl ?_
  refine Yb zr57 fun Y eK P bH dG => ?_
  have ie := bH.size
  have E := E.trans bH
  have dH := P.lt
  replace P : Blk eK Y 57 [(.int .i64 0), (.slice none 0 0)] := P
  have cN : Ch [] T eK := ((Ch.refl _ _).trans bH)
  refine ⟨cN, ?_⟩
  refine dO 1 (Yf rfl rfl rfl ?_)
  have gs := (((((((((((fj.ch0 ax).ch0 ay).ch0 aE).ch0 ak).ch0 al).ch aN (fun i hm => by have B := Xm hm; omega)).ch ba (fun i hi => by have B := a _ hi; omega)).ch0 R).ch V (fun i hm => by have B := Xm hm; omega)).ch0 S).ch0 X).ch0 bH
  have gt := (((((((((((fk.ch0 ax).ch0 ay).ch0 aE).ch0 ak).ch0 al).ch aN (fun i hm => by have B := Xm hm; omega)).ch ba (fun i hm => by have B := a _ hm; have am := h _ hm; omega)).ch0 R).ch V (fun i hm => by have B := Xm hm; omega)).ch0 S).ch0 X).ch0 bH
  refine Step.call (Zr (xs := [.tmp 95]) fk22 rfl) (Qk _ gs gt om) fun f3 gu dE => ?_
  obtain ⟨dg, b8, rfl, z, be, D, az, cd⟩ := dE
  have ig := cd.size
  have E := E.trans cd
  obtain ⟨cA, cB, rfl, cC, bs⟩ := z.opn
  have cO : Ch [] T gu := (cN.trans cd)
  refine ⟨cO, ?_⟩
  refine dO 3 (Yf rfl rfl rfl ?_)
  have gv := (((((((((e6.ch0 ak).ch0 al).ch aN (fun i hm => by have B := Xm hm; omega)).ch ba (fun i hi => by have B := a _ hi; omega)).ch0 R).ch V (fun i hm => by have B := Xm hm; omega)).ch0 S).ch0 X).ch0 bH).ch0 cd
  refine Step.call (Zr (xs := [.tmp 97]) fk23 rfl) (Qb gv om) fun eD gw cD => ?_
  obtain ⟨b4, rfl, t, ab, bI⟩ := cD
  have ih := bI.size
  have E := E.trans bI
  obtain ⟨bg, bh, rfl, bi, ao⟩ := t.opn
  have cP : Ch [] T gw := (cO.trans bI)
  refine ⟨cP, ?_⟩
  refine dO 4 (Yf rfl rfl rfl ?_)
  have gx := z.ch0 bI
  have gy := D.ch0 bI
  refine Step.call (Zr (xs := [.tmp 96, .tmp 98]) fk24 rfl) (Qp _ gx.ls gy.rdg t.ls om) fun dF gz bw => ?_
  obtain ⟨aS, e, rfl, j, b, x, r, cQ⟩ := bw
  have ii := cQ.size
  have E := E.trans cQ
  obtain ⟨k, l, rfl, ap, m⟩ := j.opn
  have cR : Ch [] T gz := (cP.trans cQ)
  refine ⟨cR, ?_⟩
  refine dV 5 rfl rfl rfl (fun _ => Zg rfl) (dV 6 rfl rfl rfl (fun _ => Yj rfl rfl) (dV 7 rfl rfl rfl (fun _ => Yj rfl rfl) (dO 9 (Yf rfl rfl rfl ?_))))
  have gA := ((P.ch0 cd).ch0 bI).ch0 cQ
  refine Zo (off := 0) 2 gA sz57 rfl (us := [(.int .i64 (abF hF hG bC)), (.slice k (e).length l)]) rfl rfl rfl rfl fun eL bJ ce => ?_
  have ij := ce.size
  have E := E.step ce (lS om)
  replace bJ : Blk eL Y 57 [(.int .i64 (abF hF hG bC)), (.slice k (e).length l)] := bJ
  have dM : Ch [] T eL := (cR.step ce (fun i hm => by have cw := List.mem_singleton.1 hm; left; omega))
  refine ⟨dM, ?_⟩
  refine dV 10 rfl rfl rfl (fun _ => Ze rfl) ?_
  refine Ye (by kernel_rfl) ?_
  refine Zb ?_
  have gB := j.ch ce (dS b m om)
  have gC := x.ch ce (oS om)
  exact aQ _ _ Y (.slice k (e).length l) e (sC8 rfl rfl rfl rfl rfl rfl rfl rfl (Sub.nil _)) (((((((Ch.refl [] bb).trans X).trans bH).trans cd).trans bI).trans cQ).step ce (lS om)) gB (Lo.down b om) (gC.up om om) r bJ om (fun hm => by have B := b _ hm; have am := m _ hm; omega)
 refine Xd [] 11 mixed rfl fun U Z => ?_
 have ik := Z.size
 have E := E.trans Z
 have gD := ((F6.ch0 C9).ch0 bq).ch0 Z
 refine dT 0 rfl rfl rfl (Yl gD.at_ (fun i hi => absurd hi List.not_mem_nil) agg49 sz49 rfl ?_)
 have gE := (fc.ch0 bq).ch0 Z
 refine dT 2 rfl rfl rfl (Yl gE.at_ (fun i hi => absurd hi List.not_mem_nil) agg52 sz52 rfl ?_)
 refine Zau 1 8 (by kernel_rfl) ?_ ?_
 ·refine Yf rfl rfl rfl ?_
  have gF := ((F7.ch0 C9).ch0 bq).ch0 Z
  have gG := ((F8.ch0 C9).ch0 bq).ch0 Z
  refine Step.call (Zr (xs := [.tmp 28]) fk22 rfl) (Qk _ gF gG om) fun gH gI dN => ?_
  obtain ⟨di, cf, rfl, A, bj, F, aA, bk⟩ := dN
  have il := bk.size
  have E := E.trans bk
  obtain ⟨cS, cT, rfl, cU, bK⟩ := A.opn
  have bL : Ch [] U gI := ((Ch.refl _ _).trans bk)
  refine ⟨bL, ?_⟩
  refine Zau 3 8 (by kernel_rfl) ?_ ?_
  ·refine Yf rfl rfl rfl ?_
   have gJ := ((d4.ch0 bq).ch0 Z).ch0 bk
   refine Step.call (Zr (xs := [.tmp 30]) fk23 rfl) (Qb gJ om) fun eM gK cV => ?_
   obtain ⟨b5, rfl, u, ac, aT⟩ := cV
   have im := aT.size
   have E := E.trans aT
   obtain ⟨bm, bn, rfl, bp, aq⟩ := u.opn
   have bM : Ch [] U gK := (bL.trans aT)
   refine ⟨bM, ?_⟩
   refine Zau 4 8 (by kernel_rfl) ?_ ?_
   ·refine Yf rfl rfl rfl ?_
    have gL := A.ch0 aT
    have gM := F.ch0 aT
    refine Step.call (Zr (xs := [.tmp 29, .tmp 31]) fk21 rfl) (Zad _ gL.ls gM.rdg u.ls om) fun dP gN bN => ?_
    obtain ⟨aU, f, rfl, n, c, y, s, dj⟩ := bN
    have io := dj.size
    have E := E.trans dj
    obtain ⟨o, p, rfl, au, q⟩ := n.opn
    have cW : Ch [] U gN := (bM.trans dj)
    refine ⟨cW, ?_⟩
    refine dV 5 rfl rfl rfl (fun _ => Zg rfl) (dV 6 rfl rfl rfl (fun _ => Yj rfl rfl) (dV 7 rfl rfl rfl (fun _ => Yj rfl rfl) (dO 8 (Yf rfl rfl rfl ?_))))
    refine Yb zr57 fun bO eN aV cg gO => ?_
    have ip := cg.size
    have E := E.trans cg
    have gP := aV.lt
    replace aV : Blk eN bO 57 [(.int .i64 0), (.slice none 0 0)] := aV
    have cX : Ch [] U eN := (cW.trans cg)
    refine ⟨cX, ?_⟩
    refine dO 9 (Yf rfl rfl rfl ?_)
    refine Zo (off := 0) 2 aV sz57 rfl (us := [(.int .i64 (abF hF hG bC)), (.slice o (f).length p)]) rfl rfl rfl rfl fun eO bP ci => ?_
    have iq := ci.size
    have E := E.step ci (lS om)
    replace bP : Blk eO bO 57 [(.int .i64 (abF hF hG bC)), (.slice o (f).length p)] := bP
    have dQ : Ch [] U eO := (cX.step ci (fun i hm => by have cw := List.mem_singleton.1 hm; left; omega))
    refine ⟨dQ, ?_⟩
    refine dV 10 rfl rfl rfl (fun _ => Ze rfl) ?_
    refine Ye (by kernel_rfl) ?_
    refine Zb ?_
    have gQ := (n.ch0 cg).ch ci (dS c q om)
    have gR := (y.ch0 cg).ch ci (oS om)
    exact bY _ _ bO (.slice o (f).length p) f (sC4 rfl rfl rfl rfl (sC1 rfl (Sub.nil _))) (((((((Ch.refl [] dn).trans Z).trans bk).trans aT).trans dj).trans cg).step ci (lS om)) gQ (Lo.down c om) (gR.up om om) s bP om (fun hm => by have B := c _ hm; have am := q _ hm; omega)
   refine Yf rfl rfl rfl ?_
   refine Yb zr57 fun bO eP aV bQ gO => ?_
   have ir := bQ.size
   have E := E.trans bQ
   have gP := aV.lt
   replace aV : Blk eP bO 57 [(.int .i64 0), (.slice none 0 0)] := aV
   have cY : Ch [] U eP := (bM.trans bQ)
   refine ⟨cY, ?_⟩
   refine dO 4 (Yf rfl rfl rfl ?_)
   have gS := (A.ch0 aT).ch0 bQ
   have gT := (F.ch0 aT).ch0 bQ
   have gU := u.ch0 bQ
   refine Step.call (Zr (xs := [.tmp 29, .tmp 31]) fk21 rfl) (Zad _ gS.ls gT.rdg gU.ls om) fun dP gV bN => ?_
   obtain ⟨aU, f, rfl, n, c, y, s, cZ⟩ := bN
   have it := cZ.size
   have E := E.trans cZ
   obtain ⟨o, p, rfl, au, q⟩ := n.opn
   have c0 : Ch [] U gV := (cY.trans cZ)
   refine ⟨c0, ?_⟩
   refine dV 5 rfl rfl rfl (fun _ => Zg rfl) (dV 6 rfl rfl rfl (fun _ => Yj rfl rfl) (dV 7 rfl rfl rfl (fun _ => Yj rfl rfl) (dO 9 (Yf rfl rfl rfl ?_))))
   have gW := aV.ch0 cZ
   refine Zo (off := 0) 2 gW sz57 rfl (us := [(.int .i64 (abF hF hG bC)), (.slice o (f).length p)]) rfl rfl rfl rfl fun eQ bR cj => ?_
   have iu := cj.size
   have E := E.step cj (lS om)
   replace bR : Blk eQ bO 57 [(.int .i64 (abF hF hG bC)), (.slice o (f).length p)] := bR
   have dR : Ch [] U eQ := (c0.step cj (fun i hm => by have cw := List.mem_singleton.1 hm; left; omega))
   refine ⟨dR, ?_⟩
   refine dV 10 rfl rfl rfl (fun _ => Ze rfl) ?_
   refine Ye (by kernel_rfl) ?_
   refine Zb ?_
   have gX := n.ch cj (dS c q om)
   have gY := y.ch cj (oS om)
   exact bY _ _ bO (.slice o (f).length p) f (sC4 rfl rfl rfl rfl (sC1 rfl (Sub.nil _))) (((((((Ch.refl [] dn).trans Z).trans bk).trans aT).trans bQ).trans cZ).step cj (lS om)) gX (Lo.down c om) (gY.up om om) s bR om (fun hm => by have B := c _ hm; have am := q _ hm; omega)
  refine Yf rfl rfl rfl ?_
  refine Yb zr57 fun bO eR aV bS gO => ?_
  have iv := bS.size
  have E := E.trans bS
  have gP := aV.lt
  replace aV : Blk eR bO 57 [(.int .i64 0), (.slice none 0 0)] := aV
  have c1 : Ch [] U eR := (bL.trans bS)
  refine ⟨c1, ?_⟩
  refine dO 3 (Yf rfl rfl rfl ?_)
  have gZ := (((d4.ch0 bq).ch0 Z).ch0 bk).ch0 bS
  refine Step.call (Zr (xs := [.tmp 30]) fk23 rfl) (Qb gZ om) fun eM g0 cV => ?_
  obtain ⟨b5, rfl, u, ac, bT⟩ := cV
  have iw := bT.size
  have E := E.trans bT
  obtain ⟨bm, bn, rfl, bp, aq⟩ := u.opn
  have c2 : Ch [] U g0 := (c1.trans bT)
  refine ⟨c2, ?_⟩
  refine dO 4 (Yf rfl rfl rfl ?_)
  have g1 := (A.ch0 bS).ch0 bT
  have g2 := (F.ch0 bS).ch0 bT
  refine Step.call (Zr (xs := [.tmp 29, .tmp 31]) fk21 rfl) (Zad _ g1.ls g2.rdg u.ls om) fun dP g3 bN => ?_
  obtain ⟨aU, f, rfl, n, c, y, s, c3⟩ := bN
  have ix := c3.size
  have E := E.trans c3
  obtain ⟨o, p, rfl, au, q⟩ := n.opn
  have c4 : Ch [] U g3 := (c2.trans c3)
  refine ⟨c4, ?_⟩
  refine dV 5 rfl rfl rfl (fun _ => Zg rfl) (dV 6 rfl rfl rfl (fun _ => Yj rfl rfl) (dV 7 rfl rfl rfl (fun _ => Yj rfl rfl) (dO 9 (Yf rfl rfl rfl ?_))))
  have g4 := (aV.ch0 bT).ch0 c3
  refine Zo (off := 0) 2 g4 sz57 rfl (us := [(.int .i64 (abF hF hG bC)), (.slice o (f).length p)]) rfl rfl rfl rfl fun eS bU ck => ?_
  have iy := ck.size
  have E := E.step ck (lS om)
  replace bU : Blk eS bO 57 [(.int .i64 (abF hF hG bC)), (.slice o (f).length p)] := bU
  have dU : Ch [] U eS := (c4.step ck (fun i hm => by have cw := List.mem_singleton.1 hm; left; omega))
  refine ⟨dU, ?_⟩
  refine dV 10 rfl rfl rfl (fun _ => Ze rfl) ?_
  refine Ye (by kernel_rfl) ?_
  refine Zb ?_
  have g5 := n.ch ck (dS c q om)
  have g6 := y.ch ck (oS om)
  exact bY _ _ bO (.slice o (f).length p) f (sC4 rfl rfl rfl rfl (sC1 rfl (Sub.nil _))) (((((((Ch.refl [] dn).trans Z).trans bk).trans bS).trans bT).trans c3).step ck (lS om)) g5 (Lo.down c om) (g6.up om om) s bU om (fun hm => by have B := c _ hm; have am := q _ hm; omega)
 refine Yf rfl rfl rfl ?_
 refine Yb zr57 fun bO eT aV bV gO => ?_
 have iz := bV.size
 have E := E.trans bV
 have gP := aV.lt
 replace aV : Blk eT bO 57 [(.int .i64 0), (.slice none 0 0)] := aV
 have c5 : Ch [] U eT := ((Ch.refl _ _).trans bV)
 refine ⟨c5, ?_⟩
 refine dO 1 (Yf rfl rfl rfl ?_)
 have g7 := (((F7.ch0 C9).ch0 bq).ch0 Z).ch0 bV
 have g8 := (((F8.ch0 C9).ch0 bq).ch0 Z).ch0 bV
 refine Step.call (Zr (xs := [.tmp 28]) fk22 rfl) (Qk _ g7 g8 om) fun gH g9 dN => ?_
 obtain ⟨di, cf, rfl, A, bj, F, aA, cl⟩ := dN
 have iA := cl.size
 have E := E.trans cl
 obtain ⟨cS, cT, rfl, cU, bK⟩ := A.opn
 have c6 : Ch [] U g9 := (c5.trans cl)
 refine ⟨c6, ?_⟩
 refine dO 3 (Yf rfl rfl rfl ?_)
 have ha := (((d4.ch0 bq).ch0 Z).ch0 bV).ch0 cl
 refine Step.call (Zr (xs := [.tmp 30]) fk23 rfl) (Qb ha om) fun eM hb cV => ?_
 obtain ⟨b5, rfl, u, ac, bW⟩ := cV
 have iB := bW.size
 have E := E.trans bW
 obtain ⟨bm, bn, rfl, bp, aq⟩ := u.opn
 have c7 : Ch [] U hb := (c6.trans bW)
 refine ⟨c7, ?_⟩
 refine dO 4 (Yf rfl rfl rfl ?_)
 have hc := A.ch0 bW
 have hd := F.ch0 bW
 refine Step.call (Zr (xs := [.tmp 29, .tmp 31]) fk21 rfl) (Zad _ hc.ls hd.rdg u.ls om) fun dP he bN => ?_
 obtain ⟨aU, f, rfl, n, c, y, s, c8⟩ := bN
 have iC := c8.size
 have E := E.trans c8
 obtain ⟨o, p, rfl, au, q⟩ := n.opn
 have c9 : Ch [] U he := (c7.trans c8)
 refine ⟨c9, ?_⟩
 refine dV 5 rfl rfl rfl (fun _ => Zg rfl) (dV 6 rfl rfl rfl (fun _ => Yj rfl rfl) (dV 7 rfl rfl rfl (fun _ => Yj rfl rfl) (dO 9 (Yf rfl rfl rfl ?_))))
 have hf := ((aV.ch0 cl).ch0 bW).ch0 c8
 refine Zo (off := 0) 2 hf sz57 rfl (us := [(.int .i64 (abF hF hG bC)), (.slice o (f).length p)]) rfl rfl rfl rfl fun eU bX cm => ?_
 have iD := cm.size
 have E := E.step cm (lS om)
 replace bX : Blk eU bO 57 [(.int .i64 (abF hF hG bC)), (.slice o (f).length p)] := bX
 have dW : Ch [] U eU := (c9.step cm (fun i hm => by have cw := List.mem_singleton.1 hm; left; omega))
 refine ⟨dW, ?_⟩
 refine dV 10 rfl rfl rfl (fun _ => Ze rfl) ?_
 refine Ye (by kernel_rfl) ?_
 refine Zb ?_
 have hh := n.ch cm (dS c q om)
 have hj := y.ch cm (oS om)
 exact bY _ _ bO (.slice o (f).length p) f (sC4 rfl rfl rfl rfl (sC1 rfl (Sub.nil _))) (((((((Ch.refl [] dn).trans Z).trans bV).trans cl).trans bW).trans c8).step cm (lS om)) hh (Lo.down c om) (hj.up om om) s bX om (fun hm => by have B := c _ hm; have am := q _ hm; omega)

end Go.Proofs.Ytkmhgeppenifoaa
