/- Walks of functions that FnMinimal reaches: what each returns, and that it leaves the memory that was there alone. -/
import Derived.Test.YtgnlfnkgkcmdjaaLibA
import Derived.Test.YtgnlfnkgkcmdjaaLibB
import Derived.Test.YtgnlfnkgkcmdjaaWMinimal
import Derived.Test.YtgnlfnkgkcmdjaaProg
namespace Go.Proofs.Ytgnlfnkgkcmdjaa
open Go.KLib Go.Shelf
set_option maxHeartbeats 1000000
set_option maxRecDepth 20000
set_option linter.unusedVariables false
set_option linter.unusedSimpArgs false
namespace TMinimalb
theorem agg110 : Ys Try.prog 110 = some true := by kernel_rfl
theorem agg24 : Ys Try.prog 24 = some false := by kernel_rfl
theorem agg27 : Ys Try.prog 27 = some true := by kernel_rfl
theorem agg3 : Ys Try.prog 3 = some false := by kernel_rfl
theorem agg30 : Ys Try.prog 30 = some false := by kernel_rfl
theorem agg42 : Ys Try.prog 42 = some false := by kernel_rfl
theorem agg44 : Ys Try.prog 44 = some true := by kernel_rfl
theorem agg84 : Ys Try.prog 84 = some true := by kernel_rfl
theorem by110 : Qe Try.prog 110 = some 40 := by kernel_rfl
theorem by84 : Qe Try.prog 84 = some 32 := by kernel_rfl
theorem el111 : elB Try.prog 111 = some 110 := by kernel_rfl
theorem el24 : elB Try.prog 24 = some 4 := by kernel_rfl
theorem el30 : elB Try.prog 30 = some 3 := by kernel_rfl
theorem el42 : elB Try.prog 42 = some 84 := by kernel_rfl
theorem fa110_0 : faB Try.prog 110 0 = some 0 := by kernel_rfl
theorem fa110_1 : faB Try.prog 110 1 = some 1 := by kernel_rfl
theorem fa27_1 : faB Try.prog 27 1 = some 1 := by kernel_rfl
theorem fa44_0 : faB Try.prog 44 0 = some 0 := by kernel_rfl
theorem fa48_3 : faB Try.prog 48 3 = some 3 := by kernel_rfl
theorem fa84_0 : faB Try.prog 84 0 = some 0 := by kernel_rfl
theorem fa84_1 : faB Try.prog 84 1 = some 1 := by kernel_rfl
theorem fa84_2 : faB Try.prog 84 2 = some 2 := by kernel_rfl
theorem fa84_3 : faB Try.prog 84 3 = some 3 := by kernel_rfl
theorem fk106 : fnB Try.prog 106 = true := by kernel_rfl
theorem fk111 : fnB Try.prog 111 = true := by kernel_rfl
theorem fk112 : fnB Try.prog 112 = true := by kernel_rfl
theorem fk113 : fnB Try.prog 113 = true := by kernel_rfl
theorem fk129 : fnB Try.prog 129 = true := by kernel_rfl
theorem fk13 : fnB Try.prog 13 = true := by kernel_rfl
theorem fk130 : fnB Try.prog 130 = true := by kernel_rfl
theorem fk31 : fnB Try.prog 31 = true := by kernel_rfl
theorem fk49 : fnB Try.prog 49 = true := by kernel_rfl
theorem fk50 : fnB Try.prog 50 = true := by kernel_rfl
theorem fk72 : fnB Try.prog 72 = true := by kernel_rfl
theorem fk73 : fnB Try.prog 73 = true := by kernel_rfl
theorem fk74 : fnB Try.prog 74 = true := by kernel_rfl
theorem fk75 : fnB Try.prog 75 = true := by kernel_rfl
theorem fk89 : fnB Try.prog 89 = true := by kernel_rfl
theorem fk90 : fnB Try.prog 90 = true := by kernel_rfl
theorem fk91 : fnB Try.prog 91 = true := by kernel_rfl
theorem fk92 : fnB Try.prog 92 = true := by kernel_rfl
theorem mixed : Try.prog.follows .mixedOrders = true := by kernel_rfl
theorem pl110 : Qh Try.prog 110 = some [(0, 1), (1, 1), (2, 1), (3, 1), (4, 1)] := by kernel_rfl
theorem pl44 : Qh Try.prog 44 = some [(0, 1)] := by kernel_rfl
theorem pl84 : Qh Try.prog 84 = some [(0, 1), (1, 1), (2, 1), (3, 1)] := by kernel_rfl
theorem sz110 : Yb Try.prog 110 = some 5 := by kernel_rfl
theorem sz27 : Yb Try.prog 27 = some 3 := by kernel_rfl
theorem sz3 : Yb Try.prog 3 = some 1 := by kernel_rfl
theorem sz42 : Yb Try.prog 42 = some 1 := by kernel_rfl
theorem sz44 : Yb Try.prog 44 = some 1 := by kernel_rfl
theorem sz84 : Yb Try.prog 84 = some 4 := by kernel_rfl
theorem zr110 : Xb Try.prog 110 = some (.agg #[.int .i64 0, .int .i64 0, .bool false, .int .i64 0, .int .i64 0]) := by kernel_rfl
theorem zr44 : Xb Try.prog 44 = some (.agg #[.slice none 0 0]) := by kernel_rfl
theorem zr84 : Xb Try.prog 84 = some (.agg #[.int .i64 0, .int .i64 0, .int .i64 0, .int .i64 0]) := by kernel_rfl
end TMinimalb
open TMinimalb

/-- spec.l12Differ -/
theorem Zgl {w : World} (aS : Int) {LL_aA dG : Nat} {cY : Value} {aA : List Bool} (aR : Ls bcs 1 w LL_aA dG cY aA) {LL_saN dc : Nat} {bw : Value} {saN : List Sv} (an : Ls Sv.cs 1 w LL_saN dc bw saN) {LR_aN BB_aN : Nat} {aN : List (List Int)} (aK : Rd ics 1 w LR_aN BB_aN saN aN) (s : Int) (bS : Int) {LL_bA dH : Nat} {cZ : Value} {bA : List Bool} (aT : Ls bcs 1 w LL_bA dH cZ bA) {LL_sbN dd : Nat} {bz : Value} {sbN : List Sv} (ao : Ls Sv.cs 1 w LL_sbN dd bz sbN) {LR_bN BB_bN : Nat} {bN : List (List Int)} (aL : Rd ics 1 w LR_bN BB_bN sbN bN) (t : Int) (only : Bool) (hva : Xe aS aA aN) (hvb : Xe bS bA bN) (hs : inA aA s) (hC : inA bA t) :
 Ctr Try.prog 50 #[(.agg #[(.int .i64 aS), cY, bw]), (.int .i64 s), (.agg #[(.int .i64 bS), cZ, bz]), (.int .i64 t), (.bool only)] w (fun v w' => ∃ (eT : Value), v = .tuple #[eT, .bool ((difR aA aN bA bN ⟨s, t⟩ only).2)] ∧ Ol ics 3 1 w' eT ((difR aA aN bA bN ⟨s, t⟩ only).1) ∧ Lo w.heap.size eT ∧ Ch [] w w') := by
 obtain ⟨ab, ac, de⟩ := aR.val
 subst de
 have hD := aR.len
 have aR := aR.here (by decide)
 obtain ⟨R, S, cy⟩ := an.val
 subst cy
 have eU := an.len
 have an := an.here (by decide)
 have aK := aK.here (by decide)
 have eV := aK.1
 obtain ⟨ad, ae, df⟩ := aT.val
 subst df
 have hE := aT.len
 have aT := aT.here (by decide)
 obtain ⟨T, U, cz⟩ := ao.val
 subst cz
 have eW := ao.len
 have ao := ao.here (by decide)
 have aL := aL.here (by decide)
 have eX := aL.1
 have E := Ch.refl [] w
 have hin := Zhc hva hvb (s := ⟨s, t⟩) ⟨hs, hC⟩; have hle := lenS hva hvb (s := ⟨s, t⟩) ⟨hs, hC⟩; unfold inS inA at hin; have hwl := Zuu aN bN ⟨s, t⟩
 refine Yc (N := 93) (vs0 := [(.agg #[(.int .i64 aS), (.slice ab aA.length ac), (.slice R saN.length S)]), (.int .i64 s), (.agg #[(.int .i64 bS), (.slice ad bA.length ae), (.slice T sbN.length U)]), (.int .i64 t), (.bool only)]) Try.func50 rfl rfl rfl ?_
 refine Zg fun K1 H1 => ?_
 refine Zc (Zk rfl rfl ?_)
 refine Xz rfl fun bu W2 eI C2 j2 => ?_
 have j3 := C2.size
 have E := E.trans C2
 have j4 := eI.lt
 replace eI : Blk W2 bu 27 [(.int .i64 aS), (.slice ab aA.length ac), (.slice R saN.length S)] := eI
 refine Zk rfl rfl ?_
 refine Xz rfl fun bv W3 eJ C3 j5 => ?_
 have j6 := C3.size
 have E := E.trans C3
 have j7 := eJ.lt
 replace eJ : Blk W3 bv 27 [(.int .i64 bS), (.slice ad bA.length ae), (.slice T sbN.length U)] := eJ
 refine Za rfl rfl (Zd rfl) (Za rfl rfl (Zd rfl) (Zf (Zb (H1 _ _ ?_))))
 refine Zg fun K4 H4 => ?_
 refine Zc (Za rfl rfl (Ze rfl) (Za rfl rfl (Ze rfl) (Za rfl rfl (Yr (parts := [(0, .tmp 18), (1, .tmp 19)]) (cells := [(.int .i64 s), (.int .i64 t), (.bool false), (.int .i64 0), (.int .i64 0)]) zr110 pl110 rfl rfl) (Zk rfl rfl ?_))))
 refine Zo (cs := GNode.cs) (parts := [(0, .tmp 20)]) (⟨0, 0, false, 0, 0⟩ : GNode) [(⟨s, t, false, 0, 0⟩ : GNode)] el111 sz110 zr110 GNode.len (by decide) rfl rfl rfl (by decide) (by decide) rfl fun iB W5 dI dJ C5 => ?_
 have j8 := C5.size
 have E := E.trans C5
 obtain ⟨c0, c1, rfl, hF, eY⟩ := dI.opn
 refine Za rfl rfl (Zd rfl) (Zf (Zb (H4 _ _ ?_)))
 refine Zg fun K6 H6 => ?_
 refine Zg fun K7 H7 => ?_
 refine Zc (Za rfl rfl (Zd rfl) (Zf (Zb (H7 _ _ ?_))))
 refine Zx ?_
 have dL : Ol GNode.cs 110 5 W5 (.slice c0 ([(⟨s, t, false, 0, 0⟩ : GNode)]).length c1) ([(⟨s, t, false, 0, 0⟩ : GNode)]) := by
  have hx := dI
  exact hx
 have F9 := ((eI.ch0 C3).ch0 C5)
 have iC := (eJ.ch0 C5)
 refine Xf (σ := Nat × List GNode × Value) (fun ⟨k, L, kl⟩ => [(4, (.bool only)), (5, (.pointer (some ⟨bu, 0, none⟩))), (7, (.pointer (some ⟨bv, 0, none⟩))), (12, kl), (13, (.int .i64 ((k : Nat) : Int)))]) (fun ⟨k, L, kl⟩ wx => Ch [] w wx ∧ W5.heap.size ≤ wx.heap.size ∧ (k ≤ (bE (nxS aN bN) (⟨s, t⟩ : St2) k).length) ∧ (NdR L (bE (nxS aN bN) (⟨s, t⟩ : St2) k)) ∧ (∀ j x, j < k → (bE (nxS aN bN) (⟨s, t⟩ : St2) j)[j]? = some x → (tsD aA bA only) x.1 = false) ∧ Blk wx bu 27 [(.int .i64 aS), (.slice ab aA.length ac), (.slice R saN.length S)] ∧ Blk wx bv 27 [(.int .i64 bS), (.slice ad bA.length ae), (.slice T sbN.length U)] ∧ Ol GNode.cs 110 5 wx kl L ∧ Lo W3.heap.size kl) (fun ⟨k, L, kl⟩ => 170 - k) (0, [(⟨s, t, false, 0, 0⟩ : GNode)], (.slice c0 ([(⟨s, t, false, 0, 0⟩ : GNode)]).length c1)) (sC4 rfl rfl rfl rfl (sC1 rfl (Sub.nil _))) ⟨E, (Nat.le_refl _), (Nat.zero_le _), (Zvt (s := ⟨s, t⟩)), (fun _ _ h => absurd h (by omega)), F9, iC, dL, dJ⟩ ?_
 rintro ⟨k, L, kl⟩ j9 ⟨E, iD, ka, hL, hf, c2, c3, bB, aM⟩
 have a6 := E
 have hG := a6.size
 have eZ := c2.lt
 have e0 := c3.lt
 obtain ⟨Akl, Ckl, rfl, lkl, hikl⟩ := bB.opn
 have hlk := hle k
 have hLl := hL.len
 refine Zg fun kb iE => ?_
 refine Zg fun kc iF => ?_
 refine Zc (Za rfl rfl (Ze rfl) (Za rfl rfl (Ze rfl) (Za rfl rfl (Xa (by rw [el111]; rfl) rfl) (Za rfl rfl (Xi rfl rfl) (Zf (Zb (iF _ _ ?_)))))))
 refine Zp rfl (fun a7 => ?_) (fun a7 => ?_)
 ·have e1 := a7
  have a7 := Yf a7
  refine Zq ?_
  refine Zb (iE _ _ ?_)
  refine Zg fun kd dM => ?_
  refine Zx ?_
  refine Zg fun ke iG => ?_
  refine Xg [] 8 mixed rfl fun e2 bC => ?_
  have iH := bC.size
  have E := E.trans bC
  have eK := (c2.ch0 bC)
  refine dT 0 rfl rfl rfl (Yx eK.at_ (fun i hi => absurd hi List.not_mem_nil) agg27 sz27 rfl ?_)
  refine dV 1 rfl rfl rfl (fun _ => Ze rfl) (dV 2 rfl rfl rfl (fun _ => Ze rfl) ?_)
  have hH := (bB.ch0 bC)
  refine dT 3 rfl rfl rfl (Qn hH.ls GNode.len el111 sz110 rfl rfl rfl (by omega) fun e3 iI dN dg => ?_)
  obtain ⟨c, e4, by31, o, rfl⟩ := Zfp hL dN
  replace dg : At e2 0 e2.heap.size e3 ([(.int .i64 c.1.a), (.int .i64 c.1.b), (.bool false), (.int .i64 e4), (.int .i64 by31)]) := dg
  have iJ := hin k c (Yy o)
  refine dV 4 rfl rfl rfl (fun _ => Zh fa110_0 rfl) ?_
  refine dT 5 rfl rfl rfl (Yw dg (fun i hi => absurd hi List.not_mem_nil) agg3 rfl rfl ?_)
  refine dO 6 (Yl rfl rfl rfl ?_)
  have eL := ((aR.ch0 a6).ch0 bC)
  have eM := ((aK.ch0 a6).ch0 bC)
  have eN := ((an.ch0 a6).ch0 bC)
  refine Step.call (Zn (xs := [.tmp 28, .tmp 33]) fk89 rfl) (Zda _ eL eN eM _ (by omega)) fun iK iL e5 => ?_
  obtain ⟨rfl, aJ⟩ := e5
  have iM := aJ.size
  have E := E.trans aJ
  have dP : Ch [] e2 iL := ((Ch.refl _ _).trans aJ)
  refine ⟨dP, ?_⟩
  refine dV 7 rfl rfl rfl (fun _ => Zd rfl) ?_
  refine Yq (by kernel_rfl) ?_
  refine Zb (iG _ _ ?_)
  refine Zg fun kf iN => ?_
  refine Xg [] 8 mixed rfl fun e6 aO => ?_
  have iO := aO.size
  have E := E.trans aO
  have eO := (((c3.ch0 bC).ch0 aJ).ch0 aO)
  refine dT 0 rfl rfl rfl (Yx eO.at_ (fun i hi => absurd hi List.not_mem_nil) agg27 sz27 rfl ?_)
  refine dV 1 rfl rfl rfl (fun _ => Ze rfl) (dV 2 rfl rfl rfl (fun _ => Ze rfl) ?_)
  have dC := ((hH.ch0 aJ).ch0 aO)
  refine dT 3 rfl rfl rfl (Qn dC.ls GNode.len el111 sz110 rfl rfl rfl (by omega) fun e7 iP dQ dh => ?_)
  obtain ⟨iQ, e8, by38, e9, rfl⟩ := Zfp hL dQ
  obtain rfl := Qg o e9
  replace dh : At e6 0 e6.heap.size e7 ([(.int .i64 c.1.a), (.int .i64 c.1.b), (.bool false), (.int .i64 e8), (.int .i64 by38)]) := dh
  refine dV 4 rfl rfl rfl (fun _ => Zh fa110_1 rfl) ?_
  refine dT 5 rfl rfl rfl (Yw dh (fun i hi => absurd hi List.not_mem_nil) agg3 rfl rfl ?_)
  refine dO 6 (Yl rfl rfl rfl ?_)
  have eP := ((((aT.ch0 a6).ch0 bC).ch0 aJ).ch0 aO)
  have eQ := ((((aL.ch0 a6).ch0 bC).ch0 aJ).ch0 aO)
  have eR := ((((ao.ch0 a6).ch0 bC).ch0 aJ).ch0 aO)
  refine Step.call (Zn (xs := [.tmp 35, .tmp 40]) fk89 rfl) (Zda _ eP eR eQ _ (by omega)) fun iR di fa => ?_
  obtain ⟨rfl, Y⟩ := fa
  have iS := Y.size
  have E := E.trans Y
  have dR : Ch [] e6 di := ((Ch.refl _ _).trans Y)
  refine ⟨dR, ?_⟩
  refine dV 7 rfl rfl rfl (fun _ => Zd rfl) ?_
  refine Yq (by kernel_rfl) ?_
  refine Zb (iN _ _ ?_)
  refine Zg fun kg dU => ?_
  refine Zg fun kh eS => ?_
  refine Zc (Za rfl rfl (Ze rfl) (Za rfl rfl (Ze rfl) ?_))
  refine Yn (d := 43) rfl (fun r => ?_) (fun r => ?_)
  ·have dj := r
   refine Za rfl rfl (Ze rfl) (Za rfl rfl (Xu rfl) (Za rfl rfl (Yi rfl rfl) (Za rfl rfl (Ze rfl) ?_)))
   refine Yn (d := 47) rfl (fun X => ?_) (fun X => ?_)
   ·have dW := X
    have X := Qb X
    refine Zj rfl rfl (Zj rfl rfl (Zj rfl rfl (Zj rfl rfl (Zj rfl rfl (Zj rfl rfl (Zj rfl rfl (Zj rfl rfl ?_)))))))
    refine Zj rfl rfl (Za rfl rfl (Yi rfl rfl) (Zf (Zb (eS _ _ ?_))))
    refine Xp rfl ?_
    refine Zg fun ki iT => ?_
    refine Zc (Za rfl rfl (Ze rfl) (Za rfl rfl (Ze rfl) (Zk rfl rfl ?_)))
    have iU := (dC.ch0 Y)
    refine Step.call (Zn (xs := [.tmp 58, .tmp 59]) fk90 rfl) (Zeg iU.ls _ (bE (nxS aN bN) (⟨s, t⟩ : St2) k) hL (by omega) (fun x hx => by have iV := hwl k x hx; have iW := hle k; omega)) fun fb iX aP => ?_
    obtain ⟨aP, bD, hI⟩ := aP
    have iY := hI.size
    have E := E.trans hI
    obtain ⟨ap, aq, rfl, dX, dk⟩ := aP.opn
    refine Za rfl rfl (Zd rfl) (Za rfl rfl (Zd rfl) (Zf (Zb (iT _ _ ?_))))
    refine Zr (Zl (Ya (Zl (Zl (Ya (Zl ?_))))))
    clear H6 dM dU
    have dY : Ol ics 3 1 iX (.slice ap (ndw (bE (nxS aN bN) (⟨s, t⟩ : St2) k) ((k : Nat) : Int)).length aq) ((difR aA aN bA bN ⟨s, t⟩ only).1) := by
     have hx := aP
     first | (rw [← Zao (Zat o (by unfold tsD; first | (simp [r, X]; done) | (simp [r, O, ak]; done) | (simp [r, O]; done)) hf), ← Zlp o]; exact hx) | (rw [← Zao (Zai (by have bF := hL.len; omega) hf)]; simpa using hx)
    exact Zi [_, _] ⟨rfl, ⟨rfl, trivial⟩⟩ ⟨(.slice ap (ndw (bE (nxS aN bN) (⟨s, t⟩ : St2) k) ((k : Nat) : Int)).length aq), (congrArg (fun zq => (Value.tuple #[(.slice ap (ndw (bE (nxS aN bN) (⟨s, t⟩ : St2) k) ((k : Nat) : Int)).length aq), .bool zq])) (by first | rw [← Zao (Zat o (by unfold tsD; first | (simp [r, X]; done) | (simp [r, O, ak]; done) | (simp [r, O]; done)) hf)] | rw [← Zao (Zai (by have bF := hL.len; omega) hf)])), dY, (Lo.down bD (by omega)), E⟩
   have dW := X
   have X := Qc X
   refine Za rfl rfl (Ze rfl) (Za rfl rfl (Ze rfl) ?_)
   refine Zkq (d := 49) rfl (Zqz dW) ?_
   refine Za rfl rfl (Ze rfl) (Za rfl rfl (Xu rfl) (Za rfl rfl (Yi rfl rfl) (Za rfl rfl (Ze rfl) ?_)))
   refine Zpu (d := 53) rfl (congrArg Bool.not dj) ?_
   refine Zj rfl rfl (Zj rfl rfl (Za rfl rfl (Ym rfl rfl) (Za rfl rfl (Ym rfl rfl) (Zf (Zb (eS _ _ ?_))))))
   refine Qw rfl ?_
   refine Zq ?_
   refine Zb (dU _ _ ?_)
   refine Zg fun kj iZ => ?_
   refine Zc (Za rfl rfl (Zd rfl) (Zf (Zb (iZ _ _ ?_))))
   refine Zx ?_
   have i0 := (dC.ch0 Y)
   have dl : Ol GNode.cs 110 5 di (.slice Akl (L).length Ckl) (L) := by
    have hx := i0
    exact hx
   have i1 := (((eK.ch0 aJ).ch0 aO).ch0 Y)
   have i2 := (((eL.ch0 aJ).ch0 aO).ch0 Y)
   have i3 := (((eN.ch0 aJ).ch0 aO).ch0 Y)
   have i4 := (((eM.ch0 aJ).ch0 aO).ch0 Y)
   have i5 := (eO.ch0 Y)
   have i6 := (eP.ch0 Y)
   have i7 := (eR.ch0 Y)
   have i8 := (eQ.ch0 Y)
   refine Xf (σ := Nat × List GNode × Value) (fun ⟨m, M, km⟩ => [(4, (.bool only)), (5, (.pointer (some ⟨bu, 0, none⟩))), (7, (.pointer (some ⟨bv, 0, none⟩))), (12, km), (13, (.int .i64 ((k : Nat) : Int))), (14, (.bool (Qd aA c.1.a))), (15, (.bool (Qd bA c.1.b))), (16, (.int .i64 ((m : Nat) : Int))), (25, (.bool (decide (((k : Nat) : Int) < ((L.length : Nat) : Int))))), (57, (.bool false))]) (fun ⟨m, M, km⟩ wx => Ch [] w wx ∧ di.heap.size ≤ wx.heap.size ∧ (m ≤ 9) ∧ (NdR M (bx (nxS aN bN) c (bE (nxS aN bN) (⟨s, t⟩ : St2) k) m)) ∧ Blk wx bu 27 [(.int .i64 aS), (.slice ab aA.length ac), (.slice R saN.length S)] ∧ Ls bcs 1 wx LL_aA w.heap.size (.slice ab aA.length ac) aA ∧ Ls Sv.cs 1 wx LL_saN w.heap.size (.slice R saN.length S) saN ∧ Rd ics 1 wx LR_aN w.heap.size saN aN ∧ Blk wx bv 27 [(.int .i64 bS), (.slice ad bA.length ae), (.slice T sbN.length U)] ∧ Ls bcs 1 wx LL_bA w.heap.size (.slice ad bA.length ae) bA ∧ Ls Sv.cs 1 wx LL_sbN w.heap.size (.slice T sbN.length U) sbN ∧ Rd ics 1 wx LR_bN w.heap.size sbN bN ∧ Ol GNode.cs 110 5 wx km M ∧ Lo W3.heap.size km) (fun ⟨m, M, km⟩ => 9 - m) (0, L, (.slice Akl (L).length Ckl)) (sC8 rfl rfl rfl rfl rfl rfl rfl rfl (sC2 rfl rfl (Sub.nil _))) ⟨E, (Nat.le_refl _), (by omega), hL, i1, i2, i3, i4, i5, i6, i7, i8, dl, aM⟩ ?_
   rintro ⟨m, M, km⟩ dD ⟨E, dZ, hm, af, y, I, J, K, z, A, B, C, u, e⟩
   have bG := E
   have c4 := bG.size
   have bH := y.lt
   have bI := z.lt
   obtain ⟨Akm, Ckm, rfl, lkm, hikm⟩ := u.opn
   have hJ := af.len
   have hK := Zgu (m := m) o
   refine Zg fun kk i9 => ?_
   refine Zg fun kn ja => ?_
   refine Zc (Za rfl rfl (Ze rfl) (Za rfl rfl (Xi rfl rfl) (Zf (Zb (ja _ _ ?_)))))
   refine Zp rfl (fun D => ?_) (fun D => ?_)
   ·have fc := D
    have D := Yf D
    refine Zq ?_
    refine Zb (i9 _ _ ?_)
    refine Zg fun ko hM => ?_
    refine Zx ?_
    refine Zg fun jb jc => ?_
    have bJ : ∀ (lj : KL) (aQ : World) (ag : Nat), Go.KLib.Sub [(4, (.bool only)), (5, (.pointer (some ⟨bu, 0, none⟩))), (7, (.pointer (some ⟨bv, 0, none⟩))), (12, (.slice Akm (M).length Ckm)), (13, (.int .i64 ((k : Nat) : Int))), (14, (.bool (Qd aA c.1.a))), (15, (.bool (Qd bA c.1.b))), (16, (.int .i64 ((m : Nat) : Int))), (17, (.pointer (some ⟨ag, 0, none⟩))), (25, (.bool (decide (((k : Nat) : Int) < ((L.length : Nat) : Int))))), (57, (.bool false)), (61, (.int .i64 ((m : Nat) : Int))), (62, (.bool (decide (((m : Nat) : Int) < 9))))] lj → Ch [] dD aQ → Blk aQ ag 110 [(.int .i64 (Zz aN c.1.a ((m : Nat) : Int))), (.int .i64 (Zz bN c.1.b ((m : Nat) : Int))), (.bool false), (.int .i64 ((k : Nat) : Int)), (.int .i64 ((m : Nat) : Int))] → dD.heap.size ≤ ag → jb lj aQ := by
     intro lj aQ ag aU l F bK
     refine jc _ _ (Znz aU ?_)
     have d0 := l.size
     have E := E.trans l
     have bL := F.lt
     refine Zg fun kp jd => ?_
     refine Zc (Za rfl rfl (Ze rfl) (Za rfl rfl (Zw F.at_ agg110 sz110 rfl) (Zk rfl rfl ?_)))
     have fd := (u.ch0 l)
     refine Step.call (Zn (xs := [.tmp 84, .tmp 85]) fk92 rfl) (Zcu fd.ls ⟨Zz aN c.1.a ((m : Nat) : Int), Zz bN c.1.b ((m : Nat) : Int), false, ((k : Nat) : Int), ((m : Nat) : Int)⟩ ) fun d1 je bM => ?_
     obtain ⟨rfl, aD⟩ := bM
     have jf := aD.size
     have E := E.trans aD
     refine Za rfl rfl (Xu rfl) (Zf (Zb (jd _ _ ?_)))
     refine Zp rfl (fun p => ?_) (fun p => ?_)
     ·have fe := p
      have p := bf_t (Qb p)
      have hN := af.len
      have hO := Zgx (m := m) o (by omega)
      have d2 := hle (k + 1)
      refine Zc (Za rfl rfl (Ze rfl) ?_)
      have jg := (F.ch0 aD)
      refine Za rfl rfl (Zw jg.at_ agg110 sz110 rfl) (Zk rfl rfl ?_)
      refine Zo (cs := GNode.cs) (parts := [(0, .tmp 89)]) (⟨0, 0, false, 0, 0⟩ : GNode) [(⟨Zz aN c.1.a ((m : Nat) : Int), Zz bN c.1.b ((m : Nat) : Int), false, ((k : Nat) : Int), ((m : Nat) : Int)⟩ : GNode)] el111 sz110 zr110 GNode.len (by decide) rfl rfl rfl (by decide) (by decide) rfl fun d3 kq aV c5 bO => ?_
      have jh := bO.size
      have E := E.trans bO
      obtain ⟨c6, c7, rfl, c8, bP⟩ := aV.opn
      refine Zk rfl rfl ?_
      have ji := ((fd.ch0 aD).ch0 bO)
      refine Yd (cs := GNode.cs) el111 sz110 by110 zr110 rfl (by decide) GNode.one ji aV.ls rfl rfl (by first | omega | (simp only [List.length_append, List.length_nil, List.length_cons, List.length_replicate, List.length_set, List.length_reverse, List.length_map] at *; omega) | (simp at *; omega)) (by first | omega | (simp only [List.length_append, List.length_nil, List.length_cons, List.length_replicate, List.length_set, List.length_reverse, List.length_map] at *; omega) | (simp at *; omega)) e (by omega) fun d4 jj aW aX c9 cx => ?_
      have jk := cx.size
      have E := E.step cx (fun i hi => .inl (by have ah := e _ hi; omega))
      obtain ⟨ai, aj, rfl, da, bQ⟩ := aW.opn
      refine Za rfl rfl (Zd rfl) (Zf (Zv (Zb (hM _ _ (Zc (Za rfl rfl (Ze rfl) (Za rfl rfl (Yk (by omega) rfl rfl) (Za rfl rfl (Zd rfl) ?_))))))))
      refine Zf ?_
      have dm : Ol GNode.cs 110 5 jj (.slice ai ((M ++ [(⟨Zz aN c.1.a ((m : Nat) : Int), Zz bN c.1.b ((m : Nat) : Int), false, ((k : Nat) : Int), ((m : Nat) : Int)⟩ : GNode)])).length aj) ((M ++ [(⟨Zz aN c.1.a ((m : Nat) : Int), Zz bN c.1.b ((m : Nat) : Int), false, ((k : Nat) : Int), ((m : Nat) : Int)⟩ : GNode)])) := by
       have hx := aW
       exact hx
      have jl := ((((y.ch0 l).ch0 aD).ch0 bO).ch cx (fun hm => by have ah := e _ hm; have d5 := hikm _ hm; omega))
      have jm := ((((I.ch0 l).ch0 aD).ch0 bO).ch cx (fun i hi => by have ah := e _ hi; omega))
      have jn := ((((J.ch0 l).ch0 aD).ch0 bO).ch cx (fun i hi => by have ah := e _ hi; omega))
      have jo := ((((K.ch0 l).ch0 aD).ch0 bO).ch cx (fun i hi => by have ah := e _ hi; omega))
      have jp := ((((z.ch0 l).ch0 aD).ch0 bO).ch cx (fun hm => by have ah := e _ hm; have d5 := hikm _ hm; omega))
      have jq := ((((A.ch0 l).ch0 aD).ch0 bO).ch cx (fun i hi => by have ah := e _ hi; omega))
      have jr := ((((B.ch0 l).ch0 aD).ch0 bO).ch cx (fun i hi => by have ah := e _ hi; omega))
      have js := ((((C.ch0 l).ch0 aD).ch0 bO).ch cx (fun i hi => by have ah := e _ hi; omega))
      exact Zb (Exists.intro ((m + 1), (M ++ [(⟨Zz aN c.1.a ((m : Nat) : Int), Zz bN c.1.b ((m : Nat) : Int), false, ((k : Nat) : Int), ((m : Nat) : Int)⟩ : GNode)]), (.slice ai ((M ++ [(⟨Zz aN c.1.a ((m : Nat) : Int), Zz bN c.1.b ((m : Nat) : Int), false, ((k : Nat) : Int), ((m : Nat) : Int)⟩ : GNode)])).length aj)) ⟨⟨E, (by omega), (by omega), (by first | exact Zif af rfl rfl p | exact Zih af rfl rfl p o), jl, jm, jn, jo, jp, jq, jr, js, dm, (Lo.down aX (by omega))⟩, sC8 rfl rfl rfl rfl rfl rfl rfl rfl (sC2 rfl rfl (Sub.nil _)), (by first | omega | (dsimp only; omega))⟩)
     have fe := p
     have p := bt_t (Qc p)
     refine Zq ?_
     refine Zv (Zb (hM _ _ (Zc (Za rfl rfl (Ze rfl) (Za rfl rfl (Yk (by omega) rfl rfl) (Za rfl rfl (Zd rfl) (Zf ?_)))))))
     have jt := (fd.ch0 aD)
     have dn : Ol GNode.cs 110 5 je (.slice Akm (M).length Ckm) (M) := by
      have hx := jt
      exact hx
     have ju := ((y.ch0 l).ch0 aD)
     have jv := ((I.ch0 l).ch0 aD)
     have jw := ((J.ch0 l).ch0 aD)
     have jx := ((K.ch0 l).ch0 aD)
     have jy := ((z.ch0 l).ch0 aD)
     have jz := ((A.ch0 l).ch0 aD)
     have jA := ((B.ch0 l).ch0 aD)
     have jB := ((C.ch0 l).ch0 aD)
     exact Zb (Exists.intro ((m + 1), M, (.slice Akm (M).length Ckm)) ⟨⟨E, (by omega), (by omega), (by first | exact Zif af rfl rfl p | exact Zih af rfl rfl p o), ju, jv, jw, jx, jy, jz, jA, jB, dn, (Lo.down e (by omega))⟩, sC8 rfl rfl rfl rfl rfl rfl rfl rfl (sC2 rfl rfl (Sub.nil _)), (by first | omega | (dsimp only; omega))⟩)
    refine Xg [] 21 mixed rfl fun a8 au => ?_
    have jC := au.size
    have E := E.trans au
    have jD := (y.ch0 au)
    refine dT 0 rfl rfl rfl (Yx jD.at_ (fun i hi => absurd hi List.not_mem_nil) agg27 sz27 rfl ?_)
    refine dV 1 rfl rfl rfl (fun _ => Ze rfl) (dV 2 rfl rfl rfl (fun _ => Ze rfl) ?_)
    have hP := (u.ch0 au)
    refine dT 3 rfl rfl rfl (Qn hP.ls GNode.len el111 sz110 rfl rfl rfl (by omega) fun bR d6 aY av => ?_)
    obtain ⟨d7, bT, by68, bU, rfl⟩ := Zfp af aY
    obtain rfl := Qg (Zbw o) bU
    replace av : At a8 0 a8.heap.size bR ([(.int .i64 c.1.a), (.int .i64 c.1.b), (.bool false), (.int .i64 bT), (.int .i64 by68)]) := av
    refine dV 4 rfl rfl rfl (fun _ => Zh fa110_0 rfl) ?_
    refine dT 5 rfl rfl rfl (Yw av (fun i hi => absurd hi List.not_mem_nil) agg3 rfl rfl ?_)
    refine dV 6 rfl rfl rfl (fun _ => Ze rfl) ?_
    have jE := (z.ch0 au)
    refine dT 8 rfl rfl rfl (Yx jE.at_ (fun i hi => absurd hi List.not_mem_nil) agg27 sz27 rfl ?_)
    refine dV 9 rfl rfl rfl (fun _ => Ze rfl) (dV 10 rfl rfl rfl (fun _ => Ze rfl) ?_)
    refine dT 11 rfl rfl rfl (Qn hP.ls GNode.len el111 sz110 rfl rfl rfl (by omega) fun bV d8 aZ aw => ?_)
    obtain ⟨d9, bW, by76, bX, rfl⟩ := Zfp af aZ
    obtain rfl := Qg (Zbw o) bX
    replace aw : At a8 0 a8.heap.size bV ([(.int .i64 c.1.a), (.int .i64 c.1.b), (.bool false), (.int .i64 bW), (.int .i64 by76)]) := aw
    refine dV 12 rfl rfl rfl (fun _ => Zh fa110_1 rfl) ?_
    refine dT 13 rfl rfl rfl (Yw aw (fun i hi => absurd hi List.not_mem_nil) agg3 rfl rfl ?_)
    refine dV 14 rfl rfl rfl (fun _ => Ze rfl) (dV 16 rfl rfl rfl (fun _ => Ze rfl) (dV 17 rfl rfl rfl (fun _ => Ze rfl) ?_))
    refine Zas 7 19 (by kernel_rfl) ?_ ?_
    ·refine Yl rfl rfl rfl ?_
     have jF := (I.ch0 au)
     have jG := (K.ch0 au)
     have jH := (J.ch0 au)
     refine Step.call (Zn (xs := [.tmp 65, .tmp 70, .tmp 71]) fk91 rfl) (Xh _ jF jH jG _ _ hva (by omega) (by omega)) fun bY jI ax => ?_
     obtain ⟨rfl, bZ⟩ := ax
     have jJ := bZ.size
     have E := E.trans bZ
     have b0 : Ch [] a8 jI := ((Ch.refl _ _).trans bZ)
     refine ⟨b0, ?_⟩
     refine Zas 15 19 (by kernel_rfl) ?_ ?_
     ·refine Yl rfl rfl rfl ?_
      have jK := ((A.ch0 au).ch0 bZ)
      have jL := ((C.ch0 au).ch0 bZ)
      have jM := ((B.ch0 au).ch0 bZ)
      refine Step.call (Zn (xs := [.tmp 73, .tmp 78, .tmp 79]) fk91 rfl) (Xh _ jK jM jL _ _ hvb (by omega) (by omega)) fun a0 ff V => ?_
      obtain ⟨rfl, cA⟩ := V
      have hQ := cA.size
      have E := E.trans cA
      have b1 : Ch [] a8 ff := (b0.trans cA)
      refine ⟨b1, ?_⟩
      refine dV 18 rfl rfl rfl (fun _ => Yr (parts := [(0, .tmp 72), (1, .tmp 80), (3, .tmp 81), (4, .tmp 82)]) (cells := [(.int .i64 (Zz aN c.1.a ((m : Nat) : Int))), (.int .i64 (Zz bN c.1.b ((m : Nat) : Int))), (.bool false), (.int .i64 ((k : Nat) : Int)), (.int .i64 ((m : Nat) : Int))]) zr110 pl110 rfl rfl) (dO 19 (Yl rfl rfl rfl ?_))
      refine Yp zr110 fun q ea n cB a1 => ?_
      have hR := cB.size
      have E := E.trans cB
      have a2 := n.lt
      replace n : Blk ea q 110 [(.int .i64 0), (.int .i64 0), (.bool false), (.int .i64 0), (.int .i64 0)] := n
      have b2 : Ch [] a8 ea := (b1.trans cB)
      refine ⟨b2, ?_⟩
      refine dO 20 (Yl rfl rfl rfl ?_)
      refine Zt (off := 0) 5 n sz110 rfl (us := [(.int .i64 (Zz aN c.1.a ((m : Nat) : Int))), (.int .i64 (Zz bN c.1.b ((m : Nat) : Int))), (.bool false), (.int .i64 ((k : Nat) : Int)), (.int .i64 ((m : Nat) : Int))]) rfl rfl rfl rfl fun eb a9 cC => ?_
      have hS := cC.size
      have E := E.step cC (lS (by omega))
      replace a9 : Blk eb q 110 [(.int .i64 (Zz aN c.1.a ((m : Nat) : Int))), (.int .i64 (Zz bN c.1.b ((m : Nat) : Int))), (.bool false), (.int .i64 ((k : Nat) : Int)), (.int .i64 ((m : Nat) : Int))] := a9
      have dp : Ch [] a8 eb := (b2.step cC (fun i hm => by have db := List.mem_singleton.1 hm; left; omega))
      refine ⟨dp, ?_⟩
      refine Yq (by kernel_rfl) ?_
      refine Zb ?_
      exact bJ _ _ q (sC8 rfl rfl rfl rfl rfl rfl rfl rfl (sC4 rfl rfl rfl rfl (sC1 rfl (Sub.nil _)))) ((((((Ch.refl [] dD).trans au).trans bZ).trans cA).trans cB).step cC (lS (by omega))) a9 (by omega)
     refine Yl rfl rfl rfl ?_
     refine Yp zr110 fun q ec n ba a1 => ?_
     have hT := ba.size
     have E := E.trans ba
     have a2 := n.lt
     replace n : Blk ec q 110 [(.int .i64 0), (.int .i64 0), (.bool false), (.int .i64 0), (.int .i64 0)] := n
     have b3 : Ch [] a8 ec := (b0.trans ba)
     refine ⟨b3, ?_⟩
     refine dO 15 (Yl rfl rfl rfl ?_)
     have fg := (((A.ch0 au).ch0 bZ).ch0 ba)
     have fh := (((C.ch0 au).ch0 bZ).ch0 ba)
     have fi := (((B.ch0 au).ch0 bZ).ch0 ba)
     refine Step.call (Zn (xs := [.tmp 73, .tmp 78, .tmp 79]) fk91 rfl) (Xh _ fg fi fh _ _ hvb (by omega) (by omega)) fun a0 fj V => ?_
     obtain ⟨rfl, b4⟩ := V
     have hU := b4.size
     have E := E.trans b4
     have b5 : Ch [] a8 fj := (b3.trans b4)
     refine ⟨b5, ?_⟩
     refine dV 18 rfl rfl rfl (fun _ => Yr (parts := [(0, .tmp 72), (1, .tmp 80), (3, .tmp 81), (4, .tmp 82)]) (cells := [(.int .i64 (Zz aN c.1.a ((m : Nat) : Int))), (.int .i64 (Zz bN c.1.b ((m : Nat) : Int))), (.bool false), (.int .i64 ((k : Nat) : Int)), (.int .i64 ((m : Nat) : Int))]) zr110 pl110 rfl rfl) (dO 20 (Yl rfl rfl rfl ?_))
     have fk := (n.ch0 b4)
     refine Zt (off := 0) 5 fk sz110 rfl (us := [(.int .i64 (Zz aN c.1.a ((m : Nat) : Int))), (.int .i64 (Zz bN c.1.b ((m : Nat) : Int))), (.bool false), (.int .i64 ((k : Nat) : Int)), (.int .i64 ((m : Nat) : Int))]) rfl rfl rfl rfl fun ed bb cD => ?_
     have hV := cD.size
     have E := E.step cD (lS (by omega))
     replace bb : Blk ed q 110 [(.int .i64 (Zz aN c.1.a ((m : Nat) : Int))), (.int .i64 (Zz bN c.1.b ((m : Nat) : Int))), (.bool false), (.int .i64 ((k : Nat) : Int)), (.int .i64 ((m : Nat) : Int))] := bb
     have dq : Ch [] a8 ed := (b5.step cD (fun i hm => by have db := List.mem_singleton.1 hm; left; omega))
     refine ⟨dq, ?_⟩
     refine Yq (by kernel_rfl) ?_
     refine Zb ?_
     exact bJ _ _ q (sC8 rfl rfl rfl rfl rfl rfl rfl rfl (sC4 rfl rfl rfl rfl (sC1 rfl (Sub.nil _)))) ((((((Ch.refl [] dD).trans au).trans bZ).trans ba).trans b4).step cD (lS (by omega))) bb (by omega)
    refine Yl rfl rfl rfl ?_
    refine Yp zr110 fun q ee n aE a1 => ?_
    have hW := aE.size
    have E := E.trans aE
    have a2 := n.lt
    replace n : Blk ee q 110 [(.int .i64 0), (.int .i64 0), (.bool false), (.int .i64 0), (.int .i64 0)] := n
    have b6 : Ch [] a8 ee := ((Ch.refl _ _).trans aE)
    refine ⟨b6, ?_⟩
    refine dO 7 (Yl rfl rfl rfl ?_)
    have fl := ((I.ch0 au).ch0 aE)
    have fm := ((K.ch0 au).ch0 aE)
    have fn := ((J.ch0 au).ch0 aE)
    refine Step.call (Zn (xs := [.tmp 65, .tmp 70, .tmp 71]) fk91 rfl) (Xh _ fl fn fm _ _ hva (by omega) (by omega)) fun bY fo ax => ?_
    obtain ⟨rfl, a3⟩ := ax
    have hX := a3.size
    have E := E.trans a3
    have b7 : Ch [] a8 fo := (b6.trans a3)
    refine ⟨b7, ?_⟩
    refine dO 15 (Yl rfl rfl rfl ?_)
    have fp := (((A.ch0 au).ch0 aE).ch0 a3)
    have fq := (((C.ch0 au).ch0 aE).ch0 a3)
    have fr := (((B.ch0 au).ch0 aE).ch0 a3)
    refine Step.call (Zn (xs := [.tmp 73, .tmp 78, .tmp 79]) fk91 rfl) (Xh _ fp fr fq _ _ hvb (by omega) (by omega)) fun a0 fs V => ?_
    obtain ⟨rfl, b8⟩ := V
    have hY := b8.size
    have E := E.trans b8
    have b9 : Ch [] a8 fs := (b7.trans b8)
    refine ⟨b9, ?_⟩
    refine dV 18 rfl rfl rfl (fun _ => Yr (parts := [(0, .tmp 72), (1, .tmp 80), (3, .tmp 81), (4, .tmp 82)]) (cells := [(.int .i64 (Zz aN c.1.a ((m : Nat) : Int))), (.int .i64 (Zz bN c.1.b ((m : Nat) : Int))), (.bool false), (.int .i64 ((k : Nat) : Int)), (.int .i64 ((m : Nat) : Int))]) zr110 pl110 rfl rfl) (dO 20 (Yl rfl rfl rfl ?_))
    have ft := ((n.ch0 a3).ch0 b8)
    refine Zt (off := 0) 5 ft sz110 rfl (us := [(.int .i64 (Zz aN c.1.a ((m : Nat) : Int))), (.int .i64 (Zz bN c.1.b ((m : Nat) : Int))), (.bool false), (.int .i64 ((k : Nat) : Int)), (.int .i64 ((m : Nat) : Int))]) rfl rfl rfl rfl fun ef bc cE => ?_
    have hZ := cE.size
    have E := E.step cE (lS (by omega))
    replace bc : Blk ef q 110 [(.int .i64 (Zz aN c.1.a ((m : Nat) : Int))), (.int .i64 (Zz bN c.1.b ((m : Nat) : Int))), (.bool false), (.int .i64 ((k : Nat) : Int)), (.int .i64 ((m : Nat) : Int))] := bc
    have dr : Ch [] a8 ef := (b9.step cE (fun i hm => by have db := List.mem_singleton.1 hm; left; omega))
    refine ⟨dr, ?_⟩
    refine Yq (by kernel_rfl) ?_
    refine Zb ?_
    exact bJ _ _ q (sC8 rfl rfl rfl rfl rfl rfl rfl rfl (sC4 rfl rfl rfl rfl (sC1 rfl (Sub.nil _)))) ((((((Ch.refl [] dD).trans au).trans aE).trans a3).trans b8).step cE (lS (by omega))) bc (by omega)
   have fc := D
   have D := Ye D
   refine Xc (Zs (Zs (Yu ?_)))
   refine Zv (Zb (dM _ _ (Zc (Za rfl rfl (Ze rfl) (Za rfl rfl (Yk (by omega) rfl rfl) (Za rfl rfl (Zd rfl) (Zf ?_)))))))
   have cF : Ol GNode.cs 110 5 dD (.slice Akm (M).length Ckm) (M) := by
    have hx := u
    exact hx
   exact Zb (Exists.intro ((k + 1), M, (.slice Akm (M).length Ckm)) ⟨⟨E, (by omega), (by have bF := Zgu (m := 9) o; rw [← Qz o] at bF; omega), (by rw [Qz o, show 9 = m by omega]; exact af), (Zeo hf o (by unfold tsD; first | (simp [r, X]; done) | (simp [r, O, ak]; done) | (simp [r, O]; done))), y, z, cF, (Lo.down e (by omega))⟩, sC4 rfl rfl rfl rfl (sC1 rfl (Sub.nil _)), (by first | omega | (dsimp only; omega))⟩)
  have dj := r
  refine Zj rfl rfl (Zj rfl rfl (Za rfl rfl (Ym rfl rfl) (Za rfl rfl (Ze rfl) (Za rfl rfl (Ze rfl) (Za rfl rfl (Ze rfl) ?_)))))
  refine Yn (d := 49) rfl (fun O => ?_) (fun O => ?_)
  ·have eg := O
   refine Za rfl rfl (Ze rfl) (Za rfl rfl (Xu rfl) (Za rfl rfl (Yi rfl rfl) (Za rfl rfl (Ze rfl) ?_)))
   refine Zkq (d := 53) rfl (congrArg Bool.not dj) ?_
   refine Za rfl rfl (Ze rfl) (Za rfl rfl (Xu rfl) (Za rfl rfl (Yi rfl rfl) (Za rfl rfl (Ym rfl rfl) (Zf (Zb (eS _ _ ?_))))))
   refine Zp rfl (fun ak => ?_) (fun ak => ?_)
   ·have eh := ak
    refine Zg fun jN fu => ?_
    refine Zc (Za rfl rfl (Ze rfl) (Za rfl rfl (Ze rfl) (Zk rfl rfl ?_)))
    have fv := (dC.ch0 Y)
    refine Step.call (Zn (xs := [.tmp 58, .tmp 59]) fk90 rfl) (Zeg fv.ls _ (bE (nxS aN bN) (⟨s, t⟩ : St2) k) hL (by omega) (fun x hx => by have iV := hwl k x hx; have iW := hle k; omega)) fun fb fw aP => ?_
    obtain ⟨aP, bD, ei⟩ := aP
    have h0 := ei.size
    have E := E.trans ei
    obtain ⟨ap, aq, rfl, dX, dk⟩ := aP.opn
    refine Za rfl rfl (Zd rfl) (Za rfl rfl (Zd rfl) (Zf (Zb (fu _ _ ?_))))
    refine Zr (Zl (Ya (Zl (Zl (Ya (Zl ?_))))))
    clear H6 dM dU
    have ds : Ol ics 3 1 fw (.slice ap (ndw (bE (nxS aN bN) (⟨s, t⟩ : St2) k) ((k : Nat) : Int)).length aq) ((difR aA aN bA bN ⟨s, t⟩ only).1) := by
     have hx := aP
     first | (rw [← Zao (Zat o (by unfold tsD; first | (simp [r, X]; done) | (simp [r, O, ak]; done) | (simp [r, O]; done)) hf), ← Zlp o]; exact hx) | (rw [← Zao (Zai (by have bF := hL.len; omega) hf)]; simpa using hx)
    exact Zi [_, _] ⟨rfl, ⟨rfl, trivial⟩⟩ ⟨(.slice ap (ndw (bE (nxS aN bN) (⟨s, t⟩ : St2) k) ((k : Nat) : Int)).length aq), (congrArg (fun zq => (Value.tuple #[(.slice ap (ndw (bE (nxS aN bN) (⟨s, t⟩ : St2) k) ((k : Nat) : Int)).length aq), .bool zq])) (by first | rw [← Zao (Zat o (by unfold tsD; first | (simp [r, X]; done) | (simp [r, O, ak]; done) | (simp [r, O]; done)) hf)] | rw [← Zao (Zai (by have bF := hL.len; omega) hf)])), ds, (Lo.down bD (by omega)), E⟩
   have eh := ak
   refine Zq ?_
   refine Zb (dU _ _ ?_)
   refine Zg fun jO fx => ?_
   refine Zc (Za rfl rfl (Zd rfl) (Zf (Zb (fx _ _ ?_))))
   refine Zx ?_
   have fy := (dC.ch0 Y)
   have cG : Ol GNode.cs 110 5 di (.slice Akl (L).length Ckl) (L) := by
    have hx := fy
    exact hx
   have fz := (((eK.ch0 aJ).ch0 aO).ch0 Y)
   have fA := (((eL.ch0 aJ).ch0 aO).ch0 Y)
   have fB := (((eN.ch0 aJ).ch0 aO).ch0 Y)
   have fC := (((eM.ch0 aJ).ch0 aO).ch0 Y)
   have fD := (eO.ch0 Y)
   have fE := (eP.ch0 Y)
   have fF := (eR.ch0 Y)
   have fG := (eQ.ch0 Y)
   refine Xf (σ := Nat × List GNode × Value) (fun ⟨m, M, km⟩ => [(4, (.bool only)), (5, (.pointer (some ⟨bu, 0, none⟩))), (7, (.pointer (some ⟨bv, 0, none⟩))), (12, km), (13, (.int .i64 ((k : Nat) : Int))), (14, (.bool (Qd aA c.1.a))), (15, (.bool (Qd bA c.1.b))), (16, (.int .i64 ((m : Nat) : Int))), (25, (.bool (decide (((k : Nat) : Int) < ((L.length : Nat) : Int))))), (57, (.bool (!only)))]) (fun ⟨m, M, km⟩ wx => Ch [] w wx ∧ di.heap.size ≤ wx.heap.size ∧ (m ≤ 9) ∧ (NdR M (bx (nxS aN bN) c (bE (nxS aN bN) (⟨s, t⟩ : St2) k) m)) ∧ Blk wx bu 27 [(.int .i64 aS), (.slice ab aA.length ac), (.slice R saN.length S)] ∧ Ls bcs 1 wx LL_aA w.heap.size (.slice ab aA.length ac) aA ∧ Ls Sv.cs 1 wx LL_saN w.heap.size (.slice R saN.length S) saN ∧ Rd ics 1 wx LR_aN w.heap.size saN aN ∧ Blk wx bv 27 [(.int .i64 bS), (.slice ad bA.length ae), (.slice T sbN.length U)] ∧ Ls bcs 1 wx LL_bA w.heap.size (.slice ad bA.length ae) bA ∧ Ls Sv.cs 1 wx LL_sbN w.heap.size (.slice T sbN.length U) sbN ∧ Rd ics 1 wx LR_bN w.heap.size sbN bN ∧ Ol GNode.cs 110 5 wx km M ∧ Lo W3.heap.size km) (fun ⟨m, M, km⟩ => 9 - m) (0, L, (.slice Akl (L).length Ckl)) (sC8 rfl rfl rfl rfl rfl rfl rfl rfl (sC2 rfl rfl (Sub.nil _))) ⟨E, (Nat.le_refl _), (by omega), hL, fz, fA, fB, fC, fD, fE, fF, fG, cG, aM⟩ ?_
   rintro ⟨m, M, km⟩ br ⟨E, dZ, hm, af, y, I, J, K, z, A, B, C, u, e⟩
   have bG := E
   have c4 := bG.size
   have bH := y.lt
   have bI := z.lt
   obtain ⟨Akm, Ckm, rfl, lkm, hikm⟩ := u.opn
   have hJ := af.len
   have hK := Zgu (m := m) o
   refine Zg fun jP fH => ?_
   refine Zg fun jQ fI => ?_
   refine Zc (Za rfl rfl (Ze rfl) (Za rfl rfl (Xi rfl rfl) (Zf (Zb (fI _ _ ?_)))))
   refine Zp rfl (fun D => ?_) (fun D => ?_)
   ·have ej := D
    have D := Yf D
    refine Zq ?_
    refine Zb (fH _ _ ?_)
    refine Zg fun jR ek => ?_
    refine Zx ?_
    refine Zg fun fJ fK => ?_
    have bd : ∀ (lj : KL) (al : World) (ag : Nat), Go.KLib.Sub [(4, (.bool only)), (5, (.pointer (some ⟨bu, 0, none⟩))), (7, (.pointer (some ⟨bv, 0, none⟩))), (12, (.slice Akm (M).length Ckm)), (13, (.int .i64 ((k : Nat) : Int))), (14, (.bool (Qd aA c.1.a))), (15, (.bool (Qd bA c.1.b))), (16, (.int .i64 ((m : Nat) : Int))), (17, (.pointer (some ⟨ag, 0, none⟩))), (25, (.bool (decide (((k : Nat) : Int) < ((L.length : Nat) : Int))))), (57, (.bool (!only))), (61, (.int .i64 ((m : Nat) : Int))), (62, (.bool (decide (((m : Nat) : Int) < 9))))] lj → Ch [] br al → Blk al ag 110 [(.int .i64 (Zz aN c.1.a ((m : Nat) : Int))), (.int .i64 (Zz bN c.1.b ((m : Nat) : Int))), (.bool false), (.int .i64 ((k : Nat) : Int)), (.int .i64 ((m : Nat) : Int))] → br.heap.size ≤ ag → fJ lj al := by
     intro lj al ag aU f F bK
     refine fK _ _ (Znz aU ?_)
     have dE := f.size
     have E := E.trans f
     have bL := F.lt
     refine Zg fun jS fL => ?_
     refine Zc (Za rfl rfl (Ze rfl) (Za rfl rfl (Zw F.at_ agg110 sz110 rfl) (Zk rfl rfl ?_)))
     have dt := (u.ch0 f)
     refine Step.call (Zn (xs := [.tmp 84, .tmp 85]) fk92 rfl) (Zcu dt.ls ⟨Zz aN c.1.a ((m : Nat) : Int), Zz bN c.1.b ((m : Nat) : Int), false, ((k : Nat) : Int), ((m : Nat) : Int)⟩ ) fun d1 fM bM => ?_
     obtain ⟨rfl, P⟩ := bM
     have h1 := P.size
     have E := E.trans P
     refine Za rfl rfl (Xu rfl) (Zf (Zb (fL _ _ ?_)))
     refine Zp rfl (fun p => ?_) (fun p => ?_)
     ·have el := p
      have p := bf_t (Qb p)
      have hN := af.len
      have hO := Zgx (m := m) o (by omega)
      have d2 := hle (k + 1)
      refine Zc (Za rfl rfl (Ze rfl) ?_)
      have fN := (F.ch0 P)
      refine Za rfl rfl (Zw fN.at_ agg110 sz110 rfl) (Zk rfl rfl ?_)
      refine Zo (cs := GNode.cs) (parts := [(0, .tmp 89)]) (⟨0, 0, false, 0, 0⟩ : GNode) [(⟨Zz aN c.1.a ((m : Nat) : Int), Zz bN c.1.b ((m : Nat) : Int), false, ((k : Nat) : Int), ((m : Nat) : Int)⟩ : GNode)] el111 sz110 zr110 GNode.len (by decide) rfl rfl rfl (by decide) (by decide) rfl fun d3 jT aV c5 ay => ?_
      have h2 := ay.size
      have E := E.trans ay
      obtain ⟨c6, c7, rfl, c8, bP⟩ := aV.opn
      refine Zk rfl rfl ?_
      have fO := ((dt.ch0 P).ch0 ay)
      refine Yd (cs := GNode.cs) el111 sz110 by110 zr110 rfl (by decide) GNode.one fO aV.ls rfl rfl (by first | omega | (simp only [List.length_append, List.length_nil, List.length_cons, List.length_replicate, List.length_set, List.length_reverse, List.length_map] at *; omega) | (simp at *; omega)) (by first | omega | (simp only [List.length_append, List.length_nil, List.length_cons, List.length_replicate, List.length_set, List.length_reverse, List.length_map] at *; omega) | (simp at *; omega)) e (by omega) fun d4 fP aW aX c9 aF => ?_
      have h3 := aF.size
      have E := E.step aF (fun i hi => .inl (by have ah := e _ hi; omega))
      obtain ⟨ai, aj, rfl, da, bQ⟩ := aW.opn
      refine Za rfl rfl (Zd rfl) (Zf (Zv (Zb (ek _ _ (Zc (Za rfl rfl (Ze rfl) (Za rfl rfl (Yk (by omega) rfl rfl) (Za rfl rfl (Zd rfl) ?_))))))))
      refine Zf ?_
      have cH : Ol GNode.cs 110 5 fP (.slice ai ((M ++ [(⟨Zz aN c.1.a ((m : Nat) : Int), Zz bN c.1.b ((m : Nat) : Int), false, ((k : Nat) : Int), ((m : Nat) : Int)⟩ : GNode)])).length aj) ((M ++ [(⟨Zz aN c.1.a ((m : Nat) : Int), Zz bN c.1.b ((m : Nat) : Int), false, ((k : Nat) : Int), ((m : Nat) : Int)⟩ : GNode)])) := by
       have hx := aW
       exact hx
      have fQ := ((((y.ch0 f).ch0 P).ch0 ay).ch aF (fun hm => by have ah := e _ hm; have d5 := hikm _ hm; omega))
      have fR := ((((I.ch0 f).ch0 P).ch0 ay).ch aF (fun i hi => by have ah := e _ hi; omega))
      have fS := ((((J.ch0 f).ch0 P).ch0 ay).ch aF (fun i hi => by have ah := e _ hi; omega))
      have fT := ((((K.ch0 f).ch0 P).ch0 ay).ch aF (fun i hi => by have ah := e _ hi; omega))
      have fU := ((((z.ch0 f).ch0 P).ch0 ay).ch aF (fun hm => by have ah := e _ hm; have d5 := hikm _ hm; omega))
      have fV := ((((A.ch0 f).ch0 P).ch0 ay).ch aF (fun i hi => by have ah := e _ hi; omega))
      have fW := ((((B.ch0 f).ch0 P).ch0 ay).ch aF (fun i hi => by have ah := e _ hi; omega))
      have fX := ((((C.ch0 f).ch0 P).ch0 ay).ch aF (fun i hi => by have ah := e _ hi; omega))
      exact Zb (Exists.intro ((m + 1), (M ++ [(⟨Zz aN c.1.a ((m : Nat) : Int), Zz bN c.1.b ((m : Nat) : Int), false, ((k : Nat) : Int), ((m : Nat) : Int)⟩ : GNode)]), (.slice ai ((M ++ [(⟨Zz aN c.1.a ((m : Nat) : Int), Zz bN c.1.b ((m : Nat) : Int), false, ((k : Nat) : Int), ((m : Nat) : Int)⟩ : GNode)])).length aj)) ⟨⟨E, (by omega), (by omega), (by first | exact Zif af rfl rfl p | exact Zih af rfl rfl p o), fQ, fR, fS, fT, fU, fV, fW, fX, cH, (Lo.down aX (by omega))⟩, sC8 rfl rfl rfl rfl rfl rfl rfl rfl (sC2 rfl rfl (Sub.nil _)), (by first | omega | (dsimp only; omega))⟩)
     have el := p
     have p := bt_t (Qc p)
     refine Zq ?_
     refine Zv (Zb (ek _ _ (Zc (Za rfl rfl (Ze rfl) (Za rfl rfl (Yk (by omega) rfl rfl) (Za rfl rfl (Zd rfl) (Zf ?_)))))))
     have fY := (dt.ch0 P)
     have cI : Ol GNode.cs 110 5 fM (.slice Akm (M).length Ckm) (M) := by
      have hx := fY
      exact hx
     have fZ := ((y.ch0 f).ch0 P)
     have f0 := ((I.ch0 f).ch0 P)
     have f1 := ((J.ch0 f).ch0 P)
     have f2 := ((K.ch0 f).ch0 P)
     have f3 := ((z.ch0 f).ch0 P)
     have f4 := ((A.ch0 f).ch0 P)
     have f5 := ((B.ch0 f).ch0 P)
     have f6 := ((C.ch0 f).ch0 P)
     exact Zb (Exists.intro ((m + 1), M, (.slice Akm (M).length Ckm)) ⟨⟨E, (by omega), (by omega), (by first | exact Zif af rfl rfl p | exact Zih af rfl rfl p o), fZ, f0, f1, f2, f3, f4, f5, f6, cI, (Lo.down e (by omega))⟩, sC8 rfl rfl rfl rfl rfl rfl rfl rfl (sC2 rfl rfl (Sub.nil _)), (by first | omega | (dsimp only; omega))⟩)
    refine Xg [] 21 mixed rfl fun Z G => ?_
    have h4 := G.size
    have E := E.trans G
    have f7 := (y.ch0 G)
    refine dT 0 rfl rfl rfl (Yx f7.at_ (fun i hi => absurd hi List.not_mem_nil) agg27 sz27 rfl ?_)
    refine dV 1 rfl rfl rfl (fun _ => Ze rfl) (dV 2 rfl rfl rfl (fun _ => Ze rfl) ?_)
    have em := (u.ch0 G)
    refine dT 3 rfl rfl rfl (Qn em.ls GNode.len el111 sz110 rfl rfl rfl (by omega) fun bR d6 aY av => ?_)
    obtain ⟨d7, bT, by68, bU, rfl⟩ := Zfp af aY
    obtain rfl := Qg (Zbw o) bU
    replace av : At Z 0 Z.heap.size bR ([(.int .i64 c.1.a), (.int .i64 c.1.b), (.bool false), (.int .i64 bT), (.int .i64 by68)]) := av
    refine dV 4 rfl rfl rfl (fun _ => Zh fa110_0 rfl) ?_
    refine dT 5 rfl rfl rfl (Yw av (fun i hi => absurd hi List.not_mem_nil) agg3 rfl rfl ?_)
    refine dV 6 rfl rfl rfl (fun _ => Ze rfl) ?_
    have f8 := (z.ch0 G)
    refine dT 8 rfl rfl rfl (Yx f8.at_ (fun i hi => absurd hi List.not_mem_nil) agg27 sz27 rfl ?_)
    refine dV 9 rfl rfl rfl (fun _ => Ze rfl) (dV 10 rfl rfl rfl (fun _ => Ze rfl) ?_)
    refine dT 11 rfl rfl rfl (Qn em.ls GNode.len el111 sz110 rfl rfl rfl (by omega) fun bV d8 aZ aw => ?_)
    obtain ⟨d9, bW, by76, bX, rfl⟩ := Zfp af aZ
    obtain rfl := Qg (Zbw o) bX
    replace aw : At Z 0 Z.heap.size bV ([(.int .i64 c.1.a), (.int .i64 c.1.b), (.bool false), (.int .i64 bW), (.int .i64 by76)]) := aw
    refine dV 12 rfl rfl rfl (fun _ => Zh fa110_1 rfl) ?_
    refine dT 13 rfl rfl rfl (Yw aw (fun i hi => absurd hi List.not_mem_nil) agg3 rfl rfl ?_)
    refine dV 14 rfl rfl rfl (fun _ => Ze rfl) (dV 16 rfl rfl rfl (fun _ => Ze rfl) (dV 17 rfl rfl rfl (fun _ => Ze rfl) ?_))
    refine Zas 7 19 (by kernel_rfl) ?_ ?_
    ·refine Yl rfl rfl rfl ?_
     have f9 := (I.ch0 G)
     have ga := (K.ch0 G)
     have gb := (J.ch0 G)
     refine Step.call (Zn (xs := [.tmp 65, .tmp 70, .tmp 71]) fk91 rfl) (Xh _ f9 gb ga _ _ hva (by omega) (by omega)) fun bY gc ax => ?_
     obtain ⟨rfl, az⟩ := ax
     have h5 := az.size
     have E := E.trans az
     have be : Ch [] Z gc := ((Ch.refl _ _).trans az)
     refine ⟨be, ?_⟩
     refine Zas 15 19 (by kernel_rfl) ?_ ?_
     ·refine Yl rfl rfl rfl ?_
      have gd := ((A.ch0 G).ch0 az)
      have ge := ((C.ch0 G).ch0 az)
      have gf := ((B.ch0 G).ch0 az)
      refine Step.call (Zn (xs := [.tmp 73, .tmp 78, .tmp 79]) fk91 rfl) (Xh _ gd gf ge _ _ hvb (by omega) (by omega)) fun a0 gg V => ?_
      obtain ⟨rfl, cJ⟩ := V
      have h6 := cJ.size
      have E := E.trans cJ
      have ca : Ch [] Z gg := (be.trans cJ)
      refine ⟨ca, ?_⟩
      refine dV 18 rfl rfl rfl (fun _ => Yr (parts := [(0, .tmp 72), (1, .tmp 80), (3, .tmp 81), (4, .tmp 82)]) (cells := [(.int .i64 (Zz aN c.1.a ((m : Nat) : Int))), (.int .i64 (Zz bN c.1.b ((m : Nat) : Int))), (.bool false), (.int .i64 ((k : Nat) : Int)), (.int .i64 ((m : Nat) : Int))]) zr110 pl110 rfl rfl) (dO 19 (Yl rfl rfl rfl ?_))
      refine Yp zr110 fun q en n cK a1 => ?_
      have h7 := cK.size
      have E := E.trans cK
      have a2 := n.lt
      replace n : Blk en q 110 [(.int .i64 0), (.int .i64 0), (.bool false), (.int .i64 0), (.int .i64 0)] := n
      have cb : Ch [] Z en := (ca.trans cK)
      refine ⟨cb, ?_⟩
      refine dO 20 (Yl rfl rfl rfl ?_)
      refine Zt (off := 0) 5 n sz110 rfl (us := [(.int .i64 (Zz aN c.1.a ((m : Nat) : Int))), (.int .i64 (Zz bN c.1.b ((m : Nat) : Int))), (.bool false), (.int .i64 ((k : Nat) : Int)), (.int .i64 ((m : Nat) : Int))]) rfl rfl rfl rfl fun eo bf cL => ?_
      have h8 := cL.size
      have E := E.step cL (lS (by omega))
      replace bf : Blk eo q 110 [(.int .i64 (Zz aN c.1.a ((m : Nat) : Int))), (.int .i64 (Zz bN c.1.b ((m : Nat) : Int))), (.bool false), (.int .i64 ((k : Nat) : Int)), (.int .i64 ((m : Nat) : Int))] := bf
      have du : Ch [] Z eo := (cb.step cL (fun i hm => by have db := List.mem_singleton.1 hm; left; omega))
      refine ⟨du, ?_⟩
      refine Yq (by kernel_rfl) ?_
      refine Zb ?_
      exact bd _ _ q (sC8 rfl rfl rfl rfl rfl rfl rfl rfl (sC4 rfl rfl rfl rfl (sC1 rfl (Sub.nil _)))) ((((((Ch.refl [] br).trans G).trans az).trans cJ).trans cK).step cL (lS (by omega))) bf (by omega)
     refine Yl rfl rfl rfl ?_
     refine Yp zr110 fun q ep n bg a1 => ?_
     have h9 := bg.size
     have E := E.trans bg
     have a2 := n.lt
     replace n : Blk ep q 110 [(.int .i64 0), (.int .i64 0), (.bool false), (.int .i64 0), (.int .i64 0)] := n
     have cc : Ch [] Z ep := (be.trans bg)
     refine ⟨cc, ?_⟩
     refine dO 15 (Yl rfl rfl rfl ?_)
     have gh := (((A.ch0 G).ch0 az).ch0 bg)
     have gi := (((C.ch0 G).ch0 az).ch0 bg)
     have gj := (((B.ch0 G).ch0 az).ch0 bg)
     refine Step.call (Zn (xs := [.tmp 73, .tmp 78, .tmp 79]) fk91 rfl) (Xh _ gh gj gi _ _ hvb (by omega) (by omega)) fun a0 gk V => ?_
     obtain ⟨rfl, cd⟩ := V
     have ia := cd.size
     have E := E.trans cd
     have ce : Ch [] Z gk := (cc.trans cd)
     refine ⟨ce, ?_⟩
     refine dV 18 rfl rfl rfl (fun _ => Yr (parts := [(0, .tmp 72), (1, .tmp 80), (3, .tmp 81), (4, .tmp 82)]) (cells := [(.int .i64 (Zz aN c.1.a ((m : Nat) : Int))), (.int .i64 (Zz bN c.1.b ((m : Nat) : Int))), (.bool false), (.int .i64 ((k : Nat) : Int)), (.int .i64 ((m : Nat) : Int))]) zr110 pl110 rfl rfl) (dO 20 (Yl rfl rfl rfl ?_))
     have gl := (n.ch0 cd)
     refine Zt (off := 0) 5 gl sz110 rfl (us := [(.int .i64 (Zz aN c.1.a ((m : Nat) : Int))), (.int .i64 (Zz bN c.1.b ((m : Nat) : Int))), (.bool false), (.int .i64 ((k : Nat) : Int)), (.int .i64 ((m : Nat) : Int))]) rfl rfl rfl rfl fun er bh cM => ?_
     have ib := cM.size
     have E := E.step cM (lS (by omega))
     replace bh : Blk er q 110 [(.int .i64 (Zz aN c.1.a ((m : Nat) : Int))), (.int .i64 (Zz bN c.1.b ((m : Nat) : Int))), (.bool false), (.int .i64 ((k : Nat) : Int)), (.int .i64 ((m : Nat) : Int))] := bh
     have dv : Ch [] Z er := (ce.step cM (fun i hm => by have db := List.mem_singleton.1 hm; left; omega))
     refine ⟨dv, ?_⟩
     refine Yq (by kernel_rfl) ?_
     refine Zb ?_
     exact bd _ _ q (sC8 rfl rfl rfl rfl rfl rfl rfl rfl (sC4 rfl rfl rfl rfl (sC1 rfl (Sub.nil _)))) ((((((Ch.refl [] br).trans G).trans az).trans bg).trans cd).step cM (lS (by omega))) bh (by omega)
    refine Yl rfl rfl rfl ?_
    refine Yp zr110 fun q es n aG a1 => ?_
    have ic := aG.size
    have E := E.trans aG
    have a2 := n.lt
    replace n : Blk es q 110 [(.int .i64 0), (.int .i64 0), (.bool false), (.int .i64 0), (.int .i64 0)] := n
    have cf : Ch [] Z es := ((Ch.refl _ _).trans aG)
    refine ⟨cf, ?_⟩
    refine dO 7 (Yl rfl rfl rfl ?_)
    have gm := ((I.ch0 G).ch0 aG)
    have gn := ((K.ch0 G).ch0 aG)
    have gp := ((J.ch0 G).ch0 aG)
    refine Step.call (Zn (xs := [.tmp 65, .tmp 70, .tmp 71]) fk91 rfl) (Xh _ gm gp gn _ _ hva (by omega) (by omega)) fun bY gq ax => ?_
    obtain ⟨rfl, a4⟩ := ax
    have ie := a4.size
    have E := E.trans a4
    have cg : Ch [] Z gq := (cf.trans a4)
    refine ⟨cg, ?_⟩
    refine dO 15 (Yl rfl rfl rfl ?_)
    have gr := (((A.ch0 G).ch0 aG).ch0 a4)
    have gs := (((C.ch0 G).ch0 aG).ch0 a4)
    have gt := (((B.ch0 G).ch0 aG).ch0 a4)
    refine Step.call (Zn (xs := [.tmp 73, .tmp 78, .tmp 79]) fk91 rfl) (Xh _ gr gt gs _ _ hvb (by omega) (by omega)) fun a0 gu V => ?_
    obtain ⟨rfl, ci⟩ := V
    have ig := ci.size
    have E := E.trans ci
    have cj : Ch [] Z gu := (cg.trans ci)
    refine ⟨cj, ?_⟩
    refine dV 18 rfl rfl rfl (fun _ => Yr (parts := [(0, .tmp 72), (1, .tmp 80), (3, .tmp 81), (4, .tmp 82)]) (cells := [(.int .i64 (Zz aN c.1.a ((m : Nat) : Int))), (.int .i64 (Zz bN c.1.b ((m : Nat) : Int))), (.bool false), (.int .i64 ((k : Nat) : Int)), (.int .i64 ((m : Nat) : Int))]) zr110 pl110 rfl rfl) (dO 20 (Yl rfl rfl rfl ?_))
    have gv := ((n.ch0 a4).ch0 ci)
    refine Zt (off := 0) 5 gv sz110 rfl (us := [(.int .i64 (Zz aN c.1.a ((m : Nat) : Int))), (.int .i64 (Zz bN c.1.b ((m : Nat) : Int))), (.bool false), (.int .i64 ((k : Nat) : Int)), (.int .i64 ((m : Nat) : Int))]) rfl rfl rfl rfl fun et bi cN => ?_
    have ih := cN.size
    have E := E.step cN (lS (by omega))
    replace bi : Blk et q 110 [(.int .i64 (Zz aN c.1.a ((m : Nat) : Int))), (.int .i64 (Zz bN c.1.b ((m : Nat) : Int))), (.bool false), (.int .i64 ((k : Nat) : Int)), (.int .i64 ((m : Nat) : Int))] := bi
    have dw : Ch [] Z et := (cj.step cN (fun i hm => by have db := List.mem_singleton.1 hm; left; omega))
    refine ⟨dw, ?_⟩
    refine Yq (by kernel_rfl) ?_
    refine Zb ?_
    exact bd _ _ q (sC8 rfl rfl rfl rfl rfl rfl rfl rfl (sC4 rfl rfl rfl rfl (sC1 rfl (Sub.nil _)))) ((((((Ch.refl [] br).trans G).trans aG).trans a4).trans ci).step cN (lS (by omega))) bi (by omega)
   have ej := D
   have D := Ye D
   refine Xc (Zs (Zs (Yu ?_)))
   refine Zv (Zb (dM _ _ (Zc (Za rfl rfl (Ze rfl) (Za rfl rfl (Yk (by omega) rfl rfl) (Za rfl rfl (Zd rfl) (Zf ?_)))))))
   have cO : Ol GNode.cs 110 5 br (.slice Akm (M).length Ckm) (M) := by
    have hx := u
    exact hx
   exact Zb (Exists.intro ((k + 1), M, (.slice Akm (M).length Ckm)) ⟨⟨E, (by omega), (by have bF := Zgu (m := 9) o; rw [← Qz o] at bF; omega), (by rw [Qz o, show 9 = m by omega]; exact af), (Zeo hf o (by unfold tsD; first | (simp [r, X]; done) | (simp [r, O, ak]; done) | (simp [r, O]; done))), y, z, cO, (Lo.down e (by omega))⟩, sC4 rfl rfl rfl rfl (sC1 rfl (Sub.nil _)), (by first | omega | (dsimp only; omega))⟩)
  have eg := O
  refine Zj rfl rfl (Zj rfl rfl (Za rfl rfl (Ym rfl rfl) (Za rfl rfl (Ze rfl) (Zj rfl rfl (Zj rfl rfl (Za rfl rfl (Ym rfl rfl) (Za rfl rfl (Ym rfl rfl) ?_)))))))
  refine Zf (Zb (eS _ _ ?_))
  refine Qw rfl ?_
  refine Zq ?_
  refine Zb (dU _ _ ?_)
  refine Zg fun jU gw => ?_
  refine Zc (Za rfl rfl (Zd rfl) (Zf (Zb (gw _ _ ?_))))
  refine Zx ?_
  have gx := (dC.ch0 Y)
  have cP : Ol GNode.cs 110 5 di (.slice Akl (L).length Ckl) (L) := by
   have hx := gx
   exact hx
  have gy := (((eK.ch0 aJ).ch0 aO).ch0 Y)
  have gz := (((eL.ch0 aJ).ch0 aO).ch0 Y)
  have gA := (((eN.ch0 aJ).ch0 aO).ch0 Y)
  have gB := (((eM.ch0 aJ).ch0 aO).ch0 Y)
  have gC := (eO.ch0 Y)
  have gD := (eP.ch0 Y)
  have gE := (eR.ch0 Y)
  have gF := (eQ.ch0 Y)
  refine Xf (σ := Nat × List GNode × Value) (fun ⟨m, M, km⟩ => [(4, (.bool only)), (5, (.pointer (some ⟨bu, 0, none⟩))), (7, (.pointer (some ⟨bv, 0, none⟩))), (12, km), (13, (.int .i64 ((k : Nat) : Int))), (14, (.bool (Qd aA c.1.a))), (15, (.bool (Qd bA c.1.b))), (16, (.int .i64 ((m : Nat) : Int))), (25, (.bool (decide (((k : Nat) : Int) < ((L.length : Nat) : Int))))), (57, (.bool false))]) (fun ⟨m, M, km⟩ wx => Ch [] w wx ∧ di.heap.size ≤ wx.heap.size ∧ (m ≤ 9) ∧ (NdR M (bx (nxS aN bN) c (bE (nxS aN bN) (⟨s, t⟩ : St2) k) m)) ∧ Blk wx bu 27 [(.int .i64 aS), (.slice ab aA.length ac), (.slice R saN.length S)] ∧ Ls bcs 1 wx LL_aA w.heap.size (.slice ab aA.length ac) aA ∧ Ls Sv.cs 1 wx LL_saN w.heap.size (.slice R saN.length S) saN ∧ Rd ics 1 wx LR_aN w.heap.size saN aN ∧ Blk wx bv 27 [(.int .i64 bS), (.slice ad bA.length ae), (.slice T sbN.length U)] ∧ Ls bcs 1 wx LL_bA w.heap.size (.slice ad bA.length ae) bA ∧ Ls Sv.cs 1 wx LL_sbN w.heap.size (.slice T sbN.length U) sbN ∧ Rd ics 1 wx LR_bN w.heap.size sbN bN ∧ Ol GNode.cs 110 5 wx km M ∧ Lo W3.heap.size km) (fun ⟨m, M, km⟩ => 9 - m) (0, L, (.slice Akl (L).length Ckl)) (sC8 rfl rfl rfl rfl rfl rfl rfl rfl (sC2 rfl rfl (Sub.nil _))) ⟨E, (Nat.le_refl _), (by omega), hL, gy, gz, gA, gB, gC, gD, gE, gF, cP, aM⟩ ?_
  rintro ⟨m, M, km⟩ bs ⟨E, dZ, hm, af, y, I, J, K, z, A, B, C, u, e⟩
  have bG := E
  have c4 := bG.size
  have bH := y.lt
  have bI := z.lt
  obtain ⟨Akm, Ckm, rfl, lkm, hikm⟩ := u.opn
  have hJ := af.len
  have hK := Zgu (m := m) o
  refine Zg fun jV gG => ?_
  refine Zg fun jW gH => ?_
  refine Zc (Za rfl rfl (Ze rfl) (Za rfl rfl (Xi rfl rfl) (Zf (Zb (gH _ _ ?_)))))
  refine Zp rfl (fun D => ?_) (fun D => ?_)
  ·have eu := D
   have D := Yf D
   refine Zq ?_
   refine Zb (gG _ _ ?_)
   refine Zg fun jX ew => ?_
   refine Zx ?_
   refine Zg fun gI gJ => ?_
   have bj : ∀ (lj : KL) (am : World) (ag : Nat), Go.KLib.Sub [(4, (.bool only)), (5, (.pointer (some ⟨bu, 0, none⟩))), (7, (.pointer (some ⟨bv, 0, none⟩))), (12, (.slice Akm (M).length Ckm)), (13, (.int .i64 ((k : Nat) : Int))), (14, (.bool (Qd aA c.1.a))), (15, (.bool (Qd bA c.1.b))), (16, (.int .i64 ((m : Nat) : Int))), (17, (.pointer (some ⟨ag, 0, none⟩))), (25, (.bool (decide (((k : Nat) : Int) < ((L.length : Nat) : Int))))), (57, (.bool false)), (61, (.int .i64 ((m : Nat) : Int))), (62, (.bool (decide (((m : Nat) : Int) < 9))))] lj → Ch [] bs am → Blk am ag 110 [(.int .i64 (Zz aN c.1.a ((m : Nat) : Int))), (.int .i64 (Zz bN c.1.b ((m : Nat) : Int))), (.bool false), (.int .i64 ((k : Nat) : Int)), (.int .i64 ((m : Nat) : Int))] → bs.heap.size ≤ ag → gI lj am := by
    intro lj am ag aU g F bK
    refine gJ _ _ (Znz aU ?_)
    have dF := g.size
    have E := E.trans g
    have bL := F.lt
    refine Zg fun jY gK => ?_
    refine Zc (Za rfl rfl (Ze rfl) (Za rfl rfl (Zw F.at_ agg110 sz110 rfl) (Zk rfl rfl ?_)))
    have dx := (u.ch0 g)
    refine Step.call (Zn (xs := [.tmp 84, .tmp 85]) fk92 rfl) (Zcu dx.ls ⟨Zz aN c.1.a ((m : Nat) : Int), Zz bN c.1.b ((m : Nat) : Int), false, ((k : Nat) : Int), ((m : Nat) : Int)⟩ ) fun d1 gL bM => ?_
    obtain ⟨rfl, Q⟩ := bM
    have ii := Q.size
    have E := E.trans Q
    refine Za rfl rfl (Xu rfl) (Zf (Zb (gK _ _ ?_)))
    refine Zp rfl (fun p => ?_) (fun p => ?_)
    ·have ex := p
     have p := bf_t (Qb p)
     have hN := af.len
     have hO := Zgx (m := m) o (by omega)
     have d2 := hle (k + 1)
     refine Zc (Za rfl rfl (Ze rfl) ?_)
     have gM := (F.ch0 Q)
     refine Za rfl rfl (Zw gM.at_ agg110 sz110 rfl) (Zk rfl rfl ?_)
     refine Zo (cs := GNode.cs) (parts := [(0, .tmp 89)]) (⟨0, 0, false, 0, 0⟩ : GNode) [(⟨Zz aN c.1.a ((m : Nat) : Int), Zz bN c.1.b ((m : Nat) : Int), false, ((k : Nat) : Int), ((m : Nat) : Int)⟩ : GNode)] el111 sz110 zr110 GNode.len (by decide) rfl rfl rfl (by decide) (by decide) rfl fun d3 jZ aV c5 aB => ?_
     have ij := aB.size
     have E := E.trans aB
     obtain ⟨c6, c7, rfl, c8, bP⟩ := aV.opn
     refine Zk rfl rfl ?_
     have gN := ((dx.ch0 Q).ch0 aB)
     refine Yd (cs := GNode.cs) el111 sz110 by110 zr110 rfl (by decide) GNode.one gN aV.ls rfl rfl (by first | omega | (simp only [List.length_append, List.length_nil, List.length_cons, List.length_replicate, List.length_set, List.length_reverse, List.length_map] at *; omega) | (simp at *; omega)) (by first | omega | (simp only [List.length_append, List.length_nil, List.length_cons, List.length_replicate, List.length_set, List.length_reverse, List.length_map] at *; omega) | (simp at *; omega)) e (by omega) fun d4 gO aW aX c9 aH => ?_
     have ik := aH.size
     have E := E.step aH (fun i hi => .inl (by have ah := e _ hi; omega))
     obtain ⟨ai, aj, rfl, da, bQ⟩ := aW.opn
     refine Za rfl rfl (Zd rfl) (Zf (Zv (Zb (ew _ _ (Zc (Za rfl rfl (Ze rfl) (Za rfl rfl (Yk (by omega) rfl rfl) (Za rfl rfl (Zd rfl) ?_))))))))
     refine Zf ?_
     have cQ : Ol GNode.cs 110 5 gO (.slice ai ((M ++ [(⟨Zz aN c.1.a ((m : Nat) : Int), Zz bN c.1.b ((m : Nat) : Int), false, ((k : Nat) : Int), ((m : Nat) : Int)⟩ : GNode)])).length aj) ((M ++ [(⟨Zz aN c.1.a ((m : Nat) : Int), Zz bN c.1.b ((m : Nat) : Int), false, ((k : Nat) : Int), ((m : Nat) : Int)⟩ : GNode)])) := by
      have hx := aW
      exact hx
     have gP := ((((y.ch0 g).ch0 Q).ch0 aB).ch aH (fun hm => by have ah := e _ hm; have d5 := hikm _ hm; omega))
     have gQ := ((((I.ch0 g).ch0 Q).ch0 aB).ch aH (fun i hi => by have ah := e _ hi; omega))
     have gR := ((((J.ch0 g).ch0 Q).ch0 aB).ch aH (fun i hi => by have ah := e _ hi; omega))
     have gS := ((((K.ch0 g).ch0 Q).ch0 aB).ch aH (fun i hi => by have ah := e _ hi; omega))
     have gT := ((((z.ch0 g).ch0 Q).ch0 aB).ch aH (fun hm => by have ah := e _ hm; have d5 := hikm _ hm; omega))
     have gU := ((((A.ch0 g).ch0 Q).ch0 aB).ch aH (fun i hi => by have ah := e _ hi; omega))
     have gV := ((((B.ch0 g).ch0 Q).ch0 aB).ch aH (fun i hi => by have ah := e _ hi; omega))
     have gW := ((((C.ch0 g).ch0 Q).ch0 aB).ch aH (fun i hi => by have ah := e _ hi; omega))
     exact Zb (Exists.intro ((m + 1), (M ++ [(⟨Zz aN c.1.a ((m : Nat) : Int), Zz bN c.1.b ((m : Nat) : Int), false, ((k : Nat) : Int), ((m : Nat) : Int)⟩ : GNode)]), (.slice ai ((M ++ [(⟨Zz aN c.1.a ((m : Nat) : Int), Zz bN c.1.b ((m : Nat) : Int), false, ((k : Nat) : Int), ((m : Nat) : Int)⟩ : GNode)])).length aj)) ⟨⟨E, (by omega), (by omega), (by first | exact Zif af rfl rfl p | exact Zih af rfl rfl p o), gP, gQ, gR, gS, gT, gU, gV, gW, cQ, (Lo.down aX (by omega))⟩, sC8 rfl rfl rfl rfl rfl rfl rfl rfl (sC2 rfl rfl (Sub.nil _)), (by first | omega | (dsimp only; omega))⟩)
    have ex := p
    have p := bt_t (Qc p)
    refine Zq ?_
    refine Zv (Zb (ew _ _ (Zc (Za rfl rfl (Ze rfl) (Za rfl rfl (Yk (by omega) rfl rfl) (Za rfl rfl (Zd rfl) (Zf ?_)))))))
    have gX := (dx.ch0 Q)
    have cR : Ol GNode.cs 110 5 gL (.slice Akm (M).length Ckm) (M) := by
     have hx := gX
     exact hx
    have gY := ((y.ch0 g).ch0 Q)
    have gZ := ((I.ch0 g).ch0 Q)
    have g0 := ((J.ch0 g).ch0 Q)
    have g1 := ((K.ch0 g).ch0 Q)
    have g2 := ((z.ch0 g).ch0 Q)
    have g3 := ((A.ch0 g).ch0 Q)
    have g4 := ((B.ch0 g).ch0 Q)
    have g5 := ((C.ch0 g).ch0 Q)
    exact Zb (Exists.intro ((m + 1), M, (.slice Akm (M).length Ckm)) ⟨⟨E, (by omega), (by omega), (by first | exact Zif af rfl rfl p | exact Zih af rfl rfl p o), gY, gZ, g0, g1, g2, g3, g4, g5, cR, (Lo.down e (by omega))⟩, sC8 rfl rfl rfl rfl rfl rfl rfl rfl (sC2 rfl rfl (Sub.nil _)), (by first | omega | (dsimp only; omega))⟩)
   refine Xg [] 21 mixed rfl fun aa H => ?_
   have il := H.size
   have E := E.trans H
   have g6 := (y.ch0 H)
   refine dT 0 rfl rfl rfl (Yx g6.at_ (fun i hi => absurd hi List.not_mem_nil) agg27 sz27 rfl ?_)
   refine dV 1 rfl rfl rfl (fun _ => Ze rfl) (dV 2 rfl rfl rfl (fun _ => Ze rfl) ?_)
   have ey := (u.ch0 H)
   refine dT 3 rfl rfl rfl (Qn ey.ls GNode.len el111 sz110 rfl rfl rfl (by omega) fun bR d6 aY av => ?_)
   obtain ⟨d7, bT, by68, bU, rfl⟩ := Zfp af aY
   obtain rfl := Qg (Zbw o) bU
   replace av : At aa 0 aa.heap.size bR ([(.int .i64 c.1.a), (.int .i64 c.1.b), (.bool false), (.int .i64 bT), (.int .i64 by68)]) := av
   refine dV 4 rfl rfl rfl (fun _ => Zh fa110_0 rfl) ?_
   refine dT 5 rfl rfl rfl (Yw av (fun i hi => absurd hi List.not_mem_nil) agg3 rfl rfl ?_)
   refine dV 6 rfl rfl rfl (fun _ => Ze rfl) ?_
   have g7 := (z.ch0 H)
   refine dT 8 rfl rfl rfl (Yx g7.at_ (fun i hi => absurd hi List.not_mem_nil) agg27 sz27 rfl ?_)
   refine dV 9 rfl rfl rfl (fun _ => Ze rfl) (dV 10 rfl rfl rfl (fun _ => Ze rfl) ?_)
   refine dT 11 rfl rfl rfl (Qn ey.ls GNode.len el111 sz110 rfl rfl rfl (by omega) fun bV d8 aZ aw => ?_)
   obtain ⟨d9, bW, by76, bX, rfl⟩ := Zfp af aZ
   obtain rfl := Qg (Zbw o) bX
   replace aw : At aa 0 aa.heap.size bV ([(.int .i64 c.1.a), (.int .i64 c.1.b), (.bool false), (.int .i64 bW), (.int .i64 by76)]) := aw
   refine dV 12 rfl rfl rfl (fun _ => Zh fa110_1 rfl) ?_
   refine dT 13 rfl rfl rfl (Yw aw (fun i hi => absurd hi List.not_mem_nil) agg3 rfl rfl ?_)
   refine dV 14 rfl rfl rfl (fun _ => Ze rfl) (dV 16 rfl rfl rfl (fun _ => Ze rfl) (dV 17 rfl rfl rfl (fun _ => Ze rfl) ?_))
   refine Zas 7 19 (by kernel_rfl) ?_ ?_
   ·refine Yl rfl rfl rfl ?_
    have g8 := (I.ch0 H)
    have g9 := (K.ch0 H)
    have ha := (J.ch0 H)
    refine Step.call (Zn (xs := [.tmp 65, .tmp 70, .tmp 71]) fk91 rfl) (Xh _ g8 ha g9 _ _ hva (by omega) (by omega)) fun bY hb ax => ?_
    obtain ⟨rfl, aC⟩ := ax
    have im := aC.size
    have E := E.trans aC
    have bk : Ch [] aa hb := ((Ch.refl _ _).trans aC)
    refine ⟨bk, ?_⟩
    refine Zas 15 19 (by kernel_rfl) ?_ ?_
    ·refine Yl rfl rfl rfl ?_
     have hc := ((A.ch0 H).ch0 aC)
     have hd := ((C.ch0 H).ch0 aC)
     have he := ((B.ch0 H).ch0 aC)
     refine Step.call (Zn (xs := [.tmp 73, .tmp 78, .tmp 79]) fk91 rfl) (Xh _ hc he hd _ _ hvb (by omega) (by omega)) fun a0 hg V => ?_
     obtain ⟨rfl, cS⟩ := V
     have io := cS.size
     have E := E.trans cS
     have ck : Ch [] aa hg := (bk.trans cS)
     refine ⟨ck, ?_⟩
     refine dV 18 rfl rfl rfl (fun _ => Yr (parts := [(0, .tmp 72), (1, .tmp 80), (3, .tmp 81), (4, .tmp 82)]) (cells := [(.int .i64 (Zz aN c.1.a ((m : Nat) : Int))), (.int .i64 (Zz bN c.1.b ((m : Nat) : Int))), (.bool false), (.int .i64 ((k : Nat) : Int)), (.int .i64 ((m : Nat) : Int))]) zr110 pl110 rfl rfl) (dO 19 (Yl rfl rfl rfl ?_))
     refine Yp zr110 fun q ez n cT a1 => ?_
     have ip := cT.size
     have E := E.trans cT
     have a2 := n.lt
     replace n : Blk ez q 110 [(.int .i64 0), (.int .i64 0), (.bool false), (.int .i64 0), (.int .i64 0)] := n
     have cm : Ch [] aa ez := (ck.trans cT)
     refine ⟨cm, ?_⟩
     refine dO 20 (Yl rfl rfl rfl ?_)
     refine Zt (off := 0) 5 n sz110 rfl (us := [(.int .i64 (Zz aN c.1.a ((m : Nat) : Int))), (.int .i64 (Zz bN c.1.b ((m : Nat) : Int))), (.bool false), (.int .i64 ((k : Nat) : Int)), (.int .i64 ((m : Nat) : Int))]) rfl rfl rfl rfl fun eA bm cU => ?_
     have iq := cU.size
     have E := E.step cU (lS (by omega))
     replace bm : Blk eA q 110 [(.int .i64 (Zz aN c.1.a ((m : Nat) : Int))), (.int .i64 (Zz bN c.1.b ((m : Nat) : Int))), (.bool false), (.int .i64 ((k : Nat) : Int)), (.int .i64 ((m : Nat) : Int))] := bm
     have dy : Ch [] aa eA := (cm.step cU (fun i hm => by have db := List.mem_singleton.1 hm; left; omega))
     refine ⟨dy, ?_⟩
     refine Yq (by kernel_rfl) ?_
     refine Zb ?_
     exact bj _ _ q (sC8 rfl rfl rfl rfl rfl rfl rfl rfl (sC4 rfl rfl rfl rfl (sC1 rfl (Sub.nil _)))) ((((((Ch.refl [] bs).trans H).trans aC).trans cS).trans cT).step cU (lS (by omega))) bm (by omega)
    refine Yl rfl rfl rfl ?_
    refine Yp zr110 fun q eB n bn a1 => ?_
    have ir := bn.size
    have E := E.trans bn
    have a2 := n.lt
    replace n : Blk eB q 110 [(.int .i64 0), (.int .i64 0), (.bool false), (.int .i64 0), (.int .i64 0)] := n
    have cn : Ch [] aa eB := (bk.trans bn)
    refine ⟨cn, ?_⟩
    refine dO 15 (Yl rfl rfl rfl ?_)
    have hh := (((A.ch0 H).ch0 aC).ch0 bn)
    have hj := (((C.ch0 H).ch0 aC).ch0 bn)
    have hk := (((B.ch0 H).ch0 aC).ch0 bn)
    refine Step.call (Zn (xs := [.tmp 73, .tmp 78, .tmp 79]) fk91 rfl) (Xh _ hh hk hj _ _ hvb (by omega) (by omega)) fun a0 hl V => ?_
    obtain ⟨rfl, co⟩ := V
    have it := co.size
    have E := E.trans co
    have cp : Ch [] aa hl := (cn.trans co)
    refine ⟨cp, ?_⟩
    refine dV 18 rfl rfl rfl (fun _ => Yr (parts := [(0, .tmp 72), (1, .tmp 80), (3, .tmp 81), (4, .tmp 82)]) (cells := [(.int .i64 (Zz aN c.1.a ((m : Nat) : Int))), (.int .i64 (Zz bN c.1.b ((m : Nat) : Int))), (.bool false), (.int .i64 ((k : Nat) : Int)), (.int .i64 ((m : Nat) : Int))]) zr110 pl110 rfl rfl) (dO 20 (Yl rfl rfl rfl ?_))
    have hn := (n.ch0 co)
    refine Zt (off := 0) 5 hn sz110 rfl (us := [(.int .i64 (Zz aN c.1.a ((m : Nat) : Int))), (.int .i64 (Zz bN c.1.b ((m : Nat) : Int))), (.bool false), (.int .i64 ((k : Nat) : Int)), (.int .i64 ((m : Nat) : Int))]) rfl rfl rfl rfl fun eC bp cV => ?_
    have iu := cV.size
    have E := E.step cV (lS (by omega))
    replace bp : Blk eC q 110 [(.int .i64 (Zz aN c.1.a ((m : Nat) : Int))), (.int .i64 (Zz bN c.1.b ((m : Nat) : Int))), (.bool false), (.int .i64 ((k : Nat) : Int)), (.int .i64 ((m : Nat) : Int))] := bp
    have dz : Ch [] aa eC := (cp.step cV (fun i hm => by have db := List.mem_singleton.1 hm; left; omega))
    refine ⟨dz, ?_⟩
    refine Yq (by kernel_rfl) ?_
    refine Zb ?_
    exact bj _ _ q (sC8 rfl rfl rfl rfl rfl rfl rfl rfl (sC4 rfl rfl rfl rfl (sC1 rfl (Sub.nil _)))) ((((((Ch.refl [] bs).trans H).trans aC).trans bn).trans co).step cV (lS (by omega))) bp (by omega)
   refine Yl rfl rfl rfl ?_
   refine Yp zr110 fun q eD n aI a1 => ?_
   have iv := aI.size
   have E := E.trans aI
   have a2 := n.lt
   replace n : Blk eD q 110 [(.int .i64 0), (.int .i64 0), (.bool false), (.int .i64 0), (.int .i64 0)] := n
   have cq : Ch [] aa eD := ((Ch.refl _ _).trans aI)
   refine ⟨cq, ?_⟩
   refine dO 7 (Yl rfl rfl rfl ?_)
   have ho := ((I.ch0 H).ch0 aI)
   have hp := ((K.ch0 H).ch0 aI)
   have hq := ((J.ch0 H).ch0 aI)
   refine Step.call (Zn (xs := [.tmp 65, .tmp 70, .tmp 71]) fk91 rfl) (Xh _ ho hq hp _ _ hva (by omega) (by omega)) fun bY hr ax => ?_
   obtain ⟨rfl, a5⟩ := ax
   have iw := a5.size
   have E := E.trans a5
   have cr : Ch [] aa hr := (cq.trans a5)
   refine ⟨cr, ?_⟩
   refine dO 15 (Yl rfl rfl rfl ?_)
   have ht := (((A.ch0 H).ch0 aI).ch0 a5)
   have hu := (((C.ch0 H).ch0 aI).ch0 a5)
   have hv := (((B.ch0 H).ch0 aI).ch0 a5)
   refine Step.call (Zn (xs := [.tmp 73, .tmp 78, .tmp 79]) fk91 rfl) (Xh _ ht hv hu _ _ hvb (by omega) (by omega)) fun a0 hw V => ?_
   obtain ⟨rfl, ct⟩ := V
   have ix := ct.size
   have E := E.trans ct
   have cu : Ch [] aa hw := (cr.trans ct)
   refine ⟨cu, ?_⟩
   refine dV 18 rfl rfl rfl (fun _ => Yr (parts := [(0, .tmp 72), (1, .tmp 80), (3, .tmp 81), (4, .tmp 82)]) (cells := [(.int .i64 (Zz aN c.1.a ((m : Nat) : Int))), (.int .i64 (Zz bN c.1.b ((m : Nat) : Int))), (.bool false), (.int .i64 ((k : Nat) : Int)), (.int .i64 ((m : Nat) : Int))]) zr110 pl110 rfl rfl) (dO 20 (Yl rfl rfl rfl ?_))
   have hy := ((n.ch0 a5).ch0 ct)
   refine Zt (off := 0) 5 hy sz110 rfl (us := [(.int .i64 (Zz aN c.1.a ((m : Nat) : Int))), (.int .i64 (Zz bN c.1.b ((m : Nat) : Int))), (.bool false), (.int .i64 ((k : Nat) : Int)), (.int .i64 ((m : Nat) : Int))]) rfl rfl rfl rfl fun eE bq cW => ?_
   have iy := cW.size
   have E := E.step cW (lS (by omega))
   replace bq : Blk eE q 110 [(.int .i64 (Zz aN c.1.a ((m : Nat) : Int))), (.int .i64 (Zz bN c.1.b ((m : Nat) : Int))), (.bool false), (.int .i64 ((k : Nat) : Int)), (.int .i64 ((m : Nat) : Int))] := bq
   have dA : Ch [] aa eE := (cu.step cW (fun i hm => by have db := List.mem_singleton.1 hm; left; omega))
   refine ⟨dA, ?_⟩
   refine Yq (by kernel_rfl) ?_
   refine Zb ?_
   exact bj _ _ q (sC8 rfl rfl rfl rfl rfl rfl rfl rfl (sC4 rfl rfl rfl rfl (sC1 rfl (Sub.nil _)))) ((((((Ch.refl [] bs).trans H).trans aI).trans a5).trans ct).step cW (lS (by omega))) bq (by omega)
  have eu := D
  have D := Ye D
  refine Xc (Zs (Zs (Yu ?_)))
  refine Zv (Zb (dM _ _ (Zc (Za rfl rfl (Ze rfl) (Za rfl rfl (Yk (by omega) rfl rfl) (Za rfl rfl (Zd rfl) (Zf ?_)))))))
  have cX : Ol GNode.cs 110 5 bs (.slice Akm (M).length Ckm) (M) := by
   have hx := u
   exact hx
  exact Zb (Exists.intro ((k + 1), M, (.slice Akm (M).length Ckm)) ⟨⟨E, (by omega), (by have bF := Zgu (m := 9) o; rw [← Qz o] at bF; omega), (by rw [Qz o, show 9 = m by omega]; exact af), (Zeo hf o (by unfold tsD; first | (simp [r, X]; done) | (simp [r, O, ak]; done) | (simp [r, O]; done))), y, z, cX, (Lo.down e (by omega))⟩, sC4 rfl rfl rfl rfl (sC1 rfl (Sub.nil _)), (by first | omega | (dsimp only; omega))⟩)
 have e1 := a7
 have a7 := Ye a7
 refine Xc (Zs (Zs (Yu ?_)))
 refine Zb (H6 _ _ ?_)
 refine Zg fun j0 hz => ?_
 refine Zc (Zk rfl rfl ?_)
 refine Xd (k := 1) ics el30 sz3 fun j1 hA eF eG eH => ?_
 have iz := eH.size
 have E := E.trans eH
 obtain ⟨cv, cw, rfl, iA, hB⟩ := eF.opn
 refine Za rfl rfl (Zd rfl) (Za rfl rfl (Zd rfl) (Zf (Zb (hz _ _ ?_))))
 refine Zr ?_
 have dB : Ol ics 3 1 hA (.slice cv (([] : List Int)).length cw) ((difR aA aN bA bN ⟨s, t⟩ only).1) := by
  have hx := eF
  first | (rw [← Zao (Zat o (by unfold tsD; first | (simp [r, X]; done) | (simp [r, O, ak]; done) | (simp [r, O]; done)) hf), ← Zlp o]; exact hx) | (rw [← Zao (Zai (by have bF := hL.len; omega) hf)]; simpa using hx)
 exact Zi [_, _] ⟨rfl, ⟨rfl, trivial⟩⟩ ⟨(.slice cv (([] : List Int)).length cw), (congrArg (fun zq => (Value.tuple #[(.slice cv (([] : List Int)).length cw), .bool zq])) (by first | rw [← Zao (Zat o (by unfold tsD; first | (simp [r, X]; done) | (simp [r, O, ak]; done) | (simp [r, O]; done)) hf)] | rw [← Zao (Zai (by have bF := hL.len; omega) hf)])), dB, (Lo.down eG (by omega)), E⟩

/-- spec.DistinguishingWord -/
theorem Zch {w : World} (aS : Int) {LL_aA J : Nat} {A : Value} {aA : List Bool} (i : Ls bcs 1 w LL_aA J A aA) {LL_saN F : Nat} {r : Value} {saN : List Sv} (g : Ls Sv.cs 1 w LL_saN F r saN) {LR_aN BB_aN : Nat} {aN : List (List Int)} (h : Rd ics 1 w LR_aN BB_aN saN aN) (s : Int) (t : Int) :
 Ctr Try.prog 9 #[(.agg #[(.int .i64 aS), A, r]), (.int .i64 s), (.int .i64 t)] w (fun v w' => ∃ (S : Value), v = .tuple #[S, .bool ((dwR aS aA aN s t).2)] ∧ Ol ics 3 1 w' S ((dwR aS aA aN s t).1) ∧ Lo w.heap.size S ∧ Ch [] w w') := by
 obtain ⟨B, C, G⟩ := i.val
 subst G
 have ad := i.len
 have i := i.here (by decide)
 obtain ⟨u, x, z⟩ := g.val
 subst z
 have T := g.len
 have g := g.here (by decide)
 have h := h.here (by decide)
 have U := h.1
 have E := Ch.refl [] w
 refine Yc (N := 42) (vs0 := [(.agg #[(.int .i64 aS), (.slice B aA.length C), (.slice u saN.length x)]), (.int .i64 s), (.int .i64 t)]) Try.func9 rfl rfl rfl ?_
 refine Zg fun K1 H1 => ?_
 refine Zc (Zk rfl rfl ?_)
 refine Xz rfl fun ap W2 K C2 aP => ?_
 have aQ := C2.size
 have E := E.trans C2
 have aR := K.lt
 replace K : Blk W2 ap 27 [(.int .i64 aS), (.slice B aA.length C), (.slice u saN.length x)] := K
 refine Za rfl rfl (Zd rfl) (Za rfl rfl (Zd rfl) (Zf (Zb (H1 _ _ ?_))))
 refine Zg fun K3 H3 => ?_
 refine Zg fun K4 H4 => ?_
 refine Zc (Za rfl rfl (Zw K.at_ agg27 sz27 rfl) (Zk rfl rfl ?_))
 have F5 := (i.ch0 C2)
 have F6 := (h.ch0 C2)
 have F7 := (g.ch0 C2)
 refine Step.call (Zn (xs := [.tmp 10]) fk13 rfl) (Zab _ F5 F7 F6 ) fun aq W8 V => ?_
 obtain ⟨rfl, C8⟩ := V
 have aT := C8.size
 have E := E.trans C8
 refine Za rfl rfl (Xu rfl) (Za rfl rfl (Ze rfl) ?_)
 refine Yn (d := 13) rfl (fun a => ?_) (fun a => ?_)
 ·have au := a
  have a := bf_t (Qb a)
  refine Zj rfl rfl (Zj rfl rfl (Zj rfl rfl (Zj rfl rfl (Zj rfl rfl (Zj rfl rfl (Zj rfl rfl (Za rfl rfl (Yi rfl rfl) ?_)))))))
  refine Za rfl rfl (Ze rfl) (Zj rfl rfl (Zj rfl rfl (Zj rfl rfl (Zj rfl rfl (Zj rfl rfl (Zj rfl rfl (Zj rfl rfl ?_)))))))
  refine Za rfl rfl (Yi rfl rfl) (Zf (Zb (H4 _ _ ?_)))
  refine Xp rfl ?_
  refine Zg fun aU av => ?_
  refine Zc (Zk rfl rfl ?_)
  refine Xd (k := 1) ics el30 sz3 fun L aw j l ae => ?_
  have ax := ae.size
  have E := E.trans ae
  obtain ⟨e, f, rfl, D, y⟩ := j.opn
  refine Za rfl rfl (Zd rfl) (Za rfl rfl (Zd rfl) (Zf (Zb (av _ _ ?_))))
  refine Zr (Zl ?_)
  have M : Ol ics 3 1 aw (.slice e (([] : List Int)).length f) ((dwR aS aA aN s t).1) := by
   have hx := j
   first | (rw [Zdc a b c]; exact hx) | (rw [Xt (fun q => a q.1)]; simpa using hx) | (rw [Xt (fun q => b q.2.1)]; simpa using hx) | (rw [Xt (fun q => c q.2.2)]; simpa using hx)
  exact Zi [_, _] ⟨rfl, ⟨rfl, trivial⟩⟩ ⟨(.slice e (([] : List Int)).length f), (congrArg (fun zq => (Value.tuple #[(.slice e (([] : List Int)).length f), .bool zq])) (by first | rw [Zdc a b c] | rw [Xt (fun q => a q.1)] | rw [Xt (fun q => b q.2.1)] | rw [Xt (fun q => c q.2.2)])), M, (Lo.down l (by omega)), E⟩
 have au := a
 have a := bt_t (Qc a)
 refine Za rfl rfl (Ze rfl) (Za rfl rfl (Zh fa27_1 rfl) ?_)
 have af := (K.ch0 C8)
 refine Za rfl rfl (Zm af.at_ agg24 rfl rfl) (Za rfl rfl (Xa (by rw [el24]; rfl) rfl) (Za rfl rfl (Zay (by omega) rfl rfl) (Zk rfl rfl ?_)))
 refine Step.call (Zn (xs := [.tmp 14, .const (Go.Value.int Go.IntKind.i64 0), .tmp 18]) fk49 rfl) (Zar _ _ _ ) fun ay aV X => ?_
 obtain ⟨rfl, H⟩ := X
 have az := H.size
 have E := E.trans H
 refine Za rfl rfl (Xu rfl) (Za rfl rfl (Ym rfl rfl) (Za rfl rfl (Ze rfl) ?_))
 refine Yn (d := 22) rfl (fun b => ?_) (fun b => ?_)
 ·have Y := b
  have b := Ye (Qb b)
  refine Zj rfl rfl (Zj rfl rfl (Zj rfl rfl (Zj rfl rfl (Zj rfl rfl (Zj rfl rfl (Zj rfl rfl (Za rfl rfl (Yi rfl rfl) ?_)))))))
  refine Zf (Zb (H4 _ _ ?_))
  refine Xp rfl ?_
  refine Zg fun aW aB => ?_
  refine Zc (Zk rfl rfl ?_)
  refine Xd (k := 1) ics el30 sz3 fun L aC j l ag => ?_
  have aD := ag.size
  have E := E.trans ag
  obtain ⟨e, f, rfl, D, y⟩ := j.opn
  refine Za rfl rfl (Zd rfl) (Za rfl rfl (Zd rfl) (Zf (Zb (aB _ _ ?_))))
  refine Zr (Zl ?_)
  have O : Ol ics 3 1 aC (.slice e (([] : List Int)).length f) ((dwR aS aA aN s t).1) := by
   have hx := j
   first | (rw [Zdc a b c]; exact hx) | (rw [Xt (fun q => a q.1)]; simpa using hx) | (rw [Xt (fun q => b q.2.1)]; simpa using hx) | (rw [Xt (fun q => c q.2.2)]; simpa using hx)
  exact Zi [_, _] ⟨rfl, ⟨rfl, trivial⟩⟩ ⟨(.slice e (([] : List Int)).length f), (congrArg (fun zq => (Value.tuple #[(.slice e (([] : List Int)).length f), .bool zq])) (by first | rw [Zdc a b c] | rw [Xt (fun q => a q.1)] | rw [Xt (fun q => b q.2.1)] | rw [Xt (fun q => c q.2.2)])), O, (Lo.down l (by omega)), E⟩
 have Y := b
 have b := Yf (Qc b)
 refine Za rfl rfl (Ze rfl) (Za rfl rfl (Zh fa27_1 rfl) ?_)
 have ah := (af.ch0 H)
 refine Za rfl rfl (Zm ah.at_ agg24 rfl rfl) (Za rfl rfl (Xa (by rw [el24]; rfl) rfl) (Za rfl rfl (Zay (by omega) rfl rfl) (Zk rfl rfl ?_)))
 refine Step.call (Zn (xs := [.tmp 23, .const (Go.Value.int Go.IntKind.i64 0), .tmp 27]) fk49 rfl) (Zar _ _ _ ) fun aE aX Z => ?_
 obtain ⟨rfl, I⟩ := Z
 have aF := I.size
 have E := E.trans I
 refine Za rfl rfl (Xu rfl) (Za rfl rfl (Ym rfl rfl) (Zf (Zb (H4 _ _ ?_))))
 refine Zp rfl (fun c => ?_) (fun c => ?_)
 ·have aa := c
  have c := Ye (Qb c)
  refine Zg fun aY aG => ?_
  refine Zc (Zk rfl rfl ?_)
  refine Xd (k := 1) ics el30 sz3 fun L aH j l ai => ?_
  have aI := ai.size
  have E := E.trans ai
  obtain ⟨e, f, rfl, D, y⟩ := j.opn
  refine Za rfl rfl (Zd rfl) (Za rfl rfl (Zd rfl) (Zf (Zb (aG _ _ ?_))))
  refine Zr (Zl ?_)
  have P : Ol ics 3 1 aH (.slice e (([] : List Int)).length f) ((dwR aS aA aN s t).1) := by
   have hx := j
   first | (rw [Zdc a b c]; exact hx) | (rw [Xt (fun q => a q.1)]; simpa using hx) | (rw [Xt (fun q => b q.2.1)]; simpa using hx) | (rw [Xt (fun q => c q.2.2)]; simpa using hx)
  exact Zi [_, _] ⟨rfl, ⟨rfl, trivial⟩⟩ ⟨(.slice e (([] : List Int)).length f), (congrArg (fun zq => (Value.tuple #[(.slice e (([] : List Int)).length f), .bool zq])) (by first | rw [Zdc a b c] | rw [Xt (fun q => a q.1)] | rw [Xt (fun q => b q.2.1)] | rw [Xt (fun q => c q.2.2)])), P, (Lo.down l (by omega)), E⟩
 have aa := c
 have c := Yf (Qc c)
 refine Zq ?_
 refine Zb (H3 _ _ ?_)
 refine Zg fun aZ aJ => ?_
 refine Zc ?_
 have aj := (ah.ch0 I)
 refine Za rfl rfl (Zw aj.at_ agg27 sz27 rfl) (Za rfl rfl (Ze rfl) (Za rfl rfl (Zw aj.at_ agg27 sz27 rfl) (Za rfl rfl (Ze rfl) (Zk rfl rfl ?_))))
 have ak := (((F5.ch0 C8).ch0 H).ch0 I)
 have al := (((F6.ch0 C8).ch0 H).ch0 I)
 have am := (((F7.ch0 C8).ch0 H).ch0 I)
 refine Step.call (Zn (xs := [.tmp 33, .tmp 34, .tmp 35, .tmp 36, .const (Go.Value.bool false)]) fk50 rfl) (Zgl _ ak am al _ _ ak am al _ _ a a (Zfy b) (Zfy c)) fun aK aL ab => ?_
 obtain ⟨an, rfl, m, p, ao⟩ := ab
 have aM := ao.size
 have E := E.trans ao
 obtain ⟨n, o, rfl, ac, Q⟩ := m.opn
 refine Za rfl rfl (Ze rfl) (Za rfl rfl (Xm rfl rfl) (Za rfl rfl (Xm rfl rfl) (Za rfl rfl (Zd rfl) (Za rfl rfl (Zd rfl) (Zf (Zb (aJ _ _ ?_)))))))
 refine Zg fun a0 aO => ?_
 refine Zc (Za rfl rfl (Ze rfl) (Za rfl rfl (Ze rfl) (Za rfl rfl (Zd rfl) (Za rfl rfl (Zd rfl) (Zf (Zb (aO _ _ ?_)))))))
 refine Zr ?_
 have R : Ol ics 3 1 aL (.slice n ((difR aA aN aA aN ⟨s, t⟩ false).1).length o) ((dwR aS aA aN s t).1) := by
  have hx := m
  first | (rw [Zdc a b c]; exact hx) | (rw [Xt (fun q => a q.1)]; simpa using hx) | (rw [Xt (fun q => b q.2.1)]; simpa using hx) | (rw [Xt (fun q => c q.2.2)]; simpa using hx)
 exact Zi [_, _] ⟨rfl, ⟨rfl, trivial⟩⟩ ⟨(.slice n ((difR aA aN aA aN ⟨s, t⟩ false).1).length o), (congrArg (fun zq => (Value.tuple #[(.slice n ((difR aA aN aA aN ⟨s, t⟩ false).1).length o), .bool zq])) (by first | rw [Zdc a b c] | rw [Xt (fun q => a q.1)] | rw [Xt (fun q => b q.2.1)] | rw [Xt (fun q => c q.2.2)])), R, (Lo.down p (by omega)), E⟩

/-- spec.l2Letter -/
theorem Zds {w : World} (n : Int) :
 Ctr Try.prog 75 #[(.int .i64 n)] w (fun v w' => v = .bool (decide (0 ≤ n ∧ n ≤ 8)) ∧ Ch [] w w') := by
 have E := Ch.refl [] w
 refine Yc (N := 5) (vs0 := [(.int .i64 n)]) Try.func75 rfl rfl rfl ?_
 refine Zg fun K1 H1 => ?_
 refine Zc (Za rfl rfl (Zd rfl) (Zf (Zb (H1 _ _ ?_))))
 refine Zg fun K2 H2 => ?_
 refine Zc (Za rfl rfl (Ze rfl) (Zk rfl rfl ?_))
 refine Step.call (Zn (xs := [.tmp 3, .const (Go.Value.int Go.IntKind.i64 0), .const (Go.Value.int Go.IntKind.i64 8)]) fk49 rfl) (Zar _ _ _ ) fun b W3 a => ?_
 obtain ⟨rfl, C3⟩ := a
 have c := C3.size
 have E := E.trans C3
 refine Za rfl rfl (Zd rfl) (Zf (Zb (H2 _ _ ?_)))
 refine Zr ?_
 exact Zi [_] ⟨rfl, trivial⟩ ⟨congrArg Value.bool rfl, E⟩

/-- spec.l8Arity -/
theorem Zef {w : World} (t : Token) :
 Ctr Try.prog 113 #[(.agg #[(.int .i64 t.kind), (.int .i64 t.letter), (.int .i64 t.low), (.int .i64 t.high)])] w (fun v w' => v = .int .i64 (arT t) ∧ Ch [] w w') := by
 have E := Ch.refl [] w
 refine Yc (N := 87) (vs0 := [(.agg #[(.int .i64 t.kind), (.int .i64 t.letter), (.int .i64 t.low), (.int .i64 t.high)])]) Try.func113 rfl rfl rfl ?_
 refine Zg fun K1 H1 => ?_
 refine Zc (Zk rfl rfl ?_)
 refine Xz rfl fun aC W2 i C2 bg => ?_
 have bh := C2.size
 have E := E.trans C2
 have bi := i.lt
 replace i : Blk W2 aC 84 [(.int .i64 t.kind), (.int .i64 t.letter), (.int .i64 t.low), (.int .i64 t.high)] := i
 refine Za rfl rfl (Zd rfl) (Zf (Zb (H1 _ _ ?_)))
 refine Zg fun K3 H3 => ?_
 refine Zg fun K4 H4 => ?_
 refine Zc (Za rfl rfl (Zh fa84_0 rfl) (Za rfl rfl (Zm i.at_ agg3 rfl rfl) (Zf (Zb (H4 _ _ ?_)))))
 refine Zx ?_
 refine Zg fun K5 H5 => ?_
 refine Zg fun K6 H6 => ?_
 refine Zc (Za rfl rfl (Xj rfl rfl) (Za rfl rfl (Zd rfl) (Zf (Zb (H6 _ _ ?_)))))
 refine Zp rfl (fun j => ?_) (fun j => ?_)
 ·have ax := j
  have j := Yf j
  refine Zq ?_
  refine Zb (H5 _ _ ?_)
  refine Zcs rfl ax ?_
  refine Zg fun K8 H8 => ?_
  refine Zg fun K9 H9 => ?_
  refine Zc (Za rfl rfl (Zh fa84_1 rfl) (Za rfl rfl (Zm i.at_ agg3 rfl rfl) (Za rfl rfl (Qv rfl rfl) (Za rfl rfl (Ze rfl) ?_))))
  refine Yn (d := 11) rfl (fun a => ?_) (fun a => ?_)
  ·have H := a
   have a := Ye (Qb a)
   refine Zj rfl rfl (Zj rfl rfl (Zj rfl rfl (Za rfl rfl (Yi rfl rfl) (Za rfl rfl (Ze rfl) (Zj rfl rfl (Zj rfl rfl (Zj rfl rfl ?_)))))))
   refine Za rfl rfl (Yi rfl rfl) (Zf (Zb (H9 _ _ ?_)))
   refine Xp rfl ?_
   refine Zg fun bj aD => ?_
   refine Zc (Za rfl rfl (Zd rfl) (Zf (Zb (aD _ _ ?_))))
   refine Zr (Zl (Ya (Zl ?_)))
   clear H3 H8
   exact Zi [_] ⟨rfl, trivial⟩ ⟨congrArg (Value.int .i64) (by unfold arT; repeat (first | rw [if_pos (by omega)] | rw [if_neg (by omega)])), E⟩
  have H := a
  have a := Yf (Qc a)
  refine Za rfl rfl (Zh fa84_2 rfl) (Za rfl rfl (Zm i.at_ agg3 rfl rfl) (Za rfl rfl (Qv rfl rfl) (Za rfl rfl (Ym rfl rfl) (Za rfl rfl (Ze rfl) ?_))))
  refine Yn (d := 16) rfl (fun b => ?_) (fun b => ?_)
  ·have I := b
   have b := Ye (Qb b)
   refine Zj rfl rfl (Zj rfl rfl (Zj rfl rfl (Za rfl rfl (Yi rfl rfl) (Zf (Zb (H9 _ _ ?_))))))
   refine Xp rfl ?_
   refine Zg fun bk aE => ?_
   refine Zc (Za rfl rfl (Zd rfl) (Zf (Zb (aE _ _ ?_))))
   refine Zr (Zl (Ya (Zl ?_)))
   clear H3 H8
   exact Zi [_] ⟨rfl, trivial⟩ ⟨congrArg (Value.int .i64) (by unfold arT; repeat (first | rw [if_pos (by omega)] | rw [if_neg (by omega)])), E⟩
  have I := b
  have b := Yf (Qc b)
  refine Za rfl rfl (Zh fa84_3 rfl) (Za rfl rfl (Zm i.at_ agg3 rfl rfl) (Za rfl rfl (Qv rfl rfl) (Za rfl rfl (Ym rfl rfl) (Zf (Zb (H9 _ _ ?_))))))
  refine Zp rfl (fun c => ?_) (fun c => ?_)
  ·have J := c
   have c := Ye (Qb c)
   refine Zg fun bm aF => ?_
   refine Zc (Za rfl rfl (Zd rfl) (Zf (Zb (aF _ _ ?_))))
   refine Zr (Zl (Ya (Zl ?_)))
   clear H3 H8
   exact Zi [_] ⟨rfl, trivial⟩ ⟨congrArg (Value.int .i64) (by unfold arT; repeat (first | rw [if_pos (by omega)] | rw [if_neg (by omega)])), E⟩
  have J := c
  have c := Yf (Qc c)
  refine Zq ?_
  refine Zb (H8 _ _ ?_)
  refine Zg fun bn aG => ?_
  refine Zc (Za rfl rfl (Zd rfl) (Zf (Zb (aG _ _ ?_))))
  refine Zr (Ya (Zl ?_))
  exact Zi [_] ⟨rfl, trivial⟩ ⟨congrArg (Value.int .i64) (by unfold arT; repeat (first | rw [if_pos (by omega)] | rw [if_neg (by omega)])), E⟩
 have ax := j
 have j := Ye j
 refine Zc (Za rfl rfl (Xj rfl rfl) (Za rfl rfl (Zd rfl) (Zf (Zb (H5 _ _ ?_)))))
 refine Zp rfl (fun j => ?_) (fun j => ?_)
 ·have K := j
  have j := Yf j
  refine Zg fun bp A => ?_
  refine Zg fun bq L => ?_
  refine Zc (Za rfl rfl (Zh fa84_1 rfl) (Za rfl rfl (Zm i.at_ agg3 rfl rfl) (Za rfl rfl (Qv rfl rfl) (Za rfl rfl (Ze rfl) ?_))))
  refine Yn (d := 11) rfl (fun a => ?_) (fun a => ?_)
  ·have M := a
   have a := Ye (Qb a)
   refine Zj rfl rfl (Zj rfl rfl (Zj rfl rfl (Za rfl rfl (Yi rfl rfl) (Za rfl rfl (Ze rfl) (Zj rfl rfl (Zj rfl rfl (Zj rfl rfl ?_)))))))
   refine Za rfl rfl (Yi rfl rfl) (Zf (Zb (L _ _ ?_)))
   refine Xp rfl ?_
   refine Zg fun br aH => ?_
   refine Zc (Za rfl rfl (Zd rfl) (Zf (Zb (aH _ _ ?_))))
   refine Zr (Zl (Ya (Zl ?_)))
   clear H3 A
   exact Zi [_] ⟨rfl, trivial⟩ ⟨congrArg (Value.int .i64) (by unfold arT; repeat (first | rw [if_pos (by omega)] | rw [if_neg (by omega)])), E⟩
  have M := a
  have a := Yf (Qc a)
  refine Za rfl rfl (Zh fa84_2 rfl) (Za rfl rfl (Zm i.at_ agg3 rfl rfl) (Za rfl rfl (Qv rfl rfl) (Za rfl rfl (Ym rfl rfl) (Za rfl rfl (Ze rfl) ?_))))
  refine Yn (d := 16) rfl (fun b => ?_) (fun b => ?_)
  ·have O := b
   have b := Ye (Qb b)
   refine Zj rfl rfl (Zj rfl rfl (Zj rfl rfl (Za rfl rfl (Yi rfl rfl) (Zf (Zb (L _ _ ?_))))))
   refine Xp rfl ?_
   refine Zg fun bs aI => ?_
   refine Zc (Za rfl rfl (Zd rfl) (Zf (Zb (aI _ _ ?_))))
   refine Zr (Zl (Ya (Zl ?_)))
   clear H3 A
   exact Zi [_] ⟨rfl, trivial⟩ ⟨congrArg (Value.int .i64) (by unfold arT; repeat (first | rw [if_pos (by omega)] | rw [if_neg (by omega)])), E⟩
  have O := b
  have b := Yf (Qc b)
  refine Za rfl rfl (Zh fa84_3 rfl) (Za rfl rfl (Zm i.at_ agg3 rfl rfl) (Za rfl rfl (Qv rfl rfl) (Za rfl rfl (Ym rfl rfl) (Zf (Zb (L _ _ ?_))))))
  refine Zp rfl (fun c => ?_) (fun c => ?_)
  ·have P := c
   have c := Ye (Qb c)
   refine Zg fun bu aJ => ?_
   refine Zc (Za rfl rfl (Zd rfl) (Zf (Zb (aJ _ _ ?_))))
   refine Zr (Zl (Ya (Zl ?_)))
   clear H3 A
   exact Zi [_] ⟨rfl, trivial⟩ ⟨congrArg (Value.int .i64) (by unfold arT; repeat (first | rw [if_pos (by omega)] | rw [if_neg (by omega)])), E⟩
  have P := c
  have c := Yf (Qc c)
  refine Zq ?_
  refine Zb (A _ _ ?_)
  refine Zg fun bv aK => ?_
  refine Zc (Za rfl rfl (Zd rfl) (Zf (Zb (aK _ _ ?_))))
  refine Zr (Ya (Zl ?_))
  exact Zi [_] ⟨rfl, trivial⟩ ⟨congrArg (Value.int .i64) (by unfold arT; repeat (first | rw [if_pos (by omega)] | rw [if_neg (by omega)])), E⟩
 have K := j
 have j := Ye j
 refine Zg fun bw aL => ?_
 refine Zc (Za rfl rfl (Xj rfl rfl) (Za rfl rfl (Zd rfl) (Zf (Zb (aL _ _ ?_)))))
 refine Zp rfl (fun k => ?_) (fun k => ?_)
 ·have Q := k
  have k := Yf k
  refine Zg fun bz B => ?_
  refine Zg fun bA R => ?_
  refine Zc (Za rfl rfl (Zh fa84_1 rfl) (Za rfl rfl (Zm i.at_ agg3 rfl rfl) (Zk rfl rfl ?_)))
  refine Step.call (Zn (xs := [.tmp 24]) fk75 rfl) (Zds _ ) fun aM bB S => ?_
  obtain ⟨rfl, T⟩ := S
  have aN := T.size
  have E := E.trans T
  refine Za rfl rfl (Xu rfl) (Za rfl rfl (Ze rfl) ?_)
  refine Yn (d := 27) rfl (fun l => ?_) (fun l => ?_)
  ·have U := l
   have l := Ye (Qb l)
   refine Zj rfl rfl (Zj rfl rfl (Zj rfl rfl (Za rfl rfl (Yi rfl rfl) (Za rfl rfl (Ze rfl) (Zj rfl rfl (Zj rfl rfl (Zj rfl rfl ?_)))))))
   refine Za rfl rfl (Yi rfl rfl) (Zf (Zb (R _ _ ?_)))
   refine Xp rfl ?_
   refine Zg fun bC aO => ?_
   refine Zc (Za rfl rfl (Zd rfl) (Zf (Zb (aO _ _ ?_))))
   refine Zr (Zl (Ya (Zl ?_)))
   clear H3 B
   exact Zi [_] ⟨rfl, trivial⟩ ⟨congrArg (Value.int .i64) (by unfold arT; repeat (first | rw [if_pos (by omega)] | rw [if_neg (by omega)])), E⟩
  have U := l
  have l := Yf (Qc l)
  refine Za rfl rfl (Zh fa84_2 rfl) ?_
  have ay := (i.ch0 T)
  refine Za rfl rfl (Zm ay.at_ agg3 rfl rfl) (Za rfl rfl (Qv rfl rfl) (Za rfl rfl (Ym rfl rfl) (Za rfl rfl (Ze rfl) ?_)))
  refine Yn (d := 32) rfl (fun m => ?_) (fun m => ?_)
  ·have V := m
   have m := Ye (Qb m)
   refine Zj rfl rfl (Zj rfl rfl (Zj rfl rfl (Za rfl rfl (Yi rfl rfl) (Zf (Zb (R _ _ ?_))))))
   refine Xp rfl ?_
   refine Zg fun bD aP => ?_
   refine Zc (Za rfl rfl (Zd rfl) (Zf (Zb (aP _ _ ?_))))
   refine Zr (Zl (Ya (Zl ?_)))
   clear H3 B
   exact Zi [_] ⟨rfl, trivial⟩ ⟨congrArg (Value.int .i64) (by unfold arT; repeat (first | rw [if_pos (by omega)] | rw [if_neg (by omega)])), E⟩
  have V := m
  have m := Yf (Qc m)
  refine Za rfl rfl (Zh fa84_3 rfl) (Za rfl rfl (Zm ay.at_ agg3 rfl rfl) (Za rfl rfl (Qv rfl rfl) (Za rfl rfl (Ym rfl rfl) (Zf (Zb (R _ _ ?_))))))
  refine Zp rfl (fun n => ?_) (fun n => ?_)
  ·have X := n
   have n := Ye (Qb n)
   refine Zg fun bF aQ => ?_
   refine Zc (Za rfl rfl (Zd rfl) (Zf (Zb (aQ _ _ ?_))))
   refine Zr (Zl (Ya (Zl ?_)))
   clear H3 B
   exact Zi [_] ⟨rfl, trivial⟩ ⟨congrArg (Value.int .i64) (by unfold arT; repeat (first | rw [if_pos (by omega)] | rw [if_neg (by omega)])), E⟩
  have X := n
  have n := Yf (Qc n)
  refine Zq ?_
  refine Zb (B _ _ ?_)
  refine Zg fun bG aR => ?_
  refine Zc (Za rfl rfl (Zd rfl) (Zf (Zb (aR _ _ ?_))))
  refine Zr (Ya (Zl ?_))
  exact Zi [_] ⟨rfl, trivial⟩ ⟨congrArg (Value.int .i64) (by unfold arT; repeat (first | rw [if_pos (by omega)] | rw [if_neg (by omega)])), E⟩
 have Q := k
 have k := Ye k
 refine Zg fun bH az => ?_
 refine Zg fun bI aS => ?_
 refine Zc (Za rfl rfl (Xj rfl rfl) (Za rfl rfl (Zd rfl) (Zf (Zb (aS _ _ ?_)))))
 refine Zp rfl (fun e => ?_) (fun e => ?_)
 ·have z := e
  have e := Yf e
  refine Zq ?_
  refine Zb (az _ _ ?_)
  refine Zcs rfl z ?_
  refine Zg fun bJ C => ?_
  refine Zg fun bK Y => ?_
  refine Zc (Za rfl rfl (Zh fa84_1 rfl) (Za rfl rfl (Zm i.at_ agg3 rfl rfl) (Za rfl rfl (Qv rfl rfl) (Za rfl rfl (Ze rfl) ?_))))
  refine Yn (d := 43) rfl (fun f => ?_) (fun f => ?_)
  ·have Z := f
   have f := Ye (Qb f)
   refine Zj rfl rfl (Zj rfl rfl (Zj rfl rfl (Za rfl rfl (Yi rfl rfl) (Za rfl rfl (Ze rfl) (Zj rfl rfl (Zj rfl rfl (Zj rfl rfl ?_)))))))
   refine Za rfl rfl (Yi rfl rfl) (Zf (Zb (Y _ _ ?_)))
   refine Xp rfl ?_
   refine Zg fun bL aT => ?_
   refine Zc (Za rfl rfl (Zd rfl) (Zf (Zb (aT _ _ ?_))))
   refine Zr (Zl (Ya (Zl ?_)))
   clear H3 C
   exact Zi [_] ⟨rfl, trivial⟩ ⟨congrArg (Value.int .i64) (by unfold arT; repeat (first | rw [if_pos (by omega)] | rw [if_neg (by omega)])), E⟩
  have Z := f
  have f := Yf (Qc f)
  refine Za rfl rfl (Zh fa84_2 rfl) (Za rfl rfl (Zm i.at_ agg3 rfl rfl) (Za rfl rfl (Qv rfl rfl) (Za rfl rfl (Ym rfl rfl) (Za rfl rfl (Ze rfl) ?_))))
  refine Yn (d := 48) rfl (fun g => ?_) (fun g => ?_)
  ·have aa := g
   have g := Ye (Qb g)
   refine Zj rfl rfl (Zj rfl rfl (Zj rfl rfl (Za rfl rfl (Yi rfl rfl) (Zf (Zb (Y _ _ ?_))))))
   refine Xp rfl ?_
   refine Zg fun bM aU => ?_
   refine Zc (Za rfl rfl (Zd rfl) (Zf (Zb (aU _ _ ?_))))
   refine Zr (Zl (Ya (Zl ?_)))
   clear H3 C
   exact Zi [_] ⟨rfl, trivial⟩ ⟨congrArg (Value.int .i64) (by unfold arT; repeat (first | rw [if_pos (by omega)] | rw [if_neg (by omega)])), E⟩
  have aa := g
  have g := Yf (Qc g)
  refine Za rfl rfl (Zh fa84_3 rfl) (Za rfl rfl (Zm i.at_ agg3 rfl rfl) (Za rfl rfl (Qv rfl rfl) (Za rfl rfl (Ym rfl rfl) (Zf (Zb (Y _ _ ?_))))))
  refine Zp rfl (fun h => ?_) (fun h => ?_)
  ·have ab := h
   have h := Ye (Qb h)
   refine Zg fun bN aV => ?_
   refine Zc (Za rfl rfl (Zd rfl) (Zf (Zb (aV _ _ ?_))))
   refine Zr (Zl (Ya (Zl ?_)))
   clear H3 C
   exact Zi [_] ⟨rfl, trivial⟩ ⟨congrArg (Value.int .i64) (by unfold arT; repeat (first | rw [if_pos (by omega)] | rw [if_neg (by omega)])), E⟩
  have ab := h
  have h := Yf (Qc h)
  refine Zq ?_
  refine Zb (C _ _ ?_)
  refine Zg fun bO aW => ?_
  refine Zc (Za rfl rfl (Zd rfl) (Zf (Zb (aW _ _ ?_))))
  refine Zr (Ya (Zl ?_))
  exact Zi [_] ⟨rfl, trivial⟩ ⟨congrArg (Value.int .i64) (by unfold arT; repeat (first | rw [if_pos (by omega)] | rw [if_neg (by omega)])), E⟩
 have z := e
 have e := Ye e
 refine Zc (Za rfl rfl (Xj rfl rfl) (Za rfl rfl (Zd rfl) (Zf (Zb (az _ _ ?_)))))
 refine Zp rfl (fun e => ?_) (fun e => ?_)
 ·have ac := e
  have e := Yf e
  refine Zg fun bP D => ?_
  refine Zg fun bQ ad => ?_
  refine Zc (Za rfl rfl (Zh fa84_1 rfl) (Za rfl rfl (Zm i.at_ agg3 rfl rfl) (Za rfl rfl (Qv rfl rfl) (Za rfl rfl (Ze rfl) ?_))))
  refine Yn (d := 43) rfl (fun f => ?_) (fun f => ?_)
  ·have ae := f
   have f := Ye (Qb f)
   refine Zj rfl rfl (Zj rfl rfl (Zj rfl rfl (Za rfl rfl (Yi rfl rfl) (Za rfl rfl (Ze rfl) (Zj rfl rfl (Zj rfl rfl (Zj rfl rfl ?_)))))))
   refine Za rfl rfl (Yi rfl rfl) (Zf (Zb (ad _ _ ?_)))
   refine Xp rfl ?_
   refine Zg fun bR aX => ?_
   refine Zc (Za rfl rfl (Zd rfl) (Zf (Zb (aX _ _ ?_))))
   refine Zr (Zl (Ya (Zl ?_)))
   clear H3 D
   exact Zi [_] ⟨rfl, trivial⟩ ⟨congrArg (Value.int .i64) (by unfold arT; repeat (first | rw [if_pos (by omega)] | rw [if_neg (by omega)])), E⟩
  have ae := f
  have f := Yf (Qc f)
  refine Za rfl rfl (Zh fa84_2 rfl) (Za rfl rfl (Zm i.at_ agg3 rfl rfl) (Za rfl rfl (Qv rfl rfl) (Za rfl rfl (Ym rfl rfl) (Za rfl rfl (Ze rfl) ?_))))
  refine Yn (d := 48) rfl (fun g => ?_) (fun g => ?_)
  ·have af := g
   have g := Ye (Qb g)
   refine Zj rfl rfl (Zj rfl rfl (Zj rfl rfl (Za rfl rfl (Yi rfl rfl) (Zf (Zb (ad _ _ ?_))))))
   refine Xp rfl ?_
   refine Zg fun bS aY => ?_
   refine Zc (Za rfl rfl (Zd rfl) (Zf (Zb (aY _ _ ?_))))
   refine Zr (Zl (Ya (Zl ?_)))
   clear H3 D
   exact Zi [_] ⟨rfl, trivial⟩ ⟨congrArg (Value.int .i64) (by unfold arT; repeat (first | rw [if_pos (by omega)] | rw [if_neg (by omega)])), E⟩
  have af := g
  have g := Yf (Qc g)
  refine Za rfl rfl (Zh fa84_3 rfl) (Za rfl rfl (Zm i.at_ agg3 rfl rfl) (Za rfl rfl (Qv rfl rfl) (Za rfl rfl (Ym rfl rfl) (Zf (Zb (ad _ _ ?_))))))
  refine Zp rfl (fun h => ?_) (fun h => ?_)
  ·have ag := h
   have h := Ye (Qb h)
   refine Zg fun bT aZ => ?_
   refine Zc (Za rfl rfl (Zd rfl) (Zf (Zb (aZ _ _ ?_))))
   refine Zr (Zl (Ya (Zl ?_)))
   clear H3 D
   exact Zi [_] ⟨rfl, trivial⟩ ⟨congrArg (Value.int .i64) (by unfold arT; repeat (first | rw [if_pos (by omega)] | rw [if_neg (by omega)])), E⟩
  have ag := h
  have h := Yf (Qc h)
  refine Zq ?_
  refine Zb (D _ _ ?_)
  refine Zg fun bU a0 => ?_
  refine Zc (Za rfl rfl (Zd rfl) (Zf (Zb (a0 _ _ ?_))))
  refine Zr (Ya (Zl ?_))
  exact Zi [_] ⟨rfl, trivial⟩ ⟨congrArg (Value.int .i64) (by unfold arT; repeat (first | rw [if_pos (by omega)] | rw [if_neg (by omega)])), E⟩
 have ac := e
 have e := Ye e
 refine Zg fun bV a1 => ?_
 refine Zc (Za rfl rfl (Xj rfl rfl) (Za rfl rfl (Zd rfl) (Zf (Zb (a1 _ _ ?_)))))
 refine Zp rfl (fun o => ?_) (fun o => ?_)
 ·have ah := o
  have o := Yf o
  refine Zg fun bW F => ?_
  refine Zg fun bX ai => ?_
  refine Zc (Za rfl rfl (Zh fa84_1 rfl) (Za rfl rfl (Zm i.at_ agg3 rfl rfl) (Za rfl rfl (Qv rfl rfl) (Za rfl rfl (Ze rfl) ?_))))
  refine Yn (d := 58) rfl (fun p => ?_) (fun p => ?_)
  ·have aj := p
   have p := Ye (Qb p)
   refine Zj rfl rfl (Zj rfl rfl (Zj rfl rfl (Za rfl rfl (Yi rfl rfl) (Za rfl rfl (Ze rfl) (Zj rfl rfl (Zj rfl rfl (Zj rfl rfl ?_)))))))
   refine Za rfl rfl (Yi rfl rfl) (Zf (Zb (ai _ _ ?_)))
   refine Xp rfl ?_
   refine Zg fun bY a2 => ?_
   refine Zc (Za rfl rfl (Zd rfl) (Zf (Zb (a2 _ _ ?_))))
   refine Zr (Zl (Ya (Zl ?_)))
   clear H3 F
   exact Zi [_] ⟨rfl, trivial⟩ ⟨congrArg (Value.int .i64) (by unfold arT; repeat (first | rw [if_pos (by omega)] | rw [if_neg (by omega)])), E⟩
  have aj := p
  have p := Yf (Qc p)
  refine Za rfl rfl (Zh fa84_2 rfl) (Za rfl rfl (Zm i.at_ agg3 rfl rfl) (Za rfl rfl (Qv rfl rfl) (Za rfl rfl (Ym rfl rfl) (Za rfl rfl (Ze rfl) ?_))))
  refine Yn (d := 63) rfl (fun q => ?_) (fun q => ?_)
  ·have ak := q
   have q := Ye (Qb q)
   refine Zj rfl rfl (Zj rfl rfl (Zj rfl rfl (Za rfl rfl (Yi rfl rfl) (Zf (Zb (ai _ _ ?_))))))
   refine Xp rfl ?_
   refine Zg fun bZ a3 => ?_
   refine Zc (Za rfl rfl (Zd rfl) (Zf (Zb (a3 _ _ ?_))))
   refine Zr (Zl (Ya (Zl ?_)))
   clear H3 F
   exact Zi [_] ⟨rfl, trivial⟩ ⟨congrArg (Value.int .i64) (by unfold arT; repeat (first | rw [if_pos (by omega)] | rw [if_neg (by omega)])), E⟩
  have ak := q
  have q := Yf (Qc q)
  refine Za rfl rfl (Zh fa84_3 rfl) (Za rfl rfl (Zm i.at_ agg3 rfl rfl) (Za rfl rfl (Qv rfl rfl) (Za rfl rfl (Ym rfl rfl) (Zf (Zb (ai _ _ ?_))))))
  refine Zp rfl (fun r => ?_) (fun r => ?_)
  ·have al := r
   have r := Ye (Qb r)
   refine Zg fun b0 a4 => ?_
   refine Zc (Za rfl rfl (Zd rfl) (Zf (Zb (a4 _ _ ?_))))
   refine Zr (Zl (Ya (Zl ?_)))
   clear H3 F
   exact Zi [_] ⟨rfl, trivial⟩ ⟨congrArg (Value.int .i64) (by unfold arT; repeat (first | rw [if_pos (by omega)] | rw [if_neg (by omega)])), E⟩
  have al := r
  have r := Yf (Qc r)
  refine Zq ?_
  refine Zb (F _ _ ?_)
  refine Zg fun b1 a5 => ?_
  refine Zc (Za rfl rfl (Zd rfl) (Zf (Zb (a5 _ _ ?_))))
  refine Zr (Ya (Zl ?_))
  exact Zi [_] ⟨rfl, trivial⟩ ⟨congrArg (Value.int .i64) (by unfold arT; repeat (first | rw [if_pos (by omega)] | rw [if_neg (by omega)])), E⟩
 have ah := o
 have o := Ye o
 refine Zg fun b2 a6 => ?_
 refine Zc (Za rfl rfl (Xj rfl rfl) (Za rfl rfl (Zd rfl) (Zf (Zb (a6 _ _ ?_)))))
 refine Zp rfl (fun s => ?_) (fun s => ?_)
 ·have am := s
  have s := Yf s
  refine Zg fun b3 G => ?_
  refine Zg fun b4 an => ?_
  refine Zc (Za rfl rfl (Zh fa84_1 rfl) (Za rfl rfl (Zm i.at_ agg3 rfl rfl) (Za rfl rfl (Qv rfl rfl) (Za rfl rfl (Ze rfl) ?_))))
  refine Yn (d := 73) rfl (fun u => ?_) (fun u => ?_)
  ·have ao := u
   have u := Ye (Qb u)
   refine Zj rfl rfl (Zj rfl rfl (Zj rfl rfl (Zj rfl rfl (Za rfl rfl (Yi rfl rfl) (Za rfl rfl (Ze rfl) (Zj rfl rfl (Zj rfl rfl ?_)))))))
   refine Zj rfl rfl (Zj rfl rfl (Zj rfl rfl (Zj rfl rfl (Za rfl rfl (Yi rfl rfl) (Zf (Zb (an _ _ ?_)))))))
   refine Xp rfl ?_
   refine Zg fun b5 a7 => ?_
   refine Zc (Za rfl rfl (Zd rfl) (Zf (Zb (a7 _ _ ?_))))
   refine Zr (Zl (Ya (Zl ?_)))
   clear H3 G
   exact Zi [_] ⟨rfl, trivial⟩ ⟨congrArg (Value.int .i64) (by unfold arT; repeat (first | rw [if_pos (by omega)] | rw [if_neg (by omega)])), E⟩
  have ao := u
  have u := Yf (Qc u)
  refine Za rfl rfl (Zh fa84_3 rfl) (Za rfl rfl (Zm i.at_ agg3 rfl rfl) (Zk rfl rfl ?_))
  refine Step.call (Zn (xs := [.tmp 75, .const (Go.Value.int Go.IntKind.i64 1), .const (Go.Value.int Go.IntKind.i64 3)]) fk49 rfl) (Zar _ _ _ ) fun a8 b6 ap => ?_
  obtain ⟨rfl, aq⟩ := ap
  have a9 := aq.size
  have E := E.trans aq
  refine Za rfl rfl (Xu rfl) (Za rfl rfl (Ym rfl rfl) (Za rfl rfl (Ze rfl) ?_))
  refine Yn (d := 79) rfl (fun x => ?_) (fun x => ?_)
  ·have au := x
   have x := Ye (Qb x)
   refine Zj rfl rfl (Zj rfl rfl (Zj rfl rfl (Zj rfl rfl (Zj rfl rfl (Zj rfl rfl (Za rfl rfl (Yi rfl rfl) (Zf ?_)))))))
   refine Zb (an _ _ ?_)
   refine Xp rfl ?_
   refine Zg fun b7 ba => ?_
   refine Zc (Za rfl rfl (Zd rfl) (Zf (Zb (ba _ _ ?_))))
   refine Zr (Zl (Ya (Zl ?_)))
   clear H3 G
   exact Zi [_] ⟨rfl, trivial⟩ ⟨congrArg (Value.int .i64) (by unfold arT; repeat (first | rw [if_pos (by omega)] | rw [if_neg (by omega)])), E⟩
  have au := x
  have x := Yf (Qc x)
  refine Za rfl rfl (Zh fa84_2 rfl) ?_
  have aA := (i.ch0 aq)
  refine Za rfl rfl (Zm aA.at_ agg3 rfl rfl) (Za rfl rfl (Zh fa84_3 rfl) (Za rfl rfl (Zm aA.at_ agg3 rfl rfl) (Zk rfl rfl ?_)))
  refine Step.call (Zn (xs := [.tmp 81, .const (Go.Value.int Go.IntKind.i64 0), .tmp 83]) fk49 rfl) (Zar _ _ _ ) fun bb b8 av => ?_
  obtain ⟨rfl, aB⟩ := av
  have bc := aB.size
  have E := E.trans aB
  refine Za rfl rfl (Xu rfl) (Za rfl rfl (Ym rfl rfl) (Zf (Zb (an _ _ ?_))))
  refine Zp rfl (fun y => ?_) (fun y => ?_)
  ·have aw := y
   have y := Ye (Qb y)
   refine Zg fun b9 bd => ?_
   refine Zc (Za rfl rfl (Zd rfl) (Zf (Zb (bd _ _ ?_))))
   refine Zr (Zl (Ya (Zl ?_)))
   clear H3 G
   exact Zi [_] ⟨rfl, trivial⟩ ⟨congrArg (Value.int .i64) (by unfold arT; repeat (first | rw [if_pos (by omega)] | rw [if_neg (by omega)])), E⟩
  have aw := y
  have y := Yf (Qc y)
  refine Zq ?_
  refine Zb (G _ _ ?_)
  refine Zg fun ca be => ?_
  refine Zc (Za rfl rfl (Zd rfl) (Zf (Zb (be _ _ ?_))))
  refine Zr (Ya (Zl ?_))
  exact Zi [_] ⟨rfl, trivial⟩ ⟨congrArg (Value.int .i64) (by unfold arT; repeat (first | rw [if_pos (by omega)] | rw [if_neg (by omega)])), E⟩
 have am := s
 have s := Ye s
 refine Zq ?_
 refine Zv (Zb (H3 _ _ ?_))
 refine Zg fun cb bf => ?_
 refine Zc (Za rfl rfl (Zd rfl) (Zf (Zb (bf _ _ ?_))))
 refine Zr ?_
 exact Zi [_] ⟨rfl, trivial⟩ ⟨congrArg (Value.int .i64) (by unfold arT; repeat (first | rw [if_pos (by omega)] | rw [if_neg (by omega)])), E⟩

/-- spec.IsExpr -/
theorem Zjx {w : World} {LL_e q : Nat} {m : Value} {e : List Token} (h : Ls Token.cs 4 w LL_e q m e) :
 Ctr Try.prog 74 #[(.agg #[m])] w (fun v w' => v = .bool (isE e) ∧ Ch [] w w') := by
 obtain ⟨k, l, n⟩ := h.val
 subst n
 have G := h.len
 have h := h.here (by decide)
 have E := Ch.refl [] w
 refine Yc (N := 32) (vs0 := [(.agg #[(.slice k e.length l)])]) Try.func74 rfl rfl rfl ?_
 refine Zg fun K1 H1 => ?_
 refine Zc (Zk rfl rfl ?_)
 refine Xz rfl fun r W2 p C2 V => ?_
 have X := C2.size
 have E := E.trans C2
 have Y := p.lt
 replace p : Blk W2 r 44 [(.slice k e.length l)] := p
 refine Za rfl rfl (Zd rfl) (Zf (Zb (H1 _ _ ?_)))
 refine Zg fun K3 H3 => ?_
 refine Zc (Za rfl rfl (Zd rfl) (Zf (Zb (H3 _ _ ?_))))
 refine Zg fun K4 H4 => ?_
 refine Zg fun K5 H5 => ?_
 refine Zc (Za rfl rfl (Zd rfl) (Zf (Zb (H5 _ _ ?_))))
 refine Zx ?_
 refine Xf (σ := Nat × Int × List Tr) (fun ⟨i, d, st⟩ => [(1, (.pointer (some ⟨r, 0, none⟩))), (3, (.int .i64 d)), (4, (.int .i64 ((i : Nat) : Int)))]) (fun ⟨i, d, st⟩ wx => Ch [] w wx ∧ W2.heap.size ≤ wx.heap.size ∧ (i ≤ e.length) ∧ (d = st.length) ∧ (st.length ≤ i) ∧ (prs [] (e.take i) = some st) ∧ Blk wx r 44 [(.slice k e.length l)]) (fun ⟨i, d, st⟩ => e.length - i) (0, 0, ([] : List Tr)) (sC2 rfl rfl (sC1 rfl (Sub.nil _))) ⟨E, (Nat.le_refl _), (by omega), rfl, (Nat.le_refl _), rfl, p⟩ ?_
 rintro ⟨i, d, st⟩ R6 ⟨E, H, hi, hd, hs, hp, f⟩
 have o := E
 have D := o.size
 have s := f.lt
 refine Zg fun K7 H7 => ?_
 refine Zg fun K8 H8 => ?_
 refine Zc (Za rfl rfl (Ze rfl) (Za rfl rfl (Zh fa44_0 rfl) (Za rfl rfl (Zm f.at_ agg42 rfl rfl) (Za rfl rfl (Xa (by rw [el42]; rfl) rfl) (Za rfl rfl (Xi rfl rfl) (Zf (Zb (H8 _ _ ?_))))))))
 refine Zp rfl (fun a => ?_) (fun a => ?_)
 ·have I := a
  have a := Yf a
  refine Zq ?_
  refine Zb (H7 _ _ ?_)
  refine Zg fun Z u => ?_
  refine Zx ?_
  refine Zg fun aa J => ?_
  refine Zc (Za rfl rfl (Zh fa44_0 rfl) (Za rfl rfl (Zm f.at_ agg42 rfl rfl) (Za rfl rfl (Ze rfl) (Zk rfl rfl ?_))))
  have K := (h.ch0 o)
  refine (Yo K Token.len el42 sz84 rfl rfl rfl (by omega) fun L j g x => ?_)
  refine Za rfl rfl (Zw x agg84 sz84 rfl) (Zk rfl rfl ?_)
  refine Step.call (Zn (xs := [.tmp 17]) fk113 rfl) (Zef j ) fun M ab y => ?_
  obtain ⟨rfl, z⟩ := y
  have O := z.size
  have E := E.trans z
  have P := Zav j
  refine Za rfl rfl (Zd rfl) (Zf (Zb (J _ _ ?_)))
  refine Zg fun ac A => ?_
  refine Zg fun ad F => ?_
  refine Zc (Za rfl rfl (Ze rfl) (Za rfl rfl (Xi rfl rfl) (Za rfl rfl (Ze rfl) ?_)))
  refine Yn (d := 21) rfl (fun b => ?_) (fun b => ?_)
  ·have B := b
   have b := Yf b
   refine Zj rfl rfl (Zj rfl rfl (Zj rfl rfl (Za rfl rfl (Yi rfl rfl) (Zf (Zb (F _ _ ?_))))))
   refine Xp rfl ?_
   refine Zg fun ae Q => ?_
   refine Zc (Za rfl rfl (Zd rfl) (Zf (Zb (Q _ _ ?_))))
   refine Zr (Zl (Ya (Zl (Zl (Ya (Zl ?_))))))
   clear H4 u A
   exact Zi [_] ⟨rfl, trivial⟩ ⟨congrArg Value.bool (by first | (rw [Zlt hp (by omega), hd]; done) | exact Zjs (Zoj hp g (Zls (by omega)))), E⟩
  have B := b
  have b := Ye b
  refine Za rfl rfl (Ze rfl) (Za rfl rfl (Ze rfl) (Za rfl rfl (Zeh rfl rfl) (Za rfl rfl (Ym rfl rfl) (Zf (Zb (F _ _ ?_))))))
  refine Zp rfl (fun c => ?_) (fun c => ?_)
  ·have C := c
   have c := Yf c
   refine Zg fun af R => ?_
   refine Zc (Za rfl rfl (Zd rfl) (Zf (Zb (R _ _ ?_))))
   refine Zr (Zl (Ya (Zl (Zl (Ya (Zl ?_))))))
   clear H4 u A
   exact Zi [_] ⟨rfl, trivial⟩ ⟨congrArg Value.bool (by first | (rw [Zlt hp (by omega), hd]; done) | exact Zjs (Zoj hp g (Zls (by omega)))), E⟩
  have C := c
  have c := Ye c
  refine Zq ?_
  refine Zb (A _ _ (Zc (Za rfl rfl (Ze rfl) (Za rfl rfl (Ze rfl) (Za rfl rfl (Zay (by omega) rfl rfl) (Za rfl rfl (Yk (by omega) rfl rfl) (Za rfl rfl (Zd rfl) (Zf ?_))))))))
  refine Zv (Zb (u _ _ (Zc (Za rfl rfl (Ze rfl) (Za rfl rfl (Yk (by omega) rfl rfl) (Za rfl rfl (Zd rfl) (Zf ?_)))))))
  obtain ⟨s2, S, ag⟩ := Zqy (t := j) (st := st) (by omega) (by omega)
  have T := (f.ch0 z)
  exact Zb (Exists.intro ((i + 1), ((d - arT j) + 1), s2) ⟨⟨E, (by omega), (by omega), (by omega), (by omega), ((Zmu hp g).trans S), T⟩, sC2 rfl rfl (sC1 rfl (Sub.nil _)), (by first | omega | (dsimp only; omega))⟩)
 have I := a
 have a := Ye a
 refine Xc (Zs (Zs (Yu ?_)))
 refine Zb (H4 _ _ ?_)
 refine Zg fun ah U => ?_
 refine Zc (Za rfl rfl (Ze rfl) (Za rfl rfl (Xj rfl rfl) (Za rfl rfl (Zd rfl) (Zf (Zb (U _ _ ?_))))))
 refine Zr ?_
 exact Zi [_] ⟨rfl, trivial⟩ ⟨congrArg Value.bool (by first | (rw [Zlt hp (by omega), hd]; done) | exact Zjs (Zoj hp g (Zls (by omega)))), E⟩

/-- spec.IsValidExpr -/
theorem Zax {w : World} {LL_e j : Nat} {c : Value} {e : List Token} (a : Ls Token.cs 4 w LL_e j c e) :
 Ctr Try.prog 31 #[(.agg #[c])] w (fun v w' => v = .bool (ivE e) ∧ Ch [] w w') := by
 obtain ⟨f, g, h⟩ := a.val
 subst h
 have k := a.len
 have a := a.here (by decide)
 have E := Ch.refl [] w
 refine Yc (N := 11) (vs0 := [(.agg #[(.slice f e.length g)])]) Try.func31 rfl rfl rfl ?_
 refine Zg fun K1 H1 => ?_
 refine Zc (Zk rfl rfl ?_)
 refine Xz rfl fun l W2 i C2 o => ?_
 have p := C2.size
 have E := E.trans C2
 have q := i.lt
 replace i : Blk W2 l 44 [(.slice f e.length g)] := i
 refine Za rfl rfl (Zd rfl) (Zf (Zb (H1 _ _ ?_)))
 refine Zg fun K3 H3 => ?_
 refine Zc (Za rfl rfl (Zh fa44_0 rfl) (Za rfl rfl (Zm i.at_ agg42 rfl rfl) (Za rfl rfl (Xa (by rw [el42]; rfl) rfl) (Za rfl rfl (Zit rfl rfl) (Za rfl rfl (Ze rfl) ?_)))))
 refine Yn (d := 7) rfl (fun b => ?_) (fun b => ?_)
 ·have m := b
  have b := Yf b
  refine Za rfl rfl (Zw i.at_ agg44 sz44 rfl) (Zk rfl rfl ?_)
  have F5 := (a.ch0 C2)
  refine Step.call (Zn (xs := [.tmp 8]) fk74 rfl) (Zjx F5 ) fun r W6 n => ?_
  obtain ⟨rfl, C6⟩ := n
  have s := C6.size
  have E := E.trans C6
  refine Za rfl rfl (Yi rfl rfl) (Za rfl rfl (Zd rfl) (Zf (Zb (H3 _ _ ?_))))
  refine Zr ?_
  exact Zi [_] ⟨rfl, trivial⟩ ⟨congrArg Value.bool (by unfold ivE; first | (rw [decide_eq_true (by omega)]; rfl) | (rw [decide_eq_false (by omega)]; rfl)), E⟩
 have m := b
 have b := Ye b
 refine Zj rfl rfl (Zj rfl rfl (Za rfl rfl (Ym rfl rfl) (Za rfl rfl (Zd rfl) (Zf (Zb (H3 _ _ ?_))))))
 refine Zr ?_
 exact Zi [_] ⟨rfl, trivial⟩ ⟨congrArg Value.bool (by unfold ivE; first | (rw [decide_eq_true (by omega)]; rfl) | (rw [decide_eq_false (by omega)]; rfl)), E⟩

/-- spec.l8Copy -/
theorem Zkc {w : World} {LL_l p : Nat} {h : Value} {l : List Token} (a : Ls Token.cs 4 w LL_l p h l) (hb : l.length ≤ 4194304) :
 Ctr Try.prog 129 #[h] w (fun v w' => ∃ u, v = .agg #[u] ∧ Ol Token.cs 84 4 w' u (l) ∧ Lo w.heap.size u ∧ Ch [] w w') := by
 obtain ⟨q, r, j⟩ := a.val
 subst j
 have A := a.len
 have a := a.here (by decide)
 have E := Ch.refl [] w
 refine Yc (N := 7) (vs0 := [(.slice q l.length r)]) Try.func129 rfl rfl rfl ?_
 refine Zg fun K1 H1 => ?_
 refine Zc (Zk rfl rfl ?_)
 refine Yp zr44 fun x W2 n C2 K => ?_
 have L := C2.size
 have E := E.trans C2
 have M := n.lt
 replace n : Blk W2 x 44 [(.slice none 0 0)] := n
 refine Zf (Zb (H1 _ _ ?_))
 refine Zg fun K3 H3 => ?_
 refine Zc (Zk rfl rfl ?_)
 refine Xd (k := 4) Token.cs el42 sz84 fun O W4 y b C4 => ?_
 have P := C4.size
 have E := E.trans C4
 obtain ⟨B, C, rfl, D, e⟩ := y.opn
 refine Za rfl rfl (Ze rfl) (Zk rfl rfl ?_)
 have F6 := ((a.ch0 C2).ch0 C4)
 refine Yd (cs := Token.cs) el42 sz84 by84 zr84 rfl (by decide) Token.one y F6 rfl rfl (by first | omega | (simp only [List.length_append, List.length_nil, List.length_cons, List.length_replicate, List.length_set, List.length_reverse, List.length_map] at *; omega) | (simp at *; omega)) (by first | omega | (simp only [List.length_append, List.length_nil, List.length_cons, List.length_replicate, List.length_set, List.length_reverse, List.length_map] at *; omega) | (simp at *; omega)) b (by omega) fun F W5 o s t C5 => ?_
 have Q := C5.size
 have E := E.step C5 (fun i hi => .inl (by have G := b _ hi; omega))
 replace o : Ol Token.cs 84 4 W5 F l := o
 obtain ⟨c, d, rfl, H, z⟩ := o.opn
 refine Za rfl rfl (Yr (parts := [(0, .tmp 5)]) (cells := [(.slice c (l).length d)]) zr44 pl44 rfl rfl) (Zk rfl rfl ?_)
 have F7 := ((n.ch0 C4).ch C5 (fun hm => by have G := b _ hm; have I := e _ hm; omega))
 refine Zt (off := 0) 1 F7 sz44 rfl (us := [(.slice c (l).length d)]) rfl rfl rfl rfl fun W8 f C8 => ?_
 have R := C8.size
 have E := E.step C8 (lS (by omega))
 replace f : Blk W8 x 44 [(.slice c (l).length d)] := f
 refine Zf (Zb (H3 _ _ ?_))
 refine Zr ?_
 have J := (o.ch C8 (fun g hg hm => by have S := List.mem_singleton.1 hm; rcases t with ea | ea; (rw [ea] at hg; have I := b _ hg; have T := e _ hg; omega); (rw [ea] at hg; have U := List.mem_singleton.1 hg; omega)))
 have m : Ol Token.cs 84 4 W8 (.slice c (l).length d) (l) := by
  have hx := J
  first | exact hx | simpa using hx
 exact Zi [_] (Zu f rfl agg44 sz44 trivial) ⟨_, rfl, m, Lo.down s (by omega), E⟩

/-- spec.l8Join -/
theorem Xr {w : World} {LL_a ag : Nat} {D : Value} {a : List Token} (l : Ls Token.cs 4 w LL_a ag D a) {LL_b ah : Nat} {F : Value} {b : List Token} (m : Ls Token.cs 4 w LL_b ah F b) (t : Token) (hb : a.length + b.length ≤ 4194304) :
 Ctr Try.prog 111 #[(.agg #[D]), (.agg #[F]), (.agg #[(.int .i64 t.kind), (.int .i64 t.letter), (.int .i64 t.low), (.int .i64 t.high)])] w (fun v w' => ∃ u, v = .agg #[u] ∧ Ol Token.cs 84 4 w' u (a ++ b ++ [t]) ∧ Lo w.heap.size u ∧ Ch [] w w') := by
 obtain ⟨G, H, I⟩ := l.val
 subst I
 have aA := l.len
 have l := l.here (by decide)
 obtain ⟨J, K, L⟩ := m.val
 subst L
 have aB := m.len
 have m := m.here (by decide)
 have E := Ch.refl [] w
 refine Yc (N := 24) (vs0 := [(.agg #[(.slice G a.length H)]), (.agg #[(.slice J b.length K)]), (.agg #[(.int .i64 t.kind), (.int .i64 t.letter), (.int .i64 t.low), (.int .i64 t.high)])]) Try.func111 rfl rfl rfl ?_
 refine Zg fun K1 H1 => ?_
 refine Zc (Zk rfl rfl ?_)
 refine Xz rfl fun aC W2 Y C2 a8 => ?_
 have a9 := C2.size
 have E := E.trans C2
 have ba := Y.lt
 replace Y : Blk W2 aC 44 [(.slice G a.length H)] := Y
 refine Zk rfl rfl ?_
 refine Xz rfl fun aD W3 Z C3 bb => ?_
 have bc := C3.size
 have E := E.trans C3
 have bd := Z.lt
 replace Z : Blk W3 aD 44 [(.slice J b.length K)] := Z
 refine Zk rfl rfl ?_
 refine Xz rfl fun aE W4 aa C4 be => ?_
 have bf := C4.size
 have E := E.trans C4
 have bg := aa.lt
 replace aa : Blk W4 aE 84 [(.int .i64 t.kind), (.int .i64 t.letter), (.int .i64 t.low), (.int .i64 t.high)] := aa
 refine Zk rfl rfl ?_
 refine Yp zr44 fun am W5 ab C5 bh => ?_
 have bi := C5.size
 have E := E.trans C5
 have bj := ab.lt
 replace ab : Blk W5 am 44 [(.slice none 0 0)] := ab
 refine Zf (Zb (H1 _ _ ?_))
 refine Zg fun K6 H6 => ?_
 refine Zc (Za rfl rfl (Zh fa44_0 rfl) ?_)
 have F7 := (((Y.ch0 C3).ch0 C4).ch0 C5)
 refine Za rfl rfl (Zm F7.at_ agg42 rfl rfl) (Zk rfl rfl ?_)
 have F8 := ((((l.ch0 C2).ch0 C3).ch0 C4).ch0 C5)
 refine Step.call (Zn (xs := [.tmp 9]) fk129 rfl) (Zkc F8 (by omega)) fun aF W9 p => ?_
 obtain ⟨aG, rfl, p, d, C9⟩ := p
 have bk := C9.size
 have E := E.trans C9
 obtain ⟨q, r, rfl, an, c⟩ := p.opn
 refine Zk rfl rfl ?_
 refine Yp zr44 fun ac aH ad y bm => ?_
 have aI := y.size
 have E := E.trans y
 have bn := ad.lt
 replace ad : Blk aH ac 44 [(.slice none 0 0)] := ad
 refine Zk rfl rfl ?_
 refine Zt (off := 0) 1 ad sz44 rfl (us := [(.slice q (a).length r)]) rfl rfl rfl rfl fun aJ f z => ?_
 have aK := z.size
 have E := E.step z (lS (by omega))
 replace f : Blk aJ ac 44 [(.slice q (a).length r)] := f
 refine Zf (Zb (H6 _ _ ?_))
 refine Zg fun bp aL => ?_
 refine Zc (Za rfl rfl (Zh fa44_0 rfl) (Za rfl rfl (Zm f.at_ agg42 rfl rfl) (Za rfl rfl (Zh fa44_0 rfl) ?_)))
 have aM := (((((Z.ch0 C4).ch0 C5).ch0 C9).ch0 y).ch z (nS (by omega)))
 refine Za rfl rfl (Zm aM.at_ agg42 rfl rfl) (Zk rfl rfl ?_)
 have aN := ((p.ch0 y).ch z (dS d c (by omega)))
 have aO := (((((((m.ch0 C2).ch0 C3).ch0 C4).ch0 C5).ch0 C9).ch0 y).ch z (oS (by omega)))
 refine Yd (cs := Token.cs) el42 sz84 by84 zr84 rfl (by decide) Token.one aN aO rfl rfl (by first | omega | (simp only [List.length_append, List.length_nil, List.length_cons, List.length_replicate, List.length_set, List.length_reverse, List.length_map] at *; omega) | (simp at *; omega)) (by first | omega | (simp only [List.length_append, List.length_nil, List.length_cons, List.length_replicate, List.length_set, List.length_reverse, List.length_map] at *; omega) | (simp at *; omega)) d (by omega) fun aP bq M s e O => ?_
 have aQ := O.size
 have E := E.step O (fun i hi => .inl (by have B := d _ hi; omega))
 obtain ⟨P, Q, rfl, ao, ai⟩ := M.opn
 refine Za rfl rfl (Zh fa44_0 rfl) (Zk rfl rfl ?_)
 have aR := (f.ch O (fun hm => by have B := d _ hm; have A := c _ hm; omega))
 refine Yv (off := 0) aR sz42 rfl rfl rfl rfl fun aS h R => ?_
 have aT := R.size
 have E := E.step R (lS (by omega))
 replace h : Blk aS ac 44 [(.slice P ((a ++ b)).length Q)] := h
 refine Zf (Zb (aL _ _ ?_))
 refine Zg fun br aU => ?_
 refine Zc (Za rfl rfl (Zh fa44_0 rfl) (Za rfl rfl (Zm h.at_ agg42 rfl rfl) ?_))
 have aV := ((((((aa.ch0 C5).ch0 C9).ch0 y).ch z (nS (by omega))).ch O (fun hm => by have B := d _ hm; have A := c _ hm; omega)).ch R (nS (by omega)))
 refine Za rfl rfl (Zw aV.at_ agg84 sz84 rfl) (Zk rfl rfl ?_)
 refine Zo (cs := Token.cs) (parts := [(0, .tmp 19)]) (⟨0, 0, 0, 0⟩ : Token) [t] el42 sz84 zr84 Token.len (by decide) rfl rfl rfl (by decide) (by decide) rfl fun aW bs S ap T => ?_
 have aX := T.size
 have E := E.trans T
 obtain ⟨aq, au, rfl, av, aj⟩ := S.opn
 refine Zk rfl rfl ?_
 have aY := ((M.ch R (fun g hg hm => by have aw := List.mem_singleton.1 hm; rcases e with ea | ea; (rw [ea] at hg; have A := d _ hg; have ax := c _ hg; omega); (rw [ea] at hg; have C := List.mem_singleton.1 hg; omega))).ch0 T)
 refine Yd (cs := Token.cs) el42 sz84 by84 zr84 rfl (by decide) Token.one aY S.ls rfl rfl (by first | omega | (simp only [List.length_append, List.length_nil, List.length_cons, List.length_replicate, List.length_set, List.length_reverse, List.length_map] at *; omega) | (simp at *; omega)) (by first | omega | (simp only [List.length_append, List.length_nil, List.length_cons, List.length_replicate, List.length_set, List.length_reverse, List.length_map] at *; omega) | (simp at *; omega)) s (by omega) fun aZ bu U V x ae => ?_
 have a0 := ae.size
 have E := E.step ae (fun i hi => .inl (by have B := s _ hi; omega))
 obtain ⟨j, k, rfl, ay, ak⟩ := U.opn
 refine Za rfl rfl (Zh fa44_0 rfl) (Zk rfl rfl ?_)
 have a1 := ((h.ch0 T).ch ae (fun hm => by rcases e with ea | ea; (rw [ea] at hm; have B := d _ hm; have A := c _ hm; omega); (rw [ea] at hm; have C := List.mem_singleton.1 hm; omega)))
 refine Yv (off := 0) a1 sz42 rfl rfl rfl rfl fun a2 n af => ?_
 have a3 := af.size
 have E := E.step af (lS (by omega))
 replace n : Blk a2 ac 44 [(.slice j (((a ++ b) ++ [t])).length k)] := n
 refine Zf (Zb (aU _ _ ?_))
 refine Zg fun bv a4 => ?_
 refine Zc (Za rfl rfl (Zw n.at_ agg44 sz44 rfl) (Zk rfl rfl ?_))
 have a5 := ((((((((ab.ch0 C9).ch0 y).ch z (nS (by omega))).ch O (fun hm => by have B := d _ hm; have A := c _ hm; omega)).ch R (nS (by omega))).ch0 T).ch ae (fun hm => by rcases e with ea | ea; (rw [ea] at hm; have B := d _ hm; have A := c _ hm; omega); (rw [ea] at hm; have C := List.mem_singleton.1 hm; omega))).ch af (nS (by omega)))
 refine Zt (off := 0) 1 a5 sz44 rfl (us := [(.slice j (((a ++ b) ++ [t])).length k)]) rfl rfl rfl rfl fun az o al => ?_
 have a6 := al.size
 have E := E.step al (lS (by omega))
 replace o : Blk az am 44 [(.slice j (((a ++ b) ++ [t])).length k)] := o
 refine Zf (Zb (a4 _ _ ?_))
 refine Zr ?_
 have a7 := ((U.ch af (fun g hg hm => by have aw := List.mem_singleton.1 hm; rcases x with ea | ea; (rw [ea] at hg; rcases e with ea | ea; (rw [ea] at hg; have A := d _ hg; have ax := c _ hg; omega); (rw [ea] at hg; have C := List.mem_singleton.1 hg; omega)); (rw [ea] at hg; have C := List.mem_singleton.1 hg; omega))).ch al (fun g hg hm => by have aw := List.mem_singleton.1 hm; rcases x with ea | ea; (rw [ea] at hg; rcases e with ea | ea; (rw [ea] at hg; have A := d _ hg; have ax := c _ hg; omega); (rw [ea] at hg; have C := List.mem_singleton.1 hg; omega)); (rw [ea] at hg; have C := List.mem_singleton.1 hg; omega)))
 have X : Ol Token.cs 84 4 az (.slice j (((a ++ b) ++ [t])).length k) (a ++ b ++ [t]) := by
  have hx := a7
  first | exact hx | simpa using hx
 exact Zi [_] (Zu o rfl agg44 sz44 trivial) ⟨_, rfl, X, Lo.down V (by omega), E⟩

/-- spec.l8Leaf -/
theorem Zcv {w : World} (kind : Int) :
 Ctr Try.prog 130 #[(.int .i64 kind)] w (fun v w' => ∃ u, v = .agg #[u] ∧ Ol Token.cs 84 4 w' u ([(⟨kind, 0, 0, 0⟩ : Token)]) ∧ Lo w.heap.size u ∧ Ch [] w w') := by
 have E := Ch.refl [] w
 refine Yc (N := 7) (vs0 := [(.int .i64 kind)]) Try.func130 rfl rfl rfl ?_
 refine Zg fun K1 H1 => ?_
 refine Zc (Zk rfl rfl ?_)
 refine Yp zr44 fun h W2 f C2 k => ?_
 have l := C2.size
 have E := E.trans C2
 have m := f.lt
 replace f : Blk W2 h 44 [(.slice none 0 0)] := f
 refine Zf (Zb (H1 _ _ ?_))
 refine Zg fun K3 H3 => ?_
 refine Zc (Za rfl rfl (Ze rfl) (Za rfl rfl (Yr (parts := [(0, .tmp 3)]) (cells := [(.int .i64 kind), (.int .i64 0), (.int .i64 0), (.int .i64 0)]) zr84 pl84 rfl rfl) (Zk rfl rfl ?_)))
 refine Zo (cs := Token.cs) (parts := [(0, .tmp 4)]) (⟨0, 0, 0, 0⟩ : Token) [(⟨kind, 0, 0, 0⟩ : Token)] el42 sz84 zr84 Token.len (by decide) rfl rfl rfl (by decide) (by decide) rfl fun n W4 i d C4 => ?_
 have o := C4.size
 have E := E.trans C4
 obtain ⟨a, b, rfl, j, e⟩ := i.opn
 refine Za rfl rfl (Yr (parts := [(0, .tmp 5)]) (cells := [(.slice a ([(⟨kind, 0, 0, 0⟩ : Token)]).length b)]) zr44 pl44 rfl rfl) (Zk rfl rfl ?_)
 have F5 := (f.ch0 C4)
 refine Zt (off := 0) 1 F5 sz44 rfl (us := [(.slice a ([(⟨kind, 0, 0, 0⟩ : Token)]).length b)]) rfl rfl rfl rfl fun W6 c C6 => ?_
 have p := C6.size
 have E := E.step C6 (lS (by omega))
 replace c : Blk W6 h 44 [(.slice a ([(⟨kind, 0, 0, 0⟩ : Token)]).length b)] := c
 refine Zf (Zb (H3 _ _ ?_))
 refine Zr ?_
 have F9 := (i.ch C6 (dS d e (by omega)))
 have g : Ol Token.cs 84 4 W6 (.slice a ([(⟨kind, 0, 0, 0⟩ : Token)]).length b) ([(⟨kind, 0, 0, 0⟩ : Token)]) := by
  have hx := F9
  first | exact hx | simpa using hx
 exact Zi [_] (Zu c rfl agg44 sz44 trivial) ⟨_, rfl, g, Lo.down d (by omega), E⟩

/-- spec.l10Times -/
theorem Zfi : ∀ (n : Nat) {w : World} {LL_e av : Nat} {aj : Value} {e : List Token} (q : Ls Token.cs 4 w LL_e av aj e) (low : Int) (high : Int) (x : Tr) (he : e = x.flat) (hx : x.sz ≤ 5000) (ao : 0 ≤ low) (hh : 0 ≤ high) (bD : high ≤ 3) (bF : low ≤ 3) (hsz : high.toNat < n),
 Ctr Try.prog 112 #[(.agg #[aj]), (.int .i64 low), (.int .i64 high)] w (fun v w' => ∃ u, v = .agg #[u] ∧ Ol Token.cs 84 4 w' u ((timT x low (high).toNat).flat) ∧ Lo w.heap.size u ∧ Ch [] w w') := by
 intro n
 induction n with
 | zero => intros; omega
 | succ n ih =>
 intro w LL_e av aj e q low high x he hx ao hh bD bF hsz
 obtain ⟨aw, ax, ay⟩ := q.val
 subst ay
 have bG := q.len
 have q := q.here (by decide)
 have E := Ch.refl [] w
 have xl := x.flat_len; rw [← he] at xl
 refine Yc (N := 28) (vs0 := [(.agg #[(.slice aw e.length ax)]), (.int .i64 low), (.int .i64 high)]) Try.func112 rfl rfl rfl ?_
 refine Zg fun K1 H1 => ?_
 refine Zc (Zk rfl rfl ?_)
 refine Xz rfl fun bH W2 aY C2 cD => ?_
 have cE := C2.size
 have E := E.trans C2
 have cF := aY.lt
 replace aY : Blk W2 bH 44 [(.slice aw e.length ax)] := aY
 refine Zk rfl rfl ?_
 refine Yp zr44 fun Q W3 ap C3 cG => ?_
 have cH := C3.size
 have E := E.trans C3
 have cI := ap.lt
 replace ap : Blk W3 Q 44 [(.slice none 0 0)] := ap
 refine Zf (Zb (H1 _ _ ?_))
 refine Zg fun K4 H4 => ?_
 refine Zg fun K5 H5 => ?_
 refine Zc (Za rfl rfl (Ze rfl) (Za rfl rfl (Xj rfl rfl) (Zf (Zb (H5 _ _ ?_)))))
 refine Zp rfl (fun t => ?_) (fun t => ?_)
 ·have bI := t
  have t := Yf t
  refine Zg fun K7 H7 => ?_
  refine Zc (Zk rfl rfl ?_)
  refine Step.call (Zn (xs := [.const (Go.Value.int Go.IntKind.i64 2)]) fk130 rfl) (Zcv _ ) fun bJ W8 R => ?_
  obtain ⟨bK, rfl, R, U, C8⟩ := R
  have cJ := C8.size
  have E := E.trans C8
  obtain ⟨y, z, rfl, bc, ak⟩ := R.opn
  refine Zk rfl rfl ?_
  have F9 := (ap.ch0 C8)
  refine Zt (off := 0) 1 F9 sz44 rfl (us := [(.slice y ([(⟨2, 0, 0, 0⟩ : Token)]).length z)]) rfl rfl rfl rfl fun bd A a3 => ?_
  have bL := a3.size
  have E := E.step a3 (lS (by omega))
  replace A : Blk bd Q 44 [(.slice y ([(⟨2, 0, 0, 0⟩ : Token)]).length z)] := A
  refine Zf (Zb (H7 _ _ ?_))
  refine Zr (Zl ?_)
  have bM := (R.ch a3 (dS U ak (by omega)))
  have az : Ol Token.cs 84 4 bd (.slice y ([(⟨2, 0, 0, 0⟩ : Token)]).length z) ((timT x low (high).toNat).flat) := by
   have hx := bM
   exact hx.eq (by first | (rw [← tim0 (x := x) (low := low) (by omega)]; rfl) | (rw [← timp (x := x) (low := low) (by omega) (by omega) (by omega), he]; rfl) | (rw [← timn (x := x) (low := low) (by omega) (by omega) (by omega), he]; rfl))
  exact Zi [_] (Zu A rfl agg44 sz44 trivial) ⟨_, rfl, az, Lo.down U (by omega), E⟩
 have bI := t
 have t := Ye t
 refine Zq ?_
 refine Zb (H4 _ _ ?_)
 refine Zg fun bN bO => ?_
 have B : ∀ (lj : KL) (h : World) (aA : Nat) (o : Value), Go.KLib.Sub [(1, (.int .i64 low)), (6, (.pointer (some ⟨Q, 0, none⟩))), (7, (.pointer (some ⟨aA, 0, none⟩)))] lj → Ch [] W3 h → Ol Token.cs 84 4 h o (e ++ ((timT x (if (low - 1) > 0 then (low - 1) else 0) ((high - 1)).toNat).flat) ++ [(⟨4, 0, 0, 0⟩ : Token)]) → Lo W3.heap.size o → Blk h aA 44 [o] → W3.heap.size ≤ aA → aA ∉ bl o → bN lj h := by
  intro lj h aA o aB g k p C be V
  refine bO _ _ (Znz aB ?_)
  have aC := g.size
  have E := E.trans g
  obtain ⟨l, m, rfl, aZ, D⟩ := k.opn
  have bf := C.lt
  refine Zg fun cK bP => ?_
  refine Zg fun cL bQ => ?_
  refine Zc (Za rfl rfl (Ze rfl) (Za rfl rfl (Zeh rfl rfl) (Zf (Zb (bQ _ _ ?_)))))
  refine Zp rfl (fun r => ?_) (fun r => ?_)
  ·have a4 := r
   have r := Yf r
   refine Zg fun cM bR => ?_
   refine Zc (Za rfl rfl (Zw C.at_ agg44 sz44 rfl) (Zk rfl rfl ?_))
   have bS := (ap.ch0 g)
   refine Zt (off := 0) 1 bS sz44 rfl (us := [(.slice l (e ++ ((timT x (if (low - 1) > 0 then (low - 1) else 0) ((high - 1)).toNat).flat) ++ [(⟨4, 0, 0, 0⟩ : Token)]).length m)]) rfl rfl rfl rfl fun bg F a5 => ?_
   have bT := a5.size
   have E := E.step a5 (lS (by omega))
   replace F : Blk bg Q 44 [(.slice l (e ++ ((timT x (if (low - 1) > 0 then (low - 1) else 0) ((high - 1)).toNat).flat) ++ [(⟨4, 0, 0, 0⟩ : Token)]).length m)] := F
   refine Zf (Zb (bR _ _ ?_))
   refine Zr (Zl ?_)
   have bU := (k.ch a5 (dS p D (by omega)))
   have aD : Ol Token.cs 84 4 bg (.slice l (e ++ ((timT x (if (low - 1) > 0 then (low - 1) else 0) ((high - 1)).toNat).flat) ++ [(⟨4, 0, 0, 0⟩ : Token)]).length m) ((timT x low (high).toNat).flat) := by
    have hx := bU
    exact hx.eq (by first | (rw [← tim0 (x := x) (low := low) (by omega)]; rfl) | (rw [← timp (x := x) (low := low) (by omega) (by omega) (by omega), he]; rfl) | (rw [← timn (x := x) (low := low) (by omega) (by omega) (by omega), he]; rfl))
   exact Zi [_] (Zu F rfl agg44 sz44 trivial) ⟨_, rfl, aD, Lo.down p (by omega), E⟩
  have a4 := r
  have r := Ye r
  refine Zq ?_
  refine Zb (bP _ _ ?_)
  refine Zg fun cN bV => ?_
  refine Xg [Q] 5 mixed rfl fun a6 aE => ?_
  have bW := aE.size
  have E := E.trans aE
  have bX := (C.ch0 aE)
  refine dT 0 rfl rfl rfl (Yx bX.at_ (oS (by omega)) agg44 sz44 rfl ?_)
  refine dV 2 rfl rfl rfl (fun _ => Yr (parts := [(0, .const (Go.Value.int Go.IntKind.i64 5))]) (cells := [(.int .i64 5), (.int .i64 0), (.int .i64 0), (.int .i64 0)]) zr84 pl84 rfl rfl) (dO 1 (Yl rfl rfl rfl ?_))
  refine Step.call (Zn (xs := [.const (Go.Value.int Go.IntKind.i64 2)]) fk130 rfl) (Zcv _ ) fun bY bZ S => ?_
  obtain ⟨b0, rfl, S, bh, aF⟩ := S
  have b1 := aF.size
  have E := E.trans aF
  obtain ⟨bi, bj, rfl, bk, a7⟩ := S.opn
  have X : Ch [Q] a6 bZ := ((Ch.refl _ _).trans aF.of_nil)
  refine ⟨X, ?_⟩
  refine dO 3 (Yl rfl rfl rfl ?_)
  have b2 := ((k.ch0 aE).ch0 aF)
  refine Step.call (Zn (xs := [.tmp 24, .tmp 25, .tmp 26]) fk111 rfl) (Xr b2.ls S.ls ⟨5, 0, 0, 0⟩ (by have t := Ziy (x := x) (n := high - 1) (if low - 1 > 0 then low - 1 else 0) hx (by omega); simp only [List.length_append, List.length_singleton, Tr.flat_len]; omega)) fun b3 b4 T => ?_
  obtain ⟨b5, rfl, T, Y, a0⟩ := T
  have b6 := a0.size
  have E := E.trans a0
  obtain ⟨G, H, rfl, bm, al⟩ := T.opn
  have Z : Ch [Q] a6 b4 := (X.trans a0.of_nil)
  refine ⟨Z, ?_⟩
  refine dO 4 (Yl rfl rfl rfl ?_)
  have b7 := ((((ap.ch0 g).ch0 aE).ch0 aF).ch0 a0)
  refine Zt (off := 0) 1 b7 sz44 rfl (us := [(.slice G ((e ++ ((timT x (if (low - 1) > 0 then (low - 1) else 0) ((high - 1)).toNat).flat) ++ [(⟨4, 0, 0, 0⟩ : Token)]) ++ ([(⟨2, 0, 0, 0⟩ : Token)]) ++ [(⟨5, 0, 0, 0⟩ : Token)]).length H)]) rfl rfl rfl rfl fun a8 I a1 => ?_
  have b8 := a1.size
  have E := E.step a1 (lS (by omega))
  replace I : Blk a8 Q 44 [(.slice G ((e ++ ((timT x (if (low - 1) > 0 then (low - 1) else 0) ((high - 1)).toNat).flat) ++ [(⟨4, 0, 0, 0⟩ : Token)]) ++ ([(⟨2, 0, 0, 0⟩ : Token)]) ++ [(⟨5, 0, 0, 0⟩ : Token)]).length H)] := I
  have aG : Ch [Q] a6 a8 := (Z.step a1 (fun i hm => by have ao := List.mem_singleton.1 hm; exact .inr (by rw [ao]; exact (List.mem_singleton.2 rfl))))
  refine ⟨aG, ?_⟩
  refine Yq (by kernel_rfl) ?_
  refine Zb (bV _ _ ?_)
  refine Zr ?_
  have b9 := (T.ch a1 (dS Y al (by omega)))
  have aH : Ol Token.cs 84 4 a8 (.slice G ((e ++ ((timT x (if (low - 1) > 0 then (low - 1) else 0) ((high - 1)).toNat).flat) ++ [(⟨4, 0, 0, 0⟩ : Token)]) ++ ([(⟨2, 0, 0, 0⟩ : Token)]) ++ [(⟨5, 0, 0, 0⟩ : Token)]).length H) ((timT x low (high).toNat).flat) := by
   have hx := b9
   exact hx.eq (by first | (rw [← tim0 (x := x) (low := low) (by omega)]; rfl) | (rw [← timp (x := x) (low := low) (by omega) (by omega) (by omega), he]; rfl) | (rw [← timn (x := x) (low := low) (by omega) (by omega) (by omega), he]; rfl))
  exact Zi [_] (Zu I rfl agg44 sz44 trivial) ⟨_, rfl, aH, Lo.down Y (by omega), E⟩
 refine Xg [] 12 mixed rfl fun J aa => ?_
 have ca := aa.size
 have E := E.trans aa
 have bn := ((aY.ch0 C3).ch0 aa)
 refine dT 0 rfl rfl rfl (Yx bn.at_ (fun i hi => absurd hi List.not_mem_nil) agg44 sz44 rfl ?_)
 refine dT 1 rfl rfl rfl (Yx bn.at_ (fun i hi => absurd hi List.not_mem_nil) agg44 sz44 rfl ?_)
 refine dV 2 rfl rfl rfl (fun _ => Ze rfl) (dV 3 rfl rfl rfl (fun _ => Zay (by omega) rfl rfl) (dV 4 rfl rfl rfl (fun _ => Zvo rfl rfl) (dV 5 rfl rfl rfl (fun _ => Ze rfl) (dV 6 rfl rfl rfl (fun _ => Zay (by omega) rfl rfl) (dV 8 rfl rfl rfl (fun _ => Yr (parts := [(0, .const (Go.Value.int Go.IntKind.i64 4))]) (cells := [(.int .i64 4), (.int .i64 0), (.int .i64 0), (.int .i64 0)]) zr84 pl84 rfl rfl) ?_)))))
 refine Zas 7 10 (by kernel_rfl) ?_ ?_
 ·refine Yl rfl rfl rfl ?_
  have a9 := (((q.ch0 C2).ch0 C3).ch0 aa)
  refine Step.call (Zn (xs := [.tmp 12, .tmp 15, .tmp 17]) fk112 rfl) (ih a9 _ _ x he hx (by split <;> omega) (by omega) (by omega) (by split <;> omega) (by omega)) fun ba cb j => ?_
  obtain ⟨bb, rfl, j, aI, am⟩ := j
  have cc := am.size
  have E := E.trans am
  obtain ⟨aJ, aK, rfl, aL, an⟩ := j.opn
  have K : Ch [] J cb := ((Ch.refl _ _).trans am)
  refine ⟨K, ?_⟩
  refine Zas 9 10 (by kernel_rfl) ?_ ?_
  ·refine Yl rfl rfl rfl ?_
   have cd := (a9.ch0 am)
   refine Step.call (Zn (xs := [.tmp 11, .tmp 18, .tmp 19]) fk111 rfl) (Xr cd j.ls ⟨4, 0, 0, 0⟩ (by have t := Ziy (x := x) (n := high - 1) (if low - 1 > 0 then low - 1 else 0) hx (by omega); rw [Tr.flat_len]; omega)) fun aM ce f => ?_
   obtain ⟨aN, rfl, f, a, a2⟩ := f
   have cf := a2.size
   have E := E.trans a2
   obtain ⟨b, c, rfl, ab, d⟩ := f.opn
   have ac : Ch [] J ce := (K.trans a2)
   refine ⟨ac, ?_⟩
   refine dO 10 (Yl rfl rfl rfl ?_)
   refine Yp zr44 fun L bp s aO bq => ?_
   have cg := aO.size
   have E := E.trans aO
   have br := s.lt
   replace s : Blk bp L 44 [(.slice none 0 0)] := s
   have ad : Ch [] J bp := (ac.trans aO)
   refine ⟨ad, ?_⟩
   refine dO 11 (Yl rfl rfl rfl ?_)
   refine Zt (off := 0) 1 s sz44 rfl (us := [(.slice b (e ++ ((timT x (if (low - 1) > 0 then (low - 1) else 0) ((high - 1)).toNat).flat) ++ [(⟨4, 0, 0, 0⟩ : Token)]).length c)]) rfl rfl rfl rfl fun bs M aP => ?_
   have ci := aP.size
   have E := E.step aP (lS (by omega))
   replace M : Blk bs L 44 [(.slice b (e ++ ((timT x (if (low - 1) > 0 then (low - 1) else 0) ((high - 1)).toNat).flat) ++ [(⟨4, 0, 0, 0⟩ : Token)]).length c)] := M
   have aQ : Ch [] J bs := (ad.step aP (fun i hm => by have ao := List.mem_singleton.1 hm; left; omega))
   refine ⟨aQ, ?_⟩
   refine Yq (by kernel_rfl) ?_
   refine Zb ?_
   have cj := ((f.ch0 aO).ch aP (dS a d (by omega)))
   exact B _ _ L (.slice b (e ++ ((timT x (if (low - 1) > 0 then (low - 1) else 0) ((high - 1)).toNat).flat) ++ [(⟨4, 0, 0, 0⟩ : Token)]).length c) (sC2 rfl rfl (sC1 rfl (Sub.nil _))) ((((((Ch.refl [] W3).trans aa).trans am).trans a2).trans aO).step aP (lS (by omega))) cj (Lo.down a (by omega)) M (by omega) (fun hm => by have bu := a _ hm; have bv := d _ hm; omega)
  refine Yl rfl rfl rfl ?_
  refine Yp zr44 fun L bw s aq bq => ?_
  have ck := aq.size
  have E := E.trans aq
  have br := s.lt
  replace s : Blk bw L 44 [(.slice none 0 0)] := s
  have ae : Ch [] J bw := (K.trans aq)
  refine ⟨ae, ?_⟩
  refine dO 9 (Yl rfl rfl rfl ?_)
  have cm := ((a9.ch0 am).ch0 aq)
  have cn := (j.ch0 aq)
  refine Step.call (Zn (xs := [.tmp 11, .tmp 18, .tmp 19]) fk111 rfl) (Xr cm cn.ls ⟨4, 0, 0, 0⟩ (by have t := Ziy (x := x) (n := high - 1) (if low - 1 > 0 then low - 1 else 0) hx (by omega); rw [Tr.flat_len]; omega)) fun aM co f => ?_
  obtain ⟨aN, rfl, f, a, aR⟩ := f
  have cp := aR.size
  have E := E.trans aR
  obtain ⟨b, c, rfl, ab, d⟩ := f.opn
  have af : Ch [] J co := (ae.trans aR)
  refine ⟨af, ?_⟩
  refine dO 11 (Yl rfl rfl rfl ?_)
  have cq := (s.ch0 aR)
  refine Zt (off := 0) 1 cq sz44 rfl (us := [(.slice b (e ++ ((timT x (if (low - 1) > 0 then (low - 1) else 0) ((high - 1)).toNat).flat) ++ [(⟨4, 0, 0, 0⟩ : Token)]).length c)]) rfl rfl rfl rfl fun bz O aS => ?_
  have cr := aS.size
  have E := E.step aS (lS (by omega))
  replace O : Blk bz L 44 [(.slice b (e ++ ((timT x (if (low - 1) > 0 then (low - 1) else 0) ((high - 1)).toNat).flat) ++ [(⟨4, 0, 0, 0⟩ : Token)]).length c)] := O
  have aT : Ch [] J bz := (af.step aS (fun i hm => by have ao := List.mem_singleton.1 hm; left; omega))
  refine ⟨aT, ?_⟩
  refine Yq (by kernel_rfl) ?_
  refine Zb ?_
  have ct := (f.ch aS (dS a d (by omega)))
  exact B _ _ L (.slice b (e ++ ((timT x (if (low - 1) > 0 then (low - 1) else 0) ((high - 1)).toNat).flat) ++ [(⟨4, 0, 0, 0⟩ : Token)]).length c) (sC2 rfl rfl (sC1 rfl (Sub.nil _))) ((((((Ch.refl [] W3).trans aa).trans am).trans aq).trans aR).step aS (lS (by omega))) ct (Lo.down a (by omega)) O (by omega) (fun hm => by have bu := a _ hm; have bv := d _ hm; omega)
 refine Yl rfl rfl rfl ?_
 refine Yp zr44 fun L bA s aU bq => ?_
 have cu := aU.size
 have E := E.trans aU
 have br := s.lt
 replace s : Blk bA L 44 [(.slice none 0 0)] := s
 have ag : Ch [] J bA := ((Ch.refl _ _).trans aU)
 refine ⟨ag, ?_⟩
 refine dO 7 (Yl rfl rfl rfl ?_)
 have bB := ((((q.ch0 C2).ch0 C3).ch0 aa).ch0 aU)
 refine Step.call (Zn (xs := [.tmp 12, .tmp 15, .tmp 17]) fk112 rfl) (ih bB _ _ x he hx (by split <;> omega) (by omega) (by omega) (by split <;> omega) (by omega)) fun ba cv j => ?_
 obtain ⟨bb, rfl, j, aI, au⟩ := j
 have cw := au.size
 have E := E.trans au
 obtain ⟨aJ, aK, rfl, aL, an⟩ := j.opn
 have ah : Ch [] J cv := (ag.trans au)
 refine ⟨ah, ?_⟩
 refine dO 9 (Yl rfl rfl rfl ?_)
 have cx := (bB.ch0 au)
 refine Step.call (Zn (xs := [.tmp 11, .tmp 18, .tmp 19]) fk111 rfl) (Xr cx j.ls ⟨4, 0, 0, 0⟩ (by have t := Ziy (x := x) (n := high - 1) (if low - 1 > 0 then low - 1 else 0) hx (by omega); rw [Tr.flat_len]; omega)) fun aM cy f => ?_
 obtain ⟨aN, rfl, f, a, aV⟩ := f
 have cz := aV.size
 have E := E.trans aV
 obtain ⟨b, c, rfl, ab, d⟩ := f.opn
 have ai : Ch [] J cy := (ah.trans aV)
 refine ⟨ai, ?_⟩
 refine dO 11 (Yl rfl rfl rfl ?_)
 have cA := ((s.ch0 au).ch0 aV)
 refine Zt (off := 0) 1 cA sz44 rfl (us := [(.slice b (e ++ ((timT x (if (low - 1) > 0 then (low - 1) else 0) ((high - 1)).toNat).flat) ++ [(⟨4, 0, 0, 0⟩ : Token)]).length c)]) rfl rfl rfl rfl fun bC P aW => ?_
 have cB := aW.size
 have E := E.step aW (lS (by omega))
 replace P : Blk bC L 44 [(.slice b (e ++ ((timT x (if (low - 1) > 0 then (low - 1) else 0) ((high - 1)).toNat).flat) ++ [(⟨4, 0, 0, 0⟩ : Token)]).length c)] := P
 have aX : Ch [] J bC := (ai.step aW (fun i hm => by have ao := List.mem_singleton.1 hm; left; omega))
 refine ⟨aX, ?_⟩
 refine Yq (by kernel_rfl) ?_
 refine Zb ?_
 have cC := (f.ch aW (dS a d (by omega)))
 exact B _ _ L (.slice b (e ++ ((timT x (if (low - 1) > 0 then (low - 1) else 0) ((high - 1)).toNat).flat) ++ [(⟨4, 0, 0, 0⟩ : Token)]).length c) (sC2 rfl rfl (sC1 rfl (Sub.nil _))) ((((((Ch.refl [] W3).trans aa).trans aU).trans au).trans aV).step aW (lS (by omega))) cC (Lo.down a (by omega)) P (by omega) (fun hm => by have bu := a _ hm; have bv := d _ hm; omega)
theorem Zhp {w : World} {LL_e b : Nat} {a : Value} {e : List Token} (c : Ls Token.cs 4 w LL_e b a e) (low : Int) (high : Int) (x : Tr) (he : e = x.flat) (hx : x.sz ≤ 5000) (d : 0 ≤ low) (hh : 0 ≤ high) (f : high ≤ 3) (g : low ≤ 3) :
 Ctr Try.prog 112 #[(.agg #[a]), (.int .i64 low), (.int .i64 high)] w (fun v w' => ∃ u, v = .agg #[u] ∧ Ol Token.cs 84 4 w' u ((timT x low (high).toNat).flat) ∧ Lo w.heap.size u ∧ Ch [] w w') := Zfi _ c low high x he hx d hh f g (Nat.lt_succ_self _)

/-- spec.l8Start -/
theorem Zad {w : World} {LL_l m : Nat} {d : Value} {l : List Token} (a : Ls Token.cs 4 w LL_l m d l) (p : List Token) (t : Tr) (hok : Okd t) (hl : l = p ++ t.flat) :
 Ctr Try.prog 106 #[d] w (fun v w' => v = .int .i64 (((p.length : Nat) : Int)) ∧ Ch [] w w') := by
 obtain ⟨e, f, g⟩ := a.val
 subst g
 have A := a.len
 have a := a.here (by decide)
 have E := Ch.refl [] w
 refine Yc (N := 20) (vs0 := [(.slice e l.length f)]) Try.func106 rfl rfl rfl ?_
 refine Zg fun K1 H1 => ?_
 refine Zc (Za rfl rfl (Zd rfl) (Zf (Zb (H1 _ _ ?_))))
 refine Zg fun K2 H2 => ?_
 refine Zc (Za rfl rfl (Zd rfl) (Zf (Zb (H2 _ _ ?_))))
 refine Zg fun K3 H3 => ?_
 refine Zc (Za rfl rfl (Ze rfl) (Za rfl rfl (Xa (by rw [el42]; rfl) rfl) (Za rfl rfl (Zd rfl) (Zf (Zb (H3 _ _ ?_))))))
 refine Zg fun K4 H4 => ?_
 refine Zx ?_
 refine Xf (σ := Int × Int × List Tr) (fun ⟨n, k, ts⟩ => [(0, (.slice e l.length f)), (2, (.int .i64 0)), (3, (.int .i64 n)), (4, (.int .i64 k))]) (fun ⟨n, k, ts⟩ wx => Ch [] w wx ∧ w.heap.size ≤ wx.heap.size ∧ (0 ≤ k) ∧ (k ≤ l.length) ∧ (n = ts.length) ∧ (l.take k.toNat = p ++ Zdd ts) ∧ (∀ x ∈ ts, Okd x)) (fun ⟨n, k, ts⟩ => k.toNat) (1, (l.length : Int), [t]) (sC4 rfl rfl rfl rfl (Sub.nil _)) ⟨E, (Nat.le_refl _), (by omega), (by omega), rfl, (by rw [show ((l.length : Int)).toNat = l.length from by omega, List.take_length, hl]; simp [Zdd]), (fun x hx => by rw [List.mem_singleton.1 hx]; exact hok)⟩ ?_
 rintro ⟨n, k, ts⟩ R5 ⟨E, B, o, s, hn, hp, ho⟩
 have h := E
 have u := h.size
 have s1 := Zhg hp o
 refine Zg fun K6 H6 => ?_
 refine Zg fun K7 H7 => ?_
 refine Zc (Za rfl rfl (Ze rfl) (Za rfl rfl (Zeh rfl rfl) (Zf (Zb (H7 _ _ ?_)))))
 refine Zp rfl (fun b => ?_) (fun b => ?_)
 ·have C := b
  have b := Yf b
  refine Zq ?_
  refine Zb (H6 _ _ ?_)
  refine Zx ?_
  refine Zg fun K9 H9 => ?_
  refine Zc (Za rfl rfl (Ze rfl) (Za rfl rfl (Zay (by omega) rfl rfl) (Za rfl rfl (Zd rfl) (Zf (Zb (H9 _ _ (Zc (Za rfl rfl (Ze rfl) ?_))))))))
  refine Za rfl rfl (Zay (by omega) rfl rfl) (Za rfl rfl (Ze rfl) (Za rfl rfl (Ze rfl) (Zk rfl rfl ?_)))
  have D := (a.ch0 h)
  refine (Yo (j := (k - 1).toNat) D Token.len el42 sz84 rfl rfl (by omega) (by omega) fun F c i q => ?_)
  refine Za rfl rfl (Zw q agg84 sz84 rfl) (Zk rfl rfl ?_)
  refine Step.call (Zn (xs := [.tmp 16]) fk113 rfl) (Zef c ) fun G L r => ?_
  obtain ⟨rfl, y⟩ := r
  have H := y.size
  have E := E.trans y
  have I := Zav c
  obtain ⟨s2, z, M, J⟩ := Znq hp ho (by omega) o s i
  have s3 := Zhg z (by omega)
  refine Za rfl rfl (Yk (by omega) rfl rfl) (Za rfl rfl (Zd rfl) (Zf (Zv ?_)))
  exact Zb (Exists.intro (((n - 1) + arT c), (k - 1), s2) ⟨⟨E, (by omega), (by omega), (by omega), (by omega), z, J⟩, sC4 rfl rfl rfl rfl (Sub.nil _), (by first | omega | (dsimp only; omega))⟩)
 have C := b
 have b := Ye b
 refine Xc (Zs (Zs (Yu ?_)))
 refine Zb (H4 _ _ ?_)
 refine Zg fun O K => ?_
 refine Zc (Za rfl rfl (Ze rfl) (Za rfl rfl (Zd rfl) (Zf (Zb (K _ _ ?_)))))
 refine Zr ?_
 exact Zi [_] ⟨rfl, trivial⟩ ⟨congrArg (Value.int .i64) (Zpm hp hn (by omega) o s), E⟩

/-- spec.l10Expand -/
theorem Zex : ∀ (n : Nat) {w : World} {LL_l az : Nat} {aj : Value} {l : List Token} (F : Ls Token.cs 4 w LL_l az aj l) (t : Tr) (hok : Okd t) (hl : l = t.flat) (hb : Qj t ≤ 5000) (hsz : l.length < n),
 Ctr Try.prog 73 #[aj] w (fun v w' => ∃ u, v = .agg #[u] ∧ Ol Token.cs 84 4 w' u ((Xs t).flat) ∧ Lo w.heap.size u ∧ Ch [] w w') := by
 intro n
 induction n with
 | zero => intros; omega
 | succ n ih =>
 intro w LL_l az aj l F t hok hl hb hsz
 obtain ⟨bu, bv, aA⟩ := F.val
 subst aA
 have cz := F.len
 have F := F.here (by decide)
 have E := Ch.refl [] w
 have cA := t.flat_pos; rw [← hl] at cA; have k2 := hok.len
 refine Yc (N := 56) (vs0 := [(.slice bu l.length bv)]) Try.func73 rfl rfl rfl ?_
 refine Zg fun K1 H1 => ?_
 refine Zc (Zk rfl rfl ?_)
 refine Yp zr44 fun e W2 U C2 dZ => ?_
 have d0 := C2.size
 have E := E.trans C2
 have d1 := U.lt
 replace U : Blk W2 e 44 [(.slice none 0 0)] := U
 refine Zf (Zb (H1 _ _ ?_))
 refine Zg fun K3 H3 => ?_
 refine Zc (Za rfl rfl (Ze rfl) (Za rfl rfl (Xa (by rw [el42]; rfl) rfl) (Za rfl rfl (Zay (by omega) rfl rfl) (Za rfl rfl (Zd rfl) (Zf (Zb (H3 _ _ ?_)))))))
 refine Zg fun K4 H4 => ?_
 refine Zc (Za rfl rfl (Ze rfl) (Za rfl rfl (Ze rfl) (Zk rfl rfl ?_)))
 have F5 := (F.ch0 C2)
 refine (Yo (j := (((l.length : Nat) : Int) - 1).toNat) F5 Token.len el42 sz84 rfl rfl (by omega) (by omega) fun cB a aB bw => ?_)
 have d := Zjo hl (by omega) aB
 have htk := congrArg Token.kind d
 have hte := congrArg Token.letter d
 have htl := congrArg Token.low d
 have hth := congrArg Token.high d
 refine Za rfl rfl (Zw bw agg84 sz84 rfl) (Zk rfl rfl ?_)
 refine Yp zr84 fun b9 W6 be C6 d2 => ?_
 have d3 := C6.size
 have E := E.trans C6
 have d4 := be.lt
 replace be : Blk W6 b9 84 [(.int .i64 0), (.int .i64 0), (.int .i64 0), (.int .i64 0)] := be
 refine Zk rfl rfl ?_
 refine Zt (off := 0) 4 be sz84 rfl (us := [(.int .i64 a.kind), (.int .i64 a.letter), (.int .i64 a.low), (.int .i64 a.high)]) rfl rfl rfl rfl fun W7 p C7 => ?_
 have d5 := C7.size
 have E := E.step C7 (lS (by omega))
 replace p : Blk W7 b9 84 [(.int .i64 a.kind), (.int .i64 a.letter), (.int .i64 a.low), (.int .i64 a.high)] := p
 refine Zf (Zb (H4 _ _ ?_))
 refine Zg fun K9 H9 => ?_
 refine Zg fun d6 cC => ?_
 refine Zc (Za rfl rfl (Zh fa84_0 rfl) (Za rfl rfl (Zm p.at_ agg3 rfl rfl) (Zf (Zb (cC _ _ ?_)))))
 refine Zx ?_
 refine Zg fun d7 ca => ?_
 refine Zg fun d8 cD => ?_
 refine Zc (Za rfl rfl (Xj rfl rfl) (Za rfl rfl (Zd rfl) (Zf (Zb (cD _ _ ?_)))))
 refine Zp rfl (fun c => ?_) (fun c => ?_)
 ·have aC := c
  have c := Yf c
  obtain ⟨ta, tb, et, oa, ob, hla, bz⟩ := hok.k2 (by omega) d hl
  have b : t.kids[0]? = some ta := by rw [et]; rfl
  have q : t.kids[1]? = some tb := by rw [et]; rfl
  have ga := ta.flat_len
  have gb := tb.flat_len
  have ba := Zfa hok hb b
  have ea := Zcb oa ba
  have fa := (Xs ta).flat_len
  have ra := Xw oa
  have bc := Zfa hok hb q
  have ec := Zcb ob bc
  have fc := (Xs tb).flat_len
  have rc := Xw ob
  refine Zq ?_
  refine Zb (ca _ _ ?_)
  refine Zcs rfl aC ?_
  refine Zg fun d9 cE => ?_
  refine Zc (Za rfl rfl (Ze rfl) (Za rfl rfl (Ze rfl) (Zk rfl rfl ?_)))
  have cb := ((F5.ch0 C6).ch C7 (oS (by omega)))
  refine (Zgg (ys := (ta.flat ++ tb.flat)) 0 ((((l.length : Nat) : Int) - 1).toNat) cb Token.len el42 sz84 rfl rfl ⟨_, _, rfl, by omega⟩ (by omega) (by omega) (show l.take _ = _ from Zij hla (by omega)) fun bA s aD aE => ?_)
  obtain ⟨bB, bC, ak⟩ := s.val
  subst ak
  have bD := s.len
  refine Zk rfl rfl ?_
  refine Step.call (Zn (xs := [.tmp 20]) fk106 rfl) (Zad s ta.flat tb ob rfl) fun bF eb al => ?_
  obtain ⟨rfl, aF⟩ := al
  have cF := aF.size
  have E := E.trans aF
  refine Za rfl rfl (Zd rfl) (Zf (Zb (cE _ _ ?_)))
  refine Zg fun ed cG => ?_
  refine Xg [e] 12 mixed rfl fun bf aG => ?_
  have cH := aG.size
  have E := E.trans aG
  refine dV 0 rfl rfl rfl (fun _ => Ze rfl) (dV 1 rfl rfl rfl (fun _ => Ze rfl) ?_)
  have cc := ((cb.ch0 aF).ch0 aG)
  refine dT 2 rfl rfl rfl (Zgv (ys := ta.flat) 0 ta.flat.length cc Token.len el42 sz84 rfl rfl ⟨_, _, rfl, by omega⟩ (by omega) (by omega) (show l.take _ = _ from Znm hla (by omega)) fun bG x aH aI => ?_)
  obtain ⟨bH, bI, am⟩ := x.val
  subst am
  have bJ := x.len
  refine dV 4 rfl rfl rfl (fun _ => Ze rfl) (dV 5 rfl rfl rfl (fun _ => Ze rfl) (dV 6 rfl rfl rfl (fun _ => Ze rfl) ?_))
  refine dT 7 rfl rfl rfl (Zgv (ys := tb.flat) ta.flat.length ((((l.length : Nat) : Int) - 1).toNat) cc Token.len el42 sz84 rfl ⟨_, _, rfl, by omega⟩ ⟨_, _, rfl, by omega⟩ (by omega) (by omega) (Zni hla (by omega) (by omega)) fun bK y aJ aK => ?_)
  obtain ⟨bL, bM, an⟩ := y.val
  subst an
  have bN := y.len
  have cI := ((p.ch0 aF).ch0 aG)
  refine dT 9 rfl rfl rfl (Yx cI.at_ (oS (by omega)) agg84 sz84 rfl ?_)
  refine dO 3 (Yl rfl rfl rfl ?_)
  refine Step.call (Zn (xs := [.tmp 24]) fk73 rfl) (ih x ta oa rfl ba (by omega)) fun bO cJ h => ?_
  obtain ⟨bP, rfl, h, aL, aM⟩ := h
  have cK := aM.size
  have E := E.trans aM
  obtain ⟨aN, aO, rfl, aP, ao⟩ := h.opn
  have V : Ch [e] bf cJ := ((Ch.refl _ _).trans aM.of_nil)
  refine ⟨V, ?_⟩
  refine dO 8 (Yl rfl rfl rfl ?_)
  have cL := (y.ch0 aM)
  refine Step.call (Zn (xs := [.tmp 29]) fk73 rfl) (ih cL tb ob rfl bc (by omega)) fun bQ cM m => ?_
  obtain ⟨bR, rfl, m, aQ, aR⟩ := m
  have cN := aR.size
  have E := E.trans aR
  obtain ⟨aS, aT, rfl, aU, ap⟩ := m.opn
  have X : Ch [e] bf cM := (V.trans aR.of_nil)
  refine ⟨X, ?_⟩
  refine dO 10 (Yl rfl rfl rfl ?_)
  have cO := (h.ch0 aR)
  refine Step.call (Zn (xs := [.tmp 25, .tmp 30, .tmp 31]) fk111 rfl) (Xr cO.ls m.ls a (by omega)) fun bS cP o => ?_
  obtain ⟨bT, rfl, o, r, bg⟩ := o
  have cQ := bg.size
  have E := E.trans bg
  obtain ⟨f, g, rfl, aV, z⟩ := o.opn
  have Y : Ch [e] bf cP := (X.trans bg.of_nil)
  refine ⟨Y, ?_⟩
  refine dO 11 (Yl rfl rfl rfl ?_)
  have cR := (((((((U.ch0 C6).ch C7 (nS (by omega))).ch0 aF).ch0 aG).ch0 aM).ch0 aR).ch0 bg)
  refine Zt (off := 0) 1 cR sz44 rfl (us := [(.slice f (((Xs ta).flat) ++ ((Xs tb).flat) ++ [a]).length g)]) rfl rfl rfl rfl fun bU G bh => ?_
  have cS := bh.size
  have E := E.step bh (lS (by omega))
  replace G : Blk bU e 44 [(.slice f (((Xs ta).flat) ++ ((Xs tb).flat) ++ [a]).length g)] := G
  have aW : Ch [e] bf bU := (Y.step bh (fun i hm => by have aq := List.mem_singleton.1 hm; exact .inr (by rw [aq]; exact (List.mem_singleton.2 rfl))))
  refine ⟨aW, ?_⟩
  refine Yq (by kernel_rfl) ?_
  refine Zb (cG _ _ ?_)
  refine Zr (Ya (Zl ?_))
  have cT := (o.ch bh (dS r z (by omega)))
  have aX : Ol Token.cs 84 4 bU (.slice f (((Xs ta).flat) ++ ((Xs tb).flat) ++ [a]).length g) ((Xs t).flat) := by
   have hx := cT
   exact hx.eq (by first | (rw [← exp2 hok (by omega) b q, d]; rfl) | (rw [← exp6 hok (by omega) b, d]; simp [Tr.flat]; done) | (rw [← exp7 hok (by omega) b, d]) | (rw [← exp0 hok (by omega), d]; rfl))
  exact Zi [_] (Zu G rfl agg44 sz44 trivial) ⟨_, rfl, aX, Lo.down r (by omega), E⟩
 have aC := c
 have c := Ye c
 refine Zc (Za rfl rfl (Xj rfl rfl) (Za rfl rfl (Zd rfl) (Zf (Zb (ca _ _ ?_)))))
 refine Zp rfl (fun c => ?_) (fun c => ?_)
 ·have bV := c
  have c := Yf c
  obtain ⟨ta, tb, et, oa, ob, hla, bz⟩ := hok.k2 (by omega) d hl
  have b : t.kids[0]? = some ta := by rw [et]; rfl
  have q : t.kids[1]? = some tb := by rw [et]; rfl
  have ga := ta.flat_len
  have gb := tb.flat_len
  have ba := Zfa hok hb b
  have ea := Zcb oa ba
  have fa := (Xs ta).flat_len
  have ra := Xw oa
  have bc := Zfa hok hb q
  have ec := Zcb ob bc
  have fc := (Xs tb).flat_len
  have rc := Xw ob
  refine Zg fun ee cU => ?_
  refine Zc (Za rfl rfl (Ze rfl) (Za rfl rfl (Ze rfl) (Zk rfl rfl ?_)))
  have cd := ((F5.ch0 C6).ch C7 (oS (by omega)))
  refine (Zgg (ys := (ta.flat ++ tb.flat)) 0 ((((l.length : Nat) : Int) - 1).toNat) cd Token.len el42 sz84 rfl rfl ⟨_, _, rfl, by omega⟩ (by omega) (by omega) (show l.take _ = _ from Zij hla (by omega)) fun bA s aD aE => ?_)
  obtain ⟨bB, bC, ak⟩ := s.val
  subst ak
  have bD := s.len
  refine Zk rfl rfl ?_
  refine Step.call (Zn (xs := [.tmp 20]) fk106 rfl) (Zad s ta.flat tb ob rfl) fun bF ef al => ?_
  obtain ⟨rfl, aY⟩ := al
  have cV := aY.size
  have E := E.trans aY
  refine Za rfl rfl (Zd rfl) (Zf (Zb (cU _ _ ?_)))
  refine Zg fun eg cW => ?_
  refine Xg [e] 12 mixed rfl fun bi aZ => ?_
  have cX := aZ.size
  have E := E.trans aZ
  refine dV 0 rfl rfl rfl (fun _ => Ze rfl) (dV 1 rfl rfl rfl (fun _ => Ze rfl) ?_)
  have ce := ((cd.ch0 aY).ch0 aZ)
  refine dT 2 rfl rfl rfl (Zgv (ys := ta.flat) 0 ta.flat.length ce Token.len el42 sz84 rfl rfl ⟨_, _, rfl, by omega⟩ (by omega) (by omega) (show l.take _ = _ from Znm hla (by omega)) fun bG x aH aI => ?_)
  obtain ⟨bH, bI, am⟩ := x.val
  subst am
  have bJ := x.len
  refine dV 4 rfl rfl rfl (fun _ => Ze rfl) (dV 5 rfl rfl rfl (fun _ => Ze rfl) (dV 6 rfl rfl rfl (fun _ => Ze rfl) ?_))
  refine dT 7 rfl rfl rfl (Zgv (ys := tb.flat) ta.flat.length ((((l.length : Nat) : Int) - 1).toNat) ce Token.len el42 sz84 rfl ⟨_, _, rfl, by omega⟩ ⟨_, _, rfl, by omega⟩ (by omega) (by omega) (Zni hla (by omega) (by omega)) fun bK y aJ aK => ?_)
  obtain ⟨bL, bM, an⟩ := y.val
  subst an
  have bN := y.len
  have cY := ((p.ch0 aY).ch0 aZ)
  refine dT 9 rfl rfl rfl (Yx cY.at_ (oS (by omega)) agg84 sz84 rfl ?_)
  refine dO 3 (Yl rfl rfl rfl ?_)
  refine Step.call (Zn (xs := [.tmp 24]) fk73 rfl) (ih x ta oa rfl ba (by omega)) fun bO cZ h => ?_
  obtain ⟨bP, rfl, h, aL, a0⟩ := h
  have c0 := a0.size
  have E := E.trans a0
  obtain ⟨aN, aO, rfl, aP, ao⟩ := h.opn
  have Z : Ch [e] bi cZ := ((Ch.refl _ _).trans a0.of_nil)
  refine ⟨Z, ?_⟩
  refine dO 8 (Yl rfl rfl rfl ?_)
  have c1 := (y.ch0 a0)
  refine Step.call (Zn (xs := [.tmp 29]) fk73 rfl) (ih c1 tb ob rfl bc (by omega)) fun bQ c2 m => ?_
  obtain ⟨bR, rfl, m, aQ, a1⟩ := m
  have c3 := a1.size
  have E := E.trans a1
  obtain ⟨aS, aT, rfl, aU, ap⟩ := m.opn
  have aa : Ch [e] bi c2 := (Z.trans a1.of_nil)
  refine ⟨aa, ?_⟩
  refine dO 10 (Yl rfl rfl rfl ?_)
  have c4 := (h.ch0 a1)
  refine Step.call (Zn (xs := [.tmp 25, .tmp 30, .tmp 31]) fk111 rfl) (Xr c4.ls m.ls a (by omega)) fun bS c5 o => ?_
  obtain ⟨bT, rfl, o, r, bj⟩ := o
  have c6 := bj.size
  have E := E.trans bj
  obtain ⟨f, g, rfl, aV, z⟩ := o.opn
  have ab : Ch [e] bi c5 := (aa.trans bj.of_nil)
  refine ⟨ab, ?_⟩
  refine dO 11 (Yl rfl rfl rfl ?_)
  have c7 := (((((((U.ch0 C6).ch C7 (nS (by omega))).ch0 aY).ch0 aZ).ch0 a0).ch0 a1).ch0 bj)
  refine Zt (off := 0) 1 c7 sz44 rfl (us := [(.slice f (((Xs ta).flat) ++ ((Xs tb).flat) ++ [a]).length g)]) rfl rfl rfl rfl fun bW H bk => ?_
  have c8 := bk.size
  have E := E.step bk (lS (by omega))
  replace H : Blk bW e 44 [(.slice f (((Xs ta).flat) ++ ((Xs tb).flat) ++ [a]).length g)] := H
  have a2 : Ch [e] bi bW := (ab.step bk (fun i hm => by have aq := List.mem_singleton.1 hm; exact .inr (by rw [aq]; exact (List.mem_singleton.2 rfl))))
  refine ⟨a2, ?_⟩
  refine Yq (by kernel_rfl) ?_
  refine Zb (cW _ _ ?_)
  refine Zr (Ya (Zl ?_))
  have c9 := (o.ch bk (dS r z (by omega)))
  have a3 : Ol Token.cs 84 4 bW (.slice f (((Xs ta).flat) ++ ((Xs tb).flat) ++ [a]).length g) ((Xs t).flat) := by
   have hx := c9
   exact hx.eq (by first | (rw [← exp2 hok (by omega) b q, d]; rfl) | (rw [← exp6 hok (by omega) b, d]; simp [Tr.flat]; done) | (rw [← exp7 hok (by omega) b, d]) | (rw [← exp0 hok (by omega), d]; rfl))
  exact Zi [_] (Zu H rfl agg44 sz44 trivial) ⟨_, rfl, a3, Lo.down r (by omega), E⟩
 have bV := c
 have c := Ye c
 refine Zg fun eh da => ?_
 refine Zc (Za rfl rfl (Xj rfl rfl) (Za rfl rfl (Zd rfl) (Zf (Zb (da _ _ ?_)))))
 refine Zp rfl (fun A => ?_) (fun A => ?_)
 ·have bX := A
  have A := Yf A
  obtain ⟨ta, et, oa, hla, bz⟩ := hok.k1 (by omega) d hl
  have b : t.kids[0]? = some ta := by rw [et]; rfl
  have ga := ta.flat_len
  have ba := Zfa hok hb b
  have ea := Zcb oa ba
  have fa := (Xs ta).flat_len
  have ra := Xw oa
  refine Zg fun ei db => ?_
  refine Xg [e] 8 mixed rfl fun bY a4 => ?_
  have dc := a4.size
  have E := E.trans a4
  refine dV 0 rfl rfl rfl (fun _ => Ze rfl) (dV 1 rfl rfl rfl (fun _ => Ze rfl) ?_)
  have dd := (((F5.ch0 C6).ch C7 (oS (by omega))).ch0 a4)
  refine dT 2 rfl rfl rfl (Zgv (ys := ta.flat) 0 ((((l.length : Nat) : Int) - 1).toNat) dd Token.len el42 sz84 rfl rfl ⟨_, _, rfl, by omega⟩ (by omega) (by omega) (show l.take _ = _ from Zny hla (by omega)) fun de au cf cg => ?_)
  obtain ⟨df, dg, bZ⟩ := au.val
  subst bZ
  have dh := au.len
  refine dV 4 rfl rfl rfl (fun _ => Yr (parts := []) (cells := [(.slice none 0 0)]) zr44 pl44 rfl rfl) ?_
  have di := (p.ch0 a4)
  refine dT 5 rfl rfl rfl (Yx di.at_ (oS (by omega)) agg84 sz84 rfl ?_)
  refine dO 3 (Yl rfl rfl rfl ?_)
  refine Step.call (Zn (xs := [.tmp 37]) fk73 rfl) (ih au ta oa rfl ba (by omega)) fun dj dk Q => ?_
  obtain ⟨dl, rfl, Q, ci, bm⟩ := Q
  have dm := bm.size
  have E := E.trans bm
  obtain ⟨cj, ck, rfl, cm, b0⟩ := Q.opn
  have ac : Ch [e] bY dk := ((Ch.refl _ _).trans bm.of_nil)
  refine ⟨ac, ?_⟩
  refine dO 6 (Yl rfl rfl rfl ?_)
  refine Step.call (Zn (xs := [.tmp 38, .tmp 39, .tmp 40]) fk111 rfl) (Xr Q.ls (Ls.nil (cs := Token.cs) (k := 4) _ 0 0) a (by simp only [List.length_nil]; omega)) fun dn dp R => ?_
  obtain ⟨dq, rfl, R, ad, bn⟩ := R
  have dr := bn.size
  have E := E.trans bn
  obtain ⟨I, J, rfl, cn, av⟩ := R.opn
  have ae : Ch [e] bY dp := (ac.trans bn.of_nil)
  refine ⟨ae, ?_⟩
  refine dO 7 (Yl rfl rfl rfl ?_)
  have ds := (((((U.ch0 C6).ch C7 (nS (by omega))).ch0 a4).ch0 bm).ch0 bn)
  refine Zt (off := 0) 1 ds sz44 rfl (us := [(.slice I (((Xs ta).flat) ++ [] ++ [a]).length J)]) rfl rfl rfl rfl fun b1 K bp => ?_
  have dt := bp.size
  have E := E.step bp (lS (by omega))
  replace K : Blk b1 e 44 [(.slice I (((Xs ta).flat) ++ [] ++ [a]).length J)] := K
  have a5 : Ch [e] bY b1 := (ae.step bp (fun i hm => by have aq := List.mem_singleton.1 hm; exact .inr (by rw [aq]; exact (List.mem_singleton.2 rfl))))
  refine ⟨a5, ?_⟩
  refine Yq (by kernel_rfl) ?_
  refine Zb (db _ _ ?_)
  refine Zr (Ya (Zl ?_))
  have du := (R.ch bp (dS ad av (by omega)))
  have a6 : Ol Token.cs 84 4 b1 (.slice I (((Xs ta).flat) ++ [] ++ [a]).length J) ((Xs t).flat) := by
   have hx := du
   exact hx.eq (by first | (rw [← exp2 hok (by omega) b q, d]; rfl) | (rw [← exp6 hok (by omega) b, d]; simp [Tr.flat]; done) | (rw [← exp7 hok (by omega) b, d]) | (rw [← exp0 hok (by omega), d]; rfl))
  exact Zi [_] (Zu K rfl agg44 sz44 trivial) ⟨_, rfl, a6, Lo.down ad (by omega), E⟩
 have bX := A
 have A := Ye A
 refine Zg fun ej dv => ?_
 refine Zc (Za rfl rfl (Xj rfl rfl) (Za rfl rfl (Zd rfl) (Zf (Zb (dv _ _ ?_)))))
 refine Zp rfl (fun B => ?_) (fun B => ?_)
 ·have b2 := B
  have B := Yf B
  obtain ⟨ta, et, oa, hla, bz⟩ := hok.k1 (by omega) d hl
  have b : t.kids[0]? = some ta := by rw [et]; rfl
  have ga := ta.flat_len
  have ba := Zfa hok hb b
  have ea := Zcb oa ba
  have fa := (Xs ta).flat_len
  have ra := Xw oa
  have r7 := hok.r7 (by omega)
  refine Zg fun ek dw => ?_
  refine Xg [e] 10 mixed rfl fun b3 a7 => ?_
  have dx := a7.size
  have E := E.trans a7
  refine dV 0 rfl rfl rfl (fun _ => Ze rfl) (dV 1 rfl rfl rfl (fun _ => Ze rfl) ?_)
  have dy := (((F5.ch0 C6).ch C7 (oS (by omega))).ch0 a7)
  refine dT 2 rfl rfl rfl (Zgv (ys := ta.flat) 0 ((((l.length : Nat) : Int) - 1).toNat) dy Token.len el42 sz84 rfl rfl ⟨_, _, rfl, by omega⟩ (by omega) (by omega) (show l.take _ = _ from Zny hla (by omega)) fun dz aw co cp => ?_)
  obtain ⟨dA, dB, b4⟩ := aw.val
  subst b4
  have dC := aw.len
  refine dV 4 rfl rfl rfl (fun _ => Zh fa84_2 rfl) ?_
  have cq := (p.ch0 a7)
  refine dT 5 rfl rfl rfl (Yw cq.at_ (oS (by omega)) agg3 rfl rfl ?_)
  refine dV 6 rfl rfl rfl (fun _ => Zh fa84_3 rfl) ?_
  refine dT 7 rfl rfl rfl (Yw cq.at_ (oS (by omega)) agg3 rfl rfl ?_)
  refine dO 3 (Yl rfl rfl rfl ?_)
  refine Step.call (Zn (xs := [.tmp 46]) fk73 rfl) (ih aw ta oa rfl ba (by omega)) fun dD dE S => ?_
  obtain ⟨dF, rfl, S, cr, bq⟩ := S
  have dG := bq.size
  have E := E.trans bq
  obtain ⟨ct, cu, rfl, cv, b5⟩ := S.opn
  have af : Ch [e] b3 dE := ((Ch.refl _ _).trans bq.of_nil)
  refine ⟨af, ?_⟩
  refine dO 8 (Yl rfl rfl rfl ?_)
  refine Step.call (Zn (xs := [.tmp 47, .tmp 49, .tmp 51]) fk112 rfl) (Zhp S.ls _ _ (Xs ta) rfl (by omega) (by omega) (by omega) (by omega) (by omega)) fun dH dI T => ?_
  obtain ⟨dJ, rfl, T, ag, br⟩ := T
  have dL := br.size
  have E := E.trans br
  obtain ⟨L, M, rfl, cw, ax⟩ := T.opn
  have ah : Ch [e] b3 dI := (af.trans br.of_nil)
  refine ⟨ah, ?_⟩
  refine dO 9 (Yl rfl rfl rfl ?_)
  have dM := (((((U.ch0 C6).ch C7 (nS (by omega))).ch0 a7).ch0 bq).ch0 br)
  refine Zt (off := 0) 1 dM sz44 rfl (us := [(.slice L ((timT (Xs ta) a.low (a.high).toNat).flat).length M)]) rfl rfl rfl rfl fun b6 O bs => ?_
  have dN := bs.size
  have E := E.step bs (lS (by omega))
  replace O : Blk b6 e 44 [(.slice L ((timT (Xs ta) a.low (a.high).toNat).flat).length M)] := O
  have a8 : Ch [e] b3 b6 := (ah.step bs (fun i hm => by have aq := List.mem_singleton.1 hm; exact .inr (by rw [aq]; exact (List.mem_singleton.2 rfl))))
  refine ⟨a8, ?_⟩
  refine Yq (by kernel_rfl) ?_
  refine Zb (dw _ _ ?_)
  refine Zr (Ya (Zl ?_))
  have dP := (T.ch bs (dS ag ax (by omega)))
  have a9 : Ol Token.cs 84 4 b6 (.slice L ((timT (Xs ta) a.low (a.high).toNat).flat).length M) ((Xs t).flat) := by
   have hx := dP
   exact hx.eq (by first | (rw [← exp2 hok (by omega) b q, d]; rfl) | (rw [← exp6 hok (by omega) b, d]; simp [Tr.flat]; done) | (rw [← exp7 hok (by omega) b, d]) | (rw [← exp0 hok (by omega), d]; rfl))
  exact Zi [_] (Zu O rfl agg44 sz44 trivial) ⟨_, rfl, a9, Lo.down ag (by omega), E⟩
 have b2 := B
 have B := Ye B
 refine Zq ?_
 refine Zv (Zb (H9 _ _ ?_))
 refine Zg fun el dQ => ?_
 refine Zc (Za rfl rfl (Zw p.at_ agg84 sz84 rfl) (Zk rfl rfl ?_))
 refine Zo (cs := Token.cs) (parts := [(0, .tmp 53)]) (⟨0, 0, 0, 0⟩ : Token) [a] el42 sz84 zr84 Token.len (by decide) rfl rfl rfl (by decide) (by decide) rfl fun dR em bb ai b7 => ?_
 have dU := b7.size
 have E := E.trans b7
 obtain ⟨C, D, rfl, cx, ay⟩ := bb.opn
 refine Za rfl rfl (Yr (parts := [(0, .tmp 54)]) (cells := [(.slice C ([a]).length D)]) zr44 pl44 rfl rfl) (Zk rfl rfl ?_)
 have dW := (((U.ch0 C6).ch C7 (nS (by omega))).ch0 b7)
 refine Zt (off := 0) 1 dW sz44 rfl (us := [(.slice C ([a]).length D)]) rfl rfl rfl rfl fun cy P b8 => ?_
 have dX := b8.size
 have E := E.step b8 (lS (by omega))
 replace P : Blk cy e 44 [(.slice C ([a]).length D)] := P
 refine Zf (Zb (dQ _ _ ?_))
 refine Zr ?_
 have dY := (bb.ch b8 (dS ai ay (by omega)))
 have bd : Ol Token.cs 84 4 cy (.slice C ([a]).length D) ((Xs t).flat) := by
  have hx := dY
  exact hx.eq (by first | (rw [← exp2 hok (by omega) b q, d]; rfl) | (rw [← exp6 hok (by omega) b, d]; simp [Tr.flat]; done) | (rw [← exp7 hok (by omega) b, d]) | (rw [← exp0 hok (by omega), d]; rfl))
 exact Zi [_] (Zu P rfl agg44 sz44 trivial) ⟨_, rfl, bd, Lo.down ai (by omega), E⟩
theorem Zgh {w : World} {LL_l b : Nat} {a : Value} {l : List Token} (c : Ls Token.cs 4 w LL_l b a l) (t : Tr) (hok : Okd t) (hl : l = t.flat) (hb : Qj t ≤ 5000) :
 Ctr Try.prog 73 #[a] w (fun v w' => ∃ u, v = .agg #[u] ∧ Ol Token.cs 84 4 w' u ((Xs t).flat) ∧ Lo w.heap.size u ∧ Ch [] w w') := Zex _ c t hok hl hb (Nat.lt_succ_self _)

/-- spec.l10Size -/
theorem Zgi : ∀ (n : Nat) {w : World} {LL_l F : Nat} {s : Value} {l : List Token} (d : Ls Token.cs 4 w LL_l F s l) (t : Tr) (hok : Okd t) (hl : l = t.flat) (hsz : l.length < n),
 Ctr Try.prog 72 #[s] w (fun v w' => v = .int .i64 (Qj t) ∧ Ch [] w w') := by
 intro n
 induction n with
 | zero => intros; omega
 | succ n ih =>
 intro w LL_l F s l d t hok hl hsz
 obtain ⟨Y, Z, G⟩ := d.val
 subst G
 have aU := d.len
 have d := d.here (by decide)
 have E := Ch.refl [] w
 have aV := t.flat_pos; rw [← hl] at aV; have k2 := hok.len; have rb := Xw hok
 refine Yc (N := 54) (vs0 := [(.slice Y l.length Z)]) Try.func72 rfl rfl rfl ?_
 refine Zg fun K1 H1 => ?_
 refine Zc (Za rfl rfl (Zd rfl) (Zf (Zb (H1 _ _ ?_))))
 refine Zg fun K2 H2 => ?_
 refine Zc (Za rfl rfl (Ze rfl) (Za rfl rfl (Xa (by rw [el42]; rfl) rfl) (Za rfl rfl (Zay (by omega) rfl rfl) (Za rfl rfl (Zd rfl) (Zf (Zb (H2 _ _ ?_)))))))
 refine Zg fun K3 H3 => ?_
 refine Zc (Za rfl rfl (Ze rfl) (Za rfl rfl (Ze rfl) (Zk rfl rfl ?_)))
 refine (Yo (j := (((l.length : Nat) : Int) - 1).toNat) d Token.len el42 sz84 rfl rfl (by omega) (by omega) fun aW c H aa => ?_)
 have m := Zjo hl (by omega) H
 have htk := congrArg Token.kind m
 have hte := congrArg Token.letter m
 have htl := congrArg Token.low m
 have hth := congrArg Token.high m
 refine Za rfl rfl (Zw aa agg84 sz84 rfl) (Zk rfl rfl ?_)
 refine Yp zr84 fun aI W4 T C4 bL => ?_
 have bM := C4.size
 have E := E.trans C4
 have bN := T.lt
 replace T : Blk W4 aI 84 [(.int .i64 0), (.int .i64 0), (.int .i64 0), (.int .i64 0)] := T
 refine Zk rfl rfl ?_
 refine Zt (off := 0) 4 T sz84 rfl (us := [(.int .i64 c.kind), (.int .i64 c.letter), (.int .i64 c.low), (.int .i64 c.high)]) rfl rfl rfl rfl fun W5 p C5 => ?_
 have bO := C5.size
 have E := E.step C5 (lS (by omega))
 replace p : Blk W5 aI 84 [(.int .i64 c.kind), (.int .i64 c.letter), (.int .i64 c.low), (.int .i64 c.high)] := p
 refine Zf (Zb (H3 _ _ ?_))
 refine Zg fun K7 H7 => ?_
 refine Zg fun K8 H8 => ?_
 refine Zc (Za rfl rfl (Zh fa84_0 rfl) (Za rfl rfl (Zm p.at_ agg3 rfl rfl) (Zf (Zb (H8 _ _ ?_)))))
 refine Zx ?_
 refine Zg fun K9 H9 => ?_
 refine Zg fun bP aX => ?_
 refine Zc (Za rfl rfl (Xj rfl rfl) (Za rfl rfl (Zd rfl) (Zf (Zb (aX _ _ ?_)))))
 refine Zp rfl (fun b => ?_) (fun b => ?_)
 ·have I := b
  have b := Yf b
  obtain ⟨ta, tb, et, oa, ob, hla, ab⟩ := hok.k2 (by omega) m hl
  have a : t.kids[0]? = some ta := by rw [et]; rfl
  have o : t.kids[1]? = some tb := by rw [et]; rfl
  have ga := ta.flat_len
  have gb := tb.flat_len
  have ra := Xw oa
  have rc := Xw ob
  refine Zq ?_
  refine Zb (H9 _ _ ?_)
  refine Zcs rfl I ?_
  refine Zg fun bQ aY => ?_
  refine Zc (Za rfl rfl (Ze rfl) (Za rfl rfl (Ze rfl) (Zk rfl rfl ?_)))
  have aJ := ((d.ch0 C4).ch C5 (oS (by omega)))
  refine (Zgg (ys := (ta.flat ++ tb.flat)) 0 ((((l.length : Nat) : Int) - 1).toNat) aJ Token.len el42 sz84 rfl rfl ⟨_, _, rfl, by omega⟩ (by omega) (by omega) (show l.take _ = _ from Zij hla (by omega)) fun ac e J K => ?_)
  obtain ⟨ad, ae, u⟩ := e.val
  subst u
  have af := e.len
  refine Zk rfl rfl ?_
  refine Step.call (Zn (xs := [.tmp 20]) fk106 rfl) (Zad e ta.flat tb ob rfl) fun ag bR x => ?_
  obtain ⟨rfl, ah⟩ := x
  have aZ := ah.size
  have E := E.trans ah
  refine Za rfl rfl (Zd rfl) (Zf (Zb (aY _ _ ?_)))
  refine Zg fun bS a0 => ?_
  refine Xg [] 13 mixed rfl fun aK ai => ?_
  have a1 := ai.size
  have E := E.trans ai
  refine dV 0 rfl rfl rfl (fun _ => Ze rfl) (dV 1 rfl rfl rfl (fun _ => Ze rfl) ?_)
  have aL := ((aJ.ch0 ah).ch0 ai)
  refine dT 2 rfl rfl rfl (Zgv (ys := ta.flat) 0 ta.flat.length aL Token.len el42 sz84 rfl rfl ⟨_, _, rfl, by omega⟩ (by omega) (by omega) (show l.take _ = _ from Znm hla (by omega)) fun aj f L M => ?_)
  obtain ⟨ak, al, y⟩ := f.val
  subst y
  have am := f.len
  refine dV 4 rfl rfl rfl (fun _ => Ze rfl) (dV 5 rfl rfl rfl (fun _ => Ze rfl) (dV 6 rfl rfl rfl (fun _ => Ze rfl) ?_))
  refine dT 7 rfl rfl rfl (Zgv (ys := tb.flat) ta.flat.length ((((l.length : Nat) : Int) - 1).toNat) aL Token.len el42 sz84 rfl ⟨_, _, rfl, by omega⟩ ⟨_, _, rfl, by omega⟩ (by omega) (by omega) (Zni hla (by omega) (by omega)) fun an g O P => ?_)
  obtain ⟨ao, ap, z⟩ := g.val
  subst z
  have aq := g.len
  refine dO 3 (Yl rfl rfl rfl ?_)
  refine Step.call (Zn (xs := [.tmp 24]) fk72 rfl) (ih f ta oa rfl (by omega)) fun au a2 A => ?_
  obtain ⟨rfl, U⟩ := A
  have a3 := U.size
  have E := E.trans U
  have q : Ch [] aK a2 := ((Ch.refl _ _).trans U)
  refine ⟨q, ?_⟩
  refine dO 8 (Yl rfl rfl rfl ?_)
  have a4 := (g.ch0 U)
  refine Step.call (Zn (xs := [.tmp 29]) fk72 rfl) (ih a4 tb ob rfl (by omega)) fun av a5 B => ?_
  obtain ⟨rfl, aw⟩ := B
  have a6 := aw.size
  have E := E.trans aw
  have Q : Ch [] aK a5 := (q.trans aw)
  refine ⟨Q, ?_⟩
  refine dV 9 rfl rfl rfl (fun _ => Yk (by omega) rfl rfl) (dV 10 rfl rfl rfl (fun _ => Yk (by omega) rfl rfl) (dV 11 rfl rfl rfl (fun _ => Zqp rfl rfl) (dV 12 rfl rfl rfl (fun _ => Zd rfl) ?_)))
  refine Yq (by kernel_rfl) ?_
  refine Zb (a0 _ _ ?_)
  refine Zr (Ya (Zl ?_))
  exact Zi [_] ⟨rfl, trivial⟩ ⟨congrArg (Value.int .i64) (by first | exact bnd2 hok (by omega) a o | exact bnd6 hok (by omega) a | (rw [m]; exact bnd7 hok (by omega) a) | exact bnd0 hok (by omega)), E⟩
 have I := b
 have b := Ye b
 refine Zc (Za rfl rfl (Xj rfl rfl) (Za rfl rfl (Zd rfl) (Zf (Zb (H9 _ _ ?_)))))
 refine Zp rfl (fun b => ?_) (fun b => ?_)
 ·have ax := b
  have b := Yf b
  obtain ⟨ta, tb, et, oa, ob, hla, ab⟩ := hok.k2 (by omega) m hl
  have a : t.kids[0]? = some ta := by rw [et]; rfl
  have o : t.kids[1]? = some tb := by rw [et]; rfl
  have ga := ta.flat_len
  have gb := tb.flat_len
  have ra := Xw oa
  have rc := Xw ob
  refine Zg fun bT a7 => ?_
  refine Zc (Za rfl rfl (Ze rfl) (Za rfl rfl (Ze rfl) (Zk rfl rfl ?_)))
  have aM := ((d.ch0 C4).ch C5 (oS (by omega)))
  refine (Zgg (ys := (ta.flat ++ tb.flat)) 0 ((((l.length : Nat) : Int) - 1).toNat) aM Token.len el42 sz84 rfl rfl ⟨_, _, rfl, by omega⟩ (by omega) (by omega) (show l.take _ = _ from Zij hla (by omega)) fun ac e J K => ?_)
  obtain ⟨ad, ae, u⟩ := e.val
  subst u
  have af := e.len
  refine Zk rfl rfl ?_
  refine Step.call (Zn (xs := [.tmp 20]) fk106 rfl) (Zad e ta.flat tb ob rfl) fun ag bU x => ?_
  obtain ⟨rfl, ay⟩ := x
  have a8 := ay.size
  have E := E.trans ay
  refine Za rfl rfl (Zd rfl) (Zf (Zb (a7 _ _ ?_)))
  refine Zg fun bV a9 => ?_
  refine Xg [] 13 mixed rfl fun aN az => ?_
  have ba := az.size
  have E := E.trans az
  refine dV 0 rfl rfl rfl (fun _ => Ze rfl) (dV 1 rfl rfl rfl (fun _ => Ze rfl) ?_)
  have aO := ((aM.ch0 ay).ch0 az)
  refine dT 2 rfl rfl rfl (Zgv (ys := ta.flat) 0 ta.flat.length aO Token.len el42 sz84 rfl rfl ⟨_, _, rfl, by omega⟩ (by omega) (by omega) (show l.take _ = _ from Znm hla (by omega)) fun aj f L M => ?_)
  obtain ⟨ak, al, y⟩ := f.val
  subst y
  have am := f.len
  refine dV 4 rfl rfl rfl (fun _ => Ze rfl) (dV 5 rfl rfl rfl (fun _ => Ze rfl) (dV 6 rfl rfl rfl (fun _ => Ze rfl) ?_))
  refine dT 7 rfl rfl rfl (Zgv (ys := tb.flat) ta.flat.length ((((l.length : Nat) : Int) - 1).toNat) aO Token.len el42 sz84 rfl ⟨_, _, rfl, by omega⟩ ⟨_, _, rfl, by omega⟩ (by omega) (by omega) (Zni hla (by omega) (by omega)) fun an g O P => ?_)
  obtain ⟨ao, ap, z⟩ := g.val
  subst z
  have aq := g.len
  refine dO 3 (Yl rfl rfl rfl ?_)
  refine Step.call (Zn (xs := [.tmp 24]) fk72 rfl) (ih f ta oa rfl (by omega)) fun au bb A => ?_
  obtain ⟨rfl, V⟩ := A
  have bc := V.size
  have E := E.trans V
  have r : Ch [] aN bb := ((Ch.refl _ _).trans V)
  refine ⟨r, ?_⟩
  refine dO 8 (Yl rfl rfl rfl ?_)
  have bd := (g.ch0 V)
  refine Step.call (Zn (xs := [.tmp 29]) fk72 rfl) (ih bd tb ob rfl (by omega)) fun av be B => ?_
  obtain ⟨rfl, aA⟩ := B
  have bf := aA.size
  have E := E.trans aA
  have R : Ch [] aN be := (r.trans aA)
  refine ⟨R, ?_⟩
  refine dV 9 rfl rfl rfl (fun _ => Yk (by omega) rfl rfl) (dV 10 rfl rfl rfl (fun _ => Yk (by omega) rfl rfl) (dV 11 rfl rfl rfl (fun _ => Zqp rfl rfl) (dV 12 rfl rfl rfl (fun _ => Zd rfl) ?_)))
  refine Yq (by kernel_rfl) ?_
  refine Zb (a9 _ _ ?_)
  refine Zr (Ya (Zl ?_))
  exact Zi [_] ⟨rfl, trivial⟩ ⟨congrArg (Value.int .i64) (by first | exact bnd2 hok (by omega) a o | exact bnd6 hok (by omega) a | (rw [m]; exact bnd7 hok (by omega) a) | exact bnd0 hok (by omega)), E⟩
 have ax := b
 have b := Ye b
 refine Zg fun bW bg => ?_
 refine Zc (Za rfl rfl (Xj rfl rfl) (Za rfl rfl (Zd rfl) (Zf (Zb (bg _ _ ?_)))))
 refine Zp rfl (fun h => ?_) (fun h => ?_)
 ·have aB := h
  have h := Yf h
  obtain ⟨ta, et, oa, hla, ab⟩ := hok.k1 (by omega) m hl
  have a : t.kids[0]? = some ta := by rw [et]; rfl
  have ga := ta.flat_len
  have ra := Xw oa
  refine Zg fun bX bh => ?_
  refine Zc (Za rfl rfl (Ze rfl) (Za rfl rfl (Ze rfl) (Zk rfl rfl ?_)))
  have bi := ((d.ch0 C4).ch C5 (oS (by omega)))
  refine (Zgg (ys := ta.flat) 0 ((((l.length : Nat) : Int) - 1).toNat) bi Token.len el42 sz84 rfl rfl ⟨_, _, rfl, by omega⟩ (by omega) (by omega) (show l.take _ = _ from Zny hla (by omega)) fun bj C aP aQ => ?_)
  obtain ⟨bk, bm, aC⟩ := C.val
  subst aC
  have bn := C.len
  refine Zk rfl rfl ?_
  refine Step.call (Zn (xs := [.tmp 38]) fk72 rfl) (ih C ta oa rfl (by omega)) fun bp bY aD => ?_
  obtain ⟨rfl, aR⟩ := aD
  have bq := aR.size
  have E := E.trans aR
  refine Za rfl rfl (Yk (by omega) rfl rfl) (Za rfl rfl (Zqp rfl rfl) (Za rfl rfl (Zd rfl) (Zf (Zb (bh _ _ ?_)))))
  refine Zr (Ya (Zl ?_))
  exact Zi [_] ⟨rfl, trivial⟩ ⟨congrArg (Value.int .i64) (by first | exact bnd2 hok (by omega) a o | exact bnd6 hok (by omega) a | (rw [m]; exact bnd7 hok (by omega) a) | exact bnd0 hok (by omega)), E⟩
 have aB := h
 have h := Ye h
 refine Zg fun bZ br => ?_
 refine Zc (Za rfl rfl (Xj rfl rfl) (Za rfl rfl (Zd rfl) (Zf (Zb (br _ _ ?_)))))
 refine Zp rfl (fun k => ?_) (fun k => ?_)
 ·have aE := k
  have k := Yf k
  obtain ⟨ta, et, oa, hla, ab⟩ := hok.k1 (by omega) m hl
  have a : t.kids[0]? = some ta := by rw [et]; rfl
  have ga := ta.flat_len
  have ra := Xw oa
  have r7 := hok.r7 (by omega)
  refine Zg fun b0 bs => ?_
  refine Xg [] 11 mixed rfl fun bu X => ?_
  have bv := X.size
  have E := E.trans X
  refine dV 0 rfl rfl rfl (fun _ => Ze rfl) (dV 1 rfl rfl rfl (fun _ => Ze rfl) ?_)
  have bw := (((d.ch0 C4).ch C5 (oS (by omega))).ch0 X)
  refine dT 2 rfl rfl rfl (Zgv (ys := ta.flat) 0 ((((l.length : Nat) : Int) - 1).toNat) bw Token.len el42 sz84 rfl rfl ⟨_, _, rfl, by omega⟩ (by omega) (by omega) (show l.take _ = _ from Zny hla (by omega)) fun bz D aS aT => ?_)
  obtain ⟨bA, bB, aF⟩ := D.val
  subst aF
  have bC := D.len
  refine dV 5 rfl rfl rfl (fun _ => Zh fa84_3 rfl) ?_
  have bD := (p.ch0 X)
  refine dT 6 rfl rfl rfl (Yw bD.at_ (fun i hi => absurd hi List.not_mem_nil) agg3 rfl rfl ?_)
  refine dO 3 (Yl rfl rfl rfl ?_)
  refine Step.call (Zn (xs := [.tmp 46]) fk72 rfl) (ih D ta oa rfl (by omega)) fun bF bG aG => ?_
  obtain ⟨rfl, aH⟩ := aG
  have bH := aH.size
  have E := E.trans aH
  have S : Ch [] bu bG := ((Ch.refl _ _).trans aH)
  refine ⟨S, ?_⟩
  refine dV 4 rfl rfl rfl (fun _ => Yk (by omega) rfl rfl) (dV 7 rfl rfl rfl (fun _ => Zqh (by (have bI := Int.mul_nonneg (show 0 ≤ Qj ta + 3 by omega) (show 0 ≤ c.high by omega); have bJ := Int.mul_le_mul (show Qj ta + 3 ≤ 100003 by omega) (show c.high ≤ 3 by omega) (by omega) (by omega); omega)) rfl rfl) (dV 8 rfl rfl rfl (fun _ => Yk (by (have bI := Int.mul_nonneg (show 0 ≤ Qj ta + 3 by omega) (show 0 ≤ c.high by omega); have bJ := Int.mul_le_mul (show Qj ta + 3 ≤ 100003 by omega) (show c.high ≤ 3 by omega) (by omega) (by omega); omega)) rfl rfl) (dV 9 rfl rfl rfl (fun _ => Zqp rfl rfl) (dV 10 rfl rfl rfl (fun _ => Zd rfl) ?_))))
  refine Yq (by kernel_rfl) ?_
  refine Zb (bs _ _ ?_)
  refine Zr (Ya (Zl ?_))
  exact Zi [_] ⟨rfl, trivial⟩ ⟨congrArg (Value.int .i64) (by first | exact bnd2 hok (by omega) a o | exact bnd6 hok (by omega) a | (rw [m]; exact bnd7 hok (by omega) a) | exact bnd0 hok (by omega)), E⟩
 have aE := k
 have k := Ye k
 refine Zq ?_
 refine Zv (Zb (H7 _ _ ?_))
 refine Zg fun b1 bK => ?_
 refine Zc (Za rfl rfl (Zd rfl) (Zf (Zb (bK _ _ ?_))))
 refine Zr ?_
 exact Zi [_] ⟨rfl, trivial⟩ ⟨congrArg (Value.int .i64) (by first | exact bnd2 hok (by omega) a o | exact bnd6 hok (by omega) a | (rw [m]; exact bnd7 hok (by omega) a) | exact bnd0 hok (by omega)), E⟩
theorem Zhx {w : World} {LL_l b : Nat} {a : Value} {l : List Token} (c : Ls Token.cs 4 w LL_l b a l) (t : Tr) (hok : Okd t) (hl : l = t.flat) :
 Ctr Try.prog 72 #[a] w (fun v w' => v = .int .i64 (Qj t) ∧ Ch [] w w') := Zgi _ c t hok hl (Nat.lt_succ_self _)

/-- spec.ExpandExpr -/
theorem Zfl {w : World} {LL_e O : Nat} {y : Value} {e : List Token} (j : Ls Token.cs 4 w LL_e O y e) (hb : e.length ≤ 1048576) :
 Ctr Try.prog 29 #[(.agg #[y])] w (fun v w' => ∃ (t : Value), v = .tuple #[.agg #[t], .bool ((expE e).2)] ∧ Ol Token.cs 84 4 w' t ((expE e).1) ∧ Lo w.heap.size t ∧ Ch [] w w') := by
 obtain ⟨z, A, B⟩ := j.val
 subst B
 have af := j.len
 have j := j.here (by decide)
 have E := Ch.refl [] w
 refine Yc (N := 24) (vs0 := [(.agg #[(.slice z e.length A)])]) Try.func29 rfl rfl rfl ?_
 refine Zg fun K1 H1 => ?_
 refine Zc (Zk rfl rfl ?_)
 refine Xz rfl fun ag W2 K C2 aO => ?_
 have aP := C2.size
 have E := E.trans C2
 have aQ := K.lt
 replace K : Blk W2 ag 44 [(.slice z e.length A)] := K
 refine Zk rfl rfl ?_
 refine Yp zr44 fun C W3 u C3 aR => ?_
 have aS := C3.size
 have E := E.trans C3
 have aT := u.lt
 replace u : Blk W3 C 44 [(.slice none 0 0)] := u
 refine Za rfl rfl (Zd rfl) (Zf (Zb (H1 _ _ ?_)))
 refine Zg fun K4 H4 => ?_
 refine Zg fun K5 H5 => ?_
 refine Zc ?_
 have F6 := (K.ch0 C3)
 refine Za rfl rfl (Zw F6.at_ agg44 sz44 rfl) (Zk rfl rfl ?_)
 have F7 := ((j.ch0 C2).ch0 C3)
 refine Step.call (Zn (xs := [.tmp 5]) fk31 rfl) (Zax F7 ) fun aU W8 ah => ?_
 obtain ⟨rfl, C8⟩ := ah
 have aV := C8.size
 have E := E.trans C8
 refine Za rfl rfl (Xu rfl) (Za rfl rfl (Ze rfl) ?_)
 refine Yn (d := 8) rfl (fun f => ?_) (fun f => ?_)
 ·have ai := f
  have f := Qb f
  refine Zj rfl rfl (Zj rfl rfl (Zj rfl rfl (Zj rfl rfl (Za rfl rfl (Yi rfl rfl) (Zf (Zb (H5 _ _ ?_)))))))
  refine Xp rfl ?_
  refine Zg fun aW aj => ?_
  refine Zc (Za rfl rfl (Yr (parts := []) (cells := [(.slice none 0 0)]) zr44 pl44 rfl rfl) (Zk rfl rfl ?_))
  have ak := (u.ch0 C8)
  refine Zt (off := 0) 1 ak sz44 rfl (us := [(.slice none 0 0)]) rfl rfl rfl rfl fun P l X => ?_
  have al := X.size
  have E := E.step X (lS (by omega))
  replace l : Blk P C 44 [(.slice none 0 0)] := l
  refine Za rfl rfl (Zd rfl) (Zf (Zb (aj _ _ ?_)))
  refine Zr (Zl ?_)
  have D : Ol Token.cs 84 4 P (.slice none 0 0) ((expE e).1) := by
   have hx := (Ol.nil (cs := Token.cs) (e := 84) (k := 4) P)
   first | (rw [Zec f]; exact hx) | (rw [Zce a (by omega)]; exact hx) | (rw [Zcd a (by rw [← Tr.flat_len]; omega)]; exact hx) | (rw [Zeb a (by omega) (by omega) (by rw [← Tr.flat_len]; omega)]; exact hx)
  exact Zi [_, _] (Zu l rfl agg44 sz44 ⟨rfl, trivial⟩) ⟨(.slice none 0 0), (congrArg (fun zq => (Value.tuple #[.agg #[(.slice none 0 0)], .bool zq])) (by first | (rw [Zec f]; done) | (rw [Zce a (by omega)]; done) | (rw [Zcd a (by rw [← Tr.flat_len]; omega)]; done) | (rw [Zeb a (by omega) (by omega) (by rw [← Tr.flat_len]; omega)]; done))), D, (Lo.nil _), E⟩
 have ai := f
 have f := Qc f
 obtain ⟨r, a, hok, hl, am⟩ := Zte f
 refine Za rfl rfl (Zh fa44_0 rfl) ?_
 have Y := (F6.ch0 C8)
 refine Za rfl rfl (Zm Y.at_ agg42 rfl rfl) (Zk rfl rfl ?_)
 have Z := (F7.ch0 C8)
 refine Step.call (Zn (xs := [.tmp 10]) fk72 rfl) (Zhx Z r hok hl) fun an aX Q => ?_
 obtain ⟨rfl, x⟩ := Q
 have ao := x.size
 have E := E.trans x
 refine Za rfl rfl (Zeh rfl rfl) (Za rfl rfl (Ym rfl rfl) (Zf (Zb (H5 _ _ ?_))))
 refine Zp rfl (fun g => ?_) (fun g => ?_)
 ·have R := g
  have g := Yf g
  refine Zg fun aY ap => ?_
  refine Zc (Za rfl rfl (Yr (parts := []) (cells := [(.slice none 0 0)]) zr44 pl44 rfl rfl) (Zk rfl rfl ?_))
  have aq := ((u.ch0 C8).ch0 x)
  refine Zt (off := 0) 1 aq sz44 rfl (us := [(.slice none 0 0)]) rfl rfl rfl rfl fun S m aa => ?_
  have au := aa.size
  have E := E.step aa (lS (by omega))
  replace m : Blk S C 44 [(.slice none 0 0)] := m
  refine Za rfl rfl (Zd rfl) (Zf (Zb (ap _ _ ?_)))
  refine Zr (Zl ?_)
  have F : Ol Token.cs 84 4 S (.slice none 0 0) ((expE e).1) := by
   have hx := (Ol.nil (cs := Token.cs) (e := 84) (k := 4) S)
   first | (rw [Zec f]; exact hx) | (rw [Zce a (by omega)]; exact hx) | (rw [Zcd a (by rw [← Tr.flat_len]; omega)]; exact hx) | (rw [Zeb a (by omega) (by omega) (by rw [← Tr.flat_len]; omega)]; exact hx)
  exact Zi [_, _] (Zu m rfl agg44 sz44 ⟨rfl, trivial⟩) ⟨(.slice none 0 0), (congrArg (fun zq => (Value.tuple #[.agg #[(.slice none 0 0)], .bool zq])) (by first | (rw [Zec f]; done) | (rw [Zce a (by omega)]; done) | (rw [Zcd a (by rw [← Tr.flat_len]; omega)]; done) | (rw [Zeb a (by omega) (by omega) (by rw [← Tr.flat_len]; omega)]; done))), F, (Lo.nil _), E⟩
 have R := g
 have g := Ye g
 refine Zq ?_
 refine Zb (H4 _ _ ?_)
 refine Zg fun aZ av => ?_
 refine Zc (Za rfl rfl (Zh fa44_0 rfl) ?_)
 have aw := (Y.ch0 x)
 refine Za rfl rfl (Zm aw.at_ agg42 rfl rfl) (Zk rfl rfl ?_)
 have ax := (Z.ch0 x)
 refine Step.call (Zn (xs := [.tmp 16]) fk73 rfl) (Zgh ax r hok hl (by omega)) fun ay a0 s => ?_
 obtain ⟨az, rfl, s, n, L⟩ := s
 have aA := L.size
 have E := E.trans L
 obtain ⟨b, c, rfl, ab, o⟩ := s.opn
 refine Zk rfl rfl ?_
 refine Yp zr44 fun ac aB M G a1 => ?_
 have aC := G.size
 have E := E.trans G
 have a2 := M.lt
 replace M : Blk aB ac 44 [(.slice none 0 0)] := M
 refine Zk rfl rfl ?_
 refine Zt (off := 0) 1 M sz44 rfl (us := [(.slice b ((Xs r).flat).length c)]) rfl rfl rfl rfl fun aD i H => ?_
 have aE := H.size
 have E := E.step H (lS (by omega))
 replace i : Blk aD ac 44 [(.slice b ((Xs r).flat).length c)] := i
 refine Zf (Zb (av _ _ ?_))
 refine Zg fun a3 aF => ?_
 refine Zg fun a4 aG => ?_
 refine Zc (Za rfl rfl (Zh fa44_0 rfl) (Za rfl rfl (Zm i.at_ agg42 rfl rfl) (Za rfl rfl (Xa (by rw [el42]; rfl) rfl) (Za rfl rfl (Zeh rfl rfl) (Zf (Zb (aG _ _ ?_)))))))
 refine Zp rfl (fun h => ?_) (fun h => ?_)
 ·have T := h
  have h := Yf h
  refine Zg fun a5 aH => ?_
  refine Zc (Za rfl rfl (Yr (parts := []) (cells := [(.slice none 0 0)]) zr44 pl44 rfl rfl) (Zk rfl rfl ?_))
  have aI := (((((u.ch0 C8).ch0 x).ch0 L).ch0 G).ch H (nS (by omega)))
  refine Zt (off := 0) 1 aI sz44 rfl (us := [(.slice none 0 0)]) rfl rfl rfl rfl fun U p ad => ?_
  have aJ := ad.size
  have E := E.step ad (lS (by omega))
  replace p : Blk U C 44 [(.slice none 0 0)] := p
  refine Za rfl rfl (Zd rfl) (Zf (Zb (aH _ _ ?_)))
  refine Zr (Zl ?_)
  have I : Ol Token.cs 84 4 U (.slice none 0 0) ((expE e).1) := by
   have hx := (Ol.nil (cs := Token.cs) (e := 84) (k := 4) U)
   first | (rw [Zec f]; exact hx) | (rw [Zce a (by omega)]; exact hx) | (rw [Zcd a (by rw [← Tr.flat_len]; omega)]; exact hx) | (rw [Zeb a (by omega) (by omega) (by rw [← Tr.flat_len]; omega)]; exact hx)
  exact Zi [_, _] (Zu p rfl agg44 sz44 ⟨rfl, trivial⟩) ⟨(.slice none 0 0), (congrArg (fun zq => (Value.tuple #[.agg #[(.slice none 0 0)], .bool zq])) (by first | (rw [Zec f]; done) | (rw [Zce a (by omega)]; done) | (rw [Zcd a (by rw [← Tr.flat_len]; omega)]; done) | (rw [Zeb a (by omega) (by omega) (by rw [← Tr.flat_len]; omega)]; done))), I, (Lo.nil _), E⟩
 have T := h
 have h := Ye h
 refine Zq ?_
 refine Zb (aF _ _ ?_)
 refine Zg fun a6 aK => ?_
 refine Zc (Za rfl rfl (Zw i.at_ agg44 sz44 rfl) (Zk rfl rfl ?_))
 have aL := (((((u.ch0 C8).ch0 x).ch0 L).ch0 G).ch H (nS (by omega)))
 refine Zt (off := 0) 1 aL sz44 rfl (us := [(.slice b ((Xs r).flat).length c)]) rfl rfl rfl rfl fun ae q V => ?_
 have aM := V.size
 have E := E.step V (lS (by omega))
 replace q : Blk ae C 44 [(.slice b ((Xs r).flat).length c)] := q
 refine Za rfl rfl (Zd rfl) (Zf (Zb (aK _ _ ?_)))
 refine Zr ?_
 have aN := (((s.ch0 G).ch H (dS n o (by omega))).ch V (dS n o (by omega)))
 have J : Ol Token.cs 84 4 ae (.slice b ((Xs r).flat).length c) ((expE e).1) := by
  have hx := aN
  first | (rw [Zec f]; exact hx) | (rw [Zce a (by omega)]; exact hx) | (rw [Zcd a (by rw [← Tr.flat_len]; omega)]; exact hx) | (rw [Zeb a (by omega) (by omega) (by rw [← Tr.flat_len]; omega)]; exact hx)
 exact Zi [_, _] (Zu q rfl agg44 sz44 ⟨rfl, trivial⟩) ⟨(.slice b ((Xs r).flat).length c), (congrArg (fun zq => (Value.tuple #[.agg #[(.slice b ((Xs r).flat).length c)], .bool zq])) (by first | (rw [Zec f]; done) | (rw [Zce a (by omega)]; done) | (rw [Zcd a (by rw [← Tr.flat_len]; omega)]; done) | (rw [Zeb a (by omega) (by omega) (by rw [← Tr.flat_len]; omega)]; done))), J, (Lo.down n (by omega)), E⟩

/-- spec.l10Link -/
theorem Zed {w : World} {b_p t_p L_p : Nat} {c : Value} {t : List Int} {Q : Int} {R : Int} {d : Value} {e : List Int} {S : Bool} (m_p : Blk w b_p t_p [c, (.int .i64 Q), (.int .i64 R), d, (.bool S)]) (af : L_p ≤ b_p) (y : Ol ics 3 1 w c t) (B : b_p ∉ bl c) (T : Lo L_p c) (z : Ol ics 3 1 w d e) (p : b_p ∉ bl d) (U : Lo L_p d) (o : ∀ g ∈ bl c, g ∉ bl d) (l : Int) (f : Int) (hb : e.length ≤ 4194304) :
 Ctr Try.prog 107 #[(.pointer (some ⟨b_p, 0, none⟩)), (.int .i64 l), (.int .i64 f)] w (fun v w' => ∃ (F G : Value), v = .tuple #[] ∧ Blk w' b_p t_p [F, .int .i64 Q, .int .i64 R, G, .bool S] ∧ Ol ics 3 1 w' F (t) ∧ (∀ g ∈ bl F, w.heap.size ≤ g ∨ g ∈ (b_p :: (bl c ++ bl d))) ∧ b_p ∉ bl F ∧ Ol ics 3 1 w' G (lkL l f e) ∧ (∀ g ∈ bl G, w.heap.size ≤ g ∨ g ∈ (b_p :: (bl c ++ bl d))) ∧ b_p ∉ bl G ∧ (∀ g ∈ bl F, g ∉ bl G) ∧ Ch (b_p :: (bl c ++ bl d)) w w') := by
 obtain ⟨h, m, rfl, ag, V⟩ := y.opn
 obtain ⟨a, b, rfl, ah, X⟩ := z.opn
 have ai := m_p.lt
 have E := Ch.refl (b_p :: (bl (.slice h t.length m) ++ bl (.slice a e.length b))) w
 refine Yc (N := 36) (vs0 := [(.pointer (some ⟨b_p, 0, none⟩)), (.int .i64 l), (.int .i64 f)]) Try.func107 rfl rfl rfl ?_
 refine Zg fun K1 H1 => ?_
 refine Zc (Za rfl rfl (Zd rfl) (Zf (Zb (H1 _ _ ?_))))
 refine Zx ?_
 have H : Ol ics 3 1 w (.slice a e.length b) (lkN l f e 0) := by
  have hx := z
  exact hx
 refine Xf (σ := Nat) (fun (k : Nat) => [(0, (.pointer (some ⟨b_p, 0, none⟩))), (1, (.int .i64 l)), (2, (.int .i64 f)), (6, (.int .i64 ((k : Nat) : Int)))]) (fun (k : Nat) wx => Ch (b_p :: (bl (.slice h t.length m) ++ bl (.slice a e.length b))) w wx ∧ w.heap.size ≤ wx.heap.size ∧ (k ≤ e.length) ∧ Blk wx b_p t_p [(.slice h t.length m), (.int .i64 Q), (.int .i64 R), (.slice a e.length b), (.bool S)] ∧ Ol ics 3 1 wx (.slice h t.length m) t ∧ Ol ics 3 1 wx (.slice a e.length b) (lkN l f e k)) (fun (k : Nat) => e.length - k) 0 (sC4 rfl rfl rfl rfl (Sub.nil _)) ⟨E, (Nat.le_refl _), (by omega), m_p, y, H⟩ ?_
 rintro k R3 ⟨E, an, aD, q, u, r⟩
 have Y := E
 have aj := Y.size
 have Z := q.lt
 have ao := Zhe l f e k
 refine Zg fun K4 H4 => ?_
 refine Zg fun K5 H5 => ?_
 refine Zc (Za rfl rfl (Ze rfl) (Za rfl rfl (Ze rfl) (Za rfl rfl (Xq rfl) (Za rfl rfl (Zh fa48_3 rfl) (Za rfl rfl (Zm q.at_ agg30 rfl rfl) (Za rfl rfl (Xa (by rw [el30]; rfl) rfl) (Za rfl rfl (Xi rfl rfl) ?_)))))))
 refine Zf (Zb (H5 _ _ ?_))
 refine Zp rfl (fun s => ?_) (fun s => ?_)
 ·have ap := s
  have s := Yf s
  refine Zq ?_
  refine Zb (H4 _ _ ?_)
  refine Zg fun K7 H7 => ?_
  refine Zx ?_
  refine Zg fun K8 H8 => ?_
  refine Zc (Za rfl rfl (Ze rfl) (Za rfl rfl (Ze rfl) (Za rfl rfl (Ziu (by omega) rfl rfl) (Za rfl rfl (Zgd rfl rfl) (Za rfl rfl (Xj rfl rfl) (Zf (Zb (H8 _ _ ?_))))))))
  refine Zp rfl (fun n => ?_) (fun n => ?_)
  ·have aq := n
   have n := Yf n
   refine Xg (bl (.slice a e.length b)) 16 mixed rfl fun au I => ?_
   have av := I.size
   have E := E.trans I.of_nil
   refine dV 0 rfl rfl rfl (fun _ => Ze rfl) (dV 1 rfl rfl rfl (fun _ => Xq rfl) (dV 2 rfl rfl rfl (fun _ => Zh fa48_3 rfl) ?_))
   have aa := (q.ch0 I)
   refine dT 3 rfl rfl rfl (Yw aa.at_ (fun i hm => by rcases Nat.lt_trichotomy i b_p with x | x | x; (exact .inl x); (exact absurd (x ▸ hm) p); (exact .inr x)) agg30 rfl rfl ?_)
   refine dV 4 rfl rfl rfl (fun _ => Ze rfl) (dV 5 rfl rfl rfl (fun _ => Ze rfl) (dV 6 rfl rfl rfl (fun _ => Xq rfl) (dV 7 rfl rfl rfl (fun _ => Zh fa48_3 rfl) ?_)))
   refine dT 8 rfl rfl rfl (Yw aa.at_ (fun i hm => by rcases Nat.lt_trichotomy i b_p with x | x | x; (exact .inl x); (exact absurd (x ▸ hm) p); (exact .inr x)) agg30 rfl rfl ?_)
   refine dV 9 rfl rfl rfl (fun _ => Ze rfl) (dV 12 rfl rfl rfl (fun _ => Ze rfl) (dO 10 (Yl rfl rfl rfl ?_)))
   have ab := (r.ch0 I)
   refine (Yo ab.ls Yh el30 sz3 rfl rfl rfl (by omega) fun aw ac A ad => ?_)
   refine ⟨(Ch.refl _ _), ?_⟩
   refine dO 11 (Yl rfl rfl rfl ?_)
   refine s_v (Yg ad agg3 rfl rfl) ?_
   refine ⟨(Ch.refl _ _), ?_⟩
   refine dV 13 rfl rfl rfl (fun _ => r_or rfl rfl) (dO 14 (Yl rfl rfl rfl ?_))
   refine Zen (j := k) ab el30 sz3 rfl rfl rfl (by have ax := Zhe l f e k; omega) fun ay az ak ae => ?_
   refine ⟨(Ch.refl _ _), ?_⟩
   refine dO 15 (Yl rfl rfl rfl ?_)
   refine Zep (j := k) (ior ac f) ab ae Yh sz3 rfl rfl rfl rfl (by have ax := Zhe l f e k; omega) fun al J K => ?_
   have aA := K.size
   have E := E.step K (fun i hm => by exact (.inr (List.mem_cons_of_mem _ (List.mem_append_right _ hm))))
   have L : Ch (bl (.slice a e.length b)) au al := ((Ch.refl _ _).step K (fun i hm => by exact .inr hm))
   refine ⟨L, ?_⟩
   refine Yq (by kernel_rfl) ?_
   refine Zv (Zb (H7 _ _ (Zc (Za rfl rfl (Ze rfl) (Za rfl rfl (Yk (by omega) rfl rfl) (Za rfl rfl (Zd rfl) (Zf ?_)))))))
   have C : Ol ics 3 1 al (.slice a e.length b) (lkN l f e (k + 1)) := by
    have hx := J
    first | exact hx.eq (Zuq n A) | exact hx.eq (Zus n)
   have aB := (aa.ch K (fun hm => by exact p (by first | exact hm | exact am ▸ hm)))
   have aC := ((u.ch0 I).ch K (fun g hg hm => by exact o _ hg hm))
   exact Zb (Exists.intro (k + 1) ⟨⟨E, (by omega), (by omega), aB, aC, C⟩, sC4 rfl rfl rfl rfl (Sub.nil _), (by first | omega | (dsimp only; omega))⟩)
  have aq := n
  have n := Ye n
  refine Zq ?_
  refine Zv (Zb (H7 _ _ (Zc (Za rfl rfl (Ze rfl) (Za rfl rfl (Yk (by omega) rfl rfl) (Za rfl rfl (Zd rfl) (Zf ?_)))))))
  have D : Ol ics 3 1 R3 (.slice a e.length b) (lkN l f e (k + 1)) := by
   have hx := r
   first | exact hx.eq (Zuq n A) | exact hx.eq (Zus n)
  exact Zb (Exists.intro (k + 1) ⟨⟨E, (by omega), (by omega), q, u, D⟩, sC4 rfl rfl rfl rfl (Sub.nil _), (by first | omega | (dsimp only; omega))⟩)
 have ap := s
 have s := Ye s
 refine Xc (Zs (Zs (Yu ?_)))
 have M : Ol ics 3 1 R3 (.slice h t.length m) (t) := by
  have hx := u
  first | exact hx | simpa using hx
 have O : Ol ics 3 1 R3 (.slice a e.length b) (lkL l f e) := by
  have hx := r
  exact hx.eq (by rw [show k = e.length by omega]; rfl)
 have P : Blk R3 b_p t_p [(.slice h t.length m), .int .i64 Q, .int .i64 R, (.slice a e.length b), .bool S] := by
  have hx := q
  exact hx
 exact Zqf [] trivial ⟨(.slice h t.length m), (.slice a e.length b), rfl, P, M, (fun g hm => by exact (.inr (List.mem_cons_of_mem _ (List.mem_append_left _ hm)))), (fun hm => by exact B (by first | exact hm | exact am ▸ hm)), O, (fun g hm => by exact (.inr (List.mem_cons_of_mem _ (List.mem_append_right _ hm)))), (fun hm => by exact p (by first | exact hm | exact am ▸ hm)), (fun g hm hg => by exact o _ hm hg), E⟩

end Go.Proofs.Ytgnlfnkgkcmdjaa
