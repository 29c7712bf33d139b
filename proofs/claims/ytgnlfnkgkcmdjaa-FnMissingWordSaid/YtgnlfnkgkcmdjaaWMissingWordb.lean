/- Walks of functions that FnMissingWord reaches: what each returns, and that it leaves the memory that was there alone. -/
import Derived.Test.YtgnlfnkgkcmdjaaLibA
import Derived.Test.YtgnlfnkgkcmdjaaLibB
import Derived.Test.YtgnlfnkgkcmdjaaWMissingWord
import Derived.Test.YtgnlfnkgkcmdjaaProg
namespace Go.Proofs.Ytgnlfnkgkcmdjaa
open Go.KLib Go.Shelf
set_option maxHeartbeats 1000000
set_option maxRecDepth 20000
set_option linter.unusedVariables false
set_option linter.unusedSimpArgs false
namespace TMissingWordb
theorem agg110 : Ys Try.prog 110 = some true := by kernel_rfl
theorem agg24 : Ys Try.prog 24 = some false := by kernel_rfl
theorem agg25 : Ys Try.prog 25 = some false := by kernel_rfl
theorem agg27 : Ys Try.prog 27 = some true := by kernel_rfl
theorem agg3 : Ys Try.prog 3 = some false := by kernel_rfl
theorem agg30 : Ys Try.prog 30 = some false := by kernel_rfl
theorem agg4 : Ys Try.prog 4 = some false := by kernel_rfl
theorem by110 : Qw Try.prog 110 = some 40 := by kernel_rfl
theorem by3 : Qw Try.prog 3 = some 8 := by kernel_rfl
theorem by30 : Qw Try.prog 30 = some 24 := by kernel_rfl
theorem by4 : Qw Try.prog 4 = some 1 := by kernel_rfl
theorem el111 : elB Try.prog 111 = some 110 := by kernel_rfl
theorem el24 : elB Try.prog 24 = some 4 := by kernel_rfl
theorem el25 : elB Try.prog 25 = some 30 := by kernel_rfl
theorem el30 : elB Try.prog 30 = some 3 := by kernel_rfl
theorem fa110_0 : faB Try.prog 110 0 = some 0 := by kernel_rfl
theorem fa110_1 : faB Try.prog 110 1 = some 1 := by kernel_rfl
theorem fa27_0 : faB Try.prog 27 0 = some 0 := by kernel_rfl
theorem fa27_1 : faB Try.prog 27 1 = some 1 := by kernel_rfl
theorem fa27_2 : faB Try.prog 27 2 = some 2 := by kernel_rfl
theorem fk13 : fnB Try.prog 13 = true := by kernel_rfl
theorem fk135 : fnB Try.prog 135 = true := by kernel_rfl
theorem fk141 : fnB Try.prog 141 = true := by kernel_rfl
theorem fk17 : fnB Try.prog 17 = true := by kernel_rfl
theorem fk50 : fnB Try.prog 50 = true := by kernel_rfl
theorem fk62 : fnB Try.prog 62 = true := by kernel_rfl
theorem fk89 : fnB Try.prog 89 = true := by kernel_rfl
theorem fk90 : fnB Try.prog 90 = true := by kernel_rfl
theorem fk91 : fnB Try.prog 91 = true := by kernel_rfl
theorem fk92 : fnB Try.prog 92 = true := by kernel_rfl
theorem mixed : Try.prog.follows .mixedOrders = true := by kernel_rfl
theorem pl110 : Qp Try.prog 110 = some [(0, 1), (1, 1), (2, 1), (3, 1), (4, 1)] := by kernel_rfl
theorem pl27 : Qp Try.prog 27 = some [(0, 1), (1, 1), (2, 1)] := by kernel_rfl
theorem sz110 : Yg Try.prog 110 = some 5 := by kernel_rfl
theorem sz24 : Yg Try.prog 24 = some 1 := by kernel_rfl
theorem sz25 : Yg Try.prog 25 = some 1 := by kernel_rfl
theorem sz27 : Yg Try.prog 27 = some 3 := by kernel_rfl
theorem sz3 : Yg Try.prog 3 = some 1 := by kernel_rfl
theorem sz30 : Yg Try.prog 30 = some 1 := by kernel_rfl
theorem sz4 : Yg Try.prog 4 = some 1 := by kernel_rfl
theorem zr110 : Xg Try.prog 110 = some (.agg #[.int .i64 0, .int .i64 0, .bool false, .int .i64 0, .int .i64 0]) := by kernel_rfl
theorem zr27 : Xg Try.prog 27 = some (.agg #[.int .i64 0, .slice none 0 0, .slice none 0 0]) := by kernel_rfl
theorem zr3 : Xg Try.prog 3 = some (.int .i64 0) := by kernel_rfl
theorem zr30 : Xg Try.prog 30 = some (.slice none 0 0) := by kernel_rfl
theorem zr4 : Xg Try.prog 4 = some (.bool false) := by kernel_rfl
end TMissingWordb
open TMissingWordb

/-- spec.l12Differ -/
theorem Zgz {w : World} (aS : Int) {LL_aA dH : Nat} {cZ : Value} {aA : List Bool} (aR : Ls bcs 1 w LL_aA dH cZ aA) {LL_saN dd : Nat} {bz : Value} {saN : List Sv} (an : Ls Sv.cs 1 w LL_saN dd bz saN) {LR_aN BB_aN : Nat} {aN : List (List Int)} (aK : Rd ics 1 w LR_aN BB_aN saN aN) (s : Int) (bS : Int) {LL_bA dI : Nat} {c0 : Value} {bA : List Bool} (aT : Ls bcs 1 w LL_bA dI c0 bA) {LL_sbN de : Nat} {bB : Value} {sbN : List Sv} (ao : Ls Sv.cs 1 w LL_sbN de bB sbN) {LR_bN BB_bN : Nat} {bN : List (List Int)} (aL : Rd ics 1 w LR_bN BB_bN sbN bN) (t : Int) (only : Bool) (hva : Yz aS aA aN) (hvb : Yz bS bA bN) (hs : inA aA s) (hD : inA bA t) :
 Ctr Try.prog 50 #[(.agg #[(.int .i64 aS), cZ, bz]), (.int .i64 s), (.agg #[(.int .i64 bS), c0, bB]), (.int .i64 t), (.bool only)] w (fun v w' => ∃ (eU : Value), v = .tuple #[eU, .bool ((difR aA aN bA bN ⟨s, t⟩ only).2)] ∧ Ol ics 3 1 w' eU ((difR aA aN bA bN ⟨s, t⟩ only).1) ∧ Lo w.heap.size eU ∧ Ch [] w w') := by
 obtain ⟨ab, ac, df⟩ := aR.val
 subst df
 have hE := aR.len
 have aR := aR.here (by decide)
 obtain ⟨R, S, cz⟩ := an.val
 subst cz
 have eV := an.len
 have an := an.here (by decide)
 have aK := aK.here (by decide)
 have eW := aK.1
 obtain ⟨ad, ae, dg⟩ := aT.val
 subst dg
 have hF := aT.len
 have aT := aT.here (by decide)
 obtain ⟨T, U, cA⟩ := ao.val
 subst cA
 have eX := ao.len
 have ao := ao.here (by decide)
 have aL := aL.here (by decide)
 have eY := aL.1
 have E := Ch.refl [] w
 have hin := Zhx hva hvb (s := ⟨s, t⟩) ⟨hs, hD⟩; have hle := lenS hva hvb (s := ⟨s, t⟩) ⟨hs, hD⟩; unfold inS inA at hin; have hwl := Zvg aN bN ⟨s, t⟩
 refine Yh (N := 93) (vs0 := [(.agg #[(.int .i64 aS), (.slice ab aA.length ac), (.slice R saN.length S)]), (.int .i64 s), (.agg #[(.int .i64 bS), (.slice ad bA.length ae), (.slice T sbN.length U)]), (.int .i64 t), (.bool only)]) Try.func50 rfl rfl rfl ?_
 refine Zg fun K1 H1 => ?_
 refine Zc (Zk rfl rfl ?_)
 refine Xw rfl fun bv W2 eJ C2 j3 => ?_
 have j4 := C2.size
 have E := E.trans C2
 have j5 := eJ.lt
 replace eJ : Blk W2 bv 27 [(.int .i64 aS), (.slice ab aA.length ac), (.slice R saN.length S)] := eJ
 refine Zk rfl rfl ?_
 refine Xw rfl fun bw W3 eK C3 j6 => ?_
 have j7 := C3.size
 have E := E.trans C3
 have j8 := eK.lt
 replace eK : Blk W3 bw 27 [(.int .i64 bS), (.slice ad bA.length ae), (.slice T sbN.length U)] := eK
 refine Za rfl rfl (Ze rfl) (Za rfl rfl (Ze rfl) (Zf (Zb (H1 _ _ ?_))))
 refine Zg fun K4 H4 => ?_
 refine Zc (Za rfl rfl (Zd rfl) (Za rfl rfl (Zd rfl) (Za rfl rfl (Yt (parts := [(0, .tmp 18), (1, .tmp 19)]) (cells := [(.int .i64 s), (.int .i64 t), (.bool false), (.int .i64 0), (.int .i64 0)]) zr110 pl110 rfl rfl) (Zk rfl rfl ?_))))
 refine Zr (cs := GNode.cs) (parts := [(0, .tmp 20)]) (⟨0, 0, false, 0, 0⟩ : GNode) [(⟨s, t, false, 0, 0⟩ : GNode)] el111 sz110 zr110 GNode.len (by decide) rfl rfl rfl (by decide) (by decide) rfl fun iC W5 dJ dL C5 => ?_
 have j9 := C5.size
 have E := E.trans C5
 obtain ⟨c1, c2, rfl, hG, eZ⟩ := dJ.opn
 refine Za rfl rfl (Ze rfl) (Zf (Zb (H4 _ _ ?_)))
 refine Zg fun K6 H6 => ?_
 refine Zg fun K7 H7 => ?_
 refine Zc (Za rfl rfl (Ze rfl) (Zf (Zb (H7 _ _ ?_))))
 refine Yf ?_
 have dM : Ol GNode.cs 110 5 W5 (.slice c1 ([(⟨s, t, false, 0, 0⟩ : GNode)]).length c2) ([(⟨s, t, false, 0, 0⟩ : GNode)]) := by
  have hx := dJ
  exact hx
 have F9 := (eJ.ch0 C3).ch0 C5
 have iD := eK.ch0 C5
 refine Xo (σ := Nat × List GNode × Value) (fun ⟨k, L, kl⟩ => [(4, (.bool only)), (5, (.pointer (some ⟨bv, 0, none⟩))), (7, (.pointer (some ⟨bw, 0, none⟩))), (12, kl), (13, (.int .i64 ((k : Nat) : Int)))]) (fun ⟨k, L, kl⟩ wx => Ch [] w wx ∧ W5.heap.size ≤ wx.heap.size ∧ (k ≤ (bE (nxS aN bN) (⟨s, t⟩ : St2) k).length) ∧ (NdR L (bE (nxS aN bN) (⟨s, t⟩ : St2) k)) ∧ (∀ j x, j < k → (bE (nxS aN bN) (⟨s, t⟩ : St2) j)[j]? = some x → (tsD aA bA only) x.1 = false) ∧ Blk wx bv 27 [(.int .i64 aS), (.slice ab aA.length ac), (.slice R saN.length S)] ∧ Blk wx bw 27 [(.int .i64 bS), (.slice ad bA.length ae), (.slice T sbN.length U)] ∧ Ol GNode.cs 110 5 wx kl L ∧ Lo W3.heap.size kl) (fun ⟨k, L, kl⟩ => 170 - k) (0, [(⟨s, t, false, 0, 0⟩ : GNode)], (.slice c1 ([(⟨s, t, false, 0, 0⟩ : GNode)]).length c2)) (sC4 rfl rfl rfl rfl (sC1 rfl (Sub.nil _))) ⟨E, (Nat.le_refl _), (Nat.zero_le _), (Zwm (s := ⟨s, t⟩)), (fun _ _ h => absurd h om), F9, iD, dM, dL⟩ ?_
 rintro ⟨k, L, kl⟩ ka ⟨E, iE, kb, hL, hf, c3, c4, bC, aM⟩
 have a6 := E
 have hH := a6.size
 have e0 := c3.lt
 have e1 := c4.lt
 obtain ⟨Akl, Ckl, rfl, lkl, hikl⟩ := bC.opn
 have hlk := hle k
 have hLl := hL.len
 refine Zg fun kc iF => ?_
 refine Zg fun kd iG => ?_
 refine Zc (Za rfl rfl (Zd rfl) (Za rfl rfl (Zd rfl) (Za rfl rfl (Xm (by rw [el111]; rfl) rfl) (Za rfl rfl (Xv rfl rfl) (Zf (Zb (iG _ _ ?_)))))))
 refine Zx rfl (fun a7 => ?_) (fun a7 => ?_)
 ·have e2 := a7
  have a7 := Yo a7
  refine Zu ?_
  refine Zb (iF _ _ ?_)
  refine Zg fun ke dN => ?_
  refine Yf ?_
  refine Zg fun kf iH => ?_
  refine Yx [] 8 mixed rfl fun e3 bD => ?_
  have iI := bD.size
  have E := E.trans bD
  have eL := c3.ch0 bD
  refine dT 0 rfl rfl rfl (Zn eL.at_ (fun i hi => absurd hi List.not_mem_nil) agg27 sz27 rfl ?_)
  refine dV 1 rfl rfl rfl (fun _ => Zd rfl) (dV 2 rfl rfl rfl (fun _ => Zd rfl) ?_)
  have hI := bC.ch0 bD
  refine dT 3 rfl rfl rfl (Ql hI.ls GNode.len el111 sz110 rfl rfl rfl om fun e4 iJ dP dh => ?_)
  obtain ⟨c, e5, by31, o, rfl⟩ := Zgm hL dP
  replace dh : At e3 0 e3.heap.size e4 ([(.int .i64 c.1.a), (.int .i64 c.1.b), (.bool false), (.int .i64 e5), (.int .i64 by31)]) := dh
  have iK := hin k c (Yv o)
  refine dV 4 rfl rfl rfl (fun _ => Zh fa110_0 rfl) ?_
  refine dT 5 rfl rfl rfl (Xj dh (fun i hi => absurd hi List.not_mem_nil) agg3 rfl rfl ?_)
  refine dO 6 (Ye rfl rfl rfl ?_)
  have eM := (aR.ch0 a6).ch0 bD
  have eN := (aK.ch0 a6).ch0 bD
  have eO := (an.ch0 a6).ch0 bD
  refine Step.call (Zl (xs := [.tmp 28, .tmp 33]) fk89 rfl) (Zdf _ eM eO eN _ om) fun iL iM e6 => ?_
  obtain ⟨rfl, aJ⟩ := e6
  have iN := aJ.size
  have E := E.trans aJ
  have dQ : Ch [] e3 iM := ((Ch.refl _ _).trans aJ)
  refine ⟨dQ, ?_⟩
  refine dV 7 rfl rfl rfl (fun _ => Ze rfl) ?_
  refine Yb (by kernel_rfl) ?_
  refine Zb (iH _ _ ?_)
  refine Zg fun kg iO => ?_
  refine Yx [] 8 mixed rfl fun e7 aO => ?_
  have iP := aO.size
  have E := E.trans aO
  have eP := ((c4.ch0 bD).ch0 aJ).ch0 aO
  refine dT 0 rfl rfl rfl (Zn eP.at_ (fun i hi => absurd hi List.not_mem_nil) agg27 sz27 rfl ?_)
  refine dV 1 rfl rfl rfl (fun _ => Zd rfl) (dV 2 rfl rfl rfl (fun _ => Zd rfl) ?_)
  have dD := (hI.ch0 aJ).ch0 aO
  refine dT 3 rfl rfl rfl (Ql dD.ls GNode.len el111 sz110 rfl rfl rfl om fun e8 iQ dR di => ?_)
  obtain ⟨iR, e9, by38, fa, rfl⟩ := Zgm hL dR
  obtain rfl := Qj o fa
  replace di : At e7 0 e7.heap.size e8 ([(.int .i64 c.1.a), (.int .i64 c.1.b), (.bool false), (.int .i64 e9), (.int .i64 by38)]) := di
  refine dV 4 rfl rfl rfl (fun _ => Zh fa110_1 rfl) ?_
  refine dT 5 rfl rfl rfl (Xj di (fun i hi => absurd hi List.not_mem_nil) agg3 rfl rfl ?_)
  refine dO 6 (Ye rfl rfl rfl ?_)
  have eQ := (((aT.ch0 a6).ch0 bD).ch0 aJ).ch0 aO
  have eR := (((aL.ch0 a6).ch0 bD).ch0 aJ).ch0 aO
  have eS := (((ao.ch0 a6).ch0 bD).ch0 aJ).ch0 aO
  refine Step.call (Zl (xs := [.tmp 35, .tmp 40]) fk89 rfl) (Zdf _ eQ eS eR _ om) fun iS dj fb => ?_
  obtain ⟨rfl, Y⟩ := fb
  have iT := Y.size
  have E := E.trans Y
  have dU : Ch [] e7 dj := ((Ch.refl _ _).trans Y)
  refine ⟨dU, ?_⟩
  refine dV 7 rfl rfl rfl (fun _ => Ze rfl) ?_
  refine Yb (by kernel_rfl) ?_
  refine Zb (iO _ _ ?_)
  refine Zg fun kh dW => ?_
  refine Zg fun ki eT => ?_
  refine Zc (Za rfl rfl (Zd rfl) (Za rfl rfl (Zd rfl) ?_))
  refine Ym (d := 43) rfl (fun r => ?_) (fun r => ?_)
  ·have dk := r
   refine Za rfl rfl (Zd rfl) (Za rfl rfl (Xi rfl) (Za rfl rfl (Zw rfl rfl) (Za rfl rfl (Zd rfl) ?_)))
   refine Ym (d := 47) rfl (fun X => ?_) (fun X => ?_)
   ·have dX := X
    have X := Qf X
    refine Zj rfl rfl (Zj rfl rfl (Zj rfl rfl (Zj rfl rfl (Zj rfl rfl (Zj rfl rfl (Zj rfl rfl (Zj rfl rfl ?_)))))))
    refine Zj rfl rfl (Za rfl rfl (Zw rfl rfl) (Zf (Zb (eT _ _ ?_))))
    refine Xl rfl ?_
    refine Zg fun kj iU => ?_
    refine Zc (Za rfl rfl (Zd rfl) (Za rfl rfl (Zd rfl) (Zk rfl rfl ?_)))
    have iV := dD.ch0 Y
    refine Step.call (Zl (xs := [.tmp 58, .tmp 59]) fk90 rfl) (Zem iV.ls _ (bE (nxS aN bN) (⟨s, t⟩ : St2) k) hL om (fun x hx => by have iW := hwl k x hx; have iX := hle k; omega)) fun fc iY aP => ?_
    obtain ⟨aP, bF, hJ⟩ := aP
    have iZ := hJ.size
    have E := E.trans hJ
    obtain ⟨ap, aq, rfl, dY, dl⟩ := aP.opn
    refine Za rfl rfl (Ze rfl) (Za rfl rfl (Ze rfl) (Zf (Zb (iU _ _ ?_))))
    refine Zs (Zm (Yi (Zm (Zm (Yi (Zm ?_))))))
    clear H6 dN dW
    have dZ : Ol ics 3 1 iY (.slice ap (ndw (bE (nxS aN bN) (⟨s, t⟩ : St2) k) ((k : Nat) : Int)).length aq) ((difR aA aN bA bN ⟨s, t⟩ only).1) := by
     have hx := aP
     first | (rw [← Zav (Zam o (by unfold tsD; first | (simp [r, X]; done) | (simp [r, O, ak]; done) | (simp [r, O]; done)) hf), ← Zmf o]; exact hx) | (rw [← Zav (Zag (by have bG := hL.len; omega) hf)]; simpa using hx)
    exact Zi [_, _] ⟨rfl, ⟨rfl, trivial⟩⟩ ⟨(.slice ap (ndw (bE (nxS aN bN) (⟨s, t⟩ : St2) k) ((k : Nat) : Int)).length aq), (congrArg (fun zq => (Value.tuple #[(.slice ap (ndw (bE (nxS aN bN) (⟨s, t⟩ : St2) k) ((k : Nat) : Int)).length aq), .bool zq])) (by first | rw [← Zav (Zam o (by unfold tsD; first | (simp [r, X]; done) | (simp [r, O, ak]; done) | (simp [r, O]; done)) hf)] | rw [← Zav (Zag (by have bG := hL.len; omega) hf)])), dZ, (Lo.down bF om), E⟩
   have dX := X
   have X := Qg X
   refine Za rfl rfl (Zd rfl) (Za rfl rfl (Zd rfl) ?_)
   refine Zlm (d := 49) rfl (Zsi dX) ?_
   refine Za rfl rfl (Zd rfl) (Za rfl rfl (Xi rfl) (Za rfl rfl (Zw rfl rfl) (Za rfl rfl (Zd rfl) ?_)))
   refine Zqo (d := 53) rfl (congrArg Bool.not dk) ?_
   refine Zj rfl rfl (Zj rfl rfl (Za rfl rfl (Zv rfl rfl) (Za rfl rfl (Zv rfl rfl) (Zf (Zb (eT _ _ ?_))))))
   refine Xn rfl ?_
   refine Zu ?_
   refine Zb (dW _ _ ?_)
   refine Zg fun kk i0 => ?_
   refine Zc (Za rfl rfl (Ze rfl) (Zf (Zb (i0 _ _ ?_))))
   refine Yf ?_
   have i1 := dD.ch0 Y
   have dm : Ol GNode.cs 110 5 dj (.slice Akl (L).length Ckl) (L) := by
    have hx := i1
    exact hx
   have i2 := ((eL.ch0 aJ).ch0 aO).ch0 Y
   have i3 := ((eM.ch0 aJ).ch0 aO).ch0 Y
   have i4 := ((eO.ch0 aJ).ch0 aO).ch0 Y
   have i5 := ((eN.ch0 aJ).ch0 aO).ch0 Y
   have i6 := eP.ch0 Y
   have i7 := eQ.ch0 Y
   have i8 := eS.ch0 Y
   have i9 := eR.ch0 Y
   refine Xo (σ := Nat × List GNode × Value) (fun ⟨m, M, km⟩ => [(4, (.bool only)), (5, (.pointer (some ⟨bv, 0, none⟩))), (7, (.pointer (some ⟨bw, 0, none⟩))), (12, km), (13, (.int .i64 ((k : Nat) : Int))), (14, (.bool (Qy aA c.1.a))), (15, (.bool (Qy bA c.1.b))), (16, (.int .i64 ((m : Nat) : Int))), (25, (.bool (decide (((k : Nat) : Int) < ((L.length : Nat) : Int))))), (57, (.bool false))]) (fun ⟨m, M, km⟩ wx => Ch [] w wx ∧ dj.heap.size ≤ wx.heap.size ∧ (m ≤ 9) ∧ (NdR M (bx (nxS aN bN) c (bE (nxS aN bN) (⟨s, t⟩ : St2) k) m)) ∧ Blk wx bv 27 [(.int .i64 aS), (.slice ab aA.length ac), (.slice R saN.length S)] ∧ Ls bcs 1 wx LL_aA w.heap.size (.slice ab aA.length ac) aA ∧ Ls Sv.cs 1 wx LL_saN w.heap.size (.slice R saN.length S) saN ∧ Rd ics 1 wx LR_aN w.heap.size saN aN ∧ Blk wx bw 27 [(.int .i64 bS), (.slice ad bA.length ae), (.slice T sbN.length U)] ∧ Ls bcs 1 wx LL_bA w.heap.size (.slice ad bA.length ae) bA ∧ Ls Sv.cs 1 wx LL_sbN w.heap.size (.slice T sbN.length U) sbN ∧ Rd ics 1 wx LR_bN w.heap.size sbN bN ∧ Ol GNode.cs 110 5 wx km M ∧ Lo W3.heap.size km) (fun ⟨m, M, km⟩ => 9 - m) (0, L, (.slice Akl (L).length Ckl)) (sC8 rfl rfl rfl rfl rfl rfl rfl rfl (sC2 rfl rfl (Sub.nil _))) ⟨E, (Nat.le_refl _), om, hL, i2, i3, i4, i5, i6, i7, i8, i9, dm, aM⟩ ?_
   rintro ⟨m, M, km⟩ dE ⟨E, d0, hm, af, y, I, J, K, z, A, B, C, u, e⟩
   have bH := E
   have c5 := bH.size
   have bI := y.lt
   have bJ := z.lt
   obtain ⟨Akm, Ckm, rfl, lkm, hikm⟩ := u.opn
   have hK := af.len
   have hM := Zep (m := m) o
   refine Zg fun kn ja => ?_
   refine Zg fun ko jb => ?_
   refine Zc (Za rfl rfl (Zd rfl) (Za rfl rfl (Xv rfl rfl) (Zf (Zb (jb _ _ ?_)))))
   refine Zx rfl (fun D => ?_) (fun D => ?_)
   ·have fd := D
    have D := Yo D
    refine Zu ?_
    refine Zb (ja _ _ ?_)
    refine Zg fun kp hN => ?_
    refine Yf ?_
    refine Zg fun jc jd => ?_
    have bK : ∀ (lj : KL) (aQ : World) (ag : Nat), Go.KLib.Sub [(4, (.bool only)), (5, (.pointer (some ⟨bv, 0, none⟩))), (7, (.pointer (some ⟨bw, 0, none⟩))), (12, (.slice Akm (M).length Ckm)), (13, (.int .i64 ((k : Nat) : Int))), (14, (.bool (Qy aA c.1.a))), (15, (.bool (Qy bA c.1.b))), (16, (.int .i64 ((m : Nat) : Int))), (17, (.pointer (some ⟨ag, 0, none⟩))), (25, (.bool (decide (((k : Nat) : Int) < ((L.length : Nat) : Int))))), (57, (.bool false)), (61, (.int .i64 ((m : Nat) : Int))), (62, (.bool (decide (((m : Nat) : Int) < 9))))] lj → Ch [] dE aQ → Blk aQ ag 110 [(.int .i64 (Yd aN c.1.a ((m : Nat) : Int))), (.int .i64 (Yd bN c.1.b ((m : Nat) : Int))), (.bool false), (.int .i64 ((k : Nat) : Int)), (.int .i64 ((m : Nat) : Int))] → dE.heap.size ≤ ag → jc lj aQ := by
     intro lj aQ ag aU l F bL
     refine jd _ _ (Zon aU ?_)
     have d1 := l.size
     have E := E.trans l
     have bM := F.lt
     refine Zg fun kq je => ?_
     refine Zc (Za rfl rfl (Zd rfl) (Za rfl rfl (Zt F.at_ agg110 sz110 rfl) (Zk rfl rfl ?_)))
     have fe := u.ch0 l
     refine Step.call (Zl (xs := [.tmp 84, .tmp 85]) fk92 rfl) (Zdd fe.ls ⟨Yd aN c.1.a ((m : Nat) : Int), Yd bN c.1.b ((m : Nat) : Int), false, ((k : Nat) : Int), ((m : Nat) : Int)⟩ ) fun d2 jf bO => ?_
     obtain ⟨rfl, aD⟩ := bO
     have jg := aD.size
     have E := E.trans aD
     refine Za rfl rfl (Xi rfl) (Zf (Zb (je _ _ ?_)))
     refine Zx rfl (fun p => ?_) (fun p => ?_)
     ·have ff := p
      have p := bf_t (Qf p)
      have hO := af.len
      have hP := Zev (m := m) o om
      have d3 := hle (k + 1)
      refine Zc (Za rfl rfl (Zd rfl) ?_)
      have jh := F.ch0 aD
      refine Za rfl rfl (Zt jh.at_ agg110 sz110 rfl) (Zk rfl rfl ?_)
      refine Zr (cs := GNode.cs) (parts := [(0, .tmp 89)]) (⟨0, 0, false, 0, 0⟩ : GNode) [(⟨Yd aN c.1.a ((m : Nat) : Int), Yd bN c.1.b ((m : Nat) : Int), false, ((k : Nat) : Int), ((m : Nat) : Int)⟩ : GNode)] el111 sz110 zr110 GNode.len (by decide) rfl rfl rfl (by decide) (by decide) rfl fun d4 kr aV c6 bP => ?_
      have ji := bP.size
      have E := E.trans bP
      obtain ⟨c7, c8, rfl, c9, bQ⟩ := aV.opn
      refine Zk rfl rfl ?_
      have jj := (fe.ch0 aD).ch0 bP
      refine Yj (cs := GNode.cs) el111 sz110 by110 zr110 rfl (by decide) GNode.one jj aV.ls rfl rfl bd bd e om fun d5 jk aW aX da cy => ?_
      have jl := cy.size
      have E := E.step cy (fun i hi => .inl (by have ah := e _ hi; omega))
      obtain ⟨ai, aj, rfl, db, bR⟩ := aW.opn
      refine Za rfl rfl (Ze rfl) (Zf (Yc (Zb (hN _ _ (Zc (Za rfl rfl (Zd rfl) (Za rfl rfl (Yq om rfl rfl) (Za rfl rfl (Ze rfl) ?_))))))))
      refine Zf ?_
      have dn : Ol GNode.cs 110 5 jk (.slice ai ((M ++ [(⟨Yd aN c.1.a ((m : Nat) : Int), Yd bN c.1.b ((m : Nat) : Int), false, ((k : Nat) : Int), ((m : Nat) : Int)⟩ : GNode)])).length aj) ((M ++ [(⟨Yd aN c.1.a ((m : Nat) : Int), Yd bN c.1.b ((m : Nat) : Int), false, ((k : Nat) : Int), ((m : Nat) : Int)⟩ : GNode)])) := by
       have hx := aW
       exact hx
      have jm := (((y.ch0 l).ch0 aD).ch0 bP).ch cy (fun hm => by have ah := e _ hm; have d6 := hikm _ hm; omega)
      have jn := (((I.ch0 l).ch0 aD).ch0 bP).ch cy (fun i hi => by have ah := e _ hi; omega)
      have jo := (((J.ch0 l).ch0 aD).ch0 bP).ch cy (fun i hi => by have ah := e _ hi; omega)
      have jp := (((K.ch0 l).ch0 aD).ch0 bP).ch cy (fun i hi => by have ah := e _ hi; omega)
      have jq := (((z.ch0 l).ch0 aD).ch0 bP).ch cy (fun hm => by have ah := e _ hm; have d6 := hikm _ hm; omega)
      have jr := (((A.ch0 l).ch0 aD).ch0 bP).ch cy (fun i hi => by have ah := e _ hi; omega)
      have js := (((B.ch0 l).ch0 aD).ch0 bP).ch cy (fun i hi => by have ah := e _ hi; omega)
      have jt := (((C.ch0 l).ch0 aD).ch0 bP).ch cy (fun i hi => by have ah := e _ hi; omega)
      exact Zb (Exists.intro ((m + 1), (M ++ [(⟨Yd aN c.1.a ((m : Nat) : Int), Yd bN c.1.b ((m : Nat) : Int), false, ((k : Nat) : Int), ((m : Nat) : Int)⟩ : GNode)]), (.slice ai ((M ++ [(⟨Yd aN c.1.a ((m : Nat) : Int), Yd bN c.1.b ((m : Nat) : Int), false, ((k : Nat) : Int), ((m : Nat) : Int)⟩ : GNode)])).length aj)) ⟨⟨E, om, om, (by first | exact Zix af rfl rfl p | exact Zjb af rfl rfl p o), jm, jn, jo, jp, jq, jr, js, jt, dn, (Lo.down aX om)⟩, sC8 rfl rfl rfl rfl rfl rfl rfl rfl (sC2 rfl rfl (Sub.nil _)), (by first | omega | (dsimp only; omega))⟩)
     have ff := p
     have p := bt_t (Qg p)
     refine Zu ?_
     refine Yc (Zb (hN _ _ (Zc (Za rfl rfl (Zd rfl) (Za rfl rfl (Yq om rfl rfl) (Za rfl rfl (Ze rfl) (Zf ?_)))))))
     have ju := fe.ch0 aD
     have dp : Ol GNode.cs 110 5 jf (.slice Akm (M).length Ckm) (M) := by
      have hx := ju
      exact hx
     have jv := (y.ch0 l).ch0 aD
     have jw := (I.ch0 l).ch0 aD
     have jx := (J.ch0 l).ch0 aD
     have jy := (K.ch0 l).ch0 aD
     have jz := (z.ch0 l).ch0 aD
     have jA := (A.ch0 l).ch0 aD
     have jB := (B.ch0 l).ch0 aD
     have jC := (C.ch0 l).ch0 aD
     exact Zb (Exists.intro ((m + 1), M, (.slice Akm (M).length Ckm)) ⟨⟨E, om, om, (by first | exact Zix af rfl rfl p | exact Zjb af rfl rfl p o), jv, jw, jx, jy, jz, jA, jB, jC, dp, (Lo.down e om)⟩, sC8 rfl rfl rfl rfl rfl rfl rfl rfl (sC2 rfl rfl (Sub.nil _)), (by first | omega | (dsimp only; omega))⟩)
    refine Yx [] 21 mixed rfl fun a8 au => ?_
    have jD := au.size
    have E := E.trans au
    have jE := y.ch0 au
    refine dT 0 rfl rfl rfl (Zn jE.at_ (fun i hi => absurd hi List.not_mem_nil) agg27 sz27 rfl ?_)
    refine dV 1 rfl rfl rfl (fun _ => Zd rfl) (dV 2 rfl rfl rfl (fun _ => Zd rfl) ?_)
    have hQ := u.ch0 au
    refine dT 3 rfl rfl rfl (Ql hQ.ls GNode.len el111 sz110 rfl rfl rfl om fun bT d7 aY av => ?_)
    obtain ⟨d8, bU, by68, bV, rfl⟩ := Zgm af aY
    obtain rfl := Qj (Zby o) bV
    replace av : At a8 0 a8.heap.size bT ([(.int .i64 c.1.a), (.int .i64 c.1.b), (.bool false), (.int .i64 bU), (.int .i64 by68)]) := av
    refine dV 4 rfl rfl rfl (fun _ => Zh fa110_0 rfl) ?_
    refine dT 5 rfl rfl rfl (Xj av (fun i hi => absurd hi List.not_mem_nil) agg3 rfl rfl ?_)
    refine dV 6 rfl rfl rfl (fun _ => Zd rfl) ?_
    have jF := z.ch0 au
    refine dT 8 rfl rfl rfl (Zn jF.at_ (fun i hi => absurd hi List.not_mem_nil) agg27 sz27 rfl ?_)
    refine dV 9 rfl rfl rfl (fun _ => Zd rfl) (dV 10 rfl rfl rfl (fun _ => Zd rfl) ?_)
    refine dT 11 rfl rfl rfl (Ql hQ.ls GNode.len el111 sz110 rfl rfl rfl om fun bW d9 aZ aw => ?_)
    obtain ⟨ea, bX, by76, bY, rfl⟩ := Zgm af aZ
    obtain rfl := Qj (Zby o) bY
    replace aw : At a8 0 a8.heap.size bW ([(.int .i64 c.1.a), (.int .i64 c.1.b), (.bool false), (.int .i64 bX), (.int .i64 by76)]) := aw
    refine dV 12 rfl rfl rfl (fun _ => Zh fa110_1 rfl) ?_
    refine dT 13 rfl rfl rfl (Xj aw (fun i hi => absurd hi List.not_mem_nil) agg3 rfl rfl ?_)
    refine dV 14 rfl rfl rfl (fun _ => Zd rfl) (dV 16 rfl rfl rfl (fun _ => Zd rfl) (dV 17 rfl rfl rfl (fun _ => Zd rfl) ?_))
    refine Zau 7 19 (by kernel_rfl) ?_ ?_
    ·refine Ye rfl rfl rfl ?_
     have jG := I.ch0 au
     have jH := K.ch0 au
     have jI := J.ch0 au
     refine Step.call (Zl (xs := [.tmp 65, .tmp 70, .tmp 71]) fk91 rfl) (Xr _ jG jI jH _ _ hva om om) fun bZ jJ ax => ?_
     obtain ⟨rfl, b0⟩ := ax
     have jK := b0.size
     have E := E.trans b0
     have b1 : Ch [] a8 jJ := ((Ch.refl _ _).trans b0)
     refine ⟨b1, ?_⟩
     refine Zau 15 19 (by kernel_rfl) ?_ ?_
     ·refine Ye rfl rfl rfl ?_
      have jL := (A.ch0 au).ch0 b0
      have jM := (C.ch0 au).ch0 b0
      have jN := (B.ch0 au).ch0 b0
      refine Step.call (Zl (xs := [.tmp 73, .tmp 78, .tmp 79]) fk91 rfl) (Xr _ jL jN jM _ _ hvb om om) fun a0 fg V => ?_
      obtain ⟨rfl, cB⟩ := V
      have hR := cB.size
      have E := E.trans cB
      have b2 : Ch [] a8 fg := (b1.trans cB)
      refine ⟨b2, ?_⟩
      refine dV 18 rfl rfl rfl (fun _ => Yt (parts := [(0, .tmp 72), (1, .tmp 80), (3, .tmp 81), (4, .tmp 82)]) (cells := [(.int .i64 (Yd aN c.1.a ((m : Nat) : Int))), (.int .i64 (Yd bN c.1.b ((m : Nat) : Int))), (.bool false), (.int .i64 ((k : Nat) : Int)), (.int .i64 ((m : Nat) : Int))]) zr110 pl110 rfl rfl) (dO 19 (Ye rfl rfl rfl ?_))
      refine Yr zr110 fun q eb n cC a1 => ?_
      have hS := cC.size
      have E := E.trans cC
      have a2 := n.lt
      replace n : Blk eb q 110 [(.int .i64 0), (.int .i64 0), (.bool false), (.int .i64 0), (.int .i64 0)] := n
      have b3 : Ch [] a8 eb := (b2.trans cC)
      refine ⟨b3, ?_⟩
      refine dO 20 (Ye rfl rfl rfl ?_)
      refine Zy (off := 0) 5 n sz110 rfl (us := [(.int .i64 (Yd aN c.1.a ((m : Nat) : Int))), (.int .i64 (Yd bN c.1.b ((m : Nat) : Int))), (.bool false), (.int .i64 ((k : Nat) : Int)), (.int .i64 ((m : Nat) : Int))]) rfl rfl rfl rfl fun ec a9 cD => ?_
      have hT := cD.size
      have E := E.step cD (lS om)
      replace a9 : Blk ec q 110 [(.int .i64 (Yd aN c.1.a ((m : Nat) : Int))), (.int .i64 (Yd bN c.1.b ((m : Nat) : Int))), (.bool false), (.int .i64 ((k : Nat) : Int)), (.int .i64 ((m : Nat) : Int))] := a9
      have dq : Ch [] a8 ec := (b3.step cD (fun i hm => by have dc := List.mem_singleton.1 hm; left; omega))
      refine ⟨dq, ?_⟩
      refine Yb (by kernel_rfl) ?_
      refine Zb ?_
      exact bK _ _ q (sC8 rfl rfl rfl rfl rfl rfl rfl rfl (sC4 rfl rfl rfl rfl (sC1 rfl (Sub.nil _)))) ((((((Ch.refl [] dE).trans au).trans b0).trans cB).trans cC).step cD (lS om)) a9 om
     refine Ye rfl rfl rfl ?_
     refine Yr zr110 fun q ed n ba a1 => ?_
     have hU := ba.size
     have E := E.trans ba
     have a2 := n.lt
     replace n : Blk ed q 110 [(.int .i64 0), (.int .i64 0), (.bool false), (.int .i64 0), (.int .i64 0)] := n
     have b4 : Ch [] a8 ed := (b1.trans ba)
     refine ⟨b4, ?_⟩
     refine dO 15 (Ye rfl rfl rfl ?_)
     have fh := ((A.ch0 au).ch0 b0).ch0 ba
     have fi := ((C.ch0 au).ch0 b0).ch0 ba
     have fj := ((B.ch0 au).ch0 b0).ch0 ba
     refine Step.call (Zl (xs := [.tmp 73, .tmp 78, .tmp 79]) fk91 rfl) (Xr _ fh fj fi _ _ hvb om om) fun a0 fk V => ?_
     obtain ⟨rfl, b5⟩ := V
     have hV := b5.size
     have E := E.trans b5
     have b6 : Ch [] a8 fk := (b4.trans b5)
     refine ⟨b6, ?_⟩
     refine dV 18 rfl rfl rfl (fun _ => Yt (parts := [(0, .tmp 72), (1, .tmp 80), (3, .tmp 81), (4, .tmp 82)]) (cells := [(.int .i64 (Yd aN c.1.a ((m : Nat) : Int))), (.int .i64 (Yd bN c.1.b ((m : Nat) : Int))), (.bool false), (.int .i64 ((k : Nat) : Int)), (.int .i64 ((m : Nat) : Int))]) zr110 pl110 rfl rfl) (dO 20 (Ye rfl rfl rfl ?_))
     have fl := n.ch0 b5
     refine Zy (off := 0) 5 fl sz110 rfl (us := [(.int .i64 (Yd aN c.1.a ((m : Nat) : Int))), (.int .i64 (Yd bN c.1.b ((m : Nat) : Int))), (.bool false), (.int .i64 ((k : Nat) : Int)), (.int .i64 ((m : Nat) : Int))]) rfl rfl rfl rfl fun ee bb cE => ?_
     have hW := cE.size
     have E := E.step cE (lS om)
     replace bb : Blk ee q 110 [(.int .i64 (Yd aN c.1.a ((m : Nat) : Int))), (.int .i64 (Yd bN c.1.b ((m : Nat) : Int))), (.bool false), (.int .i64 ((k : Nat) : Int)), (.int .i64 ((m : Nat) : Int))] := bb
     have dr : Ch [] a8 ee := (b6.step cE (fun i hm => by have dc := List.mem_singleton.1 hm; left; omega))
     refine ⟨dr, ?_⟩
     refine Yb (by kernel_rfl) ?_
     refine Zb ?_
     exact bK _ _ q (sC8 rfl rfl rfl rfl rfl rfl rfl rfl (sC4 rfl rfl rfl rfl (sC1 rfl (Sub.nil _)))) ((((((Ch.refl [] dE).trans au).trans b0).trans ba).trans b5).step cE (lS om)) bb om
    refine Ye rfl rfl rfl ?_
    refine Yr zr110 fun q ef n aE a1 => ?_
    have hX := aE.size
    have E := E.trans aE
    have a2 := n.lt
    replace n : Blk ef q 110 [(.int .i64 0), (.int .i64 0), (.bool false), (.int .i64 0), (.int .i64 0)] := n
    have b7 : Ch [] a8 ef := ((Ch.refl _ _).trans aE)
    refine ⟨b7, ?_⟩
    refine dO 7 (Ye rfl rfl rfl ?_)
    have fm := (I.ch0 au).ch0 aE
    have fn := (K.ch0 au).ch0 aE
    have fo := (J.ch0 au).ch0 aE
    refine Step.call (Zl (xs := [.tmp 65, .tmp 70, .tmp 71]) fk91 rfl) (Xr _ fm fo fn _ _ hva om om) fun bZ fp ax => ?_
    obtain ⟨rfl, a3⟩ := ax
    have hY := a3.size
    have E := E.trans a3
    have b8 : Ch [] a8 fp := (b7.trans a3)
    refine ⟨b8, ?_⟩
    refine dO 15 (Ye rfl rfl rfl ?_)
    have fq := ((A.ch0 au).ch0 aE).ch0 a3
    have fr := ((C.ch0 au).ch0 aE).ch0 a3
    have fs := ((B.ch0 au).ch0 aE).ch0 a3
    refine Step.call (Zl (xs := [.tmp 73, .tmp 78, .tmp 79]) fk91 rfl) (Xr _ fq fs fr _ _ hvb om om) fun a0 ft V => ?_
    obtain ⟨rfl, b9⟩ := V
    have hZ := b9.size
    have E := E.trans b9
    have ca : Ch [] a8 ft := (b8.trans b9)
    refine ⟨ca, ?_⟩
    refine dV 18 rfl rfl rfl (fun _ => Yt (parts := [(0, .tmp 72), (1, .tmp 80), (3, .tmp 81), (4, .tmp 82)]) (cells := [(.int .i64 (Yd aN c.1.a ((m : Nat) : Int))), (.int .i64 (Yd bN c.1.b ((m : Nat) : Int))), (.bool false), (.int .i64 ((k : Nat) : Int)), (.int .i64 ((m : Nat) : Int))]) zr110 pl110 rfl rfl) (dO 20 (Ye rfl rfl rfl ?_))
    have fu := (n.ch0 a3).ch0 b9
    refine Zy (off := 0) 5 fu sz110 rfl (us := [(.int .i64 (Yd aN c.1.a ((m : Nat) : Int))), (.int .i64 (Yd bN c.1.b ((m : Nat) : Int))), (.bool false), (.int .i64 ((k : Nat) : Int)), (.int .i64 ((m : Nat) : Int))]) rfl rfl rfl rfl fun eg bc cF => ?_
    have h0 := cF.size
    have E := E.step cF (lS om)
    replace bc : Blk eg q 110 [(.int .i64 (Yd aN c.1.a ((m : Nat) : Int))), (.int .i64 (Yd bN c.1.b ((m : Nat) : Int))), (.bool false), (.int .i64 ((k : Nat) : Int)), (.int .i64 ((m : Nat) : Int))] := bc
    have ds : Ch [] a8 eg := (ca.step cF (fun i hm => by have dc := List.mem_singleton.1 hm; left; omega))
    refine ⟨ds, ?_⟩
    refine Yb (by kernel_rfl) ?_
    refine Zb ?_
    exact bK _ _ q (sC8 rfl rfl rfl rfl rfl rfl rfl rfl (sC4 rfl rfl rfl rfl (sC1 rfl (Sub.nil _)))) ((((((Ch.refl [] dE).trans au).trans aE).trans a3).trans b9).step cF (lS om)) bc om
   have fd := D
   have D := Yp D
   refine Xk (Ya (Ya (Xd ?_)))
   refine Yc (Zb (dN _ _ (Zc (Za rfl rfl (Zd rfl) (Za rfl rfl (Yq om rfl rfl) (Za rfl rfl (Ze rfl) (Zf ?_)))))))
   have cG : Ol GNode.cs 110 5 dE (.slice Akm (M).length Ckm) (M) := by
    have hx := u
    exact hx
   exact Zb (Exists.intro ((k + 1), M, (.slice Akm (M).length Ckm)) ⟨⟨E, om, (by have bG := Zep (m := 9) o; rw [← Zah o] at bG; omega), (by rw [Zah o, show 9 = m by omega]; exact af), (Zdx hf o (by unfold tsD; first | (simp [r, X]; done) | (simp [r, O, ak]; done) | (simp [r, O]; done))), y, z, cG, (Lo.down e om)⟩, sC4 rfl rfl rfl rfl (sC1 rfl (Sub.nil _)), (by first | omega | (dsimp only; omega))⟩)
  have dk := r
  refine Zj rfl rfl (Zj rfl rfl (Za rfl rfl (Zv rfl rfl) (Za rfl rfl (Zd rfl) (Za rfl rfl (Zd rfl) (Za rfl rfl (Zd rfl) ?_)))))
  refine Ym (d := 49) rfl (fun O => ?_) (fun O => ?_)
  ·have eh := O
   refine Za rfl rfl (Zd rfl) (Za rfl rfl (Xi rfl) (Za rfl rfl (Zw rfl rfl) (Za rfl rfl (Zd rfl) ?_)))
   refine Zlm (d := 53) rfl (congrArg Bool.not dk) ?_
   refine Za rfl rfl (Zd rfl) (Za rfl rfl (Xi rfl) (Za rfl rfl (Zw rfl rfl) (Za rfl rfl (Zv rfl rfl) (Zf (Zb (eT _ _ ?_))))))
   refine Zx rfl (fun ak => ?_) (fun ak => ?_)
   ·have ei := ak
    refine Zg fun jO fv => ?_
    refine Zc (Za rfl rfl (Zd rfl) (Za rfl rfl (Zd rfl) (Zk rfl rfl ?_)))
    have fw := dD.ch0 Y
    refine Step.call (Zl (xs := [.tmp 58, .tmp 59]) fk90 rfl) (Zem fw.ls _ (bE (nxS aN bN) (⟨s, t⟩ : St2) k) hL om (fun x hx => by have iW := hwl k x hx; have iX := hle k; omega)) fun fc fx aP => ?_
    obtain ⟨aP, bF, ej⟩ := aP
    have h1 := ej.size
    have E := E.trans ej
    obtain ⟨ap, aq, rfl, dY, dl⟩ := aP.opn
    refine Za rfl rfl (Ze rfl) (Za rfl rfl (Ze rfl) (Zf (Zb (fv _ _ ?_))))
    refine Zs (Zm (Yi (Zm (Zm (Yi (Zm ?_))))))
    clear H6 dN dW
    have dt : Ol ics 3 1 fx (.slice ap (ndw (bE (nxS aN bN) (⟨s, t⟩ : St2) k) ((k : Nat) : Int)).length aq) ((difR aA aN bA bN ⟨s, t⟩ only).1) := by
     have hx := aP
     first | (rw [← Zav (Zam o (by unfold tsD; first | (simp [r, X]; done) | (simp [r, O, ak]; done) | (simp [r, O]; done)) hf), ← Zmf o]; exact hx) | (rw [← Zav (Zag (by have bG := hL.len; omega) hf)]; simpa using hx)
    exact Zi [_, _] ⟨rfl, ⟨rfl, trivial⟩⟩ ⟨(.slice ap (ndw (bE (nxS aN bN) (⟨s, t⟩ : St2) k) ((k : Nat) : Int)).length aq), (congrArg (fun zq => (Value.tuple #[(.slice ap (ndw (bE (nxS aN bN) (⟨s, t⟩ : St2) k) ((k : Nat) : Int)).length aq), .bool zq])) (by first | rw [← Zav (Zam o (by unfold tsD; first | (simp [r, X]; done) | (simp [r, O, ak]; done) | (simp [r, O]; done)) hf)] | rw [← Zav (Zag (by have bG := hL.len; omega) hf)])), dt, (Lo.down bF om), E⟩
   have ei := ak
   refine Zu ?_
   refine Zb (dW _ _ ?_)
   refine Zg fun jP fy => ?_
   refine Zc (Za rfl rfl (Ze rfl) (Zf (Zb (fy _ _ ?_))))
   refine Yf ?_
   have fz := dD.ch0 Y
   have cH : Ol GNode.cs 110 5 dj (.slice Akl (L).length Ckl) (L) := by
    have hx := fz
    exact hx
   have fA := ((eL.ch0 aJ).ch0 aO).ch0 Y
   have fB := ((eM.ch0 aJ).ch0 aO).ch0 Y
   have fC := ((eO.ch0 aJ).ch0 aO).ch0 Y
   have fD := ((eN.ch0 aJ).ch0 aO).ch0 Y
   have fE := eP.ch0 Y
   have fF := eQ.ch0 Y
   have fG := eS.ch0 Y
   have fH := eR.ch0 Y
   refine Xo (σ := Nat × List GNode × Value) (fun ⟨m, M, km⟩ => [(4, (.bool only)), (5, (.pointer (some ⟨bv, 0, none⟩))), (7, (.pointer (some ⟨bw, 0, none⟩))), (12, km), (13, (.int .i64 ((k : Nat) : Int))), (14, (.bool (Qy aA c.1.a))), (15, (.bool (Qy bA c.1.b))), (16, (.int .i64 ((m : Nat) : Int))), (25, (.bool (decide (((k : Nat) : Int) < ((L.length : Nat) : Int))))), (57, (.bool (!only)))]) (fun ⟨m, M, km⟩ wx => Ch [] w wx ∧ dj.heap.size ≤ wx.heap.size ∧ (m ≤ 9) ∧ (NdR M (bx (nxS aN bN) c (bE (nxS aN bN) (⟨s, t⟩ : St2) k) m)) ∧ Blk wx bv 27 [(.int .i64 aS), (.slice ab aA.length ac), (.slice R saN.length S)] ∧ Ls bcs 1 wx LL_aA w.heap.size (.slice ab aA.length ac) aA ∧ Ls Sv.cs 1 wx LL_saN w.heap.size (.slice R saN.length S) saN ∧ Rd ics 1 wx LR_aN w.heap.size saN aN ∧ Blk wx bw 27 [(.int .i64 bS), (.slice ad bA.length ae), (.slice T sbN.length U)] ∧ Ls bcs 1 wx LL_bA w.heap.size (.slice ad bA.length ae) bA ∧ Ls Sv.cs 1 wx LL_sbN w.heap.size (.slice T sbN.length U) sbN ∧ Rd ics 1 wx LR_bN w.heap.size sbN bN ∧ Ol GNode.cs 110 5 wx km M ∧ Lo W3.heap.size km) (fun ⟨m, M, km⟩ => 9 - m) (0, L, (.slice Akl (L).length Ckl)) (sC8 rfl rfl rfl rfl rfl rfl rfl rfl (sC2 rfl rfl (Sub.nil _))) ⟨E, (Nat.le_refl _), om, hL, fA, fB, fC, fD, fE, fF, fG, fH, cH, aM⟩ ?_
   rintro ⟨m, M, km⟩ bs ⟨E, d0, hm, af, y, I, J, K, z, A, B, C, u, e⟩
   have bH := E
   have c5 := bH.size
   have bI := y.lt
   have bJ := z.lt
   obtain ⟨Akm, Ckm, rfl, lkm, hikm⟩ := u.opn
   have hK := af.len
   have hM := Zep (m := m) o
   refine Zg fun jQ fI => ?_
   refine Zg fun jR fJ => ?_
   refine Zc (Za rfl rfl (Zd rfl) (Za rfl rfl (Xv rfl rfl) (Zf (Zb (fJ _ _ ?_)))))
   refine Zx rfl (fun D => ?_) (fun D => ?_)
   ·have ek := D
    have D := Yo D
    refine Zu ?_
    refine Zb (fI _ _ ?_)
    refine Zg fun jS el => ?_
    refine Yf ?_
    refine Zg fun fK fL => ?_
    have be : ∀ (lj : KL) (al : World) (ag : Nat), Go.KLib.Sub [(4, (.bool only)), (5, (.pointer (some ⟨bv, 0, none⟩))), (7, (.pointer (some ⟨bw, 0, none⟩))), (12, (.slice Akm (M).length Ckm)), (13, (.int .i64 ((k : Nat) : Int))), (14, (.bool (Qy aA c.1.a))), (15, (.bool (Qy bA c.1.b))), (16, (.int .i64 ((m : Nat) : Int))), (17, (.pointer (some ⟨ag, 0, none⟩))), (25, (.bool (decide (((k : Nat) : Int) < ((L.length : Nat) : Int))))), (57, (.bool (!only))), (61, (.int .i64 ((m : Nat) : Int))), (62, (.bool (decide (((m : Nat) : Int) < 9))))] lj → Ch [] bs al → Blk al ag 110 [(.int .i64 (Yd aN c.1.a ((m : Nat) : Int))), (.int .i64 (Yd bN c.1.b ((m : Nat) : Int))), (.bool false), (.int .i64 ((k : Nat) : Int)), (.int .i64 ((m : Nat) : Int))] → bs.heap.size ≤ ag → fK lj al := by
     intro lj al ag aU f F bL
     refine fL _ _ (Zon aU ?_)
     have dF := f.size
     have E := E.trans f
     have bM := F.lt
     refine Zg fun jT fM => ?_
     refine Zc (Za rfl rfl (Zd rfl) (Za rfl rfl (Zt F.at_ agg110 sz110 rfl) (Zk rfl rfl ?_)))
     have du := u.ch0 f
     refine Step.call (Zl (xs := [.tmp 84, .tmp 85]) fk92 rfl) (Zdd du.ls ⟨Yd aN c.1.a ((m : Nat) : Int), Yd bN c.1.b ((m : Nat) : Int), false, ((k : Nat) : Int), ((m : Nat) : Int)⟩ ) fun d2 fN bO => ?_
     obtain ⟨rfl, P⟩ := bO
     have h2 := P.size
     have E := E.trans P
     refine Za rfl rfl (Xi rfl) (Zf (Zb (fM _ _ ?_)))
     refine Zx rfl (fun p => ?_) (fun p => ?_)
     ·have em := p
      have p := bf_t (Qf p)
      have hO := af.len
      have hP := Zev (m := m) o om
      have d3 := hle (k + 1)
      refine Zc (Za rfl rfl (Zd rfl) ?_)
      have fO := F.ch0 P
      refine Za rfl rfl (Zt fO.at_ agg110 sz110 rfl) (Zk rfl rfl ?_)
      refine Zr (cs := GNode.cs) (parts := [(0, .tmp 89)]) (⟨0, 0, false, 0, 0⟩ : GNode) [(⟨Yd aN c.1.a ((m : Nat) : Int), Yd bN c.1.b ((m : Nat) : Int), false, ((k : Nat) : Int), ((m : Nat) : Int)⟩ : GNode)] el111 sz110 zr110 GNode.len (by decide) rfl rfl rfl (by decide) (by decide) rfl fun d4 jU aV c6 ay => ?_
      have h3 := ay.size
      have E := E.trans ay
      obtain ⟨c7, c8, rfl, c9, bQ⟩ := aV.opn
      refine Zk rfl rfl ?_
      have fP := (du.ch0 P).ch0 ay
      refine Yj (cs := GNode.cs) el111 sz110 by110 zr110 rfl (by decide) GNode.one fP aV.ls rfl rfl bd bd e om fun d5 fQ aW aX da aF => ?_
      have h4 := aF.size
      have E := E.step aF (fun i hi => .inl (by have ah := e _ hi; omega))
      obtain ⟨ai, aj, rfl, db, bR⟩ := aW.opn
      refine Za rfl rfl (Ze rfl) (Zf (Yc (Zb (el _ _ (Zc (Za rfl rfl (Zd rfl) (Za rfl rfl (Yq om rfl rfl) (Za rfl rfl (Ze rfl) ?_))))))))
      refine Zf ?_
      have cI : Ol GNode.cs 110 5 fQ (.slice ai ((M ++ [(⟨Yd aN c.1.a ((m : Nat) : Int), Yd bN c.1.b ((m : Nat) : Int), false, ((k : Nat) : Int), ((m : Nat) : Int)⟩ : GNode)])).length aj) ((M ++ [(⟨Yd aN c.1.a ((m : Nat) : Int), Yd bN c.1.b ((m : Nat) : Int), false, ((k : Nat) : Int), ((m : Nat) : Int)⟩ : GNode)])) := by
       have hx := aW
       exact hx
      have fR := (((y.ch0 f).ch0 P).ch0 ay).ch aF (fun hm => by have ah := e _ hm; have d6 := hikm _ hm; omega)
      have fS := (((I.ch0 f).ch0 P).ch0 ay).ch aF (fun i hi => by have ah := e _ hi; omega)
      have fT := (((J.ch0 f).ch0 P).ch0 ay).ch aF (fun i hi => by have ah := e _ hi; omega)
      have fU := (((K.ch0 f).ch0 P).ch0 ay).ch aF (fun i hi => by have ah := e _ hi; omega)
      have fV := (((z.ch0 f).ch0 P).ch0 ay).ch aF (fun hm => by have ah := e _ hm; have d6 := hikm _ hm; omega)
      have fW := (((A.ch0 f).ch0 P).ch0 ay).ch aF (fun i hi => by have ah := e _ hi; omega)
      have fX := (((B.ch0 f).ch0 P).ch0 ay).ch aF (fun i hi => by have ah := e _ hi; omega)
      have fY := (((C.ch0 f).ch0 P).ch0 ay).ch aF (fun i hi => by have ah := e _ hi; omega)
      exact Zb (Exists.intro ((m + 1), (M ++ [(⟨Yd aN c.1.a ((m : Nat) : Int), Yd bN c.1.b ((m : Nat) : Int), false, ((k : Nat) : Int), ((m : Nat) : Int)⟩ : GNode)]), (.slice ai ((M ++ [(⟨Yd aN c.1.a ((m : Nat) : Int), Yd bN c.1.b ((m : Nat) : Int), false, ((k : Nat) : Int), ((m : Nat) : Int)⟩ : GNode)])).length aj)) ⟨⟨E, om, om, (by first | exact Zix af rfl rfl p | exact Zjb af rfl rfl p o), fR, fS, fT, fU, fV, fW, fX, fY, cI, (Lo.down aX om)⟩, sC8 rfl rfl rfl rfl rfl rfl rfl rfl (sC2 rfl rfl (Sub.nil _)), (by first | omega | (dsimp only; omega))⟩)
     have em := p
     have p := bt_t (Qg p)
     refine Zu ?_
     refine Yc (Zb (el _ _ (Zc (Za rfl rfl (Zd rfl) (Za rfl rfl (Yq om rfl rfl) (Za rfl rfl (Ze rfl) (Zf ?_)))))))
     have fZ := du.ch0 P
     have cJ : Ol GNode.cs 110 5 fN (.slice Akm (M).length Ckm) (M) := by
      have hx := fZ
      exact hx
     have f0 := (y.ch0 f).ch0 P
     have f1 := (I.ch0 f).ch0 P
     have f2 := (J.ch0 f).ch0 P
     have f3 := (K.ch0 f).ch0 P
     have f4 := (z.ch0 f).ch0 P
     have f5 := (A.ch0 f).ch0 P
     have f6 := (B.ch0 f).ch0 P
     have f7 := (C.ch0 f).ch0 P
     exact Zb (Exists.intro ((m + 1), M, (.slice Akm (M).length Ckm)) ⟨⟨E, om, om, (by first | exact Zix af rfl rfl p | exact Zjb af rfl rfl p o), f0, f1, f2, f3, f4, f5, f6, f7, cJ, (Lo.down e om)⟩, sC8 rfl rfl rfl rfl rfl rfl rfl rfl (sC2 rfl rfl (Sub.nil _)), (by first | omega | (dsimp only; omega))⟩)
    refine Yx [] 21 mixed rfl fun Z G => ?_
    have h5 := G.size
    have E := E.trans G
    have f8 := y.ch0 G
    refine dT 0 rfl rfl rfl (Zn f8.at_ (fun i hi => absurd hi List.not_mem_nil) agg27 sz27 rfl ?_)
    refine dV 1 rfl rfl rfl (fun _ => Zd rfl) (dV 2 rfl rfl rfl (fun _ => Zd rfl) ?_)
    have en := u.ch0 G
    refine dT 3 rfl rfl rfl (Ql en.ls GNode.len el111 sz110 rfl rfl rfl om fun bT d7 aY av => ?_)
    obtain ⟨d8, bU, by68, bV, rfl⟩ := Zgm af aY
    obtain rfl := Qj (Zby o) bV
    replace av : At Z 0 Z.heap.size bT ([(.int .i64 c.1.a), (.int .i64 c.1.b), (.bool false), (.int .i64 bU), (.int .i64 by68)]) := av
    refine dV 4 rfl rfl rfl (fun _ => Zh fa110_0 rfl) ?_
    refine dT 5 rfl rfl rfl (Xj av (fun i hi => absurd hi List.not_mem_nil) agg3 rfl rfl ?_)
    refine dV 6 rfl rfl rfl (fun _ => Zd rfl) ?_
    have f9 := z.ch0 G
    refine dT 8 rfl rfl rfl (Zn f9.at_ (fun i hi => absurd hi List.not_mem_nil) agg27 sz27 rfl ?_)
    refine dV 9 rfl rfl rfl (fun _ => Zd rfl) (dV 10 rfl rfl rfl (fun _ => Zd rfl) ?_)
    refine dT 11 rfl rfl rfl (Ql en.ls GNode.len el111 sz110 rfl rfl rfl om fun bW d9 aZ aw => ?_)
    obtain ⟨ea, bX, by76, bY, rfl⟩ := Zgm af aZ
    obtain rfl := Qj (Zby o) bY
    replace aw : At Z 0 Z.heap.size bW ([(.int .i64 c.1.a), (.int .i64 c.1.b), (.bool false), (.int .i64 bX), (.int .i64 by76)]) := aw
    refine dV 12 rfl rfl rfl (fun _ => Zh fa110_1 rfl) ?_
    refine dT 13 rfl rfl rfl (Xj aw (fun i hi => absurd hi List.not_mem_nil) agg3 rfl rfl ?_)
    refine dV 14 rfl rfl rfl (fun _ => Zd rfl) (dV 16 rfl rfl rfl (fun _ => Zd rfl) (dV 17 rfl rfl rfl (fun _ => Zd rfl) ?_))
    refine Zau 7 19 (by kernel_rfl) ?_ ?_
    ·refine Ye rfl rfl rfl ?_
     have ga := I.ch0 G
     have gb := K.ch0 G
     have gc := J.ch0 G
     refine Step.call (Zl (xs := [.tmp 65, .tmp 70, .tmp 71]) fk91 rfl) (Xr _ ga gc gb _ _ hva om om) fun bZ gd ax => ?_
     obtain ⟨rfl, az⟩ := ax
     have h6 := az.size
     have E := E.trans az
     have bf : Ch [] Z gd := ((Ch.refl _ _).trans az)
     refine ⟨bf, ?_⟩
     refine Zau 15 19 (by kernel_rfl) ?_ ?_
     ·refine Ye rfl rfl rfl ?_
      have ge := (A.ch0 G).ch0 az
      have gf := (C.ch0 G).ch0 az
      have gg := (B.ch0 G).ch0 az
      refine Step.call (Zl (xs := [.tmp 73, .tmp 78, .tmp 79]) fk91 rfl) (Xr _ ge gg gf _ _ hvb om om) fun a0 gh V => ?_
      obtain ⟨rfl, cK⟩ := V
      have h7 := cK.size
      have E := E.trans cK
      have cb : Ch [] Z gh := (bf.trans cK)
      refine ⟨cb, ?_⟩
      refine dV 18 rfl rfl rfl (fun _ => Yt (parts := [(0, .tmp 72), (1, .tmp 80), (3, .tmp 81), (4, .tmp 82)]) (cells := [(.int .i64 (Yd aN c.1.a ((m : Nat) : Int))), (.int .i64 (Yd bN c.1.b ((m : Nat) : Int))), (.bool false), (.int .i64 ((k : Nat) : Int)), (.int .i64 ((m : Nat) : Int))]) zr110 pl110 rfl rfl) (dO 19 (Ye rfl rfl rfl ?_))
      refine Yr zr110 fun q eo n cL a1 => ?_
      have h8 := cL.size
      have E := E.trans cL
      have a2 := n.lt
      replace n : Blk eo q 110 [(.int .i64 0), (.int .i64 0), (.bool false), (.int .i64 0), (.int .i64 0)] := n
      have cc : Ch [] Z eo := (cb.trans cL)
      refine ⟨cc, ?_⟩
      refine dO 20 (Ye rfl rfl rfl ?_)
      refine Zy (off := 0) 5 n sz110 rfl (us := [(.int .i64 (Yd aN c.1.a ((m : Nat) : Int))), (.int .i64 (Yd bN c.1.b ((m : Nat) : Int))), (.bool false), (.int .i64 ((k : Nat) : Int)), (.int .i64 ((m : Nat) : Int))]) rfl rfl rfl rfl fun ep bg cM => ?_
      have h9 := cM.size
      have E := E.step cM (lS om)
      replace bg : Blk ep q 110 [(.int .i64 (Yd aN c.1.a ((m : Nat) : Int))), (.int .i64 (Yd bN c.1.b ((m : Nat) : Int))), (.bool false), (.int .i64 ((k : Nat) : Int)), (.int .i64 ((m : Nat) : Int))] := bg
      have dv : Ch [] Z ep := (cc.step cM (fun i hm => by have dc := List.mem_singleton.1 hm; left; omega))
      refine ⟨dv, ?_⟩
      refine Yb (by kernel_rfl) ?_
      refine Zb ?_
      exact be _ _ q (sC8 rfl rfl rfl rfl rfl rfl rfl rfl (sC4 rfl rfl rfl rfl (sC1 rfl (Sub.nil _)))) ((((((Ch.refl [] bs).trans G).trans az).trans cK).trans cL).step cM (lS om)) bg om
     refine Ye rfl rfl rfl ?_
     refine Yr zr110 fun q er n bh a1 => ?_
     have ia := bh.size
     have E := E.trans bh
     have a2 := n.lt
     replace n : Blk er q 110 [(.int .i64 0), (.int .i64 0), (.bool false), (.int .i64 0), (.int .i64 0)] := n
     have cd : Ch [] Z er := (bf.trans bh)
     refine ⟨cd, ?_⟩
     refine dO 15 (Ye rfl rfl rfl ?_)
     have gi := ((A.ch0 G).ch0 az).ch0 bh
     have gj := ((C.ch0 G).ch0 az).ch0 bh
     have gk := ((B.ch0 G).ch0 az).ch0 bh
     refine Step.call (Zl (xs := [.tmp 73, .tmp 78, .tmp 79]) fk91 rfl) (Xr _ gi gk gj _ _ hvb om om) fun a0 gl V => ?_
     obtain ⟨rfl, ce⟩ := V
     have ib := ce.size
     have E := E.trans ce
     have cf : Ch [] Z gl := (cd.trans ce)
     refine ⟨cf, ?_⟩
     refine dV 18 rfl rfl rfl (fun _ => Yt (parts := [(0, .tmp 72), (1, .tmp 80), (3, .tmp 81), (4, .tmp 82)]) (cells := [(.int .i64 (Yd aN c.1.a ((m : Nat) : Int))), (.int .i64 (Yd bN c.1.b ((m : Nat) : Int))), (.bool false), (.int .i64 ((k : Nat) : Int)), (.int .i64 ((m : Nat) : Int))]) zr110 pl110 rfl rfl) (dO 20 (Ye rfl rfl rfl ?_))
     have gm := n.ch0 ce
     refine Zy (off := 0) 5 gm sz110 rfl (us := [(.int .i64 (Yd aN c.1.a ((m : Nat) : Int))), (.int .i64 (Yd bN c.1.b ((m : Nat) : Int))), (.bool false), (.int .i64 ((k : Nat) : Int)), (.int .i64 ((m : Nat) : Int))]) rfl rfl rfl rfl fun es bi cN => ?_
     have ic := cN.size
     have E := E.step cN (lS om)
     replace bi : Blk es q 110 [(.int .i64 (Yd aN c.1.a ((m : Nat) : Int))), (.int .i64 (Yd bN c.1.b ((m : Nat) : Int))), (.bool false), (.int .i64 ((k : Nat) : Int)), (.int .i64 ((m : Nat) : Int))] := bi
     have dw : Ch [] Z es := (cf.step cN (fun i hm => by have dc := List.mem_singleton.1 hm; left; omega))
     refine ⟨dw, ?_⟩
     refine Yb (by kernel_rfl) ?_
     refine Zb ?_
     exact be _ _ q (sC8 rfl rfl rfl rfl rfl rfl rfl rfl (sC4 rfl rfl rfl rfl (sC1 rfl (Sub.nil _)))) ((((((Ch.refl [] bs).trans G).trans az).trans bh).trans ce).step cN (lS om)) bi om
    refine Ye rfl rfl rfl ?_
    refine Yr zr110 fun q et n aG a1 => ?_
    have ie := aG.size
    have E := E.trans aG
    have a2 := n.lt
    replace n : Blk et q 110 [(.int .i64 0), (.int .i64 0), (.bool false), (.int .i64 0), (.int .i64 0)] := n
    have cg : Ch [] Z et := ((Ch.refl _ _).trans aG)
    refine ⟨cg, ?_⟩
    refine dO 7 (Ye rfl rfl rfl ?_)
    have gn := (I.ch0 G).ch0 aG
    have gp := (K.ch0 G).ch0 aG
    have gq := (J.ch0 G).ch0 aG
    refine Step.call (Zl (xs := [.tmp 65, .tmp 70, .tmp 71]) fk91 rfl) (Xr _ gn gq gp _ _ hva om om) fun bZ gr ax => ?_
    obtain ⟨rfl, a4⟩ := ax
    have ig := a4.size
    have E := E.trans a4
    have ci : Ch [] Z gr := (cg.trans a4)
    refine ⟨ci, ?_⟩
    refine dO 15 (Ye rfl rfl rfl ?_)
    have gs := ((A.ch0 G).ch0 aG).ch0 a4
    have gt := ((C.ch0 G).ch0 aG).ch0 a4
    have gu := ((B.ch0 G).ch0 aG).ch0 a4
    refine Step.call (Zl (xs := [.tmp 73, .tmp 78, .tmp 79]) fk91 rfl) (Xr _ gs gu gt _ _ hvb om om) fun a0 gv V => ?_
    obtain ⟨rfl, cj⟩ := V
    have ih := cj.size
    have E := E.trans cj
    have ck : Ch [] Z gv := (ci.trans cj)
    refine ⟨ck, ?_⟩
    refine dV 18 rfl rfl rfl (fun _ => Yt (parts := [(0, .tmp 72), (1, .tmp 80), (3, .tmp 81), (4, .tmp 82)]) (cells := [(.int .i64 (Yd aN c.1.a ((m : Nat) : Int))), (.int .i64 (Yd bN c.1.b ((m : Nat) : Int))), (.bool false), (.int .i64 ((k : Nat) : Int)), (.int .i64 ((m : Nat) : Int))]) zr110 pl110 rfl rfl) (dO 20 (Ye rfl rfl rfl ?_))
    have gw := (n.ch0 a4).ch0 cj
    refine Zy (off := 0) 5 gw sz110 rfl (us := [(.int .i64 (Yd aN c.1.a ((m : Nat) : Int))), (.int .i64 (Yd bN c.1.b ((m : Nat) : Int))), (.bool false), (.int .i64 ((k : Nat) : Int)), (.int .i64 ((m : Nat) : Int))]) rfl rfl rfl rfl fun eu bj cO => ?_
    have ii := cO.size
    have E := E.step cO (lS om)
    replace bj : Blk eu q 110 [(.int .i64 (Yd aN c.1.a ((m : Nat) : Int))), (.int .i64 (Yd bN c.1.b ((m : Nat) : Int))), (.bool false), (.int .i64 ((k : Nat) : Int)), (.int .i64 ((m : Nat) : Int))] := bj
    have dx : Ch [] Z eu := (ck.step cO (fun i hm => by have dc := List.mem_singleton.1 hm; left; omega))
    refine ⟨dx, ?_⟩
    refine Yb (by kernel_rfl) ?_
    refine Zb ?_
    exact be _ _ q (sC8 rfl rfl rfl rfl rfl rfl rfl rfl (sC4 rfl rfl rfl rfl (sC1 rfl (Sub.nil _)))) ((((((Ch.refl [] bs).trans G).trans aG).trans a4).trans cj).step cO (lS om)) bj om
   have ek := D
   have D := Yp D
   refine Xk (Ya (Ya (Xd ?_)))
   refine Yc (Zb (dN _ _ (Zc (Za rfl rfl (Zd rfl) (Za rfl rfl (Yq om rfl rfl) (Za rfl rfl (Ze rfl) (Zf ?_)))))))
   have cP : Ol GNode.cs 110 5 bs (.slice Akm (M).length Ckm) (M) := by
    have hx := u
    exact hx
   exact Zb (Exists.intro ((k + 1), M, (.slice Akm (M).length Ckm)) ⟨⟨E, om, (by have bG := Zep (m := 9) o; rw [← Zah o] at bG; omega), (by rw [Zah o, show 9 = m by omega]; exact af), (Zdx hf o (by unfold tsD; first | (simp [r, X]; done) | (simp [r, O, ak]; done) | (simp [r, O]; done))), y, z, cP, (Lo.down e om)⟩, sC4 rfl rfl rfl rfl (sC1 rfl (Sub.nil _)), (by first | omega | (dsimp only; omega))⟩)
  have eh := O
  refine Zj rfl rfl (Zj rfl rfl (Za rfl rfl (Zv rfl rfl) (Za rfl rfl (Zd rfl) (Zj rfl rfl (Zj rfl rfl (Za rfl rfl (Zv rfl rfl) (Za rfl rfl (Zv rfl rfl) ?_)))))))
  refine Zf (Zb (eT _ _ ?_))
  refine Xn rfl ?_
  refine Zu ?_
  refine Zb (dW _ _ ?_)
  refine Zg fun jV gx => ?_
  refine Zc (Za rfl rfl (Ze rfl) (Zf (Zb (gx _ _ ?_))))
  refine Yf ?_
  have gy := dD.ch0 Y
  have cQ : Ol GNode.cs 110 5 dj (.slice Akl (L).length Ckl) (L) := by
   have hx := gy
   exact hx
  have gz := ((eL.ch0 aJ).ch0 aO).ch0 Y
  have gA := ((eM.ch0 aJ).ch0 aO).ch0 Y
  have gB := ((eO.ch0 aJ).ch0 aO).ch0 Y
  have gC := ((eN.ch0 aJ).ch0 aO).ch0 Y
  have gD := eP.ch0 Y
  have gE := eQ.ch0 Y
  have gF := eS.ch0 Y
  have gG := eR.ch0 Y
  refine Xo (σ := Nat × List GNode × Value) (fun ⟨m, M, km⟩ => [(4, (.bool only)), (5, (.pointer (some ⟨bv, 0, none⟩))), (7, (.pointer (some ⟨bw, 0, none⟩))), (12, km), (13, (.int .i64 ((k : Nat) : Int))), (14, (.bool (Qy aA c.1.a))), (15, (.bool (Qy bA c.1.b))), (16, (.int .i64 ((m : Nat) : Int))), (25, (.bool (decide (((k : Nat) : Int) < ((L.length : Nat) : Int))))), (57, (.bool false))]) (fun ⟨m, M, km⟩ wx => Ch [] w wx ∧ dj.heap.size ≤ wx.heap.size ∧ (m ≤ 9) ∧ (NdR M (bx (nxS aN bN) c (bE (nxS aN bN) (⟨s, t⟩ : St2) k) m)) ∧ Blk wx bv 27 [(.int .i64 aS), (.slice ab aA.length ac), (.slice R saN.length S)] ∧ Ls bcs 1 wx LL_aA w.heap.size (.slice ab aA.length ac) aA ∧ Ls Sv.cs 1 wx LL_saN w.heap.size (.slice R saN.length S) saN ∧ Rd ics 1 wx LR_aN w.heap.size saN aN ∧ Blk wx bw 27 [(.int .i64 bS), (.slice ad bA.length ae), (.slice T sbN.length U)] ∧ Ls bcs 1 wx LL_bA w.heap.size (.slice ad bA.length ae) bA ∧ Ls Sv.cs 1 wx LL_sbN w.heap.size (.slice T sbN.length U) sbN ∧ Rd ics 1 wx LR_bN w.heap.size sbN bN ∧ Ol GNode.cs 110 5 wx km M ∧ Lo W3.heap.size km) (fun ⟨m, M, km⟩ => 9 - m) (0, L, (.slice Akl (L).length Ckl)) (sC8 rfl rfl rfl rfl rfl rfl rfl rfl (sC2 rfl rfl (Sub.nil _))) ⟨E, (Nat.le_refl _), om, hL, gz, gA, gB, gC, gD, gE, gF, gG, cQ, aM⟩ ?_
  rintro ⟨m, M, km⟩ bu ⟨E, d0, hm, af, y, I, J, K, z, A, B, C, u, e⟩
  have bH := E
  have c5 := bH.size
  have bI := y.lt
  have bJ := z.lt
  obtain ⟨Akm, Ckm, rfl, lkm, hikm⟩ := u.opn
  have hK := af.len
  have hM := Zep (m := m) o
  refine Zg fun jW gH => ?_
  refine Zg fun jX gI => ?_
  refine Zc (Za rfl rfl (Zd rfl) (Za rfl rfl (Xv rfl rfl) (Zf (Zb (gI _ _ ?_)))))
  refine Zx rfl (fun D => ?_) (fun D => ?_)
  ·have ew := D
   have D := Yo D
   refine Zu ?_
   refine Zb (gH _ _ ?_)
   refine Zg fun jY ex => ?_
   refine Yf ?_
   refine Zg fun gJ gK => ?_
   have bk : ∀ (lj : KL) (am : World) (ag : Nat), Go.KLib.Sub [(4, (.bool only)), (5, (.pointer (some ⟨bv, 0, none⟩))), (7, (.pointer (some ⟨bw, 0, none⟩))), (12, (.slice Akm (M).length Ckm)), (13, (.int .i64 ((k : Nat) : Int))), (14, (.bool (Qy aA c.1.a))), (15, (.bool (Qy bA c.1.b))), (16, (.int .i64 ((m : Nat) : Int))), (17, (.pointer (some ⟨ag, 0, none⟩))), (25, (.bool (decide (((k : Nat) : Int) < ((L.length : Nat) : Int))))), (57, (.bool false)), (61, (.int .i64 ((m : Nat) : Int))), (62, (.bool (decide (((m : Nat) : Int) < 9))))] lj → Ch [] bu am → Blk am ag 110 [(.int .i64 (Yd aN c.1.a ((m : Nat) : Int))), (.int .i64 (Yd bN c.1.b ((m : Nat) : Int))), (.bool false), (.int .i64 ((k : Nat) : Int)), (.int .i64 ((m : Nat) : Int))] → bu.heap.size ≤ ag → gJ lj am := by
    intro lj am ag aU g F bL
    refine gK _ _ (Zon aU ?_)
    have dG := g.size
    have E := E.trans g
    have bM := F.lt
    refine Zg fun jZ gL => ?_
    refine Zc (Za rfl rfl (Zd rfl) (Za rfl rfl (Zt F.at_ agg110 sz110 rfl) (Zk rfl rfl ?_)))
    have dy := u.ch0 g
    refine Step.call (Zl (xs := [.tmp 84, .tmp 85]) fk92 rfl) (Zdd dy.ls ⟨Yd aN c.1.a ((m : Nat) : Int), Yd bN c.1.b ((m : Nat) : Int), false, ((k : Nat) : Int), ((m : Nat) : Int)⟩ ) fun d2 gM bO => ?_
    obtain ⟨rfl, Q⟩ := bO
    have ij := Q.size
    have E := E.trans Q
    refine Za rfl rfl (Xi rfl) (Zf (Zb (gL _ _ ?_)))
    refine Zx rfl (fun p => ?_) (fun p => ?_)
    ·have ey := p
     have p := bf_t (Qf p)
     have hO := af.len
     have hP := Zev (m := m) o om
     have d3 := hle (k + 1)
     refine Zc (Za rfl rfl (Zd rfl) ?_)
     have gN := F.ch0 Q
     refine Za rfl rfl (Zt gN.at_ agg110 sz110 rfl) (Zk rfl rfl ?_)
     refine Zr (cs := GNode.cs) (parts := [(0, .tmp 89)]) (⟨0, 0, false, 0, 0⟩ : GNode) [(⟨Yd aN c.1.a ((m : Nat) : Int), Yd bN c.1.b ((m : Nat) : Int), false, ((k : Nat) : Int), ((m : Nat) : Int)⟩ : GNode)] el111 sz110 zr110 GNode.len (by decide) rfl rfl rfl (by decide) (by decide) rfl fun d4 j0 aV c6 aB => ?_
     have ik := aB.size
     have E := E.trans aB
     obtain ⟨c7, c8, rfl, c9, bQ⟩ := aV.opn
     refine Zk rfl rfl ?_
     have gO := (dy.ch0 Q).ch0 aB
     refine Yj (cs := GNode.cs) el111 sz110 by110 zr110 rfl (by decide) GNode.one gO aV.ls rfl rfl bd bd e om fun d5 gP aW aX da aH => ?_
     have il := aH.size
     have E := E.step aH (fun i hi => .inl (by have ah := e _ hi; omega))
     obtain ⟨ai, aj, rfl, db, bR⟩ := aW.opn
     refine Za rfl rfl (Ze rfl) (Zf (Yc (Zb (ex _ _ (Zc (Za rfl rfl (Zd rfl) (Za rfl rfl (Yq om rfl rfl) (Za rfl rfl (Ze rfl) ?_))))))))
     refine Zf ?_
     have cR : Ol GNode.cs 110 5 gP (.slice ai ((M ++ [(⟨Yd aN c.1.a ((m : Nat) : Int), Yd bN c.1.b ((m : Nat) : Int), false, ((k : Nat) : Int), ((m : Nat) : Int)⟩ : GNode)])).length aj) ((M ++ [(⟨Yd aN c.1.a ((m : Nat) : Int), Yd bN c.1.b ((m : Nat) : Int), false, ((k : Nat) : Int), ((m : Nat) : Int)⟩ : GNode)])) := by
      have hx := aW
      exact hx
     have gQ := (((y.ch0 g).ch0 Q).ch0 aB).ch aH (fun hm => by have ah := e _ hm; have d6 := hikm _ hm; omega)
     have gR := (((I.ch0 g).ch0 Q).ch0 aB).ch aH (fun i hi => by have ah := e _ hi; omega)
     have gS := (((J.ch0 g).ch0 Q).ch0 aB).ch aH (fun i hi => by have ah := e _ hi; omega)
     have gT := (((K.ch0 g).ch0 Q).ch0 aB).ch aH (fun i hi => by have ah := e _ hi; omega)
     have gU := (((z.ch0 g).ch0 Q).ch0 aB).ch aH (fun hm => by have ah := e _ hm; have d6 := hikm _ hm; omega)
     have gV := (((A.ch0 g).ch0 Q).ch0 aB).ch aH (fun i hi => by have ah := e _ hi; omega)
     have gW := (((B.ch0 g).ch0 Q).ch0 aB).ch aH (fun i hi => by have ah := e _ hi; omega)
     have gX := (((C.ch0 g).ch0 Q).ch0 aB).ch aH (fun i hi => by have ah := e _ hi; omega)
     exact Zb (Exists.intro ((m + 1), (M ++ [(⟨Yd aN c.1.a ((m : Nat) : Int), Yd bN c.1.b ((m : Nat) : Int), false, ((k : Nat) : Int), ((m : Nat) : Int)⟩ : GNode)]), (.slice ai ((M ++ [(⟨Yd aN c.1.a ((m : Nat) : Int), Yd bN c.1.b ((m : Nat) : Int), false, ((k : Nat) : Int), ((m : Nat) : Int)⟩ : GNode)])).length aj)) ⟨⟨E, om, om, (by first | exact Zix af rfl rfl p | exact Zjb af rfl rfl p o), gQ, gR, gS, gT, gU, gV, gW, gX, cR, (Lo.down aX om)⟩, sC8 rfl rfl rfl rfl rfl rfl rfl rfl (sC2 rfl rfl (Sub.nil _)), (by first | omega | (dsimp only; omega))⟩)
    have ey := p
    have p := bt_t (Qg p)
    refine Zu ?_
    refine Yc (Zb (ex _ _ (Zc (Za rfl rfl (Zd rfl) (Za rfl rfl (Yq om rfl rfl) (Za rfl rfl (Ze rfl) (Zf ?_)))))))
    have gY := dy.ch0 Q
    have cS : Ol GNode.cs 110 5 gM (.slice Akm (M).length Ckm) (M) := by
     have hx := gY
     exact hx
    have gZ := (y.ch0 g).ch0 Q
    have g0 := (I.ch0 g).ch0 Q
    have g1 := (J.ch0 g).ch0 Q
    have g2 := (K.ch0 g).ch0 Q
    have g3 := (z.ch0 g).ch0 Q
    have g4 := (A.ch0 g).ch0 Q
    have g5 := (B.ch0 g).ch0 Q
    have g6 := (C.ch0 g).ch0 Q
    exact Zb (Exists.intro ((m + 1), M, (.slice Akm (M).length Ckm)) ⟨⟨E, om, om, (by first | exact Zix af rfl rfl p | exact Zjb af rfl rfl p o), gZ, g0, g1, g2, g3, g4, g5, g6, cS, (Lo.down e om)⟩, sC8 rfl rfl rfl rfl rfl rfl rfl rfl (sC2 rfl rfl (Sub.nil _)), (by first | omega | (dsimp only; omega))⟩)
   refine Yx [] 21 mixed rfl fun aa H => ?_
   have im := H.size
   have E := E.trans H
   have g7 := y.ch0 H
   refine dT 0 rfl rfl rfl (Zn g7.at_ (fun i hi => absurd hi List.not_mem_nil) agg27 sz27 rfl ?_)
   refine dV 1 rfl rfl rfl (fun _ => Zd rfl) (dV 2 rfl rfl rfl (fun _ => Zd rfl) ?_)
   have ez := u.ch0 H
   refine dT 3 rfl rfl rfl (Ql ez.ls GNode.len el111 sz110 rfl rfl rfl om fun bT d7 aY av => ?_)
   obtain ⟨d8, bU, by68, bV, rfl⟩ := Zgm af aY
   obtain rfl := Qj (Zby o) bV
   replace av : At aa 0 aa.heap.size bT ([(.int .i64 c.1.a), (.int .i64 c.1.b), (.bool false), (.int .i64 bU), (.int .i64 by68)]) := av
   refine dV 4 rfl rfl rfl (fun _ => Zh fa110_0 rfl) ?_
   refine dT 5 rfl rfl rfl (Xj av (fun i hi => absurd hi List.not_mem_nil) agg3 rfl rfl ?_)
   refine dV 6 rfl rfl rfl (fun _ => Zd rfl) ?_
   have g8 := z.ch0 H
   refine dT 8 rfl rfl rfl (Zn g8.at_ (fun i hi => absurd hi List.not_mem_nil) agg27 sz27 rfl ?_)
   refine dV 9 rfl rfl rfl (fun _ => Zd rfl) (dV 10 rfl rfl rfl (fun _ => Zd rfl) ?_)
   refine dT 11 rfl rfl rfl (Ql ez.ls GNode.len el111 sz110 rfl rfl rfl om fun bW d9 aZ aw => ?_)
   obtain ⟨ea, bX, by76, bY, rfl⟩ := Zgm af aZ
   obtain rfl := Qj (Zby o) bY
   replace aw : At aa 0 aa.heap.size bW ([(.int .i64 c.1.a), (.int .i64 c.1.b), (.bool false), (.int .i64 bX), (.int .i64 by76)]) := aw
   refine dV 12 rfl rfl rfl (fun _ => Zh fa110_1 rfl) ?_
   refine dT 13 rfl rfl rfl (Xj aw (fun i hi => absurd hi List.not_mem_nil) agg3 rfl rfl ?_)
   refine dV 14 rfl rfl rfl (fun _ => Zd rfl) (dV 16 rfl rfl rfl (fun _ => Zd rfl) (dV 17 rfl rfl rfl (fun _ => Zd rfl) ?_))
   refine Zau 7 19 (by kernel_rfl) ?_ ?_
   ·refine Ye rfl rfl rfl ?_
    have g9 := I.ch0 H
    have ha := K.ch0 H
    have hb := J.ch0 H
    refine Step.call (Zl (xs := [.tmp 65, .tmp 70, .tmp 71]) fk91 rfl) (Xr _ g9 hb ha _ _ hva om om) fun bZ hc ax => ?_
    obtain ⟨rfl, aC⟩ := ax
    have io := aC.size
    have E := E.trans aC
    have bm : Ch [] aa hc := ((Ch.refl _ _).trans aC)
    refine ⟨bm, ?_⟩
    refine Zau 15 19 (by kernel_rfl) ?_ ?_
    ·refine Ye rfl rfl rfl ?_
     have hd := (A.ch0 H).ch0 aC
     have he := (C.ch0 H).ch0 aC
     have hg := (B.ch0 H).ch0 aC
     refine Step.call (Zl (xs := [.tmp 73, .tmp 78, .tmp 79]) fk91 rfl) (Xr _ hd hg he _ _ hvb om om) fun a0 hh V => ?_
     obtain ⟨rfl, cT⟩ := V
     have ip := cT.size
     have E := E.trans cT
     have cm : Ch [] aa hh := (bm.trans cT)
     refine ⟨cm, ?_⟩
     refine dV 18 rfl rfl rfl (fun _ => Yt (parts := [(0, .tmp 72), (1, .tmp 80), (3, .tmp 81), (4, .tmp 82)]) (cells := [(.int .i64 (Yd aN c.1.a ((m : Nat) : Int))), (.int .i64 (Yd bN c.1.b ((m : Nat) : Int))), (.bool false), (.int .i64 ((k : Nat) : Int)), (.int .i64 ((m : Nat) : Int))]) zr110 pl110 rfl rfl) (dO 19 (Ye rfl rfl rfl ?_))
     refine Yr zr110 fun q eA n cU a1 => ?_
     have iq := cU.size
     have E := E.trans cU
     have a2 := n.lt
     replace n : Blk eA q 110 [(.int .i64 0), (.int .i64 0), (.bool false), (.int .i64 0), (.int .i64 0)] := n
     have cn : Ch [] aa eA := (cm.trans cU)
     refine ⟨cn, ?_⟩
     refine dO 20 (Ye rfl rfl rfl ?_)
     refine Zy (off := 0) 5 n sz110 rfl (us := [(.int .i64 (Yd aN c.1.a ((m : Nat) : Int))), (.int .i64 (Yd bN c.1.b ((m : Nat) : Int))), (.bool false), (.int .i64 ((k : Nat) : Int)), (.int .i64 ((m : Nat) : Int))]) rfl rfl rfl rfl fun eB bn cV => ?_
     have ir := cV.size
     have E := E.step cV (lS om)
     replace bn : Blk eB q 110 [(.int .i64 (Yd aN c.1.a ((m : Nat) : Int))), (.int .i64 (Yd bN c.1.b ((m : Nat) : Int))), (.bool false), (.int .i64 ((k : Nat) : Int)), (.int .i64 ((m : Nat) : Int))] := bn
     have dz : Ch [] aa eB := (cn.step cV (fun i hm => by have dc := List.mem_singleton.1 hm; left; omega))
     refine ⟨dz, ?_⟩
     refine Yb (by kernel_rfl) ?_
     refine Zb ?_
     exact bk _ _ q (sC8 rfl rfl rfl rfl rfl rfl rfl rfl (sC4 rfl rfl rfl rfl (sC1 rfl (Sub.nil _)))) ((((((Ch.refl [] bu).trans H).trans aC).trans cT).trans cU).step cV (lS om)) bn om
    refine Ye rfl rfl rfl ?_
    refine Yr zr110 fun q eC n bp a1 => ?_
    have it := bp.size
    have E := E.trans bp
    have a2 := n.lt
    replace n : Blk eC q 110 [(.int .i64 0), (.int .i64 0), (.bool false), (.int .i64 0), (.int .i64 0)] := n
    have co : Ch [] aa eC := (bm.trans bp)
    refine ⟨co, ?_⟩
    refine dO 15 (Ye rfl rfl rfl ?_)
    have hj := ((A.ch0 H).ch0 aC).ch0 bp
    have hk := ((C.ch0 H).ch0 aC).ch0 bp
    have hl := ((B.ch0 H).ch0 aC).ch0 bp
    refine Step.call (Zl (xs := [.tmp 73, .tmp 78, .tmp 79]) fk91 rfl) (Xr _ hj hl hk _ _ hvb om om) fun a0 hn V => ?_
    obtain ⟨rfl, cp⟩ := V
    have iu := cp.size
    have E := E.trans cp
    have cq : Ch [] aa hn := (co.trans cp)
    refine ⟨cq, ?_⟩
    refine dV 18 rfl rfl rfl (fun _ => Yt (parts := [(0, .tmp 72), (1, .tmp 80), (3, .tmp 81), (4, .tmp 82)]) (cells := [(.int .i64 (Yd aN c.1.a ((m : Nat) : Int))), (.int .i64 (Yd bN c.1.b ((m : Nat) : Int))), (.bool false), (.int .i64 ((k : Nat) : Int)), (.int .i64 ((m : Nat) : Int))]) zr110 pl110 rfl rfl) (dO 20 (Ye rfl rfl rfl ?_))
    have ho := n.ch0 cp
    refine Zy (off := 0) 5 ho sz110 rfl (us := [(.int .i64 (Yd aN c.1.a ((m : Nat) : Int))), (.int .i64 (Yd bN c.1.b ((m : Nat) : Int))), (.bool false), (.int .i64 ((k : Nat) : Int)), (.int .i64 ((m : Nat) : Int))]) rfl rfl rfl rfl fun eD bq cW => ?_
    have iv := cW.size
    have E := E.step cW (lS om)
    replace bq : Blk eD q 110 [(.int .i64 (Yd aN c.1.a ((m : Nat) : Int))), (.int .i64 (Yd bN c.1.b ((m : Nat) : Int))), (.bool false), (.int .i64 ((k : Nat) : Int)), (.int .i64 ((m : Nat) : Int))] := bq
    have dA : Ch [] aa eD := (cq.step cW (fun i hm => by have dc := List.mem_singleton.1 hm; left; omega))
    refine ⟨dA, ?_⟩
    refine Yb (by kernel_rfl) ?_
    refine Zb ?_
    exact bk _ _ q (sC8 rfl rfl rfl rfl rfl rfl rfl rfl (sC4 rfl rfl rfl rfl (sC1 rfl (Sub.nil _)))) ((((((Ch.refl [] bu).trans H).trans aC).trans bp).trans cp).step cW (lS om)) bq om
   refine Ye rfl rfl rfl ?_
   refine Yr zr110 fun q eE n aI a1 => ?_
   have iw := aI.size
   have E := E.trans aI
   have a2 := n.lt
   replace n : Blk eE q 110 [(.int .i64 0), (.int .i64 0), (.bool false), (.int .i64 0), (.int .i64 0)] := n
   have cr : Ch [] aa eE := ((Ch.refl _ _).trans aI)
   refine ⟨cr, ?_⟩
   refine dO 7 (Ye rfl rfl rfl ?_)
   have hp := (I.ch0 H).ch0 aI
   have hq := (K.ch0 H).ch0 aI
   have hr := (J.ch0 H).ch0 aI
   refine Step.call (Zl (xs := [.tmp 65, .tmp 70, .tmp 71]) fk91 rfl) (Xr _ hp hr hq _ _ hva om om) fun bZ ht ax => ?_
   obtain ⟨rfl, a5⟩ := ax
   have ix := a5.size
   have E := E.trans a5
   have ct : Ch [] aa ht := (cr.trans a5)
   refine ⟨ct, ?_⟩
   refine dO 15 (Ye rfl rfl rfl ?_)
   have hu := ((A.ch0 H).ch0 aI).ch0 a5
   have hv := ((C.ch0 H).ch0 aI).ch0 a5
   have hw := ((B.ch0 H).ch0 aI).ch0 a5
   refine Step.call (Zl (xs := [.tmp 73, .tmp 78, .tmp 79]) fk91 rfl) (Xr _ hu hw hv _ _ hvb om om) fun a0 hy V => ?_
   obtain ⟨rfl, cu⟩ := V
   have iy := cu.size
   have E := E.trans cu
   have cv : Ch [] aa hy := (ct.trans cu)
   refine ⟨cv, ?_⟩
   refine dV 18 rfl rfl rfl (fun _ => Yt (parts := [(0, .tmp 72), (1, .tmp 80), (3, .tmp 81), (4, .tmp 82)]) (cells := [(.int .i64 (Yd aN c.1.a ((m : Nat) : Int))), (.int .i64 (Yd bN c.1.b ((m : Nat) : Int))), (.bool false), (.int .i64 ((k : Nat) : Int)), (.int .i64 ((m : Nat) : Int))]) zr110 pl110 rfl rfl) (dO 20 (Ye rfl rfl rfl ?_))
   have hz := (n.ch0 a5).ch0 cu
   refine Zy (off := 0) 5 hz sz110 rfl (us := [(.int .i64 (Yd aN c.1.a ((m : Nat) : Int))), (.int .i64 (Yd bN c.1.b ((m : Nat) : Int))), (.bool false), (.int .i64 ((k : Nat) : Int)), (.int .i64 ((m : Nat) : Int))]) rfl rfl rfl rfl fun eF br cX => ?_
   have iz := cX.size
   have E := E.step cX (lS om)
   replace br : Blk eF q 110 [(.int .i64 (Yd aN c.1.a ((m : Nat) : Int))), (.int .i64 (Yd bN c.1.b ((m : Nat) : Int))), (.bool false), (.int .i64 ((k : Nat) : Int)), (.int .i64 ((m : Nat) : Int))] := br
   have dB : Ch [] aa eF := (cv.step cX (fun i hm => by have dc := List.mem_singleton.1 hm; left; omega))
   refine ⟨dB, ?_⟩
   refine Yb (by kernel_rfl) ?_
   refine Zb ?_
   exact bk _ _ q (sC8 rfl rfl rfl rfl rfl rfl rfl rfl (sC4 rfl rfl rfl rfl (sC1 rfl (Sub.nil _)))) ((((((Ch.refl [] bu).trans H).trans aI).trans a5).trans cu).step cX (lS om)) br om
  have ew := D
  have D := Yp D
  refine Xk (Ya (Ya (Xd ?_)))
  refine Yc (Zb (dN _ _ (Zc (Za rfl rfl (Zd rfl) (Za rfl rfl (Yq om rfl rfl) (Za rfl rfl (Ze rfl) (Zf ?_)))))))
  have cY : Ol GNode.cs 110 5 bu (.slice Akm (M).length Ckm) (M) := by
   have hx := u
   exact hx
  exact Zb (Exists.intro ((k + 1), M, (.slice Akm (M).length Ckm)) ⟨⟨E, om, (by have bG := Zep (m := 9) o; rw [← Zah o] at bG; omega), (by rw [Zah o, show 9 = m by omega]; exact af), (Zdx hf o (by unfold tsD; first | (simp [r, X]; done) | (simp [r, O, ak]; done) | (simp [r, O]; done))), y, z, cY, (Lo.down e om)⟩, sC4 rfl rfl rfl rfl (sC1 rfl (Sub.nil _)), (by first | omega | (dsimp only; omega))⟩)
 have e2 := a7
 have a7 := Yp a7
 refine Xk (Ya (Ya (Xd ?_)))
 refine Zb (H6 _ _ ?_)
 refine Zg fun j1 hA => ?_
 refine Zc (Zk rfl rfl ?_)
 refine Xt (k := 1) ics el30 sz3 fun j2 hB eG eH eI => ?_
 have iA := eI.size
 have E := E.trans eI
 obtain ⟨cw, cx, rfl, iB, hC⟩ := eG.opn
 refine Za rfl rfl (Ze rfl) (Za rfl rfl (Ze rfl) (Zf (Zb (hA _ _ ?_))))
 refine Zs ?_
 have dC : Ol ics 3 1 hB (.slice cw (([] : List Int)).length cx) ((difR aA aN bA bN ⟨s, t⟩ only).1) := by
  have hx := eG
  first | (rw [← Zav (Zam o (by unfold tsD; first | (simp [r, X]; done) | (simp [r, O, ak]; done) | (simp [r, O]; done)) hf), ← Zmf o]; exact hx) | (rw [← Zav (Zag (by have bG := hL.len; omega) hf)]; simpa using hx)
 exact Zi [_, _] ⟨rfl, ⟨rfl, trivial⟩⟩ ⟨(.slice cw (([] : List Int)).length cx), (congrArg (fun zq => (Value.tuple #[(.slice cw (([] : List Int)).length cx), .bool zq])) (by first | rw [← Zav (Zam o (by unfold tsD; first | (simp [r, X]; done) | (simp [r, O, ak]; done) | (simp [r, O]; done)) hf)] | rw [← Zav (Zag (by have bG := hL.len; omega) hf)])), dC, (Lo.down eH om), E⟩

/-- spec.MissingWord -/
theorem Zci {w : World} (aS : Int) {LL_aA S : Nat} {G : Value} {aA : List Bool} (j : Ls bcs 1 w LL_aA S G aA) {LL_saN M : Nat} {r : Value} {saN : List Sv} (c : Ls Sv.cs 1 w LL_saN M r saN) {LR_aN BB_aN : Nat} {aN : List (List Int)} (h : Rd ics 1 w LR_aN BB_aN saN aN) (bS : Int) {LL_bA T : Nat} {H : Value} {bA : List Bool} (l : Ls bcs 1 w LL_bA T H bA) {LL_sbN O : Nat} {s : Value} {sbN : List Sv} (e : Ls Sv.cs 1 w LL_sbN O s sbN) {LR_bN BB_bN : Nat} {bN : List (List Int)} (i : Rd ics 1 w LR_bN BB_bN sbN bN) :
 Ctr Try.prog 17 #[(.agg #[(.int .i64 aS), G, r]), (.agg #[(.int .i64 bS), H, s])] w (fun v w' => ∃ (ac : Value), v = .tuple #[ac, .bool ((msR aS aA aN bS bA bN).2)] ∧ Ol ics 3 1 w' ac ((msR aS aA aN bS bA bN).1) ∧ Lo w.heap.size ac ∧ Ch [] w w') := by
 obtain ⟨I, J, P⟩ := j.val
 subst P
 have an := j.len
 have j := j.here (by decide)
 obtain ⟨t, u, D⟩ := c.val
 subst D
 have ad := c.len
 have c := c.here (by decide)
 have h := h.here (by decide)
 have ae := h.1
 obtain ⟨K, L, Q⟩ := l.val
 subst Q
 have ao := l.len
 have l := l.here (by decide)
 obtain ⟨x, y, F⟩ := e.val
 subst F
 have af := e.len
 have e := e.here (by decide)
 have i := i.here (by decide)
 have ag := i.1
 have E := Ch.refl [] w
 refine Yh (N := 29) (vs0 := [(.agg #[(.int .i64 aS), (.slice I aA.length J), (.slice t saN.length u)]), (.agg #[(.int .i64 bS), (.slice K bA.length L), (.slice x sbN.length y)])]) Try.func17 rfl rfl rfl ?_
 refine Zg fun K1 H1 => ?_
 refine Zc (Zk rfl rfl ?_)
 refine Xw rfl fun aD W2 aa C2 a2 => ?_
 have a3 := C2.size
 have E := E.trans C2
 have a4 := aa.lt
 replace aa : Blk W2 aD 27 [(.int .i64 aS), (.slice I aA.length J), (.slice t saN.length u)] := aa
 refine Zk rfl rfl ?_
 refine Xw rfl fun aE W3 ab C3 a5 => ?_
 have a6 := C3.size
 have E := E.trans C3
 have a7 := ab.lt
 replace ab : Blk W3 aE 27 [(.int .i64 bS), (.slice K bA.length L), (.slice x sbN.length y)] := ab
 refine Za rfl rfl (Ze rfl) (Za rfl rfl (Ze rfl) (Zf (Zb (H1 _ _ ?_))))
 refine Zg fun K4 H4 => ?_
 refine Zg fun K5 H5 => ?_
 refine Zc ?_
 have F6 := aa.ch0 C3
 refine Za rfl rfl (Zt F6.at_ agg27 sz27 rfl) (Zk rfl rfl ?_)
 have F7 := (j.ch0 C2).ch0 C3
 have F8 := (h.ch0 C2).ch0 C3
 have F9 := (c.ch0 C2).ch0 C3
 refine Step.call (Zl (xs := [.tmp 8]) fk13 rfl) (Yw _ F7 F9 F8 ) fun a8 a9 aF => ?_
 obtain ⟨rfl, B⟩ := aF
 have aG := B.size
 have E := E.trans B
 refine Za rfl rfl (Xi rfl) (Za rfl rfl (Zd rfl) ?_)
 refine Ym (d := 11) rfl (fun a => ?_) (fun a => ?_)
 ·have ah := a
  have a := bf_t (Qf a)
  refine Zj rfl rfl (Zj rfl rfl (Zj rfl rfl (Za rfl rfl (Zw rfl rfl) (Zf (Zb (H5 _ _ ?_))))))
  refine Xl rfl ?_
  refine Zg fun ba aH => ?_
  refine Zc (Zk rfl rfl ?_)
  refine Xt (k := 1) ics el30 sz3 fun ai aI z A ap => ?_
  have aJ := ap.size
  have E := E.trans ap
  obtain ⟨f, g, rfl, U, R⟩ := z.opn
  refine Za rfl rfl (Ze rfl) (Za rfl rfl (Ze rfl) (Zf (Zb (aH _ _ ?_))))
  refine Zs (Zm ?_)
  have V : Ol ics 3 1 aI (.slice f (([] : List Int)).length g) ((msR aS aA aN bS bA bN).1) := by
   have hx := z
   first | (rw [Zfn a b]; exact hx) | (rw [Zbn (fun q => a q.1)]; simpa using hx) | (rw [Zbn (fun q => b q.2)]; simpa using hx)
  exact Zi [_, _] ⟨rfl, ⟨rfl, trivial⟩⟩ ⟨(.slice f (([] : List Int)).length g), (congrArg (fun zq => (Value.tuple #[(.slice f (([] : List Int)).length g), .bool zq])) (by first | rw [Zfn a b] | rw [Zbn (fun q => a q.1)] | rw [Zbn (fun q => b q.2)])), V, (Lo.down A om), E⟩
 have ah := a
 have a := bt_t (Qg a)
 have aq := ab.ch0 B
 refine Za rfl rfl (Zt aq.at_ agg27 sz27 rfl) (Zk rfl rfl ?_)
 have au := ((l.ch0 C2).ch0 C3).ch0 B
 have av := ((i.ch0 C2).ch0 C3).ch0 B
 have aw := ((e.ch0 C2).ch0 C3).ch0 B
 refine Step.call (Zl (xs := [.tmp 12]) fk13 rfl) (Yw _ au aw av ) fun aK bb aj => ?_
 obtain ⟨rfl, C⟩ := aj
 have aL := C.size
 have E := E.trans C
 refine Za rfl rfl (Xi rfl) (Za rfl rfl (Zv rfl rfl) (Zf (Zb (H5 _ _ ?_))))
 refine Zx rfl (fun b => ?_) (fun b => ?_)
 ·have ak := b
  have b := bf_t (Qf b)
  refine Zg fun bc aM => ?_
  refine Zc (Zk rfl rfl ?_)
  refine Xt (k := 1) ics el30 sz3 fun ai aO z A ax => ?_
  have aP := ax.size
  have E := E.trans ax
  obtain ⟨f, g, rfl, U, R⟩ := z.opn
  refine Za rfl rfl (Ze rfl) (Za rfl rfl (Ze rfl) (Zf (Zb (aM _ _ ?_))))
  refine Zs (Zm ?_)
  have X : Ol ics 3 1 aO (.slice f (([] : List Int)).length g) ((msR aS aA aN bS bA bN).1) := by
   have hx := z
   first | (rw [Zfn a b]; exact hx) | (rw [Zbn (fun q => a q.1)]; simpa using hx) | (rw [Zbn (fun q => b q.2)]; simpa using hx)
  exact Zi [_, _] ⟨rfl, ⟨rfl, trivial⟩⟩ ⟨(.slice f (([] : List Int)).length g), (congrArg (fun zq => (Value.tuple #[(.slice f (([] : List Int)).length g), .bool zq])) (by first | rw [Zfn a b] | rw [Zbn (fun q => a q.1)] | rw [Zbn (fun q => b q.2)])), X, (Lo.down A om), E⟩
 have ak := b
 have b := bt_t (Qg b)
 refine Zu ?_
 refine Zb (H4 _ _ ?_)
 refine Zg fun be aQ => ?_
 refine Zc ?_
 have ay := (F6.ch0 B).ch0 C
 refine Za rfl rfl (Zt ay.at_ agg27 sz27 rfl) (Za rfl rfl (Zh fa27_0 rfl) (Za rfl rfl (Zp ay.at_ agg3 rfl rfl) ?_))
 have az := aq.ch0 C
 refine Za rfl rfl (Zt az.at_ agg27 sz27 rfl) (Za rfl rfl (Zh fa27_0 rfl) (Za rfl rfl (Zp az.at_ agg3 rfl rfl) (Zk rfl rfl ?_)))
 have aR := (F7.ch0 B).ch0 C
 have aT := (F8.ch0 B).ch0 C
 have aU := (F9.ch0 B).ch0 C
 have aV := au.ch0 C
 have aW := av.ch0 C
 have aX := aw.ch0 C
 refine Step.call (Zl (xs := [.tmp 18, .tmp 20, .tmp 21, .tmp 23, .const (Go.Value.bool true)]) fk50 rfl) (Zgz _ aR aU aT _ _ aV aX aW _ _ a b (Zbk a) (Zbk b)) fun aY aZ al => ?_
 obtain ⟨aB, rfl, m, p, aC⟩ := al
 have a0 := aC.size
 have E := E.trans aC
 obtain ⟨n, o, rfl, am, Y⟩ := m.opn
 refine Za rfl rfl (Zd rfl) (Za rfl rfl (Xc rfl rfl) (Za rfl rfl (Xc rfl rfl) (Za rfl rfl (Ze rfl) (Za rfl rfl (Ze rfl) (Zf (Zb (aQ _ _ ?_)))))))
 refine Zg fun bf a1 => ?_
 refine Zc (Za rfl rfl (Zd rfl) (Za rfl rfl (Zd rfl) (Za rfl rfl (Ze rfl) (Za rfl rfl (Ze rfl) (Zf (Zb (a1 _ _ ?_)))))))
 refine Zs ?_
 have Z : Ol ics 3 1 aZ (.slice n ((difR aA aN bA bN ⟨aS, bS⟩ true).1).length o) ((msR aS aA aN bS bA bN).1) := by
  have hx := m
  first | (rw [Zfn a b]; exact hx) | (rw [Zbn (fun q => a q.1)]; simpa using hx) | (rw [Zbn (fun q => b q.2)]; simpa using hx)
 exact Zi [_, _] ⟨rfl, ⟨rfl, trivial⟩⟩ ⟨(.slice n ((difR aA aN bA bN ⟨aS, bS⟩ true).1).length o), (congrArg (fun zq => (Value.tuple #[(.slice n ((difR aA aN bA bN ⟨aS, bS⟩ true).1).length o), .bool zq])) (by first | rw [Zfn a b] | rw [Zbn (fun q => a q.1)] | rw [Zbn (fun q => b q.2)])), Z, (Lo.down p om), E⟩

/-- spec.IncludesLanguage -/
theorem Zbg {w : World} (aS : Int) {LL_aA I : Nat} {t : Value} {aA : List Bool} (f : Ls bcs 1 w LL_aA I t aA) {LL_saN B : Nat} {j : Value} {saN : List Sv} (a : Ls Sv.cs 1 w LL_saN B j saN) {LR_aN BB_aN : Nat} {aN : List (List Int)} (c : Rd ics 1 w LR_aN BB_aN saN aN) (bS : Int) {LL_bA J : Nat} {u : Value} {bA : List Bool} (g : Ls bcs 1 w LL_bA J u bA) {LL_sbN C : Nat} {k : Value} {sbN : List Sv} (b : Ls Sv.cs 1 w LL_sbN C k sbN) {LR_bN BB_bN : Nat} {bN : List (List Int)} (e : Rd ics 1 w LR_bN BB_bN sbN bN) :
 Ctr Try.prog 62 #[(.agg #[(.int .i64 aS), t, j]), (.agg #[(.int .i64 bS), u, k])] w (fun v w' => v = .bool (tt (IncP aS aA aN bS bA bN)) ∧ Ch [] w w') := by
 obtain ⟨x, y, D⟩ := f.val
 subst D
 have ac := f.len
 have f := f.here (by decide)
 obtain ⟨l, m, r⟩ := a.val
 subst r
 have O := a.len
 have a := a.here (by decide)
 have c := c.here (by decide)
 have P := c.1
 obtain ⟨z, A, F⟩ := g.val
 subst F
 have ad := g.len
 have g := g.here (by decide)
 obtain ⟨n, o, s⟩ := b.val
 subst s
 have Q := b.len
 have b := b.here (by decide)
 have e := e.here (by decide)
 have R := e.1
 have E := Ch.refl [] w
 refine Yh (N := 23) (vs0 := [(.agg #[(.int .i64 aS), (.slice x aA.length y), (.slice l saN.length m)]), (.agg #[(.int .i64 bS), (.slice z bA.length A), (.slice n sbN.length o)])]) Try.func62 rfl rfl rfl ?_
 refine Zg fun K1 H1 => ?_
 refine Zc (Zk rfl rfl ?_)
 refine Xw rfl fun ai W2 M C2 aC => ?_
 have aD := C2.size
 have E := E.trans C2
 have aE := M.lt
 replace M : Blk W2 ai 27 [(.int .i64 aS), (.slice x aA.length y), (.slice l saN.length m)] := M
 refine Zk rfl rfl ?_
 refine Xw rfl fun aj W3 K C3 aF => ?_
 have aG := C3.size
 have E := E.trans C3
 have aH := K.lt
 replace K : Blk W3 aj 27 [(.int .i64 bS), (.slice z bA.length A), (.slice n sbN.length o)] := K
 refine Za rfl rfl (Ze rfl) (Zf (Zb (H1 _ _ ?_)))
 refine Zg fun K4 H4 => ?_
 refine Zc ?_
 have F5 := M.ch0 C3
 refine Za rfl rfl (Zt F5.at_ agg27 sz27 rfl) (Za rfl rfl (Zt K.at_ agg27 sz27 rfl) (Zk rfl rfl ?_))
 have F6 := (f.ch0 C2).ch0 C3
 have F7 := (c.ch0 C2).ch0 C3
 have F8 := (a.ch0 C2).ch0 C3
 have F9 := (g.ch0 C2).ch0 C3
 have ae := (e.ch0 C2).ch0 C3
 have af := (b.ch0 C2).ch0 C3
 refine Step.call (Zl (xs := [.tmp 8, .tmp 9]) fk17 rfl) (Zci _ F6 F8 F7 _ F9 af ae ) fun ak aI S => ?_
 obtain ⟨ag, rfl, p, G, q⟩ := S
 have al := q.size
 have E := E.trans q
 obtain ⟨T, U, rfl, V, L⟩ := p.opn
 refine Za rfl rfl (Zd rfl) (Za rfl rfl (Xc rfl rfl) (Za rfl rfl (Xc rfl rfl) (Za rfl rfl (Ze rfl) (Za rfl rfl (Ze rfl) (Zf (Zb (H4 _ _ ?_)))))))
 refine Zg fun aJ X => ?_
 refine Zc ?_
 have am := F5.ch0 q
 refine Za rfl rfl (Zt am.at_ agg27 sz27 rfl) (Zk rfl rfl ?_)
 have an := F6.ch0 q
 have ao := F7.ch0 q
 have ap := F8.ch0 q
 refine Step.call (Zl (xs := [.tmp 13]) fk13 rfl) (Yw _ an ap ao ) fun aq aK Y => ?_
 obtain ⟨rfl, H⟩ := Y
 have au := H.size
 have E := E.trans H
 refine Za rfl rfl (Zd rfl) ?_
 refine Ym (d := 15) rfl (fun h => ?_) (fun h => ?_)
 ·have Z := h
  have h := bt_t h
  have av := (K.ch0 q).ch0 H
  refine Za rfl rfl (Zt av.at_ agg27 sz27 rfl) (Zk rfl rfl ?_)
  have aw := (F9.ch0 q).ch0 H
  have ax := (ae.ch0 q).ch0 H
  have ay := (af.ch0 q).ch0 H
  refine Step.call (Zl (xs := [.tmp 16]) fk13 rfl) (Yw _ aw ay ax ) fun az aL aa => ?_
  obtain ⟨rfl, ah⟩ := aa
  have aB := ah.size
  have E := E.trans ah
  refine Za rfl rfl (Zw rfl rfl) (Za rfl rfl (Zd rfl) ?_)
  refine Ym (d := 19) rfl (fun i => ?_) (fun i => ?_)
  ·have ab := i
   have i := bt_t i
   refine Za rfl rfl (Zd rfl) (Za rfl rfl (Xi rfl) (Za rfl rfl (Zw rfl rfl) (Za rfl rfl (Ze rfl) (Zf (Zb (X _ _ ?_))))))
   refine Zs ?_
   exact Zi [_] ⟨rfl, trivial⟩ ⟨congrArg Value.bool (by first | exact Zho (by assumption) | exact Zhp (by assumption) | exact Zlu (by assumption) (by assumption)), E⟩
  have ab := i
  have i := bf_t i
  refine Zj rfl rfl (Zj rfl rfl (Za rfl rfl (Zv rfl rfl) (Za rfl rfl (Ze rfl) (Zf (Zb (X _ _ ?_))))))
  refine Zs ?_
  exact Zi [_] ⟨rfl, trivial⟩ ⟨congrArg Value.bool (by first | exact Zho (by assumption) | exact Zhp (by assumption) | exact Zlu (by assumption) (by assumption)), E⟩
 have Z := h
 have h := bf_t h
 refine Zj rfl rfl (Zj rfl rfl (Za rfl rfl (Zv rfl rfl) (Za rfl rfl (Zd rfl) (Zj rfl rfl (Zj rfl rfl (Za rfl rfl (Zv rfl rfl) (Za rfl rfl (Ze rfl) ?_)))))))
 refine Zf (Zb (X _ _ ?_))
 refine Zs ?_
 exact Zi [_] ⟨rfl, trivial⟩ ⟨congrArg Value.bool (by first | exact Zho (by assumption) | exact Zhp (by assumption) | exact Zlu (by assumption) (by assumption)), E⟩

/-- spec.AreEquivalent -/
theorem Xa {w : World} (aS : Int) {LL_aA F : Nat} {s : Value} {aA : List Bool} (f : Ls bcs 1 w LL_aA F s aA) {LL_saN A : Nat} {h : Value} {saN : List Sv} (a : Ls Sv.cs 1 w LL_saN A h saN) {LR_aN BB_aN : Nat} {aN : List (List Int)} (c : Rd ics 1 w LR_aN BB_aN saN aN) (bS : Int) {LL_bA G : Nat} {t : Value} {bA : List Bool} (g : Ls bcs 1 w LL_bA G t bA) {LL_sbN B : Nat} {i : Value} {sbN : List Sv} (b : Ls Sv.cs 1 w LL_sbN B i sbN) {LR_bN BB_bN : Nat} {bN : List (List Int)} (e : Rd ics 1 w LR_bN BB_bN sbN bN) :
 Ctr Try.prog 24 #[(.agg #[(.int .i64 aS), s, h]), (.agg #[(.int .i64 bS), t, i])] w (fun v w' => v = .bool (tt (IncP aS aA aN bS bA bN ∧ IncP bS bA bN aS aA aN)) ∧ Ch [] w w') := by
 obtain ⟨u, x, C⟩ := f.val
 subst C
 have Q := f.len
 have f := f.here (by decide)
 obtain ⟨j, k, p⟩ := a.val
 subst p
 have J := a.len
 have a := a.here (by decide)
 have c := c.here (by decide)
 have K := c.1
 obtain ⟨y, z, D⟩ := g.val
 subst D
 have R := g.len
 have g := g.here (by decide)
 obtain ⟨l, m, r⟩ := b.val
 subst r
 have L := b.len
 have b := b.here (by decide)
 have e := e.here (by decide)
 have M := e.1
 have E := Ch.refl [] w
 refine Yh (N := 13) (vs0 := [(.agg #[(.int .i64 aS), (.slice u aA.length x), (.slice j saN.length k)]), (.agg #[(.int .i64 bS), (.slice y bA.length z), (.slice l sbN.length m)])]) Try.func24 rfl rfl rfl ?_
 refine Zg fun K1 H1 => ?_
 refine Zc (Zk rfl rfl ?_)
 refine Xw rfl fun V W2 I C2 ak => ?_
 have al := C2.size
 have E := E.trans C2
 have am := I.lt
 replace I : Blk W2 V 27 [(.int .i64 aS), (.slice u aA.length x), (.slice j saN.length k)] := I
 refine Zk rfl rfl ?_
 refine Xw rfl fun X W3 H C3 an => ?_
 have ao := C3.size
 have E := E.trans C3
 have ap := H.lt
 replace H : Blk W3 X 27 [(.int .i64 bS), (.slice y bA.length z), (.slice l sbN.length m)] := H
 refine Za rfl rfl (Ze rfl) (Zf (Zb (H1 _ _ ?_)))
 refine Zg fun K4 H4 => ?_
 refine Zc ?_
 have F5 := I.ch0 C3
 refine Za rfl rfl (Zt F5.at_ agg27 sz27 rfl) (Za rfl rfl (Zt H.at_ agg27 sz27 rfl) (Zk rfl rfl ?_))
 have F6 := (f.ch0 C2).ch0 C3
 have F7 := (c.ch0 C2).ch0 C3
 have F8 := (a.ch0 C2).ch0 C3
 have F9 := (g.ch0 C2).ch0 C3
 have S := (e.ch0 C2).ch0 C3
 have T := (b.ch0 C2).ch0 C3
 refine Step.call (Zl (xs := [.tmp 5, .tmp 6]) fk62 rfl) (Zbg _ F6 F8 F7 _ F9 T S ) fun aq au Y => ?_
 obtain ⟨rfl, o⟩ := Y
 have Z := o.size
 have E := E.trans o
 refine Za rfl rfl (Zd rfl) ?_
 refine Ym (d := 8) rfl (fun n => ?_) (fun n => ?_)
 ·have O := n
  have n := bt_t n
  have aa := H.ch0 o
  refine Za rfl rfl (Zt aa.at_ agg27 sz27 rfl) ?_
  have ab := F5.ch0 o
  refine Za rfl rfl (Zt ab.at_ agg27 sz27 rfl) (Zk rfl rfl ?_)
  have ac := F9.ch0 o
  have ad := S.ch0 o
  have ae := T.ch0 o
  have af := F6.ch0 o
  have ag := F7.ch0 o
  have ah := F8.ch0 o
  refine Step.call (Zl (xs := [.tmp 9, .tmp 10]) fk62 rfl) (Zbg _ ac ae ad _ af ah ag ) fun ai av P => ?_
  obtain ⟨rfl, U⟩ := P
  have aj := U.size
  have E := E.trans U
  refine Za rfl rfl (Zw rfl rfl) (Za rfl rfl (Ze rfl) (Zf (Zb (H4 _ _ ?_))))
  refine Zs ?_
  exact Zi [_] ⟨rfl, trivial⟩ ⟨congrArg Value.bool (by first | exact Zo (fun q => n q.1) | exact Zns ⟨fun q => ⟨n, q⟩, fun q => q.2⟩), E⟩
 have O := n
 have n := bf_t n
 refine Zj rfl rfl (Zj rfl rfl (Zj rfl rfl (Za rfl rfl (Zv rfl rfl) (Za rfl rfl (Ze rfl) (Zf (Zb (H4 _ _ ?_)))))))
 refine Zs ?_
 exact Zi [_] ⟨rfl, trivial⟩ ⟨congrArg Value.bool (by first | exact Zo (fun q => n q.1) | exact Zns ⟨fun q => ⟨n, q⟩, fun q => q.2⟩), E⟩

/-- spec.l11Live -/
theorem Zco {w : World} (aS : Int) {LL_aA aE : Nat} {ad : Value} {aA : List Bool} (C : Ls bcs 1 w LL_aA aE ad aA) {LL_saN ai : Nat} {S : Value} {saN : List Sv} (m : Ls Sv.cs 1 w LL_saN ai S saN) {LR_aN BB_aN : Nat} {aN : List (List Int)} (A : Rd ics 1 w LR_aN BB_aN saN aN) (hv : Yz aS aA aN) :
 Ctr Try.prog 59 #[(.agg #[(.int .i64 aS), ad, S])] w (fun v w' => Ol bcs 4 1 w' v (Yn aA aN) ∧ Lo w.heap.size v ∧ Ch [] w w') := by
 obtain ⟨c, f, aj⟩ := C.val
 subst aj
 have bj := C.len
 have C := C.here (by decide)
 obtain ⟨n, o, aa⟩ := m.val
 subst aa
 have aT := m.len
 have m := m.here (by decide)
 have A := A.here (by decide)
 have aU := A.1
 have E := Ch.refl [] w
 have bG := hv.2.2.1; have cm := hv.1
 refine Yh (N := 55) (vs0 := [(.agg #[(.int .i64 aS), (.slice c aA.length f), (.slice n saN.length o)])]) Try.func59 rfl rfl rfl ?_
 refine Zg fun K1 H1 => ?_
 refine Zc (Zk rfl rfl ?_)
 refine Xw rfl fun Y W2 aQ C2 cn => ?_
 have co := C2.size
 have E := E.trans C2
 have bH := aQ.lt
 replace aQ : Blk W2 Y 27 [(.int .i64 aS), (.slice c aA.length f), (.slice n saN.length o)] := aQ
 refine Za rfl rfl (Ze rfl) (Zf (Zb (H1 _ _ ?_)))
 refine Zg fun K3 H3 => ?_
 refine Zc (Zk rfl rfl ?_)
 refine Xt (k := 1) bcs el24 sz4 fun cp W4 bk T C4 => ?_
 have cq := C4.size
 have E := E.trans C4
 obtain ⟨bI, bJ, rfl, bK, ae⟩ := bk.opn
 refine Za rfl rfl (Zh fa27_1 rfl) ?_
 have F5 := aQ.ch0 C4
 refine Za rfl rfl (Zp F5.at_ agg24 rfl rfl) (Zk rfl rfl ?_)
 have F7 := (C.ch0 C2).ch0 C4
 refine Yj (cs := bcs) el24 sz4 by4 zr4 rfl (by decide) Zaz bk F7 rfl rfl bd bd T om fun aV W6 ab U aF C6 => ?_
 have cr := C6.size
 have E := E.step C6 (fun i hi => .inl (by have aD := T _ hi; omega))
 replace ab : Ol bcs 4 1 W6 aV aA := ab
 obtain ⟨a, b, rfl, bm, aW⟩ := ab.opn
 refine Za rfl rfl (Ze rfl) (Zf (Zb (H3 _ _ ?_)))
 refine Zg fun K8 H8 => ?_
 refine Zg fun K9 H9 => ?_
 refine Zc (Za rfl rfl (Ze rfl) (Zf (Zb (H9 _ _ ?_))))
 refine Yf ?_
 have ak : Ol bcs 4 1 W6 (.slice a (aA).length b) (aA) := by
  have hx := ab
  exact hx
 have bL := F5.ch C6 (fun hm => by have aD := T _ hm; have bM := ae _ hm; omega)
 have bN := F7.ch C6 (fun i hi => by have aD := T _ hi; omega)
 refine Xo (σ := Nat × List Bool) (fun ⟨j, ac⟩ => [(1, (.pointer (some ⟨Y, 0, none⟩))), (2, (.slice none 0 0)), (3, (.slice a (aA).length b)), (4, (.int .i64 ((j : Nat) : Int)))]) (fun ⟨j, ac⟩ wx => Ch [] w wx ∧ W6.heap.size ≤ wx.heap.size ∧ (j ≤ aA.length) ∧ (ac.length = aA.length) ∧ (Zbh (Zbm aA) (Zbq aN) ac) ∧ (Zcl (Zbm aA) (Zbq aN) ac j) ∧ Blk wx Y 27 [(.int .i64 aS), (.slice c aA.length f), (.slice n saN.length o)] ∧ Ls bcs 1 wx LL_aA w.heap.size (.slice c aA.length f) aA ∧ Ol bcs 4 1 wx (.slice a (aA).length b) ac) (fun ⟨j, ac⟩ => aA.length - j) (0, aA) (sC4 rfl rfl rfl rfl (Sub.nil _)) ⟨E, (Nat.le_refl _), om, rfl, (fun s h => .base h), (fun s h => h), bL, bN, ak⟩ ?_
 rintro ⟨j, ac⟩ aX ⟨E, bO, hj, bn, bp, bq, V, aG, af⟩
 have aY := E
 have br := aY.size
 have aZ := V.lt
 refine Zg fun ct bP => ?_
 refine Zg fun cu bQ => ?_
 refine Zc (Za rfl rfl (Zd rfl) (Za rfl rfl (Zh fa27_1 rfl) (Za rfl rfl (Zp V.at_ agg24 rfl rfl) (Za rfl rfl (Xm (by rw [el24]; rfl) rfl) (Za rfl rfl (Xv rfl rfl) (Zf (Zb (bQ _ _ ?_))))))))
 refine Zx rfl (fun I => ?_) (fun I => ?_)
 ·have a0 := I
  have I := Yo I
  refine Zu ?_
  refine Zb (bP _ _ ?_)
  refine Zg fun cv bR => ?_
  refine Yf ?_
  refine Zg fun cw bS => ?_
  refine Zc (Za rfl rfl (Ze rfl) (Zf (Zb (bS _ _ ?_))))
  refine Yf ?_
  have al : Ol bcs 4 1 aX (.slice a (aA).length b) (ac) := by
   have hx := af
   exact hx
  refine Xo (σ := Nat × List Bool) (fun ⟨s, R⟩ => [(1, (.pointer (some ⟨Y, 0, none⟩))), (2, (.slice none 0 0)), (3, (.slice a (aA).length b)), (4, (.int .i64 ((j : Nat) : Int))), (5, (.int .i64 ((s : Nat) : Int))), (11, (.int .i64 ((j : Nat) : Int))), (12, (.pointer (some (Addr.add ⟨Y, 0, none⟩ 1)))), (13, (.slice c aA.length f)), (14, (.int .i64 ((aA.length : Nat) : Int))), (15, (.bool (decide (((j : Nat) : Int) < ((aA.length : Nat) : Int)))))]) (fun ⟨s, R⟩ wx => Ch [] w wx ∧ aX.heap.size ≤ wx.heap.size ∧ (s ≤ aA.length) ∧ (R.length = aA.length) ∧ (Zbh (Zbm aA) (Zbq aN) R) ∧ (Zcl (Zbm aA) (Zbq aN) R j) ∧ (UpTo aA aN j R s) ∧ Blk wx Y 27 [(.int .i64 aS), (.slice c aA.length f), (.slice n saN.length o)] ∧ Ls bcs 1 wx LL_aA w.heap.size (.slice c aA.length f) aA ∧ Ol bcs 4 1 wx (.slice a (aA).length b) R) (fun ⟨s, R⟩ => aA.length - s) (0, ac) (sC8 rfl rfl rfl rfl rfl rfl rfl rfl (sC2 rfl rfl (Sub.nil _))) ⟨E, (Nat.le_refl _), om, bn, bp, bq, Zqp, V, aG, al⟩ ?_
  rintro ⟨s, R⟩ a1 ⟨E, bT, hs, bs, bu, bv, bw, O, ag, ah⟩
  have a2 := E
  have bz := a2.size
  have a3 := O.lt
  refine Zg fun cx bU => ?_
  refine Zg fun cy bV => ?_
  refine Zc (Za rfl rfl (Zd rfl) (Za rfl rfl (Zh fa27_1 rfl) (Za rfl rfl (Zp O.at_ agg24 rfl rfl) (Za rfl rfl (Xm (by rw [el24]; rfl) rfl) (Za rfl rfl (Xv rfl rfl) (Zf (Zb (bV _ _ ?_))))))))
  refine Zx rfl (fun J => ?_) (fun J => ?_)
  ·have a4 := J
   have J := Yo J
   refine Zu ?_
   refine Zb (bU _ _ ?_)
   refine Zg fun cz bW => ?_
   refine Yf ?_
   refine Zg fun cA bX => ?_
   refine Zc (Za rfl rfl (Ze rfl) (Zf (Zb (bX _ _ ?_))))
   refine Yf ?_
   have am : Ol bcs 4 1 a1 (.slice a (aA).length b) (R) := by
    have hx := ah
    exact hx
   refine Xo (σ := Nat × List Bool) (fun ⟨k, D⟩ => [(1, (.pointer (some ⟨Y, 0, none⟩))), (2, (.slice none 0 0)), (3, (.slice a (aA).length b)), (4, (.int .i64 ((j : Nat) : Int))), (5, (.int .i64 ((s : Nat) : Int))), (6, (.int .i64 ((k : Nat) : Int))), (11, (.int .i64 ((j : Nat) : Int))), (12, (.pointer (some (Addr.add ⟨Y, 0, none⟩ 1)))), (13, (.slice c aA.length f)), (14, (.int .i64 ((aA.length : Nat) : Int))), (15, (.bool (decide (((j : Nat) : Int) < ((aA.length : Nat) : Int))))), (18, (.int .i64 ((s : Nat) : Int))), (19, (.pointer (some (Addr.add ⟨Y, 0, none⟩ 1)))), (20, (.slice c aA.length f)), (21, (.int .i64 ((aA.length : Nat) : Int))), (22, (.bool (decide (((s : Nat) : Int) < ((aA.length : Nat) : Int)))))]) (fun ⟨k, D⟩ wx => Ch [] w wx ∧ a1.heap.size ≤ wx.heap.size ∧ (k ≤ 9) ∧ (D.length = aA.length) ∧ (Zbh (Zbm aA) (Zbq aN) D) ∧ (Zcl (Zbm aA) (Zbq aN) D j) ∧ (UpTo aA aN j D s) ∧ (Znt aA aN j D s k) ∧ Blk wx Y 27 [(.int .i64 aS), (.slice c aA.length f), (.slice n saN.length o)] ∧ Ls bcs 1 wx LL_aA w.heap.size (.slice c aA.length f) aA ∧ Ol bcs 4 1 wx (.slice a (aA).length b) D) (fun ⟨k, D⟩ => 9 - k) (0, R) (sC8 rfl rfl rfl rfl rfl rfl rfl rfl (sC8 rfl rfl rfl rfl rfl rfl rfl rfl (Sub.nil _))) ⟨E, (Nat.le_refl _), om, bs, bu, bv, bw, Zod, O, ag, am⟩ ?_
   rintro ⟨k, D⟩ an ⟨E, bY, cB, ao, Z, Q, ap, aq, p, P, x⟩
   have au := E
   have bA := au.size
   have a5 := p.lt
   refine Zg fun cC bZ => ?_
   refine Zg fun cD b0 => ?_
   refine Zc (Za rfl rfl (Zd rfl) (Za rfl rfl (Xv rfl rfl) (Zf (Zb (b0 _ _ ?_)))))
   refine Zx rfl (fun K => ?_) (fun K => ?_)
   ·have a6 := K
    have K := Yo K
    refine Zu ?_
    refine Zb (bZ _ _ ?_)
    refine Zg fun cE a7 => ?_
    refine Yf ?_
    refine Zg fun cF bB => ?_
    refine Zc (Za rfl rfl (Zh fa27_2 rfl) (Za rfl rfl (Zp p.at_ agg25 rfl rfl) (Za rfl rfl (Zd rfl) (Zk rfl rfl ?_))))
    have bC := m.ch0 au
    refine (Yy bC Sv.len el25 sz30 rfl rfl rfl om fun a8 a9 aH av => ?_)
    have bD := A.ch0 au
    obtain ⟨X, g, F⟩ := bD.get aH
    obtain ⟨aI, b1, aJ⟩ := a9
    obtain rfl := F.eqn
    have b2 := F.len
    replace F : Ls ics 1 an LR_aN w.heap.size (.slice aI X.length aJ) X := F
    replace av : At an LL_saN w.heap.size a8 ([(.slice aI X.length aJ)]) := av
    have b3 := (Xy hv.2 g).1
    refine Za rfl rfl (Yk av agg30 rfl rfl) (Za rfl rfl (Zd rfl) (Zk rfl rfl ?_))
    refine (Yy F Yl el30 sz3 rfl rfl rfl om fun b4 b5 u ba => ?_)
    refine Za rfl rfl (Yk ba agg3 rfl rfl) (Za rfl rfl (Zjj rfl rfl) (Za rfl rfl (Zd rfl) ?_))
    refine Ym (d := 38) rfl (fun L => ?_) (fun L => ?_)
    ·have bb := L
     have L := Yo L
     refine Za rfl rfl (Zd rfl) (Za rfl rfl (Zh fa27_2 rfl) (Za rfl rfl (Zp p.at_ agg25 rfl rfl) (Za rfl rfl (Zd rfl) (Zk rfl rfl ?_))))
     refine (Yy bC Sv.len el25 sz30 rfl rfl rfl om fun bc be aK aw => ?_)
     obtain ⟨y, l, G⟩ := bD.get aK
     obtain ⟨aL, b6, aM⟩ := be
     obtain rfl := G.eqn
     have b7 := G.len
     replace G : Ls ics 1 an LR_aN w.heap.size (.slice aL y.length aM) y := G
     replace aw : At an LL_saN w.heap.size bc ([(.slice aL y.length aM)]) := aw
     have b8 := (Xy hv.2 l).1
     refine Za rfl rfl (Yk aw agg30 rfl rfl) (Za rfl rfl (Zd rfl) (Zk rfl rfl ?_))
     refine (Yy G Yl el30 sz3 rfl rfl rfl om fun b9 M H bf => ?_)
     have ca := Qj u ((Qj l g) ▸ H)
     have cG := Zaq hv.2 l H
     refine Za rfl rfl (Yk bf agg3 rfl rfl) (Zk rfl rfl ?_)
     refine (Yy (j := M.toNat) x.ls Qa el24 sz4 rfl rfl om om fun cb cc z bg => ?_)
     refine Za rfl rfl (Yk bg agg4 rfl rfl) (Za rfl rfl (Zw rfl rfl) (Zf (Zb (bB _ _ ?_))))
     refine Zx rfl (fun B => ?_) (fun B => ?_)
     ·have bh := B
      refine Zc (Za rfl rfl (Zd rfl) (Za rfl rfl (Zd rfl) (Zk rfl rfl ?_)))
      refine Zez (j := s) x el24 sz4 rfl rfl rfl om fun cd ce bF bi => ?_
      refine Zk rfl rfl ?_
      refine Zey (j := s) true x bi Qa sz4 rfl rfl rfl rfl om fun cf aO aR => ?_
      have cg := aR.size
      have E := E.step aR (fun i hi => .inl (by have aD := U _ hi; omega))
      refine Zf (Yc (Zb (a7 _ _ (Zc (Za rfl rfl (Zd rfl) (Za rfl rfl (Yq om rfl rfl) (Za rfl rfl (Ze rfl) (Zf ?_))))))))
      have ax : Ol bcs 4 1 cf (.slice a (aA).length b) ((D.set s true)) := by
       have hx := aO
       exact hx
      have ci := p.ch aR (fun hm => by rcases aF with ea | ea; (rw [ea] at hm; have aD := T _ hm; have bM := ae _ hm; omega); (rw [ea] at hm; have bH := List.mem_singleton.1 hm; omega))
      have cj := P.ch aR (fun i hi => by have aD := U _ hi; omega)
      exact Zb (Exists.intro ((k + 1), (D.set s true)) ⟨⟨E, om, om, (by first | exact ao | simpa using ao), (by first | exact Z | exact Zbz Z (.step (t := M.toNat) ⟨k, y, l, by rw [H, Int.toNat_of_nonneg om]⟩ (Z _ (by rw [z, B])))), (by first | exact Q | exact Zhz Q), (by first | exact ap | exact Zkc ap), (by first | exact Zia om | exact Zbx aq g u (fun t e _ => by omega) Q | exact Zbx aq g u (fun t e q => by obtain rfl : t = M.toNat := om; rw [z, B] at q; cases q) Q), ci, cj, ax⟩, sC8 rfl rfl rfl rfl rfl rfl rfl rfl (sC8 rfl rfl rfl rfl rfl rfl rfl rfl (Sub.nil _)), (by first | omega | (dsimp only; omega))⟩)
     have bh := B
     refine Zu ?_
     refine Yc (Zb (a7 _ _ (Zc (Za rfl rfl (Zd rfl) (Za rfl rfl (Yq om rfl rfl) (Za rfl rfl (Ze rfl) (Zf ?_)))))))
     have ay : Ol bcs 4 1 an (.slice a (aA).length b) (D) := by
      have hx := x
      exact hx
     exact Zb (Exists.intro ((k + 1), D) ⟨⟨E, om, om, (by first | exact ao | simpa using ao), (by first | exact Z | exact Zbz Z (.step (t := M.toNat) ⟨k, y, l, by rw [H, Int.toNat_of_nonneg om]⟩ (Z _ (by rw [z, B])))), (by first | exact Q | exact Zhz Q), (by first | exact ap | exact Zkc ap), (by first | exact Zia om | exact Zbx aq g u (fun t e _ => by omega) Q | exact Zbx aq g u (fun t e q => by obtain rfl : t = M.toNat := om; rw [z, B] at q; cases q) Q), p, P, ay⟩, sC8 rfl rfl rfl rfl rfl rfl rfl rfl (sC8 rfl rfl rfl rfl rfl rfl rfl rfl (Sub.nil _)), (by first | omega | (dsimp only; omega))⟩)
    have bb := L
    have L := Yp L
    refine Zj rfl rfl (Zj rfl rfl (Zj rfl rfl (Zj rfl rfl (Zj rfl rfl (Zj rfl rfl (Zj rfl rfl (Zj rfl rfl ?_)))))))
    refine Zj rfl rfl (Zj rfl rfl (Zj rfl rfl (Za rfl rfl (Zv rfl rfl) (Zf (Zb (bB _ _ ?_))))))
    refine Xn rfl ?_
    refine Zu ?_
    refine Yc (Zb (a7 _ _ (Zc (Za rfl rfl (Zd rfl) (Za rfl rfl (Yq om rfl rfl) (Za rfl rfl (Ze rfl) (Zf ?_)))))))
    have az : Ol bcs 4 1 an (.slice a (aA).length b) (D) := by
     have hx := x
     exact hx
    exact Zb (Exists.intro ((k + 1), D) ⟨⟨E, om, om, (by first | exact ao | simpa using ao), (by first | exact Z | exact Zbz Z (.step (t := M.toNat) ⟨k, y, l, by rw [H, Int.toNat_of_nonneg om]⟩ (Z _ (by rw [z, B])))), (by first | exact Q | exact Zhz Q), (by first | exact ap | exact Zkc ap), (by first | exact Zia om | exact Zbx aq g u (fun t e _ => by omega) Q | exact Zbx aq g u (fun t e q => by obtain rfl : t = M.toNat := om; rw [z, B] at q; cases q) Q), p, P, az⟩, sC8 rfl rfl rfl rfl rfl rfl rfl rfl (sC8 rfl rfl rfl rfl rfl rfl rfl rfl (Sub.nil _)), (by first | omega | (dsimp only; omega))⟩)
   have a6 := K
   have K := Yp K
   refine Xk (Ya (Ya (Xd ?_)))
   refine Yc (Zb (bW _ _ (Zc (Za rfl rfl (Zd rfl) (Za rfl rfl (Yq om rfl rfl) (Za rfl rfl (Ze rfl) (Zf ?_)))))))
   have aB : Ol bcs 4 1 an (.slice a (aA).length b) (D) := by
    have hx := x
    exact hx
   exact Zb (Exists.intro ((s + 1), D) ⟨⟨E, om, om, ao, Z, Q, (Zry ap aq (fun r hr => by have aD := (Xy hv.2 hr).1; omega)), p, P, aB⟩, sC8 rfl rfl rfl rfl rfl rfl rfl rfl (sC2 rfl rfl (Sub.nil _)), (by first | omega | (dsimp only; omega))⟩)
  have a4 := J
  have J := Yp J
  refine Xk (Ya (Ya (Xd ?_)))
  refine Yc (Zb (bR _ _ (Zc (Za rfl rfl (Zd rfl) (Za rfl rfl (Yq om rfl rfl) (Za rfl rfl (Ze rfl) (Zf ?_)))))))
  have aC : Ol bcs 4 1 a1 (.slice a (aA).length b) (R) := by
   have hx := ah
   exact hx
  exact Zb (Exists.intro ((j + 1), R) ⟨⟨E, om, om, bs, bu, (Zrr bv bw om), O, ag, aC⟩, sC4 rfl rfl rfl rfl (Sub.nil _), (by first | omega | (dsimp only; omega))⟩)
 have a0 := I
 have I := Yp I
 refine Xk (Ya (Ya (Xd ?_)))
 refine Zb (H8 _ _ ?_)
 refine Zg fun cH ck => ?_
 refine Zc (Za rfl rfl (Zd rfl) (Za rfl rfl (Ze rfl) (Zf (Zb (ck _ _ ?_)))))
 refine Zs ?_
 have aP : Ol bcs 4 1 aX (.slice a (aA).length b) (Yn aA aN) := by
  have hx := af
  (rw [← Zis bn bG bp bq om]; exact hx)
 exact Zi [_] ⟨rfl, trivial⟩ ⟨aP, Lo.down U om, E⟩

/-- spec.l11Find -/
theorem Zek {w : World} {LL_l m : Nat} {d : Value} {l : List Int} (b : Ls ics 1 w LL_l m d l) (x : Int) :
 Ctr Try.prog 135 #[d, (.int .i64 x)] w (fun v w' => ∃ (j : Int) , v = .int .i64 j ∧ ((j = -1 ∧ x ∉ l) ∨ (0 ≤ j ∧ j < l.length)) ∧ Ch [] w w') := by
 obtain ⟨e, f, g⟩ := b.val
 subst g
 have q := b.len
 have b := b.here (by decide)
 have E := Ch.refl [] w
 refine Yh (N := 19) (vs0 := [(.slice e l.length f), (.int .i64 x)]) Try.func135 rfl rfl rfl ?_
 refine Zg fun K1 H1 => ?_
 refine Zc (Za rfl rfl (Ze rfl) (Zf (Zb (H1 _ _ ?_))))
 refine Zg fun K2 H2 => ?_
 refine Zg fun K3 H3 => ?_
 refine Zc (Za rfl rfl (Ze rfl) (Zf (Zb (H3 _ _ ?_))))
 refine Yf ?_
 refine Xo (σ := Nat) (fun (k : Nat) => [(0, (.slice e l.length f)), (1, (.int .i64 x)), (5, (.int .i64 ((k : Nat) : Int)))]) (fun (k : Nat) wx => Ch [] w wx ∧ w.heap.size ≤ wx.heap.size ∧ (k ≤ l.length) ∧ (x ∉ l.take k)) (fun (k : Nat) => l.length - k) 0 (sC2 rfl rfl (sC1 rfl (Sub.nil _))) ⟨E, (Nat.le_refl _), om, (by simp)⟩ ?_
 rintro k R4 ⟨E, r, B, hn⟩
 have h := E
 have p := h.size
 refine Zg fun K5 H5 => ?_
 refine Zg fun K6 H6 => ?_
 refine Zc (Za rfl rfl (Zd rfl) (Za rfl rfl (Zd rfl) (Za rfl rfl (Xm (by rw [el30]; rfl) rfl) (Za rfl rfl (Xv rfl rfl) (Zf (Zb (H6 _ _ ?_)))))))
 refine Zx rfl (fun c => ?_) (fun c => ?_)
 ·have s := c
  have c := Yo c
  refine Zu ?_
  refine Zb (H5 _ _ ?_)
  refine Zg fun K8 H8 => ?_
  refine Yf ?_
  refine Zg fun K9 H9 => ?_
  refine Zc (Za rfl rfl (Zd rfl) (Za rfl rfl (Zd rfl) (Zk rfl rfl ?_)))
  have t := b.ch0 h
  refine (Yy t Yl el30 sz3 rfl rfl rfl om fun u y i n => ?_)
  refine Za rfl rfl (Yk n agg3 rfl rfl) (Za rfl rfl (Zd rfl) (Za rfl rfl (Xu rfl rfl) (Zf (Zb (H9 _ _ ?_)))))
  refine Zx rfl (fun a => ?_) (fun a => ?_)
  ·have o := a
   have a := Yo a
   refine Zg fun C z => ?_
   refine Zc (Za rfl rfl (Zd rfl) (Za rfl rfl (Ze rfl) (Zf (Zb (z _ _ ?_)))))
   refine Zs (Yi (Zm (Zm (Yi (Zm ?_)))))
   clear H2 H8
   exact Zi [_] ⟨rfl, trivial⟩ ⟨((k : Nat) : Int), (congrArg (fun zq => (Value.int .i64 zq)) (by first | rfl | simp_all)), (by first | exact .inr ⟨by omega, by omega⟩ | exact .inl ⟨rfl, Zle hn om⟩), E⟩
  have o := a
  have a := Yp a
  refine Zu ?_
  refine Yc (Zb (H8 _ _ (Zc (Za rfl rfl (Zd rfl) (Za rfl rfl (Yq om rfl rfl) (Za rfl rfl (Ze rfl) (Zf ?_)))))))
  exact Zb (Exists.intro (k + 1) ⟨⟨E, om, om, (Znz hn i a)⟩, sC2 rfl rfl (sC1 rfl (Sub.nil _)), (by first | omega | (dsimp only; omega))⟩)
 have s := c
 have c := Yp c
 refine Xk (Ya (Ya (Xd ?_)))
 refine Zb (H2 _ _ ?_)
 refine Zg fun D A => ?_
 refine Zc (Za rfl rfl (Ze rfl) (Zf (Zb (A _ _ ?_))))
 refine Zs ?_
 exact Zi [_] ⟨rfl, trivial⟩ ⟨(-1), (congrArg (fun zq => (Value.int .i64 zq)) (by first | rfl | simp_all)), (by first | exact .inr ⟨by omega, by omega⟩ | exact .inl ⟨rfl, Zle hn om⟩), E⟩

/-- spec.l11Nothing -/
theorem Zgc {w : World}  :
 Ctr Try.prog 141 #[] w (fun v w' => ∃ (m : Value) (n : Value) (h : List Sv), v = .agg #[.int .i64 0, m, n] ∧ Ol bcs 4 1 w' m ([false]) ∧ Lo w.heap.size m ∧ Ol Sv.cs 30 1 w' n h ∧ Lo w.heap.size n ∧ Od ics 3 1 w' w.heap.size w'.heap.size h ([List.replicate 9 (-1 : Int)]) ∧ Sep n h ∧ (∀ g ∈ bl m, g ∉ bl n) ∧ Sep m h ∧ Ch [] w w') := by
 have E := Ch.refl [] w
 refine Yh (N := 15) (vs0 := []) Try.func141 rfl rfl rfl ?_
 refine Zg fun K1 H1 => ?_
 refine Zc (Zk rfl rfl ?_)
 refine Yr zr27 fun Q W2 R C2 aQ => ?_
 have aR := C2.size
 have E := E.trans C2
 have aS := R.lt
 replace R : Blk W2 Q 27 [(.int .i64 0), (.slice none 0 0), (.slice none 0 0)] := R
 refine Zf (Zb (H1 _ _ ?_))
 refine Zg fun K3 H3 => ?_
 refine Zc (Zk rfl rfl ?_)
 refine Xt (k := 1) ics el30 sz3 fun aT W4 ad U C4 => ?_
 have aU := C4.size
 have E := E.trans C4
 obtain ⟨A, B, rfl, an, ae⟩ := ad.opn
 refine Za rfl rfl (Ze rfl) (Zf (Zb (H3 _ _ ?_)))
 refine Zg fun K5 H5 => ?_
 refine Zg fun K6 H6 => ?_
 refine Zc (Za rfl rfl (Ze rfl) (Zf (Zb (H6 _ _ ?_))))
 refine Yf ?_
 have C : Ol ics 3 1 W4 (.slice A (([] : List Int)).length B) (List.replicate 0 (-1 : Int)) := by
  have hx := ad
  simpa using hx
 have F8 := R.ch0 C4
 refine Xo (σ := Nat × Value) (fun ⟨k, kv⟩ => [(0, (.pointer (some ⟨Q, 0, none⟩))), (1, kv), (2, (.int .i64 ((k : Nat) : Int)))]) (fun ⟨k, kv⟩ wx => Ch [] w wx ∧ W4.heap.size ≤ wx.heap.size ∧ (k ≤ 9) ∧ Blk wx Q 27 [(.int .i64 0), (.slice none 0 0), (.slice none 0 0)] ∧ Ol ics 3 1 wx kv (List.replicate k (-1 : Int)) ∧ Lo W2.heap.size kv) (fun ⟨k, kv⟩ => 9 - k) (0, (.slice A (([] : List Int)).length B)) (sC2 rfl rfl (sC1 rfl (Sub.nil _))) ⟨E, (Nat.le_refl _), om, F8, C, U⟩ ?_
 rintro ⟨k, kv⟩ R9 ⟨E, ao, aV, o, p, e⟩
 have V := E
 have af := V.size
 have X := o.lt
 obtain ⟨Akv, Ckv, rfl, lkv, hikv⟩ := p.opn
 refine Zg fun aW ap => ?_
 refine Zg fun aX aq => ?_
 refine Zc (Za rfl rfl (Zd rfl) (Za rfl rfl (Xv rfl rfl) (Zf (Zb (aq _ _ ?_)))))
 refine Zx rfl (fun x => ?_) (fun x => ?_)
 ·have Y := x
  have x := Yo x
  refine Zu ?_
  refine Zb (ap _ _ ?_)
  refine Zg fun aY au => ?_
  refine Yf ?_
  refine Zc (Za rfl rfl (Zd rfl) (Zk rfl rfl ?_))
  refine Zr (cs := ics) (parts := [(0, .const (Go.Value.int Go.IntKind.i64 (-1)))]) (0 : Int) [(-1)] el30 sz3 zr3 Yl (by decide) rfl rfl rfl (by decide) (by decide) rfl fun aZ a0 ag av S => ?_
  have aw := S.size
  have E := E.trans S
  obtain ⟨ax, ay, rfl, az, ah⟩ := ag.opn
  refine Zk rfl rfl ?_
  have aA := p.ch0 S
  refine Yj (cs := ics) el30 sz3 by3 zr3 rfl (by decide) Xz aA ag.ls rfl rfl bd bd e om fun aB aC D F ai Z => ?_
  have aD := Z.size
  have E := E.step Z (fun i hi => .inl (by have G := e _ hi; omega))
  obtain ⟨s, t, rfl, aj, aa⟩ := D.opn
  refine Za rfl rfl (Ze rfl) (Zf (Yc (Zb (au _ _ (Zc (Za rfl rfl (Zd rfl) (Za rfl rfl (Yq om rfl rfl) (Za rfl rfl (Ze rfl) ?_))))))))
  refine Zf ?_
  have y : Ol ics 3 1 aC (.slice s ((List.replicate k (-1 : Int) ++ [(-1)])).length t) (List.replicate (k + 1) (-1 : Int)) := by
   have hx := D
   rw [List.replicate_succ'] ; exact hx
  have aE := (o.ch0 S).ch Z (fun hm => by have G := e _ hm; have ab := hikv _ hm; omega)
  exact Zb (Exists.intro ((k + 1), (.slice s ((List.replicate k (-1 : Int) ++ [(-1)])).length t)) ⟨⟨E, om, om, aE, y, (Lo.down F om)⟩, sC2 rfl rfl (sC1 rfl (Sub.nil _)), (by first | omega | (dsimp only; omega))⟩)
 have Y := x
 have x := Yp x
 refine Xk (Ya (Ya (Xd ?_)))
 refine Zb (H5 _ _ ?_)
 refine Zg fun a1 aF => ?_
 refine Zc (Zk rfl rfl ?_)
 refine Zr (cs := bcs) (parts := [(0, .const (Go.Value.bool false))]) false [false] el24 sz4 zr4 Qa (by decide) rfl rfl rfl (by decide) (by decide) rfl fun aG a2 H j T => ?_
 have aH := T.size
 have E := E.trans T
 obtain ⟨c, d, rfl, ak, f⟩ := H.opn
 refine Za rfl rfl (Zd rfl) (Zk rfl rfl ?_)
 refine Zr (cs := Sv.cs) (parts := [(0, .tmp 12)]) (⟨none, 0, 0⟩ : Sv) [(⟨Akv, (List.replicate k (-1 : Int)).length, Ckv⟩ : Sv)] el25 sz30 zr30 Sv.len (by decide) rfl rfl rfl (by decide) (by decide) rfl fun aI aJ I l J => ?_
 have aK := J.size
 have E := E.trans J
 obtain ⟨a, b, rfl, al, q⟩ := I.opn
 have aL := (p.ch0 T).ch0 J
 have ac : Od ics 3 1 aJ W2.heap.size R9.heap.size ([(⟨Akv, (List.replicate k (-1 : Int)).length, Ckv⟩ : Sv)]) ([List.replicate k (-1 : Int)]) := Od.snoc (hi := W2.heap.size) (vs := []) (xs := []) Od.nil aL (Lo.down e om) (fun g hg => by have G := hikv g hg; omega) om om
 have K : Sep (.slice a ([(⟨Akv, (List.replicate k (-1 : Int)).length, Ckv⟩ : Sv)]).length b) [(⟨Akv, (List.replicate k (-1 : Int)).length, Ckv⟩ : Sv)] := fun u hu g hg hm => by rw [List.mem_singleton.1 hu] at hg; have G := hikv _ hg; have ab := l _ hm; omega
 refine Za rfl rfl (Yt (parts := [(1, .tmp 11), (2, .tmp 13)]) (cells := [(.int .i64 0), (.slice c ([false]).length d), (.slice a ([(⟨Akv, (List.replicate k (-1 : Int)).length, Ckv⟩ : Sv)]).length b)]) zr27 pl27 rfl rfl) (Zk rfl rfl ?_)
 have aM := (o.ch0 T).ch0 J
 refine Zy (off := 0) 3 aM sz27 rfl (us := [(.int .i64 0), (.slice c ([false]).length d), (.slice a ([(⟨Akv, (List.replicate k (-1 : Int)).length, Ckv⟩ : Sv)]).length b)]) rfl rfl rfl rfl fun z r L => ?_
 have aN := L.size
 have E := E.step L (lS om)
 replace r : Blk z Q 27 [(.int .i64 0), (.slice c ([false]).length d), (.slice a ([(⟨Akv, (List.replicate k (-1 : Int)).length, Ckv⟩ : Sv)]).length b)] := r
 refine Zf (Zb (aF _ _ ?_))
 refine Zs ?_
 have aO := (H.ch0 J).ch L (dS j f om)
 have M : Ol bcs 4 1 z (.slice c ([false]).length d) ([false]) := by
  have hx := aO
  first | exact hx | simpa using hx
 have aP := I.ch L (dS l q om)
 have am := ac.ch L (oS om)
 have O : Ol Sv.cs 30 1 z (.slice a ([(⟨Akv, (List.replicate k (-1 : Int)).length, Ckv⟩ : Sv)]).length b) ([(⟨Akv, (List.replicate k (-1 : Int)).length, Ckv⟩ : Sv)]) := by
  have hx := aP
  exact hx
 have P : Od ics 3 1 z w.heap.size z.heap.size ([(⟨Akv, (List.replicate k (-1 : Int)).length, Ckv⟩ : Sv)]) ([List.replicate 9 (-1 : Int)]) := by
  have hx := am.up (lo' := w.heap.size) (hi' := z.heap.size) om om
  rw [show 9 = k by omega]; exact hx
 exact Zi [_] (Zz r rfl agg27 sz27 trivial) ⟨(.slice c ([false]).length d), (.slice a ([(⟨Akv, (List.replicate k (-1 : Int)).length, Ckv⟩ : Sv)]).length b), ([(⟨Akv, (List.replicate k (-1 : Int)).length, Ckv⟩ : Sv)]), (congrArg (fun zq => (Value.agg #[.int .i64 zq, (.slice c ([false]).length d), (.slice a ([(⟨Akv, (List.replicate k (-1 : Int)).length, Ckv⟩ : Sv)]).length b)])) (by first | rfl | simp_all)), M, (Lo.down j om), O, (Lo.down l om), P, K, (fun g hm hg => by have G := j _ hm; have ab := f _ hm; have a3 := l _ hg; have a4 := q _ hg; omega), (fun u hu g hg hm => by have a5 := am.rng hu hg; have G := j _ hm; have ab := f _ hm; omega), E⟩

/-- spec.l11Number -/
theorem Zgy {w : World} (aS : Int) {LL_aA e7 : Nat} {d8 : Value} {aA : List Bool} (bp : Ls bcs 1 w LL_aA e7 d8 aA) {LL_saN et : Nat} {cN : Value} {saN : List Sv} (bq : Ls Sv.cs 1 w LL_saN et cN saN) {LR_aN BB_aN : Nat} {aN : List (List Int)} (bI : Rd ics 1 w LR_aN BB_aN saN aN) {LL_classes b0 : Nat} {br : Value} {classes : List Int} (ad : Ls ics 1 w LL_classes b0 br classes) {LL_live ds : Nat} {cx : Value} {live : List Bool} (aB : Ls bcs 1 w LL_live ds cx live) (hv : Yz aS aA aN) (hll : live.length = aA.length) (hcl : classes.length = aA.length) (hcr : ∀ c ∈ classes, -1 ≤ c ∧ c ≤ 11) :
 Ctr Try.prog 137 #[(.agg #[(.int .i64 aS), d8, cN]), br, cx] w (fun v w' => ∃ (e8 : Int) (e9 : List Bool) (fa : List (List Int)) (bU : Value) (bV : Value) (bJ : List Sv), v = .agg #[.int .i64 e8, bU, bV] ∧ Ol bcs 4 1 w' bU (e9) ∧ Lo w.heap.size bU ∧ Ol Sv.cs 30 1 w' bV bJ ∧ Lo w.heap.size bV ∧ Od ics 3 1 w' w.heap.size w'.heap.size bJ (fa) ∧ Sep bV bJ ∧ (∀ g ∈ bl bU, g ∉ bl bV) ∧ Sep bU bJ ∧ Ch [] w w') := by
 obtain ⟨cy, cz, eu⟩ := bp.val
 subst eu
 have iB := bp.len
 have bp := bp.here (by decide)
 obtain ⟨bK, bL, dt⟩ := bq.val
 subst dt
 have f7 := bq.len
 have bq := bq.here (by decide)
 have bI := bI.here (by decide)
 have f8 := bI.1
 obtain ⟨ae, af, bW⟩ := ad.val
 subst bW
 have ew := ad.len
 have ad := ad.here (by decide)
 obtain ⟨aC, aD, cO⟩ := aB.val
 subst cO
 have fX := aB.len
 have aB := aB.here (by decide)
 have E := Ch.refl [] w
 have k6 := hv.2.2.1; have k7 := hv.1; have k8 := hv.2.1
 refine Yh (N := 107) (vs0 := [(.agg #[(.int .i64 aS), (.slice cy aA.length cz), (.slice bK saN.length bL)]), (.slice ae classes.length af), (.slice aC live.length aD)]) Try.func137 rfl rfl rfl ?_
 refine Zg fun K1 H1 => ?_
 refine Zc (Zk rfl rfl ?_)
 refine Xw rfl fun fb W2 fY C2 k9 => ?_
 have la := C2.size
 have E := E.trans C2
 have lb := fY.lt
 replace fY : Blk W2 fb 27 [(.int .i64 aS), (.slice cy aA.length cz), (.slice bK saN.length bL)] := fY
 refine Zk rfl rfl ?_
 refine Yr zr27 fun ex W3 fc C3 lc => ?_
 have ld := C3.size
 have E := E.trans C3
 have le := fc.lt
 replace fc : Blk W3 ex 27 [(.int .i64 0), (.slice none 0 0), (.slice none 0 0)] := fc
 refine Zf (Zb (H1 _ _ ?_))
 refine Zg fun K4 H4 => ?_
 refine Zg fun K5 H5 => ?_
 refine Zc (Za rfl rfl (Zd rfl) (Za rfl rfl (Zh fa27_0 rfl) ?_))
 have F6 := fY.ch0 C3
 refine Za rfl rfl (Zp F6.at_ agg3 rfl rfl) (Zk rfl rfl ?_)
 have F7 := (aB.ch0 C2).ch0 C3
 refine (Yy (j := aS.toNat) F7 Qa el24 sz4 rfl rfl om om fun jy jz iC f9 => ?_)
 refine Za rfl rfl (Yk f9 agg4 rfl rfl) (Za rfl rfl (Xi rfl) (Zf (Zb (H5 _ _ ?_))))
 refine Zx rfl (fun ey => ?_) (fun ey => ?_)
 ·have jA := ey
  refine Zg fun K9 H9 => ?_
  refine Zc (Zk rfl rfl ?_)
  refine Step.call (Zl (xs := []) fk141 rfl) (Zgc  ) fun jB lf ga => ?_
  obtain ⟨fZ, f0, R, rfl, bs, a3, bu, a4, bM, bG, ax, ak, gb⟩ := ga
  have jC := gb.size
  have E := E.trans gb
  obtain ⟨al, am, rfl, fd, b1⟩ := bs.opn
  obtain ⟨an, ao, rfl, fe, b2⟩ := bu.opn
  refine Zk rfl rfl ?_
  have jD := fc.ch0 gb
  refine Zy (off := 0) 3 jD sz27 rfl (us := [(.int .i64 0), (.slice al ([false]).length am), (.slice an (R).length ao)]) rfl rfl rfl rfl fun e4 cP ff => ?_
  have jE := ff.size
  have E := E.step ff (lS om)
  replace cP : Blk e4 ex 27 [(.int .i64 0), (.slice al ([false]).length am), (.slice an (R).length ao)] := cP
  refine Zf (Zb (H9 _ _ ?_))
  refine Zs (Zm ?_)
  have jF := bs.ch ff (dS a3 b1 om)
  have fg : Ol bcs 4 1 e4 (.slice al ([false]).length am) ([false]) := by
   have hx := jF
   first | exact hx | simpa using hx
  have jG := bu.ch ff (dS a4 b2 om)
  have jH := bM.ch ff (oS om)
  have fh : Ol Sv.cs 30 1 e4 (.slice an (R).length ao) R := by
   have hx := jG
   exact hx
  have fi : Od ics 3 1 e4 w.heap.size e4.heap.size R ([List.replicate 9 (-1 : Int)]) := by
   have hx := jH.up (lo' := w.heap.size) (hi' := e4.heap.size) om om
   exact hx
  exact Zi [_] (Zz cP rfl agg27 sz27 trivial) ⟨0, ([false]), ([List.replicate 9 (-1 : Int)]), (.slice al ([false]).length am), (.slice an (R).length ao), R, (congrArg (fun zq => (Value.agg #[.int .i64 zq, (.slice al ([false]).length am), (.slice an (R).length ao)])) (by first | rfl | simp_all)), fg, (Lo.down a3 om), fh, (Lo.down a4 om), fi, bG, (fun g hm hg => by exact ax _ hm hg), ak, E⟩
 have jA := ey
 refine Zu ?_
 refine Zb (H4 _ _ ?_)
 refine Zg fun lg jI => ?_
 refine Zc (Za rfl rfl (Yt (parts := []) (cells := [(.int .i64 0), (.slice none 0 0), (.slice none 0 0)]) zr27 pl27 rfl rfl) (Zk rfl rfl ?_))
 refine Yr zr27 fun aE jJ f1 e5 lh => ?_
 have jK := e5.size
 have E := E.trans e5
 have li := f1.lt
 replace f1 : Blk jJ aE 27 [(.int .i64 0), (.slice none 0 0), (.slice none 0 0)] := f1
 refine Zk rfl rfl ?_
 refine Zy (off := 0) 3 f1 sz27 rfl (us := [(.int .i64 0), (.slice none 0 0), (.slice none 0 0)]) rfl rfl rfl rfl fun gc cQ e6 => ?_
 have jL := e6.size
 have E := E.step e6 (lS om)
 replace cQ : Blk gc aE 27 [(.int .i64 0), (.slice none 0 0), (.slice none 0 0)] := cQ
 refine Zf (Zb (jI _ _ ?_))
 refine Zg fun lj jM => ?_
 refine Zc (Za rfl rfl (Zd rfl) (Za rfl rfl (Zh fa27_0 rfl) ?_))
 have iD := (F6.ch0 e5).ch e6 (nS om)
 refine Za rfl rfl (Zp iD.at_ agg3 rfl rfl) (Zk rfl rfl ?_)
 have iE := (((ad.ch0 C2).ch0 C3).ch0 e5).ch e6 (oS om)
 refine (Yy (j := aS.toNat) iE Yl el30 sz3 rfl rfl om om fun jN cR fj gd => ?_)
 refine Za rfl rfl (Yk gd agg3 rfl rfl) (Zk rfl rfl ?_)
 refine Zr (cs := ics) (parts := [(0, .tmp 27)]) (0 : Int) [cR] el30 sz3 zr3 Yl (by decide) rfl rfl rfl (by decide) (by decide) rfl fun jO iF fk d9 ez => ?_
 have jP := ez.size
 have E := E.trans ez
 obtain ⟨eb, ec, rfl, iG, eA⟩ := fk.opn
 refine Za rfl rfl (Ze rfl) (Zf (Zb (jM _ _ ?_)))
 refine Zg fun lk jQ => ?_
 refine Zc (Za rfl rfl (Zh fa27_0 rfl) ?_)
 have iH := iD.ch0 ez
 refine Za rfl rfl (Zp iH.at_ agg3 rfl rfl) (Zk rfl rfl ?_)
 refine Zr (cs := ics) (parts := [(0, .tmp 30)]) (0 : Int) [aS] el30 sz3 zr3 Yl (by decide) rfl rfl rfl (by decide) (by decide) rfl fun jR cS fl ed ee => ?_
 have jS := ee.size
 have E := E.trans ee
 obtain ⟨ef, eg, rfl, iI, eB⟩ := fl.opn
 refine Za rfl rfl (Ze rfl) (Zf (Zb (jQ _ _ ?_)))
 refine Zg fun ll jT => ?_
 refine Zg fun lm jU => ?_
 refine Zc (Za rfl rfl (Ze rfl) (Zf (Zb (jU _ _ ?_))))
 refine Yf ?_
 have jV := fk.ch0 ee
 have eC : Ol ics 3 1 cS (.slice eb ([cR]).length ec) ([cR]) := by
  have hx := jV
  exact hx
 have eD : Ol ics 3 1 cS (.slice ef ([aS]).length eg) ([aS]) := by
  have hx := fl
  exact hx
 have eE : Ol bcs 4 1 cS (.slice none 0 0) (([] : List Bool)) := by
  have hx := Ol.nil (cs := bcs) (e := 4) (k := 1) cS
  exact hx
 have eF : Ol Sv.cs 30 1 cS (.slice none 0 0) (([] : List Sv)) := by
  have hx := Ol.nil (cs := Sv.cs) (e := 30) (k := 1) cS
  exact hx
 have jW := (cQ.ch0 ez).ch0 ee
 have jX := (iE.ch0 ez).ch0 ee
 have jY := (((F7.ch0 e5).ch e6 (oS om)).ch0 ez).ch0 ee
 have jZ := iH.ch0 ee
 have j0 := (((fc.ch0 e5).ch e6 (nS om)).ch0 ez).ch0 ee
 refine Xo (σ := Nat × List Bool × List Sv × List (List Int) × List Int × List Int × Value × Value × Value × Value) (fun ⟨i, ab, vs, rs, os, ps, ov, pv, av, nv⟩ => [(1, (.slice ae classes.length af)), (2, (.slice aC live.length aD)), (3, (.pointer (some ⟨fb, 0, none⟩))), (6, (.pointer (some ⟨ex, 0, none⟩))), (7, (.pointer (some ⟨aE, 0, none⟩))), (8, ov), (9, pv), (10, (.int .i64 ((i : Nat) : Int)))]) (fun ⟨i, ab, vs, rs, os, ps, ov, pv, av, nv⟩ wx => Ch [] w wx ∧ cS.heap.size ≤ wx.heap.size ∧ (i ≤ os.length ∧ ps.length = os.length) ∧ (os.Nodup ∧ ∀ c ∈ os, -1 ≤ c ∧ c ≤ 11) ∧ (∀ c ∈ ps, 0 ≤ c ∧ c < (aA.length : Int)) ∧ (ab.length = i ∧ vs.length = i) ∧ Ls ics 1 wx LL_classes w.heap.size (.slice ae classes.length af) classes ∧ Ls bcs 1 wx LL_live w.heap.size (.slice aC live.length aD) live ∧ Blk wx fb 27 [(.int .i64 aS), (.slice cy aA.length cz), (.slice bK saN.length bL)] ∧ Blk wx ex 27 [(.int .i64 0), (.slice none 0 0), (.slice none 0 0)] ∧ Ol ics 3 1 wx ov os ∧ Lo gc.heap.size ov ∧ Ol ics 3 1 wx pv ps ∧ Lo iF.heap.size pv ∧ Ol bcs 4 1 wx av ab ∧ Lo cS.heap.size av ∧ Ol Sv.cs 30 1 wx nv vs ∧ Lo cS.heap.size nv ∧ Od ics 3 1 wx cS.heap.size wx.heap.size vs rs ∧ Blk wx aE 27 [(.int .i64 0), av, nv] ∧ (∀ g ∈ bl pv, g ∉ bl ov) ∧ (∀ g ∈ bl av, g ∉ bl ov) ∧ (∀ g ∈ bl av, g ∉ bl pv) ∧ (aE ∉ bl av) ∧ (∀ g ∈ bl nv, g ∉ bl ov) ∧ (∀ g ∈ bl nv, g ∉ bl pv) ∧ (∀ g ∈ bl nv, g ∉ bl av) ∧ (aE ∉ bl nv) ∧ (Sep ov vs) ∧ (Sep pv vs) ∧ (Sep av vs) ∧ (Sep nv vs)) (fun ⟨i, ab, vs, rs, os, ps, ov, pv, av, nv⟩ => 13 - i) (0, ([] : List Bool), ([] : List Sv), ([] : List (List Int)), [cR], [aS], (.slice eb ([cR]).length ec), (.slice ef ([aS]).length eg), (.slice none 0 0), (.slice none 0 0)) (sC8 rfl rfl rfl rfl rfl rfl rfl rfl (Sub.nil _)) ⟨E, (Nat.le_refl _), ⟨by omega, rfl⟩, ⟨by simp, fun c hc => by rw [List.mem_singleton.1 hc]; exact hcr _ (Yv fj)⟩, (fun c hc => by rw [List.mem_singleton.1 hc]; omega), ⟨rfl, rfl⟩, jX, jY, jZ, j0, eC, d9, eD, ed, eE, (Lo.nil _), eF, (Lo.nil _), Od.nil, jW, (fun g hm hg => by have x := ed _ hm; have J := eB _ hm; have K := d9 _ hg; have L := eA _ hg; omega), (fun g hm hg => by cases hm), (fun g hm hg => by cases hm), (fun hm => by cases hm), (fun g hm hg => by cases hm), (fun g hm hg => by cases hm), (fun g hm hg => by cases hm), (fun hm => by cases hm), (fun u hu => by cases hu), (fun u hu => by cases hu), (fun u hu => by cases hu), (fun u hu => by cases hu)⟩ ?_
 rintro ⟨i, ab, vs, rs, os, ps, ov, pv, av, nv⟩ iJ ⟨E, j1, hi, hO, hR, hl, fm, fn, eh, cT, ei, cU, ej, cV, b3, b, b4, f, od, ek, b5, b6, b7, D, b8, b9, C, F, du, dv, Y, Z⟩
 have ge := E
 have iK := ge.size
 have gf := eh.lt
 have gg := cT.lt
 obtain ⟨Aov, Cov, rfl, lov, hiov⟩ := ei.opn
 obtain ⟨Apv, Cpv, rfl, lpv, hipv⟩ := ej.opn
 obtain ⟨Aav, Cav, rfl, lav, hiav⟩ := b3.opn
 obtain ⟨Anv, Cnv, rfl, lnv, hinv⟩ := b4.opn
 have ln := Zpg hO.1 hO.2
 refine Zg fun lo j2 => ?_
 refine Zg fun lp j3 => ?_
 refine Zc (Za rfl rfl (Zd rfl) (Za rfl rfl (Zd rfl) (Za rfl rfl (Xm (by rw [el30]; rfl) rfl) (Za rfl rfl (Xv rfl rfl) (Zf (Zb (j3 _ _ ?_)))))))
 refine Zx rfl (fun ca => ?_) (fun ca => ?_)
 ·have gh := ca
  have ca := Yo ca
  refine Zu ?_
  refine Zb (j2 _ _ ?_)
  refine Zg fun lq f2 => ?_
  refine Yf ?_
  refine Zg fun lr j4 => ?_
  refine Zc (Zk rfl rfl ?_)
  refine Xt (k := 1) ics el30 sz3 fun j5 f3 fo cA cJ => ?_
  have j6 := cJ.size
  have E := E.trans cJ
  obtain ⟨el, em, rfl, iL, cb⟩ := fo.opn
  refine Za rfl rfl (Ze rfl) (Zf (Zb (j4 _ _ ?_)))
  refine Zg fun lu j7 => ?_
  refine Zg fun lv j8 => ?_
  refine Zc (Za rfl rfl (Ze rfl) (Zf (Zb (j8 _ _ ?_))))
  refine Yf ?_
  have j9 := ei.ch0 cJ
  have eG : Ol ics 3 1 f3 (.slice Aov (os).length Cov) (os) := by
   have hx := j9
   exact hx
  have ka := ej.ch0 cJ
  have eH : Ol ics 3 1 f3 (.slice Apv (ps).length Cpv) (ps) := by
   have hx := ka
   exact hx
  have eI : Ol ics 3 1 f3 (.slice el (([] : List Int)).length em) (([] : List Int)) := by
   have hx := fo
   exact hx
  have iM := od.ch0 cJ
  have kb := fm.ch0 cJ
  have kc := fn.ch0 cJ
  have kd := eh.ch0 cJ
  have ke := cT.ch0 cJ
  have kf := ek.ch0 cJ
  have kg := b3.ch0 cJ
  have kh := b4.ch0 cJ
  refine Xo (σ := Nat × List Int × List Int × List Int × Value × Value × Value) (fun ⟨k, row, us, qs, ou, pu, rv⟩ => [(1, (.slice ae classes.length af)), (2, (.slice aC live.length aD)), (3, (.pointer (some ⟨fb, 0, none⟩))), (6, (.pointer (some ⟨ex, 0, none⟩))), (7, (.pointer (some ⟨aE, 0, none⟩))), (8, ou), (9, pu), (10, (.int .i64 ((i : Nat) : Int))), (11, rv), (12, (.int .i64 ((k : Nat) : Int))), (35, (.bool (decide (((i : Nat) : Int) < ((os.length : Nat) : Int)))))]) (fun ⟨k, row, us, qs, ou, pu, rv⟩ wx => Ch [] w wx ∧ f3.heap.size ≤ wx.heap.size ∧ (k ≤ 9 ∧ row.length = k) ∧ (os.length ≤ us.length ∧ qs.length = us.length) ∧ (us.Nodup ∧ ∀ c ∈ us, -1 ≤ c ∧ c ≤ 11) ∧ (∀ c ∈ qs, 0 ≤ c ∧ c < (aA.length : Int)) ∧ Ls ics 1 wx LL_classes w.heap.size (.slice ae classes.length af) classes ∧ Ls bcs 1 wx LL_live w.heap.size (.slice aC live.length aD) live ∧ Blk wx fb 27 [(.int .i64 aS), (.slice cy aA.length cz), (.slice bK saN.length bL)] ∧ Blk wx ex 27 [(.int .i64 0), (.slice none 0 0), (.slice none 0 0)] ∧ Blk wx aE 27 [(.int .i64 0), (.slice Aav (ab).length Cav), (.slice Anv (vs).length Cnv)] ∧ Ol bcs 4 1 wx (.slice Aav (ab).length Cav) ab ∧ Ol Sv.cs 30 1 wx (.slice Anv (vs).length Cnv) vs ∧ Ol ics 3 1 wx ou us ∧ Lo gc.heap.size ou ∧ Ol ics 3 1 wx pu qs ∧ Lo iF.heap.size pu ∧ Ol ics 3 1 wx rv row ∧ Lo iJ.heap.size rv ∧ Od ics 3 1 wx cS.heap.size iJ.heap.size vs rs ∧ (∀ g ∈ bl ou, g ∉ bl (.slice Aav (ab).length Cav)) ∧ (∀ g ∈ bl ou, g ∉ bl (.slice Anv (vs).length Cnv)) ∧ (∀ g ∈ bl pu, g ∉ bl (.slice Aav (ab).length Cav)) ∧ (∀ g ∈ bl pu, g ∉ bl (.slice Anv (vs).length Cnv)) ∧ (∀ g ∈ bl pu, g ∉ bl ou) ∧ (∀ g ∈ bl rv, g ∉ bl ou) ∧ (∀ g ∈ bl rv, g ∉ bl pu) ∧ (Sep ou vs) ∧ (Sep pu vs) ∧ (Sep rv vs)) (fun ⟨k, row, us, qs, ou, pu, rv⟩ => 9 - k) (0, ([] : List Int), os, ps, (.slice Aov (os).length Cov), (.slice Apv (ps).length Cpv), (.slice el (([] : List Int)).length em)) (sC8 rfl rfl rfl rfl rfl rfl rfl rfl (sC2 rfl rfl (sC1 rfl (Sub.nil _)))) ⟨E, (Nat.le_refl _), ⟨by omega, rfl⟩, om, hO, hR, kb, kc, kd, ke, kf, kg, kh, eG, cU, eH, cV, eI, cA, iM, (fun g hm hg => by exact b6 _ hg hm), (fun g hm hg => by exact b8 _ hg hm), (fun g hm hg => by exact b7 _ hg hm), (fun g hm hg => by exact b9 _ hg hm), (fun g hm hg => by exact b5 _ hm hg), (fun g hm hg => by have x := cA _ hm; have J := cb _ hm; have K := cU _ hg; have L := hiov _ hg; omega), (fun g hm hg => by have x := cA _ hm; have J := cb _ hm; have K := cV _ hg; have L := hipv _ hg; omega), du, dv, (Od.sepO iM (fun g hm => by have x := cA _ hm; have J := cb _ hm; omega))⟩ ?_
  rintro ⟨k, row, us, qs, ou, pu, rv⟩ lw ⟨E, ki, lx, hu, bT, cc, bv, bH, cW, aF, aG, a5, a6, a7, n, cB, m, ah, a, od, o, p, r, s, I, z, A, aa, ac, X⟩
  have cD := E
  have iN := cD.size
  have gi := cW.lt
  have gj := aF.lt
  have gk := aG.lt
  obtain ⟨Aou, Cou, rfl, lou, hiou⟩ := a7.opn
  obtain ⟨Apu, Cpu, rfl, lpu, hipu⟩ := cB.opn
  obtain ⟨Arv, Crv, rfl, lrv, hirv⟩ := ah.opn
  have ly := Zpg bT.1 bT.2
  refine Zg fun lz kj => ?_
  refine Zg fun lA kk => ?_
  refine Zc (Za rfl rfl (Zd rfl) (Za rfl rfl (Xv rfl rfl) (Zf (Zb (kk _ _ ?_)))))
  refine Zx rfl (fun cd => ?_) (fun cd => ?_)
  ·have gl := cd
   have cd := Yo cd
   refine Zu ?_
   refine Zb (kj _ _ ?_)
   refine Zg fun lB f4 => ?_
   refine Yf ?_
   refine Zg fun lC kl => ?_
   refine Yx [] 12 mixed rfl fun iO aj => ?_
   have km := aj.size
   have E := E.trans aj
   refine dV 0 rfl rfl rfl (fun _ => Zh fa27_2 rfl) ?_
   have fp := cW.ch0 aj
   refine dT 1 rfl rfl rfl (Xj fp.at_ (fun i hi => absurd hi List.not_mem_nil) agg25 rfl rfl ?_)
   refine dV 2 rfl rfl rfl (fun _ => Zd rfl) (dV 3 rfl rfl rfl (fun _ => Zd rfl) (dV 8 rfl rfl rfl (fun _ => Zd rfl) (dO 4 (Ye rfl rfl rfl ?_))))
   have fq := cB.ch0 aj
   refine (Yy fq.ls Yl el30 sz3 rfl rfl rfl om fun kn gm fr gn => ?_)
   have lD := cc _ (Yv fr)
   refine ⟨(Ch.refl _ _), ?_⟩
   refine dT 5 rfl rfl rfl (Qo gn (fun i hi => absurd hi List.not_mem_nil) agg3 rfl rfl ?_)
   have ko := (bq.ch0 cD).ch0 aj
   have kp := (bI.ch0 cD).ch0 aj
   refine dT 6 rfl rfl rfl (Ql (j := gm.toNat) ko Sv.len el25 sz30 rfl rfl om om fun gp gq fs eJ => ?_)
   obtain ⟨cX, cY, bX⟩ := kp.get fs
   obtain ⟨ft, kq, fu⟩ := gq
   obtain rfl := bX.eqn
   have kr := bX.len
   replace bX : Ls ics 1 iO LR_aN w.heap.size (.slice ft cX.length fu) cX := bX
   replace eJ : At iO LL_saN w.heap.size gp ([(.slice ft cX.length fu)]) := eJ
   have ks := (Xy hv.2 cY).1
   refine dT 7 rfl rfl rfl (Qo eJ (fun i hi => absurd hi List.not_mem_nil) agg30 rfl rfl ?_)
   refine dT 9 rfl rfl rfl (Ql bX Yl el30 sz3 rfl rfl rfl om fun kt bY fv gr => ?_)
   have ku := Zaq hv.2 cY fv
   refine dT 10 rfl rfl rfl (Qo gr (fun i hi => absurd hi List.not_mem_nil) agg3 rfl rfl ?_)
   refine dV 11 rfl rfl rfl (fun _ => Ze rfl) ?_
   refine Yb (by kernel_rfl) ?_
   refine Zb (kl _ _ ?_)
   refine Zg fun lE kv => ?_
   refine Zc (Za rfl rfl (Ze rfl) (Zf (Zb (kv _ _ ?_))))
   refine Zg fun lF f5 => ?_
   refine Zg fun lG iP => ?_
   refine Zc (Za rfl rfl (Zd rfl) (Za rfl rfl (Zjj rfl rfl) (Za rfl rfl (Zd rfl) ?_)))
   refine Ym (d := 56) rfl (fun ce => ?_) (fun ce => ?_)
   ·have gs := ce
    have ce := Yo ce
    refine Za rfl rfl (Zd rfl) (Za rfl rfl (Zd rfl) (Zk rfl rfl ?_))
    have f6 := bH.ch0 aj
    refine (Yy (j := bY.toNat) f6 Qa el24 sz4 rfl rfl om om fun kw kx iQ gt => ?_)
    refine Za rfl rfl (Yk gt agg4 rfl rfl) (Za rfl rfl (Zw rfl rfl) (Zf (Zb (iP _ _ ?_))))
    refine Zx rfl (fun eK => ?_) (fun eK => ?_)
    ·have gu := eK
     refine Zg fun lH ky => ?_
     refine Zc (Za rfl rfl (Zd rfl) (Za rfl rfl (Zd rfl) (Za rfl rfl (Zd rfl) (Zk rfl rfl ?_))))
     have gv := bv.ch0 aj
     refine (Yy (j := bY.toNat) gv Yl el30 sz3 rfl rfl om om fun kz kA a8 gw => ?_)
     refine Za rfl rfl (Yk gw agg3 rfl rfl) (Zk rfl rfl ?_)
     have gx := a7.ch0 aj
     refine Step.call (Zl (xs := [.tmp 62, .tmp 66]) fk135 rfl) (Zek gx.ls _ ) fun kB lI gy => ?_
     obtain ⟨bZ, rfl, bN, bn⟩ := gy
     have kC := bn.size
     have E := E.trans bn
     refine Za rfl rfl (Ze rfl) (Zf (Zb (ky _ _ ?_)))
     refine Zg fun lJ kD => ?_
     refine Zc (Za rfl rfl (Zd rfl) (Za rfl rfl (Xv rfl rfl) (Zf (Zb (kD _ _ ?_)))))
     refine Zx rfl (fun cf => ?_) (fun cf => ?_)
     ·have gz := cf
      have cf := Yo cf
      refine Zg fun lK kE => ?_
      refine Zc (Za rfl rfl (Zd rfl) (Za rfl rfl (Xm (by rw [el30]; rfl) rfl) (Za rfl rfl (Ze rfl) (Zf (Zb (kE _ _ ?_))))))
      refine Zg fun lL kF => ?_
      refine Zc (Za rfl rfl (Zd rfl) (Za rfl rfl (Zd rfl) (Za rfl rfl (Zd rfl) (Zk rfl rfl ?_))))
      have iR := gv.ch0 bn
      refine (Yy (j := bY.toNat) iR Yl el30 sz3 rfl rfl om om fun kG cZ cC gA => ?_)
      refine Za rfl rfl (Yk gA agg3 rfl rfl) (Zk rfl rfl ?_)
      refine Zr (cs := ics) (parts := [(0, .tmp 76)]) (0 : Int) [cZ] el30 sz3 zr3 Yl (by decide) rfl rfl rfl (by decide) (by decide) rfl fun kH lM fw iS cE => ?_
      have kI := cE.size
      have E := E.trans cE
      obtain ⟨iT, iU, rfl, iV, gB⟩ := fw.opn
      refine Zk rfl rfl ?_
      have kJ := (gx.ch0 bn).ch0 cE
      refine Yj (cs := ics) el30 sz3 by3 zr3 rfl (by decide) Xz kJ fw.ls rfl rfl (by simp only [List.length_append, List.length_singleton]; omega) (by simp only [List.length_append, List.length_singleton]; omega) n om fun kK lN fx fy aH cK => ?_
      have kL := cK.size
      have E := E.step cK (fun i hi => .inl (by have x := n _ hi; omega))
      obtain ⟨en, eo, rfl, iW, ai⟩ := fx.opn
      refine Za rfl rfl (Ze rfl) (Zf (Zb (kF _ _ (Zc (Za rfl rfl (Zd rfl) (Za rfl rfl (Zd rfl) (Zk rfl rfl ?_)))))))
      refine Zr (cs := ics) (parts := [(0, .tmp 80)]) (0 : Int) [bY] el30 sz3 zr3 Yl (by decide) rfl rfl rfl (by decide) (by decide) rfl fun kM lO fz iX cF => ?_
      have kN := cF.size
      have E := E.trans cF
      obtain ⟨iY, iZ, rfl, i0, gC⟩ := fz.opn
      refine Zk rfl rfl ?_
      have kO := (((fq.ch0 bn).ch0 cE).ch cK (fun g hg hm => by exact I _ hg hm)).ch0 cF
      refine Yj (cs := ics) el30 sz3 by3 zr3 rfl (by decide) Xz kO fz.ls rfl rfl (by simp only [List.length_append, List.length_singleton]; omega) (by simp only [List.length_append, List.length_singleton]; omega) m om fun kP lP fA fB bw cL => ?_
      have kQ := cL.size
      have E := E.step cL (fun i hi => .inl (by have x := m _ hi; omega))
      obtain ⟨ep, er, rfl, i1, ay⟩ := fA.opn
      refine Za rfl rfl (Ze rfl) (Zf (Zb (f5 _ _ (Zc (Za rfl rfl (Zd rfl) (Za rfl rfl (Zd rfl) (Zk rfl rfl ?_)))))))
      refine Zr (cs := ics) (parts := [(0, .tmp 84)]) (0 : Int) [((us.length : Nat) : Int)] el30 sz3 zr3 Yl (by decide) rfl rfl rfl (by decide) (by decide) rfl fun eL lQ bz c0 cG => ?_
      have kR := cG.size
      have E := E.trans cG
      obtain ⟨c1, c2, rfl, c3, cg⟩ := bz.opn
      refine Zk rfl rfl ?_
      have kS := ((((((ah.ch0 aj).ch0 bn).ch0 cE).ch cK (fun g hg hm => by exact z _ hg hm)).ch0 cF).ch cL (fun g hg hm => by exact A _ hg hm)).ch0 cG
      refine Yj (cs := ics) el30 sz3 by3 zr3 rfl (by decide) Xz kS bz.ls rfl rfl (by simp only [List.length_append, List.length_singleton]; omega) (by simp only [List.length_append, List.length_singleton]; omega) a om fun eM gD bA bB ag cM => ?_
      have kT := cM.size
      have E := E.step cM (fun i hi => .inl (by have x := a _ hi; omega))
      obtain ⟨ap, aq, rfl, c4, O⟩ := bA.opn
      refine Za rfl rfl (Ze rfl) (Zf (Yc (Zb (f4 _ _ (Zc (Za rfl rfl (Zd rfl) (Za rfl rfl (Yq om rfl rfl) (Za rfl rfl (Ze rfl) ?_))))))))
      refine Zf ?_
      have gE := (((fx.ch0 cF).ch cL (fun g hg hm => by rcases aH with ea | ea; (rw [ea] at hg; exact I _ hm hg); (have M := ai _ hg; rw [ea] at hg; have G := List.mem_singleton.1 hg; have x := m _ hm; have J := hipu _ hm; omega))).ch0 cG).ch cM (fun g hg hm => by rcases aH with ea | ea; (rw [ea] at hg; exact z _ hm hg); (have M := ai _ hg; rw [ea] at hg; have G := List.mem_singleton.1 hg; have x := a _ hm; have J := hirv _ hm; omega))
      have dw : Ol ics 3 1 gD (.slice en ((us ++ [cZ])).length eo) ((us ++ [cZ])) := by
       have hx := gE
       exact hx
      have gF := (fA.ch0 cG).ch cM (fun g hg hm => by rcases bw with ea | ea; (rw [ea] at hg; exact A _ hm hg); (have M := ay _ hg; rw [ea] at hg; have G := List.mem_singleton.1 hg; have x := a _ hm; have J := hirv _ hm; omega))
      have dx : Ol ics 3 1 gD (.slice ep ((qs ++ [bY])).length er) ((qs ++ [bY])) := by
       have hx := gF
       exact hx
      have dy : Ol ics 3 1 gD (.slice ap ((row ++ [((us.length : Nat) : Int)])).length aq) ((row ++ [((us.length : Nat) : Int)])) := by
       have hx := bA
       exact hx
      have dz := (((((((od.ch0 aj).ch0 bn).ch0 cE).chS cK aa).ch0 cF).chS cL ac).ch0 cG).chS cM X
      have gG := (((((iR.ch0 cE).ch cK (fun i hi => by have x := n _ hi; omega)).ch0 cF).ch cL (fun i hi => by have x := m _ hi; omega)).ch0 cG).ch cM (fun i hi => by have x := a _ hi; omega)
      have gH := ((((((f6.ch0 bn).ch0 cE).ch cK (fun i hi => by have x := n _ hi; omega)).ch0 cF).ch cL (fun i hi => by have x := m _ hi; omega)).ch0 cG).ch cM (fun i hi => by have x := a _ hi; omega)
      have gI := ((((((fp.ch0 bn).ch0 cE).ch cK (fun hm => by have x := n _ hm; have J := hiou _ hm; omega)).ch0 cF).ch cL (fun hm => by have x := m _ hm; have J := hipu _ hm; omega)).ch0 cG).ch cM (fun hm => by have x := a _ hm; have J := hirv _ hm; omega)
      have gJ := (((((((aF.ch0 aj).ch0 bn).ch0 cE).ch cK (fun hm => by have x := n _ hm; have J := hiou _ hm; omega)).ch0 cF).ch cL (fun hm => by have x := m _ hm; have J := hipu _ hm; omega)).ch0 cG).ch cM (fun hm => by have x := a _ hm; have J := hirv _ hm; omega)
      have gK := (((((((aG.ch0 aj).ch0 bn).ch0 cE).ch cK (fun hm => by have x := n _ hm; have J := hiou _ hm; omega)).ch0 cF).ch cL (fun hm => by have x := m _ hm; have J := hipu _ hm; omega)).ch0 cG).ch cM (fun hm => by have x := a _ hm; have J := hirv _ hm; omega)
      have gL := (((((((a5.ch0 aj).ch0 bn).ch0 cE).ch cK (fun g hg hm => by exact o _ hm hg)).ch0 cF).ch cL (fun g hg hm => by exact r _ hm hg)).ch0 cG).ch cM (fun g hg hm => by have x := a _ hm; have J := hirv _ hm; have K := b _ hg; have L := hiav _ hg; omega)
      have gM := (((((((a6.ch0 aj).ch0 bn).ch0 cE).ch cK (fun g hg hm => by exact p _ hm hg)).ch0 cF).ch cL (fun g hg hm => by exact s _ hm hg)).ch0 cG).ch cM (fun g hg hm => by have x := a _ hm; have J := hirv _ hm; have K := f _ hg; have L := hinv _ hg; omega)
      exact Zb (Exists.intro ((k + 1), (row ++ [((us.length : Nat) : Int)]), (us ++ [cZ]), (qs ++ [bY]), (.slice en ((us ++ [cZ])).length eo), (.slice ep ((qs ++ [bY])).length er), (.slice ap ((row ++ [((us.length : Nat) : Int)])).length aq)) ⟨⟨E, om, ⟨by omega, by simp only [List.length_append, List.length_singleton]; omega⟩, (by first | omega | (simp only [List.length_append, List.length_singleton]; omega)), (by first | exact bT | (have eN := Qj a8 cC; subst eN; exact ⟨Zhb bT.1 (by rcases bN with q | q; exact q.2; omega), Zcg bT.2 (hcr _ (Yv a8))⟩)), (by first | exact cc | exact Zcg cc om), gG, gH, gI, gJ, gK, gL, gM, dw, (Lo.down fy om), dx, (Lo.down fB om), dy, (Lo.down bB om), dz, (fun g hm hg => by rcases aH with ea | ea; (rw [ea] at hm; exact o _ hm hg); (have B := ai _ hm; rw [ea] at hm; have G := List.mem_singleton.1 hm; have K := b _ hg; have L := hiav _ hg; omega)), (fun g hm hg => by rcases aH with ea | ea; (rw [ea] at hm; exact p _ hm hg); (have B := ai _ hm; rw [ea] at hm; have G := List.mem_singleton.1 hm; have K := f _ hg; have L := hinv _ hg; omega)), (fun g hm hg => by rcases bw with ea | ea; (rw [ea] at hm; exact r _ hm hg); (have B := ay _ hm; rw [ea] at hm; have G := List.mem_singleton.1 hm; have K := b _ hg; have L := hiav _ hg; omega)), (fun g hm hg => by rcases bw with ea | ea; (rw [ea] at hm; exact s _ hm hg); (have B := ay _ hm; rw [ea] at hm; have G := List.mem_singleton.1 hm; have K := f _ hg; have L := hinv _ hg; omega)), (fun g hm hg => by rcases bw with ea | ea; (rw [ea] at hm; rcases aH with ea | ea; (rw [ea] at hg; exact I _ hm hg); (have M := ai _ hg; rw [ea] at hg; have G := List.mem_singleton.1 hg; have x := m _ hm; have J := hipu _ hm; omega)); (have B := ay _ hm; rw [ea] at hm; have G := List.mem_singleton.1 hm; rcases aH with ea | ea; (rw [ea] at hg; have K := n _ hg; have L := hiou _ hg; omega); (have M := ai _ hg; rw [ea] at hg; have G := List.mem_singleton.1 hg; omega))), (fun g hm hg => by rcases ag with ea | ea; (rw [ea] at hm; rcases aH with ea | ea; (rw [ea] at hg; exact z _ hm hg); (have M := ai _ hg; rw [ea] at hg; have G := List.mem_singleton.1 hg; have x := a _ hm; have J := hirv _ hm; omega)); (have B := O _ hm; rw [ea] at hm; have G := List.mem_singleton.1 hm; rcases aH with ea | ea; (rw [ea] at hg; have K := n _ hg; have L := hiou _ hg; omega); (have M := ai _ hg; rw [ea] at hg; have G := List.mem_singleton.1 hg; omega))), (fun g hm hg => by rcases ag with ea | ea; (rw [ea] at hm; rcases bw with ea | ea; (rw [ea] at hg; exact A _ hm hg); (have M := ay _ hg; rw [ea] at hg; have G := List.mem_singleton.1 hg; have x := a _ hm; have J := hirv _ hm; omega)); (have B := O _ hm; rw [ea] at hm; have G := List.mem_singleton.1 hm; rcases bw with ea | ea; (rw [ea] at hg; have K := m _ hg; have L := hipu _ hg; omega); (have M := ay _ hg; rw [ea] at hg; have G := List.mem_singleton.1 hg; omega))), (fun u hu g hg hm => by rcases aH with ea | ea; (rw [ea] at hm; exact aa _ hu _ hg hm); (have B := ai _ hm; rw [ea] at hm; have G := List.mem_singleton.1 hm; have cH := dz.rng hu hg; omega)), (fun u hu g hg hm => by rcases bw with ea | ea; (rw [ea] at hm; exact ac _ hu _ hg hm); (have B := ay _ hm; rw [ea] at hm; have G := List.mem_singleton.1 hm; have cH := dz.rng hu hg; omega)), (fun u hu g hg hm => by rcases ag with ea | ea; (rw [ea] at hm; exact X _ hu _ hg hm); (have B := O _ hm; rw [ea] at hm; have G := List.mem_singleton.1 hm; have cH := dz.rng hu hg; omega))⟩, sC8 rfl rfl rfl rfl rfl rfl rfl rfl (sC2 rfl rfl (sC1 rfl (Sub.nil _))), (by first | omega | (dsimp only; omega))⟩)
     have gz := cf
     have cf := Yp cf
     refine Zu ?_
     refine Zb (f5 _ _ (Zc (Za rfl rfl (Zd rfl) (Za rfl rfl (Zd rfl) (Zk rfl rfl ?_)))))
     refine Zr (cs := ics) (parts := [(0, .tmp 84)]) (0 : Int) [bZ] el30 sz3 zr3 Yl (by decide) rfl rfl rfl (by decide) (by decide) rfl fun eL kU bz c0 aM => ?_
     have i2 := aM.size
     have E := E.trans aM
     obtain ⟨c1, c2, rfl, c3, cg⟩ := bz.opn
     refine Zk rfl rfl ?_
     have gN := ((ah.ch0 aj).ch0 bn).ch0 aM
     refine Yj (cs := ics) el30 sz3 by3 zr3 rfl (by decide) Xz gN bz.ls rfl rfl (by simp only [List.length_append, List.length_singleton]; omega) (by simp only [List.length_append, List.length_singleton]; omega) a om fun eM eO bA bB ag a9 => ?_
     have i3 := a9.size
     have E := E.step a9 (fun i hi => .inl (by have x := a _ hi; omega))
     obtain ⟨ap, aq, rfl, c4, O⟩ := bA.opn
     refine Za rfl rfl (Ze rfl) (Zf (Yc (Zb (f4 _ _ (Zc (Za rfl rfl (Zd rfl) (Za rfl rfl (Yq om rfl rfl) (Za rfl rfl (Ze rfl) ?_))))))))
     refine Zf ?_
     have gO := ((gx.ch0 bn).ch0 aM).ch a9 (fun g hg hm => by exact z _ hm hg)
     have dA : Ol ics 3 1 eO (.slice Aou (us).length Cou) (us) := by
      have hx := gO
      exact hx
     have gP := ((fq.ch0 bn).ch0 aM).ch a9 (fun g hg hm => by exact A _ hm hg)
     have dB : Ol ics 3 1 eO (.slice Apu (qs).length Cpu) (qs) := by
      have hx := gP
      exact hx
     have dC : Ol ics 3 1 eO (.slice ap ((row ++ [bZ])).length aq) ((row ++ [bZ])) := by
      have hx := bA
      exact hx
     have fC := (((od.ch0 aj).ch0 bn).ch0 aM).chS a9 X
     have gQ := ((gv.ch0 bn).ch0 aM).ch a9 (fun i hi => by have x := a _ hi; omega)
     have gR := ((f6.ch0 bn).ch0 aM).ch a9 (fun i hi => by have x := a _ hi; omega)
     have gS := ((fp.ch0 bn).ch0 aM).ch a9 (fun hm => by have x := a _ hm; have J := hirv _ hm; omega)
     have gT := (((aF.ch0 aj).ch0 bn).ch0 aM).ch a9 (fun hm => by have x := a _ hm; have J := hirv _ hm; omega)
     have gU := (((aG.ch0 aj).ch0 bn).ch0 aM).ch a9 (fun hm => by have x := a _ hm; have J := hirv _ hm; omega)
     have gV := (((a5.ch0 aj).ch0 bn).ch0 aM).ch a9 (fun g hg hm => by have x := a _ hm; have J := hirv _ hm; have K := b _ hg; have L := hiav _ hg; omega)
     have gW := (((a6.ch0 aj).ch0 bn).ch0 aM).ch a9 (fun g hg hm => by have x := a _ hm; have J := hirv _ hm; have K := f _ hg; have L := hinv _ hg; omega)
     exact Zb (Exists.intro ((k + 1), (row ++ [bZ]), us, qs, (.slice Aou (us).length Cou), (.slice Apu (qs).length Cpu), (.slice ap ((row ++ [bZ])).length aq)) ⟨⟨E, om, ⟨by omega, by simp only [List.length_append, List.length_singleton]; omega⟩, (by first | omega | (simp only [List.length_append, List.length_singleton]; omega)), (by first | exact bT | (have eN := Qj a8 cC; subst eN; exact ⟨Zhb bT.1 (by rcases bN with q | q; exact q.2; omega), Zcg bT.2 (hcr _ (Yv a8))⟩)), (by first | exact cc | exact Zcg cc om), gQ, gR, gS, gT, gU, gV, gW, dA, (Lo.down n om), dB, (Lo.down m om), dC, (Lo.down bB om), fC, (fun g hm hg => by exact o _ hm hg), (fun g hm hg => by exact p _ hm hg), (fun g hm hg => by exact r _ hm hg), (fun g hm hg => by exact s _ hm hg), (fun g hm hg => by exact I _ hm hg), (fun g hm hg => by rcases ag with ea | ea; (rw [ea] at hm; exact z _ hm hg); (have B := O _ hm; rw [ea] at hm; have G := List.mem_singleton.1 hm; have K := n _ hg; have L := hiou _ hg; omega)), (fun g hm hg => by rcases ag with ea | ea; (rw [ea] at hm; exact A _ hm hg); (have B := O _ hm; rw [ea] at hm; have G := List.mem_singleton.1 hm; have K := m _ hg; have L := hipu _ hg; omega)), (fun u hu g hg hm => by exact aa _ hu _ hg hm), (fun u hu g hg hm => by exact ac _ hu _ hg hm), (fun u hu g hg hm => by rcases ag with ea | ea; (rw [ea] at hm; exact X _ hu _ hg hm); (have B := O _ hm; rw [ea] at hm; have G := List.mem_singleton.1 hm; have cH := fC.rng hu hg; omega))⟩, sC8 rfl rfl rfl rfl rfl rfl rfl rfl (sC2 rfl rfl (sC1 rfl (Sub.nil _))), (by first | omega | (dsimp only; omega))⟩)
    have gu := eK
    refine Zu ?_
    refine Zb (f5 _ _ (Zc (Za rfl rfl (Zd rfl) (Za rfl rfl (Zd rfl) (Zk rfl rfl ?_)))))
    refine Zr (cs := ics) (parts := [(0, .tmp 84)]) (0 : Int) [(-1)] el30 sz3 zr3 Yl (by decide) rfl rfl rfl (by decide) (by decide) rfl fun eL kV bz c0 aO => ?_
    have i4 := aO.size
    have E := E.trans aO
    obtain ⟨c1, c2, rfl, c3, cg⟩ := bz.opn
    refine Zk rfl rfl ?_
    have gX := (ah.ch0 aj).ch0 aO
    refine Yj (cs := ics) el30 sz3 by3 zr3 rfl (by decide) Xz gX bz.ls rfl rfl (by simp only [List.length_append, List.length_singleton]; omega) (by simp only [List.length_append, List.length_singleton]; omega) a om fun eM eP bA bB ag ba => ?_
    have i5 := ba.size
    have E := E.step ba (fun i hi => .inl (by have x := a _ hi; omega))
    obtain ⟨ap, aq, rfl, c4, O⟩ := bA.opn
    refine Za rfl rfl (Ze rfl) (Zf (Yc (Zb (f4 _ _ (Zc (Za rfl rfl (Zd rfl) (Za rfl rfl (Yq om rfl rfl) (Za rfl rfl (Ze rfl) ?_))))))))
    refine Zf ?_
    have gY := ((a7.ch0 aj).ch0 aO).ch ba (fun g hg hm => by exact z _ hm hg)
    have dD : Ol ics 3 1 eP (.slice Aou (us).length Cou) (us) := by
     have hx := gY
     exact hx
    have gZ := (fq.ch0 aO).ch ba (fun g hg hm => by exact A _ hm hg)
    have dE : Ol ics 3 1 eP (.slice Apu (qs).length Cpu) (qs) := by
     have hx := gZ
     exact hx
    have dF : Ol ics 3 1 eP (.slice ap ((row ++ [(-1)])).length aq) ((row ++ [(-1)])) := by
     have hx := bA
     exact hx
    have fD := ((od.ch0 aj).ch0 aO).chS ba X
    have g0 := ((bv.ch0 aj).ch0 aO).ch ba (fun i hi => by have x := a _ hi; omega)
    have g1 := (f6.ch0 aO).ch ba (fun i hi => by have x := a _ hi; omega)
    have g2 := (fp.ch0 aO).ch ba (fun hm => by have x := a _ hm; have J := hirv _ hm; omega)
    have g3 := ((aF.ch0 aj).ch0 aO).ch ba (fun hm => by have x := a _ hm; have J := hirv _ hm; omega)
    have g4 := ((aG.ch0 aj).ch0 aO).ch ba (fun hm => by have x := a _ hm; have J := hirv _ hm; omega)
    have g5 := ((a5.ch0 aj).ch0 aO).ch ba (fun g hg hm => by have x := a _ hm; have J := hirv _ hm; have K := b _ hg; have L := hiav _ hg; omega)
    have g6 := ((a6.ch0 aj).ch0 aO).ch ba (fun g hg hm => by have x := a _ hm; have J := hirv _ hm; have K := f _ hg; have L := hinv _ hg; omega)
    exact Zb (Exists.intro ((k + 1), (row ++ [(-1)]), us, qs, (.slice Aou (us).length Cou), (.slice Apu (qs).length Cpu), (.slice ap ((row ++ [(-1)])).length aq)) ⟨⟨E, om, ⟨by omega, by simp only [List.length_append, List.length_singleton]; omega⟩, (by first | omega | (simp only [List.length_append, List.length_singleton]; omega)), (by first | exact bT | (have eN := Qj a8 cC; subst eN; exact ⟨Zhb bT.1 (by rcases bN with q | q; exact q.2; omega), Zcg bT.2 (hcr _ (Yv a8))⟩)), (by first | exact cc | exact Zcg cc om), g0, g1, g2, g3, g4, g5, g6, dD, (Lo.down n om), dE, (Lo.down m om), dF, (Lo.down bB om), fD, (fun g hm hg => by exact o _ hm hg), (fun g hm hg => by exact p _ hm hg), (fun g hm hg => by exact r _ hm hg), (fun g hm hg => by exact s _ hm hg), (fun g hm hg => by exact I _ hm hg), (fun g hm hg => by rcases ag with ea | ea; (rw [ea] at hm; exact z _ hm hg); (have B := O _ hm; rw [ea] at hm; have G := List.mem_singleton.1 hm; have K := n _ hg; have L := hiou _ hg; omega)), (fun g hm hg => by rcases ag with ea | ea; (rw [ea] at hm; exact A _ hm hg); (have B := O _ hm; rw [ea] at hm; have G := List.mem_singleton.1 hm; have K := m _ hg; have L := hipu _ hg; omega)), (fun u hu g hg hm => by exact aa _ hu _ hg hm), (fun u hu g hg hm => by exact ac _ hu _ hg hm), (fun u hu g hg hm => by rcases ag with ea | ea; (rw [ea] at hm; exact X _ hu _ hg hm); (have B := O _ hm; rw [ea] at hm; have G := List.mem_singleton.1 hm; have cH := fD.rng hu hg; omega))⟩, sC8 rfl rfl rfl rfl rfl rfl rfl rfl (sC2 rfl rfl (sC1 rfl (Sub.nil _))), (by first | omega | (dsimp only; omega))⟩)
   have gs := ce
   have ce := Yp ce
   refine Zj rfl rfl (Zj rfl rfl (Zj rfl rfl (Zj rfl rfl (Za rfl rfl (Zv rfl rfl) (Zf (Zb (iP _ _ ?_)))))))
   refine Xn rfl ?_
   refine Zu ?_
   refine Zb (f5 _ _ (Zc (Za rfl rfl (Zd rfl) (Za rfl rfl (Zd rfl) (Zk rfl rfl ?_)))))
   refine Zr (cs := ics) (parts := [(0, .tmp 84)]) (0 : Int) [(-1)] el30 sz3 zr3 Yl (by decide) rfl rfl rfl (by decide) (by decide) rfl fun eL kW bz c0 aP => ?_
   have i6 := aP.size
   have E := E.trans aP
   obtain ⟨c1, c2, rfl, c3, cg⟩ := bz.opn
   refine Zk rfl rfl ?_
   have g7 := (ah.ch0 aj).ch0 aP
   refine Yj (cs := ics) el30 sz3 by3 zr3 rfl (by decide) Xz g7 bz.ls rfl rfl (by simp only [List.length_append, List.length_singleton]; omega) (by simp only [List.length_append, List.length_singleton]; omega) a om fun eM eQ bA bB ag bb => ?_
   have i7 := bb.size
   have E := E.step bb (fun i hi => .inl (by have x := a _ hi; omega))
   obtain ⟨ap, aq, rfl, c4, O⟩ := bA.opn
   refine Za rfl rfl (Ze rfl) (Zf (Yc (Zb (f4 _ _ (Zc (Za rfl rfl (Zd rfl) (Za rfl rfl (Yq om rfl rfl) (Za rfl rfl (Ze rfl) ?_))))))))
   refine Zf ?_
   have g8 := ((a7.ch0 aj).ch0 aP).ch bb (fun g hg hm => by exact z _ hm hg)
   have dG : Ol ics 3 1 eQ (.slice Aou (us).length Cou) (us) := by
    have hx := g8
    exact hx
   have g9 := (fq.ch0 aP).ch bb (fun g hg hm => by exact A _ hm hg)
   have dH : Ol ics 3 1 eQ (.slice Apu (qs).length Cpu) (qs) := by
    have hx := g9
    exact hx
   have dI : Ol ics 3 1 eQ (.slice ap ((row ++ [(-1)])).length aq) ((row ++ [(-1)])) := by
    have hx := bA
    exact hx
   have fE := ((od.ch0 aj).ch0 aP).chS bb X
   have ha := ((bv.ch0 aj).ch0 aP).ch bb (fun i hi => by have x := a _ hi; omega)
   have hb := ((bH.ch0 aj).ch0 aP).ch bb (fun i hi => by have x := a _ hi; omega)
   have hd := (fp.ch0 aP).ch bb (fun hm => by have x := a _ hm; have J := hirv _ hm; omega)
   have he := ((aF.ch0 aj).ch0 aP).ch bb (fun hm => by have x := a _ hm; have J := hirv _ hm; omega)
   have hf := ((aG.ch0 aj).ch0 aP).ch bb (fun hm => by have x := a _ hm; have J := hirv _ hm; omega)
   have hh := ((a5.ch0 aj).ch0 aP).ch bb (fun g hg hm => by have x := a _ hm; have J := hirv _ hm; have K := b _ hg; have L := hiav _ hg; omega)
   have hj := ((a6.ch0 aj).ch0 aP).ch bb (fun g hg hm => by have x := a _ hm; have J := hirv _ hm; have K := f _ hg; have L := hinv _ hg; omega)
   exact Zb (Exists.intro ((k + 1), (row ++ [(-1)]), us, qs, (.slice Aou (us).length Cou), (.slice Apu (qs).length Cpu), (.slice ap ((row ++ [(-1)])).length aq)) ⟨⟨E, om, ⟨by omega, by simp only [List.length_append, List.length_singleton]; omega⟩, (by first | omega | (simp only [List.length_append, List.length_singleton]; omega)), (by first | exact bT | (have eN := Qj a8 cC; subst eN; exact ⟨Zhb bT.1 (by rcases bN with q | q; exact q.2; omega), Zcg bT.2 (hcr _ (Yv a8))⟩)), (by first | exact cc | exact Zcg cc om), ha, hb, hd, he, hf, hh, hj, dG, (Lo.down n om), dH, (Lo.down m om), dI, (Lo.down bB om), fE, (fun g hm hg => by exact o _ hm hg), (fun g hm hg => by exact p _ hm hg), (fun g hm hg => by exact r _ hm hg), (fun g hm hg => by exact s _ hm hg), (fun g hm hg => by exact I _ hm hg), (fun g hm hg => by rcases ag with ea | ea; (rw [ea] at hm; exact z _ hm hg); (have B := O _ hm; rw [ea] at hm; have G := List.mem_singleton.1 hm; have K := n _ hg; have L := hiou _ hg; omega)), (fun g hm hg => by rcases ag with ea | ea; (rw [ea] at hm; exact A _ hm hg); (have B := O _ hm; rw [ea] at hm; have G := List.mem_singleton.1 hm; have K := m _ hg; have L := hipu _ hg; omega)), (fun u hu g hg hm => by exact aa _ hu _ hg hm), (fun u hu g hg hm => by exact ac _ hu _ hg hm), (fun u hu g hg hm => by rcases ag with ea | ea; (rw [ea] at hm; exact X _ hu _ hg hm); (have B := O _ hm; rw [ea] at hm; have G := List.mem_singleton.1 hm; have cH := fE.rng hu hg; omega))⟩, sC8 rfl rfl rfl rfl rfl rfl rfl rfl (sC2 rfl rfl (sC1 rfl (Sub.nil _))), (by first | omega | (dsimp only; omega))⟩)
  have gl := cd
  have cd := Yp cd
  refine Xk (Ya (Ya (Xd ?_)))
  refine Zb (j7 _ _ ?_)
  refine Zg fun kX dJ => ?_
  refine Yx ((bl (.slice Aav (ab).length Cav)) ++ [aE]) 14 mixed rfl fun bc H => ?_
  have i8 := H.size
  have E := E.trans H
  refine dV 0 rfl rfl rfl (fun _ => Zh fa27_1 rfl) (dV 2 rfl rfl rfl (fun _ => Zh fa27_1 rfl) ?_)
  have c5 := cW.ch0 H
  refine dT 3 rfl rfl rfl (Xj c5.at_ (fun i hm => by rcases List.mem_append.1 hm with hm | hm; (have x := b _ hm; have J := hiav _ hm; omega); (have x := List.mem_singleton.1 hm; omega)) agg24 rfl rfl ?_)
  refine dV 4 rfl rfl rfl (fun _ => Zd rfl) (dV 5 rfl rfl rfl (fun _ => Zd rfl) ?_)
  refine Zau 1 6 (by kernel_rfl) ?_ ?_
  ·refine Ye rfl rfl rfl ?_
   have fF := aG.ch0 H
   refine s_v (Zp fF.at_ agg24 rfl rfl) ?_
   refine ⟨(Ch.refl _ _), ?_⟩
   refine dO 6 (Ye rfl rfl rfl ?_)
   have fG := cB.ch0 H
   refine (Yy fG.ls Yl el30 sz3 rfl rfl rfl om fun hk dL c6 dM => ?_)
   have kY := cc _ (Yv c6)
   refine ⟨(Ch.refl _ _), ?_⟩
   refine dO 7 (Ye rfl rfl rfl ?_)
   refine s_v (Yk dM agg3 rfl rfl) ?_
   refine ⟨(Ch.refl _ _), ?_⟩
   have hn := (bp.ch0 cD).ch0 H
   refine dT 8 rfl rfl rfl (Ql (j := dL.toNat) hn Qa el24 sz4 rfl rfl om om fun fH S es c7 => ?_)
   refine dT 9 rfl rfl rfl (Qo c7 (fun i hm => by rcases List.mem_append.1 hm with hm | hm; (have x := b _ hm; have J := hiav _ hm; omega); (have x := List.mem_singleton.1 hm; omega)) agg4 rfl rfl ?_)
   refine dO 10 (Ye rfl rfl rfl ?_)
   refine Zr (cs := bcs) (parts := [(0, .tmp 96)]) false [S] el24 sz4 zr4 Qa (by decide) rfl rfl rfl (by decide) (by decide) rfl fun eR ho bC c8 aI => ?_
   have i9 := aI.size
   have E := E.trans aI
   obtain ⟨c9, da, rfl, db, ci⟩ := bC.opn
   have dc : Ch ((bl (.slice Aav (ab).length Cav)) ++ [aE]) bc ho := ((Ch.refl _ _).trans aI.of_nil)
   refine ⟨dc, ?_⟩
   refine dO 11 (Ye rfl rfl rfl ?_)
   have hp := (a5.ch0 H).ch0 aI
   refine Yj (cs := bcs) el24 sz4 by4 zr4 rfl (by decide) Zaz hp bC.ls rfl rfl bd bd b om fun eS hq bD bF t aQ => ?_
   have ja := aQ.size
   have E := E.step aQ (fun i hi => .inl (by have x := b _ hi; omega))
   obtain ⟨T, U, rfl, dd, h⟩ := bD.opn
   have de : Ch ((bl (.slice Aav (ab).length Cav)) ++ [aE]) bc hq := (dc.step aQ (fun i hm => by exact .inr (List.mem_append_left _ hm)))
   refine ⟨de, ?_⟩
   refine dV 12 rfl rfl rfl (fun _ => Zh fa27_1 rfl) (dO 13 (Ye rfl rfl rfl ?_))
   have hr := (fF.ch0 aI).ch aQ (fun hm => by exact D (by first | exact hm | exact V ▸ hm))
   refine Xh (off := 1) hr sz24 rfl rfl rfl rfl fun fI bO aR => ?_
   have jb := aR.size
   have E := E.step aR (lS om)
   replace bO : Blk fI aE 27 [(.int .i64 0), (.slice T ((ab ++ [S])).length U), (.slice Anv (vs).length Cnv)] := bO
   have eT : Ch ((bl (.slice Aav (ab).length Cav)) ++ [aE]) bc fI := (de.step aR (fun i hm => by have V := List.mem_singleton.1 hm; exact .inr (by rw [V]; exact (List.mem_append_right _ (List.mem_singleton.2 rfl)))))
   refine ⟨eT, ?_⟩
   refine Yb (by kernel_rfl) ?_
   refine Zb (dJ _ _ (Zc (Za rfl rfl (Zh fa27_2 rfl) (Za rfl rfl (Zp bO.at_ agg25 rfl rfl) (Za rfl rfl (Zd rfl) (Zk rfl rfl ?_))))))
   refine Zr (cs := Sv.cs) (parts := [(0, .tmp 102)]) (⟨none, 0, 0⟩ : Sv) [(⟨Arv, (row).length, Crv⟩ : Sv)] el25 sz30 zr30 Sv.len (by decide) rfl rfl rfl (by decide) (by decide) rfl fun df fJ au cj aT => ?_
   have jc := aT.size
   have E := E.trans aT
   obtain ⟨ck, cm, rfl, cn, bP⟩ := au.opn
   have fK := ((((ah.ch0 H).ch0 aI).ch aQ (fun g hg hm => by have x := b _ hm; have J := hiav _ hm; have K := a _ hg; have L := hirv _ hg; omega)).ch aR (dS a hirv om)).ch0 aT
   have co : Rd ics 1 fJ 0 fJ.heap.size ([(⟨Arv, (row).length, Crv⟩ : Sv)]) ([row]) := (Rd.cons (fK.ls.up om om) Rd.nil)
   refine Zk rfl rfl ?_
   have hs := ((((a6.ch0 H).ch0 aI).ch aQ (fun g hg hm => by exact C _ hg hm)).ch aR (fun g hg hm => by have V := List.mem_singleton.1 hm; exact F (by first | exact hg | exact V ▸ hg))).ch0 aT
   refine Yj (cs := Sv.cs) el25 sz30 by30 zr30 rfl (by decide) Sv.one hs au.ls rfl rfl bd bd f om fun dg kZ aw az y be => ?_
   have jd := be.size
   have E := E.step be (fun i hi => .inl (by have x := f _ hi; omega))
   obtain ⟨P, Q, rfl, cp, l⟩ := aw.opn
   refine Za rfl rfl (Zh fa27_2 rfl) (Zk rfl rfl ?_)
   have ht := (bO.ch0 aT).ch be (fun hm => by exact F (by first | exact hm | exact V ▸ hm))
   refine Xh (off := 2) ht sz25 rfl rfl rfl rfl fun dh cq bf => ?_
   have je := bf.size
   have E := E.step bf (lS om)
   replace cq : Blk dh aE 27 [(.int .i64 0), (.slice T ((ab ++ [S])).length U), (.slice P ((vs ++ [(⟨Arv, (row).length, Crv⟩ : Sv)])).length Q)] := cq
   refine Zf (Yc (Zb (f2 _ _ (Zc (Za rfl rfl (Zd rfl) (Za rfl rfl (Yq om rfl rfl) (Za rfl rfl (Ze rfl) (Zf ?_))))))))
   have hw := ((((((a7.ch0 H).ch0 aI).ch aQ (fun g hg hm => by exact o _ hg hm)).ch aR (dS n hiou om)).ch0 aT).ch be (fun g hg hm => by exact p _ hg hm)).ch bf (dS n hiou om)
   have dN : Ol ics 3 1 dh (.slice Aou (us).length Cou) (us) := by
    have hx := hw
    exact hx
   have hy := (((((fG.ch0 aI).ch aQ (fun g hg hm => by exact r _ hg hm)).ch aR (dS m hipu om)).ch0 aT).ch be (fun g hg hm => by exact s _ hg hm)).ch bf (dS m hipu om)
   have dP : Ol ics 3 1 dh (.slice Apu (qs).length Cpu) (qs) := by
    have hx := hy
    exact hx
   have hz := (((bD.ch aR (fun g hg hm => by have V := List.mem_singleton.1 hm; rcases t with ea | ea; (rw [ea] at hg; exact D (by first | exact hg | exact V ▸ hg)); (have M := h _ hg; rw [ea] at hg; have G := List.mem_singleton.1 hg; omega))).ch0 aT).ch be (fun g hg hm => by rcases t with ea | ea; (rw [ea] at hg; exact C _ hm hg); (have M := h _ hg; rw [ea] at hg; have G := List.mem_singleton.1 hg; have x := f _ hm; have J := hinv _ hm; omega))).ch bf (fun g hg hm => by have V := List.mem_singleton.1 hm; rcases t with ea | ea; (rw [ea] at hg; exact D (by first | exact hg | exact V ▸ hg)); (have M := h _ hg; rw [ea] at hg; have G := List.mem_singleton.1 hg; omega))
   have dQ : Ol bcs 4 1 dh (.slice T ((ab ++ [S])).length U) ((ab ++ [S])) := by
    have hx := hz
    exact hx
   have hA := aw.ch bf (fun g hg hm => by have V := List.mem_singleton.1 hm; rcases y with ea | ea; (rw [ea] at hg; exact F (by first | exact hg | exact V ▸ hg)); (have M := l _ hg; rw [ea] at hg; have G := List.mem_singleton.1 hg; omega))
   have dR : Ol Sv.cs 30 1 dh (.slice P ((vs ++ [(⟨Arv, (row).length, Crv⟩ : Sv)])).length Q) ((vs ++ [(⟨Arv, (row).length, Crv⟩ : Sv)])) := by
    have hx := hA
    exact hx
   have eU := ((((((od.ch0 H).ch0 aI).chS aQ Y).ch aR (oS om)).ch0 aT).chS be Z).ch bf (oS om)
   have hB := (fK.ch be (fun g hg hm => by have x := f _ hm; have J := hinv _ hm; have K := a _ hg; have L := hirv _ hg; omega)).ch bf (dS a hirv om)
   have hC := ((((((bv.ch0 H).ch0 aI).ch aQ (fun i hi => by have x := b _ hi; omega)).ch aR (oS om)).ch0 aT).ch be (fun i hi => by have x := f _ hi; omega)).ch bf (oS om)
   have hD := ((((((bH.ch0 H).ch0 aI).ch aQ (fun i hi => by have x := b _ hi; omega)).ch aR (oS om)).ch0 aT).ch be (fun i hi => by have x := f _ hi; omega)).ch bf (oS om)
   have hE := (((((c5.ch0 aI).ch aQ (fun hm => by have x := b _ hm; have J := hiav _ hm; omega)).ch aR (nS om)).ch0 aT).ch be (fun hm => by have x := f _ hm; have J := hinv _ hm; omega)).ch bf (nS om)
   have hF := ((((((aF.ch0 H).ch0 aI).ch aQ (fun hm => by have x := b _ hm; have J := hiav _ hm; omega)).ch aR (nS om)).ch0 aT).ch be (fun hm => by have x := f _ hm; have J := hinv _ hm; omega)).ch bf (nS om)
   exact Zb (Exists.intro ((i + 1), (ab ++ [S]), (vs ++ [(⟨Arv, (row).length, Crv⟩ : Sv)]), (rs ++ [row]), us, qs, (.slice Aou (us).length Cou), (.slice Apu (qs).length Cpu), (.slice T ((ab ++ [S])).length U), (.slice P ((vs ++ [(⟨Arv, (row).length, Crv⟩ : Sv)])).length Q)) ⟨⟨E, om, om, bT, cc, (by simp only [List.length_append, List.length_singleton]; omega), hC, hD, hE, hF, dN, (Lo.down n om), dP, (Lo.down m om), dQ, (Lo.down bF om), dR, (Lo.down az om), (Od.snoc eU (v := (⟨Arv, (row).length, Crv⟩ : Sv)) hB (Lo.down a om) (fun g hg => by have x := hirv g hg; omega) om om), cq, (fun g hm hg => by exact I _ hm hg), (fun g hm hg => by rcases t with ea | ea; (rw [ea] at hm; exact o _ hg hm); (have B := h _ hm; rw [ea] at hm; have G := List.mem_singleton.1 hm; have K := n _ hg; have L := hiou _ hg; omega)), (fun g hm hg => by rcases t with ea | ea; (rw [ea] at hm; exact r _ hg hm); (have B := h _ hm; rw [ea] at hm; have G := List.mem_singleton.1 hm; have K := m _ hg; have L := hipu _ hg; omega)), (fun hm => by rcases t with ea | ea; (rw [ea] at hm; exact D (by first | exact hm | exact V ▸ hm)); (have B := h _ hm; rw [ea] at hm; have G := List.mem_singleton.1 hm; omega)), (fun g hm hg => by rcases y with ea | ea; (rw [ea] at hm; exact p _ hg hm); (have B := l _ hm; rw [ea] at hm; have G := List.mem_singleton.1 hm; have K := n _ hg; have L := hiou _ hg; omega)), (fun g hm hg => by rcases y with ea | ea; (rw [ea] at hm; exact s _ hg hm); (have B := l _ hm; rw [ea] at hm; have G := List.mem_singleton.1 hm; have K := m _ hg; have L := hipu _ hg; omega)), (fun g hm hg => by rcases y with ea | ea; (rw [ea] at hm; rcases t with ea | ea; (rw [ea] at hg; exact C _ hm hg); (have M := h _ hg; rw [ea] at hg; have G := List.mem_singleton.1 hg; have x := f _ hm; have J := hinv _ hm; omega)); (have B := l _ hm; rw [ea] at hm; have G := List.mem_singleton.1 hm; rcases t with ea | ea; (rw [ea] at hg; have K := b _ hg; have L := hiav _ hg; omega); (have M := h _ hg; rw [ea] at hg; have G := List.mem_singleton.1 hg; omega))), (fun hm => by rcases y with ea | ea; (rw [ea] at hm; exact F (by first | exact hm | exact V ▸ hm)); (have B := l _ hm; rw [ea] at hm; have G := List.mem_singleton.1 hm; omega)), (fun u hu g hg hm => by rcases List.mem_append.1 hu with hu | hu; (exact aa _ hu _ hg hm); (rw [List.mem_singleton.1 hu] at hg; replace hg : g ∈ bl (.slice Arv (row).length Crv) := hg; exact z _ hg hm)), (fun u hu g hg hm => by rcases List.mem_append.1 hu with hu | hu; (exact ac _ hu _ hg hm); (rw [List.mem_singleton.1 hu] at hg; replace hg : g ∈ bl (.slice Arv (row).length Crv) := hg; exact A _ hg hm)), (fun u hu g hg hm => by rcases List.mem_append.1 hu with hu | hu; (rcases t with ea | ea; (rw [ea] at hm; exact Y _ hu _ hg hm); (have B := h _ hm; rw [ea] at hm; have G := List.mem_singleton.1 hm; have cH := eU.rng hu hg; omega)); (rw [List.mem_singleton.1 hu] at hg; replace hg : g ∈ bl (.slice Arv (row).length Crv) := hg; rcases t with ea | ea; (rw [ea] at hm; have x := b _ hm; have J := hiav _ hm; have K := a _ hg; have L := hirv _ hg; omega); (have B := h _ hm; rw [ea] at hm; have G := List.mem_singleton.1 hm; have K := a _ hg; have L := hirv _ hg; omega))), (fun u hu g hg hm => by rcases List.mem_append.1 hu with hu | hu; (rcases y with ea | ea; (rw [ea] at hm; exact Z _ hu _ hg hm); (have B := l _ hm; rw [ea] at hm; have G := List.mem_singleton.1 hm; have cH := eU.rng hu hg; omega)); (rw [List.mem_singleton.1 hu] at hg; replace hg : g ∈ bl (.slice Arv (row).length Crv) := hg; rcases y with ea | ea; (rw [ea] at hm; have x := f _ hm; have J := hinv _ hm; have K := a _ hg; have L := hirv _ hg; omega); (have B := l _ hm; rw [ea] at hm; have G := List.mem_singleton.1 hm; have K := a _ hg; have L := hirv _ hg; omega)))⟩, sC8 rfl rfl rfl rfl rfl rfl rfl rfl (Sub.nil _), (by first | omega | (dsimp only; omega))⟩)
  refine Ye rfl rfl rfl ?_
  have dU := cB.ch0 H
  refine (Yy dU.ls Yl el30 sz3 rfl rfl rfl om fun hk dL c6 dM => ?_)
  have kY := cc _ (Yv c6)
  refine ⟨(Ch.refl _ _), ?_⟩
  refine Zau 1 7 (by kernel_rfl) ?_ ?_
  ·refine Ye rfl rfl rfl ?_
   have fL := aG.ch0 H
   refine s_v (Zp fL.at_ agg24 rfl rfl) ?_
   refine ⟨(Ch.refl _ _), ?_⟩
   refine dO 7 (Ye rfl rfl rfl ?_)
   refine s_v (Yk dM agg3 rfl rfl) ?_
   refine ⟨(Ch.refl _ _), ?_⟩
   have hG := (bp.ch0 cD).ch0 H
   refine dT 8 rfl rfl rfl (Ql (j := dL.toNat) hG Qa el24 sz4 rfl rfl om om fun fH S es c7 => ?_)
   refine dT 9 rfl rfl rfl (Qo c7 (fun i hm => by rcases List.mem_append.1 hm with hm | hm; (have x := b _ hm; have J := hiav _ hm; omega); (have x := List.mem_singleton.1 hm; omega)) agg4 rfl rfl ?_)
   refine dO 10 (Ye rfl rfl rfl ?_)
   refine Zr (cs := bcs) (parts := [(0, .tmp 96)]) false [S] el24 sz4 zr4 Qa (by decide) rfl rfl rfl (by decide) (by decide) rfl fun eR hH bC c8 aJ => ?_
   have jf := aJ.size
   have E := E.trans aJ
   obtain ⟨c9, da, rfl, db, ci⟩ := bC.opn
   have di : Ch ((bl (.slice Aav (ab).length Cav)) ++ [aE]) bc hH := ((Ch.refl _ _).trans aJ.of_nil)
   refine ⟨di, ?_⟩
   refine dO 11 (Ye rfl rfl rfl ?_)
   have hI := (a5.ch0 H).ch0 aJ
   refine Yj (cs := bcs) el24 sz4 by4 zr4 rfl (by decide) Zaz hI bC.ls rfl rfl bd bd b om fun eS hJ bD bF t aU => ?_
   have jg := aU.size
   have E := E.step aU (fun i hi => .inl (by have x := b _ hi; omega))
   obtain ⟨T, U, rfl, dd, h⟩ := bD.opn
   have dj : Ch ((bl (.slice Aav (ab).length Cav)) ++ [aE]) bc hJ := (di.step aU (fun i hm => by exact .inr (List.mem_append_left _ hm)))
   refine ⟨dj, ?_⟩
   refine dV 12 rfl rfl rfl (fun _ => Zh fa27_1 rfl) (dO 13 (Ye rfl rfl rfl ?_))
   have hK := (fL.ch0 aJ).ch aU (fun hm => by exact D (by first | exact hm | exact V ▸ hm))
   refine Xh (off := 1) hK sz24 rfl rfl rfl rfl fun fM bQ aV => ?_
   have jh := aV.size
   have E := E.step aV (lS om)
   replace bQ : Blk fM aE 27 [(.int .i64 0), (.slice T ((ab ++ [S])).length U), (.slice Anv (vs).length Cnv)] := bQ
   have eV : Ch ((bl (.slice Aav (ab).length Cav)) ++ [aE]) bc fM := (dj.step aV (fun i hm => by have V := List.mem_singleton.1 hm; exact .inr (by rw [V]; exact (List.mem_append_right _ (List.mem_singleton.2 rfl)))))
   refine ⟨eV, ?_⟩
   refine Yb (by kernel_rfl) ?_
   refine Zb (dJ _ _ (Zc (Za rfl rfl (Zh fa27_2 rfl) (Za rfl rfl (Zp bQ.at_ agg25 rfl rfl) (Za rfl rfl (Zd rfl) (Zk rfl rfl ?_))))))
   refine Zr (cs := Sv.cs) (parts := [(0, .tmp 102)]) (⟨none, 0, 0⟩ : Sv) [(⟨Arv, (row).length, Crv⟩ : Sv)] el25 sz30 zr30 Sv.len (by decide) rfl rfl rfl (by decide) (by decide) rfl fun df fN au cj aW => ?_
   have ji := aW.size
   have E := E.trans aW
   obtain ⟨ck, cm, rfl, cn, bP⟩ := au.opn
   have fO := ((((ah.ch0 H).ch0 aJ).ch aU (fun g hg hm => by have x := b _ hm; have J := hiav _ hm; have K := a _ hg; have L := hirv _ hg; omega)).ch aV (dS a hirv om)).ch0 aW
   have co : Rd ics 1 fN 0 fN.heap.size ([(⟨Arv, (row).length, Crv⟩ : Sv)]) ([row]) := (Rd.cons (fO.ls.up om om) Rd.nil)
   refine Zk rfl rfl ?_
   have hL := ((((a6.ch0 H).ch0 aJ).ch aU (fun g hg hm => by exact C _ hg hm)).ch aV (fun g hg hm => by have V := List.mem_singleton.1 hm; exact F (by first | exact hg | exact V ▸ hg))).ch0 aW
   refine Yj (cs := Sv.cs) el25 sz30 by30 zr30 rfl (by decide) Sv.one hL au.ls rfl rfl bd bd f om fun dg k0 aw az y bg => ?_
   have jj := bg.size
   have E := E.step bg (fun i hi => .inl (by have x := f _ hi; omega))
   obtain ⟨P, Q, rfl, cp, l⟩ := aw.opn
   refine Za rfl rfl (Zh fa27_2 rfl) (Zk rfl rfl ?_)
   have hM := (bQ.ch0 aW).ch bg (fun hm => by exact F (by first | exact hm | exact V ▸ hm))
   refine Xh (off := 2) hM sz25 rfl rfl rfl rfl fun dk cr bh => ?_
   have jk := bh.size
   have E := E.step bh (lS om)
   replace cr : Blk dk aE 27 [(.int .i64 0), (.slice T ((ab ++ [S])).length U), (.slice P ((vs ++ [(⟨Arv, (row).length, Crv⟩ : Sv)])).length Q)] := cr
   refine Zf (Yc (Zb (f2 _ _ (Zc (Za rfl rfl (Zd rfl) (Za rfl rfl (Yq om rfl rfl) (Za rfl rfl (Ze rfl) (Zf ?_))))))))
   have hN := ((((((a7.ch0 H).ch0 aJ).ch aU (fun g hg hm => by exact o _ hg hm)).ch aV (dS n hiou om)).ch0 aW).ch bg (fun g hg hm => by exact p _ hg hm)).ch bh (dS n hiou om)
   have dW : Ol ics 3 1 dk (.slice Aou (us).length Cou) (us) := by
    have hx := hN
    exact hx
   have hP := (((((dU.ch0 aJ).ch aU (fun g hg hm => by exact r _ hg hm)).ch aV (dS m hipu om)).ch0 aW).ch bg (fun g hg hm => by exact s _ hg hm)).ch bh (dS m hipu om)
   have dX : Ol ics 3 1 dk (.slice Apu (qs).length Cpu) (qs) := by
    have hx := hP
    exact hx
   have hQ := (((bD.ch aV (fun g hg hm => by have V := List.mem_singleton.1 hm; rcases t with ea | ea; (rw [ea] at hg; exact D (by first | exact hg | exact V ▸ hg)); (have M := h _ hg; rw [ea] at hg; have G := List.mem_singleton.1 hg; omega))).ch0 aW).ch bg (fun g hg hm => by rcases t with ea | ea; (rw [ea] at hg; exact C _ hm hg); (have M := h _ hg; rw [ea] at hg; have G := List.mem_singleton.1 hg; have x := f _ hm; have J := hinv _ hm; omega))).ch bh (fun g hg hm => by have V := List.mem_singleton.1 hm; rcases t with ea | ea; (rw [ea] at hg; exact D (by first | exact hg | exact V ▸ hg)); (have M := h _ hg; rw [ea] at hg; have G := List.mem_singleton.1 hg; omega))
   have dY : Ol bcs 4 1 dk (.slice T ((ab ++ [S])).length U) ((ab ++ [S])) := by
    have hx := hQ
    exact hx
   have hS := aw.ch bh (fun g hg hm => by have V := List.mem_singleton.1 hm; rcases y with ea | ea; (rw [ea] at hg; exact F (by first | exact hg | exact V ▸ hg)); (have M := l _ hg; rw [ea] at hg; have G := List.mem_singleton.1 hg; omega))
   have dZ : Ol Sv.cs 30 1 dk (.slice P ((vs ++ [(⟨Arv, (row).length, Crv⟩ : Sv)])).length Q) ((vs ++ [(⟨Arv, (row).length, Crv⟩ : Sv)])) := by
    have hx := hS
    exact hx
   have eW := ((((((od.ch0 H).ch0 aJ).chS aU Y).ch aV (oS om)).ch0 aW).chS bg Z).ch bh (oS om)
   have hT := (fO.ch bg (fun g hg hm => by have x := f _ hm; have J := hinv _ hm; have K := a _ hg; have L := hirv _ hg; omega)).ch bh (dS a hirv om)
   have hU := ((((((bv.ch0 H).ch0 aJ).ch aU (fun i hi => by have x := b _ hi; omega)).ch aV (oS om)).ch0 aW).ch bg (fun i hi => by have x := f _ hi; omega)).ch bh (oS om)
   have hV := ((((((bH.ch0 H).ch0 aJ).ch aU (fun i hi => by have x := b _ hi; omega)).ch aV (oS om)).ch0 aW).ch bg (fun i hi => by have x := f _ hi; omega)).ch bh (oS om)
   have hW := (((((c5.ch0 aJ).ch aU (fun hm => by have x := b _ hm; have J := hiav _ hm; omega)).ch aV (nS om)).ch0 aW).ch bg (fun hm => by have x := f _ hm; have J := hinv _ hm; omega)).ch bh (nS om)
   have hX := ((((((aF.ch0 H).ch0 aJ).ch aU (fun hm => by have x := b _ hm; have J := hiav _ hm; omega)).ch aV (nS om)).ch0 aW).ch bg (fun hm => by have x := f _ hm; have J := hinv _ hm; omega)).ch bh (nS om)
   exact Zb (Exists.intro ((i + 1), (ab ++ [S]), (vs ++ [(⟨Arv, (row).length, Crv⟩ : Sv)]), (rs ++ [row]), us, qs, (.slice Aou (us).length Cou), (.slice Apu (qs).length Cpu), (.slice T ((ab ++ [S])).length U), (.slice P ((vs ++ [(⟨Arv, (row).length, Crv⟩ : Sv)])).length Q)) ⟨⟨E, om, om, bT, cc, (by simp only [List.length_append, List.length_singleton]; omega), hU, hV, hW, hX, dW, (Lo.down n om), dX, (Lo.down m om), dY, (Lo.down bF om), dZ, (Lo.down az om), (Od.snoc eW (v := (⟨Arv, (row).length, Crv⟩ : Sv)) hT (Lo.down a om) (fun g hg => by have x := hirv g hg; omega) om om), cr, (fun g hm hg => by exact I _ hm hg), (fun g hm hg => by rcases t with ea | ea; (rw [ea] at hm; exact o _ hg hm); (have B := h _ hm; rw [ea] at hm; have G := List.mem_singleton.1 hm; have K := n _ hg; have L := hiou _ hg; omega)), (fun g hm hg => by rcases t with ea | ea; (rw [ea] at hm; exact r _ hg hm); (have B := h _ hm; rw [ea] at hm; have G := List.mem_singleton.1 hm; have K := m _ hg; have L := hipu _ hg; omega)), (fun hm => by rcases t with ea | ea; (rw [ea] at hm; exact D (by first | exact hm | exact V ▸ hm)); (have B := h _ hm; rw [ea] at hm; have G := List.mem_singleton.1 hm; omega)), (fun g hm hg => by rcases y with ea | ea; (rw [ea] at hm; exact p _ hg hm); (have B := l _ hm; rw [ea] at hm; have G := List.mem_singleton.1 hm; have K := n _ hg; have L := hiou _ hg; omega)), (fun g hm hg => by rcases y with ea | ea; (rw [ea] at hm; exact s _ hg hm); (have B := l _ hm; rw [ea] at hm; have G := List.mem_singleton.1 hm; have K := m _ hg; have L := hipu _ hg; omega)), (fun g hm hg => by rcases y with ea | ea; (rw [ea] at hm; rcases t with ea | ea; (rw [ea] at hg; exact C _ hm hg); (have M := h _ hg; rw [ea] at hg; have G := List.mem_singleton.1 hg; have x := f _ hm; have J := hinv _ hm; omega)); (have B := l _ hm; rw [ea] at hm; have G := List.mem_singleton.1 hm; rcases t with ea | ea; (rw [ea] at hg; have K := b _ hg; have L := hiav _ hg; omega); (have M := h _ hg; rw [ea] at hg; have G := List.mem_singleton.1 hg; omega))), (fun hm => by rcases y with ea | ea; (rw [ea] at hm; exact F (by first | exact hm | exact V ▸ hm)); (have B := l _ hm; rw [ea] at hm; have G := List.mem_singleton.1 hm; omega)), (fun u hu g hg hm => by rcases List.mem_append.1 hu with hu | hu; (exact aa _ hu _ hg hm); (rw [List.mem_singleton.1 hu] at hg; replace hg : g ∈ bl (.slice Arv (row).length Crv) := hg; exact z _ hg hm)), (fun u hu g hg hm => by rcases List.mem_append.1 hu with hu | hu; (exact ac _ hu _ hg hm); (rw [List.mem_singleton.1 hu] at hg; replace hg : g ∈ bl (.slice Arv (row).length Crv) := hg; exact A _ hg hm)), (fun u hu g hg hm => by rcases List.mem_append.1 hu with hu | hu; (rcases t with ea | ea; (rw [ea] at hm; exact Y _ hu _ hg hm); (have B := h _ hm; rw [ea] at hm; have G := List.mem_singleton.1 hm; have cH := eW.rng hu hg; omega)); (rw [List.mem_singleton.1 hu] at hg; replace hg : g ∈ bl (.slice Arv (row).length Crv) := hg; rcases t with ea | ea; (rw [ea] at hm; have x := b _ hm; have J := hiav _ hm; have K := a _ hg; have L := hirv _ hg; omega); (have B := h _ hm; rw [ea] at hm; have G := List.mem_singleton.1 hm; have K := a _ hg; have L := hirv _ hg; omega))), (fun u hu g hg hm => by rcases List.mem_append.1 hu with hu | hu; (rcases y with ea | ea; (rw [ea] at hm; exact Z _ hu _ hg hm); (have B := l _ hm; rw [ea] at hm; have G := List.mem_singleton.1 hm; have cH := eW.rng hu hg; omega)); (rw [List.mem_singleton.1 hu] at hg; replace hg : g ∈ bl (.slice Arv (row).length Crv) := hg; rcases y with ea | ea; (rw [ea] at hm; have x := f _ hm; have J := hinv _ hm; have K := a _ hg; have L := hirv _ hg; omega); (have B := l _ hm; rw [ea] at hm; have G := List.mem_singleton.1 hm; have K := a _ hg; have L := hirv _ hg; omega)))⟩, sC8 rfl rfl rfl rfl rfl rfl rfl rfl (Sub.nil _), (by first | omega | (dsimp only; omega))⟩)
  refine Ye rfl rfl rfl ?_
  refine s_v (Yk dM agg3 rfl rfl) ?_
  refine ⟨(Ch.refl _ _), ?_⟩
  have hY := (bp.ch0 cD).ch0 H
  refine dT 8 rfl rfl rfl (Ql (j := dL.toNat) hY Qa el24 sz4 rfl rfl om om fun fH S es c7 => ?_)
  refine dT 9 rfl rfl rfl (Qo c7 (fun i hm => by rcases List.mem_append.1 hm with hm | hm; (have x := b _ hm; have J := hiav _ hm; omega); (have x := List.mem_singleton.1 hm; omega)) agg4 rfl rfl ?_)
  refine Zau 1 10 (by kernel_rfl) ?_ ?_
  ·refine Ye rfl rfl rfl ?_
   have fP := aG.ch0 H
   refine s_v (Zp fP.at_ agg24 rfl rfl) ?_
   refine ⟨(Ch.refl _ _), ?_⟩
   refine dO 10 (Ye rfl rfl rfl ?_)
   refine Zr (cs := bcs) (parts := [(0, .tmp 96)]) false [S] el24 sz4 zr4 Qa (by decide) rfl rfl rfl (by decide) (by decide) rfl fun eR hZ bC c8 aK => ?_
   have jl := aK.size
   have E := E.trans aK
   obtain ⟨c9, da, rfl, db, ci⟩ := bC.opn
   have dl : Ch ((bl (.slice Aav (ab).length Cav)) ++ [aE]) bc hZ := ((Ch.refl _ _).trans aK.of_nil)
   refine ⟨dl, ?_⟩
   refine dO 11 (Ye rfl rfl rfl ?_)
   have h0 := (a5.ch0 H).ch0 aK
   refine Yj (cs := bcs) el24 sz4 by4 zr4 rfl (by decide) Zaz h0 bC.ls rfl rfl bd bd b om fun eS h1 bD bF t aX => ?_
   have jm := aX.size
   have E := E.step aX (fun i hi => .inl (by have x := b _ hi; omega))
   obtain ⟨T, U, rfl, dd, h⟩ := bD.opn
   have dm : Ch ((bl (.slice Aav (ab).length Cav)) ++ [aE]) bc h1 := (dl.step aX (fun i hm => by exact .inr (List.mem_append_left _ hm)))
   refine ⟨dm, ?_⟩
   refine dV 12 rfl rfl rfl (fun _ => Zh fa27_1 rfl) (dO 13 (Ye rfl rfl rfl ?_))
   have h2 := (fP.ch0 aK).ch aX (fun hm => by exact D (by first | exact hm | exact V ▸ hm))
   refine Xh (off := 1) h2 sz24 rfl rfl rfl rfl fun fQ bR aY => ?_
   have jn := aY.size
   have E := E.step aY (lS om)
   replace bR : Blk fQ aE 27 [(.int .i64 0), (.slice T ((ab ++ [S])).length U), (.slice Anv (vs).length Cnv)] := bR
   have eX : Ch ((bl (.slice Aav (ab).length Cav)) ++ [aE]) bc fQ := (dm.step aY (fun i hm => by have V := List.mem_singleton.1 hm; exact .inr (by rw [V]; exact (List.mem_append_right _ (List.mem_singleton.2 rfl)))))
   refine ⟨eX, ?_⟩
   refine Yb (by kernel_rfl) ?_
   refine Zb (dJ _ _ (Zc (Za rfl rfl (Zh fa27_2 rfl) (Za rfl rfl (Zp bR.at_ agg25 rfl rfl) (Za rfl rfl (Zd rfl) (Zk rfl rfl ?_))))))
   refine Zr (cs := Sv.cs) (parts := [(0, .tmp 102)]) (⟨none, 0, 0⟩ : Sv) [(⟨Arv, (row).length, Crv⟩ : Sv)] el25 sz30 zr30 Sv.len (by decide) rfl rfl rfl (by decide) (by decide) rfl fun df fR au cj aZ => ?_
   have jo := aZ.size
   have E := E.trans aZ
   obtain ⟨ck, cm, rfl, cn, bP⟩ := au.opn
   have fS := ((((ah.ch0 H).ch0 aK).ch aX (fun g hg hm => by have x := b _ hm; have J := hiav _ hm; have K := a _ hg; have L := hirv _ hg; omega)).ch aY (dS a hirv om)).ch0 aZ
   have co : Rd ics 1 fR 0 fR.heap.size ([(⟨Arv, (row).length, Crv⟩ : Sv)]) ([row]) := (Rd.cons (fS.ls.up om om) Rd.nil)
   refine Zk rfl rfl ?_
   have h3 := ((((a6.ch0 H).ch0 aK).ch aX (fun g hg hm => by exact C _ hg hm)).ch aY (fun g hg hm => by have V := List.mem_singleton.1 hm; exact F (by first | exact hg | exact V ▸ hg))).ch0 aZ
   refine Yj (cs := Sv.cs) el25 sz30 by30 zr30 rfl (by decide) Sv.one h3 au.ls rfl rfl bd bd f om fun dg k3 aw az y bi => ?_
   have jp := bi.size
   have E := E.step bi (fun i hi => .inl (by have x := f _ hi; omega))
   obtain ⟨P, Q, rfl, cp, l⟩ := aw.opn
   refine Za rfl rfl (Zh fa27_2 rfl) (Zk rfl rfl ?_)
   have h4 := (bR.ch0 aZ).ch bi (fun hm => by exact F (by first | exact hm | exact V ▸ hm))
   refine Xh (off := 2) h4 sz25 rfl rfl rfl rfl fun dn ct bj => ?_
   have jq := bj.size
   have E := E.step bj (lS om)
   replace ct : Blk dn aE 27 [(.int .i64 0), (.slice T ((ab ++ [S])).length U), (.slice P ((vs ++ [(⟨Arv, (row).length, Crv⟩ : Sv)])).length Q)] := ct
   refine Zf (Yc (Zb (f2 _ _ (Zc (Za rfl rfl (Zd rfl) (Za rfl rfl (Yq om rfl rfl) (Za rfl rfl (Ze rfl) (Zf ?_))))))))
   have h5 := ((((((a7.ch0 H).ch0 aK).ch aX (fun g hg hm => by exact o _ hg hm)).ch aY (dS n hiou om)).ch0 aZ).ch bi (fun g hg hm => by exact p _ hg hm)).ch bj (dS n hiou om)
   have d0 : Ol ics 3 1 dn (.slice Aou (us).length Cou) (us) := by
    have hx := h5
    exact hx
   have h6 := (((((dU.ch0 aK).ch aX (fun g hg hm => by exact r _ hg hm)).ch aY (dS m hipu om)).ch0 aZ).ch bi (fun g hg hm => by exact s _ hg hm)).ch bj (dS m hipu om)
   have d1 : Ol ics 3 1 dn (.slice Apu (qs).length Cpu) (qs) := by
    have hx := h6
    exact hx
   have h7 := (((bD.ch aY (fun g hg hm => by have V := List.mem_singleton.1 hm; rcases t with ea | ea; (rw [ea] at hg; exact D (by first | exact hg | exact V ▸ hg)); (have M := h _ hg; rw [ea] at hg; have G := List.mem_singleton.1 hg; omega))).ch0 aZ).ch bi (fun g hg hm => by rcases t with ea | ea; (rw [ea] at hg; exact C _ hm hg); (have M := h _ hg; rw [ea] at hg; have G := List.mem_singleton.1 hg; have x := f _ hm; have J := hinv _ hm; omega))).ch bj (fun g hg hm => by have V := List.mem_singleton.1 hm; rcases t with ea | ea; (rw [ea] at hg; exact D (by first | exact hg | exact V ▸ hg)); (have M := h _ hg; rw [ea] at hg; have G := List.mem_singleton.1 hg; omega))
   have d2 : Ol bcs 4 1 dn (.slice T ((ab ++ [S])).length U) ((ab ++ [S])) := by
    have hx := h7
    exact hx
   have h8 := aw.ch bj (fun g hg hm => by have V := List.mem_singleton.1 hm; rcases y with ea | ea; (rw [ea] at hg; exact F (by first | exact hg | exact V ▸ hg)); (have M := l _ hg; rw [ea] at hg; have G := List.mem_singleton.1 hg; omega))
   have d3 : Ol Sv.cs 30 1 dn (.slice P ((vs ++ [(⟨Arv, (row).length, Crv⟩ : Sv)])).length Q) ((vs ++ [(⟨Arv, (row).length, Crv⟩ : Sv)])) := by
    have hx := h8
    exact hx
   have eY := ((((((od.ch0 H).ch0 aK).chS aX Y).ch aY (oS om)).ch0 aZ).chS bi Z).ch bj (oS om)
   have h9 := (fS.ch bi (fun g hg hm => by have x := f _ hm; have J := hinv _ hm; have K := a _ hg; have L := hirv _ hg; omega)).ch bj (dS a hirv om)
   have ia := ((((((bv.ch0 H).ch0 aK).ch aX (fun i hi => by have x := b _ hi; omega)).ch aY (oS om)).ch0 aZ).ch bi (fun i hi => by have x := f _ hi; omega)).ch bj (oS om)
   have ib := ((((((bH.ch0 H).ch0 aK).ch aX (fun i hi => by have x := b _ hi; omega)).ch aY (oS om)).ch0 aZ).ch bi (fun i hi => by have x := f _ hi; omega)).ch bj (oS om)
   have ic := (((((c5.ch0 aK).ch aX (fun hm => by have x := b _ hm; have J := hiav _ hm; omega)).ch aY (nS om)).ch0 aZ).ch bi (fun hm => by have x := f _ hm; have J := hinv _ hm; omega)).ch bj (nS om)
   have ie := ((((((aF.ch0 H).ch0 aK).ch aX (fun hm => by have x := b _ hm; have J := hiav _ hm; omega)).ch aY (nS om)).ch0 aZ).ch bi (fun hm => by have x := f _ hm; have J := hinv _ hm; omega)).ch bj (nS om)
   exact Zb (Exists.intro ((i + 1), (ab ++ [S]), (vs ++ [(⟨Arv, (row).length, Crv⟩ : Sv)]), (rs ++ [row]), us, qs, (.slice Aou (us).length Cou), (.slice Apu (qs).length Cpu), (.slice T ((ab ++ [S])).length U), (.slice P ((vs ++ [(⟨Arv, (row).length, Crv⟩ : Sv)])).length Q)) ⟨⟨E, om, om, bT, cc, (by simp only [List.length_append, List.length_singleton]; omega), ia, ib, ic, ie, d0, (Lo.down n om), d1, (Lo.down m om), d2, (Lo.down bF om), d3, (Lo.down az om), (Od.snoc eY (v := (⟨Arv, (row).length, Crv⟩ : Sv)) h9 (Lo.down a om) (fun g hg => by have x := hirv g hg; omega) om om), ct, (fun g hm hg => by exact I _ hm hg), (fun g hm hg => by rcases t with ea | ea; (rw [ea] at hm; exact o _ hg hm); (have B := h _ hm; rw [ea] at hm; have G := List.mem_singleton.1 hm; have K := n _ hg; have L := hiou _ hg; omega)), (fun g hm hg => by rcases t with ea | ea; (rw [ea] at hm; exact r _ hg hm); (have B := h _ hm; rw [ea] at hm; have G := List.mem_singleton.1 hm; have K := m _ hg; have L := hipu _ hg; omega)), (fun hm => by rcases t with ea | ea; (rw [ea] at hm; exact D (by first | exact hm | exact V ▸ hm)); (have B := h _ hm; rw [ea] at hm; have G := List.mem_singleton.1 hm; omega)), (fun g hm hg => by rcases y with ea | ea; (rw [ea] at hm; exact p _ hg hm); (have B := l _ hm; rw [ea] at hm; have G := List.mem_singleton.1 hm; have K := n _ hg; have L := hiou _ hg; omega)), (fun g hm hg => by rcases y with ea | ea; (rw [ea] at hm; exact s _ hg hm); (have B := l _ hm; rw [ea] at hm; have G := List.mem_singleton.1 hm; have K := m _ hg; have L := hipu _ hg; omega)), (fun g hm hg => by rcases y with ea | ea; (rw [ea] at hm; rcases t with ea | ea; (rw [ea] at hg; exact C _ hm hg); (have M := h _ hg; rw [ea] at hg; have G := List.mem_singleton.1 hg; have x := f _ hm; have J := hinv _ hm; omega)); (have B := l _ hm; rw [ea] at hm; have G := List.mem_singleton.1 hm; rcases t with ea | ea; (rw [ea] at hg; have K := b _ hg; have L := hiav _ hg; omega); (have M := h _ hg; rw [ea] at hg; have G := List.mem_singleton.1 hg; omega))), (fun hm => by rcases y with ea | ea; (rw [ea] at hm; exact F (by first | exact hm | exact V ▸ hm)); (have B := l _ hm; rw [ea] at hm; have G := List.mem_singleton.1 hm; omega)), (fun u hu g hg hm => by rcases List.mem_append.1 hu with hu | hu; (exact aa _ hu _ hg hm); (rw [List.mem_singleton.1 hu] at hg; replace hg : g ∈ bl (.slice Arv (row).length Crv) := hg; exact z _ hg hm)), (fun u hu g hg hm => by rcases List.mem_append.1 hu with hu | hu; (exact ac _ hu _ hg hm); (rw [List.mem_singleton.1 hu] at hg; replace hg : g ∈ bl (.slice Arv (row).length Crv) := hg; exact A _ hg hm)), (fun u hu g hg hm => by rcases List.mem_append.1 hu with hu | hu; (rcases t with ea | ea; (rw [ea] at hm; exact Y _ hu _ hg hm); (have B := h _ hm; rw [ea] at hm; have G := List.mem_singleton.1 hm; have cH := eY.rng hu hg; omega)); (rw [List.mem_singleton.1 hu] at hg; replace hg : g ∈ bl (.slice Arv (row).length Crv) := hg; rcases t with ea | ea; (rw [ea] at hm; have x := b _ hm; have J := hiav _ hm; have K := a _ hg; have L := hirv _ hg; omega); (have B := h _ hm; rw [ea] at hm; have G := List.mem_singleton.1 hm; have K := a _ hg; have L := hirv _ hg; omega))), (fun u hu g hg hm => by rcases List.mem_append.1 hu with hu | hu; (rcases y with ea | ea; (rw [ea] at hm; exact Z _ hu _ hg hm); (have B := l _ hm; rw [ea] at hm; have G := List.mem_singleton.1 hm; have cH := eY.rng hu hg; omega)); (rw [List.mem_singleton.1 hu] at hg; replace hg : g ∈ bl (.slice Arv (row).length Crv) := hg; rcases y with ea | ea; (rw [ea] at hm; have x := f _ hm; have J := hinv _ hm; have K := a _ hg; have L := hirv _ hg; omega); (have B := l _ hm; rw [ea] at hm; have G := List.mem_singleton.1 hm; have K := a _ hg; have L := hirv _ hg; omega)))⟩, sC8 rfl rfl rfl rfl rfl rfl rfl rfl (Sub.nil _), (by first | omega | (dsimp only; omega))⟩)
  refine Ye rfl rfl rfl ?_
  refine Zr (cs := bcs) (parts := [(0, .tmp 96)]) false [S] el24 sz4 zr4 Qa (by decide) rfl rfl rfl (by decide) (by decide) rfl fun eR ig bC c8 aL => ?_
  have jr := aL.size
  have E := E.trans aL
  obtain ⟨c9, da, rfl, db, ci⟩ := bC.opn
  have cu : Ch ((bl (.slice Aav (ab).length Cav)) ++ [aE]) bc ig := ((Ch.refl _ _).trans aL.of_nil)
  refine ⟨cu, ?_⟩
  refine dO 1 (Ye rfl rfl rfl ?_)
  have fT := (aG.ch0 H).ch0 aL
  refine s_v (Zp fT.at_ agg24 rfl rfl) ?_
  refine ⟨cu, ?_⟩
  refine dO 11 (Ye rfl rfl rfl ?_)
  have ih := (a5.ch0 H).ch0 aL
  refine Yj (cs := bcs) el24 sz4 by4 zr4 rfl (by decide) Zaz ih bC.ls rfl rfl bd bd b om fun eS ii bD bF t a0 => ?_
  have js := a0.size
  have E := E.step a0 (fun i hi => .inl (by have x := b _ hi; omega))
  obtain ⟨T, U, rfl, dd, h⟩ := bD.opn
  have dp : Ch ((bl (.slice Aav (ab).length Cav)) ++ [aE]) bc ii := (cu.step a0 (fun i hm => by exact .inr (List.mem_append_left _ hm)))
  refine ⟨dp, ?_⟩
  refine dV 12 rfl rfl rfl (fun _ => Zh fa27_1 rfl) (dO 13 (Ye rfl rfl rfl ?_))
  have ij := fT.ch a0 (fun hm => by exact D (by first | exact hm | exact V ▸ hm))
  refine Xh (off := 1) ij sz24 rfl rfl rfl rfl fun fU bS a1 => ?_
  have jt := a1.size
  have E := E.step a1 (lS om)
  replace bS : Blk fU aE 27 [(.int .i64 0), (.slice T ((ab ++ [S])).length U), (.slice Anv (vs).length Cnv)] := bS
  have eZ : Ch ((bl (.slice Aav (ab).length Cav)) ++ [aE]) bc fU := (dp.step a1 (fun i hm => by have V := List.mem_singleton.1 hm; exact .inr (by rw [V]; exact (List.mem_append_right _ (List.mem_singleton.2 rfl)))))
  refine ⟨eZ, ?_⟩
  refine Yb (by kernel_rfl) ?_
  refine Zb (dJ _ _ (Zc (Za rfl rfl (Zh fa27_2 rfl) (Za rfl rfl (Zp bS.at_ agg25 rfl rfl) (Za rfl rfl (Zd rfl) (Zk rfl rfl ?_))))))
  refine Zr (cs := Sv.cs) (parts := [(0, .tmp 102)]) (⟨none, 0, 0⟩ : Sv) [(⟨Arv, (row).length, Crv⟩ : Sv)] el25 sz30 zr30 Sv.len (by decide) rfl rfl rfl (by decide) (by decide) rfl fun df fV au cj a2 => ?_
  have ju := a2.size
  have E := E.trans a2
  obtain ⟨ck, cm, rfl, cn, bP⟩ := au.opn
  have fW := ((((ah.ch0 H).ch0 aL).ch a0 (fun g hg hm => by have x := b _ hm; have J := hiav _ hm; have K := a _ hg; have L := hirv _ hg; omega)).ch a1 (dS a hirv om)).ch0 a2
  have co : Rd ics 1 fV 0 fV.heap.size ([(⟨Arv, (row).length, Crv⟩ : Sv)]) ([row]) := (Rd.cons (fW.ls.up om om) Rd.nil)
  refine Zk rfl rfl ?_
  have ik := ((((a6.ch0 H).ch0 aL).ch a0 (fun g hg hm => by exact C _ hg hm)).ch a1 (fun g hg hm => by have V := List.mem_singleton.1 hm; exact F (by first | exact hg | exact V ▸ hg))).ch0 a2
  refine Yj (cs := Sv.cs) el25 sz30 by30 zr30 rfl (by decide) Sv.one ik au.ls rfl rfl bd bd f om fun dg k4 aw az y bk => ?_
  have jv := bk.size
  have E := E.step bk (fun i hi => .inl (by have x := f _ hi; omega))
  obtain ⟨P, Q, rfl, cp, l⟩ := aw.opn
  refine Za rfl rfl (Zh fa27_2 rfl) (Zk rfl rfl ?_)
  have il := (bS.ch0 a2).ch bk (fun hm => by exact F (by first | exact hm | exact V ▸ hm))
  refine Xh (off := 2) il sz25 rfl rfl rfl rfl fun dq cv bm => ?_
  have jw := bm.size
  have E := E.step bm (lS om)
  replace cv : Blk dq aE 27 [(.int .i64 0), (.slice T ((ab ++ [S])).length U), (.slice P ((vs ++ [(⟨Arv, (row).length, Crv⟩ : Sv)])).length Q)] := cv
  refine Zf (Yc (Zb (f2 _ _ (Zc (Za rfl rfl (Zd rfl) (Za rfl rfl (Yq om rfl rfl) (Za rfl rfl (Ze rfl) (Zf ?_))))))))
  have im := ((((((a7.ch0 H).ch0 aL).ch a0 (fun g hg hm => by exact o _ hg hm)).ch a1 (dS n hiou om)).ch0 a2).ch bk (fun g hg hm => by exact p _ hg hm)).ch bm (dS n hiou om)
  have d4 : Ol ics 3 1 dq (.slice Aou (us).length Cou) (us) := by
   have hx := im
   exact hx
  have io := (((((dU.ch0 aL).ch a0 (fun g hg hm => by exact r _ hg hm)).ch a1 (dS m hipu om)).ch0 a2).ch bk (fun g hg hm => by exact s _ hg hm)).ch bm (dS m hipu om)
  have d5 : Ol ics 3 1 dq (.slice Apu (qs).length Cpu) (qs) := by
   have hx := io
   exact hx
  have ip := (((bD.ch a1 (fun g hg hm => by have V := List.mem_singleton.1 hm; rcases t with ea | ea; (rw [ea] at hg; exact D (by first | exact hg | exact V ▸ hg)); (have M := h _ hg; rw [ea] at hg; have G := List.mem_singleton.1 hg; omega))).ch0 a2).ch bk (fun g hg hm => by rcases t with ea | ea; (rw [ea] at hg; exact C _ hm hg); (have M := h _ hg; rw [ea] at hg; have G := List.mem_singleton.1 hg; have x := f _ hm; have J := hinv _ hm; omega))).ch bm (fun g hg hm => by have V := List.mem_singleton.1 hm; rcases t with ea | ea; (rw [ea] at hg; exact D (by first | exact hg | exact V ▸ hg)); (have M := h _ hg; rw [ea] at hg; have G := List.mem_singleton.1 hg; omega))
  have d6 : Ol bcs 4 1 dq (.slice T ((ab ++ [S])).length U) ((ab ++ [S])) := by
   have hx := ip
   exact hx
  have iq := aw.ch bm (fun g hg hm => by have V := List.mem_singleton.1 hm; rcases y with ea | ea; (rw [ea] at hg; exact F (by first | exact hg | exact V ▸ hg)); (have M := l _ hg; rw [ea] at hg; have G := List.mem_singleton.1 hg; omega))
  have d7 : Ol Sv.cs 30 1 dq (.slice P ((vs ++ [(⟨Arv, (row).length, Crv⟩ : Sv)])).length Q) ((vs ++ [(⟨Arv, (row).length, Crv⟩ : Sv)])) := by
   have hx := iq
   exact hx
  have e0 := ((((((od.ch0 H).ch0 aL).chS a0 Y).ch a1 (oS om)).ch0 a2).chS bk Z).ch bm (oS om)
  have ir := (fW.ch bk (fun g hg hm => by have x := f _ hm; have J := hinv _ hm; have K := a _ hg; have L := hirv _ hg; omega)).ch bm (dS a hirv om)
  have it := ((((((bv.ch0 H).ch0 aL).ch a0 (fun i hi => by have x := b _ hi; omega)).ch a1 (oS om)).ch0 a2).ch bk (fun i hi => by have x := f _ hi; omega)).ch bm (oS om)
  have iu := ((((((bH.ch0 H).ch0 aL).ch a0 (fun i hi => by have x := b _ hi; omega)).ch a1 (oS om)).ch0 a2).ch bk (fun i hi => by have x := f _ hi; omega)).ch bm (oS om)
  have iv := (((((c5.ch0 aL).ch a0 (fun hm => by have x := b _ hm; have J := hiav _ hm; omega)).ch a1 (nS om)).ch0 a2).ch bk (fun hm => by have x := f _ hm; have J := hinv _ hm; omega)).ch bm (nS om)
  have iw := ((((((aF.ch0 H).ch0 aL).ch a0 (fun hm => by have x := b _ hm; have J := hiav _ hm; omega)).ch a1 (nS om)).ch0 a2).ch bk (fun hm => by have x := f _ hm; have J := hinv _ hm; omega)).ch bm (nS om)
  exact Zb (Exists.intro ((i + 1), (ab ++ [S]), (vs ++ [(⟨Arv, (row).length, Crv⟩ : Sv)]), (rs ++ [row]), us, qs, (.slice Aou (us).length Cou), (.slice Apu (qs).length Cpu), (.slice T ((ab ++ [S])).length U), (.slice P ((vs ++ [(⟨Arv, (row).length, Crv⟩ : Sv)])).length Q)) ⟨⟨E, om, om, bT, cc, (by simp only [List.length_append, List.length_singleton]; omega), it, iu, iv, iw, d4, (Lo.down n om), d5, (Lo.down m om), d6, (Lo.down bF om), d7, (Lo.down az om), (Od.snoc e0 (v := (⟨Arv, (row).length, Crv⟩ : Sv)) ir (Lo.down a om) (fun g hg => by have x := hirv g hg; omega) om om), cv, (fun g hm hg => by exact I _ hm hg), (fun g hm hg => by rcases t with ea | ea; (rw [ea] at hm; exact o _ hg hm); (have B := h _ hm; rw [ea] at hm; have G := List.mem_singleton.1 hm; have K := n _ hg; have L := hiou _ hg; omega)), (fun g hm hg => by rcases t with ea | ea; (rw [ea] at hm; exact r _ hg hm); (have B := h _ hm; rw [ea] at hm; have G := List.mem_singleton.1 hm; have K := m _ hg; have L := hipu _ hg; omega)), (fun hm => by rcases t with ea | ea; (rw [ea] at hm; exact D (by first | exact hm | exact V ▸ hm)); (have B := h _ hm; rw [ea] at hm; have G := List.mem_singleton.1 hm; omega)), (fun g hm hg => by rcases y with ea | ea; (rw [ea] at hm; exact p _ hg hm); (have B := l _ hm; rw [ea] at hm; have G := List.mem_singleton.1 hm; have K := n _ hg; have L := hiou _ hg; omega)), (fun g hm hg => by rcases y with ea | ea; (rw [ea] at hm; exact s _ hg hm); (have B := l _ hm; rw [ea] at hm; have G := List.mem_singleton.1 hm; have K := m _ hg; have L := hipu _ hg; omega)), (fun g hm hg => by rcases y with ea | ea; (rw [ea] at hm; rcases t with ea | ea; (rw [ea] at hg; exact C _ hm hg); (have M := h _ hg; rw [ea] at hg; have G := List.mem_singleton.1 hg; have x := f _ hm; have J := hinv _ hm; omega)); (have B := l _ hm; rw [ea] at hm; have G := List.mem_singleton.1 hm; rcases t with ea | ea; (rw [ea] at hg; have K := b _ hg; have L := hiav _ hg; omega); (have M := h _ hg; rw [ea] at hg; have G := List.mem_singleton.1 hg; omega))), (fun hm => by rcases y with ea | ea; (rw [ea] at hm; exact F (by first | exact hm | exact V ▸ hm)); (have B := l _ hm; rw [ea] at hm; have G := List.mem_singleton.1 hm; omega)), (fun u hu g hg hm => by rcases List.mem_append.1 hu with hu | hu; (exact aa _ hu _ hg hm); (rw [List.mem_singleton.1 hu] at hg; replace hg : g ∈ bl (.slice Arv (row).length Crv) := hg; exact z _ hg hm)), (fun u hu g hg hm => by rcases List.mem_append.1 hu with hu | hu; (exact ac _ hu _ hg hm); (rw [List.mem_singleton.1 hu] at hg; replace hg : g ∈ bl (.slice Arv (row).length Crv) := hg; exact A _ hg hm)), (fun u hu g hg hm => by rcases List.mem_append.1 hu with hu | hu; (rcases t with ea | ea; (rw [ea] at hm; exact Y _ hu _ hg hm); (have B := h _ hm; rw [ea] at hm; have G := List.mem_singleton.1 hm; have cH := e0.rng hu hg; omega)); (rw [List.mem_singleton.1 hu] at hg; replace hg : g ∈ bl (.slice Arv (row).length Crv) := hg; rcases t with ea | ea; (rw [ea] at hm; have x := b _ hm; have J := hiav _ hm; have K := a _ hg; have L := hirv _ hg; omega); (have B := h _ hm; rw [ea] at hm; have G := List.mem_singleton.1 hm; have K := a _ hg; have L := hirv _ hg; omega))), (fun u hu g hg hm => by rcases List.mem_append.1 hu with hu | hu; (rcases y with ea | ea; (rw [ea] at hm; exact Z _ hu _ hg hm); (have B := l _ hm; rw [ea] at hm; have G := List.mem_singleton.1 hm; have cH := e0.rng hu hg; omega)); (rw [List.mem_singleton.1 hu] at hg; replace hg : g ∈ bl (.slice Arv (row).length Crv) := hg; rcases y with ea | ea; (rw [ea] at hm; have x := f _ hm; have J := hinv _ hm; have K := a _ hg; have L := hirv _ hg; omega); (have B := l _ hm; rw [ea] at hm; have G := List.mem_singleton.1 hm; have K := a _ hg; have L := hirv _ hg; omega)))⟩, sC8 rfl rfl rfl rfl rfl rfl rfl rfl (Sub.nil _), (by first | omega | (dsimp only; omega))⟩)
 have gh := ca
 have ca := Yp ca
 refine Xk (Ya (Ya (Xd ?_)))
 refine Zb (jT _ _ ?_)
 refine Zg fun k5 ix => ?_
 refine Zc (Za rfl rfl (Zt ek.at_ agg27 sz27 rfl) (Zk rfl rfl ?_))
 refine Zy (off := 0) 3 cT sz27 rfl (us := [(.int .i64 0), (.slice Aav (ab).length Cav), (.slice Anv (vs).length Cnv)]) rfl rfl rfl rfl fun cI cw dr => ?_
 have jx := dr.size
 have E := E.step dr (lS om)
 replace cw : Blk cI ex 27 [(.int .i64 0), (.slice Aav (ab).length Cav), (.slice Anv (vs).length Cnv)] := cw
 refine Zf (Zb (ix _ _ ?_))
 refine Zs ?_
 have iy := b3.ch dr (dS b hiav om)
 have e1 : Ol bcs 4 1 cI (.slice Aav (ab).length Cav) (ab) := by
  have hx := iy
  first | exact hx | simpa using hx
 have iz := b4.ch dr (dS f hinv om)
 have iA := od.ch dr (oS om)
 have e2 : Ol Sv.cs 30 1 cI (.slice Anv (vs).length Cnv) vs := by
  have hx := iz
  exact hx
 have e3 : Od ics 3 1 cI w.heap.size cI.heap.size vs (rs) := by
  have hx := iA.up (lo' := w.heap.size) (hi' := cI.heap.size) om om
  exact hx
 exact Zi [_] (Zz cw rfl agg27 sz27 trivial) ⟨0, ab, rs, (.slice Aav (ab).length Cav), (.slice Anv (vs).length Cnv), vs, (congrArg (fun zq => (Value.agg #[.int .i64 zq, (.slice Aav (ab).length Cav), (.slice Anv (vs).length Cnv)])) (by first | rfl | simp_all)), e1, (Lo.down b om), e2, (Lo.down f om), e3, Z, (fun g hm hg => by exact C _ hg hm), Y, E⟩

/-- spec.l12Key -/
theorem Zkl {w : World} (aS : Int) {LL_aA Y : Nat} {D : Value} {aA : List Bool} (o : Ls bcs 1 w LL_aA Y D aA) {LL_saN O : Nat} {r : Value} {saN : List Sv} (c : Ls Sv.cs 1 w LL_saN O r saN) {LR_aN BB_aN : Nat} {aN : List (List Int)} (d : Rd ics 1 w LR_aN BB_aN saN aN) {LL_cl Z : Nat} {F : Value} {cl : List Int} (e : Ls ics 1 w LL_cl Z F cl) (s : Int) (hv : Yz aS aA aN) (hl : cl.length = aA.length) (hs : 0 ≤ s ∧ s < aA.length) :
 Ctr Try.prog 94 #[(.agg #[(.int .i64 aS), D, r]), F, (.int .i64 s)] w (fun v w' => Ol ics 3 1 w' v (keyC cl (aN.getD s.toNat []) (cl.getD s.toNat 0)) ∧ Lo w.heap.size v ∧ Ch [] w w') := by
 obtain ⟨t, u, P⟩ := o.val
 subst P
 have aT := o.len
 have o := o.here (by decide)
 obtain ⟨h, l, B⟩ := c.val
 subst B
 have ax := c.len
 have c := c.here (by decide)
 have d := d.here (by decide)
 have ay := d.1
 obtain ⟨x, y, Q⟩ := e.val
 subst Q
 have aU := e.len
 have e := e.here (by decide)
 have E := Ch.refl [] w
 have bP := hv.2.2.1; have bQ := hv.1; obtain ⟨r9, aV⟩ := Zjx (xs := aN) (j := s.toNat) om; have bR := (Xy hv.2 aV).1
 refine Yh (N := 40) (vs0 := [(.agg #[(.int .i64 aS), (.slice t aA.length u), (.slice h saN.length l)]), (.slice x cl.length y), (.int .i64 s)]) Try.func94 rfl rfl rfl ?_
 refine Zg fun K1 H1 => ?_
 refine Zc (Zk rfl rfl ?_)
 refine Xw rfl fun az W2 au C2 bS => ?_
 have bT := C2.size
 have E := E.trans C2
 have bU := au.lt
 replace au : Blk W2 az 27 [(.int .i64 aS), (.slice t aA.length u), (.slice h saN.length l)] := au
 refine Za rfl rfl (Ze rfl) (Zf (Zb (H1 _ _ ?_)))
 refine Zg fun K3 H3 => ?_
 refine Zc (Za rfl rfl (Zd rfl) (Za rfl rfl (Zd rfl) (Zk rfl rfl ?_)))
 have F4 := e.ch0 C2
 refine (Yy (j := s.toNat) F4 Yl el30 sz3 rfl rfl om om fun bb R aa aB => ?_)
 refine Za rfl rfl (Yk aB agg3 rfl rfl) (Zk rfl rfl ?_)
 refine Zr (cs := ics) (parts := [(0, .tmp 13)]) (0 : Int) [R] el30 sz3 zr3 Yl (by decide) rfl rfl rfl (by decide) (by decide) rfl fun bc W5 ab ac C5 => ?_
 have bV := C5.size
 have E := E.trans C5
 obtain ⟨G, H, rfl, aW, aC⟩ := ab.opn
 refine Za rfl rfl (Ze rfl) (Zf (Zb (H3 _ _ ?_)))
 refine Zg fun K6 H6 => ?_
 refine Zg fun K7 H7 => ?_
 refine Zc (Za rfl rfl (Ze rfl) (Zf (Zb (H7 _ _ ?_))))
 refine Yf ?_
 have ad : Ol ics 3 1 W5 (.slice G ([R]).length H) (keyP cl aN s.toNat 0) := by
  have hx := ab
  exact hx.eq (Zqx aa)
 have F9 := F4.ch0 C5
 have be := au.ch0 C5
 refine Xo (σ := Nat × Value) (fun ⟨k, kv⟩ => [(1, (.slice x cl.length y)), (2, (.int .i64 s)), (3, (.pointer (some ⟨az, 0, none⟩))), (6, (.slice none 0 0)), (7, kv), (8, (.int .i64 ((k : Nat) : Int)))]) (fun ⟨k, kv⟩ wx => Ch [] w wx ∧ W5.heap.size ≤ wx.heap.size ∧ (k ≤ 9) ∧ Ls ics 1 wx LL_cl w.heap.size (.slice x cl.length y) cl ∧ Blk wx az 27 [(.int .i64 aS), (.slice t aA.length u), (.slice h saN.length l)] ∧ Ol ics 3 1 wx kv (keyP cl aN s.toNat k) ∧ Lo W2.heap.size kv) (fun ⟨k, kv⟩ => 9 - k) (0, (.slice G ([R]).length H)) (sC4 rfl rfl rfl rfl (sC2 rfl rfl (Sub.nil _))) ⟨E, (Nat.le_refl _), om, F9, be, ad, ac⟩ ?_
 rintro ⟨k, kv⟩ aD ⟨E, bf, bW, z, p, q, a⟩
 have S := E
 have aX := S.size
 have aE := p.lt
 obtain ⟨Akv, Ckv, rfl, lkv, hikv⟩ := q.opn
 refine Zg fun bX bg => ?_
 refine Zg fun bY bh => ?_
 refine Zc (Za rfl rfl (Zd rfl) (Za rfl rfl (Xv rfl rfl) (Zf (Zb (bh _ _ ?_)))))
 refine Zx rfl (fun m => ?_) (fun m => ?_)
 ·have aF := m
  have m := Yo m
  refine Zu ?_
  refine Zb (bg _ _ ?_)
  refine Zg fun bZ aY => ?_
  refine Yf ?_
  refine Zg fun b0 bi => ?_
  refine Zc (Za rfl rfl (Zh fa27_2 rfl) (Za rfl rfl (Zp p.at_ agg25 rfl rfl) (Za rfl rfl (Zd rfl) (Zk rfl rfl ?_))))
  have bj := c.ch0 S
  refine (Yy (j := s.toNat) bj Sv.len el25 sz30 rfl rfl om om fun aG aH ae T => ?_)
  have bk := d.ch0 S
  obtain ⟨A, b, f⟩ := bk.get ae
  obtain ⟨af, bm, ag⟩ := aH
  obtain rfl := f.eqn
  have bn := f.len
  replace f : Ls ics 1 aD LR_aN w.heap.size (.slice af A.length ag) A := f
  replace T : At aD LL_saN w.heap.size aG ([(.slice af A.length ag)]) := T
  have bp := (Xy hv.2 b).1
  refine Za rfl rfl (Yk T agg30 rfl rfl) (Za rfl rfl (Zd rfl) (Zk rfl rfl ?_))
  refine (Yy f Yl el30 sz3 rfl rfl rfl om fun bq aI g aJ => ?_)
  have b1 := Zaq hv.2 b g
  refine Za rfl rfl (Yk aJ agg3 rfl rfl) (Za rfl rfl (Ze rfl) (Zf (Zb (bi _ _ ?_))))
  refine Zg fun b2 br => ?_
  refine Zc (Za rfl rfl (Zd rfl) (Za rfl rfl (Xv rfl rfl) (Zf (Zb (br _ _ ?_)))))
  refine Zx rfl (fun n => ?_) (fun n => ?_)
  ·have aK := n
   have n := Yo n
   refine Zc (Za rfl rfl (Zd rfl) (Zk rfl rfl ?_))
   refine Zr (cs := ics) (parts := [(0, .const (Go.Value.int Go.IntKind.i64 (-1)))]) (0 : Int) [(-1)] el30 sz3 zr3 Yl (by decide) rfl rfl rfl (by decide) (by decide) rfl fun bs b3 ah aZ ai => ?_
   have bu := ai.size
   have E := E.trans ai
   obtain ⟨a0, a1, rfl, a2, aL⟩ := ah.opn
   refine Zk rfl rfl ?_
   have bv := q.ch0 ai
   refine Yj (cs := ics) el30 sz3 by3 zr3 rfl (by decide) Xz bv ah.ls rfl rfl (by have aM := Zhi (C := cl) (N := aN) (s := s.toNat) (k := k); simp only [List.length_singleton]; omega) (by have aM := Zhi (C := cl) (N := aN) (s := s.toNat) (k := k); simp only [List.length_singleton]; omega) a om fun bw bz aj ak a3 av => ?_
   have bA := av.size
   have E := E.step av (fun i hi => .inl (by have al := a _ hi; omega))
   obtain ⟨I, J, rfl, a4, aO⟩ := aj.opn
   refine Za rfl rfl (Ze rfl) (Zf (Yc (Zb (aY _ _ (Zc (Za rfl rfl (Zd rfl) (Za rfl rfl (Yq om rfl rfl) (Za rfl rfl (Ze rfl) ?_))))))))
   refine Zf ?_
   have U : Ol ics 3 1 bz (.slice I ((keyP cl aN s.toNat k ++ [(-1)])).length J) (keyP cl aN s.toNat (k + 1)) := by
    have hx := aj
    first | exact hx.eq (Ztd b g om) | exact hx.eq (Zti b g om K)
   have bB := (z.ch0 ai).ch av (fun i hi => by have al := a _ hi; omega)
   have bC := (p.ch0 ai).ch av (fun hm => by have al := a _ hm; have bD := hikv _ hm; omega)
   exact Zb (Exists.intro ((k + 1), (.slice I ((keyP cl aN s.toNat k ++ [(-1)])).length J)) ⟨⟨E, om, om, bB, bC, U, (Lo.down ak om)⟩, sC4 rfl rfl rfl rfl (sC2 rfl rfl (Sub.nil _)), (by first | omega | (dsimp only; omega))⟩)
  have aK := n
  have n := Yp n
  refine Zc (Za rfl rfl (Zd rfl) (Za rfl rfl (Zd rfl) (Za rfl rfl (Zd rfl) (Zk rfl rfl ?_))))
  refine (Yy (j := aI.toNat) z Yl el30 sz3 rfl rfl om om fun bF V K aP => ?_)
  refine Za rfl rfl (Yk aP agg3 rfl rfl) (Zk rfl rfl ?_)
  refine Zr (cs := ics) (parts := [(0, .tmp 36)]) (0 : Int) [V] el30 sz3 zr3 Yl (by decide) rfl rfl rfl (by decide) (by decide) rfl fun bG b4 am a5 an => ?_
  have bH := an.size
  have E := E.trans an
  obtain ⟨a6, a7, rfl, a8, aQ⟩ := am.opn
  refine Zk rfl rfl ?_
  have bI := q.ch0 an
  refine Yj (cs := ics) el30 sz3 by3 zr3 rfl (by decide) Xz bI am.ls rfl rfl (by have aM := Zhi (C := cl) (N := aN) (s := s.toNat) (k := k); simp only [List.length_singleton]; omega) (by have aM := Zhi (C := cl) (N := aN) (s := s.toNat) (k := k); simp only [List.length_singleton]; omega) a om fun bJ bK ao ap a9 aw => ?_
  have bL := aw.size
  have E := E.step aw (fun i hi => .inl (by have al := a _ hi; omega))
  obtain ⟨L, M, rfl, ba, aR⟩ := ao.opn
  refine Za rfl rfl (Ze rfl) (Zf (Yc (Zb (aY _ _ (Zc (Za rfl rfl (Zd rfl) (Za rfl rfl (Yq om rfl rfl) (Za rfl rfl (Ze rfl) ?_))))))))
  refine Zf ?_
  have X : Ol ics 3 1 bK (.slice L ((keyP cl aN s.toNat k ++ [V])).length M) (keyP cl aN s.toNat (k + 1)) := by
   have hx := ao
   first | exact hx.eq (Ztd b g om) | exact hx.eq (Zti b g om K)
  have bM := (z.ch0 an).ch aw (fun i hi => by have al := a _ hi; omega)
  have bN := (p.ch0 an).ch aw (fun hm => by have al := a _ hm; have bD := hikv _ hm; omega)
  exact Zb (Exists.intro ((k + 1), (.slice L ((keyP cl aN s.toNat k ++ [V])).length M)) ⟨⟨E, om, om, bM, bN, X, (Lo.down ap om)⟩, sC4 rfl rfl rfl rfl (sC2 rfl rfl (Sub.nil _)), (by first | omega | (dsimp only; omega))⟩)
 have aF := m
 have m := Yp m
 refine Xk (Ya (Ya (Xd ?_)))
 refine Zb (H6 _ _ ?_)
 refine Zg fun b5 bO => ?_
 refine Zc (Za rfl rfl (Zd rfl) (Za rfl rfl (Ze rfl) (Zf (Zb (bO _ _ ?_)))))
 refine Zs ?_
 have aq : Ol ics 3 1 aD (.slice Akv (keyP cl aN s.toNat k).length Ckv) (keyC cl (aN.getD s.toNat []) (cl.getD s.toNat 0)) := by
  have hx := q
  exact hx.eq (Zru aV om)
 exact Zi [_] ⟨rfl, trivial⟩ ⟨aq, Lo.down a om, E⟩

/-- spec.l2Cmp -/
theorem Zgr {w : World} {LL_a G : Nat} {t : Value} {a : List Int} (q : Ls ics 1 w LL_a G t a) {LL_b H : Nat} {u : Value} {b : List Int} (r : Ls ics 1 w LL_b H u b) :
 Ctr Try.prog 95 #[t, u] w (fun v w' => v = .int .i64 (cmpL a b) ∧ Ch [] w w') := by
 obtain ⟨x, y, z⟩ := q.val
 subst z
 have ac := q.len
 have q := q.here (by decide)
 obtain ⟨A, B, C⟩ := r.val
 subst C
 have ad := r.len
 have r := r.here (by decide)
 have E := Ch.refl [] w
 refine Yh (N := 46) (vs0 := [(.slice x a.length y), (.slice A b.length B)]) Try.func95 rfl rfl rfl ?_
 refine Zg fun K1 H1 => ?_
 refine Zc (Za rfl rfl (Ze rfl) (Zf (Zb (H1 _ _ ?_))))
 refine Zg fun K2 H2 => ?_
 refine Zg fun K3 H3 => ?_
 refine Zc (Za rfl rfl (Ze rfl) (Zf (Zb (H3 _ _ ?_))))
 refine Yf ?_
 refine Xo (σ := Nat) (fun (k : Nat) => [(0, (.slice x a.length y)), (1, (.slice A b.length B)), (5, (.int .i64 ((k : Nat) : Int)))]) (fun (k : Nat) wx => Ch [] w wx ∧ w.heap.size ≤ wx.heap.size ∧ (k ≤ a.length) ∧ (k ≤ b.length) ∧ (a.take k = b.take k)) (fun (k : Nat) => a.length - k) 0 (sC2 rfl rfl (sC1 rfl (Sub.nil _))) ⟨E, (Nat.le_refl _), om, om, rfl⟩ ?_
 rintro k R4 ⟨E, ae, aL, af, n⟩
 have s := E
 have T := s.size
 refine Zg fun K5 H5 => ?_
 refine Zg fun K6 H6 => ?_
 refine Zc (Za rfl rfl (Zd rfl) (Za rfl rfl (Zd rfl) (Za rfl rfl (Xm (by rw [el30]; rfl) rfl) (Za rfl rfl (Xv rfl rfl) (Za rfl rfl (Zd rfl) ?_)))))
 refine Ym (d := 10) rfl (fun o => ?_) (fun o => ?_)
 ·have ag := o
  have o := Yo o
  refine Za rfl rfl (Zd rfl) (Za rfl rfl (Zd rfl) (Za rfl rfl (Xm (by rw [el30]; rfl) rfl) (Za rfl rfl (Xv rfl rfl) (Za rfl rfl (Zw rfl rfl) (Zf (Zb (H6 _ _ ?_)))))))
  refine Zx rfl (fun p => ?_) (fun p => ?_)
  ·have ah := p
   have p := Yo p
   refine Zu ?_
   refine Zb (H5 _ _ ?_)
   refine Zg fun K9 H9 => ?_
   refine Yf ?_
   refine Zg fun aM U => ?_
   refine Zg fun aN ai => ?_
   refine Yx [] 9 mixed rfl fun aO D => ?_
   have aj := D.size
   have E := E.trans D
   refine dV 0 rfl rfl rfl (fun _ => Zd rfl) (dV 1 rfl rfl rfl (fun _ => Zd rfl) ?_)
   have V := (q.ch0 s).ch0 D
   refine dT 2 rfl rfl rfl (Ql V Yl el30 sz3 rfl rfl rfl om fun ak al c I => ?_)
   refine dT 3 rfl rfl rfl (Qo I (fun i hi => absurd hi List.not_mem_nil) agg3 rfl rfl ?_)
   refine dV 4 rfl rfl rfl (fun _ => Zd rfl) (dV 5 rfl rfl rfl (fun _ => Zd rfl) ?_)
   have X := (r.ch0 s).ch0 D
   refine dT 6 rfl rfl rfl (Ql X Yl el30 sz3 rfl rfl rfl om fun am an e J => ?_)
   refine dT 7 rfl rfl rfl (Qo J (fun i hi => absurd hi List.not_mem_nil) agg3 rfl rfl ?_)
   refine dV 8 rfl rfl rfl (fun _ => Xv rfl rfl) ?_
   refine Yb (by kernel_rfl) ?_
   refine Zb (ai _ _ ?_)
   refine Zx rfl (fun f => ?_) (fun f => ?_)
   ·have K := f
    have f := Yo f
    refine Zg fun aP ao => ?_
    refine Zc (Za rfl rfl (Ze rfl) (Zf (Zb (ao _ _ ?_))))
    refine Zs (Zm (Yi (Zm (Zm (Yi (Zm ?_))))))
    clear H2 H9 U
    exact Zi [_] ⟨rfl, trivial⟩ ⟨congrArg (Value.int .i64) (by first | exact Zdn n c e f | exact Zdm n l m g | (have hc := Zcf n om om om; rw [hc]; first | (rw [if_pos om]; done) | (rw [if_neg om, if_pos om]; done) | (rw [if_neg om, if_neg om]; done))), E⟩
   have K := f
   have f := Yp f
   refine Zu ?_
   refine Zb (U _ _ ?_)
   refine Zg fun aQ ap => ?_
   refine Yx [] 9 mixed rfl fun aR F => ?_
   have aq := F.size
   have E := E.trans F
   refine dV 0 rfl rfl rfl (fun _ => Zd rfl) (dV 1 rfl rfl rfl (fun _ => Zd rfl) ?_)
   have au := V.ch0 F
   refine dT 2 rfl rfl rfl (Ql au Yl el30 sz3 rfl rfl rfl om fun av aw l L => ?_)
   refine dT 3 rfl rfl rfl (Qo L (fun i hi => absurd hi List.not_mem_nil) agg3 rfl rfl ?_)
   refine dV 4 rfl rfl rfl (fun _ => Zd rfl) (dV 5 rfl rfl rfl (fun _ => Zd rfl) ?_)
   have ax := X.ch0 F
   refine dT 6 rfl rfl rfl (Ql ax Yl el30 sz3 rfl rfl rfl om fun ay az m M => ?_)
   refine dT 7 rfl rfl rfl (Qo M (fun i hi => absurd hi List.not_mem_nil) agg3 rfl rfl ?_)
   refine dV 8 rfl rfl rfl (fun _ => Zec rfl rfl) ?_
   refine Yb (by kernel_rfl) ?_
   refine Zb (ap _ _ ?_)
   refine Zx rfl (fun g => ?_) (fun g => ?_)
   ·have O := g
    have g := Yo g
    refine Zg fun aS aA => ?_
    refine Zc (Za rfl rfl (Ze rfl) (Zf (Zb (aA _ _ ?_))))
    refine Zs (Yi (Zm (Zm (Yi (Zm ?_)))))
    clear H2 H9
    exact Zi [_] ⟨rfl, trivial⟩ ⟨congrArg (Value.int .i64) (by first | exact Zdn n c e f | exact Zdm n l m g | (have hc := Zcf n om om om; rw [hc]; first | (rw [if_pos om]; done) | (rw [if_neg om, if_pos om]; done) | (rw [if_neg om, if_neg om]; done))), E⟩
   have O := g
   have g := Yp g
   refine Zu ?_
   refine Yc (Zb (H9 _ _ (Zc (Za rfl rfl (Zd rfl) (Za rfl rfl (Yq om rfl rfl) (Za rfl rfl (Ze rfl) (Zf ?_)))))))
   exact Zb (Exists.intro (k + 1) ⟨⟨E, om, om, om, (Zgo n c e (by have aT := Qj c l; have aU := Qj e m; omega))⟩, sC2 rfl rfl (sC1 rfl (Sub.nil _)), (by first | omega | (dsimp only; omega))⟩)
  have ah := p
  have p := Yp p
  refine Xk (Ya (Ya (Xd ?_)))
  refine Zb (H2 _ _ ?_)
  refine Zg fun aV Y => ?_
  refine Zg fun aW aB => ?_
  refine Zc (Za rfl rfl (Zd rfl) (Za rfl rfl (Xm (by rw [el30]; rfl) rfl) (Za rfl rfl (Zd rfl) (Za rfl rfl (Xm (by rw [el30]; rfl) rfl) (Za rfl rfl (Xv rfl rfl) (Zf (Zb (aB _ _ ?_))))))))
  refine Zx rfl (fun h => ?_) (fun h => ?_)
  ·have P := h
   have h := Yo h
   refine Zg fun aX aC => ?_
   refine Zc (Za rfl rfl (Ze rfl) (Zf (Zb (aC _ _ ?_))))
   refine Zs (Zm ?_)
   clear H5 Y
   exact Zi [_] ⟨rfl, trivial⟩ ⟨congrArg (Value.int .i64) (by first | exact Zdn n c e f | exact Zdm n l m g | (have hc := Zcf n om om om; rw [hc]; first | (rw [if_pos om]; done) | (rw [if_neg om, if_pos om]; done) | (rw [if_neg om, if_neg om]; done))), E⟩
  have P := h
  have h := Yp h
  refine Zu ?_
  refine Zb (Y _ _ ?_)
  refine Zg fun aY Z => ?_
  refine Zg fun aZ aD => ?_
  refine Zc (Za rfl rfl (Zd rfl) (Za rfl rfl (Xm (by rw [el30]; rfl) rfl) (Za rfl rfl (Zd rfl) (Za rfl rfl (Xm (by rw [el30]; rfl) rfl) (Za rfl rfl (Zec rfl rfl) (Zf (Zb (aD _ _ ?_))))))))
  refine Zx rfl (fun j => ?_) (fun j => ?_)
  ·have Q := j
   have j := Yo j
   refine Zg fun a0 aE => ?_
   refine Zc (Za rfl rfl (Ze rfl) (Zf (Zb (aE _ _ ?_))))
   refine Zs (Zm ?_)
   clear H5 Z
   exact Zi [_] ⟨rfl, trivial⟩ ⟨congrArg (Value.int .i64) (by first | exact Zdn n c e f | exact Zdm n l m g | (have hc := Zcf n om om om; rw [hc]; first | (rw [if_pos om]; done) | (rw [if_neg om, if_pos om]; done) | (rw [if_neg om, if_neg om]; done))), E⟩
  have Q := j
  have j := Yp j
  refine Zu ?_
  refine Zb (Z _ _ ?_)
  refine Zg fun a1 aF => ?_
  refine Zc (Za rfl rfl (Ze rfl) (Zf (Zb (aF _ _ ?_))))
  refine Zs ?_
  exact Zi [_] ⟨rfl, trivial⟩ ⟨congrArg (Value.int .i64) (by first | exact Zdn n c e f | exact Zdm n l m g | (have hc := Zcf n om om om; rw [hc]; first | (rw [if_pos om]; done) | (rw [if_neg om, if_pos om]; done) | (rw [if_neg om, if_neg om]; done))), E⟩
 have ag := o
 have o := Yp o
 refine Zj rfl rfl (Zj rfl rfl (Zj rfl rfl (Zj rfl rfl (Za rfl rfl (Zv rfl rfl) (Zf (Zb (H6 _ _ ?_)))))))
 refine Xn rfl ?_
 refine Xk (Ya (Ya (Xd ?_)))
 refine Zb (H2 _ _ ?_)
 refine Zg fun a2 aa => ?_
 refine Zg fun a3 aG => ?_
 refine Zc (Za rfl rfl (Zd rfl) (Za rfl rfl (Xm (by rw [el30]; rfl) rfl) (Za rfl rfl (Zd rfl) (Za rfl rfl (Xm (by rw [el30]; rfl) rfl) (Za rfl rfl (Xv rfl rfl) (Zf (Zb (aG _ _ ?_))))))))
 refine Zx rfl (fun h => ?_) (fun h => ?_)
 ·have R := h
  have h := Yo h
  refine Zg fun a4 aH => ?_
  refine Zc (Za rfl rfl (Ze rfl) (Zf (Zb (aH _ _ ?_))))
  refine Zs (Zm ?_)
  clear H5 aa
  exact Zi [_] ⟨rfl, trivial⟩ ⟨congrArg (Value.int .i64) (by first | exact Zdn n c e f | exact Zdm n l m g | (have hc := Zcf n om om om; rw [hc]; first | (rw [if_pos om]; done) | (rw [if_neg om, if_pos om]; done) | (rw [if_neg om, if_neg om]; done))), E⟩
 have R := h
 have h := Yp h
 refine Zu ?_
 refine Zb (aa _ _ ?_)
 refine Zg fun a5 ab => ?_
 refine Zg fun a6 aI => ?_
 refine Zc (Za rfl rfl (Zd rfl) (Za rfl rfl (Xm (by rw [el30]; rfl) rfl) (Za rfl rfl (Zd rfl) (Za rfl rfl (Xm (by rw [el30]; rfl) rfl) (Za rfl rfl (Zec rfl rfl) (Zf (Zb (aI _ _ ?_))))))))
 refine Zx rfl (fun j => ?_) (fun j => ?_)
 ·have S := j
  have j := Yo j
  refine Zg fun a7 aJ => ?_
  refine Zc (Za rfl rfl (Ze rfl) (Zf (Zb (aJ _ _ ?_))))
  refine Zs (Zm ?_)
  clear H5 ab
  exact Zi [_] ⟨rfl, trivial⟩ ⟨congrArg (Value.int .i64) (by first | exact Zdn n c e f | exact Zdm n l m g | (have hc := Zcf n om om om; rw [hc]; first | (rw [if_pos om]; done) | (rw [if_neg om, if_pos om]; done) | (rw [if_neg om, if_neg om]; done))), E⟩
 have S := j
 have j := Yp j
 refine Zu ?_
 refine Zb (ab _ _ ?_)
 refine Zg fun a8 aK => ?_
 refine Zc (Za rfl rfl (Ze rfl) (Zf (Zb (aK _ _ ?_))))
 refine Zs ?_
 exact Zi [_] ⟨rfl, trivial⟩ ⟨congrArg (Value.int .i64) (by first | exact Zdn n c e f | exact Zdm n l m g | (have hc := Zcf n om om om; rw [hc]; first | (rw [if_pos om]; done) | (rw [if_neg om, if_pos om]; done) | (rw [if_neg om, if_neg om]; done))), E⟩

end Go.Proofs.Ytgnlfnkgkcmdjaa
