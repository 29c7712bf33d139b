/- Walks of functions that FnPositions reaches: what each returns, and that it leaves the memory that was there alone. -/
import Derived.Test.YtgnlfnkgkcmdjaaLibA
import Derived.Test.YtgnlfnkgkcmdjaaLibB
import Derived.Test.YtgnlfnkgkcmdjaaWPositions
import Derived.Test.YtgnlfnkgkcmdjaaWPositionsb
import Derived.Test.YtgnlfnkgkcmdjaaProg
namespace Go.Proofs.Ytgnlfnkgkcmdjaa
open Go.KLib Go.Shelf
set_option maxHeartbeats 1000000
set_option maxRecDepth 20000
set_option linter.unusedVariables false
set_option linter.unusedSimpArgs false
namespace TPositionsc
theorem agg129 : Yv Try.prog 129 = some false := by kernel_rfl
theorem agg24 : Yv Try.prog 24 = some false := by kernel_rfl
theorem agg3 : Yv Try.prog 3 = some false := by kernel_rfl
theorem agg30 : Yv Try.prog 30 = some false := by kernel_rfl
theorem agg4 : Yv Try.prog 4 = some false := by kernel_rfl
theorem agg42 : Yv Try.prog 42 = some false := by kernel_rfl
theorem agg44 : Yv Try.prog 44 = some true := by kernel_rfl
theorem agg48 : Yv Try.prog 48 = some true := by kernel_rfl
theorem agg84 : Yv Try.prog 84 = some true := by kernel_rfl
theorem agg88 : Yv Try.prog 88 = some false := by kernel_rfl
theorem by24 : Zar Try.prog 24 = some 24 := by kernel_rfl
theorem by3 : Zar Try.prog 3 = some 8 := by kernel_rfl
theorem by4 : Zar Try.prog 4 = some 1 := by kernel_rfl
theorem by84 : Zar Try.prog 84 = some 32 := by kernel_rfl
theorem el129 : elB Try.prog 129 = some 88 := by kernel_rfl
theorem el142 : elB Try.prog 142 = some 24 := by kernel_rfl
theorem el22 : elB Try.prog 22 = some 5 := by kernel_rfl
theorem el24 : elB Try.prog 24 = some 4 := by kernel_rfl
theorem el30 : elB Try.prog 30 = some 3 := by kernel_rfl
theorem el42 : elB Try.prog 42 = some 84 := by kernel_rfl
theorem fa131_0 : faB Try.prog 131 0 = some 0 := by kernel_rfl
theorem fa131_1 : faB Try.prog 131 1 = some 4 := by kernel_rfl
theorem fa44_0 : faB Try.prog 44 0 = some 0 := by kernel_rfl
theorem fa48_0 : faB Try.prog 48 0 = some 0 := by kernel_rfl
theorem fa48_3 : faB Try.prog 48 3 = some 3 := by kernel_rfl
theorem fa84_0 : faB Try.prog 84 0 = some 0 := by kernel_rfl
theorem fa84_1 : faB Try.prog 84 1 = some 1 := by kernel_rfl
theorem fa84_2 : faB Try.prog 84 2 = some 2 := by kernel_rfl
theorem fa84_3 : faB Try.prog 84 3 = some 3 := by kernel_rfl
theorem fk106 : fnB Try.prog 106 = true := by kernel_rfl
theorem fk111 : fnB Try.prog 111 = true := by kernel_rfl
theorem fk112 : fnB Try.prog 112 = true := by kernel_rfl
theorem fk113 : fnB Try.prog 113 = true := by kernel_rfl
theorem fk114 : fnB Try.prog 114 = true := by kernel_rfl
theorem fk129 : fnB Try.prog 129 = true := by kernel_rfl
theorem fk130 : fnB Try.prog 130 = true := by kernel_rfl
theorem fk131 : fnB Try.prog 131 = true := by kernel_rfl
theorem fk132 : fnB Try.prog 132 = true := by kernel_rfl
theorem fk133 : fnB Try.prog 133 = true := by kernel_rfl
theorem fk31 : fnB Try.prog 31 = true := by kernel_rfl
theorem fk37 : fnB Try.prog 37 = true := by kernel_rfl
theorem fk49 : fnB Try.prog 49 = true := by kernel_rfl
theorem fk66 : fnB Try.prog 66 = true := by kernel_rfl
theorem fk68 : fnB Try.prog 68 = true := by kernel_rfl
theorem fk72 : fnB Try.prog 72 = true := by kernel_rfl
theorem fk73 : fnB Try.prog 73 = true := by kernel_rfl
theorem fk74 : fnB Try.prog 74 = true := by kernel_rfl
theorem fk75 : fnB Try.prog 75 = true := by kernel_rfl
theorem fk76 : fnB Try.prog 76 = true := by kernel_rfl
theorem fk77 : fnB Try.prog 77 = true := by kernel_rfl
theorem fk79 : fnB Try.prog 79 = true := by kernel_rfl
theorem fk80 : fnB Try.prog 80 = true := by kernel_rfl
theorem fk81 : fnB Try.prog 81 = true := by kernel_rfl
theorem mixed : Try.prog.follows .mixedOrders = true := by kernel_rfl
theorem pl44 : Xz Try.prog 44 = some [(0, 1)] := by kernel_rfl
theorem pl84 : Xz Try.prog 84 = some [(0, 1), (1, 1), (2, 1), (3, 1)] := by kernel_rfl
theorem sz24 : Yg Try.prog 24 = some 1 := by kernel_rfl
theorem sz3 : Yg Try.prog 3 = some 1 := by kernel_rfl
theorem sz4 : Yg Try.prog 4 = some 1 := by kernel_rfl
theorem sz42 : Yg Try.prog 42 = some 1 := by kernel_rfl
theorem sz44 : Yg Try.prog 44 = some 1 := by kernel_rfl
theorem sz48 : Yg Try.prog 48 = some 5 := by kernel_rfl
theorem sz84 : Yg Try.prog 84 = some 4 := by kernel_rfl
theorem sz88 : Yg Try.prog 88 = some 1 := by kernel_rfl
theorem zr24 : Xf Try.prog 24 = some (.slice none 0 0) := by kernel_rfl
theorem zr3 : Xf Try.prog 3 = some (.int .i64 0) := by kernel_rfl
theorem zr4 : Xf Try.prog 4 = some (.bool false) := by kernel_rfl
theorem zr44 : Xf Try.prog 44 = some (.agg #[.slice none 0 0]) := by kernel_rfl
theorem zr84 : Xf Try.prog 84 = some (.agg #[.int .i64 0, .int .i64 0, .int .i64 0, .int .i64 0]) := by kernel_rfl
end TPositionsc
open TPositionsc

/-- impl.CountRuns -/
theorem Zbd {w : World} {LL_pL aT : Nat} {af : Value} {pL : List Int} (z : Ls ics 1 w LL_pL aT af pL) (pfirst : Int) (plast : Int) {LL_pF aU : Nat} {ag : Value} {pF : List Int} (A : Ls ics 1 w LL_pF aU ag pF) (pnull : Bool) {LL_wd aV : Nat} {ah : Value} {wd : List Int} (B : Ls ics 1 w LL_wd aV ah wd) :
 Ctr Try.prog 35 #[(.agg #[af, (.int .i64 pfirst), (.int .i64 plast), ag, (.bool pnull)]), ah] w (fun v w' => v = .int .i64 (crR pL pfirst plast pF pnull wd) ∧ Ch [] w w') := by
 obtain ⟨f, h, aw⟩ := z.val
 subst aw
 have bT := z.len
 have z := z.here (by decide)
 obtain ⟨l, m, ax⟩ := A.val
 subst ax
 have bU := A.len
 have A := A.here (by decide)
 obtain ⟨p, r, ay⟩ := B.val
 subst ay
 have bV := B.len
 have B := B.here (by decide)
 have E := Ch.refl [] w
 refine Ye (N := 95) (vs0 := [(.agg #[(.slice f pL.length h), (.int .i64 pfirst), (.int .i64 plast), (.slice l pF.length m), (.bool pnull)]), (.slice p wd.length r)]) Try.func35 rfl rfl rfl ?_
 refine Zg fun K1 H1 => ?_
 refine Zc (Zm rfl rfl ?_)
 refine Qw rfl fun ae W2 aW C2 dD => ?_
 have dE := C2.size
 have E := E.trans C2
 have dF := aW.lt
 replace aW : Blk W2 ae 48 [(.slice f pL.length h), (.int .i64 pfirst), (.int .i64 plast), (.slice l pF.length m), (.bool pnull)] := aW
 refine Za rfl rfl (Zf rfl) (Ze (Zb (H1 _ _ ?_)))
 refine Zg fun K3 H3 => ?_
 refine Zg fun K4 H4 => ?_
 refine Zc (Za rfl rfl (Zy aW.at_ agg48 sz48 rfl) (Zm rfl rfl ?_))
 have F5 := z.ch0 C2
 have F6 := A.ch0 C2
 refine Step.call (Zl (xs := [.tmp 16]) fk37 rfl) (Xu F5 _ _ F6 _ ) fun ci W7 a8 => ?_
 obtain ⟨rfl, C7⟩ := a8
 have dG := C7.size
 have E := E.trans C7
 refine Za rfl rfl (Zbh rfl) (Za rfl rfl (Zd rfl) ?_)
 refine Yp (d := 19) rfl (fun c => ?_) (fun c => ?_)
 ·have cj := c
  have c := bf_t (Qu c)
  first | have aX := c.1 | skip
  first | have ck := o.2 | skip
  refine Zj rfl rfl (Zj rfl rfl (Zj rfl rfl (Za rfl rfl (Ya rfl rfl) (Ze (Zb (H4 _ _ ?_))))))
  refine Qf rfl ?_
  refine Zg fun K9 H9 => ?_
  refine Zc (Za rfl rfl (Zf rfl) (Ze (Zb (H9 _ _ ?_))))
  refine Zq (Zo ?_)
  exact Zi [_] ⟨rfl, trivial⟩ ⟨congrArg (Value.int .i64) (by first | exact Znz (fun e => c e.1) | exact Znz (fun e => o e.2) | exact Zto c o az om om), E⟩
 have cj := c
 have c := bt_t (Qv c)
 first | have aX := c.1 | skip
 first | have ck := o.2 | skip
 refine Za rfl rfl (Zd rfl) (Zm rfl rfl ?_)
 have bW := (B.ch0 C2).ch0 C7
 refine Step.call (Zl (xs := [.tmp 20]) fk76 rfl) (Zde bW ) fun cl cm a9 => ?_
 obtain ⟨rfl, aQ⟩ := a9
 have cn := aQ.size
 have E := E.trans aQ
 refine Za rfl rfl (Zbh rfl) (Za rfl rfl (Yb rfl rfl) (Ze (Zb (H4 _ _ ?_))))
 refine Zp rfl (fun o => ?_) (fun o => ?_)
 ·have ba := o
  have o := bf_t (Qu o)
  refine Zg fun dH co => ?_
  refine Zc (Za rfl rfl (Zf rfl) (Ze (Zb (co _ _ ?_))))
  refine Zq (Zo ?_)
  exact Zi [_] ⟨rfl, trivial⟩ ⟨congrArg (Value.int .i64) (by first | exact Znz (fun e => c e.1) | exact Znz (fun e => o e.2) | exact Zto c o az om om), E⟩
 have ba := o
 have o := bt_t (Qv o)
 refine Zu ?_
 refine Zb (H3 _ _ ?_)
 refine Zg fun dI cp => ?_
 refine Zc (Za rfl rfl (Zh fa48_0 rfl) ?_)
 have bX := (aW.ch0 C7).ch0 aQ
 refine Za rfl rfl (Zk bX.at_ agg30 rfl rfl) (Za rfl rfl (Xc (by rw [el30]; rfl) rfl) (Za rfl rfl (Yo om rfl rfl) (Za rfl rfl (Zf rfl) (Ze (Zb (cp _ _ ?_))))))
 refine Zg fun dJ cq => ?_
 refine Zc (Za rfl rfl (Zd rfl) (Zm rfl rfl ?_))
 refine Zkr (cs := ics) (n := (pL.length + 1)) (0 : Int) el30 sz3 by3 zr3 Xg (by decide) rfl rfl om om fun cr dL aA y aR => ?_
 have ct := aR.size
 have E := E.trans aR
 obtain ⟨ai, aj, rfl, bY, aB⟩ := aA.opn
 refine Za rfl rfl (Zf rfl) (Ze (Zb (cq _ _ ?_)))
 refine Zg fun dM cu => ?_
 refine Zc (Za rfl rfl (Zd rfl) (Zm rfl rfl ?_))
 refine Qj (j := 0) aA el30 sz3 rfl rfl rfl (by (first | omega | (simp only [List.length_replicate, List.length_set, Zht, Zfm, Zhm]; omega))) fun cv cw bZ bb => ?_
 refine Zm rfl rfl ?_
 refine Qk (j := 0) 1 aA bb Xg sz3 rfl rfl rfl rfl (by (first | omega | (simp only [List.length_replicate, List.length_set, Zht, Zfm, Zhm]; omega))) fun b0 aY aS => ?_
 have cx := aS.size
 have E := E.step aS (fun i hi => .inl (by have ac := y _ hi; omega))
 refine Ze (Zb (cu _ _ ?_))
 refine Zg fun dN cy => ?_
 refine Zg fun dP cz => ?_
 refine Zc (Za rfl rfl (Zd rfl) (Za rfl rfl (Xc (by rw [el30]; rfl) rfl) (Za rfl rfl (Zd rfl) (Ze (Zb (cz _ _ ?_))))))
 refine Zx ?_
 have aC : Ol ics 3 1 b0 (.slice ai ((List.replicate (pL.length + 1) (0 : Int))).length aj) (crN pL pfirst pF wd 0) := by
  have hx := aY
  exact hx
 have cA := (bX.ch0 aR).ch aS (fun hm => by have ac := y _ hm; have b1 := aB _ hm; omega)
 have cB := (((F5.ch0 C7).ch0 aQ).ch0 aR).ch aS (fun i hi => by have ac := y _ hi; omega)
 have cC := (((F6.ch0 C7).ch0 aQ).ch0 aR).ch aS (fun i hi => by have ac := y _ hi; omega)
 have cD := ((bW.ch0 aQ).ch0 aR).ch aS (fun i hi => by have ac := y _ hi; omega)
 refine Xi (σ := Nat × Value) (fun ⟨i, nv⟩ => [(2, (.pointer (some ⟨ae, 0, none⟩))), (4, (.int .i64 0)), (5, (.int .i64 (((pL.length : Nat) : Int) + 1))), (6, nv), (32, (.slice p wd.length r)), (33, (.int .i64 ((wd.length : Nat) : Int))), (34, (.int .i64 ((i : Nat) : Int)))]) (fun ⟨i, nv⟩ wx => Ch [] w wx ∧ b0.heap.size ≤ wx.heap.size ∧ (i ≤ wd.length) ∧ Blk wx ae 48 [(.slice f pL.length h), (.int .i64 pfirst), (.int .i64 plast), (.slice l pF.length m), (.bool pnull)] ∧ Ls ics 1 wx LL_pL w.heap.size (.slice f pL.length h) pL ∧ Ls ics 1 wx LL_pF w.heap.size (.slice l pF.length m) pF ∧ Ls ics 1 wx LL_wd w.heap.size (.slice p wd.length r) wd ∧ Ol ics 3 1 wx nv (crN pL pfirst pF wd i) ∧ Lo cm.heap.size nv) (fun ⟨i, nv⟩ => wd.length - i) (0, (.slice ai ((List.replicate (pL.length + 1) (0 : Int))).length aj)) (sC4 rfl rfl rfl rfl (sC2 rfl rfl (sC1 rfl (Sub.nil _)))) ⟨E, (Nat.le_refl _), om, cA, cB, cC, cD, aC, y⟩ ?_
 rintro ⟨i, nv⟩ cE ⟨E, cF, hi, R, ak, al, am, S, aD⟩
 have bc := E
 have b2 := bc.size
 have be := R.lt
 obtain ⟨Anv, Cnv, rfl, lnv, hinv⟩ := S.opn
 have nn := Zht pL pfirst pF wd i
 have aX := c.1
 refine Zg fun dQ cG => ?_
 refine Zc (Za rfl rfl (Xs rfl rfl) (Ze (Zb (cG _ _ ?_))))
 refine Zg fun dR b3 => ?_
 refine Zp rfl (fun D => ?_) (fun D => ?_)
 ·have bf := D
  have D := Yi D
  refine Zu ?_
  refine Zb (b3 _ _ ?_)
  refine Zg fun dU cH => ?_
  refine Zx ?_
  refine Zg fun dW cI => ?_
  refine Zc (Zm rfl rfl ?_)
  refine (Yw am Xg el30 sz3 rfl rfl rfl om fun cJ aZ L bg => ?_)
  refine Za rfl rfl (Yr bg agg3 rfl rfl) (Za rfl rfl (Zf rfl) (Ze (Zb (cI _ _ ?_))))
  refine Zg fun dX cK => ?_
  refine Zc (Za rfl rfl (Zd rfl) (Zm rfl rfl ?_))
  refine Zkr (cs := ics) (n := (pL.length + 1)) (0 : Int) el30 sz3 by3 zr3 Xg (by decide) rfl rfl om om fun cL b4 a0 t aE => ?_
  have cM := aE.size
  have E := E.trans aE
  obtain ⟨a, b, rfl, b5, T⟩ := a0.opn
  refine Za rfl rfl (Zf rfl) (Ze (Zb (cK _ _ ?_)))
  refine Zg fun dY cN => ?_
  refine Zg fun dZ cO => ?_
  refine Zc (Za rfl rfl (Zd rfl) (Za rfl rfl (Xc (by rw [el30]; rfl) rfl) (Za rfl rfl (Zd rfl) (Ze (Zb (cO _ _ ?_))))))
  refine Zx ?_
  have aF : Ol ics 3 1 b4 (.slice a ((List.replicate (pL.length + 1) (0 : Int))).length b) (crS pL pfirst pF wd i 0) := by
   have hx := a0
   exact hx
  have cP := R.ch0 aE
  have cQ := ak.ch0 aE
  have cR := al.ch0 aE
  have cS := am.ch0 aE
  have cT := S.ch0 aE
  refine Xi (σ := Nat) (fun (s : Nat) => [(2, (.pointer (some ⟨ae, 0, none⟩))), (4, (.int .i64 0)), (5, (.int .i64 (((pL.length : Nat) : Int) + 1))), (6, (.slice Anv (crN pL pfirst pF wd i).length Cnv)), (8, (.int .i64 aZ)), (9, (.slice a ((List.replicate (pL.length + 1) (0 : Int))).length b)), (32, (.slice p wd.length r)), (33, (.int .i64 ((wd.length : Nat) : Int))), (34, (.int .i64 ((i : Nat) : Int))), (35, (.bool (decide (((i : Nat) : Int) < ((wd.length : Nat) : Int))))), (40, (.slice Anv (crN pL pfirst pF wd i).length Cnv)), (41, (.int .i64 (((crN pL pfirst pF wd i).length : Nat) : Int))), (42, (.int .i64 ((s : Nat) : Int)))]) (fun (s : Nat) wx => Ch [] w wx ∧ b4.heap.size ≤ wx.heap.size ∧ (s ≤ pL.length + 1) ∧ Blk wx ae 48 [(.slice f pL.length h), (.int .i64 pfirst), (.int .i64 plast), (.slice l pF.length m), (.bool pnull)] ∧ Ls ics 1 wx LL_pL w.heap.size (.slice f pL.length h) pL ∧ Ls ics 1 wx LL_pF w.heap.size (.slice l pF.length m) pF ∧ Ls ics 1 wx LL_wd w.heap.size (.slice p wd.length r) wd ∧ Ol ics 3 1 wx (.slice Anv (crN pL pfirst pF wd i).length Cnv) (crN pL pfirst pF wd i) ∧ Ol ics 3 1 wx (.slice a ((List.replicate (pL.length + 1) (0 : Int))).length b) (crS pL pfirst pF wd i s)) (fun (s : Nat) => pL.length + 1 - s) 0 (sC8 rfl rfl rfl rfl rfl rfl rfl rfl (sC4 rfl rfl rfl rfl (sC1 rfl (Sub.nil _)))) ⟨E, (Nat.le_refl _), om, cP, cQ, cR, cS, cT, aF⟩ ?_
  rintro s bh ⟨E, cU, hs, U, an, ao, ap, aq, au⟩
  have bi := E
  have b6 := bi.size
  have bj := U.lt
  have ns := Zfm pL pfirst pF wd i s
  refine Zg fun d0 cV => ?_
  refine Zc (Za rfl rfl (Xs rfl rfl) (Ze (Zb (cV _ _ ?_))))
  refine Zg fun d1 cW => ?_
  refine Zp rfl (fun F => ?_) (fun F => ?_)
  ·have bk := F
   have F := Yi F
   refine Zu ?_
   refine Zb (cW _ _ ?_)
   refine Zg fun d2 b7 => ?_
   refine Zx ?_
   refine Zg fun d3 cX => ?_
   refine Zc (Za rfl rfl (Zd rfl) (Zm rfl rfl ?_))
   refine (Yw aq.ls Xg el30 sz3 rfl rfl rfl om fun cY aG u bm => ?_)
   have d4 := Zjo u
   refine Za rfl rfl (Yr bm agg3 rfl rfl) (Za rfl rfl (Zf rfl) (Za rfl rfl (Zf rfl) (Ze (Zb (cX _ _ ?_)))))
   refine Zg fun d5 cZ => ?_
   refine Zc (Za rfl rfl (Zf rfl) (Ze (Zb (cZ _ _ ?_))))
   refine Zx ?_
   have aH : Ol ics 3 1 bh (.slice a ((List.replicate (pL.length + 1) (0 : Int))).length b) (crK pL pfirst pF wd i s 0) := by
    have hx := au
    exact hx
   refine Xi (σ := Nat) (fun (k : Nat) => [(2, (.pointer (some ⟨ae, 0, none⟩))), (4, (.int .i64 0)), (5, (.int .i64 (((pL.length : Nat) : Int) + 1))), (6, (.slice Anv (crN pL pfirst pF wd i).length Cnv)), (8, (.int .i64 aZ)), (9, (.slice a ((List.replicate (pL.length + 1) (0 : Int))).length b)), (10, (.int .i64 ((s : Nat) : Int))), (11, (.int .i64 aG)), (12, (.int .i64 ((k : Nat) : Int))), (32, (.slice p wd.length r)), (33, (.int .i64 ((wd.length : Nat) : Int))), (34, (.int .i64 ((i : Nat) : Int))), (35, (.bool (decide (((i : Nat) : Int) < ((wd.length : Nat) : Int))))), (40, (.slice Anv (crN pL pfirst pF wd i).length Cnv)), (41, (.int .i64 (((crN pL pfirst pF wd i).length : Nat) : Int))), (42, (.int .i64 ((s : Nat) : Int))), (43, (.bool (decide (((s : Nat) : Int) < (((crN pL pfirst pF wd i).length : Nat) : Int)))))]) (fun (k : Nat) wx => Ch [] w wx ∧ bh.heap.size ≤ wx.heap.size ∧ (k ≤ pL.length + 1) ∧ Blk wx ae 48 [(.slice f pL.length h), (.int .i64 pfirst), (.int .i64 plast), (.slice l pF.length m), (.bool pnull)] ∧ Ls ics 1 wx LL_pL w.heap.size (.slice f pL.length h) pL ∧ Ls ics 1 wx LL_pF w.heap.size (.slice l pF.length m) pF ∧ Ls ics 1 wx LL_wd w.heap.size (.slice p wd.length r) wd ∧ Ol ics 3 1 wx (.slice Anv (crN pL pfirst pF wd i).length Cnv) (crN pL pfirst pF wd i) ∧ Ol ics 3 1 wx (.slice a ((List.replicate (pL.length + 1) (0 : Int))).length b) (crK pL pfirst pF wd i s k)) (fun (k : Nat) => pL.length + 1 - k) 0 (sC8 rfl rfl rfl rfl rfl rfl rfl rfl (sC8 rfl rfl rfl rfl rfl rfl rfl rfl (sC1 rfl (Sub.nil _)))) ⟨E, (Nat.le_refl _), om, U, an, ao, ap, aq, aH⟩ ?_
   rintro k b8 ⟨E, c0, d6, M, V, X, O, P, Q⟩
   have bn := E
   have b9 := bn.size
   have bp := M.lt
   have nk := Zhm pL pfirst pF wd i s k
   refine Zg fun d7 c1 => ?_
   refine Zg fun d8 ca => ?_
   refine Zc (Za rfl rfl (Zd rfl) (Za rfl rfl (Zcp rfl rfl) (Za rfl rfl (Zd rfl) ?_)))
   refine Yp (d := 49) rfl (fun G => ?_) (fun G => ?_)
   ·have bq := G
    have G := Yi G
    refine Za rfl rfl (Zd rfl) (Za rfl rfl (Zd rfl) (Za rfl rfl (Xs rfl rfl) (Za rfl rfl (Ya rfl rfl) (Ze (Zb (ca _ _ ?_))))))
    refine Zp rfl (fun H => ?_) (fun H => ?_)
    ·have br := H
     have H := Yi H
     refine Zu ?_
     refine Zb (c1 _ _ ?_)
     refine Zg fun d9 cb => ?_
     refine Zx ?_
     refine Zg fun ea c2 => ?_
     refine Xb [] 9 mixed rfl fun c3 Y => ?_
     have c4 := Y.size
     have E := E.trans Y
     have bs := M.ch0 Y
     refine dT 0 rfl rfl rfl (Yq bs.at_ (fun i hi => absurd hi List.not_mem_nil) agg48 sz48 rfl ?_)
     refine dV 1 rfl rfl rfl (fun _ => Zd rfl) (dV 2 rfl rfl rfl (fun _ => Zjf om rfl rfl) (dV 3 rfl rfl rfl (fun _ => Zd rfl) (dV 5 rfl rfl rfl (fun _ => Zd rfl) (dO 4 (Zz rfl rfl rfl ?_)))))
     have bu := V.ch0 Y
     have bv := X.ch0 Y
     refine Step.call (Zl (xs := [.tmp 56, .tmp 58, .tmp 59]) fk79 rfl) (Zaq bu _ _ bv _ _ _ c.2.1 c.1) fun c5 cc bw => ?_
     obtain ⟨rfl, I⟩ := bw
     have c6 := I.size
     have E := E.trans I
     have a1 : Ch [] c3 cc := ((Ch.refl _ _).trans I)
     refine ⟨a1, ?_⟩
     refine dV 6 rfl rfl rfl (fun _ => Zgp om rfl rfl) (dV 7 rfl rfl rfl (fun _ => Zeg rfl rfl) (dV 8 rfl rfl rfl (fun _ => Yy rfl rfl) ?_))
     refine Yc (by kernel_rfl) ?_
     refine Zb (c2 _ _ ?_)
     refine Zp rfl (fun x => ?_) (fun x => ?_)
     ·have bx := x
      have x := Yi x
      refine Zc (Za rfl rfl (Zd rfl) (Za rfl rfl (Zd rfl) (Za rfl rfl (Zd rfl) (Za rfl rfl (Zd rfl) (Zm rfl rfl ?_)))))
      have bz := (Q.ch0 Y).ch0 I
      refine (Yw bz.ls Xg el30 sz3 rfl rfl rfl om fun c7 a2 Z bA => ?_)
      have eb := Zty Z
      refine Za rfl rfl (Yr bA agg3 rfl rfl) (Za rfl rfl (Zd rfl) (Za rfl rfl (Yo om rfl rfl) (Za rfl rfl (Zlv rfl rfl) (Zm rfl rfl ?_))))
      refine Qj (j := k) bz el30 sz3 rfl rfl rfl (by (first | omega | (simp only [List.length_replicate, List.length_set, Zht, Zfm, Zhm]; omega))) fun c8 c9 cd bB => ?_
      refine Zm rfl rfl ?_
      refine Qk (j := k) (if (a2 + aG) < 1000000 then (a2 + aG) else 1000000) bz bB Xg sz3 rfl rfl rfl rfl (by (first | omega | (simp only [List.length_replicate, List.length_set, Zht, Zfm, Zhm]; omega))) fun da a3 aI => ?_
      have db := aI.size
      have E := E.step aI (fun i hi => .inl (by have ac := t _ hi; omega))
      refine Ze (Zw (Zb (cb _ _ (Zc (Za rfl rfl (Zd rfl) (Za rfl rfl (Yo om rfl rfl) (Za rfl rfl (Zf rfl) (Ze ?_))))))))
      have aJ : Ol ics 3 1 da (.slice a ((List.replicate (pL.length + 1) (0 : Int))).length b) (crK pL pfirst pF wd i s (k + 1)) := by
       have hx := a3
       first | exact hx.eq (Zvq L u Z om x) | exact hx.eq (Zvk L u x)
      have dc := (bs.ch0 I).ch aI (fun hm => by have ac := t _ hm; have b1 := T _ hm; omega)
      have dd := (bu.ch0 I).ch aI (fun i hi => by have ac := t _ hi; omega)
      have de := (bv.ch0 I).ch aI (fun i hi => by have ac := t _ hi; omega)
      have df := ((O.ch0 Y).ch0 I).ch aI (fun i hi => by have ac := t _ hi; omega)
      have dg := ((P.ch0 Y).ch0 I).ch aI (fun g hg hm => by have ac := t _ hm; have b1 := T _ hm; have ec := aD _ hg; have ed := hinv _ hg; omega)
      exact Zb (Exists.intro (k + 1) ⟨⟨E, om, om, dc, dd, de, df, dg, aJ⟩, sC8 rfl rfl rfl rfl rfl rfl rfl rfl (sC8 rfl rfl rfl rfl rfl rfl rfl rfl (sC1 rfl (Sub.nil _))), (by first | omega | (dsimp only; omega))⟩)
     have bx := x
     have x := Yj x
     refine Zu ?_
     refine Zw (Zb (cb _ _ (Zc (Za rfl rfl (Zd rfl) (Za rfl rfl (Yo om rfl rfl) (Za rfl rfl (Zf rfl) (Ze ?_)))))))
     have dh := (Q.ch0 Y).ch0 I
     have aK : Ol ics 3 1 cc (.slice a ((List.replicate (pL.length + 1) (0 : Int))).length b) (crK pL pfirst pF wd i s (k + 1)) := by
      have hx := dh
      first | exact hx.eq (Zvq L u Z om x) | exact hx.eq (Zvk L u x)
     have di := bs.ch0 I
     have dj := bu.ch0 I
     have dk := bv.ch0 I
     have dl := (O.ch0 Y).ch0 I
     have dm := (P.ch0 Y).ch0 I
     exact Zb (Exists.intro (k + 1) ⟨⟨E, om, om, di, dj, dk, dl, dm, aK⟩, sC8 rfl rfl rfl rfl rfl rfl rfl rfl (sC8 rfl rfl rfl rfl rfl rfl rfl rfl (sC1 rfl (Sub.nil _))), (by first | omega | (dsimp only; omega))⟩)
    have br := H
    have H := Yj H
    refine Xe (Zr (Zr (Yu ?_)))
    refine Zw (Zb (b7 _ _ (Zc (Za rfl rfl (Yo om rfl rfl) (Za rfl rfl (Zd rfl) (Ze ?_))))))
    have aL : Ol ics 3 1 b8 (.slice a ((List.replicate (pL.length + 1) (0 : Int))).length b) (crS pL pfirst pF wd i (s + 1)) := by
     have hx := Q
     first | exact hx.eq (Znr om) | exact hx.eq (Znj u om)
    exact Zb (Exists.intro (s + 1) ⟨⟨E, om, om, M, V, X, O, P, aL⟩, sC8 rfl rfl rfl rfl rfl rfl rfl rfl (sC4 rfl rfl rfl rfl (sC1 rfl (Sub.nil _))), (by first | omega | (dsimp only; omega))⟩)
   have bq := G
   have G := Yj G
   refine Zj rfl rfl (Zj rfl rfl (Zj rfl rfl (Za rfl rfl (Yb rfl rfl) (Ze (Zb (ca _ _ ?_))))))
   refine Zap rfl ?_
   refine Xe (Zr (Zr (Yu ?_)))
   refine Zw (Zb (b7 _ _ (Zc (Za rfl rfl (Yo om rfl rfl) (Za rfl rfl (Zd rfl) (Ze ?_))))))
   have aM : Ol ics 3 1 b8 (.slice a ((List.replicate (pL.length + 1) (0 : Int))).length b) (crS pL pfirst pF wd i (s + 1)) := by
    have hx := Q
    first | exact hx.eq (Znr om) | exact hx.eq (Znj u om)
   exact Zb (Exists.intro (s + 1) ⟨⟨E, om, om, M, V, X, O, P, aM⟩, sC8 rfl rfl rfl rfl rfl rfl rfl rfl (sC4 rfl rfl rfl rfl (sC1 rfl (Sub.nil _))), (by first | omega | (dsimp only; omega))⟩)
  have bk := F
  have F := Yj F
  refine Xe (Zr (Zr (Yu ?_)))
  refine Zb (cN _ _ (Zc (Za rfl rfl (Zd rfl) (Za rfl rfl (Zf rfl) (Ze (Zw (Zb (cH _ _ (Zc ?_)))))))))
  refine Za rfl rfl (Yo om rfl rfl) (Za rfl rfl (Zd rfl) (Ze ?_))
  have aN : Ol ics 3 1 bh (.slice a ((List.replicate (pL.length + 1) (0 : Int))).length b) (crN pL pfirst pF wd (i + 1)) := by
   have hx := au
   exact hx.eq (Zuv om)
  exact Zb (Exists.intro ((i + 1), (.slice a ((List.replicate (pL.length + 1) (0 : Int))).length b)) ⟨⟨E, om, om, U, an, ao, ap, aN, (Lo.down t om)⟩, sC4 rfl rfl rfl rfl (sC2 rfl rfl (sC1 rfl (Sub.nil _))), (by first | omega | (dsimp only; omega))⟩)
 have bf := D
 have D := Yj D
 refine Xe (Zr (Zr (Yu ?_)))
 refine Zb (cy _ _ ?_)
 refine Zg fun ee dn => ?_
 refine Zc (Za rfl rfl (Zf rfl) (Ze (Zb (dn _ _ ?_))))
 refine Zg fun ef dp => ?_
 refine Zg fun eg dq => ?_
 refine Zc (Za rfl rfl (Zd rfl) (Za rfl rfl (Xc (by rw [el30]; rfl) rfl) (Za rfl rfl (Zd rfl) (Ze (Zb (dq _ _ ?_))))))
 refine Zx ?_
 refine Xi (σ := Nat × Int) (fun ⟨q, ad⟩ => [(2, (.pointer (some ⟨ae, 0, none⟩))), (4, (.int .i64 0)), (13, (.int .i64 ad)), (78, (.slice Anv (crN pL pfirst pF wd i).length Cnv)), (79, (.int .i64 (((crN pL pfirst pF wd i).length : Nat) : Int))), (80, (.int .i64 ((q : Nat) : Int)))]) (fun ⟨q, ad⟩ wx => Ch [] w wx ∧ cE.heap.size ≤ wx.heap.size ∧ (q ≤ pL.length + 1) ∧ (ad = Zdl plast pnull (crN pL pfirst pF wd i) q) ∧ (0 ≤ ad ∧ ad ≤ 1000000) ∧ Blk wx ae 48 [(.slice f pL.length h), (.int .i64 pfirst), (.int .i64 plast), (.slice l pF.length m), (.bool pnull)] ∧ Ls ics 1 wx LL_pL w.heap.size (.slice f pL.length h) pL ∧ Ls ics 1 wx LL_pF w.heap.size (.slice l pF.length m) pF ∧ Ol ics 3 1 wx (.slice Anv (crN pL pfirst pF wd i).length Cnv) (crN pL pfirst pF wd i)) (fun ⟨q, ad⟩ => pL.length + 1 - q) (0, 0) (sC4 rfl rfl rfl rfl (sC2 rfl rfl (Sub.nil _))) ⟨E, (Nat.le_refl _), om, rfl, om, R, ak, al, S⟩ ?_
 rintro ⟨q, ad⟩ eh ⟨E, dr, hq, az, hr, av, a4, a5, aa⟩
 have bC := E
 have ce := bC.size
 have bD := av.lt
 refine Zg fun ei ds => ?_
 refine Zc (Za rfl rfl (Xs rfl rfl) (Ze (Zb (ds _ _ ?_))))
 refine Zg fun ej cf => ?_
 refine Zp rfl (fun J => ?_) (fun J => ?_)
 ·have bE := J
  have J := Yi J
  refine Zu ?_
  refine Zb (cf _ _ ?_)
  refine Zg fun ek cg => ?_
  refine Zx ?_
  refine Zg fun el dt => ?_
  refine Zc (Za rfl rfl (Zd rfl) (Zm rfl rfl ?_))
  refine (Yw aa.ls Xg el30 sz3 rfl rfl rfl om fun du a6 C bF => ?_)
  have em := Zjo C
  refine Za rfl rfl (Yr bF agg3 rfl rfl) (Za rfl rfl (Zf rfl) (Za rfl rfl (Zf rfl) (Ze (Zb (dt _ _ ?_)))))
  refine Zg fun en dv => ?_
  refine Xb [] 4 mixed rfl fun dw aO => ?_
  have dx := aO.size
  have E := E.trans aO
  have bG := av.ch0 aO
  refine dT 0 rfl rfl rfl (Yq bG.at_ (fun i hi => absurd hi List.not_mem_nil) agg48 sz48 rfl ?_)
  refine dV 1 rfl rfl rfl (fun _ => Zd rfl) (dV 2 rfl rfl rfl (fun _ => Zjf om rfl rfl) (dO 3 (Zz rfl rfl rfl ?_)))
  have bH := a4.ch0 aO
  have bI := a5.ch0 aO
  refine Step.call (Zl (xs := [.tmp 85, .tmp 87]) fk80 rfl) (Zag bH _ _ bI _ _ ) fun dy dz bJ => ?_
  obtain ⟨rfl, ab⟩ := bJ
  have dA := ab.size
  have E := E.trans ab
  have aP : Ch [] dw dz := ((Ch.refl _ _).trans ab)
  refine ⟨aP, ?_⟩
  refine Yc (by kernel_rfl) ?_
  refine Zb (dv _ _ ?_)
  refine Zp rfl (fun K => ?_) (fun K => ?_)
  ·have a7 := K
   refine Zc (Za rfl rfl (Zd rfl) (Za rfl rfl (Zd rfl) (Za rfl rfl (Yo om rfl rfl) (Za rfl rfl (Zlv rfl rfl) (Za rfl rfl (Zf rfl) (Ze (Zw ?_)))))))
   refine Zb (cg _ _ (Zc (Za rfl rfl (Yo om rfl rfl) (Za rfl rfl (Zd rfl) (Ze ?_)))))
   have bK := bG.ch0 ab
   have bL := bH.ch0 ab
   have bM := bI.ch0 ab
   have bN := (aa.ch0 aO).ch0 ab
   exact Zb (Exists.intro ((q + 1), (if (ad + a6) < 1000000 then (ad + a6) else 1000000)) ⟨⟨E, om, om, (by first | exact Zpj az C K | exact Zpf az K), (by first | exact hr | (have dB := Zjo C; split <;> omega)), bK, bL, bM, bN⟩, sC4 rfl rfl rfl rfl (sC2 rfl rfl (Sub.nil _)), (by first | omega | (dsimp only; omega))⟩)
  have a7 := K
  refine Zu ?_
  refine Zw (Zb (cg _ _ (Zc (Za rfl rfl (Yo om rfl rfl) (Za rfl rfl (Zd rfl) (Ze ?_))))))
  have bO := bG.ch0 ab
  have bP := bH.ch0 ab
  have bQ := bI.ch0 ab
  have bR := (aa.ch0 aO).ch0 ab
  exact Zb (Exists.intro ((q + 1), ad) ⟨⟨E, om, om, (by first | exact Zpj az C K | exact Zpf az K), (by first | exact hr | (have dB := Zjo C; split <;> omega)), bO, bP, bQ, bR⟩, sC4 rfl rfl rfl rfl (sC2 rfl rfl (Sub.nil _)), (by first | omega | (dsimp only; omega))⟩)
 have bE := J
 have J := Yj J
 refine Xe (Zr (Zr (Yu ?_)))
 refine Zb (dp _ _ ?_)
 refine Zg fun dC bS => ?_
 refine Zc (Za rfl rfl (Zd rfl) (Za rfl rfl (Zf rfl) (Ze (Zb (bS _ _ ?_)))))
 refine Zq ?_
 clear b3 cf
 exact Zi [_] ⟨rfl, trivial⟩ ⟨congrArg (Value.int .i64) (by first | exact Znz (fun e => c e.1) | exact Znz (fun e => o e.2) | exact Zto c o az om om), E⟩

/-- impl.ways -/
theorem Zbr {w : World} (n : Nat) (stay : Bool) (hb : n ≤ 4097) :
 Ctr Try.prog 131 #[(.int .i64 ((n : Nat) : Int)), (.bool stay)] w (fun v w' => ∃ (B : Value) (vs0 : List Sv), v = B ∧ Ol Sv.cs 24 1 w' B vs0 ∧ Lo w.heap.size B ∧ Od bcs 4 1 w' w.heap.size w'.heap.size vs0 (grd n (idM stay)) ∧ Sep B vs0 ∧ Ch [] w w') := by
 have E := Ch.refl [] w
 refine Ye (N := 28) (vs0 := [(.int .i64 ((n : Nat) : Int)), (.bool stay)]) Try.func131 rfl rfl rfl ?_
 refine Zg fun K1 H1 => ?_
 refine Zc (Za rfl rfl (Zf rfl) (Ze (Zb (H1 _ _ ?_))))
 refine Zg fun K2 H2 => ?_
 refine Zc (Za rfl rfl (Zd rfl) (Zm rfl rfl ?_))
 refine Zkr (cs := Sv.cs) (⟨none, 0, 0⟩ : Sv) el142 sz24 by24 zr24 Sv.len (by decide) rfl rfl om om fun aq W3 M h C3 => ?_
 have au := C3.size
 have E := E.trans C3
 obtain ⟨k, l, rfl, V, d⟩ := M.opn
 refine Za rfl rfl (Zf rfl) (Ze (Zb (H2 _ _ ?_)))
 refine Zg fun K4 H4 => ?_
 refine Zg fun K5 H5 => ?_
 refine Zc (Za rfl rfl (Zd rfl) (Za rfl rfl (Xc (by rw [el142]; rfl) rfl) (Za rfl rfl (Zd rfl) (Ze (Zb (H5 _ _ ?_))))))
 refine Zx ?_
 have s : Ol Sv.cs 24 1 W3 (.slice k ((List.replicate n (⟨none, 0, 0⟩ : Sv))).length l) (([] : List Sv) ++ List.replicate (n - 0) (⟨none, 0, 0⟩ : Sv)) := by
  have hx := M
  simpa using hx
 refine Xi (σ := Nat × List Sv) (fun ⟨i, vs⟩ => [(0, (.int .i64 ((n : Nat) : Int))), (1, (.bool stay)), (4, (.slice none 0 0)), (5, (.slice k ((List.replicate n (⟨none, 0, 0⟩ : Sv))).length l)), (10, (.int .i64 (((List.replicate n (⟨none, 0, 0⟩ : Sv)).length : Nat) : Int))), (11, (.int .i64 ((i : Nat) : Int)))]) (fun ⟨i, vs⟩ wx => Ch [] w wx ∧ W3.heap.size ≤ wx.heap.size ∧ (i ≤ n) ∧ (vs.length = i) ∧ Ol Sv.cs 24 1 wx (.slice k ((List.replicate n (⟨none, 0, 0⟩ : Sv))).length l) (vs ++ List.replicate (n - i) (⟨none, 0, 0⟩ : Sv)) ∧ Od bcs 4 1 wx W3.heap.size wx.heap.size vs ((grd n (idM stay)).take i)) (fun ⟨i, vs⟩ => n - i) (0, ([] : List Sv)) (sC4 rfl rfl rfl rfl (sC2 rfl rfl (Sub.nil _))) ⟨E, (Nat.le_refl _), om, rfl, s, Od.nil⟩ ?_
 rintro ⟨i, vs⟩ R7 ⟨E, X, hi, hvl, m, od⟩
 have H := E
 have O := H.size
 refine Zg fun K8 H8 => ?_
 refine Zc (Za rfl rfl (Xs rfl rfl) (Ze (Zb (H8 _ _ ?_))))
 refine Zg fun K9 H9 => ?_
 refine Zp rfl (fun a => ?_) (fun a => ?_)
 ·have I := a
  have a := Yi a
  simp only [List.length_replicate] at a
  refine Zu ?_
  refine Zb (H9 _ _ ?_)
  refine Zg fun av Y => ?_
  refine Zx ?_
  refine Zg fun aw Z => ?_
  refine Zc (Za rfl rfl (Zd rfl) (Za rfl rfl (Zf rfl) (Ze (Zb (Z _ _ ?_)))))
  refine Zg fun ax aa => ?_
  refine Zc (Za rfl rfl (Zd rfl) (Za rfl rfl (Zd rfl) (Za rfl rfl (Zd rfl) (Zm rfl rfl ?_))))
  refine Zkr (cs := bcs) false el24 sz4 by4 zr4 Qg (by decide) rfl rfl om om fun ab ay t c C => ?_
  have ac := C.size
  have E := E.trans C
  obtain ⟨e, f, rfl, P, b⟩ := t.opn
  refine Zm rfl rfl ?_
  have Q := m.ch0 C
  refine Qj (j := i) Q el142 sz24 rfl rfl rfl (by first | omega | (simp; omega)) fun ad ae R J => ?_
  refine Zm rfl rfl ?_
  refine Qk (j := i) (⟨e, ((List.replicate n false)).length, f⟩ : Sv) Q J Sv.len sz24 rfl rfl rfl rfl (by first | omega | (simp; omega)) fun S o D => ?_
  have af := D.size
  have E := E.step D (fun i hi => .inl (by have p := h _ hi; omega))
  refine Ze (Zb (aa _ _ (Zc (Za rfl rfl (Zd rfl) (Za rfl rfl (Zd rfl) (Zm rfl rfl ?_))))))
  refine (Yw o.ls Sv.len el142 sz24 rfl rfl rfl (by first | omega | (simp; omega)) fun K ag x q => ?_)
  obtain rfl := Zbt (List.getElem?_set_self (by simp; omega)) x
  replace q : At S 0 S.heap.size K ([(.slice e ((List.replicate n false)).length f)]) := q
  refine Za rfl rfl (Yr q agg24 rfl rfl) (Za rfl rfl (Zd rfl) (Za rfl rfl (Zd rfl) (Zm rfl rfl ?_)))
  have T := t.ch D (fun g hg hm => by have p := h _ hm; have F := d _ hm; have ah := c _ hg; have ai := b _ hg; omega)
  refine Qj (j := i) T el24 sz4 rfl rfl rfl (by first | omega | (simp; omega)) fun aj ak U L => ?_
  refine Zm rfl rfl ?_
  refine Qk (j := i) stay T L Qg sz4 rfl rfl rfl rfl (by first | omega | (simp; omega)) fun al y G => ?_
  have am := G.size
  have E := E.step G (fun i hi => .inl (by have p := c _ hi; omega))
  refine Ze (Zw (Zb (Y _ _ (Zc (Za rfl rfl (Yo om rfl rfl) (Za rfl rfl (Zd rfl) (Ze ?_)))))))
  have an := o.ch G (fun g hg hm => by have p := c _ hm; have F := b _ hm; have ah := h _ hg; have ai := d _ hg; omega)
  have r : Ol Sv.cs 24 1 al (.slice k ((List.replicate n (⟨none, 0, 0⟩ : Sv))).length l) ((vs ++ [(⟨e, ((List.replicate n false)).length, f⟩ : Sv)]) ++ List.replicate (n - (i + 1)) (⟨none, 0, 0⟩ : Sv)) := by
   have hx := an
   rwa [Zuj hvl om] at hx
  have ao := ((od.ch0 C).ch D (fun i hm => by have p := h _ hm; have F := d _ hm; omega)).ch G (fun i hm => by have p := c _ hm; have F := b _ hm; omega)
  exact Zb (Exists.intro ((i + 1), (vs ++ [(⟨e, ((List.replicate n false)).length, f⟩ : Sv)])) ⟨⟨E, om, om, (by simp [hvl]), r, (by rw [Zaa (Zho om)]; exact Od.snoc ao (y.eq (by exact Zsr)) (Lo.down c om) (fun g hg => by have p := b g hg; omega) om om)⟩, sC4 rfl rfl rfl rfl (sC2 rfl rfl (Sub.nil _)), (by first | omega | (dsimp only; omega))⟩)
 have I := a
 have a := Yj a
 simp only [List.length_replicate] at a
 refine Xe (Zr (Zr (Yu ?_)))
 refine Zb (H4 _ _ ?_)
 refine Zg fun az ap => ?_
 refine Zc (Za rfl rfl (Zd rfl) (Za rfl rfl (Zf rfl) (Ze (Zb (ap _ _ ?_)))))
 refine Zq ?_
 have z : Ol Sv.cs 24 1 R7 (.slice k ((List.replicate n (⟨none, 0, 0⟩ : Sv))).length l) vs := by
  have hx := m
  simpa [show n - i = 0 by omega] using hx
 have A : Od bcs 4 1 R7 w.heap.size R7.heap.size vs (grd n (idM stay)) := by
  have hx := od.up (lo' := w.heap.size) (hi' := R7.heap.size) om om
  rwa [List.take_of_length_le (by rw [Ql]; omega)] at hx
 exact Zi [_] ⟨rfl, trivial⟩ ⟨(.slice k ((List.replicate n (⟨none, 0, 0⟩ : Sv))).length l), vs, rfl, z, (Lo.down h om), A, (fun u hu g hg hm => by have aA := od.rng hu hg; have p := h _ hm; have F := d _ hm; omega), E⟩

/-- impl.either -/
theorem Zdd {w : World} {LL_sa aE : Nat} {ad : Value} {sa : List Sv} (t : Ls Sv.cs 1 w LL_sa aE ad sa) {LR_a BB_a : Nat} {a : List (List Bool)} (J : Rd bcs 1 w LR_a BB_a sa a) {LL_sb aF : Nat} {ae : Value} {sb : List Sv} (u : Ls Sv.cs 1 w LL_sb aF ae sb) {LR_b BB_b : Nat} {b : List (List Bool)} (K : Rd bcs 1 w LR_b BB_b sb b) (n : Nat) (A : Nat → Nat → Bool) (B : Nat → Nat → Bool) (ha : a = grd n A) (hb : b = grd n B) (ta : Tri A) (tb : Tri B) (hn : n ≤ 4097) :
 Ctr Try.prog 133 #[ad, ae] w (fun v w' => ∃ (a4 : Value) (vs0 : List Sv), v = a4 ∧ Ol Sv.cs 24 1 w' a4 vs0 ∧ Lo w.heap.size a4 ∧ Od bcs 4 1 w' w.heap.size w'.heap.size vs0 (grd n (oeM A B)) ∧ Sep a4 vs0 ∧ Ch [] w w') := by
 obtain ⟨L, M, ai⟩ := t.val
 subst ai
 have bu := t.len
 have t := t.here (by decide)
 have J := J.here (by decide)
 have aG := J.1
 obtain ⟨X, Y, aj⟩ := u.val
 subst aj
 have bv := u.len
 have u := u.here (by decide)
 have K := K.here (by decide)
 have aH := K.1
 have E := Ch.refl [] w
 have a5 : sa.length = n := (by rw [aG, ha, Ql]); have bI : sb.length = n := (by rw [aH, hb, Ql])
 refine Ye (N := 49) (vs0 := [(.slice L sa.length M), (.slice X sb.length Y)]) Try.func133 rfl rfl rfl ?_
 refine Zg fun K1 H1 => ?_
 refine Zc (Za rfl rfl (Zf rfl) (Ze (Zb (H1 _ _ ?_))))
 refine Zg fun K2 H2 => ?_
 refine Zc (Za rfl rfl (Zd rfl) (Za rfl rfl (Xc (by rw [el142]; rfl) rfl) (Zm rfl rfl ?_)))
 refine Step.call (Zl (xs := [.tmp 9, .const (Go.Value.bool false)]) fk131 rfl) (Zbr sa.length _ om) fun bJ W3 a6 => ?_
 obtain ⟨bw, c, rfl, x, U, C, o, C3⟩ := a6
 have cp := C3.size
 have E := E.trans C3
 obtain ⟨h, k, rfl, a7, aI⟩ := x.opn
 refine Za rfl rfl (Zf rfl) (Ze (Zb (H2 _ _ ?_)))
 refine Zg fun K4 H4 => ?_
 refine Zg fun K5 H5 => ?_
 refine Zc (Za rfl rfl (Zd rfl) (Za rfl rfl (Xc (by rw [el142]; rfl) rfl) (Za rfl rfl (Zd rfl) (Ze (Zb (H5 _ _ ?_))))))
 refine Zx ?_
 refine Xi (σ := Nat) (fun (i : Nat) => [(0, (.slice L sa.length M)), (1, (.slice X sb.length Y)), (4, (.slice none 0 0)), (5, (.slice h (c).length k)), (12, (.int .i64 ((sa.length : Nat) : Int))), (13, (.int .i64 ((i : Nat) : Int)))]) (fun (i : Nat) wx => Ch [] w wx ∧ W3.heap.size ≤ wx.heap.size ∧ (i ≤ n) ∧ Ol Sv.cs 24 1 wx (.slice h (c).length k) c ∧ Od bcs 4 1 wx w.heap.size W3.heap.size c (grd n (upt (oeM A B) i 0))) (fun (i : Nat) => n - i) 0 (sC4 rfl rfl rfl rfl (sC2 rfl rfl (Sub.nil _))) ⟨E, (Nat.le_refl _), om, x, (C.eq (by rw [a5]; exact Znp))⟩ ?_
 rintro i R6 ⟨E, bK, hi, af, od⟩
 have ak := E
 have bx := ak.size
 refine Zg fun K7 H7 => ?_
 refine Zc (Za rfl rfl (Xs rfl rfl) (Ze (Zb (H7 _ _ ?_))))
 refine Zg fun K8 H8 => ?_
 refine Zp rfl (fun D => ?_) (fun D => ?_)
 ·have bL := D
  have D := Yi D
  refine Zu ?_
  refine Zb (H8 _ _ ?_)
  refine Zg fun cq bM => ?_
  refine Zx ?_
  refine Zg fun cr bN => ?_
  refine Zc (Za rfl rfl (Zd rfl) (Za rfl rfl (Zf rfl) (Ze (Zb (bN _ _ ?_)))))
  refine Zg fun ct bO => ?_
  refine Zc (Za rfl rfl (Zd rfl) (Za rfl rfl (Zd rfl) (Zm rfl rfl ?_)))
  have bz := t.ch0 ak
  refine (Yw bz Sv.len el142 sz24 rfl rfl rfl om fun a8 a9 aJ al => ?_)
  have bA := J.ch0 ak
  obtain ⟨O, am, P⟩ := bA.get aJ
  obtain ⟨aK, bP, aL⟩ := a9
  obtain rfl := P.eqn
  have bQ := P.len
  replace P : Ls bcs 1 R6 LR_a w.heap.size (.slice aK O.length aL) O := P
  replace al : At R6 LL_sa w.heap.size a8 ([(.slice aK O.length aL)]) := al
  have bR := Zai ha am
  refine Za rfl rfl (Yr al agg24 rfl rfl) (Za rfl rfl (Xc (by rw [el24]; rfl) rfl) (Za rfl rfl (Zd rfl) (Ze (Zb (bO _ _ ?_)))))
  refine Zx ?_
  refine Xi (σ := Nat) (fun (j : Nat) => [(0, (.slice L sa.length M)), (1, (.slice X sb.length Y)), (4, (.slice none 0 0)), (5, (.slice h (c).length k)), (6, (.int .i64 ((i : Nat) : Int))), (12, (.int .i64 ((sa.length : Nat) : Int))), (13, (.int .i64 ((i : Nat) : Int))), (14, (.bool (decide (((i : Nat) : Int) < ((sa.length : Nat) : Int))))), (20, (.int .i64 ((O.length : Nat) : Int))), (21, (.int .i64 ((j : Nat) : Int)))]) (fun (j : Nat) wx => Ch [] w wx ∧ R6.heap.size ≤ wx.heap.size ∧ (j ≤ n) ∧ Ls Sv.cs 1 wx LL_sa w.heap.size (.slice L sa.length M) sa ∧ Rd bcs 1 wx LR_a w.heap.size sa a ∧ Ol Sv.cs 24 1 wx (.slice h (c).length k) c ∧ Od bcs 4 1 wx w.heap.size W3.heap.size c (grd n (upt (oeM A B) i j))) (fun (j : Nat) => n - j) 0 (sC8 rfl rfl rfl rfl rfl rfl rfl rfl (sC2 rfl rfl (Sub.nil _))) ⟨E, (Nat.le_refl _), om, bz, bA, af, (od.eq rfl)⟩ ?_
  rintro j bS ⟨E, bT, hj, aM, aN, Q, od⟩
  have an := E
  have bB := an.size
  refine Zg fun cu bU => ?_
  refine Zc (Za rfl rfl (Xs rfl rfl) (Ze (Zb (bU _ _ ?_))))
  refine Zg fun cv bV => ?_
  refine Zp rfl (fun F => ?_) (fun F => ?_)
  ·have ba := F
   have F := Yi F
   refine Zu ?_
   refine Zb (bV _ _ ?_)
   refine Zg fun cw bC => ?_
   refine Zx ?_
   refine Zg fun cx bW => ?_
   refine Zc (Za rfl rfl (Zd rfl) (Za rfl rfl (Zf rfl) (Ze (Zb (bW _ _ ?_)))))
   have ao := (od).1
   rw [Ql] at ao
   obtain ⟨ag, ap, aq⟩ := Ol.lsE Q om
   obtain ⟨aO, s⟩ := Zdx (xs := c) (j := i) om
   have aP : Sep (.slice h (c).length k) c := o
   have G := aP _ (Xw s)
   obtain ⟨f, l, m, Z⟩ := od.ownget s
   have R := s
   obtain ⟨p, bD, q⟩ := aO
   obtain rfl := m.ls.eqn
   have bE := m.len
   have e : Lo w.heap.size (.slice p f.length q) := fun g hg => (Z g hg).1
   have S : ∀ g ∈ bl (.slice p f.length q), g < W3.heap.size := fun g hg => (Z g hg).2
   replace m : Ol bcs 4 1 bS (.slice p f.length q) f := m
   have bF := Zai rfl l
   refine Xb (bl (.slice p f.length q)) 23 mixed rfl fun au V => ?_
   have bX := V.size
   have E := E.trans V
   refine dV 0 rfl rfl rfl (fun _ => Zd rfl) (dV 1 rfl rfl rfl (fun _ => Zd rfl) ?_)
   have bY := aq.ch0 V
   refine dT 2 rfl rfl rfl (Xo bY Sv.len el142 sz24 rfl rfl rfl om fun bb bZ aQ av => ?_)
   obtain rfl := Zbt s aQ
   replace av : At au ag (ag + 1) bb ([(.slice p f.length q)]) := av
   refine dT 3 rfl rfl rfl (Yx av (fun i hm => Zgf (G i hm) ap) agg24 rfl rfl ?_)
   refine dV 4 rfl rfl rfl (fun _ => Zd rfl) (dV 5 rfl rfl rfl (fun _ => Zd rfl) (dV 6 rfl rfl rfl (fun _ => Zd rfl) ?_))
   have bc := aM.ch0 V
   have be := aN.ch0 V
   refine dT 7 rfl rfl rfl (Xo bc Sv.len el142 sz24 rfl rfl rfl om fun bf bg aR aw => ?_)
   obtain ⟨aa, r, y⟩ := be.get aR
   obtain ⟨aS, b0, aT⟩ := bg
   obtain rfl := y.eqn
   have b1 := y.len
   replace y : Ls bcs 1 au LR_a w.heap.size (.slice aS aa.length aT) aa := y
   replace aw : At au LL_sa w.heap.size bf ([(.slice aS aa.length aT)]) := aw
   have b2 := Zai ha r
   refine dT 8 rfl rfl rfl (Yx aw (fun i hm => by have ac := e _ hm; have bh := S _ hm; omega) agg24 rfl rfl ?_)
   refine dV 9 rfl rfl rfl (fun _ => Zd rfl) ?_
   refine dT 10 rfl rfl rfl (Xo y Qg el24 sz4 rfl rfl rfl om fun b3 b4 T bi => ?_)
   refine dT 11 rfl rfl rfl (Yx bi (fun i hm => by have ac := e _ hm; have bh := S _ hm; omega) agg4 rfl rfl ?_)
   refine dV 12 rfl rfl rfl (fun _ => Zd rfl) ?_
   refine Qn (d := 36) rfl (fun H => ?_) (fun H => ?_)
   ·have bj := H
    refine dK 13 rfl rfl rfl (dK 14 rfl rfl rfl (dK 15 rfl rfl rfl (dK 16 rfl rfl rfl (dK 17 rfl rfl rfl (dK 18 rfl rfl rfl (dK 19 rfl rfl rfl (dV 20 rfl rfl rfl (fun _ => Ya rfl rfl) ?_)))))))
    refine dO 21 (Zz rfl rfl rfl ?_)
    have bG := m.ch0 V
    refine Qj (j := j) bG el24 sz4 rfl rfl rfl om fun bk bm aU ax => ?_
    refine ⟨(Ch.refl _ _), ?_⟩
    refine dO 22 (Zz rfl rfl rfl ?_)
    refine Qk (j := j) true bG ax Qg sz4 rfl rfl rfl rfl om fun b5 aV ay => ?_
    have b6 := od.ch0 V
    have b7 := ay.size
    have E := E.step ay (fun i hi => .inl (by have ac := e _ hi; omega))
    have az := Od.set b6 R l ay aV
    have aW : Ch (bl (.slice p f.length q)) au b5 := ((Ch.refl _ _).step ay (fun i hm => by exact .inr hm))
    refine ⟨aW, ?_⟩
    refine Yc (by kernel_rfl) ?_
    refine Zw (Zb (bC _ _ (Zc (Za rfl rfl (Yo om rfl rfl) (Za rfl rfl (Zd rfl) (Ze ?_))))))
    have b8 := bc.ch ay (fun i hi => by have ac := e _ hi; omega)
    have b9 := be.ch ay (fun i hi => by have ac := e _ hi; omega)
    have ca := (Q.ch0 V).ch ay (fun g hg hm => by exact G _ hm hg)
    exact Zb (Exists.intro (j + 1) ⟨⟨E, om, om, b8, b9, ca, (az.eq (Zgx rfl l (by first | (have aA := Zbp ha r T; simp [oeM, ← aA, H]; done) | (have aA := Zbp ha r T; have bn := Zbp hb I ah; simp [oeM, ← aA, ← bn, H]; done))))⟩, sC8 rfl rfl rfl rfl rfl rfl rfl rfl (sC2 rfl rfl (Sub.nil _)), (by first | omega | (dsimp only; omega))⟩)
   have bj := H
   refine dV 13 rfl rfl rfl (fun _ => Zd rfl) (dV 14 rfl rfl rfl (fun _ => Zd rfl) ?_)
   have cb := (u.ch0 an).ch0 V
   have cc := (K.ch0 an).ch0 V
   refine dT 15 rfl rfl rfl (Xo cb Sv.len el142 sz24 rfl rfl rfl om fun bp bq aX aB => ?_)
   obtain ⟨ab, I, z⟩ := cc.get aX
   obtain ⟨aY, cd, aZ⟩ := bq
   obtain rfl := z.eqn
   have ce := z.len
   replace z : Ls bcs 1 au LR_b w.heap.size (.slice aY ab.length aZ) ab := z
   replace aB : At au LL_sb w.heap.size bp ([(.slice aY ab.length aZ)]) := aB
   have cf := Zai hb I
   refine dT 16 rfl rfl rfl (Yx aB (fun i hm => by have ac := e _ hm; have bh := S _ hm; omega) agg24 rfl rfl ?_)
   refine dV 17 rfl rfl rfl (fun _ => Zd rfl) ?_
   refine dT 18 rfl rfl rfl (Xo z Qg el24 sz4 rfl rfl rfl om fun cg br ah bs => ?_)
   refine dT 19 rfl rfl rfl (Yx bs (fun i hm => by have ac := e _ hm; have bh := S _ hm; omega) agg4 rfl rfl ?_)
   refine dV 20 rfl rfl rfl (fun _ => Yb rfl rfl) (dO 21 (Zz rfl rfl rfl ?_))
   have bH := m.ch0 V
   refine Qj (j := j) bH el24 sz4 rfl rfl rfl om fun bk bm aU ax => ?_
   refine ⟨(Ch.refl _ _), ?_⟩
   refine dO 22 (Zz rfl rfl rfl ?_)
   refine Qk (j := j) br bH ax Qg sz4 rfl rfl rfl rfl om fun ci a0 aC => ?_
   have cj := od.ch0 V
   have ck := aC.size
   have E := E.step aC (fun i hi => .inl (by have ac := e _ hi; omega))
   have aD := Od.set cj R l aC a0
   have a1 : Ch (bl (.slice p f.length q)) au ci := ((Ch.refl _ _).step aC (fun i hm => by exact .inr hm))
   refine ⟨a1, ?_⟩
   refine Yc (by kernel_rfl) ?_
   refine Zw (Zb (bC _ _ (Zc (Za rfl rfl (Yo om rfl rfl) (Za rfl rfl (Zd rfl) (Ze ?_))))))
   have cl := bc.ch aC (fun i hi => by have ac := e _ hi; omega)
   have cm := be.ch aC (fun i hi => by have ac := e _ hi; omega)
   have cn := (Q.ch0 V).ch aC (fun g hg hm => by exact G _ hm hg)
   exact Zb (Exists.intro (j + 1) ⟨⟨E, om, om, cl, cm, cn, (aD.eq (Zgx rfl l (by first | (have aA := Zbp ha r T; simp [oeM, ← aA, H]; done) | (have aA := Zbp ha r T; have bn := Zbp hb I ah; simp [oeM, ← aA, ← bn, H]; done))))⟩, sC8 rfl rfl rfl rfl rfl rfl rfl rfl (sC2 rfl rfl (Sub.nil _)), (by first | omega | (dsimp only; omega))⟩)
  have ba := F
  have F := Yj F
  refine Xe (Zr (Zr (Yu ?_)))
  refine Zw (Zb (bM _ _ (Zc (Za rfl rfl (Yo om rfl rfl) (Za rfl rfl (Zd rfl) (Ze ?_))))))
  exact Zb (Exists.intro (i + 1) ⟨⟨E, om, om, Q, (od.eq (Zpn om))⟩, sC4 rfl rfl rfl rfl (sC2 rfl rfl (Sub.nil _)), (by first | omega | (dsimp only; omega))⟩)
 have bL := D
 have D := Yj D
 refine Xe (Zr (Zr (Yu ?_)))
 refine Zb (H4 _ _ ?_)
 refine Zg fun cy co => ?_
 refine Zc (Za rfl rfl (Zd rfl) (Za rfl rfl (Zf rfl) (Ze (Zb (co _ _ ?_)))))
 refine Zq ?_
 have a2 : Ol Sv.cs 24 1 R6 (.slice h (c).length k) c := by
  have hx := af
  exact hx
 have a3 : Od bcs 4 1 R6 w.heap.size R6.heap.size c (grd n (oeM A B)) := by
  have hx := od.up (lo' := w.heap.size) (hi' := R6.heap.size) om om
  rwa [Zqb om] at hx
 exact Zi [_] ⟨rfl, trivial⟩ ⟨(.slice h (c).length k), c, rfl, a2, (Lo.down U om), a3, o, E⟩

/-- impl.inTurn -/
theorem Zcb {w : World} {LL_sa aU : Nat} {au : Value} {sa : List Sv} (z : Ls Sv.cs 1 w LL_sa aU au sa) {LR_a BB_a : Nat} {a : List (List Bool)} (S : Rd bcs 1 w LR_a BB_a sa a) {LL_sb aV : Nat} {av : Value} {sb : List Sv} (C : Ls Sv.cs 1 w LL_sb aV av sb) {LR_b BB_b : Nat} {b : List (List Bool)} (T : Rd bcs 1 w LR_b BB_b sb b) (n : Nat) (A : Nat → Nat → Bool) (B : Nat → Nat → Bool) (ha : a = grd n A) (hb : b = grd n B) (ta : Tri A) (tb : Tri B) (hn : n ≤ 4097) :
 Ctr Try.prog 132 #[au, av] w (fun v w' => ∃ (bs : Value) (vs0 : List Sv), v = bs ∧ Ol Sv.cs 24 1 w' bs vs0 ∧ Lo w.heap.size bs ∧ Od bcs 4 1 w' w.heap.size w'.heap.size vs0 (grd n (mulM n A B)) ∧ Sep bs vs0 ∧ Ch [] w w') := by
 obtain ⟨t, u, aB⟩ := z.val
 subst aB
 have bV := z.len
 have z := z.here (by decide)
 have S := S.here (by decide)
 have aW := S.1
 obtain ⟨D, F, aC⟩ := C.val
 subst aC
 have bW := C.len
 have C := C.here (by decide)
 have T := T.here (by decide)
 have aX := T.1
 have E := Ch.refl [] w
 have bu : sa.length = n := (by rw [aW, ha, Ql]); have cd : sb.length = n := (by rw [aX, hb, Ql])
 refine Ye (N := 67) (vs0 := [(.slice t sa.length u), (.slice D sb.length F)]) Try.func132 rfl rfl rfl ?_
 refine Zg fun K1 H1 => ?_
 refine Zc (Za rfl rfl (Zf rfl) (Ze (Zb (H1 _ _ ?_))))
 refine Zg fun K2 H2 => ?_
 refine Zc (Za rfl rfl (Zd rfl) (Za rfl rfl (Xc (by rw [el142]; rfl) rfl) (Zm rfl rfl ?_)))
 refine Step.call (Zl (xs := [.tmp 10, .const (Go.Value.bool false)]) fk131 rfl) (Zbr sa.length _ om) fun ce W3 bv => ?_
 obtain ⟨bX, c, rfl, G, ac, K, o, C3⟩ := bv
 have c9 := C3.size
 have E := E.trans C3
 obtain ⟨h, l, rfl, bw, aY⟩ := G.opn
 refine Za rfl rfl (Zf rfl) (Ze (Zb (H2 _ _ ?_)))
 refine Zg fun K4 H4 => ?_
 refine Zg fun K5 H5 => ?_
 refine Zc (Za rfl rfl (Zd rfl) (Za rfl rfl (Xc (by rw [el142]; rfl) rfl) (Za rfl rfl (Zd rfl) (Ze (Zb (H5 _ _ ?_))))))
 refine Zx ?_
 refine Xi (σ := Nat) (fun (i : Nat) => [(0, (.slice t sa.length u)), (1, (.slice D sb.length F)), (4, (.slice none 0 0)), (5, (.slice h (c).length l)), (13, (.int .i64 ((sa.length : Nat) : Int))), (14, (.int .i64 ((i : Nat) : Int)))]) (fun (i : Nat) wx => Ch [] w wx ∧ W3.heap.size ≤ wx.heap.size ∧ (i ≤ n) ∧ Ol Sv.cs 24 1 wx (.slice h (c).length l) c ∧ Od bcs 4 1 wx w.heap.size W3.heap.size c (grd n (mupt n A B i 0 0))) (fun (i : Nat) => n - i) 0 (sC4 rfl rfl rfl rfl (sC2 rfl rfl (Sub.nil _))) ⟨E, (Nat.le_refl _), om, G, (K.eq (by rw [bu]; exact Zle))⟩ ?_
 rintro i R6 ⟨E, cf, hi, aw, od⟩
 have aD := E
 have bY := aD.size
 refine Zg fun K7 H7 => ?_
 refine Zc (Za rfl rfl (Xs rfl rfl) (Ze (Zb (H7 _ _ ?_))))
 refine Zg fun K8 H8 => ?_
 refine Zp rfl (fun L => ?_) (fun L => ?_)
 ·have cg := L
  have L := Yi L
  refine Zu ?_
  refine Zb (H8 _ _ ?_)
  refine Zg fun da ci => ?_
  refine Zx ?_
  refine Zg fun db cj => ?_
  refine Zc (Za rfl rfl (Zd rfl) (Za rfl rfl (Zf rfl) (Ze (Zb (cj _ _ ?_)))))
  refine Zg fun dc ck => ?_
  refine Zc (Za rfl rfl (Zd rfl) (Za rfl rfl (Zd rfl) (Zm rfl rfl ?_)))
  have bZ := z.ch0 aD
  refine (Yw bZ Sv.len el142 sz24 rfl rfl rfl om fun bx bz aZ aE => ?_)
  have b0 := S.ch0 aD
  obtain ⟨x, aF, U⟩ := b0.get aZ
  obtain ⟨a0, cl, a1⟩ := bz
  obtain rfl := U.eqn
  have cm := U.len
  replace U : Ls bcs 1 R6 LR_a w.heap.size (.slice a0 x.length a1) x := U
  replace aE : At R6 LL_sa w.heap.size bx ([(.slice a0 x.length a1)]) := aE
  have cn := Zai ha aF
  refine Za rfl rfl (Yr aE agg24 rfl rfl) (Za rfl rfl (Xc (by rw [el24]; rfl) rfl) (Za rfl rfl (Zd rfl) (Ze (Zb (ck _ _ ?_)))))
  refine Zx ?_
  refine Xi (σ := Nat) (fun (k : Nat) => [(0, (.slice t sa.length u)), (1, (.slice D sb.length F)), (4, (.slice none 0 0)), (5, (.slice h (c).length l)), (6, (.int .i64 ((i : Nat) : Int))), (13, (.int .i64 ((sa.length : Nat) : Int))), (14, (.int .i64 ((i : Nat) : Int))), (15, (.bool (decide (((i : Nat) : Int) < ((sa.length : Nat) : Int))))), (21, (.int .i64 ((x.length : Nat) : Int))), (22, (.int .i64 ((k : Nat) : Int)))]) (fun (k : Nat) wx => Ch [] w wx ∧ R6.heap.size ≤ wx.heap.size ∧ (k ≤ n) ∧ Ls Sv.cs 1 wx LL_sa w.heap.size (.slice t sa.length u) sa ∧ Rd bcs 1 wx LR_a w.heap.size sa a ∧ Ol Sv.cs 24 1 wx (.slice h (c).length l) c ∧ Od bcs 4 1 wx w.heap.size W3.heap.size c (grd n (mupt n A B i k 0))) (fun (k : Nat) => n - k) 0 (sC8 rfl rfl rfl rfl rfl rfl rfl rfl (sC2 rfl rfl (Sub.nil _))) ⟨E, (Nat.le_refl _), om, bZ, b0, aw, (od.eq rfl)⟩ ?_
  rintro k a2 ⟨E, co, dd, ad, ae, af, od⟩
  have aG := E
  have b1 := aG.size
  refine Zg fun de cp => ?_
  refine Zc (Za rfl rfl (Xs rfl rfl) (Ze (Zb (cp _ _ ?_))))
  refine Zg fun df cq => ?_
  refine Zp rfl (fun M => ?_) (fun M => ?_)
  ·have bA := M
   have M := Yi M
   refine Zu ?_
   refine Zb (cq _ _ ?_)
   refine Zg fun dg b2 => ?_
   refine Zx ?_
   refine Zg fun dh cr => ?_
   refine Zc (Za rfl rfl (Zd rfl) (Za rfl rfl (Zf rfl) (Ze (Zb (cr _ _ ?_)))))
   refine Zg fun di ct => ?_
   refine Zg fun dj cu => ?_
   refine Zc (Za rfl rfl (Zd rfl) (Za rfl rfl (Zd rfl) (Zm rfl rfl ?_)))
   refine (Yw ad Sv.len el142 sz24 rfl rfl rfl om fun bB bC a3 aH => ?_)
   obtain ⟨ag, ah, H⟩ := ae.get a3
   obtain ⟨a4, cv, a5⟩ := bC
   obtain rfl := H.eqn
   have cw := H.len
   replace H : Ls bcs 1 a2 LR_a w.heap.size (.slice a4 ag.length a5) ag := H
   replace aH : At a2 LL_sa w.heap.size bB ([(.slice a4 ag.length a5)]) := aH
   have cx := Zai ha ah
   refine Za rfl rfl (Yr aH agg24 rfl rfl) (Za rfl rfl (Zd rfl) (Zm rfl rfl ?_))
   refine (Yw H Qg el24 sz4 rfl rfl rfl om fun cy bD a6 bE => ?_)
   have ao := Zbp ha ah a6
   refine Za rfl rfl (Yr bE agg4 rfl rfl) (Za rfl rfl (Zbh rfl) (Ze (Zb (cu _ _ ?_))))
   refine Zp rfl (fun O => ?_) (fun O => ?_)
   ·have bF := O
    refine Xe (Zr (Yu ?_))
    refine Zb (b2 _ _ (Zc (Za rfl rfl (Yo om rfl rfl) (Za rfl rfl (Zd rfl) (Ze ?_)))))
    exact Zb (Exists.intro (k + 1) ⟨⟨E, om, om, ad, ae, af, (od.eq (by first | exact Zcm (.inl om) | exact Zcm (.inr (by rw [← ao]; simpa using O))))⟩, sC8 rfl rfl rfl rfl rfl rfl rfl rfl (sC2 rfl rfl (Sub.nil _)), (by first | omega | (dsimp only; omega))⟩)
   have bF := O
   refine Zu ?_
   refine Zb (ct _ _ ?_)
   refine Zg fun dk cz => ?_
   refine Zc (Za rfl rfl (Zd rfl) (Za rfl rfl (Zd rfl) (Zm rfl rfl ?_)))
   have b3 := C.ch0 aG
   refine (Yw b3 Sv.len el142 sz24 rfl rfl rfl om fun bG bH a7 aI => ?_)
   have b4 := T.ch0 aG
   obtain ⟨V, aJ, X⟩ := b4.get a7
   obtain ⟨a8, cA, a9⟩ := bH
   obtain rfl := X.eqn
   have cB := X.len
   replace X : Ls bcs 1 a2 LR_b w.heap.size (.slice a8 V.length a9) V := X
   replace aI : At a2 LL_sb w.heap.size bG ([(.slice a8 V.length a9)]) := aI
   have cC := Zai hb aJ
   refine Za rfl rfl (Yr aI agg24 rfl rfl) (Za rfl rfl (Xc (by rw [el24]; rfl) rfl) (Za rfl rfl (Zd rfl) (Ze (Zb (cz _ _ ?_)))))
   refine Zx ?_
   refine Xi (σ := Nat) (fun (j : Nat) => [(0, (.slice t sa.length u)), (1, (.slice D sb.length F)), (4, (.slice none 0 0)), (5, (.slice h (c).length l)), (6, (.int .i64 ((i : Nat) : Int))), (7, (.int .i64 ((k : Nat) : Int))), (13, (.int .i64 ((sa.length : Nat) : Int))), (14, (.int .i64 ((i : Nat) : Int))), (15, (.bool (decide (((i : Nat) : Int) < ((sa.length : Nat) : Int))))), (21, (.int .i64 ((x.length : Nat) : Int))), (22, (.int .i64 ((k : Nat) : Int))), (23, (.bool (decide (((k : Nat) : Int) < ((x.length : Nat) : Int))))), (32, (.bool (!bD))), (37, (.int .i64 ((V.length : Nat) : Int))), (38, (.int .i64 ((j : Nat) : Int)))]) (fun (j : Nat) wx => Ch [] w wx ∧ a2.heap.size ≤ wx.heap.size ∧ (j ≤ n) ∧ Ls Sv.cs 1 wx LL_sa w.heap.size (.slice t sa.length u) sa ∧ Rd bcs 1 wx LR_a w.heap.size sa a ∧ Ls Sv.cs 1 wx LL_sb w.heap.size (.slice D sb.length F) sb ∧ Rd bcs 1 wx LR_b w.heap.size sb b ∧ Ol Sv.cs 24 1 wx (.slice h (c).length l) c ∧ Od bcs 4 1 wx w.heap.size W3.heap.size c (grd n (mupt n A B i k j))) (fun (j : Nat) => n - j) 0 (sC8 rfl rfl rfl rfl rfl rfl rfl rfl (sC4 rfl rfl rfl rfl (sC2 rfl rfl (sC1 rfl (Sub.nil _))))) ⟨E, (Nat.le_refl _), om, ad, ae, b3, b4, af, (od.eq rfl)⟩ ?_
   rintro j cD ⟨E, cE, hj, ai, aj, ax, ay, Y, od⟩
   have bI := E
   have b5 := bI.size
   refine Zg fun dl cF => ?_
   refine Zc (Za rfl rfl (Xs rfl rfl) (Ze (Zb (cF _ _ ?_))))
   refine Zg fun dm cG => ?_
   refine Zp rfl (fun P => ?_) (fun P => ?_)
   ·have bJ := P
    have P := Yi P
    refine Zu ?_
    refine Zb (cG _ _ ?_)
    refine Zg fun dn b6 => ?_
    refine Zx ?_
    refine Zg fun dp cH => ?_
    refine Zc (Za rfl rfl (Zd rfl) (Za rfl rfl (Zf rfl) (Ze (Zb (cH _ _ ?_)))))
    have aK := (od).1
    rw [Ql] at aK
    obtain ⟨Z, ak, aL⟩ := Ol.lsE Y om
    obtain ⟨ba, r⟩ := Zdx (xs := c) (j := i) om
    have bb : Sep (.slice h (c).length l) c := o
    have y := bb _ (Xw r)
    obtain ⟨m, f, s, al⟩ := od.ownget r
    have aa := r
    obtain ⟨p, b7, q⟩ := ba
    obtain rfl := s.ls.eqn
    have b8 := s.len
    have e : Lo w.heap.size (.slice p m.length q) := fun g hg => (al g hg).1
    have az : ∀ g ∈ bl (.slice p m.length q), g < W3.heap.size := fun g hg => (al g hg).2
    replace s : Ol bcs 4 1 cD (.slice p m.length q) m := s
    have b9 := Zai rfl f
    refine Xb (bl (.slice p m.length q)) 23 mixed rfl fun aT J => ?_
    have cI := J.size
    have E := E.trans J
    refine dV 0 rfl rfl rfl (fun _ => Zd rfl) (dV 1 rfl rfl rfl (fun _ => Zd rfl) ?_)
    have ca := aL.ch0 J
    refine dT 2 rfl rfl rfl (Xo ca Sv.len el142 sz24 rfl rfl rfl om fun bK cJ bc aM => ?_)
    obtain rfl := Zbt r bc
    replace aM : At aT Z (Z + 1) bK ([(.slice p m.length q)]) := aM
    refine dT 3 rfl rfl rfl (Yx aM (fun i hm => Zgf (y i hm) ak) agg24 rfl rfl ?_)
    refine dV 4 rfl rfl rfl (fun _ => Zd rfl) (dV 5 rfl rfl rfl (fun _ => Zd rfl) (dV 6 rfl rfl rfl (fun _ => Zd rfl) ?_))
    refine dT 7 rfl rfl rfl (Xo ca Sv.len el142 sz24 rfl rfl rfl om fun bL cK be aN => ?_)
    obtain rfl := Zbt r be
    replace aN : At aT Z (Z + 1) bL ([(.slice p m.length q)]) := aN
    refine dT 8 rfl rfl rfl (Yx aN (fun i hm => Zgf (y i hm) ak) agg24 rfl rfl ?_)
    refine dV 9 rfl rfl rfl (fun _ => Zd rfl) (dO 10 (Zz rfl rfl rfl ?_))
    have bf := s.ch0 J
    refine (Yw bf.ls Qg el24 sz4 rfl rfl rfl om fun cL cM ab bM => ?_)
    refine ⟨(Ch.refl _ _), ?_⟩
    refine dO 11 (Zz rfl rfl rfl ?_)
    refine s_v (Yr bM agg4 rfl rfl) ?_
    refine ⟨(Ch.refl _ _), ?_⟩
    refine dV 12 rfl rfl rfl (fun _ => Zd rfl) ?_
    refine Qn (d := 53) rfl (fun Q => ?_) (fun Q => ?_)
    ·have bN := Q
     refine dK 13 rfl rfl rfl (dK 14 rfl rfl rfl (dK 15 rfl rfl rfl (dK 16 rfl rfl rfl (dK 17 rfl rfl rfl (dK 18 rfl rfl rfl (dK 19 rfl rfl rfl (dV 20 rfl rfl rfl (fun _ => Ya rfl rfl) ?_)))))))
     refine dO 21 (Zz rfl rfl rfl ?_)
     refine Qj (j := j) bf el24 sz4 rfl rfl rfl om fun bO bP bg aO => ?_
     refine ⟨(Ch.refl _ _), ?_⟩
     refine dO 22 (Zz rfl rfl rfl ?_)
     refine Qk (j := j) true bf aO Qg sz4 rfl rfl rfl rfl om fun cN bh ap => ?_
     have cO := od.ch0 J
     have cP := ap.size
     have E := E.step ap (fun i hi => .inl (by have am := e _ hi; omega))
     have aP := Od.set cO aa f ap bh
     have bi : Ch (bl (.slice p m.length q)) aT cN := ((Ch.refl _ _).step ap (fun i hm => by exact .inr hm))
     refine ⟨bi, ?_⟩
     refine Yc (by kernel_rfl) ?_
     refine Zw (Zb (b6 _ _ (Zc (Za rfl rfl (Yo om rfl rfl) (Za rfl rfl (Zd rfl) (Ze ?_))))))
     have cQ := (ai.ch0 J).ch ap (fun i hi => by have am := e _ hi; omega)
     have cR := (aj.ch0 J).ch ap (fun i hi => by have am := e _ hi; omega)
     have cS := (ax.ch0 J).ch ap (fun i hi => by have am := e _ hi; omega)
     have cT := (ay.ch0 J).ch ap (fun i hi => by have am := e _ hi; omega)
     have cU := (Y.ch0 J).ch ap (fun g hg hm => by exact y _ hm hg)
     exact Zb (Exists.intro (j + 1) ⟨⟨E, om, om, cQ, cR, cS, cT, cU, (aP.eq (Zez rfl f (by rw [← ao]; simpa using O) (by first | (have aQ := Zbp rfl f ab; simp [← aQ, Q]; done) | (have aQ := Zbp rfl f ab; have bQ := Zbp hb R aA; simp [← aQ, ← bQ, Q]; done))))⟩, sC8 rfl rfl rfl rfl rfl rfl rfl rfl (sC4 rfl rfl rfl rfl (sC2 rfl rfl (sC1 rfl (Sub.nil _)))), (by first | omega | (dsimp only; omega))⟩)
    have bN := Q
    refine dV 13 rfl rfl rfl (fun _ => Zd rfl) (dV 14 rfl rfl rfl (fun _ => Zd rfl) ?_)
    have cb := ax.ch0 J
    have cc := ay.ch0 J
    refine dT 15 rfl rfl rfl (Xo cb Sv.len el142 sz24 rfl rfl rfl om fun bR bS bj aR => ?_)
    obtain ⟨an, R, I⟩ := cc.get bj
    obtain ⟨bk, cV, bm⟩ := bS
    obtain rfl := I.eqn
    have cW := I.len
    replace I : Ls bcs 1 aT LR_b w.heap.size (.slice bk an.length bm) an := I
    replace aR : At aT LL_sb w.heap.size bR ([(.slice bk an.length bm)]) := aR
    have cX := Zai hb R
    refine dT 16 rfl rfl rfl (Yx aR (fun i hm => by have am := e _ hm; have cY := az _ hm; omega) agg24 rfl rfl ?_)
    refine dV 17 rfl rfl rfl (fun _ => Zd rfl) ?_
    refine dT 18 rfl rfl rfl (Xo I Qg el24 sz4 rfl rfl rfl om fun cZ bT aA bU => ?_)
    refine dT 19 rfl rfl rfl (Yx bU (fun i hm => by have am := e _ hm; have cY := az _ hm; omega) agg4 rfl rfl ?_)
    refine dV 20 rfl rfl rfl (fun _ => Yb rfl rfl) (dO 21 (Zz rfl rfl rfl ?_))
    refine Qj (j := j) bf el24 sz4 rfl rfl rfl om fun bO bP bg aO => ?_
    refine ⟨(Ch.refl _ _), ?_⟩
    refine dO 22 (Zz rfl rfl rfl ?_)
    refine Qk (j := j) bT bf aO Qg sz4 rfl rfl rfl rfl om fun c0 bn aq => ?_
    have c1 := od.ch0 J
    have c2 := aq.size
    have E := E.step aq (fun i hi => .inl (by have am := e _ hi; omega))
    have aS := Od.set c1 aa f aq bn
    have bp : Ch (bl (.slice p m.length q)) aT c0 := ((Ch.refl _ _).step aq (fun i hm => by exact .inr hm))
    refine ⟨bp, ?_⟩
    refine Yc (by kernel_rfl) ?_
    refine Zw (Zb (b6 _ _ (Zc (Za rfl rfl (Yo om rfl rfl) (Za rfl rfl (Zd rfl) (Ze ?_))))))
    have c3 := (ai.ch0 J).ch aq (fun i hi => by have am := e _ hi; omega)
    have c4 := (aj.ch0 J).ch aq (fun i hi => by have am := e _ hi; omega)
    have c5 := cb.ch aq (fun i hi => by have am := e _ hi; omega)
    have c6 := cc.ch aq (fun i hi => by have am := e _ hi; omega)
    have c7 := (Y.ch0 J).ch aq (fun g hg hm => by exact y _ hm hg)
    exact Zb (Exists.intro (j + 1) ⟨⟨E, om, om, c3, c4, c5, c6, c7, (aS.eq (Zez rfl f (by rw [← ao]; simpa using O) (by first | (have aQ := Zbp rfl f ab; simp [← aQ, Q]; done) | (have aQ := Zbp rfl f ab; have bQ := Zbp hb R aA; simp [← aQ, ← bQ, Q]; done))))⟩, sC8 rfl rfl rfl rfl rfl rfl rfl rfl (sC4 rfl rfl rfl rfl (sC2 rfl rfl (sC1 rfl (Sub.nil _)))), (by first | omega | (dsimp only; omega))⟩)
   have bJ := P
   have P := Yj P
   refine Xe (Zr (Zr (Yu ?_)))
   refine Zw (Zb (b2 _ _ (Zc (Za rfl rfl (Yo om rfl rfl) (Za rfl rfl (Zd rfl) (Ze ?_))))))
   exact Zb (Exists.intro (k + 1) ⟨⟨E, om, om, ai, aj, Y, (od.eq (by first | exact Zcm (.inl om) | exact Zcm (.inr (by rw [← ao]; simpa using O))))⟩, sC8 rfl rfl rfl rfl rfl rfl rfl rfl (sC2 rfl rfl (Sub.nil _)), (by first | omega | (dsimp only; omega))⟩)
  have bA := M
  have M := Yj M
  refine Xe (Zr (Zr (Yu ?_)))
  refine Zw (Zb (ci _ _ (Zc (Za rfl rfl (Yo om rfl rfl) (Za rfl rfl (Zd rfl) (Ze ?_))))))
  exact Zb (Exists.intro (i + 1) ⟨⟨E, om, om, af, (od.eq (Zla om))⟩, sC4 rfl rfl rfl rfl (sC2 rfl rfl (Sub.nil _)), (by first | omega | (dsimp only; omega))⟩)
 have cg := L
 have L := Yj L
 refine Xe (Zr (Zr (Yu ?_)))
 refine Zb (H4 _ _ ?_)
 refine Zg fun dq c8 => ?_
 refine Zc (Za rfl rfl (Zd rfl) (Za rfl rfl (Zf rfl) (Ze (Zb (c8 _ _ ?_)))))
 refine Zq ?_
 have bq : Ol Sv.cs 24 1 R6 (.slice h (c).length l) c := by
  have hx := aw
  exact hx
 have br : Od bcs 4 1 R6 w.heap.size R6.heap.size c (grd n (mulM n A B)) := by
  have hx := od.up (lo' := w.heap.size) (hi' := R6.heap.size) om om
  rwa [Zna om] at hx
 exact Zi [_] ⟨rfl, trivial⟩ ⟨(.slice h (c).length l), c, rfl, bq, (Lo.down ac om), br, o, E⟩

/-- impl.tree).reach -/
theorem Zeo : ∀ (n : Nat) {w : World} {LT_x c9 : Nat} {p_x : Addr} {x : Tr} (bQ : TrAt w LT_x c9 p_x x) {LL_word a6 : Nat} {ae : Value} {word : List Int} (c : Ls ics 1 w LL_word a6 ae word) (hok : Okd x) (hw : word.length ≤ 4096) (hsz : x.sz < n),
 Ctr Try.prog 114 #[(.pointer (some p_x)), ae] w (fun v w' => ∃ (eo : Value) (vs0 : List Sv), v = eo ∧ Ol Sv.cs 24 1 w' eo vs0 ∧ Lo w.heap.size eo ∧ Od bcs 4 1 w' w.heap.size w'.heap.size vs0 (grd (word.length + 1) (mtT word x)) ∧ Sep eo vs0 ∧ Ch [] w w') := by
 intro n
 induction n with
 | zero => intros; omega
 | succ n ih =>
 intro w LT_x c9 p_x x bQ LL_word a6 ae word c hok hw hsz
 have bQ := bQ.here
 obtain ⟨bv, bw, u, da, a7, ap⟩ := bQ.open
 have gN := ap.1
 obtain ⟨y, z, bx⟩ := c.val
 subst bx
 have ep := c.len
 have c := c.here (by decide)
 have E := Ch.refl [] w
 have k2 := hok.len
 refine Ye (N := 145) (vs0 := [(.pointer (some p_x)), (.slice y word.length z)]) Try.func114 rfl rfl rfl ?_
 refine Zg fun K1 H1 => ?_
 refine Zc (Za rfl rfl (Zf rfl) (Ze (Zb (H1 _ _ ?_))))
 refine Zg fun K2 H2 => ?_
 refine Zc (Za rfl rfl (Zd rfl) (Za rfl rfl (Xc (by rw [el30]; rfl) rfl) (Za rfl rfl (Yo om rfl rfl) (Za rfl rfl (Zf rfl) (Ze (Zb (H2 _ _ ?_)))))))
 refine Zg fun K3 H3 => ?_
 refine Zc (Za rfl rfl (Zd rfl) (Zm rfl rfl ?_))
 refine Step.call (Zl (xs := [.tmp 16, .const (Go.Value.bool false)]) fk131 rfl) (Zbr (word.length + 1) _ om) fun hP W4 eL => ?_
 obtain ⟨gO, a, rfl, A, M, p, d, C4⟩ := eL
 have jv := C4.size
 have E := E.trans C4
 obtain ⟨f, h, rfl, eM, db⟩ := A.opn
 refine Za rfl rfl (Zf rfl) (Ze (Zb (H3 _ _ ?_)))
 refine Zg fun K5 H5 => ?_
 refine Zg fun K6 H6 => ?_
 refine Zc (Za rfl rfl (Zd rfl) (Za rfl rfl (Yf rfl) (Za rfl rfl (Zh fa131_0 rfl) (Za rfl rfl (Qo (n := 0) fa84_0 rfl rfl) ?_))))
 have F7 := da.ch0 C4
 refine Za rfl rfl (Zk F7 agg3 rfl rfl) (Ze (Zb (H6 _ _ ?_)))
 refine Zx ?_
 refine Zg fun K8 H8 => ?_
 refine Zc (Za rfl rfl (Yy rfl rfl) (Za rfl rfl (Zf rfl) (Ze (Zb (H8 _ _ ?_)))))
 refine Zp rfl (fun aM => ?_) (fun aM => ?_)
 ·have hQ := aM
  have aM := Yi aM
  have hR := mt2 (w := word) hok om
  refine Zc (Za rfl rfl (Zd rfl) (Zm rfl rfl ?_))
  refine Step.call (Zl (xs := [.tmp 25, .const (Go.Value.bool true)]) fk131 rfl) (Zbr (word.length + 1) _ om) fun hS er eN => ?_
  obtain ⟨gP, B, rfl, aq, bp, aN, au, gQ⟩ := eN
  have hT := gQ.size
  have E := E.trans gQ
  obtain ⟨bz, bA, rfl, eO, dc⟩ := aq.opn
  refine Za rfl rfl (Zf rfl) (Ze (Zw (Zb (H5 _ _ ?_))))
  refine Zg fun jw hU => ?_
  refine Zc (Za rfl rfl (Zd rfl) (Za rfl rfl (Zf rfl) (Ze (Zb (hU _ _ ?_)))))
  refine Zq ?_
  have dd : Ol Sv.cs 24 1 er (.slice bz (B).length bA) B := by
   have hx := aq
   exact hx
  have de : Od bcs 4 1 er w.heap.size er.heap.size B (grd (word.length + 1) (mtT word x)) := by
   have hx := aN.up (lo' := w.heap.size) (hi' := er.heap.size) om om
   first | (rw [hR]; exact hx) | fail
  exact Zi [_] ⟨rfl, trivial⟩ ⟨(.slice bz (B).length bA), B, rfl, dd, (Lo.down bp om), de, au, E⟩
 have hQ := aM
 have aM := Yj aM
 refine Zg fun jx hV => ?_
 refine Zc (Za rfl rfl (Yy rfl rfl) (Za rfl rfl (Zf rfl) (Ze (Zb (hV _ _ ?_)))))
 refine Zp rfl (fun aO => ?_) (fun aO => ?_)
 ·have eP := aO
  have aO := Yi aO
  have hW := mt3 (w := word) hok om
  refine Zg fun jy hX => ?_
  refine Zc (Za rfl rfl (Zd rfl) (Za rfl rfl (Xc (by rw [el30]; rfl) rfl) (Za rfl rfl (Zd rfl) (Ze (Zb (hX _ _ ?_))))))
  refine Zx ?_
  refine Xi (σ := Nat) (fun (i : Nat) => [(0, (.pointer (some p_x))), (1, (.slice y word.length z)), (4, (.slice none 0 0)), (5, (.int .i64 (((word.length : Nat) : Int) + 1))), (6, (.slice f (a).length h)), (22, (.int .i64 x.tok.kind)), (29, (.slice y word.length z)), (30, (.int .i64 ((word.length : Nat) : Int))), (31, (.int .i64 ((i : Nat) : Int)))]) (fun (i : Nat) wx => Ch [] w wx ∧ W4.heap.size ≤ wx.heap.size ∧ (i ≤ word.length) ∧ At wx LT_x w.heap.size p_x ([.int .i64 x.tok.kind, .int .i64 x.tok.letter, .int .i64 x.tok.low, .int .i64 x.tok.high, (.slice bv u.length bw)]) ∧ Ol Sv.cs 24 1 wx (.slice f (a).length h) a ∧ Od bcs 4 1 wx w.heap.size W4.heap.size a (grd (word.length + 1) (lupt x.tok.letter word i))) (fun (i : Nat) => word.length - i) 0 (sC8 rfl rfl rfl rfl rfl rfl rfl rfl (sC1 rfl (Sub.nil _))) ⟨E, (Nat.le_refl _), om, F7, A, (p.eq Zkz)⟩ ?_
  rintro i df ⟨E, hY, hi, dg, bB, od⟩
  have dh := E
  have gR := dh.size
  refine Zg fun jz hZ => ?_
  refine Zc (Za rfl rfl (Xs rfl rfl) (Ze (Zb (hZ _ _ ?_))))
  refine Zg fun jA h0 => ?_
  refine Zp rfl (fun aP => ?_) (fun aP => ?_)
  ·have eQ := aP
   have aP := Yi aP
   refine Zu ?_
   refine Zb (h0 _ _ ?_)
   refine Zg fun jB h1 => ?_
   refine Zx ?_
   refine Zg fun jC h2 => ?_
   refine Zc (Za rfl rfl (Zd rfl) (Zm rfl rfl ?_))
   have h3 := c.ch0 dh
   refine (Yw h3 Xg el30 sz3 rfl rfl rfl om fun h4 eR di eS => ?_)
   refine Za rfl rfl (Yr eS agg3 rfl rfl) (Za rfl rfl (Zf rfl) (Za rfl rfl (Zf rfl) (Ze (Zb (h2 _ _ ?_)))))
   have cq := (od).1
   rw [Ql] at cq
   obtain ⟨b6, cr, ct⟩ := Ol.lsE bB om
   obtain ⟨dj, af⟩ := Zdx (xs := a) (j := i) om
   have dk : Sep (.slice f (a).length h) a := d
   have bC := dk _ (Xw af)
   obtain ⟨q, ag, P, bD⟩ := od.ownget af
   have bR := af
   obtain ⟨V, gS, X⟩ := dj
   obtain rfl := P.ls.eqn
   have gT := P.len
   have aQ : Lo w.heap.size (.slice V q.length X) := fun g hg => (bD g hg).1
   have dl : ∀ g ∈ bl (.slice V q.length X), g < W4.heap.size := fun g hg => (bD g hg).2
   replace P : Ol bcs 4 1 df (.slice V q.length X) q := P
   have gU := Zai rfl ag
   refine Xb (bl (.slice V q.length X)) 15 mixed rfl fun gV cu => ?_
   have h5 := cu.size
   have E := E.trans cu
   refine dV 0 rfl rfl rfl (fun _ => Zd rfl) (dV 1 rfl rfl rfl (fun _ => Zd rfl) ?_)
   have h6 := ct.ch0 cu
   refine dT 2 rfl rfl rfl (Xo h6 Sv.len el142 sz24 rfl rfl rfl om fun eT h7 dm cv => ?_)
   obtain rfl := Zbt af dm
   replace cv : At gV b6 (b6 + 1) eT ([(.slice V q.length X)]) := cv
   refine dT 3 rfl rfl rfl (Yx cv (fun i hm => Zgf (bC i hm) cr) agg24 rfl rfl ?_)
   refine dV 4 rfl rfl rfl (fun _ => Zd rfl) (dV 5 rfl rfl rfl (fun _ => Yo om rfl rfl) (dV 6 rfl rfl rfl (fun _ => Zd rfl) (dV 7 rfl rfl rfl (fun _ => Zd rfl) (dV 8 rfl rfl rfl (fun _ => Yf rfl) (dV 9 rfl rfl rfl (fun _ => Zh fa131_0 rfl) (dV 10 rfl rfl rfl (fun _ => Qo (n := 1) fa84_1 rfl rfl) ?_))))))
   have gW := dg.ch0 cu
   refine dT 11 rfl rfl rfl (Xh gW (fun i hm => by have gX := aQ _ hm; have jD := dl _ hm; omega) agg3 rfl rfl ?_)
   refine dV 12 rfl rfl rfl (fun _ => Yy rfl rfl) (dO 13 (Zz rfl rfl rfl ?_))
   have gY := P.ch0 cu
   refine Qj (j := (i + 1)) gY el24 sz4 rfl rfl rfl om fun h8 h9 gZ eU => ?_
   refine ⟨(Ch.refl _ _), ?_⟩
   refine dO 14 (Zz rfl rfl rfl ?_)
   refine Qk (j := (i + 1)) (decide (eR = x.tok.letter)) gY eU Qg sz4 rfl rfl rfl rfl om fun ia dn cV => ?_
   have ib := od.ch0 cu
   have ic := cV.size
   have E := E.step cV (fun i hi => .inl (by have gX := aQ _ hi; omega))
   have cw := Od.set ib bR ag cV dn
   have dp : Ch (bl (.slice V q.length X)) gV ia := ((Ch.refl _ _).step cV (fun i hm => by exact .inr hm))
   refine ⟨dp, ?_⟩
   refine Yc (by kernel_rfl) ?_
   refine Zw (Zb (h1 _ _ (Zc (Za rfl rfl (Yo om rfl rfl) (Za rfl rfl (Zd rfl) (Ze ?_))))))
   have ie := gW.ch cV (fun i hi => by have gX := aQ _ hi; omega)
   have ig := (bB.ch0 cu).ch cV (fun g hg hm => by exact bC _ hm hg)
   exact Zb (Exists.intro (i + 1) ⟨⟨E, om, om, ie, ig, (cw.eq (Zln rfl ag di rfl))⟩, sC8 rfl rfl rfl rfl rfl rfl rfl rfl (sC1 rfl (Sub.nil _)), (by first | omega | (dsimp only; omega))⟩)
  have eQ := aP
  have aP := Yj aP
  refine Xe (Zr (Zr (Yu ?_)))
  refine Zw (Zb (H5 _ _ ?_))
  refine Zg fun jE ii => ?_
  refine Zc (Za rfl rfl (Zd rfl) (Za rfl rfl (Zf rfl) (Ze (Zb (ii _ _ ?_)))))
  refine Zq ?_
  have dq : Ol Sv.cs 24 1 df (.slice f (a).length h) a := by
   have hx := bB
   exact hx
  have dr : Od bcs 4 1 df w.heap.size df.heap.size a (grd (word.length + 1) (mtT word x)) := by
   have hx := od.up (lo' := w.heap.size) (hi' := df.heap.size) om om
   first | exact hx.eq (by rw [hW]; exact Zns rfl om) | fail
  exact Zi [_] ⟨rfl, trivial⟩ ⟨(.slice f (a).length h), a, rfl, dq, (Lo.down M om), dr, d, E⟩
 have eP := aO
 have aO := Yj aO
 refine Zg fun jF ij => ?_
 refine Zc (Za rfl rfl (Yy rfl rfl) (Za rfl rfl (Zf rfl) (Ze (Zb (ij _ _ ?_)))))
 refine Zp rfl (fun aR => ?_) (fun aR => ?_)
 ·have eV := aR
  have aR := Yi aR
  obtain ⟨ta, tb, r, aS, oa, ob, sab, ga, gb⟩ := hok.kk2 om
  have ik := mt4 (w := word) om r aS
  refine Xb [] 18 mixed rfl fun ds cW => ?_
  have il := cW.size
  have E := E.trans cW
  refine dV 0 rfl rfl rfl (fun _ => Zd rfl) (dV 1 rfl rfl rfl (fun _ => Yf rfl) (dV 2 rfl rfl rfl (fun _ => Zh fa131_1 rfl) ?_))
  have g0 := F7.ch0 cW
  refine dT 3 rfl rfl rfl (Xh g0 (fun i hi => absurd hi List.not_mem_nil) agg129 rfl rfl ?_)
  have g1 := (a7.ch0 C4).ch0 cW
  have g2 := (ap.ch0 C4).ch0 cW
  refine dT 4 rfl rfl rfl (Xo (j := 0) g1 Zao el129 sz88 rfl rfl rfl om fun eW eX dt cx => ?_)
  have im := r
  have b7 := g2.2 _ _ _ dt r
  obtain ⟨g3, g4, eY, eZ, e0, cy⟩ := b7.open
  have e1 := cy.1
  replace cx : At ds LT_x w.heap.size eW ([(.pointer (some eX))]) := cx
  refine dT 5 rfl rfl rfl (Yx cx (fun i hi => absurd hi List.not_mem_nil) agg88 rfl rfl ?_)
  refine dV 6 rfl rfl rfl (fun _ => Zd rfl) (dV 8 rfl rfl rfl (fun _ => Zd rfl) (dV 9 rfl rfl rfl (fun _ => Yf rfl) (dV 10 rfl rfl rfl (fun _ => Zh fa131_1 rfl) ?_)))
  refine dT 11 rfl rfl rfl (Xh g0 (fun i hi => absurd hi List.not_mem_nil) agg129 rfl rfl ?_)
  refine dT 12 rfl rfl rfl (Xo (j := 1) g1 Zao el129 sz88 rfl rfl rfl om fun e2 e3 du cz => ?_)
  have io := aS
  have b8 := g2.2 _ _ _ du aS
  obtain ⟨g5, g6, e4, e5, e6, cA⟩ := b8.open
  have e7 := cA.1
  replace cz : At ds LT_x w.heap.size e2 ([(.pointer (some e3))]) := cz
  refine dT 13 rfl rfl rfl (Yx cz (fun i hi => absurd hi List.not_mem_nil) agg88 rfl rfl ?_)
  refine dV 14 rfl rfl rfl (fun _ => Zd rfl) (dO 7 (Zz rfl rfl rfl ?_))
  have g7 := (c.ch0 C4).ch0 cW
  refine Step.call (Zl (xs := [.tmp 58, .tmp 59]) fk114 rfl) (ih b7 g7 oa hw om) fun ip iq e8 => ?_
  obtain ⟨g8, es, rfl, av, cX, aT, b9, dv⟩ := e8
  have ir := dv.size
  have E := E.trans dv
  obtain ⟨e9, fa, rfl, fb, dw⟩ := av.opn
  have ca : Ch [] ds iq := ((Ch.refl _ _).trans dv)
  refine ⟨ca, ?_⟩
  refine dO 15 (Zz rfl rfl rfl ?_)
  have it := b8.ch0 dv
  have iu := g7.ch0 dv
  refine Step.call (Zl (xs := [.tmp 66, .tmp 67]) fk114 rfl) (ih it iu ob hw om) fun iv iw fc => ?_
  obtain ⟨g9, et, rfl, aw, cY, aU, cb, dx⟩ := fc
  have ix := dx.size
  have E := E.trans dx
  obtain ⟨fd, fe, rfl, ff, dy⟩ := aw.opn
  have cc : Ch [] ds iw := (ca.trans dx)
  refine ⟨cc, ?_⟩
  refine dO 16 (Zz rfl rfl rfl ?_)
  have iy := aT.ch0 dx
  have iz := av.ch0 dx
  refine Step.call (Zl (xs := [.tmp 60, .tmp 68]) fk132 rfl) (Zcb iz.ls iy.rd aw.ls aU.rd (word.length + 1) (mtT word ta) (mtT word tb) rfl rfl (Qr _ _) (Qr _ _) om) fun iA dz fg => ?_
  obtain ⟨ha, C, rfl, ax, bq, aV, ay, fh⟩ := fg
  have iB := fh.size
  have E := E.trans fh
  obtain ⟨bE, bF, rfl, fi, dA⟩ := ax.opn
  have dB : Ch [] ds dz := (cc.trans fh)
  refine ⟨dB, ?_⟩
  refine dV 17 rfl rfl rfl (fun _ => Zf rfl) ?_
  refine Yc (by kernel_rfl) ?_
  refine Zw (Zb (H5 _ _ ?_))
  refine Zg fun jG iC => ?_
  refine Zc (Za rfl rfl (Zd rfl) (Za rfl rfl (Zf rfl) (Ze (Zb (iC _ _ ?_)))))
  refine Zq ?_
  have dC : Ol Sv.cs 24 1 dz (.slice bE (C).length bF) C := by
   have hx := ax
   exact hx
  have dD : Od bcs 4 1 dz w.heap.size dz.heap.size C (grd (word.length + 1) (mtT word x)) := by
   have hx := aV.up (lo' := w.heap.size) (hi' := dz.heap.size) om om
   first | (rw [ik]; exact hx) | fail
  exact Zi [_] ⟨rfl, trivial⟩ ⟨(.slice bE (C).length bF), C, rfl, dC, (Lo.down bq om), dD, ay, E⟩
 have eV := aR
 have aR := Yj aR
 refine Zg fun jH iD => ?_
 refine Zc (Za rfl rfl (Yy rfl rfl) (Za rfl rfl (Zf rfl) (Ze (Zb (iD _ _ ?_)))))
 refine Zp rfl (fun aW => ?_) (fun aW => ?_)
 ·have fj := aW
  have aW := Yi aW
  obtain ⟨ta, tb, r, aS, oa, ob, sab, ga, gb⟩ := hok.kk2 om
  have iE := mt5 (w := word) om r aS
  refine Xb [] 18 mixed rfl fun dE cZ => ?_
  have iF := cZ.size
  have E := E.trans cZ
  refine dV 0 rfl rfl rfl (fun _ => Zd rfl) (dV 1 rfl rfl rfl (fun _ => Yf rfl) (dV 2 rfl rfl rfl (fun _ => Zh fa131_1 rfl) ?_))
  have hb := F7.ch0 cZ
  refine dT 3 rfl rfl rfl (Xh hb (fun i hi => absurd hi List.not_mem_nil) agg129 rfl rfl ?_)
  have hc := (a7.ch0 C4).ch0 cZ
  have hd := (ap.ch0 C4).ch0 cZ
  refine dT 4 rfl rfl rfl (Xo (j := 0) hc Zao el129 sz88 rfl rfl rfl om fun fk fl dF cB => ?_)
  have iG := r
  have cd := hd.2 _ _ _ dF r
  obtain ⟨he, hf, fm, fn, fo, cC⟩ := cd.open
  have fp := cC.1
  replace cB : At dE LT_x w.heap.size fk ([(.pointer (some fl))]) := cB
  refine dT 5 rfl rfl rfl (Yx cB (fun i hi => absurd hi List.not_mem_nil) agg88 rfl rfl ?_)
  refine dV 6 rfl rfl rfl (fun _ => Zd rfl) (dV 8 rfl rfl rfl (fun _ => Zd rfl) (dV 9 rfl rfl rfl (fun _ => Yf rfl) (dV 10 rfl rfl rfl (fun _ => Zh fa131_1 rfl) ?_)))
  refine dT 11 rfl rfl rfl (Xh hb (fun i hi => absurd hi List.not_mem_nil) agg129 rfl rfl ?_)
  refine dT 12 rfl rfl rfl (Xo (j := 1) hc Zao el129 sz88 rfl rfl rfl om fun fq fr dG cD => ?_)
  have iH := aS
  have ce := hd.2 _ _ _ dG aS
  obtain ⟨hh, hj, fs, ft, fu, cE⟩ := ce.open
  have fv := cE.1
  replace cD : At dE LT_x w.heap.size fq ([(.pointer (some fr))]) := cD
  refine dT 13 rfl rfl rfl (Yx cD (fun i hi => absurd hi List.not_mem_nil) agg88 rfl rfl ?_)
  refine dV 14 rfl rfl rfl (fun _ => Zd rfl) (dO 7 (Zz rfl rfl rfl ?_))
  have hk := (c.ch0 C4).ch0 cZ
  refine Step.call (Zl (xs := [.tmp 77, .tmp 78]) fk114 rfl) (ih cd hk oa hw om) fun iI iJ fw => ?_
  obtain ⟨hl, eu, rfl, az, c0, aX, cf, dH⟩ := fw
  have iK := dH.size
  have E := E.trans dH
  obtain ⟨fx, fy, rfl, fz, dI⟩ := az.opn
  have cg : Ch [] dE iJ := ((Ch.refl _ _).trans dH)
  refine ⟨cg, ?_⟩
  refine dO 15 (Zz rfl rfl rfl ?_)
  have iL := ce.ch0 dH
  have iM := hk.ch0 dH
  refine Step.call (Zl (xs := [.tmp 85, .tmp 86]) fk114 rfl) (ih iL iM ob hw om) fun iN iO fA => ?_
  obtain ⟨hn, ew, rfl, aA, c1, aY, ci, dJ⟩ := fA
  have iP := dJ.size
  have E := E.trans dJ
  obtain ⟨fB, fC, rfl, fD, dL⟩ := aA.opn
  have cj : Ch [] dE iO := (cg.trans dJ)
  refine ⟨cj, ?_⟩
  refine dO 16 (Zz rfl rfl rfl ?_)
  have iQ := aX.ch0 dJ
  have iR := az.ch0 dJ
  refine Step.call (Zl (xs := [.tmp 79, .tmp 87]) fk133 rfl) (Zdd iR.ls iQ.rd aA.ls aY.rd (word.length + 1) (mtT word ta) (mtT word tb) rfl rfl (Qr _ _) (Qr _ _) om) fun iS dM fE => ?_
  obtain ⟨ho, D, rfl, aB, br, aZ, aC, fF⟩ := fE
  have iT := fF.size
  have E := E.trans fF
  obtain ⟨bG, bH, rfl, fG, dN⟩ := aB.opn
  have dP : Ch [] dE dM := (cj.trans fF)
  refine ⟨dP, ?_⟩
  refine dV 17 rfl rfl rfl (fun _ => Zf rfl) ?_
  refine Yc (by kernel_rfl) ?_
  refine Zw (Zb (H5 _ _ ?_))
  refine Zg fun jI iU => ?_
  refine Zc (Za rfl rfl (Zd rfl) (Za rfl rfl (Zf rfl) (Ze (Zb (iU _ _ ?_)))))
  refine Zq ?_
  have dQ : Ol Sv.cs 24 1 dM (.slice bG (D).length bH) D := by
   have hx := aB
   exact hx
  have dR : Od bcs 4 1 dM w.heap.size dM.heap.size D (grd (word.length + 1) (mtT word x)) := by
   have hx := aZ.up (lo' := w.heap.size) (hi' := dM.heap.size) om om
   first | (rw [iE]; exact hx) | fail
  exact Zi [_] ⟨rfl, trivial⟩ ⟨(.slice bG (D).length bH), D, rfl, dQ, (Lo.down br om), dR, aC, E⟩
 have fj := aW
 have aW := Yj aW
 refine Zg fun jJ iV => ?_
 refine Zc (Za rfl rfl (Yy rfl rfl) (Za rfl rfl (Zf rfl) (Ze (Zb (iV _ _ ?_)))))
 refine Zp rfl (fun a0 => ?_) (fun a0 => ?_)
 ·have fH := a0
  have a0 := Yi a0
  obtain ⟨ta, r, oa, sab, ga⟩ := hok.kk1 om
  have iW := mt6 (w := word) hok om r
  refine Zg fun jK iX => ?_
  refine Zc (Za rfl rfl (Zd rfl) (Zm rfl rfl ?_))
  refine Step.call (Zl (xs := [.tmp 91, .const (Go.Value.bool true)]) fk131 rfl) (Zbr (word.length + 1) _ om) fun iY hp fI => ?_
  obtain ⟨hq, O, rfl, aD, bs, a1, aE, c2⟩ := fI
  have iZ := c2.size
  have E := E.trans c2
  obtain ⟨bI, bJ, rfl, fJ, dU⟩ := aD.opn
  refine Za rfl rfl (Zf rfl) (Ze (Zb (iX _ _ ?_)))
  refine Zg fun jL i0 => ?_
  refine Zc (Za rfl rfl (Zd rfl) (Za rfl rfl (Yf rfl) (Za rfl rfl (Zh fa131_1 rfl) ?_)))
  have hr := F7.ch0 c2
  refine Za rfl rfl (Zk hr agg129 rfl rfl) (Zm rfl rfl ?_)
  have hs := (a7.ch0 C4).ch0 c2
  refine (Yw (j := 0) hs Zao el129 sz88 rfl rfl rfl om fun fK fL dW cF => ?_)
  have ht := (ap.ch0 C4).ch0 c2
  have i1 := r
  have ck := ht.2 _ _ _ dW r
  obtain ⟨hu, hv, fM, fN, fO, cG⟩ := ck.open
  have fP := cG.1
  replace cF : At hp LT_x w.heap.size fK ([(.pointer (some fL))]) := cF
  refine Za rfl rfl (Yr cF agg88 rfl rfl) (Za rfl rfl (Zd rfl) (Zm rfl rfl ?_))
  have hy := (c.ch0 C4).ch0 c2
  refine Step.call (Zl (xs := [.tmp 98, .tmp 99]) fk114 rfl) (ih ck hy oa hw om) fun hz fQ dX => ?_
  obtain ⟨fR, F, rfl, Y, cH, aF, bS, cl⟩ := dX
  have i2 := cl.size
  have E := E.trans cl
  obtain ⟨a8, a9, rfl, ex, c3⟩ := Y.opn
  refine Za rfl rfl (Zf rfl) (Ze (Zb (i0 _ _ ?_)))
  refine Zg fun jM i3 => ?_
  refine Zc (Za rfl rfl (Zd rfl) (Za rfl rfl (Zd rfl) (Ze (Zb (i3 _ _ ?_)))))
  refine Zx ?_
  have i4 := aD.ch0 cl
  have cI : Ol Sv.cs 24 1 fQ (.slice bI (O).length bJ) (O) := by
   have hx := i4
   exact hx
  have i5 := a1.ch0 cl
  have i6 := hr.ch0 cl
  have i7 := hs.ch0 cl
  have i8 := ht.ch0 cl
  have i9 := hy.ch0 cl
  refine Xi (σ := Nat × List Sv × Value) (fun ⟨m, us, ov⟩ => [(0, (.pointer (some p_x))), (1, (.slice y word.length z)), (4, (.slice none 0 0)), (5, (.int .i64 (((word.length : Nat) : Int) + 1))), (6, ov), (9, (.slice a8 (F).length a9)), (22, (.int .i64 x.tok.kind)), (101, (.int .i64 (((word.length : Nat) : Int) + 1))), (102, (.int .i64 ((m : Nat) : Int)))]) (fun ⟨m, us, ov⟩ wx => Ch [] w wx ∧ fQ.heap.size ≤ wx.heap.size ∧ (m ≤ (word.length + 1)) ∧ At wx LT_x w.heap.size p_x ([.int .i64 x.tok.kind, .int .i64 x.tok.letter, .int .i64 x.tok.low, .int .i64 x.tok.high, (.slice bv u.length bw)]) ∧ Ls acs 1 wx LT_x w.heap.size (.slice bv u.length bw) u ∧ Kd wx LT_x w.heap.size u x.kids ∧ Ls ics 1 wx LL_word w.heap.size (.slice y word.length z) word ∧ Ol Sv.cs 24 1 wx (.slice a8 (F).length a9) F ∧ Od bcs 4 1 wx hp.heap.size fQ.heap.size F (grd (word.length + 1) (mtT word ta)) ∧ Ol Sv.cs 24 1 wx ov us ∧ Lo W4.heap.size ov ∧ Od bcs 4 1 wx w.heap.size wx.heap.size us (grd (word.length + 1) (srM (word.length + 1) (mtT word ta) m)) ∧ (Sep ov us)) (fun ⟨m, us, ov⟩ => (word.length + 1) - m) (0, O, (.slice bI (O).length bJ)) (sC8 rfl rfl rfl rfl rfl rfl rfl rfl (sC1 rfl (Sub.nil _))) ⟨E, (Nat.le_refl _), om, i6, i7, i8, i9, Y, aF, cI, bs, ((i5.up om om).eq (by rw [srM])), aE⟩ ?_
  rintro ⟨m, us, ov⟩ ey ⟨E, ja, hm, dY, dZ, d0, d1, cm, cn, ba, cJ, od, bT⟩
  have fS := E
  have hA := fS.size
  obtain ⟨Aov, Cov, rfl, lov, hiov⟩ := ba.opn
  refine Zg fun jN jb => ?_
  refine Zc (Za rfl rfl (Xs rfl rfl) (Ze (Zb (jb _ _ ?_))))
  refine Zg fun jO jc => ?_
  refine Zp rfl (fun Q => ?_) (fun Q => ?_)
  ·have fT := Q
   have Q := Yi Q
   refine Zu ?_
   refine Zb (jc _ _ ?_)
   refine Zg fun jd fU => ?_
   refine Zx ?_
   refine Zc (Za rfl rfl (Zd rfl) (Za rfl rfl (Zd rfl) (Za rfl rfl (Zd rfl) (Zm rfl rfl ?_))))
   refine Step.call (Zl (xs := [.tmp 105, .tmp 106]) fk132 rfl) (Zcb ba.ls od.rd cm.ls cn.rd (word.length + 1) (srM (word.length + 1) (mtT word ta) m) (mtT word ta) rfl rfl (Zku (Qr _ _) _) (Qr _ _) om) fun hB je d2 => ?_
   obtain ⟨fV, d3, rfl, Z, cK, aG, bU, U⟩ := d2
   have hC := U.size
   have E := E.trans U
   obtain ⟨ez, eA, rfl, eB, c4⟩ := Z.opn
   refine Zm rfl rfl ?_
   have fW := od.ch0 U
   have fX := ba.ch0 U
   refine Step.call (Zl (xs := [.tmp 104, .tmp 107]) fk133 rfl) (Zdd fX.ls fW.rd Z.ls aG.rd (word.length + 1) (srM (word.length + 1) (mtT word ta) m) (mulM (word.length + 1) (srM (word.length + 1) (mtT word ta) m) (mtT word ta)) rfl rfl (Zku (Qr _ _) _) ((Zku (Qr _ _) _).mul (Qr _ _)) om) fun hD fY d4 => ?_
   obtain ⟨fZ, G, rfl, aa, a2, aH, ah, aI⟩ := d4
   have hE := aI.size
   have E := E.trans aI
   obtain ⟨bb, bc, rfl, eC, c5⟩ := aa.opn
   refine Za rfl rfl (Zf rfl) (Ze (Zw (Zb (fU _ _ (Zc (Za rfl rfl (Yo om rfl rfl) (Za rfl rfl (Zd rfl) (Ze ?_))))))))
   have bV : Ol Sv.cs 24 1 fY (.slice bb (G).length bc) (G) := by
    have hx := aa
    exact hx
   have f0 := (dY.ch0 U).ch0 aI
   have f1 := (dZ.ch0 U).ch0 aI
   have f2 := (d0.ch0 U).ch0 aI
   have f3 := (d1.ch0 U).ch0 aI
   have f4 := (cm.ch0 U).ch0 aI
   have f5 := (cn.ch0 U).ch0 aI
   exact Zb (Exists.intro ((m + 1), G, (.slice bb (G).length bc)) ⟨⟨E, om, om, f0, f1, f2, f3, f4, f5, bV, (Lo.down a2 om), ((aH.up om om).eq Zuh), ah⟩, sC8 rfl rfl rfl rfl rfl rfl rfl rfl (sC1 rfl (Sub.nil _)), (by first | omega | (dsimp only; omega))⟩)
  have fT := Q
  have Q := Yj Q
  refine Xe (Zr (Zr (Yu ?_)))
  refine Zw (Zb (H5 _ _ ?_))
  refine Zg fun jf f6 => ?_
  refine Zc (Za rfl rfl (Zd rfl) (Za rfl rfl (Zf rfl) (Ze (Zb (f6 _ _ ?_)))))
  refine Zq ?_
  have cL : Ol Sv.cs 24 1 ey (.slice Aov (us).length Cov) us := by
   have hx := ba
   exact hx
  have cM : Od bcs 4 1 ey w.heap.size ey.heap.size us (grd (word.length + 1) (mtT word x)) := by
   have hx := od.up (lo' := w.heap.size) (hi' := ey.heap.size) om om
   first | exact hx.eq (by rw [iW]; exact Zwj (Qr _ _) om) | fail
  exact Zi [_] ⟨rfl, trivial⟩ ⟨(.slice Aov (us).length Cov), us, rfl, cL, (Lo.down cJ om), cM, bT, E⟩
 have fH := a0
 have a0 := Yj a0
 refine Zg fun jg f7 => ?_
 refine Zc (Za rfl rfl (Yy rfl rfl) (Za rfl rfl (Zf rfl) (Ze (Zb (f7 _ _ ?_)))))
 refine Zp rfl (fun R => ?_) (fun R => ?_)
 ·have d5 := R
  have R := Yi R
  obtain ⟨ta, r, oa, sab, ga⟩ := hok.kk1 om
  have jh := mt7 (w := word) hok om r
  have r7 := hok.r7 om
  refine Zg fun ji f8 => ?_
  refine Zc (Za rfl rfl (Zd rfl) (Za rfl rfl (Yf rfl) (Za rfl rfl (Zh fa131_1 rfl) (Za rfl rfl (Zk F7 agg129 rfl rfl) (Zm rfl rfl ?_)))))
  have d6 := a7.ch0 C4
  refine (Yw (j := 0) d6 Zao el129 sz88 rfl rfl rfl om fun d7 d8 cN bK => ?_)
  have d9 := ap.ch0 C4
  have hF := r
  have bL := d9.2 _ _ _ cN r
  obtain ⟨f9, gc, eD, eE, eF, bW⟩ := bL.open
  have eG := bW.1
  replace bK : At W4 LT_x w.heap.size d7 ([(.pointer (some d8))]) := bK
  refine Za rfl rfl (Yr bK agg88 rfl rfl) (Za rfl rfl (Zd rfl) (Zm rfl rfl ?_))
  have gd := c.ch0 C4
  refine Step.call (Zl (xs := [.tmp 117, .tmp 118]) fk114 rfl) (ih bL gd oa hw om) fun hG ea eb => ?_
  obtain ⟨ge, H, rfl, ab, cO, aJ, bX, a3⟩ := eb
  have hH := a3.size
  have E := E.trans a3
  obtain ⟨be, bf, rfl, eH, c6⟩ := ab.opn
  refine Za rfl rfl (Zf rfl) (Ze (Zb (f8 _ _ ?_)))
  refine Zg fun jj gf => ?_
  refine Zc (Za rfl rfl (Zd rfl) (Zm rfl rfl ?_))
  refine Step.call (Zl (xs := [.tmp 120, .const (Go.Value.bool true)]) fk131 rfl) (Zbr (word.length + 1) _ om) fun hI cP ec => ?_
  obtain ⟨gg, I, rfl, ac, a4, aK, ai, aj⟩ := ec
  have hJ := aj.size
  have E := E.trans aj
  obtain ⟨bg, bh, rfl, eI, c7⟩ := ac.opn
  refine Za rfl rfl (Zf rfl) (Ze (Zb (gf _ _ ?_)))
  refine Zg fun jk gh => ?_
  refine Zc (Za rfl rfl (Zf rfl) (Ze (Zb (gh _ _ ?_))))
  refine Zx ?_
  have gi := (A.ch0 a3).ch0 aj
  have bY : Ol Sv.cs 24 1 cP (.slice f (a).length h) (a) := by
   have hx := gi
   exact hx
  have bZ : Ol Sv.cs 24 1 cP (.slice bg (I).length bh) (I) := by
   have hx := ac
   exact hx
  have gj := (p.ch0 a3).ch0 aj
  have gk := (F7.ch0 a3).ch0 aj
  have gl := (d6.ch0 a3).ch0 aj
  have gm := (d9.ch0 a3).ch0 aj
  have gn := ab.ch0 aj
  have gp := aJ.ch0 aj
  refine Xi (σ := Nat × List Sv × List Sv × Value × Value) (fun ⟨k, us, qs, ov, qv⟩ => [(0, (.pointer (some p_x))), (4, (.slice none 0 0)), (6, ov), (10, (.slice be (H).length bf)), (11, qv), (12, (.int .i64 ((k : Nat) : Int)))]) (fun ⟨k, us, qs, ov, qv⟩ wx => Ch [] w wx ∧ cP.heap.size ≤ wx.heap.size ∧ (k ≤ (x.tok.high + 1).toNat) ∧ At wx LT_x w.heap.size p_x ([.int .i64 x.tok.kind, .int .i64 x.tok.letter, .int .i64 x.tok.low, .int .i64 x.tok.high, (.slice bv u.length bw)]) ∧ Ls acs 1 wx LT_x w.heap.size (.slice bv u.length bw) u ∧ Kd wx LT_x w.heap.size u x.kids ∧ Ol Sv.cs 24 1 wx (.slice be (H).length bf) H ∧ Od bcs 4 1 wx W4.heap.size ea.heap.size H (grd (word.length + 1) (mtT word ta)) ∧ Ol Sv.cs 24 1 wx ov us ∧ Lo w.heap.size ov ∧ Ol Sv.cs 24 1 wx qv qs ∧ Lo ea.heap.size qv ∧ Od bcs 4 1 wx w.heap.size wx.heap.size us (grd (word.length + 1) (repM (word.length + 1) (mtT word ta) x.tok.low k)) ∧ Od bcs 4 1 wx w.heap.size wx.heap.size qs (grd (word.length + 1) (powM (word.length + 1) (mtT word ta) k)) ∧ (Sep ov us) ∧ (Sep qv qs)) (fun ⟨k, us, qs, ov, qv⟩ => (x.tok.high + 1).toNat - k) (0, a, I, (.slice f (a).length h), (.slice bg (I).length bh)) (sC4 rfl rfl rfl rfl (sC2 rfl rfl (Sub.nil _))) ⟨E, (Nat.le_refl _), om, gk, gl, gm, gn, gp, bY, M, bZ, a4, ((gj.up om om).eq Znk), ((aK.up om om).eq (by rw [powM])), d, ai⟩ ?_
  rintro ⟨k, us, qs, ov, qv⟩ b0 ⟨E, jl, jP, bi, co, cp, bM, bN, bj, bO, ak, eJ, od, oe, bk, ed⟩
  have gq := E
  have hK := gq.size
  obtain ⟨Aov, Cov, rfl, lov, hiov⟩ := bj.opn
  obtain ⟨Aqv, Cqv, rfl, lqv, hiqv⟩ := ak.opn
  refine Zg fun jm gr => ?_
  refine Zg fun jn gs => ?_
  refine Zc (Za rfl rfl (Zd rfl) (Za rfl rfl (Zd rfl) (Za rfl rfl (Yf rfl) (Za rfl rfl (Zh fa131_0 rfl) (Za rfl rfl (Qo (n := 3) fa84_3 rfl rfl) (Za rfl rfl (Zk bi agg3 rfl rfl) (Za rfl rfl (Zgl rfl rfl) ?_)))))))
  refine Ze (Zb (gs _ _ ?_))
  refine Zp rfl (fun S => ?_) (fun S => ?_)
  ·have ee := S
   have S := Yi S
   refine Zu ?_
   refine Zb (gr _ _ ?_)
   refine Zg fun jo ef => ?_
   refine Zx ?_
   refine Zg fun jp eg => ?_
   refine Zg fun jq gt => ?_
   refine Zc (Za rfl rfl (Zd rfl) (Za rfl rfl (Zd rfl) (Za rfl rfl (Yf rfl) (Za rfl rfl (Zh fa131_0 rfl) (Za rfl rfl (Qo (n := 2) fa84_2 rfl rfl) (Za rfl rfl (Zk bi agg3 rfl rfl) (Za rfl rfl (Zra rfl rfl) ?_)))))))
   refine Ze (Zb (gt _ _ ?_))
   refine Zp rfl (fun T => ?_) (fun T => ?_)
   ·have eh := T
    have T := Yi T
    refine Zc (Za rfl rfl (Zd rfl) (Za rfl rfl (Zd rfl) (Zm rfl rfl ?_)))
    refine Step.call (Zl (xs := [.tmp 138, .tmp 139]) fk133 rfl) (Zdd bj.ls od.rd ak.ls oe.rd (word.length + 1) (repM (word.length + 1) (mtT word ta) x.tok.low k) (powM (word.length + 1) (mtT word ta) k) rfl rfl (Zjn (Qr _ _)) (Zcy (Qr _ _) _) om) fun hL jr ei => ?_
    obtain ⟨gu, J, rfl, ad, a5, aL, al, am⟩ := ei
    have hM := am.size
    have E := E.trans am
    obtain ⟨bm, bn, rfl, eK, c8⟩ := ad.opn
    refine Za rfl rfl (Zf rfl) (Ze (Zb (eg _ _ (Zc (Za rfl rfl (Zd rfl) (Za rfl rfl (Zd rfl) (Zm rfl rfl ?_)))))))
    have gv := oe.ch0 am
    have gw := ak.ch0 am
    have ej := bN.ch0 am
    have ek := bM.ch0 am
    refine Step.call (Zl (xs := [.tmp 141, .tmp 142]) fk132 rfl) (Zcb gw.ls gv.rd ek.ls ej.rd (word.length + 1) (powM (word.length + 1) (mtT word ta) k) (mtT word ta) rfl rfl (Zcy (Qr _ _) _) (Qr _ _) om) fun el em bP => ?_
    obtain ⟨cQ, b, rfl, e, s, o, l, an⟩ := bP
    have hN := an.size
    have E := E.trans an
    obtain ⟨K, L, rfl, b1, bu⟩ := e.opn
    refine Za rfl rfl (Zf rfl) (Ze (Zw (Zb (ef _ _ (Zc (Za rfl rfl (Zd rfl) (Za rfl rfl (Yo om rfl rfl) (Za rfl rfl (Zf rfl) ?_))))))))
    refine Ze ?_
    have gx := ad.ch0 an
    have b2 : Ol Sv.cs 24 1 em (.slice bm (J).length bn) (J) := by
     have hx := gx
     exact hx
    have b3 : Ol Sv.cs 24 1 em (.slice K (b).length L) (b) := by
     have hx := e
     exact hx
    have gy := aL.ch0 an
    have gz := (bi.ch0 am).ch0 an
    have gA := (co.ch0 am).ch0 an
    have gB := (cp.ch0 am).ch0 an
    have gC := ek.ch0 an
    have gD := ej.ch0 an
    exact Zb (Exists.intro ((k + 1), J, b, (.slice bm (J).length bn), (.slice K (b).length L)) ⟨⟨E, om, om, gz, gA, gB, gC, gD, b2, (Lo.down a5 om), b3, (Lo.down s om), ((gy.up om om).eq (Zve om)), ((o.up om om).eq Zjk), al, l⟩, sC4 rfl rfl rfl rfl (sC2 rfl rfl (Sub.nil _)), (by first | omega | (dsimp only; omega))⟩)
   have eh := T
   have T := Yj T
   refine Zu ?_
   refine Zb (eg _ _ (Zc (Za rfl rfl (Zd rfl) (Za rfl rfl (Zd rfl) (Zm rfl rfl ?_)))))
   refine Step.call (Zl (xs := [.tmp 141, .tmp 142]) fk132 rfl) (Zcb ak.ls oe.rd bM.ls bN.rd (word.length + 1) (powM (word.length + 1) (mtT word ta) k) (mtT word ta) rfl rfl (Zcy (Qr _ _) _) (Qr _ _) om) fun el en bP => ?_
   obtain ⟨cQ, b, rfl, e, s, o, l, ao⟩ := bP
   have hO := ao.size
   have E := E.trans ao
   obtain ⟨K, L, rfl, b1, bu⟩ := e.opn
   refine Za rfl rfl (Zf rfl) (Ze (Zw (Zb (ef _ _ (Zc (Za rfl rfl (Zd rfl) (Za rfl rfl (Yo om rfl rfl) (Za rfl rfl (Zf rfl) ?_))))))))
   refine Ze ?_
   have gE := bj.ch0 ao
   have b4 : Ol Sv.cs 24 1 en (.slice Aov (us).length Cov) (us) := by
    have hx := gE
    exact hx
   have b5 : Ol Sv.cs 24 1 en (.slice K (b).length L) (b) := by
    have hx := e
    exact hx
   have gF := od.ch0 ao
   have gG := bi.ch0 ao
   have gH := co.ch0 ao
   have gI := cp.ch0 ao
   have gJ := bM.ch0 ao
   have gK := bN.ch0 ao
   exact Zb (Exists.intro ((k + 1), us, b, (.slice Aov (us).length Cov), (.slice K (b).length L)) ⟨⟨E, om, om, gG, gH, gI, gJ, gK, b4, (Lo.down bO om), b5, (Lo.down s om), ((gF.up om om).eq (Zvh om)), ((o.up om om).eq Zjk), bk, l⟩, sC4 rfl rfl rfl rfl (sC2 rfl rfl (Sub.nil _)), (by first | omega | (dsimp only; omega))⟩)
  have ee := S
  have S := Yj S
  refine Xe (Zr (Zr (Yu ?_)))
  refine Zw (Zb (H5 _ _ ?_))
  refine Zg fun js gL => ?_
  refine Zc (Za rfl rfl (Zd rfl) (Za rfl rfl (Zf rfl) (Ze (Zb (gL _ _ ?_)))))
  refine Zq ?_
  have cR : Ol Sv.cs 24 1 b0 (.slice Aov (us).length Cov) us := by
   have hx := bj
   exact hx
  have cS : Od bcs 4 1 b0 w.heap.size b0.heap.size us (grd (word.length + 1) (mtT word x)) := by
   have hx := od.up (lo' := w.heap.size) (hi' := b0.heap.size) om om
   first | exact hx.eq (by rw [jh, show k = (x.tok.high + 1).toNat by omega]) | fail
  exact Zi [_] ⟨rfl, trivial⟩ ⟨(.slice Aov (us).length Cov), us, rfl, cR, (Lo.down bO om), cS, bk, E⟩
 have d5 := R
 have R := Yj R
 have jt := mt0 (t := x) (w := word) ⟨by omega, by omega, by omega, by omega, by omega, by omega⟩
 refine Zu ?_
 refine Zw (Zb (H5 _ _ ?_))
 refine Zg fun ju gM => ?_
 refine Zc (Za rfl rfl (Zd rfl) (Za rfl rfl (Zf rfl) (Ze (Zb (gM _ _ ?_)))))
 refine Zq ?_
 have cT : Ol Sv.cs 24 1 W4 (.slice f (a).length h) a := by
  have hx := A
  exact hx
 have cU : Od bcs 4 1 W4 w.heap.size W4.heap.size a (grd (word.length + 1) (mtT word x)) := by
  have hx := p.up (lo' := w.heap.size) (hi' := W4.heap.size) om om
  first | (rw [jt]; exact hx) | fail
 exact Zi [_] ⟨rfl, trivial⟩ ⟨(.slice f (a).length h), a, rfl, cT, (Lo.down M om), cU, d, E⟩
theorem Zfw {w : World} {LT_x e : Nat} {p_x : Addr} {x : Tr} (f : TrAt w LT_x e p_x x) {LL_word b : Nat} {a : Value} {word : List Int} (c : Ls ics 1 w LL_word b a word) (hok : Okd x) (hw : word.length ≤ 4096) :
 Ctr Try.prog 114 #[(.pointer (some p_x)), a] w (fun v w' => ∃ (d : Value) (vs0 : List Sv), v = d ∧ Ol Sv.cs 24 1 w' d vs0 ∧ Lo w.heap.size d ∧ Od bcs 4 1 w' w.heap.size w'.heap.size vs0 (grd (word.length + 1) (mtT word x)) ∧ Sep d vs0 ∧ Ch [] w w') := Zeo _ f c hok hw (Nat.lt_succ_self _)

/-- impl.tree).matches -/
theorem Zen {w : World} {LT_x t : Nat} {p_x : Addr} {x : Tr} (g : TrAt w LT_x t p_x x) {LL_word h : Nat} {c : Value} {word : List Int} (a : Ls ics 1 w LL_word h c word) (hok : Okd x) (hw : word.length ≤ 4096) :
 Ctr Try.prog 77 #[(.pointer (some p_x)), c] w (fun v w' => v = .bool (mtT word x 0 word.length) ∧ Ch [] w w') := by
 have g := g.here
 obtain ⟨M, O, C, D, F, o⟩ := g.open
 have G := o.1
 obtain ⟨i, k, e⟩ := a.val
 subst e
 have r := a.len
 have a := a.here (by decide)
 have E := Ch.refl [] w
 refine Ye (N := 14) (vs0 := [(.pointer (some p_x)), (.slice i word.length k)]) Try.func77 rfl rfl rfl ?_
 refine Zg fun K1 H1 => ?_
 refine Zc (Za rfl rfl (Zf rfl) (Ze (Zb (H1 _ _ ?_))))
 refine Zg fun K2 H2 => ?_
 refine Zc (Za rfl rfl (Zd rfl) (Za rfl rfl (Zd rfl) (Zm rfl rfl ?_)))
 refine Step.call (Zl (xs := [.tmp 5, .tmp 6]) fk114 rfl) (Zfw g a hok hw) fun V W3 P => ?_
 obtain ⟨Q, u, rfl, d, p, b, m, C3⟩ := P
 have X := C3.size
 have E := E.trans C3
 obtain ⟨H, I, rfl, J, s⟩ := d.opn
 have y := (b).1
 rw [Ql] at y
 refine Zm rfl rfl ?_
 refine (Yw (j := 0) d.ls Sv.len el142 sz24 rfl rfl rfl om fun R S z A => ?_)
 obtain ⟨n, l, f⟩ := b.get z
 obtain ⟨K, Y, L⟩ := S
 obtain rfl := f.eqn
 have Z := f.len
 replace f : Ls bcs 1 W3 0 W3.heap.size (.slice K n.length L) n := f
 replace A : At W3 0 W3.heap.size R ([(.slice K n.length L)]) := A
 have aa := Zai rfl l
 refine Za rfl rfl (Yr A agg24 rfl rfl) (Za rfl rfl (Zd rfl) (Za rfl rfl (Xc (by rw [el30]; rfl) rfl) (Zm rfl rfl ?_)))
 refine (Yw f Qg el24 sz4 rfl rfl rfl om fun T U q B => ?_)
 refine Za rfl rfl (Yr B agg4 rfl rfl) (Za rfl rfl (Zf rfl) (Ze (Zb (H2 _ _ ?_))))
 refine Zq ?_
 exact Zi [_] ⟨rfl, trivial⟩ ⟨congrArg Value.bool (Zbp rfl l q), E⟩

/-- impl.MatchesWord -/
theorem Zfj {w : World} {LL_e z : Nat} {r : Value} {e : List Token} (h : Ls Token.cs 4 w LL_e z r e) {LL_word k : Nat} {f : Value} {word : List Int} (a : Ls ics 1 w LL_word k f word) (hb : e.length ≤ 1048576) :
 Ctr Try.prog 33 #[(.agg #[r]), f] w (fun v w' => v = .bool (mwE e word) ∧ Ch [] w w') := by
 obtain ⟨s, t, u⟩ := h.val
 subst u
 have O := h.len
 have h := h.here (by decide)
 obtain ⟨l, m, i⟩ := a.val
 subst i
 have y := a.len
 have a := a.here (by decide)
 have E := Ch.refl [] w
 refine Ye (N := 17) (vs0 := [(.agg #[(.slice s e.length t)]), (.slice l word.length m)]) Try.func33 rfl rfl rfl ?_
 refine Zg fun K1 H1 => ?_
 refine Zc (Zm rfl rfl ?_)
 refine Qw rfl fun P W2 x C2 ae => ?_
 have af := C2.size
 have E := E.trans C2
 have ag := x.lt
 replace x : Blk W2 P 44 [(.slice s e.length t)] := x
 refine Za rfl rfl (Zf rfl) (Ze (Zb (H1 _ _ ?_)))
 refine Zg fun K3 H3 => ?_
 refine Zc (Za rfl rfl (Zy x.at_ agg44 sz44 rfl) (Zm rfl rfl ?_))
 have F4 := h.ch0 C2
 refine Step.call (Zl (xs := [.tmp 5]) fk68 rfl) (Zcn F4 om) fun ah W5 Q => ?_
 obtain ⟨rfl, C5⟩ := Q
 have ai := C5.size
 have E := E.trans C5
 refine Za rfl rfl (Zd rfl) ?_
 refine Yp (d := 7) rfl (fun j => ?_) (fun j => ?_)
 ·have R := j
  obtain ⟨aj, S, T, f9, ak⟩ := Zkn j
  refine Za rfl rfl (Zd rfl) (Zm rfl rfl ?_)
  have F7 := (a.ch0 C2).ch0 C5
  refine Step.call (Zl (xs := [.tmp 8]) fk76 rfl) (Zde F7 ) fun al W8 U => ?_
  obtain ⟨rfl, C8⟩ := U
  have am := C8.size
  have E := E.trans C8
  refine Za rfl rfl (Ya rfl rfl) (Za rfl rfl (Zd rfl) ?_)
  refine Yp (d := 11) rfl (fun b => ?_) (fun b => ?_)
  ·have V := b
   have b := bt_t b
   have n := b
   have X := (x.ch0 C5).ch0 C8
   refine Za rfl rfl (Zy X.at_ agg44 sz44 rfl) (Zm rfl rfl ?_)
   have Y := (F4.ch0 C5).ch0 C8
   refine Step.call (Zl (xs := [.tmp 12]) fk66 rfl) (Zca Y om) fun Z J o => ?_
   obtain ⟨o, A⟩ := o
   have aa := A.size
   have E := E.trans A
   rcases o with ⟨c, rfl⟩ | ⟨B, C, c, rfl, g⟩
   ·exact (Zsq j c).elim
   replace g : TrAt J W8.heap.size J.heap.size C B := g
   obtain ⟨K, L, D, F, G, p⟩ := g.open
   have H := p.1
   refine Za rfl rfl (Zd rfl) (Zm rfl rfl ?_)
   have ab := (F7.ch0 C8).ch0 A
   refine Step.call (Zl (xs := [.tmp 13, .tmp 14]) fk77 rfl) (Zen g ab (by rw [S] at c; cases c; exact T) (by have q := n.2; omega)) fun ac an I => ?_
   obtain ⟨rfl, M⟩ := I
   have ad := M.size
   have E := E.trans M
   refine Za rfl rfl (Ya rfl rfl) (Za rfl rfl (Zf rfl) (Ze (Zb (H3 _ _ ?_))))
   refine Zq ?_
   exact Zi [_] ⟨rfl, trivial⟩ ⟨congrArg Value.bool (by first | (rw [Zlx j n c]; done) | (rw [Zis j]; done) | (rw [Ziu b]; done)), E⟩
  have V := b
  have b := bf_t b
  refine Zj rfl rfl (Zj rfl rfl (Zj rfl rfl (Zj rfl rfl (Za rfl rfl (Yb rfl rfl) (Za rfl rfl (Zf rfl) (Ze (Zb (H3 _ _ ?_))))))))
  refine Zq ?_
  exact Zi [_] ⟨rfl, trivial⟩ ⟨congrArg Value.bool (by first | (rw [Zlx j n c]; done) | (rw [Zis j]; done) | (rw [Ziu b]; done)), E⟩
 have R := j
 refine Zj rfl rfl (Zj rfl rfl (Za rfl rfl (Yb rfl rfl) (Za rfl rfl (Zd rfl) (Zj rfl rfl (Zj rfl rfl (Zj rfl rfl (Zj rfl rfl ?_)))))))
 refine Za rfl rfl (Yb rfl rfl) (Za rfl rfl (Zf rfl) (Ze (Zb (H3 _ _ ?_))))
 refine Zq ?_
 exact Zi [_] ⟨rfl, trivial⟩ ⟨congrArg Value.bool (by first | (rw [Zlx j n c]; done) | (rw [Zis j]; done) | (rw [Ziu b]; done)), E⟩

/-- impl.PositionsAfter -/
theorem Zad {w : World} {LL_pL l : Nat} {d : Value} {pL : List Int} (b : Ls ics 1 w LL_pL l d pL) (pfirst : Int) (plast : Int) {LL_pF m : Nat} {e : Value} {pF : List Int} (c : Ls ics 1 w LL_pF m e pF) (pnull : Bool) (set : Int) (letter : Int) :
 Ctr Try.prog 36 #[(.agg #[d, (.int .i64 pfirst), (.int .i64 plast), e, (.bool pnull)]), (.int .i64 set), (.int .i64 letter)] w (fun v w' => v = .int .i64 (Zec pL pfirst plast pF set letter) ∧ Ch [] w w') := by
 obtain ⟨f, g, j⟩ := b.val
 subst j
 have p := b.len
 have b := b.here (by decide)
 obtain ⟨h, i, k⟩ := c.val
 subst k
 have q := c.len
 have c := c.here (by decide)
 have E := Ch.refl [] w
 refine Ye (N := 15) (vs0 := [(.agg #[(.slice f pL.length g), (.int .i64 pfirst), (.int .i64 plast), (.slice h pF.length i), (.bool pnull)]), (.int .i64 set), (.int .i64 letter)]) Try.func36 rfl rfl rfl ?_
 refine Zg fun K1 H1 => ?_
 refine Zc (Zm rfl rfl ?_)
 refine Qw rfl fun s W2 n C2 D => ?_
 have F := C2.size
 have E := E.trans C2
 have G := n.lt
 replace n : Blk W2 s 48 [(.slice f pL.length g), (.int .i64 pfirst), (.int .i64 plast), (.slice h pF.length i), (.bool pnull)] := n
 refine Za rfl rfl (Zf rfl) (Ze (Zb (H1 _ _ ?_)))
 refine Zg fun K3 H3 => ?_
 refine Zg fun K4 H4 => ?_
 refine Zc (Za rfl rfl (Zy n.at_ agg48 sz48 rfl) (Za rfl rfl (Zd rfl) (Zm rfl rfl ?_)))
 have F5 := b.ch0 C2
 have F6 := c.ch0 C2
 refine Step.call (Zl (xs := [.tmp 7, .tmp 8]) fk81 rfl) (Zcu F5 _ _ F6 _ _ ) fun H W7 t => ?_
 obtain ⟨rfl, C7⟩ := t
 have I := C7.size
 have E := E.trans C7
 refine Za rfl rfl (Zbh rfl) (Ze (Zb (H4 _ _ ?_)))
 refine Zp rfl (fun a => ?_) (fun a => ?_)
 ·have u := a
  have a := bf_t (Qu a)
  refine Zg fun K9 H9 => ?_
  refine Zc (Za rfl rfl (Zf rfl) (Ze (Zb (H9 _ _ ?_))))
  refine Zq (Zo ?_)
  exact Zi [_] ⟨rfl, trivial⟩ ⟨congrArg (Value.int .i64) (by first | exact Zfq a | exact Zlj a), E⟩
 have u := a
 have a := bt_t (Qv a)
 refine Zu ?_
 refine Zb (H3 _ _ ?_)
 refine Zg fun J x => ?_
 refine Zc ?_
 have y := n.ch0 C7
 refine Za rfl rfl (Zy y.at_ agg48 sz48 rfl) (Za rfl rfl (Zd rfl) (Za rfl rfl (Zd rfl) (Zm rfl rfl ?_)))
 have z := F5.ch0 C7
 have A := F6.ch0 C7
 refine Step.call (Zl (xs := [.tmp 11, .tmp 12, .tmp 13]) fk79 rfl) (Zaq z _ _ A _ _ _ a.1.2.1 a.1.1) fun B K o => ?_
 obtain ⟨rfl, r⟩ := o
 have C := r.size
 have E := E.trans r
 refine Za rfl rfl (Zf rfl) (Ze (Zb (x _ _ ?_)))
 refine Zq ?_
 exact Zi [_] ⟨rfl, trivial⟩ ⟨congrArg (Value.int .i64) (by first | exact Zfq a | exact Zlj a), E⟩

/-- impl.PositionsMatch -/
theorem Zae {w : World} {LL_pL F : Nat} {t : Value} {pL : List Int} (c : Ls ics 1 w LL_pL F t pL) (pfirst : Int) (plast : Int) {LL_pF G : Nat} {u : Value} {pF : List Int} (f : Ls ics 1 w LL_pF G u pF) (pnull : Bool) {LL_wd H : Nat} {x : Value} {wd : List Int} (g : Ls ics 1 w LL_wd H x wd) :
 Ctr Try.prog 38 #[(.agg #[t, (.int .i64 pfirst), (.int .i64 plast), u, (.bool pnull)]), x] w (fun v w' => v = .bool (tt ((Zcf pL pfirst plast pF ∧ IsWd wd) ∧ accB plast pnull (runP pL pfirst pF wd wd.length) = true)) ∧ Ch [] w w') := by
 obtain ⟨i, j, z⟩ := c.val
 subst z
 have V := c.len
 have c := c.here (by decide)
 obtain ⟨l, m, A⟩ := f.val
 subst A
 have X := f.len
 have f := f.here (by decide)
 obtain ⟨o, p, B⟩ := g.val
 subst B
 have Y := g.len
 have g := g.here (by decide)
 have E := Ch.refl [] w
 refine Ye (N := 30) (vs0 := [(.agg #[(.slice i pL.length j), (.int .i64 pfirst), (.int .i64 plast), (.slice l pF.length m), (.bool pnull)]), (.slice o wd.length p)]) Try.func38 rfl rfl rfl ?_
 refine Zg fun K1 H1 => ?_
 refine Zc (Zm rfl rfl ?_)
 refine Qw rfl fun K W2 I C2 aH => ?_
 have aI := C2.size
 have E := E.trans C2
 have aJ := I.lt
 replace I : Blk W2 K 48 [(.slice i pL.length j), (.int .i64 pfirst), (.int .i64 plast), (.slice l pF.length m), (.bool pnull)] := I
 refine Za rfl rfl (Zf rfl) (Ze (Zb (H1 _ _ ?_)))
 refine Zg fun K3 H3 => ?_
 refine Zg fun K4 H4 => ?_
 refine Zc (Za rfl rfl (Zy I.at_ agg48 sz48 rfl) (Zm rfl rfl ?_))
 have F5 := c.ch0 C2
 have F6 := f.ch0 C2
 refine Step.call (Zl (xs := [.tmp 8]) fk37 rfl) (Xu F5 _ _ F6 _ ) fun aK W7 ac => ?_
 obtain ⟨rfl, C7⟩ := ac
 have aL := C7.size
 have E := E.trans C7
 refine Za rfl rfl (Zbh rfl) (Za rfl rfl (Zd rfl) ?_)
 refine Yp (d := 11) rfl (fun a => ?_) (fun a => ?_)
 ·have ad := a
  have a := bf_t (Qu a)
  refine Zj rfl rfl (Zj rfl rfl (Zj rfl rfl (Za rfl rfl (Ya rfl rfl) (Ze (Zb (H4 _ _ ?_))))))
  refine Qf rfl ?_
  refine Zg fun K9 H9 => ?_
  refine Zc (Za rfl rfl (Zf rfl) (Ze (Zb (H9 _ _ ?_))))
  refine Zq (Zo ?_)
  exact Zi [_] ⟨rfl, trivial⟩ ⟨congrArg Value.bool (by first | exact Xp (fun e => a e.1.1) | exact Xp (fun e => b e.1.2) | (rw [hs, show k = wd.length by omega]; cases hb : accB plast pnull (runP pL pfirst pF wd wd.length) <;> first | exact Zbl ⟨⟨a, b⟩, rfl⟩ | exact Xp (fun e => by cases e.2))), E⟩
 have ad := a
 have a := bt_t (Qv a)
 refine Za rfl rfl (Zd rfl) (Zm rfl rfl ?_)
 have Z := (g.ch0 C2).ch0 C7
 refine Step.call (Zl (xs := [.tmp 12]) fk76 rfl) (Zde Z ) fun ae af L => ?_
 obtain ⟨rfl, C⟩ := L
 have ag := C.size
 have E := E.trans C
 refine Za rfl rfl (Zbh rfl) (Za rfl rfl (Yb rfl rfl) (Ze (Zb (H4 _ _ ?_))))
 refine Zp rfl (fun b => ?_) (fun b => ?_)
 ·have M := b
  have b := bf_t (Qu b)
  refine Zg fun aM ah => ?_
  refine Zc (Za rfl rfl (Zf rfl) (Ze (Zb (ah _ _ ?_))))
  refine Zq (Zo ?_)
  exact Zi [_] ⟨rfl, trivial⟩ ⟨congrArg Value.bool (by first | exact Xp (fun e => a e.1.1) | exact Xp (fun e => b e.1.2) | (rw [hs, show k = wd.length by omega]; cases hb : accB plast pnull (runP pL pfirst pF wd wd.length) <;> first | exact Zbl ⟨⟨a, b⟩, rfl⟩ | exact Xp (fun e => by cases e.2))), E⟩
 have M := b
 have b := bt_t (Qv b)
 refine Zu ?_
 refine Zb (H3 _ _ ?_)
 refine Zg fun aN ai => ?_
 refine Zc (Za rfl rfl (Zf rfl) (Ze (Zb (ai _ _ ?_))))
 refine Zg fun aO aj => ?_
 refine Zg fun aP ak => ?_
 refine Zc (Za rfl rfl (Zd rfl) (Za rfl rfl (Xc (by rw [el30]; rfl) rfl) (Za rfl rfl (Zd rfl) (Ze (Zb (ak _ _ ?_))))))
 refine Zx ?_
 have al := (I.ch0 C7).ch0 C
 have am := (F5.ch0 C7).ch0 C
 have an := (F6.ch0 C7).ch0 C
 have ao := Z.ch0 C
 refine Xi (σ := Nat × Int) (fun ⟨k, s⟩ => [(2, (.pointer (some ⟨K, 0, none⟩))), (4, (.bool false)), (5, (.int .i64 s)), (16, (.slice o wd.length p)), (17, (.int .i64 ((wd.length : Nat) : Int))), (18, (.int .i64 ((k : Nat) : Int)))]) (fun ⟨k, s⟩ wx => Ch [] w wx ∧ af.heap.size ≤ wx.heap.size ∧ (k ≤ wd.length) ∧ (s = runP pL pfirst pF wd k) ∧ Blk wx K 48 [(.slice i pL.length j), (.int .i64 pfirst), (.int .i64 plast), (.slice l pF.length m), (.bool pnull)] ∧ Ls ics 1 wx LL_pL w.heap.size (.slice i pL.length j) pL ∧ Ls ics 1 wx LL_pF w.heap.size (.slice l pF.length m) pF ∧ Ls ics 1 wx LL_wd w.heap.size (.slice o wd.length p) wd) (fun ⟨k, s⟩ => wd.length - k) (0, 1) (sC4 rfl rfl rfl rfl (sC2 rfl rfl (Sub.nil _))) ⟨E, (Nat.le_refl _), om, rfl, al, am, an, ao⟩ ?_
 rintro ⟨k, s⟩ aQ ⟨E, ap, aR, hs, n, q, r, y⟩
 have O := E
 have aa := O.size
 have P := n.lt
 refine Zg fun aS aq => ?_
 refine Zc (Za rfl rfl (Xs rfl rfl) (Ze (Zb (aq _ _ ?_))))
 refine Zg fun aT au => ?_
 refine Zp rfl (fun h => ?_) (fun h => ?_)
 ·have Q := h
  have h := Yi h
  refine Zu ?_
  refine Zb (au _ _ ?_)
  refine Zg fun aU av => ?_
  refine Zx ?_
  refine Zg fun aV aw => ?_
  refine Zc (Zm rfl rfl ?_)
  refine (Yw y Xg el30 sz3 rfl rfl rfl om fun ax R J S => ?_)
  refine Za rfl rfl (Yr S agg3 rfl rfl) (Za rfl rfl (Zf rfl) (Ze (Zb (aw _ _ (Zc (Za rfl rfl (Zy n.at_ agg48 sz48 rfl) (Za rfl rfl (Zd rfl) (Za rfl rfl (Zd rfl) ?_))))))))
  refine Zm rfl rfl ?_
  refine Step.call (Zl (xs := [.tmp 22, .tmp 23, .tmp 24]) fk79 rfl) (Zaq q _ _ r _ _ _ a.2.1 a.1) fun ay aW T => ?_
  obtain ⟨rfl, D⟩ := T
  have az := D.size
  have E := E.trans D
  refine Za rfl rfl (Zf rfl) (Ze (Zw (Zb (av _ _ (Zc (Za rfl rfl (Yo om rfl rfl) (Za rfl rfl (Zd rfl) (Ze ?_))))))))
  have aA := n.ch0 D
  have aB := q.ch0 D
  have aC := r.ch0 D
  have aD := y.ch0 D
  exact Zb (Exists.intro ((k + 1), Zbx pL pfirst pF s R) ⟨⟨E, om, om, (Znm hs J), aA, aB, aC, aD⟩, sC4 rfl rfl rfl rfl (sC2 rfl rfl (Sub.nil _)), (by first | omega | (dsimp only; omega))⟩)
 have Q := h
 have h := Yj h
 refine Xe (Zr (Zr (Yu ?_)))
 refine Zb (aj _ _ ?_)
 refine Zg fun aX aE => ?_
 refine Zc (Za rfl rfl (Zy n.at_ agg48 sz48 rfl) (Za rfl rfl (Zd rfl) (Zm rfl rfl ?_)))
 refine Step.call (Zl (xs := [.tmp 27, .tmp 28]) fk80 rfl) (Zag q _ _ r _ _ ) fun aF aY U => ?_
 obtain ⟨rfl, ab⟩ := U
 have aG := ab.size
 have E := E.trans ab
 refine Za rfl rfl (Zf rfl) (Ze (Zb (aE _ _ ?_)))
 refine Zq ?_
 exact Zi [_] ⟨rfl, trivial⟩ ⟨congrArg Value.bool (by first | exact Xp (fun e => a e.1.1) | exact Xp (fun e => b e.1.2) | (rw [hs, show k = wd.length by omega]; cases hb : accB plast pnull (runP pL pfirst pF wd wd.length) <;> first | exact Zbl ⟨⟨a, b⟩, rfl⟩ | exact Xp (fun e => by cases e.2))), E⟩

/-- laws.big -/
theorem Zod {w : World} {LL_code d : Nat} {b : Value} {code : List Int} (a : Ls ucs 1 w LL_code d b code) :
 Ctr Try.prog 6 #[b] w (fun v w' => v = .bool (decide (1048576 < (code.length : Int))) ∧ Ch [] w w') := by
 obtain ⟨e, f, c⟩ := a.val
 subst c
 have g := a.len
 have a := a.here (by decide)
 have E := Ch.refl [] w
 refine Ye (N := 6) (vs0 := [(.slice e code.length f)]) Try.func6 rfl rfl rfl ?_
 refine Zg fun K1 H1 => ?_
 refine Zc (Za rfl rfl (Zf rfl) (Ze (Zb (H1 _ _ ?_))))
 refine Zg fun K2 H2 => ?_
 refine Zc (Za rfl rfl (Zd rfl) (Za rfl rfl (Xc (by rw [el22]; rfl) rfl) (Za rfl rfl (Zcp rfl rfl) (Za rfl rfl (Zf rfl) (Ze (Zb (H2 _ _ ?_)))))))
 refine Zq ?_
 exact Zi [_] ⟨rfl, trivial⟩ ⟨congrArg Value.bool rfl, E⟩

/-- laws.sameInts -/
theorem Zdr {w : World} {LL_a y : Nat} {n : Value} {a : List Int} (g : Ls ics 1 w LL_a y n a) {LL_b z : Nat} {o : Value} {b : List Int} (h : Ls ics 1 w LL_b z o b) :
 Ctr Try.prog 10 #[n, o] w (fun v w' => v = .bool (decide (a = b)) ∧ Ch [] w w') := by
 obtain ⟨p, q, r⟩ := g.val
 subst r
 have I := g.len
 have g := g.here (by decide)
 obtain ⟨s, t, u⟩ := h.val
 subst u
 have J := h.len
 have h := h.here (by decide)
 have E := Ch.refl [] w
 refine Ye (N := 26) (vs0 := [(.slice p a.length q), (.slice s b.length t)]) Try.func10 rfl rfl rfl ?_
 refine Zg fun K1 H1 => ?_
 refine Zc (Za rfl rfl (Zf rfl) (Ze (Zb (H1 _ _ ?_))))
 refine Zg fun K2 H2 => ?_
 refine Zg fun K3 H3 => ?_
 refine Zc (Za rfl rfl (Zd rfl) (Za rfl rfl (Xc (by rw [el30]; rfl) rfl) (Za rfl rfl (Zd rfl) (Za rfl rfl (Xc (by rw [el30]; rfl) rfl) (Za rfl rfl (Zbg rfl rfl) (Ze (Zb (H3 _ _ ?_))))))))
 refine Zp rfl (fun d => ?_) (fun d => ?_)
 ·have K := d
  have d := Yj (Qu d)
  refine Zg fun K5 H5 => ?_
  refine Zc (Za rfl rfl (Zf rfl) (Ze (Zb (H5 _ _ ?_))))
  refine Zq (Zo ?_)
  exact Zi [_] ⟨rfl, trivial⟩ ⟨congrArg Value.bool (decide_eq_false (fun e => d (by rw [e]))).symm, E⟩
 have K := d
 have d := Yi (Qv d)
 refine Zu ?_
 refine Zb (H2 _ _ ?_)
 refine Zg fun K6 H6 => ?_
 refine Zg fun K7 H7 => ?_
 refine Zc (Za rfl rfl (Zf rfl) (Ze (Zb (H7 _ _ ?_))))
 refine Zx ?_
 refine Xi (σ := Nat) (fun (k : Nat) => [(0, (.slice p a.length q)), (1, (.slice s b.length t)), (5, (.int .i64 ((k : Nat) : Int)))]) (fun (k : Nat) wx => Ch [] w wx ∧ w.heap.size ≤ wx.heap.size ∧ (k ≤ a.length) ∧ (a.take k = b.take k)) (fun (k : Nat) => a.length - k) 0 (sC2 rfl rfl (sC1 rfl (Sub.nil _))) ⟨E, (Nat.le_refl _), om, rfl⟩ ?_
 rintro k R8 ⟨E, L, Z, F⟩
 have m := E
 have G := m.size
 refine Zg fun K9 H9 => ?_
 refine Zg fun aa M => ?_
 refine Zc (Za rfl rfl (Zd rfl) (Za rfl rfl (Zd rfl) (Za rfl rfl (Xc (by rw [el30]; rfl) rfl) (Za rfl rfl (Xs rfl rfl) (Ze (Zb (M _ _ ?_)))))))
 refine Zp rfl (fun f => ?_) (fun f => ?_)
 ·have A := f
  have f := Yi f
  refine Zu ?_
  refine Zb (H9 _ _ ?_)
  refine Zg fun ab H => ?_
  refine Zx ?_
  refine Zg fun ac O => ?_
  refine Xb [] 9 mixed rfl fun ad x => ?_
  have P := x.size
  have E := E.trans x
  refine dV 0 rfl rfl rfl (fun _ => Zd rfl) (dV 1 rfl rfl rfl (fun _ => Zd rfl) ?_)
  have Q := (g.ch0 m).ch0 x
  refine dT 2 rfl rfl rfl (Xo Q Xg el30 sz3 rfl rfl rfl om fun R S j B => ?_)
  refine dT 3 rfl rfl rfl (Yx B (fun i hi => absurd hi List.not_mem_nil) agg3 rfl rfl ?_)
  refine dV 4 rfl rfl rfl (fun _ => Zd rfl) (dV 5 rfl rfl rfl (fun _ => Zd rfl) ?_)
  have T := (h.ch0 m).ch0 x
  refine dT 6 rfl rfl rfl (Xo T Xg el30 sz3 rfl rfl rfl om fun U V l C => ?_)
  refine dT 7 rfl rfl rfl (Yx C (fun i hi => absurd hi List.not_mem_nil) agg3 rfl rfl ?_)
  refine dV 8 rfl rfl rfl (fun _ => Zbg rfl rfl) ?_
  refine Yc (by kernel_rfl) ?_
  refine Zb (O _ _ ?_)
  refine Zp rfl (fun c => ?_) (fun c => ?_)
  ·have D := c
   have c := Yj (Qu c)
   refine Zg fun ae X => ?_
   refine Zc (Za rfl rfl (Zf rfl) (Ze (Zb (X _ _ ?_))))
   refine Zq (Yd (Zo (Zo (Yd (Zo ?_)))))
   clear H6 H
   exact Zi [_] ⟨rfl, trivial⟩ ⟨congrArg Value.bool (decide_eq_false (Zkx j l c)).symm, E⟩
  have D := c
  have c := Yi (Qv c)
  refine Zu ?_
  refine Zw (Zb (H _ _ (Zc (Za rfl rfl (Zd rfl) (Za rfl rfl (Yo om rfl rfl) (Za rfl rfl (Zf rfl) (Ze ?_)))))))
  exact Zb (Exists.intro (k + 1) ⟨⟨E, om, om, (Zgk F j l c)⟩, sC2 rfl rfl (sC1 rfl (Sub.nil _)), (by first | omega | (dsimp only; omega))⟩)
 have A := f
 have f := Yj f
 refine Xe (Zr (Zr (Yu ?_)))
 refine Zb (H6 _ _ ?_)
 refine Zg fun af Y => ?_
 refine Zc (Za rfl rfl (Zf rfl) (Ze (Zb (Y _ _ ?_))))
 refine Zq ?_
 exact Zi [_] ⟨rfl, trivial⟩ ⟨congrArg Value.bool (decide_eq_true (Ziy F om om)).symm, E⟩

/-- spec.l1In -/
theorem Zek {w : World} (n : Int) (a : Int) (b : Int) :
 Ctr Try.prog 49 #[(.int .i64 n), (.int .i64 a), (.int .i64 b)] w (fun v w' => v = .bool (decide (a ≤ n ∧ n ≤ b)) ∧ Ch [] w w') := by
 have E := Ch.refl [] w
 refine Ye (N := 15) (vs0 := [(.int .i64 n), (.int .i64 a), (.int .i64 b)]) Try.func49 rfl rfl rfl ?_
 refine Zg fun K1 H1 => ?_
 refine Zc (Za rfl rfl (Zf rfl) (Ze (Zb (H1 _ _ ?_))))
 refine Zg fun K2 H2 => ?_
 refine Zc (Za rfl rfl (Zd rfl) (Za rfl rfl (Zd rfl) (Za rfl rfl (Zra rfl rfl) (Za rfl rfl (Zd rfl) ?_))))
 refine Yp (d := 10) rfl (fun c => ?_) (fun c => ?_)
 ·have e := c
  have c := Yi c
  refine Za rfl rfl (Zd rfl) (Za rfl rfl (Zd rfl) (Za rfl rfl (Zgl rfl rfl) (Za rfl rfl (Ya rfl rfl) (Za rfl rfl (Zf rfl) (Ze (Zb (H2 _ _ ?_)))))))
  refine Zq ?_
  exact Zi [_] ⟨rfl, trivial⟩ ⟨congrArg Value.bool (by first | rfl | (rw [Bool.eq_iff_iff]; simp <;> omega) | (rw [Bool.eq_iff_iff]; simp_all; done) | simp_all), E⟩
 have e := c
 have c := Yj c
 refine Zj rfl rfl (Zj rfl rfl (Zj rfl rfl (Za rfl rfl (Yb rfl rfl) (Za rfl rfl (Zf rfl) (Ze (Zb (H2 _ _ ?_)))))))
 refine Zq ?_
 exact Zi [_] ⟨rfl, trivial⟩ ⟨congrArg Value.bool (by first | rfl | (rw [Bool.eq_iff_iff]; simp <;> omega) | (rw [Bool.eq_iff_iff]; simp_all; done) | simp_all), E⟩

/-- spec.l2Letter -/
theorem Zci {w : World} (n : Int) :
 Ctr Try.prog 75 #[(.int .i64 n)] w (fun v w' => v = .bool (decide (0 ≤ n ∧ n ≤ 8)) ∧ Ch [] w w') := by
 have E := Ch.refl [] w
 refine Ye (N := 5) (vs0 := [(.int .i64 n)]) Try.func75 rfl rfl rfl ?_
 refine Zg fun K1 H1 => ?_
 refine Zc (Za rfl rfl (Zf rfl) (Ze (Zb (H1 _ _ ?_))))
 refine Zg fun K2 H2 => ?_
 refine Zc (Za rfl rfl (Zd rfl) (Zm rfl rfl ?_))
 refine Step.call (Zl (xs := [.tmp 3, .const (Go.Value.int Go.IntKind.i64 0), .const (Go.Value.int Go.IntKind.i64 8)]) fk49 rfl) (Zek _ _ _ ) fun b W3 a => ?_
 obtain ⟨rfl, C3⟩ := a
 have c := C3.size
 have E := E.trans C3
 refine Za rfl rfl (Zf rfl) (Ze (Zb (H2 _ _ ?_)))
 refine Zq ?_
 exact Zi [_] ⟨rfl, trivial⟩ ⟨congrArg Value.bool rfl, E⟩

/-- spec.l8Arity -/
theorem Zed {w : World} (t : Token) :
 Ctr Try.prog 113 #[(.agg #[(.int .i64 t.kind), (.int .i64 t.letter), (.int .i64 t.low), (.int .i64 t.high)])] w (fun v w' => v = .int .i64 (arT t) ∧ Ch [] w w') := by
 have E := Ch.refl [] w
 refine Ye (N := 87) (vs0 := [(.agg #[(.int .i64 t.kind), (.int .i64 t.letter), (.int .i64 t.low), (.int .i64 t.high)])]) Try.func113 rfl rfl rfl ?_
 refine Zg fun K1 H1 => ?_
 refine Zc (Zm rfl rfl ?_)
 refine Qw rfl fun aC W2 i C2 bh => ?_
 have bi := C2.size
 have E := E.trans C2
 have bj := i.lt
 replace i : Blk W2 aC 84 [(.int .i64 t.kind), (.int .i64 t.letter), (.int .i64 t.low), (.int .i64 t.high)] := i
 refine Za rfl rfl (Zf rfl) (Ze (Zb (H1 _ _ ?_)))
 refine Zg fun K3 H3 => ?_
 refine Zg fun K4 H4 => ?_
 refine Zc (Za rfl rfl (Zh fa84_0 rfl) (Za rfl rfl (Zk i.at_ agg3 rfl rfl) (Ze (Zb (H4 _ _ ?_)))))
 refine Zx ?_
 refine Zg fun K5 H5 => ?_
 refine Zg fun K6 H6 => ?_
 refine Zc (Za rfl rfl (Yy rfl rfl) (Za rfl rfl (Zf rfl) (Ze (Zb (H6 _ _ ?_)))))
 refine Zp rfl (fun j => ?_) (fun j => ?_)
 ·have ax := j
  have j := Yi j
  refine Zu ?_
  refine Zb (H5 _ _ ?_)
  refine Zas rfl ax ?_
  refine Zg fun K8 H8 => ?_
  refine Zg fun K9 H9 => ?_
  refine Zc (Za rfl rfl (Zh fa84_1 rfl) (Za rfl rfl (Zk i.at_ agg3 rfl rfl) (Za rfl rfl (Zbg rfl rfl) (Za rfl rfl (Zd rfl) ?_))))
  refine Yp (d := 11) rfl (fun a => ?_) (fun a => ?_)
  ·have H := a
   have a := Yj (Qu a)
   refine Zj rfl rfl (Zj rfl rfl (Zj rfl rfl (Za rfl rfl (Ya rfl rfl) (Za rfl rfl (Zd rfl) (Zj rfl rfl (Zj rfl rfl (Zj rfl rfl ?_)))))))
   refine Za rfl rfl (Ya rfl rfl) (Ze (Zb (H9 _ _ ?_)))
   refine Qf rfl ?_
   refine Zg fun bk aD => ?_
   refine Zc (Za rfl rfl (Zf rfl) (Ze (Zb (aD _ _ ?_))))
   refine Zq (Zo (Yd (Zo ?_)))
   clear H3 H8
   exact Zi [_] ⟨rfl, trivial⟩ ⟨congrArg (Value.int .i64) (by unfold arT; repeat (first | rw [if_pos om] | rw [if_neg om])), E⟩
  have H := a
  have a := Yi (Qv a)
  refine Za rfl rfl (Zh fa84_2 rfl) (Za rfl rfl (Zk i.at_ agg3 rfl rfl) (Za rfl rfl (Zbg rfl rfl) (Za rfl rfl (Yb rfl rfl) (Za rfl rfl (Zd rfl) ?_))))
  refine Yp (d := 16) rfl (fun b => ?_) (fun b => ?_)
  ·have I := b
   have b := Yj (Qu b)
   refine Zj rfl rfl (Zj rfl rfl (Zj rfl rfl (Za rfl rfl (Ya rfl rfl) (Ze (Zb (H9 _ _ ?_))))))
   refine Qf rfl ?_
   refine Zg fun bm aE => ?_
   refine Zc (Za rfl rfl (Zf rfl) (Ze (Zb (aE _ _ ?_))))
   refine Zq (Zo (Yd (Zo ?_)))
   clear H3 H8
   exact Zi [_] ⟨rfl, trivial⟩ ⟨congrArg (Value.int .i64) (by unfold arT; repeat (first | rw [if_pos om] | rw [if_neg om])), E⟩
  have I := b
  have b := Yi (Qv b)
  refine Za rfl rfl (Zh fa84_3 rfl) (Za rfl rfl (Zk i.at_ agg3 rfl rfl) (Za rfl rfl (Zbg rfl rfl) (Za rfl rfl (Yb rfl rfl) (Ze (Zb (H9 _ _ ?_))))))
  refine Zp rfl (fun c => ?_) (fun c => ?_)
  ·have J := c
   have c := Yj (Qu c)
   refine Zg fun bn aF => ?_
   refine Zc (Za rfl rfl (Zf rfl) (Ze (Zb (aF _ _ ?_))))
   refine Zq (Zo (Yd (Zo ?_)))
   clear H3 H8
   exact Zi [_] ⟨rfl, trivial⟩ ⟨congrArg (Value.int .i64) (by unfold arT; repeat (first | rw [if_pos om] | rw [if_neg om])), E⟩
  have J := c
  have c := Yi (Qv c)
  refine Zu ?_
  refine Zb (H8 _ _ ?_)
  refine Zg fun bp aG => ?_
  refine Zc (Za rfl rfl (Zf rfl) (Ze (Zb (aG _ _ ?_))))
  refine Zq (Yd (Zo ?_))
  exact Zi [_] ⟨rfl, trivial⟩ ⟨congrArg (Value.int .i64) (by unfold arT; repeat (first | rw [if_pos om] | rw [if_neg om])), E⟩
 have ax := j
 have j := Yj j
 refine Zc (Za rfl rfl (Yy rfl rfl) (Za rfl rfl (Zf rfl) (Ze (Zb (H5 _ _ ?_)))))
 refine Zp rfl (fun j => ?_) (fun j => ?_)
 ·have K := j
  have j := Yi j
  refine Zg fun bq A => ?_
  refine Zg fun br L => ?_
  refine Zc (Za rfl rfl (Zh fa84_1 rfl) (Za rfl rfl (Zk i.at_ agg3 rfl rfl) (Za rfl rfl (Zbg rfl rfl) (Za rfl rfl (Zd rfl) ?_))))
  refine Yp (d := 11) rfl (fun a => ?_) (fun a => ?_)
  ·have M := a
   have a := Yj (Qu a)
   refine Zj rfl rfl (Zj rfl rfl (Zj rfl rfl (Za rfl rfl (Ya rfl rfl) (Za rfl rfl (Zd rfl) (Zj rfl rfl (Zj rfl rfl (Zj rfl rfl ?_)))))))
   refine Za rfl rfl (Ya rfl rfl) (Ze (Zb (L _ _ ?_)))
   refine Qf rfl ?_
   refine Zg fun bs aH => ?_
   refine Zc (Za rfl rfl (Zf rfl) (Ze (Zb (aH _ _ ?_))))
   refine Zq (Zo (Yd (Zo ?_)))
   clear H3 A
   exact Zi [_] ⟨rfl, trivial⟩ ⟨congrArg (Value.int .i64) (by unfold arT; repeat (first | rw [if_pos om] | rw [if_neg om])), E⟩
  have M := a
  have a := Yi (Qv a)
  refine Za rfl rfl (Zh fa84_2 rfl) (Za rfl rfl (Zk i.at_ agg3 rfl rfl) (Za rfl rfl (Zbg rfl rfl) (Za rfl rfl (Yb rfl rfl) (Za rfl rfl (Zd rfl) ?_))))
  refine Yp (d := 16) rfl (fun b => ?_) (fun b => ?_)
  ·have O := b
   have b := Yj (Qu b)
   refine Zj rfl rfl (Zj rfl rfl (Zj rfl rfl (Za rfl rfl (Ya rfl rfl) (Ze (Zb (L _ _ ?_))))))
   refine Qf rfl ?_
   refine Zg fun bu aI => ?_
   refine Zc (Za rfl rfl (Zf rfl) (Ze (Zb (aI _ _ ?_))))
   refine Zq (Zo (Yd (Zo ?_)))
   clear H3 A
   exact Zi [_] ⟨rfl, trivial⟩ ⟨congrArg (Value.int .i64) (by unfold arT; repeat (first | rw [if_pos om] | rw [if_neg om])), E⟩
  have O := b
  have b := Yi (Qv b)
  refine Za rfl rfl (Zh fa84_3 rfl) (Za rfl rfl (Zk i.at_ agg3 rfl rfl) (Za rfl rfl (Zbg rfl rfl) (Za rfl rfl (Yb rfl rfl) (Ze (Zb (L _ _ ?_))))))
  refine Zp rfl (fun c => ?_) (fun c => ?_)
  ·have P := c
   have c := Yj (Qu c)
   refine Zg fun bv aJ => ?_
   refine Zc (Za rfl rfl (Zf rfl) (Ze (Zb (aJ _ _ ?_))))
   refine Zq (Zo (Yd (Zo ?_)))
   clear H3 A
   exact Zi [_] ⟨rfl, trivial⟩ ⟨congrArg (Value.int .i64) (by unfold arT; repeat (first | rw [if_pos om] | rw [if_neg om])), E⟩
  have P := c
  have c := Yi (Qv c)
  refine Zu ?_
  refine Zb (A _ _ ?_)
  refine Zg fun bw aK => ?_
  refine Zc (Za rfl rfl (Zf rfl) (Ze (Zb (aK _ _ ?_))))
  refine Zq (Yd (Zo ?_))
  exact Zi [_] ⟨rfl, trivial⟩ ⟨congrArg (Value.int .i64) (by unfold arT; repeat (first | rw [if_pos om] | rw [if_neg om])), E⟩
 have K := j
 have j := Yj j
 refine Zg fun bx aL => ?_
 refine Zc (Za rfl rfl (Yy rfl rfl) (Za rfl rfl (Zf rfl) (Ze (Zb (aL _ _ ?_)))))
 refine Zp rfl (fun k => ?_) (fun k => ?_)
 ·have Q := k
  have k := Yi k
  refine Zg fun bz B => ?_
  refine Zg fun bA R => ?_
  refine Zc (Za rfl rfl (Zh fa84_1 rfl) (Za rfl rfl (Zk i.at_ agg3 rfl rfl) (Zm rfl rfl ?_)))
  refine Step.call (Zl (xs := [.tmp 24]) fk75 rfl) (Zci _ ) fun aM bB S => ?_
  obtain ⟨rfl, T⟩ := S
  have aN := T.size
  have E := E.trans T
  refine Za rfl rfl (Zbh rfl) (Za rfl rfl (Zd rfl) ?_)
  refine Yp (d := 27) rfl (fun l => ?_) (fun l => ?_)
  ·have U := l
   have l := Yj (Qu l)
   refine Zj rfl rfl (Zj rfl rfl (Zj rfl rfl (Za rfl rfl (Ya rfl rfl) (Za rfl rfl (Zd rfl) (Zj rfl rfl (Zj rfl rfl (Zj rfl rfl ?_)))))))
   refine Za rfl rfl (Ya rfl rfl) (Ze (Zb (R _ _ ?_)))
   refine Qf rfl ?_
   refine Zg fun bC aO => ?_
   refine Zc (Za rfl rfl (Zf rfl) (Ze (Zb (aO _ _ ?_))))
   refine Zq (Zo (Yd (Zo ?_)))
   clear H3 B
   exact Zi [_] ⟨rfl, trivial⟩ ⟨congrArg (Value.int .i64) (by unfold arT; repeat (first | rw [if_pos om] | rw [if_neg om])), E⟩
  have U := l
  have l := Yi (Qv l)
  refine Za rfl rfl (Zh fa84_2 rfl) ?_
  have ay := i.ch0 T
  refine Za rfl rfl (Zk ay.at_ agg3 rfl rfl) (Za rfl rfl (Zbg rfl rfl) (Za rfl rfl (Yb rfl rfl) (Za rfl rfl (Zd rfl) ?_)))
  refine Yp (d := 32) rfl (fun m => ?_) (fun m => ?_)
  ·have V := m
   have m := Yj (Qu m)
   refine Zj rfl rfl (Zj rfl rfl (Zj rfl rfl (Za rfl rfl (Ya rfl rfl) (Ze (Zb (R _ _ ?_))))))
   refine Qf rfl ?_
   refine Zg fun bD aP => ?_
   refine Zc (Za rfl rfl (Zf rfl) (Ze (Zb (aP _ _ ?_))))
   refine Zq (Zo (Yd (Zo ?_)))
   clear H3 B
   exact Zi [_] ⟨rfl, trivial⟩ ⟨congrArg (Value.int .i64) (by unfold arT; repeat (first | rw [if_pos om] | rw [if_neg om])), E⟩
  have V := m
  have m := Yi (Qv m)
  refine Za rfl rfl (Zh fa84_3 rfl) (Za rfl rfl (Zk ay.at_ agg3 rfl rfl) (Za rfl rfl (Zbg rfl rfl) (Za rfl rfl (Yb rfl rfl) (Ze (Zb (R _ _ ?_))))))
  refine Zp rfl (fun n => ?_) (fun n => ?_)
  ·have X := n
   have n := Yj (Qu n)
   refine Zg fun bE aQ => ?_
   refine Zc (Za rfl rfl (Zf rfl) (Ze (Zb (aQ _ _ ?_))))
   refine Zq (Zo (Yd (Zo ?_)))
   clear H3 B
   exact Zi [_] ⟨rfl, trivial⟩ ⟨congrArg (Value.int .i64) (by unfold arT; repeat (first | rw [if_pos om] | rw [if_neg om])), E⟩
  have X := n
  have n := Yi (Qv n)
  refine Zu ?_
  refine Zb (B _ _ ?_)
  refine Zg fun bF aR => ?_
  refine Zc (Za rfl rfl (Zf rfl) (Ze (Zb (aR _ _ ?_))))
  refine Zq (Yd (Zo ?_))
  exact Zi [_] ⟨rfl, trivial⟩ ⟨congrArg (Value.int .i64) (by unfold arT; repeat (first | rw [if_pos om] | rw [if_neg om])), E⟩
 have Q := k
 have k := Yj k
 refine Zg fun bG az => ?_
 refine Zg fun bH aS => ?_
 refine Zc (Za rfl rfl (Yy rfl rfl) (Za rfl rfl (Zf rfl) (Ze (Zb (aS _ _ ?_)))))
 refine Zp rfl (fun e => ?_) (fun e => ?_)
 ·have z := e
  have e := Yi e
  refine Zu ?_
  refine Zb (az _ _ ?_)
  refine Zas rfl z ?_
  refine Zg fun bI C => ?_
  refine Zg fun bJ Y => ?_
  refine Zc (Za rfl rfl (Zh fa84_1 rfl) (Za rfl rfl (Zk i.at_ agg3 rfl rfl) (Za rfl rfl (Zbg rfl rfl) (Za rfl rfl (Zd rfl) ?_))))
  refine Yp (d := 43) rfl (fun f => ?_) (fun f => ?_)
  ·have Z := f
   have f := Yj (Qu f)
   refine Zj rfl rfl (Zj rfl rfl (Zj rfl rfl (Za rfl rfl (Ya rfl rfl) (Za rfl rfl (Zd rfl) (Zj rfl rfl (Zj rfl rfl (Zj rfl rfl ?_)))))))
   refine Za rfl rfl (Ya rfl rfl) (Ze (Zb (Y _ _ ?_)))
   refine Qf rfl ?_
   refine Zg fun bK aT => ?_
   refine Zc (Za rfl rfl (Zf rfl) (Ze (Zb (aT _ _ ?_))))
   refine Zq (Zo (Yd (Zo ?_)))
   clear H3 C
   exact Zi [_] ⟨rfl, trivial⟩ ⟨congrArg (Value.int .i64) (by unfold arT; repeat (first | rw [if_pos om] | rw [if_neg om])), E⟩
  have Z := f
  have f := Yi (Qv f)
  refine Za rfl rfl (Zh fa84_2 rfl) (Za rfl rfl (Zk i.at_ agg3 rfl rfl) (Za rfl rfl (Zbg rfl rfl) (Za rfl rfl (Yb rfl rfl) (Za rfl rfl (Zd rfl) ?_))))
  refine Yp (d := 48) rfl (fun g => ?_) (fun g => ?_)
  ·have aa := g
   have g := Yj (Qu g)
   refine Zj rfl rfl (Zj rfl rfl (Zj rfl rfl (Za rfl rfl (Ya rfl rfl) (Ze (Zb (Y _ _ ?_))))))
   refine Qf rfl ?_
   refine Zg fun bL aU => ?_
   refine Zc (Za rfl rfl (Zf rfl) (Ze (Zb (aU _ _ ?_))))
   refine Zq (Zo (Yd (Zo ?_)))
   clear H3 C
   exact Zi [_] ⟨rfl, trivial⟩ ⟨congrArg (Value.int .i64) (by unfold arT; repeat (first | rw [if_pos om] | rw [if_neg om])), E⟩
  have aa := g
  have g := Yi (Qv g)
  refine Za rfl rfl (Zh fa84_3 rfl) (Za rfl rfl (Zk i.at_ agg3 rfl rfl) (Za rfl rfl (Zbg rfl rfl) (Za rfl rfl (Yb rfl rfl) (Ze (Zb (Y _ _ ?_))))))
  refine Zp rfl (fun h => ?_) (fun h => ?_)
  ·have ab := h
   have h := Yj (Qu h)
   refine Zg fun bM aV => ?_
   refine Zc (Za rfl rfl (Zf rfl) (Ze (Zb (aV _ _ ?_))))
   refine Zq (Zo (Yd (Zo ?_)))
   clear H3 C
   exact Zi [_] ⟨rfl, trivial⟩ ⟨congrArg (Value.int .i64) (by unfold arT; repeat (first | rw [if_pos om] | rw [if_neg om])), E⟩
  have ab := h
  have h := Yi (Qv h)
  refine Zu ?_
  refine Zb (C _ _ ?_)
  refine Zg fun bN aW => ?_
  refine Zc (Za rfl rfl (Zf rfl) (Ze (Zb (aW _ _ ?_))))
  refine Zq (Yd (Zo ?_))
  exact Zi [_] ⟨rfl, trivial⟩ ⟨congrArg (Value.int .i64) (by unfold arT; repeat (first | rw [if_pos om] | rw [if_neg om])), E⟩
 have z := e
 have e := Yj e
 refine Zc (Za rfl rfl (Yy rfl rfl) (Za rfl rfl (Zf rfl) (Ze (Zb (az _ _ ?_)))))
 refine Zp rfl (fun e => ?_) (fun e => ?_)
 ·have ac := e
  have e := Yi e
  refine Zg fun bO D => ?_
  refine Zg fun bP ad => ?_
  refine Zc (Za rfl rfl (Zh fa84_1 rfl) (Za rfl rfl (Zk i.at_ agg3 rfl rfl) (Za rfl rfl (Zbg rfl rfl) (Za rfl rfl (Zd rfl) ?_))))
  refine Yp (d := 43) rfl (fun f => ?_) (fun f => ?_)
  ·have ae := f
   have f := Yj (Qu f)
   refine Zj rfl rfl (Zj rfl rfl (Zj rfl rfl (Za rfl rfl (Ya rfl rfl) (Za rfl rfl (Zd rfl) (Zj rfl rfl (Zj rfl rfl (Zj rfl rfl ?_)))))))
   refine Za rfl rfl (Ya rfl rfl) (Ze (Zb (ad _ _ ?_)))
   refine Qf rfl ?_
   refine Zg fun bQ aX => ?_
   refine Zc (Za rfl rfl (Zf rfl) (Ze (Zb (aX _ _ ?_))))
   refine Zq (Zo (Yd (Zo ?_)))
   clear H3 D
   exact Zi [_] ⟨rfl, trivial⟩ ⟨congrArg (Value.int .i64) (by unfold arT; repeat (first | rw [if_pos om] | rw [if_neg om])), E⟩
  have ae := f
  have f := Yi (Qv f)
  refine Za rfl rfl (Zh fa84_2 rfl) (Za rfl rfl (Zk i.at_ agg3 rfl rfl) (Za rfl rfl (Zbg rfl rfl) (Za rfl rfl (Yb rfl rfl) (Za rfl rfl (Zd rfl) ?_))))
  refine Yp (d := 48) rfl (fun g => ?_) (fun g => ?_)
  ·have af := g
   have g := Yj (Qu g)
   refine Zj rfl rfl (Zj rfl rfl (Zj rfl rfl (Za rfl rfl (Ya rfl rfl) (Ze (Zb (ad _ _ ?_))))))
   refine Qf rfl ?_
   refine Zg fun bR aY => ?_
   refine Zc (Za rfl rfl (Zf rfl) (Ze (Zb (aY _ _ ?_))))
   refine Zq (Zo (Yd (Zo ?_)))
   clear H3 D
   exact Zi [_] ⟨rfl, trivial⟩ ⟨congrArg (Value.int .i64) (by unfold arT; repeat (first | rw [if_pos om] | rw [if_neg om])), E⟩
  have af := g
  have g := Yi (Qv g)
  refine Za rfl rfl (Zh fa84_3 rfl) (Za rfl rfl (Zk i.at_ agg3 rfl rfl) (Za rfl rfl (Zbg rfl rfl) (Za rfl rfl (Yb rfl rfl) (Ze (Zb (ad _ _ ?_))))))
  refine Zp rfl (fun h => ?_) (fun h => ?_)
  ·have ag := h
   have h := Yj (Qu h)
   refine Zg fun bS aZ => ?_
   refine Zc (Za rfl rfl (Zf rfl) (Ze (Zb (aZ _ _ ?_))))
   refine Zq (Zo (Yd (Zo ?_)))
   clear H3 D
   exact Zi [_] ⟨rfl, trivial⟩ ⟨congrArg (Value.int .i64) (by unfold arT; repeat (first | rw [if_pos om] | rw [if_neg om])), E⟩
  have ag := h
  have h := Yi (Qv h)
  refine Zu ?_
  refine Zb (D _ _ ?_)
  refine Zg fun bT a0 => ?_
  refine Zc (Za rfl rfl (Zf rfl) (Ze (Zb (a0 _ _ ?_))))
  refine Zq (Yd (Zo ?_))
  exact Zi [_] ⟨rfl, trivial⟩ ⟨congrArg (Value.int .i64) (by unfold arT; repeat (first | rw [if_pos om] | rw [if_neg om])), E⟩
 have ac := e
 have e := Yj e
 refine Zg fun bU a1 => ?_
 refine Zc (Za rfl rfl (Yy rfl rfl) (Za rfl rfl (Zf rfl) (Ze (Zb (a1 _ _ ?_)))))
 refine Zp rfl (fun o => ?_) (fun o => ?_)
 ·have ah := o
  have o := Yi o
  refine Zg fun bV F => ?_
  refine Zg fun bW ai => ?_
  refine Zc (Za rfl rfl (Zh fa84_1 rfl) (Za rfl rfl (Zk i.at_ agg3 rfl rfl) (Za rfl rfl (Zbg rfl rfl) (Za rfl rfl (Zd rfl) ?_))))
  refine Yp (d := 58) rfl (fun p => ?_) (fun p => ?_)
  ·have aj := p
   have p := Yj (Qu p)
   refine Zj rfl rfl (Zj rfl rfl (Zj rfl rfl (Za rfl rfl (Ya rfl rfl) (Za rfl rfl (Zd rfl) (Zj rfl rfl (Zj rfl rfl (Zj rfl rfl ?_)))))))
   refine Za rfl rfl (Ya rfl rfl) (Ze (Zb (ai _ _ ?_)))
   refine Qf rfl ?_
   refine Zg fun bX a2 => ?_
   refine Zc (Za rfl rfl (Zf rfl) (Ze (Zb (a2 _ _ ?_))))
   refine Zq (Zo (Yd (Zo ?_)))
   clear H3 F
   exact Zi [_] ⟨rfl, trivial⟩ ⟨congrArg (Value.int .i64) (by unfold arT; repeat (first | rw [if_pos om] | rw [if_neg om])), E⟩
  have aj := p
  have p := Yi (Qv p)
  refine Za rfl rfl (Zh fa84_2 rfl) (Za rfl rfl (Zk i.at_ agg3 rfl rfl) (Za rfl rfl (Zbg rfl rfl) (Za rfl rfl (Yb rfl rfl) (Za rfl rfl (Zd rfl) ?_))))
  refine Yp (d := 63) rfl (fun q => ?_) (fun q => ?_)
  ·have ak := q
   have q := Yj (Qu q)
   refine Zj rfl rfl (Zj rfl rfl (Zj rfl rfl (Za rfl rfl (Ya rfl rfl) (Ze (Zb (ai _ _ ?_))))))
   refine Qf rfl ?_
   refine Zg fun bY a3 => ?_
   refine Zc (Za rfl rfl (Zf rfl) (Ze (Zb (a3 _ _ ?_))))
   refine Zq (Zo (Yd (Zo ?_)))
   clear H3 F
   exact Zi [_] ⟨rfl, trivial⟩ ⟨congrArg (Value.int .i64) (by unfold arT; repeat (first | rw [if_pos om] | rw [if_neg om])), E⟩
  have ak := q
  have q := Yi (Qv q)
  refine Za rfl rfl (Zh fa84_3 rfl) (Za rfl rfl (Zk i.at_ agg3 rfl rfl) (Za rfl rfl (Zbg rfl rfl) (Za rfl rfl (Yb rfl rfl) (Ze (Zb (ai _ _ ?_))))))
  refine Zp rfl (fun r => ?_) (fun r => ?_)
  ·have al := r
   have r := Yj (Qu r)
   refine Zg fun bZ a4 => ?_
   refine Zc (Za rfl rfl (Zf rfl) (Ze (Zb (a4 _ _ ?_))))
   refine Zq (Zo (Yd (Zo ?_)))
   clear H3 F
   exact Zi [_] ⟨rfl, trivial⟩ ⟨congrArg (Value.int .i64) (by unfold arT; repeat (first | rw [if_pos om] | rw [if_neg om])), E⟩
  have al := r
  have r := Yi (Qv r)
  refine Zu ?_
  refine Zb (F _ _ ?_)
  refine Zg fun b0 a5 => ?_
  refine Zc (Za rfl rfl (Zf rfl) (Ze (Zb (a5 _ _ ?_))))
  refine Zq (Yd (Zo ?_))
  exact Zi [_] ⟨rfl, trivial⟩ ⟨congrArg (Value.int .i64) (by unfold arT; repeat (first | rw [if_pos om] | rw [if_neg om])), E⟩
 have ah := o
 have o := Yj o
 refine Zg fun b1 a6 => ?_
 refine Zc (Za rfl rfl (Yy rfl rfl) (Za rfl rfl (Zf rfl) (Ze (Zb (a6 _ _ ?_)))))
 refine Zp rfl (fun s => ?_) (fun s => ?_)
 ·have am := s
  have s := Yi s
  refine Zg fun b2 G => ?_
  refine Zg fun b3 an => ?_
  refine Zc (Za rfl rfl (Zh fa84_1 rfl) (Za rfl rfl (Zk i.at_ agg3 rfl rfl) (Za rfl rfl (Zbg rfl rfl) (Za rfl rfl (Zd rfl) ?_))))
  refine Yp (d := 73) rfl (fun u => ?_) (fun u => ?_)
  ·have ao := u
   have u := Yj (Qu u)
   refine Zj rfl rfl (Zj rfl rfl (Zj rfl rfl (Zj rfl rfl (Za rfl rfl (Ya rfl rfl) (Za rfl rfl (Zd rfl) (Zj rfl rfl (Zj rfl rfl ?_)))))))
   refine Zj rfl rfl (Zj rfl rfl (Zj rfl rfl (Zj rfl rfl (Za rfl rfl (Ya rfl rfl) (Ze (Zb (an _ _ ?_)))))))
   refine Qf rfl ?_
   refine Zg fun b4 a7 => ?_
   refine Zc (Za rfl rfl (Zf rfl) (Ze (Zb (a7 _ _ ?_))))
   refine Zq (Zo (Yd (Zo ?_)))
   clear H3 G
   exact Zi [_] ⟨rfl, trivial⟩ ⟨congrArg (Value.int .i64) (by unfold arT; repeat (first | rw [if_pos om] | rw [if_neg om])), E⟩
  have ao := u
  have u := Yi (Qv u)
  refine Za rfl rfl (Zh fa84_3 rfl) (Za rfl rfl (Zk i.at_ agg3 rfl rfl) (Zm rfl rfl ?_))
  refine Step.call (Zl (xs := [.tmp 75, .const (Go.Value.int Go.IntKind.i64 1), .const (Go.Value.int Go.IntKind.i64 3)]) fk49 rfl) (Zek _ _ _ ) fun a8 b5 ap => ?_
  obtain ⟨rfl, aq⟩ := ap
  have a9 := aq.size
  have E := E.trans aq
  refine Za rfl rfl (Zbh rfl) (Za rfl rfl (Yb rfl rfl) (Za rfl rfl (Zd rfl) ?_))
  refine Yp (d := 79) rfl (fun x => ?_) (fun x => ?_)
  ·have au := x
   have x := Yj (Qu x)
   refine Zj rfl rfl (Zj rfl rfl (Zj rfl rfl (Zj rfl rfl (Zj rfl rfl (Zj rfl rfl (Za rfl rfl (Ya rfl rfl) (Ze ?_)))))))
   refine Zb (an _ _ ?_)
   refine Qf rfl ?_
   refine Zg fun b6 ba => ?_
   refine Zc (Za rfl rfl (Zf rfl) (Ze (Zb (ba _ _ ?_))))
   refine Zq (Zo (Yd (Zo ?_)))
   clear H3 G
   exact Zi [_] ⟨rfl, trivial⟩ ⟨congrArg (Value.int .i64) (by unfold arT; repeat (first | rw [if_pos om] | rw [if_neg om])), E⟩
  have au := x
  have x := Yi (Qv x)
  refine Za rfl rfl (Zh fa84_2 rfl) ?_
  have aA := i.ch0 aq
  refine Za rfl rfl (Zk aA.at_ agg3 rfl rfl) (Za rfl rfl (Zh fa84_3 rfl) (Za rfl rfl (Zk aA.at_ agg3 rfl rfl) (Zm rfl rfl ?_)))
  refine Step.call (Zl (xs := [.tmp 81, .const (Go.Value.int Go.IntKind.i64 0), .tmp 83]) fk49 rfl) (Zek _ _ _ ) fun bb b7 av => ?_
  obtain ⟨rfl, aB⟩ := av
  have bc := aB.size
  have E := E.trans aB
  refine Za rfl rfl (Zbh rfl) (Za rfl rfl (Yb rfl rfl) (Ze (Zb (an _ _ ?_))))
  refine Zp rfl (fun y => ?_) (fun y => ?_)
  ·have aw := y
   have y := Yj (Qu y)
   refine Zg fun b8 be => ?_
   refine Zc (Za rfl rfl (Zf rfl) (Ze (Zb (be _ _ ?_))))
   refine Zq (Zo (Yd (Zo ?_)))
   clear H3 G
   exact Zi [_] ⟨rfl, trivial⟩ ⟨congrArg (Value.int .i64) (by unfold arT; repeat (first | rw [if_pos om] | rw [if_neg om])), E⟩
  have aw := y
  have y := Yi (Qv y)
  refine Zu ?_
  refine Zb (G _ _ ?_)
  refine Zg fun b9 bf => ?_
  refine Zc (Za rfl rfl (Zf rfl) (Ze (Zb (bf _ _ ?_))))
  refine Zq (Yd (Zo ?_))
  exact Zi [_] ⟨rfl, trivial⟩ ⟨congrArg (Value.int .i64) (by unfold arT; repeat (first | rw [if_pos om] | rw [if_neg om])), E⟩
 have am := s
 have s := Yj s
 refine Zu ?_
 refine Zw (Zb (H3 _ _ ?_))
 refine Zg fun ca bg => ?_
 refine Zc (Za rfl rfl (Zf rfl) (Ze (Zb (bg _ _ ?_))))
 refine Zq ?_
 exact Zi [_] ⟨rfl, trivial⟩ ⟨congrArg (Value.int .i64) (by unfold arT; repeat (first | rw [if_pos om] | rw [if_neg om])), E⟩

/-- spec.IsExpr -/
theorem Zfd {w : World} {LL_e q : Nat} {m : Value} {e : List Token} (h : Ls Token.cs 4 w LL_e q m e) :
 Ctr Try.prog 74 #[(.agg #[m])] w (fun v w' => v = .bool (isE e) ∧ Ch [] w w') := by
 obtain ⟨k, l, n⟩ := h.val
 subst n
 have G := h.len
 have h := h.here (by decide)
 have E := Ch.refl [] w
 refine Ye (N := 32) (vs0 := [(.agg #[(.slice k e.length l)])]) Try.func74 rfl rfl rfl ?_
 refine Zg fun K1 H1 => ?_
 refine Zc (Zm rfl rfl ?_)
 refine Qw rfl fun r W2 p C2 V => ?_
 have X := C2.size
 have E := E.trans C2
 have Y := p.lt
 replace p : Blk W2 r 44 [(.slice k e.length l)] := p
 refine Za rfl rfl (Zf rfl) (Ze (Zb (H1 _ _ ?_)))
 refine Zg fun K3 H3 => ?_
 refine Zc (Za rfl rfl (Zf rfl) (Ze (Zb (H3 _ _ ?_))))
 refine Zg fun K4 H4 => ?_
 refine Zg fun K5 H5 => ?_
 refine Zc (Za rfl rfl (Zf rfl) (Ze (Zb (H5 _ _ ?_))))
 refine Zx ?_
 refine Xi (σ := Nat × Int × List Tr) (fun ⟨i, d, st⟩ => [(1, (.pointer (some ⟨r, 0, none⟩))), (3, (.int .i64 d)), (4, (.int .i64 ((i : Nat) : Int)))]) (fun ⟨i, d, st⟩ wx => Ch [] w wx ∧ W2.heap.size ≤ wx.heap.size ∧ (i ≤ e.length) ∧ (d = st.length) ∧ (st.length ≤ i) ∧ (prs [] (e.take i) = some st) ∧ Blk wx r 44 [(.slice k e.length l)]) (fun ⟨i, d, st⟩ => e.length - i) (0, 0, ([] : List Tr)) (sC2 rfl rfl (sC1 rfl (Sub.nil _))) ⟨E, (Nat.le_refl _), om, rfl, (Nat.le_refl _), rfl, p⟩ ?_
 rintro ⟨i, d, st⟩ R6 ⟨E, H, hi, hd, hs, hp, f⟩
 have o := E
 have D := o.size
 have s := f.lt
 refine Zg fun K7 H7 => ?_
 refine Zg fun K8 H8 => ?_
 refine Zc (Za rfl rfl (Zd rfl) (Za rfl rfl (Zh fa44_0 rfl) (Za rfl rfl (Zk f.at_ agg42 rfl rfl) (Za rfl rfl (Xc (by rw [el42]; rfl) rfl) (Za rfl rfl (Xs rfl rfl) (Ze (Zb (H8 _ _ ?_))))))))
 refine Zp rfl (fun a => ?_) (fun a => ?_)
 ·have I := a
  have a := Yi a
  refine Zu ?_
  refine Zb (H7 _ _ ?_)
  refine Zg fun Z u => ?_
  refine Zx ?_
  refine Zg fun aa J => ?_
  refine Zc (Za rfl rfl (Zh fa44_0 rfl) (Za rfl rfl (Zk f.at_ agg42 rfl rfl) (Za rfl rfl (Zd rfl) (Zm rfl rfl ?_))))
  have K := h.ch0 o
  refine (Yw K Token.len el42 sz84 rfl rfl rfl om fun L j g x => ?_)
  refine Za rfl rfl (Zy x agg84 sz84 rfl) (Zm rfl rfl ?_)
  refine Step.call (Zl (xs := [.tmp 17]) fk113 rfl) (Zed j ) fun M ab y => ?_
  obtain ⟨rfl, z⟩ := y
  have O := z.size
  have E := E.trans z
  have P := Zba j
  refine Za rfl rfl (Zf rfl) (Ze (Zb (J _ _ ?_)))
  refine Zg fun ac A => ?_
  refine Zg fun ad F => ?_
  refine Zc (Za rfl rfl (Zd rfl) (Za rfl rfl (Xs rfl rfl) (Za rfl rfl (Zd rfl) ?_)))
  refine Yp (d := 21) rfl (fun b => ?_) (fun b => ?_)
  ·have B := b
   have b := Yi b
   refine Zj rfl rfl (Zj rfl rfl (Zj rfl rfl (Za rfl rfl (Ya rfl rfl) (Ze (Zb (F _ _ ?_))))))
   refine Qf rfl ?_
   refine Zg fun ae Q => ?_
   refine Zc (Za rfl rfl (Zf rfl) (Ze (Zb (Q _ _ ?_))))
   refine Zq (Zo (Yd (Zo (Zo (Yd (Zo ?_))))))
   clear H4 u A
   exact Zi [_] ⟨rfl, trivial⟩ ⟨congrArg Value.bool (by first | (rw [Zmb hp om, hd]; done) | exact Zes (Zit hp g (Zjt om))), E⟩
  have B := b
  have b := Yj b
  refine Za rfl rfl (Zd rfl) (Za rfl rfl (Zd rfl) (Za rfl rfl (Zcp rfl rfl) (Za rfl rfl (Yb rfl rfl) (Ze (Zb (F _ _ ?_))))))
  refine Zp rfl (fun c => ?_) (fun c => ?_)
  ·have C := c
   have c := Yi c
   refine Zg fun af R => ?_
   refine Zc (Za rfl rfl (Zf rfl) (Ze (Zb (R _ _ ?_))))
   refine Zq (Zo (Yd (Zo (Zo (Yd (Zo ?_))))))
   clear H4 u A
   exact Zi [_] ⟨rfl, trivial⟩ ⟨congrArg Value.bool (by first | (rw [Zmb hp om, hd]; done) | exact Zes (Zit hp g (Zjt om))), E⟩
  have C := c
  have c := Yj c
  refine Zu ?_
  refine Zb (A _ _ (Zc (Za rfl rfl (Zd rfl) (Za rfl rfl (Zd rfl) (Za rfl rfl (Zav om rfl rfl) (Za rfl rfl (Yo om rfl rfl) (Za rfl rfl (Zf rfl) (Ze ?_))))))))
  refine Zw (Zb (u _ _ (Zc (Za rfl rfl (Zd rfl) (Za rfl rfl (Yo om rfl rfl) (Za rfl rfl (Zf rfl) (Ze ?_)))))))
  obtain ⟨s2, S, ag⟩ := Zru (t := j) (st := st) om om
  have T := f.ch0 z
  exact Zb (Exists.intro ((i + 1), ((d - arT j) + 1), s2) ⟨⟨E, om, om, om, om, ((Zgy hp g).trans S), T⟩, sC2 rfl rfl (sC1 rfl (Sub.nil _)), (by first | omega | (dsimp only; omega))⟩)
 have I := a
 have a := Yj a
 refine Xe (Zr (Zr (Yu ?_)))
 refine Zb (H4 _ _ ?_)
 refine Zg fun ah U => ?_
 refine Zc (Za rfl rfl (Zd rfl) (Za rfl rfl (Yy rfl rfl) (Za rfl rfl (Zf rfl) (Ze (Zb (U _ _ ?_))))))
 refine Zq ?_
 exact Zi [_] ⟨rfl, trivial⟩ ⟨congrArg Value.bool (by first | (rw [Zmb hp om, hd]; done) | exact Zes (Zit hp g (Zjt om))), E⟩

/-- spec.IsValidExpr -/
theorem Zac {w : World} {LL_e j : Nat} {c : Value} {e : List Token} (a : Ls Token.cs 4 w LL_e j c e) :
 Ctr Try.prog 31 #[(.agg #[c])] w (fun v w' => v = .bool (ivE e) ∧ Ch [] w w') := by
 obtain ⟨f, g, h⟩ := a.val
 subst h
 have k := a.len
 have a := a.here (by decide)
 have E := Ch.refl [] w
 refine Ye (N := 11) (vs0 := [(.agg #[(.slice f e.length g)])]) Try.func31 rfl rfl rfl ?_
 refine Zg fun K1 H1 => ?_
 refine Zc (Zm rfl rfl ?_)
 refine Qw rfl fun l W2 i C2 o => ?_
 have p := C2.size
 have E := E.trans C2
 have q := i.lt
 replace i : Blk W2 l 44 [(.slice f e.length g)] := i
 refine Za rfl rfl (Zf rfl) (Ze (Zb (H1 _ _ ?_)))
 refine Zg fun K3 H3 => ?_
 refine Zc (Za rfl rfl (Zh fa44_0 rfl) (Za rfl rfl (Zk i.at_ agg42 rfl rfl) (Za rfl rfl (Xc (by rw [el42]; rfl) rfl) (Za rfl rfl (Zgl rfl rfl) (Za rfl rfl (Zd rfl) ?_)))))
 refine Yp (d := 7) rfl (fun b => ?_) (fun b => ?_)
 ·have m := b
  have b := Yi b
  refine Za rfl rfl (Zy i.at_ agg44 sz44 rfl) (Zm rfl rfl ?_)
  have F5 := a.ch0 C2
  refine Step.call (Zl (xs := [.tmp 8]) fk74 rfl) (Zfd F5 ) fun r W6 n => ?_
  obtain ⟨rfl, C6⟩ := n
  have s := C6.size
  have E := E.trans C6
  refine Za rfl rfl (Ya rfl rfl) (Za rfl rfl (Zf rfl) (Ze (Zb (H3 _ _ ?_))))
  refine Zq ?_
  exact Zi [_] ⟨rfl, trivial⟩ ⟨congrArg Value.bool (by unfold ivE; first | (rw [decide_eq_true om]; rfl) | (rw [decide_eq_false om]; rfl)), E⟩
 have m := b
 have b := Yj b
 refine Zj rfl rfl (Zj rfl rfl (Za rfl rfl (Yb rfl rfl) (Za rfl rfl (Zf rfl) (Ze (Zb (H3 _ _ ?_))))))
 refine Zq ?_
 exact Zi [_] ⟨rfl, trivial⟩ ⟨congrArg Value.bool (by unfold ivE; first | (rw [decide_eq_true om]; rfl) | (rw [decide_eq_false om]; rfl)), E⟩

/-- spec.l8Copy -/
theorem Zki {w : World} {LL_l p : Nat} {h : Value} {l : List Token} (a : Ls Token.cs 4 w LL_l p h l) (hb : l.length ≤ 4194304) :
 Ctr Try.prog 129 #[h] w (fun v w' => ∃ u, v = .agg #[u] ∧ Ol Token.cs 84 4 w' u (l) ∧ Lo w.heap.size u ∧ Ch [] w w') := by
 obtain ⟨q, r, j⟩ := a.val
 subst j
 have A := a.len
 have a := a.here (by decide)
 have E := Ch.refl [] w
 refine Ye (N := 7) (vs0 := [(.slice q l.length r)]) Try.func129 rfl rfl rfl ?_
 refine Zg fun K1 H1 => ?_
 refine Zc (Zm rfl rfl ?_)
 refine Yh zr44 fun x W2 n C2 K => ?_
 have L := C2.size
 have E := E.trans C2
 have M := n.lt
 replace n : Blk W2 x 44 [(.slice none 0 0)] := n
 refine Ze (Zb (H1 _ _ ?_))
 refine Zg fun K3 H3 => ?_
 refine Zc (Zm rfl rfl ?_)
 refine Zab (k := 4) Token.cs el42 sz84 fun O W4 y b C4 => ?_
 have P := C4.size
 have E := E.trans C4
 obtain ⟨B, C, rfl, D, e⟩ := y.opn
 refine Za rfl rfl (Zd rfl) (Zm rfl rfl ?_)
 have F6 := (a.ch0 C2).ch0 C4
 refine Xn (cs := Token.cs) el42 sz84 by84 zr84 rfl (by decide) Token.one y F6 rfl rfl bd bd b om fun F W5 o s t C5 => ?_
 have Q := C5.size
 have E := E.step C5 (fun i hi => .inl (by have G := b _ hi; omega))
 replace o : Ol Token.cs 84 4 W5 F l := o
 obtain ⟨c, d, rfl, H, z⟩ := o.opn
 refine Za rfl rfl (Yn (parts := [(0, .tmp 5)]) (cells := [(.slice c (l).length d)]) zr44 pl44 rfl rfl) (Zm rfl rfl ?_)
 have F7 := (n.ch0 C4).ch C5 (fun hm => by have G := b _ hm; have I := e _ hm; omega)
 refine Zn (off := 0) 1 F7 sz44 rfl (us := [(.slice c (l).length d)]) rfl rfl rfl rfl fun W8 f C8 => ?_
 have R := C8.size
 have E := E.step C8 (lS om)
 replace f : Blk W8 x 44 [(.slice c (l).length d)] := f
 refine Ze (Zb (H3 _ _ ?_))
 refine Zq ?_
 have J := o.ch C8 (fun g hg hm => by have S := List.mem_singleton.1 hm; rcases t with ea | ea; (rw [ea] at hg; have I := b _ hg; have T := e _ hg; omega); (rw [ea] at hg; have U := List.mem_singleton.1 hg; omega))
 have m : Ol Token.cs 84 4 W8 (.slice c (l).length d) (l) := by
  have hx := J
  first | exact hx | simpa using hx
 exact Zi [_] (Zt f rfl agg44 sz44 trivial) ⟨_, rfl, m, Lo.down s om, E⟩

/-- spec.l8Join -/
theorem Xx {w : World} {LL_a ag : Nat} {D : Value} {a : List Token} (l : Ls Token.cs 4 w LL_a ag D a) {LL_b ah : Nat} {F : Value} {b : List Token} (m : Ls Token.cs 4 w LL_b ah F b) (t : Token) (hb : a.length + b.length ≤ 4194304) :
 Ctr Try.prog 111 #[(.agg #[D]), (.agg #[F]), (.agg #[(.int .i64 t.kind), (.int .i64 t.letter), (.int .i64 t.low), (.int .i64 t.high)])] w (fun v w' => ∃ u, v = .agg #[u] ∧ Ol Token.cs 84 4 w' u (a ++ b ++ [t]) ∧ Lo w.heap.size u ∧ Ch [] w w') := by
 obtain ⟨G, H, I⟩ := l.val
 subst I
 have aA := l.len
 have l := l.here (by decide)
 obtain ⟨J, K, L⟩ := m.val
 subst L
 have aB := m.len
 have m := m.here (by decide)
 have E := Ch.refl [] w
 refine Ye (N := 24) (vs0 := [(.agg #[(.slice G a.length H)]), (.agg #[(.slice J b.length K)]), (.agg #[(.int .i64 t.kind), (.int .i64 t.letter), (.int .i64 t.low), (.int .i64 t.high)])]) Try.func111 rfl rfl rfl ?_
 refine Zg fun K1 H1 => ?_
 refine Zc (Zm rfl rfl ?_)
 refine Qw rfl fun aC W2 Y C2 a8 => ?_
 have a9 := C2.size
 have E := E.trans C2
 have ba := Y.lt
 replace Y : Blk W2 aC 44 [(.slice G a.length H)] := Y
 refine Zm rfl rfl ?_
 refine Qw rfl fun aD W3 Z C3 bb => ?_
 have bc := C3.size
 have E := E.trans C3
 have be := Z.lt
 replace Z : Blk W3 aD 44 [(.slice J b.length K)] := Z
 refine Zm rfl rfl ?_
 refine Qw rfl fun aE W4 aa C4 bf => ?_
 have bg := C4.size
 have E := E.trans C4
 have bh := aa.lt
 replace aa : Blk W4 aE 84 [(.int .i64 t.kind), (.int .i64 t.letter), (.int .i64 t.low), (.int .i64 t.high)] := aa
 refine Zm rfl rfl ?_
 refine Yh zr44 fun am W5 ab C5 bi => ?_
 have bj := C5.size
 have E := E.trans C5
 have bk := ab.lt
 replace ab : Blk W5 am 44 [(.slice none 0 0)] := ab
 refine Ze (Zb (H1 _ _ ?_))
 refine Zg fun K6 H6 => ?_
 refine Zc (Za rfl rfl (Zh fa44_0 rfl) ?_)
 have F7 := ((Y.ch0 C3).ch0 C4).ch0 C5
 refine Za rfl rfl (Zk F7.at_ agg42 rfl rfl) (Zm rfl rfl ?_)
 have F8 := (((l.ch0 C2).ch0 C3).ch0 C4).ch0 C5
 refine Step.call (Zl (xs := [.tmp 9]) fk129 rfl) (Zki F8 om) fun aF W9 p => ?_
 obtain ⟨aG, rfl, p, d, C9⟩ := p
 have bm := C9.size
 have E := E.trans C9
 obtain ⟨q, r, rfl, an, c⟩ := p.opn
 refine Zm rfl rfl ?_
 refine Yh zr44 fun ac aH ad y bn => ?_
 have aI := y.size
 have E := E.trans y
 have bp := ad.lt
 replace ad : Blk aH ac 44 [(.slice none 0 0)] := ad
 refine Zm rfl rfl ?_
 refine Zn (off := 0) 1 ad sz44 rfl (us := [(.slice q (a).length r)]) rfl rfl rfl rfl fun aJ f z => ?_
 have aK := z.size
 have E := E.step z (lS om)
 replace f : Blk aJ ac 44 [(.slice q (a).length r)] := f
 refine Ze (Zb (H6 _ _ ?_))
 refine Zg fun bq aL => ?_
 refine Zc (Za rfl rfl (Zh fa44_0 rfl) (Za rfl rfl (Zk f.at_ agg42 rfl rfl) (Za rfl rfl (Zh fa44_0 rfl) ?_)))
 have aM := ((((Z.ch0 C4).ch0 C5).ch0 C9).ch0 y).ch z (nS om)
 refine Za rfl rfl (Zk aM.at_ agg42 rfl rfl) (Zm rfl rfl ?_)
 have aN := (p.ch0 y).ch z (dS d c om)
 have aO := ((((((m.ch0 C2).ch0 C3).ch0 C4).ch0 C5).ch0 C9).ch0 y).ch z (oS om)
 refine Xn (cs := Token.cs) el42 sz84 by84 zr84 rfl (by decide) Token.one aN aO rfl rfl bd bd d om fun aP br M s e O => ?_
 have aQ := O.size
 have E := E.step O (fun i hi => .inl (by have B := d _ hi; omega))
 obtain ⟨P, Q, rfl, ao, ai⟩ := M.opn
 refine Za rfl rfl (Zh fa44_0 rfl) (Zm rfl rfl ?_)
 have aR := f.ch O (fun hm => by have B := d _ hm; have A := c _ hm; omega)
 refine Xm (off := 0) aR sz42 rfl rfl rfl rfl fun aS h R => ?_
 have aT := R.size
 have E := E.step R (lS om)
 replace h : Blk aS ac 44 [(.slice P ((a ++ b)).length Q)] := h
 refine Ze (Zb (aL _ _ ?_))
 refine Zg fun bs aU => ?_
 refine Zc (Za rfl rfl (Zh fa44_0 rfl) (Za rfl rfl (Zk h.at_ agg42 rfl rfl) ?_))
 have aV := (((((aa.ch0 C5).ch0 C9).ch0 y).ch z (nS om)).ch O (fun hm => by have B := d _ hm; have A := c _ hm; omega)).ch R (nS om)
 refine Za rfl rfl (Zy aV.at_ agg84 sz84 rfl) (Zm rfl rfl ?_)
 refine Ym (cs := Token.cs) (parts := [(0, .tmp 19)]) (⟨0, 0, 0, 0⟩ : Token) [t] el42 sz84 zr84 Token.len (by decide) rfl rfl rfl (by decide) (by decide) rfl fun aW bu S ap T => ?_
 have aX := T.size
 have E := E.trans T
 obtain ⟨aq, au, rfl, av, aj⟩ := S.opn
 refine Zm rfl rfl ?_
 have aY := (M.ch R (fun g hg hm => by have aw := List.mem_singleton.1 hm; rcases e with ea | ea; (rw [ea] at hg; have A := d _ hg; have ax := c _ hg; omega); (rw [ea] at hg; have C := List.mem_singleton.1 hg; omega))).ch0 T
 refine Xn (cs := Token.cs) el42 sz84 by84 zr84 rfl (by decide) Token.one aY S.ls rfl rfl bd bd s om fun aZ bv U V x ae => ?_
 have a0 := ae.size
 have E := E.step ae (fun i hi => .inl (by have B := s _ hi; omega))
 obtain ⟨j, k, rfl, ay, ak⟩ := U.opn
 refine Za rfl rfl (Zh fa44_0 rfl) (Zm rfl rfl ?_)
 have a1 := (h.ch0 T).ch ae (fun hm => by rcases e with ea | ea; (rw [ea] at hm; have B := d _ hm; have A := c _ hm; omega); (rw [ea] at hm; have C := List.mem_singleton.1 hm; omega))
 refine Xm (off := 0) a1 sz42 rfl rfl rfl rfl fun a2 n af => ?_
 have a3 := af.size
 have E := E.step af (lS om)
 replace n : Blk a2 ac 44 [(.slice j (((a ++ b) ++ [t])).length k)] := n
 refine Ze (Zb (aU _ _ ?_))
 refine Zg fun bw a4 => ?_
 refine Zc (Za rfl rfl (Zy n.at_ agg44 sz44 rfl) (Zm rfl rfl ?_))
 have a5 := (((((((ab.ch0 C9).ch0 y).ch z (nS om)).ch O (fun hm => by have B := d _ hm; have A := c _ hm; omega)).ch R (nS om)).ch0 T).ch ae (fun hm => by rcases e with ea | ea; (rw [ea] at hm; have B := d _ hm; have A := c _ hm; omega); (rw [ea] at hm; have C := List.mem_singleton.1 hm; omega))).ch af (nS om)
 refine Zn (off := 0) 1 a5 sz44 rfl (us := [(.slice j (((a ++ b) ++ [t])).length k)]) rfl rfl rfl rfl fun az o al => ?_
 have a6 := al.size
 have E := E.step al (lS om)
 replace o : Blk az am 44 [(.slice j (((a ++ b) ++ [t])).length k)] := o
 refine Ze (Zb (a4 _ _ ?_))
 refine Zq ?_
 have a7 := (U.ch af (fun g hg hm => by have aw := List.mem_singleton.1 hm; rcases x with ea | ea; (rw [ea] at hg; rcases e with ea | ea; (rw [ea] at hg; have A := d _ hg; have ax := c _ hg; omega); (rw [ea] at hg; have C := List.mem_singleton.1 hg; omega)); (rw [ea] at hg; have C := List.mem_singleton.1 hg; omega))).ch al (fun g hg hm => by have aw := List.mem_singleton.1 hm; rcases x with ea | ea; (rw [ea] at hg; rcases e with ea | ea; (rw [ea] at hg; have A := d _ hg; have ax := c _ hg; omega); (rw [ea] at hg; have C := List.mem_singleton.1 hg; omega)); (rw [ea] at hg; have C := List.mem_singleton.1 hg; omega))
 have X : Ol Token.cs 84 4 az (.slice j (((a ++ b) ++ [t])).length k) (a ++ b ++ [t]) := by
  have hx := a7
  first | exact hx | simpa using hx
 exact Zi [_] (Zt o rfl agg44 sz44 trivial) ⟨_, rfl, X, Lo.down V om, E⟩

/-- spec.l8Leaf -/
theorem Zdc {w : World} (kind : Int) :
 Ctr Try.prog 130 #[(.int .i64 kind)] w (fun v w' => ∃ u, v = .agg #[u] ∧ Ol Token.cs 84 4 w' u ([(⟨kind, 0, 0, 0⟩ : Token)]) ∧ Lo w.heap.size u ∧ Ch [] w w') := by
 have E := Ch.refl [] w
 refine Ye (N := 7) (vs0 := [(.int .i64 kind)]) Try.func130 rfl rfl rfl ?_
 refine Zg fun K1 H1 => ?_
 refine Zc (Zm rfl rfl ?_)
 refine Yh zr44 fun h W2 f C2 k => ?_
 have l := C2.size
 have E := E.trans C2
 have m := f.lt
 replace f : Blk W2 h 44 [(.slice none 0 0)] := f
 refine Ze (Zb (H1 _ _ ?_))
 refine Zg fun K3 H3 => ?_
 refine Zc (Za rfl rfl (Zd rfl) (Za rfl rfl (Yn (parts := [(0, .tmp 3)]) (cells := [(.int .i64 kind), (.int .i64 0), (.int .i64 0), (.int .i64 0)]) zr84 pl84 rfl rfl) (Zm rfl rfl ?_)))
 refine Ym (cs := Token.cs) (parts := [(0, .tmp 4)]) (⟨0, 0, 0, 0⟩ : Token) [(⟨kind, 0, 0, 0⟩ : Token)] el42 sz84 zr84 Token.len (by decide) rfl rfl rfl (by decide) (by decide) rfl fun n W4 i d C4 => ?_
 have o := C4.size
 have E := E.trans C4
 obtain ⟨a, b, rfl, j, e⟩ := i.opn
 refine Za rfl rfl (Yn (parts := [(0, .tmp 5)]) (cells := [(.slice a ([(⟨kind, 0, 0, 0⟩ : Token)]).length b)]) zr44 pl44 rfl rfl) (Zm rfl rfl ?_)
 have F5 := f.ch0 C4
 refine Zn (off := 0) 1 F5 sz44 rfl (us := [(.slice a ([(⟨kind, 0, 0, 0⟩ : Token)]).length b)]) rfl rfl rfl rfl fun W6 c C6 => ?_
 have p := C6.size
 have E := E.step C6 (lS om)
 replace c : Blk W6 h 44 [(.slice a ([(⟨kind, 0, 0, 0⟩ : Token)]).length b)] := c
 refine Ze (Zb (H3 _ _ ?_))
 refine Zq ?_
 have F9 := i.ch C6 (dS d e om)
 have g : Ol Token.cs 84 4 W6 (.slice a ([(⟨kind, 0, 0, 0⟩ : Token)]).length b) ([(⟨kind, 0, 0, 0⟩ : Token)]) := by
  have hx := F9
  first | exact hx | simpa using hx
 exact Zi [_] (Zt c rfl agg44 sz44 trivial) ⟨_, rfl, g, Lo.down d om, E⟩

/-- spec.l10Times -/
theorem Zfv : ∀ (n : Nat) {w : World} {LL_e av : Nat} {aj : Value} {e : List Token} (q : Ls Token.cs 4 w LL_e av aj e) (low : Int) (high : Int) (x : Tr) (he : e = x.flat) (hx : x.sz ≤ 5000) (ao : 0 ≤ low) (hh : 0 ≤ high) (bD : high ≤ 3) (bE : low ≤ 3) (hsz : high.toNat < n),
 Ctr Try.prog 112 #[(.agg #[aj]), (.int .i64 low), (.int .i64 high)] w (fun v w' => ∃ u, v = .agg #[u] ∧ Ol Token.cs 84 4 w' u ((Qz x low (high).toNat).flat) ∧ Lo w.heap.size u ∧ Ch [] w w') := by
 intro n
 induction n with
 | zero => intros; omega
 | succ n ih =>
 intro w LL_e av aj e q low high x he hx ao hh bD bE hsz
 obtain ⟨aw, ax, ay⟩ := q.val
 subst ay
 have bF := q.len
 have q := q.here (by decide)
 have E := Ch.refl [] w
 have xl := x.flat_len; rw [← he] at xl
 refine Ye (N := 28) (vs0 := [(.agg #[(.slice aw e.length ax)]), (.int .i64 low), (.int .i64 high)]) Try.func112 rfl rfl rfl ?_
 refine Zg fun K1 H1 => ?_
 refine Zc (Zm rfl rfl ?_)
 refine Qw rfl fun bG W2 aY C2 cB => ?_
 have cC := C2.size
 have E := E.trans C2
 have cD := aY.lt
 replace aY : Blk W2 bG 44 [(.slice aw e.length ax)] := aY
 refine Zm rfl rfl ?_
 refine Yh zr44 fun Q W3 ap C3 cE => ?_
 have cF := C3.size
 have E := E.trans C3
 have cG := ap.lt
 replace ap : Blk W3 Q 44 [(.slice none 0 0)] := ap
 refine Ze (Zb (H1 _ _ ?_))
 refine Zg fun K4 H4 => ?_
 refine Zg fun K5 H5 => ?_
 refine Zc (Za rfl rfl (Zd rfl) (Za rfl rfl (Yy rfl rfl) (Ze (Zb (H5 _ _ ?_)))))
 refine Zp rfl (fun t => ?_) (fun t => ?_)
 ·have bH := t
  have t := Yi t
  refine Zg fun K7 H7 => ?_
  refine Zc (Zm rfl rfl ?_)
  refine Step.call (Zl (xs := [.const (Go.Value.int Go.IntKind.i64 2)]) fk130 rfl) (Zdc _ ) fun bI W8 R => ?_
  obtain ⟨bJ, rfl, R, U, C8⟩ := R
  have cH := C8.size
  have E := E.trans C8
  obtain ⟨y, z, rfl, bc, ak⟩ := R.opn
  refine Zm rfl rfl ?_
  have F9 := ap.ch0 C8
  refine Zn (off := 0) 1 F9 sz44 rfl (us := [(.slice y ([(⟨2, 0, 0, 0⟩ : Token)]).length z)]) rfl rfl rfl rfl fun be A a3 => ?_
  have bK := a3.size
  have E := E.step a3 (lS om)
  replace A : Blk be Q 44 [(.slice y ([(⟨2, 0, 0, 0⟩ : Token)]).length z)] := A
  refine Ze (Zb (H7 _ _ ?_))
  refine Zq (Zo ?_)
  have bL := R.ch a3 (dS U ak om)
  have az : Ol Token.cs 84 4 be (.slice y ([(⟨2, 0, 0, 0⟩ : Token)]).length z) ((Qz x low (high).toNat).flat) := by
   have hx := bL
   exact hx.eq (by first | (rw [← tim0 (x := x) (low := low) om]; rfl) | (rw [← timp (x := x) (low := low) om om om, he]; rfl) | (rw [← timn (x := x) (low := low) om om om, he]; rfl))
  exact Zi [_] (Zt A rfl agg44 sz44 trivial) ⟨_, rfl, az, Lo.down U om, E⟩
 have bH := t
 have t := Yj t
 refine Zu ?_
 refine Zb (H4 _ _ ?_)
 refine Zg fun bM bN => ?_
 have B : ∀ (lj : KL) (h : World) (aA : Nat) (o : Value), Go.KLib.Sub [(1, (.int .i64 low)), (6, (.pointer (some ⟨Q, 0, none⟩))), (7, (.pointer (some ⟨aA, 0, none⟩)))] lj → Ch [] W3 h → Ol Token.cs 84 4 h o (e ++ ((Qz x (if (low - 1) > 0 then (low - 1) else 0) ((high - 1)).toNat).flat) ++ [(⟨4, 0, 0, 0⟩ : Token)]) → Lo W3.heap.size o → Blk h aA 44 [o] → W3.heap.size ≤ aA → aA ∉ bl o → bM lj h := by
  intro lj h aA o aB g k p C bf V
  refine bN _ _ (Znx aB ?_)
  have aC := g.size
  have E := E.trans g
  obtain ⟨l, m, rfl, aZ, D⟩ := k.opn
  have bg := C.lt
  refine Zg fun cI bO => ?_
  refine Zg fun cJ bP => ?_
  refine Zc (Za rfl rfl (Zd rfl) (Za rfl rfl (Zcp rfl rfl) (Ze (Zb (bP _ _ ?_)))))
  refine Zp rfl (fun r => ?_) (fun r => ?_)
  ·have a4 := r
   have r := Yi r
   refine Zg fun cK bQ => ?_
   refine Zc (Za rfl rfl (Zy C.at_ agg44 sz44 rfl) (Zm rfl rfl ?_))
   have bR := ap.ch0 g
   refine Zn (off := 0) 1 bR sz44 rfl (us := [(.slice l (e ++ ((Qz x (if (low - 1) > 0 then (low - 1) else 0) ((high - 1)).toNat).flat) ++ [(⟨4, 0, 0, 0⟩ : Token)]).length m)]) rfl rfl rfl rfl fun bh F a5 => ?_
   have bS := a5.size
   have E := E.step a5 (lS om)
   replace F : Blk bh Q 44 [(.slice l (e ++ ((Qz x (if (low - 1) > 0 then (low - 1) else 0) ((high - 1)).toNat).flat) ++ [(⟨4, 0, 0, 0⟩ : Token)]).length m)] := F
   refine Ze (Zb (bQ _ _ ?_))
   refine Zq (Zo ?_)
   have bT := k.ch a5 (dS p D om)
   have aD : Ol Token.cs 84 4 bh (.slice l (e ++ ((Qz x (if (low - 1) > 0 then (low - 1) else 0) ((high - 1)).toNat).flat) ++ [(⟨4, 0, 0, 0⟩ : Token)]).length m) ((Qz x low (high).toNat).flat) := by
    have hx := bT
    exact hx.eq (by first | (rw [← tim0 (x := x) (low := low) om]; rfl) | (rw [← timp (x := x) (low := low) om om om, he]; rfl) | (rw [← timn (x := x) (low := low) om om om, he]; rfl))
   exact Zi [_] (Zt F rfl agg44 sz44 trivial) ⟨_, rfl, aD, Lo.down p om, E⟩
  have a4 := r
  have r := Yj r
  refine Zu ?_
  refine Zb (bO _ _ ?_)
  refine Zg fun cL bU => ?_
  refine Xb [Q] 5 mixed rfl fun a6 aE => ?_
  have bV := aE.size
  have E := E.trans aE
  have bW := C.ch0 aE
  refine dT 0 rfl rfl rfl (Yq bW.at_ (oS om) agg44 sz44 rfl ?_)
  refine dV 2 rfl rfl rfl (fun _ => Yn (parts := [(0, .const (Go.Value.int Go.IntKind.i64 5))]) (cells := [(.int .i64 5), (.int .i64 0), (.int .i64 0), (.int .i64 0)]) zr84 pl84 rfl rfl) (dO 1 (Zz rfl rfl rfl ?_))
  refine Step.call (Zl (xs := [.const (Go.Value.int Go.IntKind.i64 2)]) fk130 rfl) (Zdc _ ) fun bX bY S => ?_
  obtain ⟨bZ, rfl, S, bi, aF⟩ := S
  have b0 := aF.size
  have E := E.trans aF
  obtain ⟨bj, bk, rfl, bm, a7⟩ := S.opn
  have X : Ch [Q] a6 bY := ((Ch.refl _ _).trans aF.of_nil)
  refine ⟨X, ?_⟩
  refine dO 3 (Zz rfl rfl rfl ?_)
  have b1 := (k.ch0 aE).ch0 aF
  refine Step.call (Zl (xs := [.tmp 24, .tmp 25, .tmp 26]) fk111 rfl) (Xx b1.ls S.ls ⟨5, 0, 0, 0⟩ (by have t := Zjm (x := x) (n := high - 1) (if low - 1 > 0 then low - 1 else 0) hx om; simp only [List.length_append, List.length_singleton, Tr.flat_len]; omega)) fun b2 b3 T => ?_
  obtain ⟨b4, rfl, T, Y, a0⟩ := T
  have b5 := a0.size
  have E := E.trans a0
  obtain ⟨G, H, rfl, bn, al⟩ := T.opn
  have Z : Ch [Q] a6 b3 := (X.trans a0.of_nil)
  refine ⟨Z, ?_⟩
  refine dO 4 (Zz rfl rfl rfl ?_)
  have b6 := (((ap.ch0 g).ch0 aE).ch0 aF).ch0 a0
  refine Zn (off := 0) 1 b6 sz44 rfl (us := [(.slice G ((e ++ ((Qz x (if (low - 1) > 0 then (low - 1) else 0) ((high - 1)).toNat).flat) ++ [(⟨4, 0, 0, 0⟩ : Token)]) ++ ([(⟨2, 0, 0, 0⟩ : Token)]) ++ [(⟨5, 0, 0, 0⟩ : Token)]).length H)]) rfl rfl rfl rfl fun a8 I a1 => ?_
  have b7 := a1.size
  have E := E.step a1 (lS om)
  replace I : Blk a8 Q 44 [(.slice G ((e ++ ((Qz x (if (low - 1) > 0 then (low - 1) else 0) ((high - 1)).toNat).flat) ++ [(⟨4, 0, 0, 0⟩ : Token)]) ++ ([(⟨2, 0, 0, 0⟩ : Token)]) ++ [(⟨5, 0, 0, 0⟩ : Token)]).length H)] := I
  have aG : Ch [Q] a6 a8 := (Z.step a1 (fun i hm => by have ao := List.mem_singleton.1 hm; exact .inr (by rw [ao]; exact (List.mem_singleton.2 rfl))))
  refine ⟨aG, ?_⟩
  refine Yc (by kernel_rfl) ?_
  refine Zb (bU _ _ ?_)
  refine Zq ?_
  have b8 := T.ch a1 (dS Y al om)
  have aH : Ol Token.cs 84 4 a8 (.slice G ((e ++ ((Qz x (if (low - 1) > 0 then (low - 1) else 0) ((high - 1)).toNat).flat) ++ [(⟨4, 0, 0, 0⟩ : Token)]) ++ ([(⟨2, 0, 0, 0⟩ : Token)]) ++ [(⟨5, 0, 0, 0⟩ : Token)]).length H) ((Qz x low (high).toNat).flat) := by
   have hx := b8
   exact hx.eq (by first | (rw [← tim0 (x := x) (low := low) om]; rfl) | (rw [← timp (x := x) (low := low) om om om, he]; rfl) | (rw [← timn (x := x) (low := low) om om om, he]; rfl))
  exact Zi [_] (Zt I rfl agg44 sz44 trivial) ⟨_, rfl, aH, Lo.down Y om, E⟩
 refine Xb [] 12 mixed rfl fun J aa => ?_
 have b9 := aa.size
 have E := E.trans aa
 have bp := (aY.ch0 C3).ch0 aa
 refine dT 0 rfl rfl rfl (Yq bp.at_ (fun i hi => absurd hi List.not_mem_nil) agg44 sz44 rfl ?_)
 refine dT 1 rfl rfl rfl (Yq bp.at_ (fun i hi => absurd hi List.not_mem_nil) agg44 sz44 rfl ?_)
 refine dV 2 rfl rfl rfl (fun _ => Zd rfl) (dV 3 rfl rfl rfl (fun _ => Zav om rfl rfl) (dV 4 rfl rfl rfl (fun _ => Zvj rfl rfl) (dV 5 rfl rfl rfl (fun _ => Zd rfl) (dV 6 rfl rfl rfl (fun _ => Zav om rfl rfl) (dV 8 rfl rfl rfl (fun _ => Yn (parts := [(0, .const (Go.Value.int Go.IntKind.i64 4))]) (cells := [(.int .i64 4), (.int .i64 0), (.int .i64 0), (.int .i64 0)]) zr84 pl84 rfl rfl) ?_)))))
 refine Zat 7 10 (by kernel_rfl) ?_ ?_
 ·refine Zz rfl rfl rfl ?_
  have a9 := ((q.ch0 C2).ch0 C3).ch0 aa
  refine Step.call (Zl (xs := [.tmp 12, .tmp 15, .tmp 17]) fk112 rfl) (ih a9 _ _ x he hx (by split <;> omega) om om (by split <;> omega) om) fun ba ca j => ?_
  obtain ⟨bb, rfl, j, aI, am⟩ := j
  have cb := am.size
  have E := E.trans am
  obtain ⟨aJ, aK, rfl, aL, an⟩ := j.opn
  have K : Ch [] J ca := ((Ch.refl _ _).trans am)
  refine ⟨K, ?_⟩
  refine Zat 9 10 (by kernel_rfl) ?_ ?_
  ·refine Zz rfl rfl rfl ?_
   have cc := a9.ch0 am
   refine Step.call (Zl (xs := [.tmp 11, .tmp 18, .tmp 19]) fk111 rfl) (Xx cc j.ls ⟨4, 0, 0, 0⟩ (by have t := Zjm (x := x) (n := high - 1) (if low - 1 > 0 then low - 1 else 0) hx om; rw [Tr.flat_len]; omega)) fun aM cd f => ?_
   obtain ⟨aN, rfl, f, a, a2⟩ := f
   have ce := a2.size
   have E := E.trans a2
   obtain ⟨b, c, rfl, ab, d⟩ := f.opn
   have ac : Ch [] J cd := (K.trans a2)
   refine ⟨ac, ?_⟩
   refine dO 10 (Zz rfl rfl rfl ?_)
   refine Yh zr44 fun L bq s aO br => ?_
   have cf := aO.size
   have E := E.trans aO
   have bs := s.lt
   replace s : Blk bq L 44 [(.slice none 0 0)] := s
   have ad : Ch [] J bq := (ac.trans aO)
   refine ⟨ad, ?_⟩
   refine dO 11 (Zz rfl rfl rfl ?_)
   refine Zn (off := 0) 1 s sz44 rfl (us := [(.slice b (e ++ ((Qz x (if (low - 1) > 0 then (low - 1) else 0) ((high - 1)).toNat).flat) ++ [(⟨4, 0, 0, 0⟩ : Token)]).length c)]) rfl rfl rfl rfl fun bu M aP => ?_
   have cg := aP.size
   have E := E.step aP (lS om)
   replace M : Blk bu L 44 [(.slice b (e ++ ((Qz x (if (low - 1) > 0 then (low - 1) else 0) ((high - 1)).toNat).flat) ++ [(⟨4, 0, 0, 0⟩ : Token)]).length c)] := M
   have aQ : Ch [] J bu := (ad.step aP (fun i hm => by have ao := List.mem_singleton.1 hm; left; omega))
   refine ⟨aQ, ?_⟩
   refine Yc (by kernel_rfl) ?_
   refine Zb ?_
   have ci := (f.ch0 aO).ch aP (dS a d om)
   exact B _ _ L (.slice b (e ++ ((Qz x (if (low - 1) > 0 then (low - 1) else 0) ((high - 1)).toNat).flat) ++ [(⟨4, 0, 0, 0⟩ : Token)]).length c) (sC2 rfl rfl (sC1 rfl (Sub.nil _))) ((((((Ch.refl [] W3).trans aa).trans am).trans a2).trans aO).step aP (lS om)) ci (Lo.down a om) M om (fun hm => by have bv := a _ hm; have bw := d _ hm; omega)
  refine Zz rfl rfl rfl ?_
  refine Yh zr44 fun L bx s aq br => ?_
  have cj := aq.size
  have E := E.trans aq
  have bs := s.lt
  replace s : Blk bx L 44 [(.slice none 0 0)] := s
  have ae : Ch [] J bx := (K.trans aq)
  refine ⟨ae, ?_⟩
  refine dO 9 (Zz rfl rfl rfl ?_)
  have ck := (a9.ch0 am).ch0 aq
  have cl := j.ch0 aq
  refine Step.call (Zl (xs := [.tmp 11, .tmp 18, .tmp 19]) fk111 rfl) (Xx ck cl.ls ⟨4, 0, 0, 0⟩ (by have t := Zjm (x := x) (n := high - 1) (if low - 1 > 0 then low - 1 else 0) hx om; rw [Tr.flat_len]; omega)) fun aM cm f => ?_
  obtain ⟨aN, rfl, f, a, aR⟩ := f
  have cn := aR.size
  have E := E.trans aR
  obtain ⟨b, c, rfl, ab, d⟩ := f.opn
  have af : Ch [] J cm := (ae.trans aR)
  refine ⟨af, ?_⟩
  refine dO 11 (Zz rfl rfl rfl ?_)
  have co := s.ch0 aR
  refine Zn (off := 0) 1 co sz44 rfl (us := [(.slice b (e ++ ((Qz x (if (low - 1) > 0 then (low - 1) else 0) ((high - 1)).toNat).flat) ++ [(⟨4, 0, 0, 0⟩ : Token)]).length c)]) rfl rfl rfl rfl fun bz O aS => ?_
  have cp := aS.size
  have E := E.step aS (lS om)
  replace O : Blk bz L 44 [(.slice b (e ++ ((Qz x (if (low - 1) > 0 then (low - 1) else 0) ((high - 1)).toNat).flat) ++ [(⟨4, 0, 0, 0⟩ : Token)]).length c)] := O
  have aT : Ch [] J bz := (af.step aS (fun i hm => by have ao := List.mem_singleton.1 hm; left; omega))
  refine ⟨aT, ?_⟩
  refine Yc (by kernel_rfl) ?_
  refine Zb ?_
  have cq := f.ch aS (dS a d om)
  exact B _ _ L (.slice b (e ++ ((Qz x (if (low - 1) > 0 then (low - 1) else 0) ((high - 1)).toNat).flat) ++ [(⟨4, 0, 0, 0⟩ : Token)]).length c) (sC2 rfl rfl (sC1 rfl (Sub.nil _))) ((((((Ch.refl [] W3).trans aa).trans am).trans aq).trans aR).step aS (lS om)) cq (Lo.down a om) O om (fun hm => by have bv := a _ hm; have bw := d _ hm; omega)
 refine Zz rfl rfl rfl ?_
 refine Yh zr44 fun L bA s aU br => ?_
 have cr := aU.size
 have E := E.trans aU
 have bs := s.lt
 replace s : Blk bA L 44 [(.slice none 0 0)] := s
 have ag : Ch [] J bA := ((Ch.refl _ _).trans aU)
 refine ⟨ag, ?_⟩
 refine dO 7 (Zz rfl rfl rfl ?_)
 have bB := (((q.ch0 C2).ch0 C3).ch0 aa).ch0 aU
 refine Step.call (Zl (xs := [.tmp 12, .tmp 15, .tmp 17]) fk112 rfl) (ih bB _ _ x he hx (by split <;> omega) om om (by split <;> omega) om) fun ba ct j => ?_
 obtain ⟨bb, rfl, j, aI, au⟩ := j
 have cu := au.size
 have E := E.trans au
 obtain ⟨aJ, aK, rfl, aL, an⟩ := j.opn
 have ah : Ch [] J ct := (ag.trans au)
 refine ⟨ah, ?_⟩
 refine dO 9 (Zz rfl rfl rfl ?_)
 have cv := bB.ch0 au
 refine Step.call (Zl (xs := [.tmp 11, .tmp 18, .tmp 19]) fk111 rfl) (Xx cv j.ls ⟨4, 0, 0, 0⟩ (by have t := Zjm (x := x) (n := high - 1) (if low - 1 > 0 then low - 1 else 0) hx om; rw [Tr.flat_len]; omega)) fun aM cw f => ?_
 obtain ⟨aN, rfl, f, a, aV⟩ := f
 have cx := aV.size
 have E := E.trans aV
 obtain ⟨b, c, rfl, ab, d⟩ := f.opn
 have ai : Ch [] J cw := (ah.trans aV)
 refine ⟨ai, ?_⟩
 refine dO 11 (Zz rfl rfl rfl ?_)
 have cy := (s.ch0 au).ch0 aV
 refine Zn (off := 0) 1 cy sz44 rfl (us := [(.slice b (e ++ ((Qz x (if (low - 1) > 0 then (low - 1) else 0) ((high - 1)).toNat).flat) ++ [(⟨4, 0, 0, 0⟩ : Token)]).length c)]) rfl rfl rfl rfl fun bC P aW => ?_
 have cz := aW.size
 have E := E.step aW (lS om)
 replace P : Blk bC L 44 [(.slice b (e ++ ((Qz x (if (low - 1) > 0 then (low - 1) else 0) ((high - 1)).toNat).flat) ++ [(⟨4, 0, 0, 0⟩ : Token)]).length c)] := P
 have aX : Ch [] J bC := (ai.step aW (fun i hm => by have ao := List.mem_singleton.1 hm; left; omega))
 refine ⟨aX, ?_⟩
 refine Yc (by kernel_rfl) ?_
 refine Zb ?_
 have cA := f.ch aW (dS a d om)
 exact B _ _ L (.slice b (e ++ ((Qz x (if (low - 1) > 0 then (low - 1) else 0) ((high - 1)).toNat).flat) ++ [(⟨4, 0, 0, 0⟩ : Token)]).length c) (sC2 rfl rfl (sC1 rfl (Sub.nil _))) ((((((Ch.refl [] W3).trans aa).trans aU).trans au).trans aV).step aW (lS om)) cA (Lo.down a om) P om (fun hm => by have bv := a _ hm; have bw := d _ hm; omega)
theorem Zik {w : World} {LL_e b : Nat} {a : Value} {e : List Token} (c : Ls Token.cs 4 w LL_e b a e) (low : Int) (high : Int) (x : Tr) (he : e = x.flat) (hx : x.sz ≤ 5000) (d : 0 ≤ low) (hh : 0 ≤ high) (f : high ≤ 3) (g : low ≤ 3) :
 Ctr Try.prog 112 #[(.agg #[a]), (.int .i64 low), (.int .i64 high)] w (fun v w' => ∃ u, v = .agg #[u] ∧ Ol Token.cs 84 4 w' u ((Qz x low (high).toNat).flat) ∧ Lo w.heap.size u ∧ Ch [] w w') := Zfv _ c low high x he hx d hh f g (Nat.lt_succ_self _)

/-- spec.l8Start -/
theorem Zan {w : World} {LL_l m : Nat} {d : Value} {l : List Token} (a : Ls Token.cs 4 w LL_l m d l) (p : List Token) (t : Tr) (hok : Okd t) (hl : l = p ++ t.flat) :
 Ctr Try.prog 106 #[d] w (fun v w' => v = .int .i64 (((p.length : Nat) : Int)) ∧ Ch [] w w') := by
 obtain ⟨e, f, g⟩ := a.val
 subst g
 have A := a.len
 have a := a.here (by decide)
 have E := Ch.refl [] w
 refine Ye (N := 20) (vs0 := [(.slice e l.length f)]) Try.func106 rfl rfl rfl ?_
 refine Zg fun K1 H1 => ?_
 refine Zc (Za rfl rfl (Zf rfl) (Ze (Zb (H1 _ _ ?_))))
 refine Zg fun K2 H2 => ?_
 refine Zc (Za rfl rfl (Zf rfl) (Ze (Zb (H2 _ _ ?_))))
 refine Zg fun K3 H3 => ?_
 refine Zc (Za rfl rfl (Zd rfl) (Za rfl rfl (Xc (by rw [el42]; rfl) rfl) (Za rfl rfl (Zf rfl) (Ze (Zb (H3 _ _ ?_))))))
 refine Zg fun K4 H4 => ?_
 refine Zx ?_
 refine Xi (σ := Int × Int × List Tr) (fun ⟨n, k, ts⟩ => [(0, (.slice e l.length f)), (2, (.int .i64 0)), (3, (.int .i64 n)), (4, (.int .i64 k))]) (fun ⟨n, k, ts⟩ wx => Ch [] w wx ∧ w.heap.size ≤ wx.heap.size ∧ (0 ≤ k) ∧ (k ≤ l.length) ∧ (n = ts.length) ∧ (l.take k.toNat = p ++ Xy ts) ∧ (∀ x ∈ ts, Okd x)) (fun ⟨n, k, ts⟩ => k.toNat) (1, (l.length : Int), [t]) (sC4 rfl rfl rfl rfl (Sub.nil _)) ⟨E, (Nat.le_refl _), om, om, rfl, (by rw [show ((l.length : Int)).toNat = l.length from by omega, List.take_length, hl]; simp [Xy]), (fun x hx => by rw [List.mem_singleton.1 hx]; exact hok)⟩ ?_
 rintro ⟨n, k, ts⟩ R5 ⟨E, B, o, s, hn, hp, ho⟩
 have h := E
 have u := h.size
 have s1 := Zib hp o
 refine Zg fun K6 H6 => ?_
 refine Zg fun K7 H7 => ?_
 refine Zc (Za rfl rfl (Zd rfl) (Za rfl rfl (Zcp rfl rfl) (Ze (Zb (H7 _ _ ?_)))))
 refine Zp rfl (fun b => ?_) (fun b => ?_)
 ·have C := b
  have b := Yi b
  refine Zu ?_
  refine Zb (H6 _ _ ?_)
  refine Zx ?_
  refine Zg fun K9 H9 => ?_
  refine Zc (Za rfl rfl (Zd rfl) (Za rfl rfl (Zav om rfl rfl) (Za rfl rfl (Zf rfl) (Ze (Zb (H9 _ _ (Zc (Za rfl rfl (Zd rfl) ?_))))))))
  refine Za rfl rfl (Zav om rfl rfl) (Za rfl rfl (Zd rfl) (Za rfl rfl (Zd rfl) (Zm rfl rfl ?_)))
  have D := a.ch0 h
  refine (Yw (j := (k - 1).toNat) D Token.len el42 sz84 rfl rfl om om fun F c i q => ?_)
  refine Za rfl rfl (Zy q agg84 sz84 rfl) (Zm rfl rfl ?_)
  refine Step.call (Zl (xs := [.tmp 16]) fk113 rfl) (Zed c ) fun G L r => ?_
  obtain ⟨rfl, y⟩ := r
  have H := y.size
  have E := E.trans y
  have I := Zba c
  obtain ⟨s2, z, M, J⟩ := Zoe hp ho om o s i
  have s3 := Zib z om
  refine Za rfl rfl (Yo om rfl rfl) (Za rfl rfl (Zf rfl) (Ze (Zw ?_)))
  exact Zb (Exists.intro (((n - 1) + arT c), (k - 1), s2) ⟨⟨E, om, om, om, om, z, J⟩, sC4 rfl rfl rfl rfl (Sub.nil _), (by first | omega | (dsimp only; omega))⟩)
 have C := b
 have b := Yj b
 refine Xe (Zr (Zr (Yu ?_)))
 refine Zb (H4 _ _ ?_)
 refine Zg fun O K => ?_
 refine Zc (Za rfl rfl (Zd rfl) (Za rfl rfl (Zf rfl) (Ze (Zb (K _ _ ?_)))))
 refine Zq ?_
 exact Zi [_] ⟨rfl, trivial⟩ ⟨congrArg (Value.int .i64) (Zqu hp hn om o s), E⟩

/-- spec.l10Expand -/
theorem Zfg : ∀ (n : Nat) {w : World} {LL_l az : Nat} {aj : Value} {l : List Token} (F : Ls Token.cs 4 w LL_l az aj l) (t : Tr) (hok : Okd t) (hl : l = t.flat) (hb : Xt t ≤ 5000) (hsz : l.length < n),
 Ctr Try.prog 73 #[aj] w (fun v w' => ∃ u, v = .agg #[u] ∧ Ol Token.cs 84 4 w' u ((Xl t).flat) ∧ Lo w.heap.size u ∧ Ch [] w w') := by
 intro n
 induction n with
 | zero => intros; omega
 | succ n ih =>
 intro w LL_l az aj l F t hok hl hb hsz
 obtain ⟨bv, bw, aA⟩ := F.val
 subst aA
 have cx := F.len
 have F := F.here (by decide)
 have E := Ch.refl [] w
 have cy := t.flat_pos; rw [← hl] at cy; have k2 := hok.len
 refine Ye (N := 56) (vs0 := [(.slice bv l.length bw)]) Try.func73 rfl rfl rfl ?_
 refine Zg fun K1 H1 => ?_
 refine Zc (Zm rfl rfl ?_)
 refine Yh zr44 fun e W2 U C2 dX => ?_
 have dY := C2.size
 have E := E.trans C2
 have dZ := U.lt
 replace U : Blk W2 e 44 [(.slice none 0 0)] := U
 refine Ze (Zb (H1 _ _ ?_))
 refine Zg fun K3 H3 => ?_
 refine Zc (Za rfl rfl (Zd rfl) (Za rfl rfl (Xc (by rw [el42]; rfl) rfl) (Za rfl rfl (Zav om rfl rfl) (Za rfl rfl (Zf rfl) (Ze (Zb (H3 _ _ ?_)))))))
 refine Zg fun K4 H4 => ?_
 refine Zc (Za rfl rfl (Zd rfl) (Za rfl rfl (Zd rfl) (Zm rfl rfl ?_)))
 have F5 := F.ch0 C2
 refine (Yw (j := (((l.length : Nat) : Int) - 1).toNat) F5 Token.len el42 sz84 rfl rfl om om fun cz a aB bx => ?_)
 have d := Zka hl om aB
 have htk := congrArg Token.kind d
 have hte := congrArg Token.letter d
 have htl := congrArg Token.low d
 have hth := congrArg Token.high d
 refine Za rfl rfl (Zy bx agg84 sz84 rfl) (Zm rfl rfl ?_)
 refine Yh zr84 fun b8 W6 bf C6 d0 => ?_
 have d1 := C6.size
 have E := E.trans C6
 have d2 := bf.lt
 replace bf : Blk W6 b8 84 [(.int .i64 0), (.int .i64 0), (.int .i64 0), (.int .i64 0)] := bf
 refine Zm rfl rfl ?_
 refine Zn (off := 0) 4 bf sz84 rfl (us := [(.int .i64 a.kind), (.int .i64 a.letter), (.int .i64 a.low), (.int .i64 a.high)]) rfl rfl rfl rfl fun W7 p C7 => ?_
 have d3 := C7.size
 have E := E.step C7 (lS om)
 replace p : Blk W7 b8 84 [(.int .i64 a.kind), (.int .i64 a.letter), (.int .i64 a.low), (.int .i64 a.high)] := p
 refine Ze (Zb (H4 _ _ ?_))
 refine Zg fun K9 H9 => ?_
 refine Zg fun d4 cA => ?_
 refine Zc (Za rfl rfl (Zh fa84_0 rfl) (Za rfl rfl (Zk p.at_ agg3 rfl rfl) (Ze (Zb (cA _ _ ?_)))))
 refine Zx ?_
 refine Zg fun d5 b9 => ?_
 refine Zg fun d6 cB => ?_
 refine Zc (Za rfl rfl (Yy rfl rfl) (Za rfl rfl (Zf rfl) (Ze (Zb (cB _ _ ?_)))))
 refine Zp rfl (fun c => ?_) (fun c => ?_)
 ·have aC := c
  have c := Yi c
  obtain ⟨ta, tb, et, oa, ob, hla, bz⟩ := hok.k2 om d hl
  have b : t.kids[0]? = some ta := by rw [et]; rfl
  have q : t.kids[1]? = some tb := by rw [et]; rfl
  have ga := ta.flat_len
  have gb := tb.flat_len
  have ba := Zfl hok hb b
  have ea := Zbu oa ba
  have fa := (Xl ta).flat_len
  have ra := Xv oa
  have bc := Zfl hok hb q
  have ec := Zbu ob bc
  have fc := (Xl tb).flat_len
  have rc := Xv ob
  refine Zu ?_
  refine Zb (b9 _ _ ?_)
  refine Zas rfl aC ?_
  refine Zg fun d7 cC => ?_
  refine Zc (Za rfl rfl (Zd rfl) (Za rfl rfl (Zd rfl) (Zm rfl rfl ?_)))
  have ca := (F5.ch0 C6).ch C7 (oS om)
  refine (Zgo (ys := (ta.flat ++ tb.flat)) 0 ((((l.length : Nat) : Int) - 1).toNat) ca Token.len el42 sz84 rfl rfl ⟨_, _, rfl, by omega⟩ om om (show l.take _ = _ from Ziv hla om) fun bA s aD aE => ?_)
  obtain ⟨bB, bC, ak⟩ := s.val
  subst ak
  have bD := s.len
  refine Zm rfl rfl ?_
  refine Step.call (Zl (xs := [.tmp 20]) fk106 rfl) (Zan s ta.flat tb ob rfl) fun bE d8 al => ?_
  obtain ⟨rfl, aF⟩ := al
  have cD := aF.size
  have E := E.trans aF
  refine Za rfl rfl (Zf rfl) (Ze (Zb (cC _ _ ?_)))
  refine Zg fun d9 cE => ?_
  refine Xb [e] 12 mixed rfl fun bg aG => ?_
  have cF := aG.size
  have E := E.trans aG
  refine dV 0 rfl rfl rfl (fun _ => Zd rfl) (dV 1 rfl rfl rfl (fun _ => Zd rfl) ?_)
  have cb := (ca.ch0 aF).ch0 aG
  refine dT 2 rfl rfl rfl (Zhh (ys := ta.flat) 0 ta.flat.length cb Token.len el42 sz84 rfl rfl ⟨_, _, rfl, by omega⟩ om om (show l.take _ = _ from Zny hla om) fun bF x aH aI => ?_)
  obtain ⟨bG, bH, am⟩ := x.val
  subst am
  have bI := x.len
  refine dV 4 rfl rfl rfl (fun _ => Zd rfl) (dV 5 rfl rfl rfl (fun _ => Zd rfl) (dV 6 rfl rfl rfl (fun _ => Zd rfl) ?_))
  refine dT 7 rfl rfl rfl (Zhh (ys := tb.flat) ta.flat.length ((((l.length : Nat) : Int) - 1).toNat) cb Token.len el42 sz84 rfl ⟨_, _, rfl, by omega⟩ ⟨_, _, rfl, by omega⟩ om om (Znu hla om om) fun bJ y aJ aK => ?_)
  obtain ⟨bK, bL, an⟩ := y.val
  subst an
  have bM := y.len
  have cG := (p.ch0 aF).ch0 aG
  refine dT 9 rfl rfl rfl (Yq cG.at_ (oS om) agg84 sz84 rfl ?_)
  refine dO 3 (Zz rfl rfl rfl ?_)
  refine Step.call (Zl (xs := [.tmp 24]) fk73 rfl) (ih x ta oa rfl ba om) fun bN cH h => ?_
  obtain ⟨bO, rfl, h, aL, aM⟩ := h
  have cI := aM.size
  have E := E.trans aM
  obtain ⟨aN, aO, rfl, aP, ao⟩ := h.opn
  have V : Ch [e] bg cH := ((Ch.refl _ _).trans aM.of_nil)
  refine ⟨V, ?_⟩
  refine dO 8 (Zz rfl rfl rfl ?_)
  have cJ := y.ch0 aM
  refine Step.call (Zl (xs := [.tmp 29]) fk73 rfl) (ih cJ tb ob rfl bc om) fun bP cK m => ?_
  obtain ⟨bQ, rfl, m, aQ, aR⟩ := m
  have cL := aR.size
  have E := E.trans aR
  obtain ⟨aS, aT, rfl, aU, ap⟩ := m.opn
  have X : Ch [e] bg cK := (V.trans aR.of_nil)
  refine ⟨X, ?_⟩
  refine dO 10 (Zz rfl rfl rfl ?_)
  have cM := h.ch0 aR
  refine Step.call (Zl (xs := [.tmp 25, .tmp 30, .tmp 31]) fk111 rfl) (Xx cM.ls m.ls a om) fun bR cN o => ?_
  obtain ⟨bS, rfl, o, r, bh⟩ := o
  have cO := bh.size
  have E := E.trans bh
  obtain ⟨f, g, rfl, aV, z⟩ := o.opn
  have Y : Ch [e] bg cN := (X.trans bh.of_nil)
  refine ⟨Y, ?_⟩
  refine dO 11 (Zz rfl rfl rfl ?_)
  have cP := ((((((U.ch0 C6).ch C7 (nS om)).ch0 aF).ch0 aG).ch0 aM).ch0 aR).ch0 bh
  refine Zn (off := 0) 1 cP sz44 rfl (us := [(.slice f (((Xl ta).flat) ++ ((Xl tb).flat) ++ [a]).length g)]) rfl rfl rfl rfl fun bT G bi => ?_
  have cQ := bi.size
  have E := E.step bi (lS om)
  replace G : Blk bT e 44 [(.slice f (((Xl ta).flat) ++ ((Xl tb).flat) ++ [a]).length g)] := G
  have aW : Ch [e] bg bT := (Y.step bi (fun i hm => by have aq := List.mem_singleton.1 hm; exact .inr (by rw [aq]; exact (List.mem_singleton.2 rfl))))
  refine ⟨aW, ?_⟩
  refine Yc (by kernel_rfl) ?_
  refine Zb (cE _ _ ?_)
  refine Zq (Yd (Zo ?_))
  have cR := o.ch bi (dS r z om)
  have aX : Ol Token.cs 84 4 bT (.slice f (((Xl ta).flat) ++ ((Xl tb).flat) ++ [a]).length g) ((Xl t).flat) := by
   have hx := cR
   exact hx.eq (by first | (rw [← exp2 hok om b q, d]; rfl) | (rw [← exp6 hok om b, d]; simp [Tr.flat]; done) | (rw [← exp7 hok om b, d]) | (rw [← exp0 hok om, d]; rfl))
  exact Zi [_] (Zt G rfl agg44 sz44 trivial) ⟨_, rfl, aX, Lo.down r om, E⟩
 have aC := c
 have c := Yj c
 refine Zc (Za rfl rfl (Yy rfl rfl) (Za rfl rfl (Zf rfl) (Ze (Zb (b9 _ _ ?_)))))
 refine Zp rfl (fun c => ?_) (fun c => ?_)
 ·have bU := c
  have c := Yi c
  obtain ⟨ta, tb, et, oa, ob, hla, bz⟩ := hok.k2 om d hl
  have b : t.kids[0]? = some ta := by rw [et]; rfl
  have q : t.kids[1]? = some tb := by rw [et]; rfl
  have ga := ta.flat_len
  have gb := tb.flat_len
  have ba := Zfl hok hb b
  have ea := Zbu oa ba
  have fa := (Xl ta).flat_len
  have ra := Xv oa
  have bc := Zfl hok hb q
  have ec := Zbu ob bc
  have fc := (Xl tb).flat_len
  have rc := Xv ob
  refine Zg fun eb cS => ?_
  refine Zc (Za rfl rfl (Zd rfl) (Za rfl rfl (Zd rfl) (Zm rfl rfl ?_)))
  have cc := (F5.ch0 C6).ch C7 (oS om)
  refine (Zgo (ys := (ta.flat ++ tb.flat)) 0 ((((l.length : Nat) : Int) - 1).toNat) cc Token.len el42 sz84 rfl rfl ⟨_, _, rfl, by omega⟩ om om (show l.take _ = _ from Ziv hla om) fun bA s aD aE => ?_)
  obtain ⟨bB, bC, ak⟩ := s.val
  subst ak
  have bD := s.len
  refine Zm rfl rfl ?_
  refine Step.call (Zl (xs := [.tmp 20]) fk106 rfl) (Zan s ta.flat tb ob rfl) fun bE ed al => ?_
  obtain ⟨rfl, aY⟩ := al
  have cT := aY.size
  have E := E.trans aY
  refine Za rfl rfl (Zf rfl) (Ze (Zb (cS _ _ ?_)))
  refine Zg fun ee cU => ?_
  refine Xb [e] 12 mixed rfl fun bj aZ => ?_
  have cV := aZ.size
  have E := E.trans aZ
  refine dV 0 rfl rfl rfl (fun _ => Zd rfl) (dV 1 rfl rfl rfl (fun _ => Zd rfl) ?_)
  have cd := (cc.ch0 aY).ch0 aZ
  refine dT 2 rfl rfl rfl (Zhh (ys := ta.flat) 0 ta.flat.length cd Token.len el42 sz84 rfl rfl ⟨_, _, rfl, by omega⟩ om om (show l.take _ = _ from Zny hla om) fun bF x aH aI => ?_)
  obtain ⟨bG, bH, am⟩ := x.val
  subst am
  have bI := x.len
  refine dV 4 rfl rfl rfl (fun _ => Zd rfl) (dV 5 rfl rfl rfl (fun _ => Zd rfl) (dV 6 rfl rfl rfl (fun _ => Zd rfl) ?_))
  refine dT 7 rfl rfl rfl (Zhh (ys := tb.flat) ta.flat.length ((((l.length : Nat) : Int) - 1).toNat) cd Token.len el42 sz84 rfl ⟨_, _, rfl, by omega⟩ ⟨_, _, rfl, by omega⟩ om om (Znu hla om om) fun bJ y aJ aK => ?_)
  obtain ⟨bK, bL, an⟩ := y.val
  subst an
  have bM := y.len
  have cW := (p.ch0 aY).ch0 aZ
  refine dT 9 rfl rfl rfl (Yq cW.at_ (oS om) agg84 sz84 rfl ?_)
  refine dO 3 (Zz rfl rfl rfl ?_)
  refine Step.call (Zl (xs := [.tmp 24]) fk73 rfl) (ih x ta oa rfl ba om) fun bN cX h => ?_
  obtain ⟨bO, rfl, h, aL, a0⟩ := h
  have cY := a0.size
  have E := E.trans a0
  obtain ⟨aN, aO, rfl, aP, ao⟩ := h.opn
  have Z : Ch [e] bj cX := ((Ch.refl _ _).trans a0.of_nil)
  refine ⟨Z, ?_⟩
  refine dO 8 (Zz rfl rfl rfl ?_)
  have cZ := y.ch0 a0
  refine Step.call (Zl (xs := [.tmp 29]) fk73 rfl) (ih cZ tb ob rfl bc om) fun bP c0 m => ?_
  obtain ⟨bQ, rfl, m, aQ, a1⟩ := m
  have c1 := a1.size
  have E := E.trans a1
  obtain ⟨aS, aT, rfl, aU, ap⟩ := m.opn
  have aa : Ch [e] bj c0 := (Z.trans a1.of_nil)
  refine ⟨aa, ?_⟩
  refine dO 10 (Zz rfl rfl rfl ?_)
  have c2 := h.ch0 a1
  refine Step.call (Zl (xs := [.tmp 25, .tmp 30, .tmp 31]) fk111 rfl) (Xx c2.ls m.ls a om) fun bR c3 o => ?_
  obtain ⟨bS, rfl, o, r, bk⟩ := o
  have c4 := bk.size
  have E := E.trans bk
  obtain ⟨f, g, rfl, aV, z⟩ := o.opn
  have ab : Ch [e] bj c3 := (aa.trans bk.of_nil)
  refine ⟨ab, ?_⟩
  refine dO 11 (Zz rfl rfl rfl ?_)
  have c5 := ((((((U.ch0 C6).ch C7 (nS om)).ch0 aY).ch0 aZ).ch0 a0).ch0 a1).ch0 bk
  refine Zn (off := 0) 1 c5 sz44 rfl (us := [(.slice f (((Xl ta).flat) ++ ((Xl tb).flat) ++ [a]).length g)]) rfl rfl rfl rfl fun bV H bm => ?_
  have c6 := bm.size
  have E := E.step bm (lS om)
  replace H : Blk bV e 44 [(.slice f (((Xl ta).flat) ++ ((Xl tb).flat) ++ [a]).length g)] := H
  have a2 : Ch [e] bj bV := (ab.step bm (fun i hm => by have aq := List.mem_singleton.1 hm; exact .inr (by rw [aq]; exact (List.mem_singleton.2 rfl))))
  refine ⟨a2, ?_⟩
  refine Yc (by kernel_rfl) ?_
  refine Zb (cU _ _ ?_)
  refine Zq (Yd (Zo ?_))
  have c7 := o.ch bm (dS r z om)
  have a3 : Ol Token.cs 84 4 bV (.slice f (((Xl ta).flat) ++ ((Xl tb).flat) ++ [a]).length g) ((Xl t).flat) := by
   have hx := c7
   exact hx.eq (by first | (rw [← exp2 hok om b q, d]; rfl) | (rw [← exp6 hok om b, d]; simp [Tr.flat]; done) | (rw [← exp7 hok om b, d]) | (rw [← exp0 hok om, d]; rfl))
  exact Zi [_] (Zt H rfl agg44 sz44 trivial) ⟨_, rfl, a3, Lo.down r om, E⟩
 have bU := c
 have c := Yj c
 refine Zg fun ef c8 => ?_
 refine Zc (Za rfl rfl (Yy rfl rfl) (Za rfl rfl (Zf rfl) (Ze (Zb (c8 _ _ ?_)))))
 refine Zp rfl (fun A => ?_) (fun A => ?_)
 ·have bW := A
  have A := Yi A
  obtain ⟨ta, et, oa, hla, bz⟩ := hok.k1 om d hl
  have b : t.kids[0]? = some ta := by rw [et]; rfl
  have ga := ta.flat_len
  have ba := Zfl hok hb b
  have ea := Zbu oa ba
  have fa := (Xl ta).flat_len
  have ra := Xv oa
  refine Zg fun eg c9 => ?_
  refine Xb [e] 8 mixed rfl fun bX a4 => ?_
  have da := a4.size
  have E := E.trans a4
  refine dV 0 rfl rfl rfl (fun _ => Zd rfl) (dV 1 rfl rfl rfl (fun _ => Zd rfl) ?_)
  have db := ((F5.ch0 C6).ch C7 (oS om)).ch0 a4
  refine dT 2 rfl rfl rfl (Zhh (ys := ta.flat) 0 ((((l.length : Nat) : Int) - 1).toNat) db Token.len el42 sz84 rfl rfl ⟨_, _, rfl, by omega⟩ om om (show l.take _ = _ from Zol hla om) fun dc au ce cf => ?_)
  obtain ⟨dd, de, bY⟩ := au.val
  subst bY
  have df := au.len
  refine dV 4 rfl rfl rfl (fun _ => Yn (parts := []) (cells := [(.slice none 0 0)]) zr44 pl44 rfl rfl) ?_
  have dg := p.ch0 a4
  refine dT 5 rfl rfl rfl (Yq dg.at_ (oS om) agg84 sz84 rfl ?_)
  refine dO 3 (Zz rfl rfl rfl ?_)
  refine Step.call (Zl (xs := [.tmp 37]) fk73 rfl) (ih au ta oa rfl ba om) fun dh di Q => ?_
  obtain ⟨dj, rfl, Q, cg, bn⟩ := Q
  have dk := bn.size
  have E := E.trans bn
  obtain ⟨ci, cj, rfl, ck, bZ⟩ := Q.opn
  have ac : Ch [e] bX di := ((Ch.refl _ _).trans bn.of_nil)
  refine ⟨ac, ?_⟩
  refine dO 6 (Zz rfl rfl rfl ?_)
  refine Step.call (Zl (xs := [.tmp 38, .tmp 39, .tmp 40]) fk111 rfl) (Xx Q.ls (Ls.nil (cs := Token.cs) (k := 4) _ 0 0) a (by simp only [List.length_nil]; omega)) fun dl dm R => ?_
  obtain ⟨dn, rfl, R, ad, bp⟩ := R
  have dp := bp.size
  have E := E.trans bp
  obtain ⟨I, J, rfl, cl, av⟩ := R.opn
  have ae : Ch [e] bX dm := (ac.trans bp.of_nil)
  refine ⟨ae, ?_⟩
  refine dO 7 (Zz rfl rfl rfl ?_)
  have dq := ((((U.ch0 C6).ch C7 (nS om)).ch0 a4).ch0 bn).ch0 bp
  refine Zn (off := 0) 1 dq sz44 rfl (us := [(.slice I (((Xl ta).flat) ++ [] ++ [a]).length J)]) rfl rfl rfl rfl fun b0 K bq => ?_
  have dr := bq.size
  have E := E.step bq (lS om)
  replace K : Blk b0 e 44 [(.slice I (((Xl ta).flat) ++ [] ++ [a]).length J)] := K
  have a5 : Ch [e] bX b0 := (ae.step bq (fun i hm => by have aq := List.mem_singleton.1 hm; exact .inr (by rw [aq]; exact (List.mem_singleton.2 rfl))))
  refine ⟨a5, ?_⟩
  refine Yc (by kernel_rfl) ?_
  refine Zb (c9 _ _ ?_)
  refine Zq (Yd (Zo ?_))
  have ds := R.ch bq (dS ad av om)
  have a6 : Ol Token.cs 84 4 b0 (.slice I (((Xl ta).flat) ++ [] ++ [a]).length J) ((Xl t).flat) := by
   have hx := ds
   exact hx.eq (by first | (rw [← exp2 hok om b q, d]; rfl) | (rw [← exp6 hok om b, d]; simp [Tr.flat]; done) | (rw [← exp7 hok om b, d]) | (rw [← exp0 hok om, d]; rfl))
  exact Zi [_] (Zt K rfl agg44 sz44 trivial) ⟨_, rfl, a6, Lo.down ad om, E⟩
 have bW := A
 have A := Yj A
 refine Zg fun eh dt => ?_
 refine Zc (Za rfl rfl (Yy rfl rfl) (Za rfl rfl (Zf rfl) (Ze (Zb (dt _ _ ?_)))))
 refine Zp rfl (fun B => ?_) (fun B => ?_)
 ·have b1 := B
  have B := Yi B
  obtain ⟨ta, et, oa, hla, bz⟩ := hok.k1 om d hl
  have b : t.kids[0]? = some ta := by rw [et]; rfl
  have ga := ta.flat_len
  have ba := Zfl hok hb b
  have ea := Zbu oa ba
  have fa := (Xl ta).flat_len
  have ra := Xv oa
  have r7 := hok.r7 om
  refine Zg fun ei du => ?_
  refine Xb [e] 10 mixed rfl fun b2 a7 => ?_
  have dv := a7.size
  have E := E.trans a7
  refine dV 0 rfl rfl rfl (fun _ => Zd rfl) (dV 1 rfl rfl rfl (fun _ => Zd rfl) ?_)
  have dw := ((F5.ch0 C6).ch C7 (oS om)).ch0 a7
  refine dT 2 rfl rfl rfl (Zhh (ys := ta.flat) 0 ((((l.length : Nat) : Int) - 1).toNat) dw Token.len el42 sz84 rfl rfl ⟨_, _, rfl, by omega⟩ om om (show l.take _ = _ from Zol hla om) fun dx aw cm cn => ?_)
  obtain ⟨dy, dz, b3⟩ := aw.val
  subst b3
  have dA := aw.len
  refine dV 4 rfl rfl rfl (fun _ => Zh fa84_2 rfl) ?_
  have co := p.ch0 a7
  refine dT 5 rfl rfl rfl (Xh co.at_ (oS om) agg3 rfl rfl ?_)
  refine dV 6 rfl rfl rfl (fun _ => Zh fa84_3 rfl) ?_
  refine dT 7 rfl rfl rfl (Xh co.at_ (oS om) agg3 rfl rfl ?_)
  refine dO 3 (Zz rfl rfl rfl ?_)
  refine Step.call (Zl (xs := [.tmp 46]) fk73 rfl) (ih aw ta oa rfl ba om) fun dB dC S => ?_
  obtain ⟨dD, rfl, S, cp, br⟩ := S
  have dE := br.size
  have E := E.trans br
  obtain ⟨cq, cr, rfl, ct, b4⟩ := S.opn
  have af : Ch [e] b2 dC := ((Ch.refl _ _).trans br.of_nil)
  refine ⟨af, ?_⟩
  refine dO 8 (Zz rfl rfl rfl ?_)
  refine Step.call (Zl (xs := [.tmp 47, .tmp 49, .tmp 51]) fk112 rfl) (Zik S.ls _ _ (Xl ta) rfl om om om om om) fun dF dG T => ?_
  obtain ⟨dH, rfl, T, ag, bs⟩ := T
  have dI := bs.size
  have E := E.trans bs
  obtain ⟨L, M, rfl, cu, ax⟩ := T.opn
  have ah : Ch [e] b2 dG := (af.trans bs.of_nil)
  refine ⟨ah, ?_⟩
  refine dO 9 (Zz rfl rfl rfl ?_)
  have dJ := ((((U.ch0 C6).ch C7 (nS om)).ch0 a7).ch0 br).ch0 bs
  refine Zn (off := 0) 1 dJ sz44 rfl (us := [(.slice L ((Qz (Xl ta) a.low (a.high).toNat).flat).length M)]) rfl rfl rfl rfl fun b5 O bu => ?_
  have dL := bu.size
  have E := E.step bu (lS om)
  replace O : Blk b5 e 44 [(.slice L ((Qz (Xl ta) a.low (a.high).toNat).flat).length M)] := O
  have a8 : Ch [e] b2 b5 := (ah.step bu (fun i hm => by have aq := List.mem_singleton.1 hm; exact .inr (by rw [aq]; exact (List.mem_singleton.2 rfl))))
  refine ⟨a8, ?_⟩
  refine Yc (by kernel_rfl) ?_
  refine Zb (du _ _ ?_)
  refine Zq (Yd (Zo ?_))
  have dM := T.ch bu (dS ag ax om)
  have a9 : Ol Token.cs 84 4 b5 (.slice L ((Qz (Xl ta) a.low (a.high).toNat).flat).length M) ((Xl t).flat) := by
   have hx := dM
   exact hx.eq (by first | (rw [← exp2 hok om b q, d]; rfl) | (rw [← exp6 hok om b, d]; simp [Tr.flat]; done) | (rw [← exp7 hok om b, d]) | (rw [← exp0 hok om, d]; rfl))
  exact Zi [_] (Zt O rfl agg44 sz44 trivial) ⟨_, rfl, a9, Lo.down ag om, E⟩
 have b1 := B
 have B := Yj B
 refine Zu ?_
 refine Zw (Zb (H9 _ _ ?_))
 refine Zg fun ej dN => ?_
 refine Zc (Za rfl rfl (Zy p.at_ agg84 sz84 rfl) (Zm rfl rfl ?_))
 refine Ym (cs := Token.cs) (parts := [(0, .tmp 53)]) (⟨0, 0, 0, 0⟩ : Token) [a] el42 sz84 zr84 Token.len (by decide) rfl rfl rfl (by decide) (by decide) rfl fun dP ek bb ai b6 => ?_
 have dQ := b6.size
 have E := E.trans b6
 obtain ⟨C, D, rfl, cv, ay⟩ := bb.opn
 refine Za rfl rfl (Yn (parts := [(0, .tmp 54)]) (cells := [(.slice C ([a]).length D)]) zr44 pl44 rfl rfl) (Zm rfl rfl ?_)
 have dR := ((U.ch0 C6).ch C7 (nS om)).ch0 b6
 refine Zn (off := 0) 1 dR sz44 rfl (us := [(.slice C ([a]).length D)]) rfl rfl rfl rfl fun cw P b7 => ?_
 have dU := b7.size
 have E := E.step b7 (lS om)
 replace P : Blk cw e 44 [(.slice C ([a]).length D)] := P
 refine Ze (Zb (dN _ _ ?_))
 refine Zq ?_
 have dW := bb.ch b7 (dS ai ay om)
 have be : Ol Token.cs 84 4 cw (.slice C ([a]).length D) ((Xl t).flat) := by
  have hx := dW
  exact hx.eq (by first | (rw [← exp2 hok om b q, d]; rfl) | (rw [← exp6 hok om b, d]; simp [Tr.flat]; done) | (rw [← exp7 hok om b, d]) | (rw [← exp0 hok om, d]; rfl))
 exact Zi [_] (Zt P rfl agg44 sz44 trivial) ⟨_, rfl, be, Lo.down ai om, E⟩
theorem Zgr {w : World} {LL_l b : Nat} {a : Value} {l : List Token} (c : Ls Token.cs 4 w LL_l b a l) (t : Tr) (hok : Okd t) (hl : l = t.flat) (hb : Xt t ≤ 5000) :
 Ctr Try.prog 73 #[a] w (fun v w' => ∃ u, v = .agg #[u] ∧ Ol Token.cs 84 4 w' u ((Xl t).flat) ∧ Lo w.heap.size u ∧ Ch [] w w') := Zfg _ c t hok hl hb (Nat.lt_succ_self _)

/-- spec.l10Size -/
theorem Zgu : ∀ (n : Nat) {w : World} {LL_l F : Nat} {s : Value} {l : List Token} (d : Ls Token.cs 4 w LL_l F s l) (t : Tr) (hok : Okd t) (hl : l = t.flat) (hsz : l.length < n),
 Ctr Try.prog 72 #[s] w (fun v w' => v = .int .i64 (Xt t) ∧ Ch [] w w') := by
 intro n
 induction n with
 | zero => intros; omega
 | succ n ih =>
 intro w LL_l F s l d t hok hl hsz
 obtain ⟨Y, Z, G⟩ := d.val
 subst G
 have aU := d.len
 have d := d.here (by decide)
 have E := Ch.refl [] w
 have aV := t.flat_pos; rw [← hl] at aV; have k2 := hok.len; have rb := Xv hok
 refine Ye (N := 54) (vs0 := [(.slice Y l.length Z)]) Try.func72 rfl rfl rfl ?_
 refine Zg fun K1 H1 => ?_
 refine Zc (Za rfl rfl (Zf rfl) (Ze (Zb (H1 _ _ ?_))))
 refine Zg fun K2 H2 => ?_
 refine Zc (Za rfl rfl (Zd rfl) (Za rfl rfl (Xc (by rw [el42]; rfl) rfl) (Za rfl rfl (Zav om rfl rfl) (Za rfl rfl (Zf rfl) (Ze (Zb (H2 _ _ ?_)))))))
 refine Zg fun K3 H3 => ?_
 refine Zc (Za rfl rfl (Zd rfl) (Za rfl rfl (Zd rfl) (Zm rfl rfl ?_)))
 refine (Yw (j := (((l.length : Nat) : Int) - 1).toNat) d Token.len el42 sz84 rfl rfl om om fun aW c H aa => ?_)
 have m := Zka hl om H
 have htk := congrArg Token.kind m
 have hte := congrArg Token.letter m
 have htl := congrArg Token.low m
 have hth := congrArg Token.high m
 refine Za rfl rfl (Zy aa agg84 sz84 rfl) (Zm rfl rfl ?_)
 refine Yh zr84 fun aI W4 T C4 bK => ?_
 have bL := C4.size
 have E := E.trans C4
 have bM := T.lt
 replace T : Blk W4 aI 84 [(.int .i64 0), (.int .i64 0), (.int .i64 0), (.int .i64 0)] := T
 refine Zm rfl rfl ?_
 refine Zn (off := 0) 4 T sz84 rfl (us := [(.int .i64 c.kind), (.int .i64 c.letter), (.int .i64 c.low), (.int .i64 c.high)]) rfl rfl rfl rfl fun W5 p C5 => ?_
 have bN := C5.size
 have E := E.step C5 (lS om)
 replace p : Blk W5 aI 84 [(.int .i64 c.kind), (.int .i64 c.letter), (.int .i64 c.low), (.int .i64 c.high)] := p
 refine Ze (Zb (H3 _ _ ?_))
 refine Zg fun K7 H7 => ?_
 refine Zg fun K8 H8 => ?_
 refine Zc (Za rfl rfl (Zh fa84_0 rfl) (Za rfl rfl (Zk p.at_ agg3 rfl rfl) (Ze (Zb (H8 _ _ ?_)))))
 refine Zx ?_
 refine Zg fun K9 H9 => ?_
 refine Zg fun bO aX => ?_
 refine Zc (Za rfl rfl (Yy rfl rfl) (Za rfl rfl (Zf rfl) (Ze (Zb (aX _ _ ?_)))))
 refine Zp rfl (fun b => ?_) (fun b => ?_)
 ·have I := b
  have b := Yi b
  obtain ⟨ta, tb, et, oa, ob, hla, ab⟩ := hok.k2 om m hl
  have a : t.kids[0]? = some ta := by rw [et]; rfl
  have o : t.kids[1]? = some tb := by rw [et]; rfl
  have ga := ta.flat_len
  have gb := tb.flat_len
  have ra := Xv oa
  have rc := Xv ob
  refine Zu ?_
  refine Zb (H9 _ _ ?_)
  refine Zas rfl I ?_
  refine Zg fun bP aY => ?_
  refine Zc (Za rfl rfl (Zd rfl) (Za rfl rfl (Zd rfl) (Zm rfl rfl ?_)))
  have aJ := (d.ch0 C4).ch C5 (oS om)
  refine (Zgo (ys := (ta.flat ++ tb.flat)) 0 ((((l.length : Nat) : Int) - 1).toNat) aJ Token.len el42 sz84 rfl rfl ⟨_, _, rfl, by omega⟩ om om (show l.take _ = _ from Ziv hla om) fun ac e J K => ?_)
  obtain ⟨ad, ae, u⟩ := e.val
  subst u
  have af := e.len
  refine Zm rfl rfl ?_
  refine Step.call (Zl (xs := [.tmp 20]) fk106 rfl) (Zan e ta.flat tb ob rfl) fun ag bQ x => ?_
  obtain ⟨rfl, ah⟩ := x
  have aZ := ah.size
  have E := E.trans ah
  refine Za rfl rfl (Zf rfl) (Ze (Zb (aY _ _ ?_)))
  refine Zg fun bR a0 => ?_
  refine Xb [] 13 mixed rfl fun aK ai => ?_
  have a1 := ai.size
  have E := E.trans ai
  refine dV 0 rfl rfl rfl (fun _ => Zd rfl) (dV 1 rfl rfl rfl (fun _ => Zd rfl) ?_)
  have aL := (aJ.ch0 ah).ch0 ai
  refine dT 2 rfl rfl rfl (Zhh (ys := ta.flat) 0 ta.flat.length aL Token.len el42 sz84 rfl rfl ⟨_, _, rfl, by omega⟩ om om (show l.take _ = _ from Zny hla om) fun aj f L M => ?_)
  obtain ⟨ak, al, y⟩ := f.val
  subst y
  have am := f.len
  refine dV 4 rfl rfl rfl (fun _ => Zd rfl) (dV 5 rfl rfl rfl (fun _ => Zd rfl) (dV 6 rfl rfl rfl (fun _ => Zd rfl) ?_))
  refine dT 7 rfl rfl rfl (Zhh (ys := tb.flat) ta.flat.length ((((l.length : Nat) : Int) - 1).toNat) aL Token.len el42 sz84 rfl ⟨_, _, rfl, by omega⟩ ⟨_, _, rfl, by omega⟩ om om (Znu hla om om) fun an g O P => ?_)
  obtain ⟨ao, ap, z⟩ := g.val
  subst z
  have aq := g.len
  refine dO 3 (Zz rfl rfl rfl ?_)
  refine Step.call (Zl (xs := [.tmp 24]) fk72 rfl) (ih f ta oa rfl om) fun au a2 A => ?_
  obtain ⟨rfl, U⟩ := A
  have a3 := U.size
  have E := E.trans U
  have q : Ch [] aK a2 := ((Ch.refl _ _).trans U)
  refine ⟨q, ?_⟩
  refine dO 8 (Zz rfl rfl rfl ?_)
  have a4 := g.ch0 U
  refine Step.call (Zl (xs := [.tmp 29]) fk72 rfl) (ih a4 tb ob rfl om) fun av a5 B => ?_
  obtain ⟨rfl, aw⟩ := B
  have a6 := aw.size
  have E := E.trans aw
  have Q : Ch [] aK a5 := (q.trans aw)
  refine ⟨Q, ?_⟩
  refine dV 9 rfl rfl rfl (fun _ => Yo om rfl rfl) (dV 10 rfl rfl rfl (fun _ => Yo om rfl rfl) (dV 11 rfl rfl rfl (fun _ => Zlv rfl rfl) (dV 12 rfl rfl rfl (fun _ => Zf rfl) ?_)))
  refine Yc (by kernel_rfl) ?_
  refine Zb (a0 _ _ ?_)
  refine Zq (Yd (Zo ?_))
  exact Zi [_] ⟨rfl, trivial⟩ ⟨congrArg (Value.int .i64) (by first | exact bnd2 hok om a o | exact bnd6 hok om a | (rw [m]; exact bnd7 hok om a) | exact bnd0 hok om), E⟩
 have I := b
 have b := Yj b
 refine Zc (Za rfl rfl (Yy rfl rfl) (Za rfl rfl (Zf rfl) (Ze (Zb (H9 _ _ ?_)))))
 refine Zp rfl (fun b => ?_) (fun b => ?_)
 ·have ax := b
  have b := Yi b
  obtain ⟨ta, tb, et, oa, ob, hla, ab⟩ := hok.k2 om m hl
  have a : t.kids[0]? = some ta := by rw [et]; rfl
  have o : t.kids[1]? = some tb := by rw [et]; rfl
  have ga := ta.flat_len
  have gb := tb.flat_len
  have ra := Xv oa
  have rc := Xv ob
  refine Zg fun bS a7 => ?_
  refine Zc (Za rfl rfl (Zd rfl) (Za rfl rfl (Zd rfl) (Zm rfl rfl ?_)))
  have aM := (d.ch0 C4).ch C5 (oS om)
  refine (Zgo (ys := (ta.flat ++ tb.flat)) 0 ((((l.length : Nat) : Int) - 1).toNat) aM Token.len el42 sz84 rfl rfl ⟨_, _, rfl, by omega⟩ om om (show l.take _ = _ from Ziv hla om) fun ac e J K => ?_)
  obtain ⟨ad, ae, u⟩ := e.val
  subst u
  have af := e.len
  refine Zm rfl rfl ?_
  refine Step.call (Zl (xs := [.tmp 20]) fk106 rfl) (Zan e ta.flat tb ob rfl) fun ag bT x => ?_
  obtain ⟨rfl, ay⟩ := x
  have a8 := ay.size
  have E := E.trans ay
  refine Za rfl rfl (Zf rfl) (Ze (Zb (a7 _ _ ?_)))
  refine Zg fun bU a9 => ?_
  refine Xb [] 13 mixed rfl fun aN az => ?_
  have ba := az.size
  have E := E.trans az
  refine dV 0 rfl rfl rfl (fun _ => Zd rfl) (dV 1 rfl rfl rfl (fun _ => Zd rfl) ?_)
  have aO := (aM.ch0 ay).ch0 az
  refine dT 2 rfl rfl rfl (Zhh (ys := ta.flat) 0 ta.flat.length aO Token.len el42 sz84 rfl rfl ⟨_, _, rfl, by omega⟩ om om (show l.take _ = _ from Zny hla om) fun aj f L M => ?_)
  obtain ⟨ak, al, y⟩ := f.val
  subst y
  have am := f.len
  refine dV 4 rfl rfl rfl (fun _ => Zd rfl) (dV 5 rfl rfl rfl (fun _ => Zd rfl) (dV 6 rfl rfl rfl (fun _ => Zd rfl) ?_))
  refine dT 7 rfl rfl rfl (Zhh (ys := tb.flat) ta.flat.length ((((l.length : Nat) : Int) - 1).toNat) aO Token.len el42 sz84 rfl ⟨_, _, rfl, by omega⟩ ⟨_, _, rfl, by omega⟩ om om (Znu hla om om) fun an g O P => ?_)
  obtain ⟨ao, ap, z⟩ := g.val
  subst z
  have aq := g.len
  refine dO 3 (Zz rfl rfl rfl ?_)
  refine Step.call (Zl (xs := [.tmp 24]) fk72 rfl) (ih f ta oa rfl om) fun au bb A => ?_
  obtain ⟨rfl, V⟩ := A
  have bc := V.size
  have E := E.trans V
  have r : Ch [] aN bb := ((Ch.refl _ _).trans V)
  refine ⟨r, ?_⟩
  refine dO 8 (Zz rfl rfl rfl ?_)
  have be := g.ch0 V
  refine Step.call (Zl (xs := [.tmp 29]) fk72 rfl) (ih be tb ob rfl om) fun av bf B => ?_
  obtain ⟨rfl, aA⟩ := B
  have bg := aA.size
  have E := E.trans aA
  have R : Ch [] aN bf := (r.trans aA)
  refine ⟨R, ?_⟩
  refine dV 9 rfl rfl rfl (fun _ => Yo om rfl rfl) (dV 10 rfl rfl rfl (fun _ => Yo om rfl rfl) (dV 11 rfl rfl rfl (fun _ => Zlv rfl rfl) (dV 12 rfl rfl rfl (fun _ => Zf rfl) ?_)))
  refine Yc (by kernel_rfl) ?_
  refine Zb (a9 _ _ ?_)
  refine Zq (Yd (Zo ?_))
  exact Zi [_] ⟨rfl, trivial⟩ ⟨congrArg (Value.int .i64) (by first | exact bnd2 hok om a o | exact bnd6 hok om a | (rw [m]; exact bnd7 hok om a) | exact bnd0 hok om), E⟩
 have ax := b
 have b := Yj b
 refine Zg fun bV bh => ?_
 refine Zc (Za rfl rfl (Yy rfl rfl) (Za rfl rfl (Zf rfl) (Ze (Zb (bh _ _ ?_)))))
 refine Zp rfl (fun h => ?_) (fun h => ?_)
 ·have aB := h
  have h := Yi h
  obtain ⟨ta, et, oa, hla, ab⟩ := hok.k1 om m hl
  have a : t.kids[0]? = some ta := by rw [et]; rfl
  have ga := ta.flat_len
  have ra := Xv oa
  refine Zg fun bW bi => ?_
  refine Zc (Za rfl rfl (Zd rfl) (Za rfl rfl (Zd rfl) (Zm rfl rfl ?_)))
  have bj := (d.ch0 C4).ch C5 (oS om)
  refine (Zgo (ys := ta.flat) 0 ((((l.length : Nat) : Int) - 1).toNat) bj Token.len el42 sz84 rfl rfl ⟨_, _, rfl, by omega⟩ om om (show l.take _ = _ from Zol hla om) fun bk C aP aQ => ?_)
  obtain ⟨bm, bn, aC⟩ := C.val
  subst aC
  have bp := C.len
  refine Zm rfl rfl ?_
  refine Step.call (Zl (xs := [.tmp 38]) fk72 rfl) (ih C ta oa rfl om) fun bq bX aD => ?_
  obtain ⟨rfl, aR⟩ := aD
  have br := aR.size
  have E := E.trans aR
  refine Za rfl rfl (Yo om rfl rfl) (Za rfl rfl (Zlv rfl rfl) (Za rfl rfl (Zf rfl) (Ze (Zb (bi _ _ ?_)))))
  refine Zq (Yd (Zo ?_))
  exact Zi [_] ⟨rfl, trivial⟩ ⟨congrArg (Value.int .i64) (by first | exact bnd2 hok om a o | exact bnd6 hok om a | (rw [m]; exact bnd7 hok om a) | exact bnd0 hok om), E⟩
 have aB := h
 have h := Yj h
 refine Zg fun bY bs => ?_
 refine Zc (Za rfl rfl (Yy rfl rfl) (Za rfl rfl (Zf rfl) (Ze (Zb (bs _ _ ?_)))))
 refine Zp rfl (fun k => ?_) (fun k => ?_)
 ·have aE := k
  have k := Yi k
  obtain ⟨ta, et, oa, hla, ab⟩ := hok.k1 om m hl
  have a : t.kids[0]? = some ta := by rw [et]; rfl
  have ga := ta.flat_len
  have ra := Xv oa
  have r7 := hok.r7 om
  refine Zg fun bZ bu => ?_
  refine Xb [] 11 mixed rfl fun bv X => ?_
  have bw := X.size
  have E := E.trans X
  refine dV 0 rfl rfl rfl (fun _ => Zd rfl) (dV 1 rfl rfl rfl (fun _ => Zd rfl) ?_)
  have bx := ((d.ch0 C4).ch C5 (oS om)).ch0 X
  refine dT 2 rfl rfl rfl (Zhh (ys := ta.flat) 0 ((((l.length : Nat) : Int) - 1).toNat) bx Token.len el42 sz84 rfl rfl ⟨_, _, rfl, by omega⟩ om om (show l.take _ = _ from Zol hla om) fun bz D aS aT => ?_)
  obtain ⟨bA, bB, aF⟩ := D.val
  subst aF
  have bC := D.len
  refine dV 5 rfl rfl rfl (fun _ => Zh fa84_3 rfl) ?_
  have bD := p.ch0 X
  refine dT 6 rfl rfl rfl (Xh bD.at_ (fun i hi => absurd hi List.not_mem_nil) agg3 rfl rfl ?_)
  refine dO 3 (Zz rfl rfl rfl ?_)
  refine Step.call (Zl (xs := [.tmp 46]) fk72 rfl) (ih D ta oa rfl om) fun bE bF aG => ?_
  obtain ⟨rfl, aH⟩ := aG
  have bG := aH.size
  have E := E.trans aH
  have S : Ch [] bv bF := ((Ch.refl _ _).trans aH)
  refine ⟨S, ?_⟩
  refine dV 4 rfl rfl rfl (fun _ => Yo om rfl rfl) (dV 7 rfl rfl rfl (fun _ => Zok (by (have bH := Int.mul_nonneg (show 0 ≤ Xt ta + 3 by omega) (show 0 ≤ c.high by omega); have bI := Int.mul_le_mul (show Xt ta + 3 ≤ 100003 by omega) (show c.high ≤ 3 by omega) om om; omega)) rfl rfl) (dV 8 rfl rfl rfl (fun _ => Yo (by (have bH := Int.mul_nonneg (show 0 ≤ Xt ta + 3 by omega) (show 0 ≤ c.high by omega); have bI := Int.mul_le_mul (show Xt ta + 3 ≤ 100003 by omega) (show c.high ≤ 3 by omega) om om; omega)) rfl rfl) (dV 9 rfl rfl rfl (fun _ => Zlv rfl rfl) (dV 10 rfl rfl rfl (fun _ => Zf rfl) ?_))))
  refine Yc (by kernel_rfl) ?_
  refine Zb (bu _ _ ?_)
  refine Zq (Yd (Zo ?_))
  exact Zi [_] ⟨rfl, trivial⟩ ⟨congrArg (Value.int .i64) (by first | exact bnd2 hok om a o | exact bnd6 hok om a | (rw [m]; exact bnd7 hok om a) | exact bnd0 hok om), E⟩
 have aE := k
 have k := Yj k
 refine Zu ?_
 refine Zw (Zb (H7 _ _ ?_))
 refine Zg fun b0 bJ => ?_
 refine Zc (Za rfl rfl (Zf rfl) (Ze (Zb (bJ _ _ ?_))))
 refine Zq ?_
 exact Zi [_] ⟨rfl, trivial⟩ ⟨congrArg (Value.int .i64) (by first | exact bnd2 hok om a o | exact bnd6 hok om a | (rw [m]; exact bnd7 hok om a) | exact bnd0 hok om), E⟩
theorem Zio {w : World} {LL_l b : Nat} {a : Value} {l : List Token} (c : Ls Token.cs 4 w LL_l b a l) (t : Tr) (hok : Okd t) (hl : l = t.flat) :
 Ctr Try.prog 72 #[a] w (fun v w' => v = .int .i64 (Xt t) ∧ Ch [] w w') := Zgu _ c t hok hl (Nat.lt_succ_self _)

/-- spec.ExpandExpr -/
theorem Zcv {w : World} {LL_e O : Nat} {y : Value} {e : List Token} (j : Ls Token.cs 4 w LL_e O y e) (hb : e.length ≤ 1048576) :
 Ctr Try.prog 29 #[(.agg #[y])] w (fun v w' => ∃ (t : Value), v = .tuple #[.agg #[t], .bool ((Qc e).2)] ∧ Ol Token.cs 84 4 w' t ((Qc e).1) ∧ Lo w.heap.size t ∧ Ch [] w w') := by
 obtain ⟨z, A, B⟩ := j.val
 subst B
 have af := j.len
 have j := j.here (by decide)
 have E := Ch.refl [] w
 refine Ye (N := 24) (vs0 := [(.agg #[(.slice z e.length A)])]) Try.func29 rfl rfl rfl ?_
 refine Zg fun K1 H1 => ?_
 refine Zc (Zm rfl rfl ?_)
 refine Qw rfl fun ag W2 K C2 aO => ?_
 have aP := C2.size
 have E := E.trans C2
 have aQ := K.lt
 replace K : Blk W2 ag 44 [(.slice z e.length A)] := K
 refine Zm rfl rfl ?_
 refine Yh zr44 fun C W3 u C3 aR => ?_
 have aS := C3.size
 have E := E.trans C3
 have aT := u.lt
 replace u : Blk W3 C 44 [(.slice none 0 0)] := u
 refine Za rfl rfl (Zf rfl) (Ze (Zb (H1 _ _ ?_)))
 refine Zg fun K4 H4 => ?_
 refine Zg fun K5 H5 => ?_
 refine Zc ?_
 have F6 := K.ch0 C3
 refine Za rfl rfl (Zy F6.at_ agg44 sz44 rfl) (Zm rfl rfl ?_)
 have F7 := (j.ch0 C2).ch0 C3
 refine Step.call (Zl (xs := [.tmp 5]) fk31 rfl) (Zac F7 ) fun aU W8 ah => ?_
 obtain ⟨rfl, C8⟩ := ah
 have aV := C8.size
 have E := E.trans C8
 refine Za rfl rfl (Zbh rfl) (Za rfl rfl (Zd rfl) ?_)
 refine Yp (d := 8) rfl (fun f => ?_) (fun f => ?_)
 ·have ai := f
  have f := Qu f
  refine Zj rfl rfl (Zj rfl rfl (Zj rfl rfl (Zj rfl rfl (Za rfl rfl (Ya rfl rfl) (Ze (Zb (H5 _ _ ?_)))))))
  refine Qf rfl ?_
  refine Zg fun aW aj => ?_
  refine Zc (Za rfl rfl (Yn (parts := []) (cells := [(.slice none 0 0)]) zr44 pl44 rfl rfl) (Zm rfl rfl ?_))
  have ak := u.ch0 C8
  refine Zn (off := 0) 1 ak sz44 rfl (us := [(.slice none 0 0)]) rfl rfl rfl rfl fun P l X => ?_
  have al := X.size
  have E := E.step X (lS om)
  replace l : Blk P C 44 [(.slice none 0 0)] := l
  refine Za rfl rfl (Zf rfl) (Ze (Zb (aj _ _ ?_)))
  refine Zq (Zo ?_)
  have D : Ol Token.cs 84 4 P (.slice none 0 0) ((Qc e).1) := by
   have hx := Ol.nil (cs := Token.cs) (e := 84) (k := 4) P
   first | (rw [Zbj f]; exact hx) | (rw [Zah a om]; exact hx) | (rw [Zaj a (by rw [← Tr.flat_len]; omega)]; exact hx) | (rw [Zbk a om om (by rw [← Tr.flat_len]; omega)]; exact hx)
  exact Zi [_, _] (Zt l rfl agg44 sz44 ⟨rfl, trivial⟩) ⟨(.slice none 0 0), (congrArg (fun zq => (Value.tuple #[.agg #[(.slice none 0 0)], .bool zq])) (by first | (rw [Zbj f]; done) | (rw [Zah a om]; done) | (rw [Zaj a (by rw [← Tr.flat_len]; omega)]; done) | (rw [Zbk a om om (by rw [← Tr.flat_len]; omega)]; done))), D, (Lo.nil _), E⟩
 have ai := f
 have f := Qv f
 obtain ⟨r, a, hok, hl, am⟩ := Zkn f
 refine Za rfl rfl (Zh fa44_0 rfl) ?_
 have Y := F6.ch0 C8
 refine Za rfl rfl (Zk Y.at_ agg42 rfl rfl) (Zm rfl rfl ?_)
 have Z := F7.ch0 C8
 refine Step.call (Zl (xs := [.tmp 10]) fk72 rfl) (Zio Z r hok hl) fun an aX Q => ?_
 obtain ⟨rfl, x⟩ := Q
 have ao := x.size
 have E := E.trans x
 refine Za rfl rfl (Zcp rfl rfl) (Za rfl rfl (Yb rfl rfl) (Ze (Zb (H5 _ _ ?_))))
 refine Zp rfl (fun g => ?_) (fun g => ?_)
 ·have R := g
  have g := Yi g
  refine Zg fun aY ap => ?_
  refine Zc (Za rfl rfl (Yn (parts := []) (cells := [(.slice none 0 0)]) zr44 pl44 rfl rfl) (Zm rfl rfl ?_))
  have aq := (u.ch0 C8).ch0 x
  refine Zn (off := 0) 1 aq sz44 rfl (us := [(.slice none 0 0)]) rfl rfl rfl rfl fun S m aa => ?_
  have au := aa.size
  have E := E.step aa (lS om)
  replace m : Blk S C 44 [(.slice none 0 0)] := m
  refine Za rfl rfl (Zf rfl) (Ze (Zb (ap _ _ ?_)))
  refine Zq (Zo ?_)
  have F : Ol Token.cs 84 4 S (.slice none 0 0) ((Qc e).1) := by
   have hx := Ol.nil (cs := Token.cs) (e := 84) (k := 4) S
   first | (rw [Zbj f]; exact hx) | (rw [Zah a om]; exact hx) | (rw [Zaj a (by rw [← Tr.flat_len]; omega)]; exact hx) | (rw [Zbk a om om (by rw [← Tr.flat_len]; omega)]; exact hx)
  exact Zi [_, _] (Zt m rfl agg44 sz44 ⟨rfl, trivial⟩) ⟨(.slice none 0 0), (congrArg (fun zq => (Value.tuple #[.agg #[(.slice none 0 0)], .bool zq])) (by first | (rw [Zbj f]; done) | (rw [Zah a om]; done) | (rw [Zaj a (by rw [← Tr.flat_len]; omega)]; done) | (rw [Zbk a om om (by rw [← Tr.flat_len]; omega)]; done))), F, (Lo.nil _), E⟩
 have R := g
 have g := Yj g
 refine Zu ?_
 refine Zb (H4 _ _ ?_)
 refine Zg fun aZ av => ?_
 refine Zc (Za rfl rfl (Zh fa44_0 rfl) ?_)
 have aw := Y.ch0 x
 refine Za rfl rfl (Zk aw.at_ agg42 rfl rfl) (Zm rfl rfl ?_)
 have ax := Z.ch0 x
 refine Step.call (Zl (xs := [.tmp 16]) fk73 rfl) (Zgr ax r hok hl om) fun ay a0 s => ?_
 obtain ⟨az, rfl, s, n, L⟩ := s
 have aA := L.size
 have E := E.trans L
 obtain ⟨b, c, rfl, ab, o⟩ := s.opn
 refine Zm rfl rfl ?_
 refine Yh zr44 fun ac aB M G a1 => ?_
 have aC := G.size
 have E := E.trans G
 have a2 := M.lt
 replace M : Blk aB ac 44 [(.slice none 0 0)] := M
 refine Zm rfl rfl ?_
 refine Zn (off := 0) 1 M sz44 rfl (us := [(.slice b ((Xl r).flat).length c)]) rfl rfl rfl rfl fun aD i H => ?_
 have aE := H.size
 have E := E.step H (lS om)
 replace i : Blk aD ac 44 [(.slice b ((Xl r).flat).length c)] := i
 refine Ze (Zb (av _ _ ?_))
 refine Zg fun a3 aF => ?_
 refine Zg fun a4 aG => ?_
 refine Zc (Za rfl rfl (Zh fa44_0 rfl) (Za rfl rfl (Zk i.at_ agg42 rfl rfl) (Za rfl rfl (Xc (by rw [el42]; rfl) rfl) (Za rfl rfl (Zcp rfl rfl) (Ze (Zb (aG _ _ ?_)))))))
 refine Zp rfl (fun h => ?_) (fun h => ?_)
 ·have T := h
  have h := Yi h
  refine Zg fun a5 aH => ?_
  refine Zc (Za rfl rfl (Yn (parts := []) (cells := [(.slice none 0 0)]) zr44 pl44 rfl rfl) (Zm rfl rfl ?_))
  have aI := ((((u.ch0 C8).ch0 x).ch0 L).ch0 G).ch H (nS om)
  refine Zn (off := 0) 1 aI sz44 rfl (us := [(.slice none 0 0)]) rfl rfl rfl rfl fun U p ad => ?_
  have aJ := ad.size
  have E := E.step ad (lS om)
  replace p : Blk U C 44 [(.slice none 0 0)] := p
  refine Za rfl rfl (Zf rfl) (Ze (Zb (aH _ _ ?_)))
  refine Zq (Zo ?_)
  have I : Ol Token.cs 84 4 U (.slice none 0 0) ((Qc e).1) := by
   have hx := Ol.nil (cs := Token.cs) (e := 84) (k := 4) U
   first | (rw [Zbj f]; exact hx) | (rw [Zah a om]; exact hx) | (rw [Zaj a (by rw [← Tr.flat_len]; omega)]; exact hx) | (rw [Zbk a om om (by rw [← Tr.flat_len]; omega)]; exact hx)
  exact Zi [_, _] (Zt p rfl agg44 sz44 ⟨rfl, trivial⟩) ⟨(.slice none 0 0), (congrArg (fun zq => (Value.tuple #[.agg #[(.slice none 0 0)], .bool zq])) (by first | (rw [Zbj f]; done) | (rw [Zah a om]; done) | (rw [Zaj a (by rw [← Tr.flat_len]; omega)]; done) | (rw [Zbk a om om (by rw [← Tr.flat_len]; omega)]; done))), I, (Lo.nil _), E⟩
 have T := h
 have h := Yj h
 refine Zu ?_
 refine Zb (aF _ _ ?_)
 refine Zg fun a6 aK => ?_
 refine Zc (Za rfl rfl (Zy i.at_ agg44 sz44 rfl) (Zm rfl rfl ?_))
 have aL := ((((u.ch0 C8).ch0 x).ch0 L).ch0 G).ch H (nS om)
 refine Zn (off := 0) 1 aL sz44 rfl (us := [(.slice b ((Xl r).flat).length c)]) rfl rfl rfl rfl fun ae q V => ?_
 have aM := V.size
 have E := E.step V (lS om)
 replace q : Blk ae C 44 [(.slice b ((Xl r).flat).length c)] := q
 refine Za rfl rfl (Zf rfl) (Ze (Zb (aK _ _ ?_)))
 refine Zq ?_
 have aN := ((s.ch0 G).ch H (dS n o om)).ch V (dS n o om)
 have J : Ol Token.cs 84 4 ae (.slice b ((Xl r).flat).length c) ((Qc e).1) := by
  have hx := aN
  first | (rw [Zbj f]; exact hx) | (rw [Zah a om]; exact hx) | (rw [Zaj a (by rw [← Tr.flat_len]; omega)]; exact hx) | (rw [Zbk a om om (by rw [← Tr.flat_len]; omega)]; exact hx)
 exact Zi [_, _] (Zt q rfl agg44 sz44 ⟨rfl, trivial⟩) ⟨(.slice b ((Xl r).flat).length c), (congrArg (fun zq => (Value.tuple #[.agg #[(.slice b ((Xl r).flat).length c)], .bool zq])) (by first | (rw [Zbj f]; done) | (rw [Zah a om]; done) | (rw [Zaj a (by rw [← Tr.flat_len]; omega)]; done) | (rw [Zbk a om om (by rw [← Tr.flat_len]; omega)]; done))), J, (Lo.down n om), E⟩

/-- spec.l10Link -/
theorem Zee {w : World} {b_p t_p L_p : Nat} {c : Value} {t : List Int} {Q : Int} {R : Int} {d : Value} {e : List Int} {S : Bool} (m_p : Blk w b_p t_p [c, (.int .i64 Q), (.int .i64 R), d, (.bool S)]) (af : L_p ≤ b_p) (y : Ol ics 3 1 w c t) (B : b_p ∉ bl c) (T : Lo L_p c) (z : Ol ics 3 1 w d e) (p : b_p ∉ bl d) (U : Lo L_p d) (o : ∀ g ∈ bl c, g ∉ bl d) (l : Int) (f : Int) (hb : e.length ≤ 4194304) :
 Ctr Try.prog 107 #[(.pointer (some ⟨b_p, 0, none⟩)), (.int .i64 l), (.int .i64 f)] w (fun v w' => ∃ (F G : Value), v = .tuple #[] ∧ Blk w' b_p t_p [F, .int .i64 Q, .int .i64 R, G, .bool S] ∧ Ol ics 3 1 w' F (t) ∧ (∀ g ∈ bl F, w.heap.size ≤ g ∨ g ∈ (b_p :: (bl c ++ bl d))) ∧ b_p ∉ bl F ∧ Ol ics 3 1 w' G (lkL l f e) ∧ (∀ g ∈ bl G, w.heap.size ≤ g ∨ g ∈ (b_p :: (bl c ++ bl d))) ∧ b_p ∉ bl G ∧ (∀ g ∈ bl F, g ∉ bl G) ∧ Ch (b_p :: (bl c ++ bl d)) w w') := by
 obtain ⟨h, m, rfl, ag, V⟩ := y.opn
 obtain ⟨a, b, rfl, ah, X⟩ := z.opn
 have ai := m_p.lt
 have E := Ch.refl (b_p :: (bl (.slice h t.length m) ++ bl (.slice a e.length b))) w
 refine Ye (N := 36) (vs0 := [(.pointer (some ⟨b_p, 0, none⟩)), (.int .i64 l), (.int .i64 f)]) Try.func107 rfl rfl rfl ?_
 refine Zg fun K1 H1 => ?_
 refine Zc (Za rfl rfl (Zf rfl) (Ze (Zb (H1 _ _ ?_))))
 refine Zx ?_
 have H : Ol ics 3 1 w (.slice a e.length b) (lkN l f e 0) := by
  have hx := z
  exact hx
 refine Xi (σ := Nat) (fun (k : Nat) => [(0, (.pointer (some ⟨b_p, 0, none⟩))), (1, (.int .i64 l)), (2, (.int .i64 f)), (6, (.int .i64 ((k : Nat) : Int)))]) (fun (k : Nat) wx => Ch (b_p :: (bl (.slice h t.length m) ++ bl (.slice a e.length b))) w wx ∧ w.heap.size ≤ wx.heap.size ∧ (k ≤ e.length) ∧ Blk wx b_p t_p [(.slice h t.length m), (.int .i64 Q), (.int .i64 R), (.slice a e.length b), (.bool S)] ∧ Ol ics 3 1 wx (.slice h t.length m) t ∧ Ol ics 3 1 wx (.slice a e.length b) (lkN l f e k)) (fun (k : Nat) => e.length - k) 0 (sC4 rfl rfl rfl rfl (Sub.nil _)) ⟨E, (Nat.le_refl _), om, m_p, y, H⟩ ?_
 rintro k R3 ⟨E, an, aD, q, u, r⟩
 have Y := E
 have aj := Y.size
 have Z := q.lt
 have ao := Zda l f e k
 refine Zg fun K4 H4 => ?_
 refine Zg fun K5 H5 => ?_
 refine Zc (Za rfl rfl (Zd rfl) (Za rfl rfl (Zd rfl) (Za rfl rfl (Yf rfl) (Za rfl rfl (Zh fa48_3 rfl) (Za rfl rfl (Zk q.at_ agg30 rfl rfl) (Za rfl rfl (Xc (by rw [el30]; rfl) rfl) (Za rfl rfl (Xs rfl rfl) ?_)))))))
 refine Ze (Zb (H5 _ _ ?_))
 refine Zp rfl (fun s => ?_) (fun s => ?_)
 ·have ap := s
  have s := Yi s
  refine Zu ?_
  refine Zb (H4 _ _ ?_)
  refine Zg fun K7 H7 => ?_
  refine Zx ?_
  refine Zg fun K8 H8 => ?_
  refine Zc (Za rfl rfl (Zd rfl) (Za rfl rfl (Zd rfl) (Za rfl rfl (Zgp om rfl rfl) (Za rfl rfl (Zeg rfl rfl) (Za rfl rfl (Yy rfl rfl) (Ze (Zb (H8 _ _ ?_))))))))
  refine Zp rfl (fun n => ?_) (fun n => ?_)
  ·have aq := n
   have n := Yi n
   refine Xb (bl (.slice a e.length b)) 16 mixed rfl fun au I => ?_
   have av := I.size
   have E := E.trans I.of_nil
   refine dV 0 rfl rfl rfl (fun _ => Zd rfl) (dV 1 rfl rfl rfl (fun _ => Yf rfl) (dV 2 rfl rfl rfl (fun _ => Zh fa48_3 rfl) ?_))
   have aa := q.ch0 I
   refine dT 3 rfl rfl rfl (Xh aa.at_ (fun i hm => by rcases Nat.lt_trichotomy i b_p with x | x | x; (exact .inl x); (exact absurd (x ▸ hm) p); (exact .inr x)) agg30 rfl rfl ?_)
   refine dV 4 rfl rfl rfl (fun _ => Zd rfl) (dV 5 rfl rfl rfl (fun _ => Zd rfl) (dV 6 rfl rfl rfl (fun _ => Yf rfl) (dV 7 rfl rfl rfl (fun _ => Zh fa48_3 rfl) ?_)))
   refine dT 8 rfl rfl rfl (Xh aa.at_ (fun i hm => by rcases Nat.lt_trichotomy i b_p with x | x | x; (exact .inl x); (exact absurd (x ▸ hm) p); (exact .inr x)) agg30 rfl rfl ?_)
   refine dV 9 rfl rfl rfl (fun _ => Zd rfl) (dV 12 rfl rfl rfl (fun _ => Zd rfl) (dO 10 (Zz rfl rfl rfl ?_)))
   have ab := r.ch0 I
   refine (Yw ab.ls Xg el30 sz3 rfl rfl rfl om fun aw ac A ad => ?_)
   refine ⟨(Ch.refl _ _), ?_⟩
   refine dO 11 (Zz rfl rfl rfl ?_)
   refine s_v (Yr ad agg3 rfl rfl) ?_
   refine ⟨(Ch.refl _ _), ?_⟩
   refine dV 13 rfl rfl rfl (fun _ => r_or rfl rfl) (dO 14 (Zz rfl rfl rfl ?_))
   refine Qj (j := k) ab el30 sz3 rfl rfl rfl (by have ax := Zda l f e k; omega) fun ay az ak ae => ?_
   refine ⟨(Ch.refl _ _), ?_⟩
   refine dO 15 (Zz rfl rfl rfl ?_)
   refine Qk (j := k) (ior ac f) ab ae Xg sz3 rfl rfl rfl rfl (by have ax := Zda l f e k; omega) fun al J K => ?_
   have aA := K.size
   have E := E.step K (fun i hm => by exact (.inr (List.mem_cons_of_mem _ (List.mem_append_right _ hm))))
   have L : Ch (bl (.slice a e.length b)) au al := ((Ch.refl _ _).step K (fun i hm => by exact .inr hm))
   refine ⟨L, ?_⟩
   refine Yc (by kernel_rfl) ?_
   refine Zw (Zb (H7 _ _ (Zc (Za rfl rfl (Zd rfl) (Za rfl rfl (Yo om rfl rfl) (Za rfl rfl (Zf rfl) (Ze ?_)))))))
   have C : Ol ics 3 1 al (.slice a e.length b) (lkN l f e (k + 1)) := by
    have hx := J
    first | exact hx.eq (Zrf n A) | exact hx.eq (Zqv n)
   have aB := aa.ch K (fun hm => by exact p (by first | exact hm | exact am ▸ hm))
   have aC := (u.ch0 I).ch K (fun g hg hm => by exact o _ hg hm)
   exact Zb (Exists.intro (k + 1) ⟨⟨E, om, om, aB, aC, C⟩, sC4 rfl rfl rfl rfl (Sub.nil _), (by first | omega | (dsimp only; omega))⟩)
  have aq := n
  have n := Yj n
  refine Zu ?_
  refine Zw (Zb (H7 _ _ (Zc (Za rfl rfl (Zd rfl) (Za rfl rfl (Yo om rfl rfl) (Za rfl rfl (Zf rfl) (Ze ?_)))))))
  have D : Ol ics 3 1 R3 (.slice a e.length b) (lkN l f e (k + 1)) := by
   have hx := r
   first | exact hx.eq (Zrf n A) | exact hx.eq (Zqv n)
  exact Zb (Exists.intro (k + 1) ⟨⟨E, om, om, q, u, D⟩, sC4 rfl rfl rfl rfl (Sub.nil _), (by first | omega | (dsimp only; omega))⟩)
 have ap := s
 have s := Yj s
 refine Xe (Zr (Zr (Yu ?_)))
 have M : Ol ics 3 1 R3 (.slice h t.length m) (t) := by
  have hx := u
  first | exact hx | simpa using hx
 have O : Ol ics 3 1 R3 (.slice a e.length b) (lkL l f e) := by
  have hx := r
  exact hx.eq (by rw [show k = e.length by omega]; rfl)
 have P : Blk R3 b_p t_p [(.slice h t.length m), .int .i64 Q, .int .i64 R, (.slice a e.length b), .bool S] := by
  have hx := q
  exact hx
 exact Zev [] trivial ⟨(.slice h t.length m), (.slice a e.length b), rfl, P, M, (fun g hm => by exact (.inr (List.mem_cons_of_mem _ (List.mem_append_left _ hm)))), (fun hm => by exact B (by first | exact hm | exact am ▸ hm)), O, (fun g hm => by exact (.inr (List.mem_cons_of_mem _ (List.mem_append_right _ hm)))), (fun hm => by exact p (by first | exact hm | exact am ▸ hm)), (fun g hm hg => by exact o _ hm hg), E⟩

end Go.Proofs.Ytgnlfnkgkcmdjaa
