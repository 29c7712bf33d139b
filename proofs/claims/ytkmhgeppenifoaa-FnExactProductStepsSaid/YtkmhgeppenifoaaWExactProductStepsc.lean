/- Walks of functions that FnExactProductSteps reaches: what each returns, and that it leaves the memory that was there alone. -/
import Derived.Test.YtkmhgeppenifoaaLibA
import Derived.Test.YtkmhgeppenifoaaLibB
import Derived.Test.YtkmhgeppenifoaaWExactProductSteps
import Derived.Test.YtkmhgeppenifoaaWExactProductStepsb
import Derived.Test.YtkmhgeppenifoaaProg
namespace Go.Proofs.Ytkmhgeppenifoaa
open Go.KLib Go.Shelf
set_option maxHeartbeats 1000000
set_option maxRecDepth 20000
set_option linter.unusedVariables false
set_option linter.unusedSimpArgs false
namespace TExactProductStepsc
theorem agg103 : Ys Try.prog 103 = some true := by kernel_rfl
theorem agg129 : Ys Try.prog 129 = some true := by kernel_rfl
theorem agg137 : Ys Try.prog 137 = some true := by kernel_rfl
theorem agg22 : Ys Try.prog 22 = some false := by kernel_rfl
theorem agg23 : Ys Try.prog 23 = some false := by kernel_rfl
theorem agg26 : Ys Try.prog 26 = some false := by kernel_rfl
theorem agg27 : Ys Try.prog 27 = some false := by kernel_rfl
theorem agg3 : Ys Try.prog 3 = some false := by kernel_rfl
theorem agg34 : Ys Try.prog 34 = some false := by kernel_rfl
theorem agg36 : Ys Try.prog 36 = some true := by kernel_rfl
theorem agg38 : Ys Try.prog 38 = some true := by kernel_rfl
theorem agg4 : Ys Try.prog 4 = some false := by kernel_rfl
theorem agg93 : Ys Try.prog 93 = some false := by kernel_rfl
theorem agg97 : Ys Try.prog 97 = some true := by kernel_rfl
theorem agg99 : Ys Try.prog 99 = some true := by kernel_rfl
theorem by103 : Zan Try.prog 103 = some 32 := by kernel_rfl
theorem by129 : Zan Try.prog 129 = some 32 := by kernel_rfl
theorem by22 : Zan Try.prog 22 = some 24 := by kernel_rfl
theorem by3 : Zan Try.prog 3 = some 8 := by kernel_rfl
theorem by4 : Zan Try.prog 4 = some 1 := by kernel_rfl
theorem by97 : Zan Try.prog 97 = some 16 := by kernel_rfl
theorem el133 : elB Try.prog 133 = some 97 := by kernel_rfl
theorem el22 : elB Try.prog 22 = some 3 := by kernel_rfl
theorem el23 : elB Try.prog 23 = some 137 := by kernel_rfl
theorem el26 : elB Try.prog 26 = some 4 := by kernel_rfl
theorem el27 : elB Try.prog 27 = some 22 := by kernel_rfl
theorem el32 : elB Try.prog 32 = some 103 := by kernel_rfl
theorem el34 : elB Try.prog 34 = some 129 := by kernel_rfl
theorem el93 : elB Try.prog 93 = some 99 := by kernel_rfl
theorem el94 : elB Try.prog 94 = some 93 := by kernel_rfl
theorem fa103_0 : faB Try.prog 103 0 = some 0 := by kernel_rfl
theorem fa103_1 : faB Try.prog 103 1 = some 2 := by kernel_rfl
theorem fa103_2 : faB Try.prog 103 2 = some 3 := by kernel_rfl
theorem fa129_0 : faB Try.prog 129 0 = some 0 := by kernel_rfl
theorem fa129_1 : faB Try.prog 129 1 = some 1 := by kernel_rfl
theorem fa129_2 : faB Try.prog 129 2 = some 2 := by kernel_rfl
theorem fa129_3 : faB Try.prog 129 3 = some 3 := by kernel_rfl
theorem fa137_0 : faB Try.prog 137 0 = some 0 := by kernel_rfl
theorem fa137_1 : faB Try.prog 137 1 = some 1 := by kernel_rfl
theorem fa137_2 : faB Try.prog 137 2 = some 2 := by kernel_rfl
theorem fa137_3 : faB Try.prog 137 3 = some 3 := by kernel_rfl
theorem fa25_0 : faB Try.prog 25 0 = some 0 := by kernel_rfl
theorem fa25_1 : faB Try.prog 25 1 = some 1 := by kernel_rfl
theorem fa29_0 : faB Try.prog 29 0 = some 0 := by kernel_rfl
theorem fa29_1 : faB Try.prog 29 1 = some 1 := by kernel_rfl
theorem fa29_2 : faB Try.prog 29 2 = some 2 := by kernel_rfl
theorem fa36_0 : faB Try.prog 36 0 = some 0 := by kernel_rfl
theorem fa36_1 : faB Try.prog 36 1 = some 1 := by kernel_rfl
theorem fa38_0 : faB Try.prog 38 0 = some 0 := by kernel_rfl
theorem fa38_1 : faB Try.prog 38 1 = some 1 := by kernel_rfl
theorem fa38_2 : faB Try.prog 38 2 = some 2 := by kernel_rfl
theorem fa97_0 : faB Try.prog 97 0 = some 0 := by kernel_rfl
theorem fa97_1 : faB Try.prog 97 1 = some 1 := by kernel_rfl
theorem fa99_0 : faB Try.prog 99 0 = some 0 := by kernel_rfl
theorem fa99_1 : faB Try.prog 99 1 = some 2 := by kernel_rfl
theorem fa99_2 : faB Try.prog 99 2 = some 3 := by kernel_rfl
theorem fk102 : fnB Try.prog 102 = true := by kernel_rfl
theorem fk103 : fnB Try.prog 103 = true := by kernel_rfl
theorem fk107 : fnB Try.prog 107 = true := by kernel_rfl
theorem fk108 : fnB Try.prog 108 = true := by kernel_rfl
theorem fk121 : fnB Try.prog 121 = true := by kernel_rfl
theorem fk122 : fnB Try.prog 122 = true := by kernel_rfl
theorem fk127 : fnB Try.prog 127 = true := by kernel_rfl
theorem fk45 : fnB Try.prog 45 = true := by kernel_rfl
theorem fk46 : fnB Try.prog 46 = true := by kernel_rfl
theorem fk47 : fnB Try.prog 47 = true := by kernel_rfl
theorem fk48 : fnB Try.prog 48 = true := by kernel_rfl
theorem fk51 : fnB Try.prog 51 = true := by kernel_rfl
theorem fk52 : fnB Try.prog 52 = true := by kernel_rfl
theorem fk53 : fnB Try.prog 53 = true := by kernel_rfl
theorem fk54 : fnB Try.prog 54 = true := by kernel_rfl
theorem fk55 : fnB Try.prog 55 = true := by kernel_rfl
theorem fk56 : fnB Try.prog 56 = true := by kernel_rfl
theorem fk57 : fnB Try.prog 57 = true := by kernel_rfl
theorem fk58 : fnB Try.prog 58 = true := by kernel_rfl
theorem fk59 : fnB Try.prog 59 = true := by kernel_rfl
theorem fk60 : fnB Try.prog 60 = true := by kernel_rfl
theorem fk61 : fnB Try.prog 61 = true := by kernel_rfl
theorem fk62 : fnB Try.prog 62 = true := by kernel_rfl
theorem fk63 : fnB Try.prog 63 = true := by kernel_rfl
theorem fk64 : fnB Try.prog 64 = true := by kernel_rfl
theorem fk65 : fnB Try.prog 65 = true := by kernel_rfl
theorem fk66 : fnB Try.prog 66 = true := by kernel_rfl
theorem fk67 : fnB Try.prog 67 = true := by kernel_rfl
theorem fk68 : fnB Try.prog 68 = true := by kernel_rfl
theorem fk85 : fnB Try.prog 85 = true := by kernel_rfl
theorem fk86 : fnB Try.prog 86 = true := by kernel_rfl
theorem fk88 : fnB Try.prog 88 = true := by kernel_rfl
theorem fk90 : fnB Try.prog 90 = true := by kernel_rfl
theorem fk96 : fnB Try.prog 96 = true := by kernel_rfl
theorem mixed : Try.prog.follows .mixedOrders = true := by kernel_rfl
theorem pl103 : Zcb Try.prog 103 = some [(0, 2), (2, 1), (3, 1)] := by kernel_rfl
theorem pl97 : Zcb Try.prog 97 = some [(0, 1), (1, 1)] := by kernel_rfl
theorem sz103 : Yh Try.prog 103 = some 4 := by kernel_rfl
theorem sz129 : Yh Try.prog 129 = some 4 := by kernel_rfl
theorem sz137 : Yh Try.prog 137 = some 4 := by kernel_rfl
theorem sz22 : Yh Try.prog 22 = some 1 := by kernel_rfl
theorem sz26 : Yh Try.prog 26 = some 1 := by kernel_rfl
theorem sz27 : Yh Try.prog 27 = some 1 := by kernel_rfl
theorem sz3 : Yh Try.prog 3 = some 1 := by kernel_rfl
theorem sz34 : Yh Try.prog 34 = some 1 := by kernel_rfl
theorem sz36 : Yh Try.prog 36 = some 2 := by kernel_rfl
theorem sz38 : Yh Try.prog 38 = some 3 := by kernel_rfl
theorem sz4 : Yh Try.prog 4 = some 1 := by kernel_rfl
theorem sz93 : Yh Try.prog 93 = some 1 := by kernel_rfl
theorem sz97 : Yh Try.prog 97 = some 2 := by kernel_rfl
theorem sz99 : Yh Try.prog 99 = some 4 := by kernel_rfl
theorem un4 : Try.prog.underlying 4 = some (.bool) := by kernel_rfl
theorem zr103 : Xz Try.prog 103 = some (.agg #[.int .i64 0, .bool false, .int .i64 0, .int .i64 0]) := by kernel_rfl
theorem zr129 : Xz Try.prog 129 = some (.agg #[.int .i64 0, .int .i64 0, .int .i64 0, .int .i64 0]) := by kernel_rfl
theorem zr22 : Xz Try.prog 22 = some (.slice none 0 0) := by kernel_rfl
theorem zr3 : Xz Try.prog 3 = some (.int .i64 0) := by kernel_rfl
theorem zr36 : Xz Try.prog 36 = some (.agg #[.slice none 0 0, .slice none 0 0]) := by kernel_rfl
theorem zr38 : Xz Try.prog 38 = some (.agg #[.int .i64 0, .slice none 0 0, .slice none 0 0]) := by kernel_rfl
theorem zr4 : Xz Try.prog 4 = some (.bool false) := by kernel_rfl
theorem zr97 : Xz Try.prog 97 = some (.agg #[.int .i64 0, .bool false]) := by kernel_rfl
theorem zr99 : Xz Try.prog 99 = some (.agg #[.int .i64 0, .bool false, .int .i64 0, .int .i64 0]) := by kernel_rfl
end TExactProductStepsc
open TExactProductStepsc

/-- impl.IsValidGraph -/
theorem Zce {w : World} {LL_gV L : Nat} {F : Value} {gV : List Int} (l : Ls ics 1 w LL_gV L F gV) {LL_gE M : Nat} {G : Value} {gE : List GEdge} (m : Ls GEdge.cs 4 w LL_gE M G gE) :
 Ctr Try.prog 86 #[(.agg #[F, G])] w (fun v w' => v = .bool (tt (Qc gV gE)) ∧ Ch [] w w') := by
 obtain ⟨n, o, H⟩ := l.val
 subst H
 have au := l.len
 have l := l.here (by decide)
 obtain ⟨p, r, I⟩ := m.val
 subst I
 have av := m.len
 have m := m.here (by decide)
 have E := Ch.refl [] w
 refine Yf (N := 59) (vs0 := [(.agg #[(.slice n gV.length o), (.slice p gE.length r)])]) Try.func86 rfl rfl rfl ?_
 refine Zg fun K1 H1 => ?_
 refine Zc (Zx rfl rfl ?_)
 refine Xj rfl fun O W2 J C2 be => ?_
 have bf := C2.size
 have E := E.trans C2
 have bg := J.lt
 replace J : Blk W2 O 36 [(.slice n gV.length o), (.slice p gE.length r)] := J
 refine Za rfl rfl (Zd rfl) (Ze (Zb (H1 _ _ ?_)))
 refine Zg fun K3 H3 => ?_
 refine Zc (Za rfl rfl (Zh fa36_0 rfl) (Za rfl rfl (Zl J.at_ agg22 rfl rfl) (Za rfl rfl (Yz (by rw [el22]; rfl) rfl) (Za rfl rfl (Zd rfl) (Ze (Zb (H3 _ _ ?_)))))))
 refine Zg fun K4 H4 => ?_
 refine Zg fun K5 H5 => ?_
 refine Zc (Za rfl rfl (Zh fa36_0 rfl) (Za rfl rfl (Zl J.at_ agg22 rfl rfl) (Za rfl rfl (Yz (by rw [el22]; rfl) rfl) (Za rfl rfl (Zf rfl) (Ze (Zb (H5 _ _ ?_)))))))
 refine Yd ?_
 refine Xd (σ := Nat) (fun (k : Nat) => [(1, (.pointer (some ⟨O, 0, none⟩))), (3, (.int .i64 ((gV.length : Nat) : Int))), (12, (.slice n gV.length o)), (13, (.int .i64 ((gV.length : Nat) : Int))), (14, (.int .i64 ((k : Nat) : Int)))]) (fun (k : Nat) wx => Ch [] w wx ∧ W2.heap.size ≤ wx.heap.size ∧ (k ≤ gV.length) ∧ (Zgr gV k) ∧ Blk wx O 36 [(.slice n gV.length o), (.slice p gE.length r)]) (fun (k : Nat) => gV.length - k) 0 (sC4 rfl rfl rfl rfl (sC1 rfl (Sub.nil _))) ⟨E, (Nat.le_refl _), om, (Zgd _), J⟩ ?_
 rintro k R6 ⟨E, aE, bh, hv, A⟩
 have P := E
 have aw := P.size
 have Y := A.lt
 refine Zg fun K7 H7 => ?_
 refine Zc (Za rfl rfl (Xh rfl rfl) (Ze (Zb (H7 _ _ ?_))))
 refine Zg fun K8 H8 => ?_
 refine Zz rfl (fun s => ?_) (fun s => ?_)
 ·have aF := s
  have s := Yp s
  refine Zu ?_
  refine Zb (H8 _ _ ?_)
  refine Zg fun bi ax => ?_
  refine Yd ?_
  refine Zg fun bj aG => ?_
  refine Zc (Zx rfl rfl ?_)
  have aH := l.ch0 P
  refine (Yc aH Xr el22 sz3 rfl rfl rfl om fun aI aJ g Z => ?_)
  refine Za rfl rfl (Ya Z agg3 rfl rfl) (Za rfl rfl (Zd rfl) (Ze (Zb (aG _ _ ?_))))
  refine Zg fun bk aK => ?_
  refine Zc (Za rfl rfl (Zf rfl) (Zx rfl rfl ?_))
  refine Step.call (Zr (xs := [.tmp 18, .const (Go.Value.int Go.IntKind.i64 0), .const (Go.Value.int Go.IntKind.i64 2)]) fk85 rfl) (Xk _ _ _ ) fun aL bm aa => ?_
  obtain ⟨rfl, ab⟩ := aa
  have aM := ab.size
  have E := E.trans ab
  refine Za rfl rfl (Qj rfl) (Ze (Zb (aK _ _ ?_)))
  refine Zz rfl (fun c => ?_) (fun c => ?_)
  ·have ac := c
   have c := Yq (Xv c)
   refine Zg fun bn aN => ?_
   refine Zc (Za rfl rfl (Zd rfl) (Ze (Zb (aN _ _ ?_))))
   refine Yb (Yw (Zp (Zp (Yw (Zp ?_)))))
   clear H4 ax
   exact Zi [_] ⟨rfl, trivial⟩ ⟨congrArg Value.bool (by first | exact Zn (fun q => c (Qo q g)) | exact Zn (fun q => b (Zad q a)) | exact Zn (fun q => by have D := Qe q a e om; omega) | exact vg_y hv om hE om om | exact Zn (fun q => by have D := q.2.2.1; omega)), E⟩
  have ac := c
  have c := Yp (Xw c)
  refine Zu ?_
  refine Zq (Zb (ax _ _ (Zc (Za rfl rfl (Ye om rfl rfl) (Za rfl rfl (Zf rfl) (Ze ?_))))))
  have aO := A.ch0 ab
  exact Zb (Exists.intro (k + 1) ⟨⟨E, om, om, (Zga hv g c), aO⟩, sC4 rfl rfl rfl rfl (sC1 rfl (Sub.nil _)), (by first | omega | (dsimp only; omega))⟩)
 have aF := s
 have s := Yq s
 refine Xc (Zt (Zt (Yx ?_)))
 refine Zb (H4 _ _ ?_)
 refine Zg fun bp ad => ?_
 refine Zg fun bq aP => ?_
 refine Zc (Za rfl rfl (Zh fa36_1 rfl) (Za rfl rfl (Zl A.at_ agg34 rfl rfl) (Za rfl rfl (Yz (by rw [el34]; rfl) rfl) (Za rfl rfl (Zf rfl) (Ze (Zb (aP _ _ ?_)))))))
 refine Yd ?_
 refine Xd (σ := Nat) (fun (q : Nat) => [(1, (.pointer (some ⟨O, 0, none⟩))), (3, (.int .i64 ((gV.length : Nat) : Int))), (23, (.slice p gE.length r)), (24, (.int .i64 ((gE.length : Nat) : Int))), (25, (.int .i64 ((q : Nat) : Int)))]) (fun (q : Nat) wx => Ch [] w wx ∧ R6.heap.size ≤ wx.heap.size ∧ (q ≤ gE.length) ∧ (Zbi ((gV.length : Int) - 1) gE q) ∧ Blk wx O 36 [(.slice n gV.length o), (.slice p gE.length r)]) (fun (q : Nat) => gE.length - q) 0 (sC4 rfl rfl rfl rfl (sC1 rfl (Sub.nil _))) ⟨E, (Nat.le_refl _), om, (Zet _ _), A⟩ ?_
 rintro q br ⟨E, aQ, hq, hE, B⟩
 have Q := E
 have ay := Q.size
 have ae := B.lt
 refine Zg fun bs aR => ?_
 refine Zc (Za rfl rfl (Xh rfl rfl) (Ze (Zb (aR _ _ ?_))))
 refine Zg fun bu af => ?_
 refine Zz rfl (fun u => ?_) (fun u => ?_)
 ·have ag := u
  have u := Yp u
  refine Zu ?_
  refine Zb (af _ _ ?_)
  refine Zg fun bv V => ?_
  refine Yd ?_
  refine Zg fun bw aS => ?_
  refine Zc (Za rfl rfl (Zf rfl) (Zx rfl rfl ?_))
  have az := m.ch0 Q
  refine (Yc az GEdge.len el34 sz129 rfl rfl rfl om fun aT h a ah => ?_)
  refine Za rfl rfl (Zs ah agg129 sz129 rfl) (Zx rfl rfl ?_)
  refine Qr zr129 fun aA aU X R bz => ?_
  have aV := R.size
  have E := E.trans R
  have bA := X.lt
  replace X : Blk aU aA 129 [(.int .i64 0), (.int .i64 0), (.int .i64 0), (.int .i64 0)] := X
  refine Za rfl rfl (Zd rfl) (Zx rfl rfl ?_)
  refine Qw (off := 0) 4 X sz129 rfl (us := [(.int .i64 h.id), (.int .i64 h.f), (.int .i64 h.t), (.int .i64 h.label)]) rfl rfl rfl rfl fun aW C S => ?_
  have aX := S.size
  have E := E.step S (lS om)
  replace C : Blk aW aA 129 [(.int .i64 h.id), (.int .i64 h.f), (.int .i64 h.t), (.int .i64 h.label)] := C
  refine Ze (Zb (aS _ _ ?_))
  refine Zg fun bB ai => ?_
  refine Xl [] 20 mixed rfl fun aY K => ?_
  have aZ := K.size
  have E := E.trans K
  have aB := C.ch0 K
  refine dT 0 rfl rfl rfl (Yr aB.at_ (fun i hi => absurd hi List.not_mem_nil) agg129 sz129 rfl ?_)
  refine dV 1 rfl rfl rfl (fun _ => Zf rfl) (dO 2 (Zk rfl rfl rfl ?_))
  refine Step.call (Zr (xs := [.tmp 30, .tmp 31]) fk121 rfl) (Zfs h _ om) fun a0 a1 aj => ?_
  obtain ⟨rfl, T⟩ := aj
  have a2 := T.size
  have E := E.trans T
  have U : Ch [] aY a1 := ((Ch.refl _ _).trans T)
  refine ⟨U, ?_⟩
  refine dV 3 rfl rfl rfl (fun _ => Qj rfl) (dV 4 rfl rfl rfl (fun _ => Zf rfl) ?_)
  refine Zdj (d := 34) rfl (fun b => ?_) (fun b => ?_)
  ·have ak := b
   have b := bf_t (Xv b)
   refine dK 5 rfl rfl rfl (dK 6 rfl rfl rfl (dK 7 rfl rfl rfl (dK 8 rfl rfl rfl (dK 9 rfl rfl rfl (dK 10 rfl rfl rfl (dK 11 rfl rfl rfl (dK 12 rfl rfl rfl ?_)))))))
   refine dK 13 rfl rfl rfl (dK 14 rfl rfl rfl (dK 15 rfl rfl rfl (dK 16 rfl rfl rfl (dK 17 rfl rfl rfl (dK 18 rfl rfl rfl (dV 19 rfl rfl rfl (fun _ => Xi rfl rfl) ?_))))))
   refine Zw (by kernel_rfl) ?_
   refine Zb (ai _ _ ?_)
   refine Zbk rfl ?_
   refine Zg fun bC a3 => ?_
   refine Zc (Za rfl rfl (Zd rfl) (Ze (Zb (a3 _ _ ?_))))
   refine Yb (Yw (Zp (Zp (Yw (Zp ?_)))))
   clear H8 ad V
   exact Zi [_] ⟨rfl, trivial⟩ ⟨congrArg Value.bool (by first | exact Zn (fun q => c (Qo q g)) | exact Zn (fun q => b (Zad q a)) | exact Zn (fun q => by have D := Qe q a e om; omega) | exact vg_y hv om hE om om | exact Zn (fun q => by have D := q.2.2.1; omega)), E⟩
  have ak := b
  have b := bt_t (Xw b)
  refine dV 5 rfl rfl rfl (fun _ => Zf rfl) (dV 6 rfl rfl rfl (fun _ => Zma rfl rfl) (dV 7 rfl rfl rfl (fun _ => Zf rfl) ?_))
  refine Zdj (d := 37) rfl (fun x => ?_) (fun x => ?_)
  ·have al := x
   have x := Yp x
   refine dV 8 rfl rfl rfl (fun _ => Zh fa36_1 rfl) ?_
   have aC := ((B.ch0 R).ch S (nS om)).ch0 K
   refine dT 9 rfl rfl rfl (Yo aC.at_ (fun i hi => absurd hi List.not_mem_nil) agg34 rfl rfl ?_)
   refine dV 10 rfl rfl rfl (fun _ => Zf rfl) (dV 11 rfl rfl rfl (fun _ => Zbf om rfl rfl) ?_)
   have a4 := ((az.ch0 R).ch S (oS om)).ch0 K
   refine dT 12 rfl rfl rfl (Xt (j := (((q : Nat) : Int) - 1).toNat) a4 GEdge.len el34 sz129 rfl rfl om om fun a5 a6 e am => ?_)
   refine dV 13 rfl rfl rfl (fun _ => Zh fa129_0 rfl) ?_
   refine dT 14 rfl rfl rfl (Yo am (fun i hi => absurd hi List.not_mem_nil) agg3 rfl rfl ?_)
   refine dV 15 rfl rfl rfl (fun _ => Zh fa129_0 rfl) ?_
   refine dT 16 rfl rfl rfl (Yo aB.at_ (fun i hi => absurd hi List.not_mem_nil) agg3 rfl rfl ?_)
   refine dV 17 rfl rfl rfl (fun _ => Zeb rfl rfl) (dV 18 rfl rfl rfl (fun _ => Xi rfl rfl) (dV 19 rfl rfl rfl (fun _ => Xb rfl rfl) ?_))
   refine Zw (by kernel_rfl) ?_
   refine Zb (ai _ _ ?_)
   refine Zz rfl (fun y => ?_) (fun y => ?_)
   ·have an := y
    have y := Yp y
    refine Zg fun bD a7 => ?_
    refine Zc (Za rfl rfl (Zd rfl) (Ze (Zb (a7 _ _ ?_))))
    refine Yb (Yw (Zp (Zp (Yw (Zp ?_)))))
    clear H8 ad V
    exact Zi [_] ⟨rfl, trivial⟩ ⟨congrArg Value.bool (by first | exact Zn (fun q => c (Qo q g)) | exact Zn (fun q => b (Zad q a)) | exact Zn (fun q => by have D := Qe q a e om; omega) | exact vg_y hv om hE om om | exact Zn (fun q => by have D := q.2.2.1; omega)), E⟩
   have an := y
   have y := Yq y
   refine Zu ?_
   refine Zq (Zb (V _ _ (Zc (Za rfl rfl (Ye om rfl rfl) (Za rfl rfl (Zf rfl) (Ze ?_))))))
   have a8 := aC.ch0 T
   exact Zb (Exists.intro (q + 1) ⟨⟨E, om, om, (by first | exact Zba hE a b om | (exact Zaz hE a b e om (by first | omega | (rw [a9]; omega)))), a8⟩, sC4 rfl rfl rfl rfl (sC1 rfl (Sub.nil _)), (by first | omega | (dsimp only; omega))⟩)
  have al := x
  have x := Yq x
  refine dK 8 rfl rfl rfl (dK 9 rfl rfl rfl (dK 10 rfl rfl rfl (dK 11 rfl rfl rfl (dK 12 rfl rfl rfl (dK 13 rfl rfl rfl (dK 14 rfl rfl rfl (dK 15 rfl rfl rfl ?_)))))))
  refine dK 16 rfl rfl rfl (dK 17 rfl rfl rfl (dV 18 rfl rfl rfl (fun _ => Xb rfl rfl) (dV 19 rfl rfl rfl (fun _ => Xb rfl rfl) ?_)))
  refine Zw (by kernel_rfl) ?_
  refine Zb (ai _ _ ?_)
  refine Zbj rfl ?_
  refine Zu ?_
  refine Zq (Zb (V _ _ (Zc (Za rfl rfl (Ye om rfl rfl) (Za rfl rfl (Zf rfl) (Ze ?_))))))
  have ba := (((B.ch0 R).ch S (nS om)).ch0 K).ch0 T
  exact Zb (Exists.intro (q + 1) ⟨⟨E, om, om, (by first | exact Zba hE a b om | (exact Zaz hE a b e om (by first | omega | (rw [a9]; omega)))), ba⟩, sC4 rfl rfl rfl rfl (sC1 rfl (Sub.nil _)), (by first | omega | (dsimp only; omega))⟩)
 have ag := u
 have u := Yq u
 refine Xc (Zt (Zt (Yx ?_)))
 refine Zb (ad _ _ ?_)
 refine Zg fun bF aD => ?_
 refine Zc (Za rfl rfl (Zf rfl) (Zx rfl rfl ?_))
 refine Step.call (Zr (xs := [.tmp 51, .const (Go.Value.int Go.IntKind.i64 1), .const (Go.Value.int Go.IntKind.i64 5)]) fk85 rfl) (Xk _ _ _ ) fun bb bG ao => ?_
 obtain ⟨rfl, ap⟩ := ao
 have bc := ap.size
 have E := E.trans ap
 refine Za rfl rfl (Zf rfl) ?_
 refine Xg (d := 53) rfl (fun z => ?_) (fun z => ?_)
 ·have aq := z
  have z := Yp z
  refine Za rfl rfl (Zh fa36_1 rfl) ?_
  have bd := B.ch0 ap
  refine Za rfl rfl (Zl bd.at_ agg34 rfl rfl) (Za rfl rfl (Yz (by rw [el34]; rfl) rfl) (Za rfl rfl (Zid rfl rfl) (Za rfl rfl (Xi rfl rfl) (Za rfl rfl (Zd rfl) (Ze (Zb (aD _ _ ?_)))))))
  refine Yb ?_
  clear H8 af
  exact Zi [_] ⟨rfl, trivial⟩ ⟨congrArg Value.bool (by first | exact Zn (fun q => c (Qo q g)) | exact Zn (fun q => b (Zad q a)) | exact Zn (fun q => by have D := Qe q a e om; omega) | exact vg_y hv om hE om om | exact Zn (fun q => by have D := q.2.2.1; omega)), E⟩
 have aq := z
 have z := Yq z
 refine Zo rfl rfl (Zo rfl rfl (Zo rfl rfl (Zo rfl rfl (Za rfl rfl (Xb rfl rfl) (Za rfl rfl (Zd rfl) (Ze (Zb (aD _ _ ?_))))))))
 refine Yb ?_
 clear H8 af
 exact Zi [_] ⟨rfl, trivial⟩ ⟨congrArg Value.bool (by first | exact Zn (fun q => c (Qo q g)) | exact Zn (fun q => b (Zad q a)) | exact Zn (fun q => by have D := Qe q a e om; omega) | exact vg_y hv om hE om om | exact Zn (fun q => by have D := q.2.2.1; omega)), E⟩

/-- impl.bothOk -/
theorem Zfr {w : World} {LL_gV T : Nat} {G : Value} {gV : List Int} (g : Ls ics 1 w LL_gV T G gV) {LL_gE U : Nat} {H : Value} {gE : List GEdge} (j : Ls GEdge.cs 4 w LL_gE U H gE) (aS : Int) {LL_aA V : Nat} {I : Value} {aA : List Bool} (l : Ls bcs 1 w LL_aA V I aA) {LL_saN M : Nat} {t : Value} {saN : List Sv} (b : Ls Sv.cs 1 w LL_saN M t saN) {LR_aN BB_aN : Nat} {aN : List (List Int)} (f : Rd ics 1 w LR_aN BB_aN saN aN) {LL_ns X : Nat} {J : Value} {ns : List Int} (m : Ls ics 1 w LL_ns X J ns) :
 Ctr Try.prog 55 #[(.agg #[G, H]), (.agg #[(.int .i64 aS), I, t]), J] w (fun v w' => v = .bool (tt (Zmc gV gE aS aA aN ns)) ∧ Ch [] w w') := by
 obtain ⟨u, y, O⟩ := g.val
 subst O
 have ao := g.len
 have g := g.here (by decide)
 obtain ⟨z, A, P⟩ := j.val
 subst P
 have ap := j.len
 have j := j.here (by decide)
 obtain ⟨B, C, Q⟩ := l.val
 subst Q
 have aq := l.len
 have l := l.here (by decide)
 obtain ⟨n, o, F⟩ := b.val
 subst F
 have ab := b.len
 have b := b.here (by decide)
 have f := f.here (by decide)
 have ac := f.1
 obtain ⟨K, L, R⟩ := m.val
 subst R
 have au := m.len
 have m := m.here (by decide)
 have E := Ch.refl [] w
 refine Yf (N := 29) (vs0 := [(.agg #[(.slice u gV.length y), (.slice z gE.length A)]), (.agg #[(.int .i64 aS), (.slice B aA.length C), (.slice n saN.length o)]), (.slice K ns.length L)]) Try.func55 rfl rfl rfl ?_
 refine Zg fun K1 H1 => ?_
 refine Zc (Zx rfl rfl ?_)
 refine Xj rfl fun ad W2 Y C2 aX => ?_
 have aY := C2.size
 have E := E.trans C2
 have aZ := Y.lt
 replace Y : Blk W2 ad 36 [(.slice u gV.length y), (.slice z gE.length A)] := Y
 refine Zx rfl rfl ?_
 refine Xj rfl fun ae W3 Z C3 a0 => ?_
 have a1 := C3.size
 have E := E.trans C3
 have a2 := Z.lt
 replace Z : Blk W3 ae 38 [(.int .i64 aS), (.slice B aA.length C), (.slice n saN.length o)] := Z
 refine Za rfl rfl (Zd rfl) (Ze (Zb (H1 _ _ ?_)))
 refine Zg fun K4 H4 => ?_
 refine Zg fun K5 H5 => ?_
 refine Zc (Za rfl rfl (Zf rfl) (Za rfl rfl (Yz (by rw [el22]; rfl) rfl) (Za rfl rfl (Zf rfl) (Ze (Zb (H5 _ _ ?_))))))
 refine Yd ?_
 have F6 := Y.ch0 C3
 refine Xd (σ := Nat) (fun (k : Nat) => [(3, (.pointer (some ⟨ad, 0, none⟩))), (4, (.pointer (some ⟨ae, 0, none⟩))), (9, (.slice K ns.length L)), (10, (.int .i64 ((ns.length : Nat) : Int))), (11, (.int .i64 ((k : Nat) : Int)))]) (fun (k : Nat) wx => Ch [] w wx ∧ W3.heap.size ≤ wx.heap.size ∧ (k ≤ ns.length) ∧ (Zhm gV ns k) ∧ Blk wx ad 36 [(.slice u gV.length y), (.slice z gE.length A)] ∧ Blk wx ae 38 [(.int .i64 aS), (.slice B aA.length C), (.slice n saN.length o)]) (fun (k : Nat) => ns.length - k) 0 (sC4 rfl rfl rfl rfl (sC1 rfl (Sub.nil _))) ⟨E, (Nat.le_refl _), om, (fun _ _ h => absurd h om), F6, Z⟩ ?_
 rintro k R7 ⟨E, az, a3, hp, s, D⟩
 have p := E
 have av := p.size
 have af := s.lt
 have ag := D.lt
 refine Zg fun K8 H8 => ?_
 refine Zc (Za rfl rfl (Xh rfl rfl) (Ze (Zb (H8 _ _ ?_))))
 refine Zg fun K9 H9 => ?_
 refine Zz rfl (fun r => ?_) (fun r => ?_)
 ·have ah := r
  have r := Yp r
  refine Zu ?_
  refine Zb (H9 _ _ ?_)
  refine Zg fun a4 aw => ?_
  refine Yd ?_
  refine Zg fun a5 aB => ?_
  refine Zc (Zx rfl rfl ?_)
  have aC := m.ch0 p
  refine (Yc aC Xr el22 sz3 rfl rfl rfl om fun aD aE c ai => ?_)
  refine Za rfl rfl (Ya ai agg3 rfl rfl) (Za rfl rfl (Zd rfl) (Ze (Zb (aB _ _ ?_))))
  refine Zg fun a6 aF => ?_
  refine Zc (Za rfl rfl (Zf rfl) (Za rfl rfl (Zh fa36_0 rfl) (Za rfl rfl (Zl s.at_ agg22 rfl rfl) (Za rfl rfl (Yz (by rw [el22]; rfl) rfl) (Za rfl rfl (Zbf om rfl rfl) (Zx rfl rfl ?_))))))
  refine Step.call (Zr (xs := [.tmp 15, .const (Go.Value.int Go.IntKind.i64 0), .tmp 19]) fk85 rfl) (Xk _ _ _ ) fun aG a7 aj => ?_
  obtain ⟨rfl, aa⟩ := aj
  have aH := aa.size
  have E := E.trans aa
  refine Za rfl rfl (Qj rfl) (Ze (Zb (aF _ _ ?_)))
  refine Zz rfl (fun e => ?_) (fun e => ?_)
  ·have ak := e
   have e := Yq (Xv e)
   refine Zg fun a8 aI => ?_
   refine Zc (Za rfl rfl (Zd rfl) (Ze (Zb (aI _ _ ?_))))
   refine Yb (Yw (Zp (Zp (Yw (Zp ?_)))))
   clear H4 aw
   exact Zi [_] ⟨rfl, trivial⟩ ⟨congrArg Value.bool (by first | exact Zn (fun q => e (q.1 _ _ (List.getElem?_eq_some_iff.1 c).1 c)) | exact Zn (fun q => a q.2.1) | exact Zbg ⟨fun h => ⟨fun i x hi hx => hp i x om hx, a, h⟩, fun h => h.2.2⟩), E⟩
  have ak := e
  have e := Yp (Xw e)
  refine Zu ?_
  refine Zq (Zb (aw _ _ (Zc (Za rfl rfl (Ye om rfl rfl) (Za rfl rfl (Zf rfl) (Ze ?_))))))
  have aJ := s.ch0 aa
  have aK := D.ch0 aa
  exact Zb (Exists.intro (k + 1) ⟨⟨E, om, om, (Zia hp c e), aJ, aK⟩, sC4 rfl rfl rfl rfl (sC1 rfl (Sub.nil _)), (by first | omega | (dsimp only; omega))⟩)
 have ah := r
 have r := Yq r
 refine Xc (Zt (Zt (Yx ?_)))
 refine Zb (H4 _ _ ?_)
 refine Zg fun a9 ax => ?_
 refine Zc (Za rfl rfl (Zs s.at_ agg36 sz36 rfl) (Zx rfl rfl ?_))
 have aL := g.ch0 p
 have aM := j.ch0 p
 refine Step.call (Zr (xs := [.tmp 23]) fk86 rfl) (Zce aL aM ) fun aO ba al => ?_
 obtain ⟨rfl, S⟩ := al
 have aP := S.size
 have E := E.trans S
 refine Za rfl rfl (Zf rfl) ?_
 refine Xg (d := 25) rfl (fun a => ?_) (fun a => ?_)
 ·have am := a
  have a := bt_t a
  have aQ := D.ch0 S
  refine Za rfl rfl (Zs aQ.at_ agg38 sz38 rfl) (Zx rfl rfl ?_)
  have aR := (l.ch0 p).ch0 S
  have aT := (f.ch0 p).ch0 S
  have aU := (b.ch0 p).ch0 S
  refine Step.call (Zr (xs := [.tmp 26]) fk103 rfl) (Zac _ aR aU aT ) fun aV bb an => ?_
  obtain ⟨rfl, ay⟩ := an
  have aW := ay.size
  have E := E.trans ay
  refine Za rfl rfl (Xi rfl rfl) (Za rfl rfl (Zd rfl) (Ze (Zb (ax _ _ ?_))))
  refine Yb ?_
  exact Zi [_] ⟨rfl, trivial⟩ ⟨congrArg Value.bool (by first | exact Zn (fun q => e (q.1 _ _ (List.getElem?_eq_some_iff.1 c).1 c)) | exact Zn (fun q => a q.2.1) | exact Zbg ⟨fun h => ⟨fun i x hi hx => hp i x om hx, a, h⟩, fun h => h.2.2⟩), E⟩
 have am := a
 have a := bf_t a
 refine Zo rfl rfl (Zo rfl rfl (Za rfl rfl (Xb rfl rfl) (Za rfl rfl (Zd rfl) (Ze (Zb (ax _ _ ?_))))))
 refine Yb ?_
 exact Zi [_] ⟨rfl, trivial⟩ ⟨congrArg Value.bool (by first | exact Zn (fun q => e (q.1 _ _ (List.getElem?_eq_some_iff.1 c).1 c)) | exact Zn (fun q => a q.2.1) | exact Zbg ⟨fun h => ⟨fun i x hi hx => hp i x om hx, a, h⟩, fun h => h.2.2⟩), E⟩

/-- impl.hasState -/
theorem Zdy {w : World} (aS : Int) {LL_aA p : Nat} {k : Value} {aA : List Bool} (f : Ls bcs 1 w LL_aA p k aA) {LL_saN n : Nat} {g : Value} {saN : List Sv} (a : Ls Sv.cs 1 w LL_saN n g saN) {LR_aN BB_aN : Nat} {aN : List (List Int)} (c : Rd ics 1 w LR_aN BB_aN saN aN) (s : Int) :
 Ctr Try.prog 56 #[(.agg #[(.int .i64 aS), k, g]), (.int .i64 s)] w (fun v w' => v = .bool (tt (Xs aS aA aN ∧ (0 ≤ s ∧ s ≤ (aA.length : Int) - 1))) ∧ Ch [] w w') := by
 obtain ⟨l, m, o⟩ := f.val
 subst o
 have y := f.len
 have f := f.here (by decide)
 obtain ⟨h, i, j⟩ := a.val
 subst j
 have r := a.len
 have a := a.here (by decide)
 have c := c.here (by decide)
 have t := c.1
 have E := Ch.refl [] w
 refine Yf (N := 15) (vs0 := [(.agg #[(.int .i64 aS), (.slice l aA.length m), (.slice h saN.length i)]), (.int .i64 s)]) Try.func56 rfl rfl rfl ?_
 refine Zg fun K1 H1 => ?_
 refine Zc (Zx rfl rfl ?_)
 refine Xj rfl fun A W2 q C2 G => ?_
 have H := C2.size
 have E := E.trans C2
 have I := q.lt
 replace q : Blk W2 A 38 [(.int .i64 aS), (.slice l aA.length m), (.slice h saN.length i)] := q
 refine Za rfl rfl (Zd rfl) (Ze (Zb (H1 _ _ ?_)))
 refine Zg fun K3 H3 => ?_
 refine Zc (Za rfl rfl (Zf rfl) (Za rfl rfl (Zh fa38_1 rfl) (Za rfl rfl (Zl q.at_ agg26 rfl rfl) (Za rfl rfl (Yz (by rw [el26]; rfl) rfl) (Za rfl rfl (Zbf om rfl rfl) (Zx rfl rfl ?_))))))
 refine Step.call (Zr (xs := [.tmp 5, .const (Go.Value.int Go.IntKind.i64 0), .tmp 9]) fk85 rfl) (Xk _ _ _ ) fun B W4 u => ?_
 obtain ⟨rfl, C4⟩ := u
 have J := C4.size
 have E := E.trans C4
 refine Za rfl rfl (Zf rfl) ?_
 refine Xg (d := 11) rfl (fun b => ?_) (fun b => ?_)
 ·have C := b
  have b := Yp b
  have F6 := q.ch0 C4
  refine Za rfl rfl (Zs F6.at_ agg38 sz38 rfl) (Zx rfl rfl ?_)
  have F7 := (f.ch0 C2).ch0 C4
  have F8 := (c.ch0 C2).ch0 C4
  have F9 := (a.ch0 C2).ch0 C4
  refine Step.call (Zr (xs := [.tmp 12]) fk103 rfl) (Zac _ F7 F9 F8 ) fun D K x => ?_
  obtain ⟨rfl, z⟩ := x
  have F := z.size
  have E := E.trans z
  refine Za rfl rfl (Xi rfl rfl) (Za rfl rfl (Zd rfl) (Ze (Zb (H3 _ _ ?_))))
  refine Yb ?_
  exact Zi [_] ⟨rfl, trivial⟩ ⟨congrArg Value.bool (by first | exact Zn (fun e => b e.2) | exact Zbg ⟨fun e => ⟨e, b⟩, fun e => e.1⟩), E⟩
 have C := b
 have b := Yq b
 refine Zo rfl rfl (Zo rfl rfl (Za rfl rfl (Xb rfl rfl) (Za rfl rfl (Zd rfl) (Ze (Zb (H3 _ _ ?_))))))
 refine Yb ?_
 exact Zi [_] ⟨rfl, trivial⟩ ⟨congrArg Value.bool (by first | exact Zn (fun e => b e.2) | exact Zbg ⟨fun e => ⟨e, b⟩, fun e => e.1⟩), E⟩

/-- impl.ProductSteps -/
theorem Zap {w : World} {LL_gV bh : Nat} {aF : Value} {gV : List Int} (J : Ls ics 1 w LL_gV bh aF gV) {LL_gE bi : Nat} {aG : Value} {gE : List GEdge} (K : Ls GEdge.cs 4 w LL_gE bi aG gE) (aS : Int) {LL_aA bj : Nat} {aH : Value} {aA : List Bool} (L : Ls bcs 1 w LL_aA bj aH aA) {LL_saN a3 : Nat} {ab : Value} {saN : List Sv} (p : Ls Sv.cs 1 w LL_saN a3 ab saN) {LR_aN BB_aN : Nat} {aN : List (List Int)} (I : Rd ics 1 w LR_aN BB_aN saN aN) (node : Int) (s : Int) :
 Ctr Try.prog 11 #[(.agg #[aF, aG]), (.agg #[(.int .i64 aS), aH, ab]), (.int .i64 node), (.int .i64 s)] w (fun v w' => Ol PStep.cs 103 4 w' v (psR gV gE aS aA aN node s) ∧ Lo w.heap.size v ∧ Ch [] w w') := by
 obtain ⟨B, C, a4⟩ := J.val
 subst a4
 have cp := J.len
 have J := J.here (by decide)
 obtain ⟨D, F, a5⟩ := K.val
 subst a5
 have cq := K.len
 have K := K.here (by decide)
 obtain ⟨G, H, a6⟩ := L.val
 subst a6
 have cr := L.len
 have L := L.here (by decide)
 obtain ⟨n, o, av⟩ := p.val
 subst av
 have bP := p.len
 have p := p.here (by decide)
 have I := I.here (by decide)
 have bQ := I.1
 have E := Ch.refl [] w
 refine Yf (N := 66) (vs0 := [(.agg #[(.slice B gV.length C), (.slice D gE.length F)]), (.agg #[(.int .i64 aS), (.slice G aA.length H), (.slice n saN.length o)]), (.int .i64 node), (.int .i64 s)]) Try.func11 rfl rfl rfl ?_
 refine Zg fun K1 H1 => ?_
 refine Zc (Zx rfl rfl ?_)
 refine Xj rfl fun bk W2 bL C2 eA => ?_
 have eB := C2.size
 have E := E.trans C2
 have eC := bL.lt
 replace bL : Blk W2 bk 36 [(.slice B gV.length C), (.slice D gE.length F)] := bL
 refine Zx rfl rfl ?_
 refine Xj rfl fun bm W3 bn C3 eD => ?_
 have eE := C3.size
 have E := E.trans C3
 have eF := bn.lt
 replace bn : Blk W3 bm 38 [(.int .i64 aS), (.slice G aA.length H), (.slice n saN.length o)] := bn
 refine Za rfl rfl (Zd rfl) (Ze (Zb (H1 _ _ ?_)))
 refine Zg fun K4 H4 => ?_
 refine Zg fun K5 H5 => ?_
 refine Zc ?_
 have F6 := bL.ch0 C3
 refine Za rfl rfl (Zs F6.at_ agg36 sz36 rfl) (Za rfl rfl (Zs bn.at_ agg38 sz38 rfl) (Za rfl rfl (Zf rfl) (Zx rfl rfl ?_)))
 refine Zm (cs := ics) (parts := [(0, .tmp 16)]) (0 : Int) [node] el22 sz3 zr3 Xr (by decide) rfl rfl rfl (by decide) (by decide) rfl fun c2 W7 bp ct C7 => ?_
 have eG := C7.size
 have E := E.trans C7
 obtain ⟨cu, cv, rfl, cw, bR⟩ := bp.opn
 refine Zx rfl rfl ?_
 have F8 := ((J.ch0 C2).ch0 C3).ch0 C7
 have F9 := ((K.ch0 C2).ch0 C3).ch0 C7
 have cx := ((L.ch0 C2).ch0 C3).ch0 C7
 have cy := ((I.ch0 C2).ch0 C3).ch0 C7
 have cz := ((p.ch0 C2).ch0 C3).ch0 C7
 refine Step.call (Zr (xs := [.tmp 14, .tmp 15, .tmp 17]) fk55 rfl) (Zfr F8 F9 _ cx cz cy bp.ls ) fun c3 cA bS => ?_
 obtain ⟨rfl, aw⟩ := bS
 have c4 := aw.size
 have E := E.trans aw
 refine Za rfl rfl (Qj rfl) (Za rfl rfl (Zf rfl) ?_)
 refine Xg (d := 20) rfl (fun f => ?_) (fun f => ?_)
 ·have bT := f
  have f := bf_t (Xv f)
  first | have ax := Zgg f | skip
  first | have bU := f.2.1 | skip
  refine Zo rfl rfl (Zo rfl rfl (Zo rfl rfl (Zo rfl rfl (Za rfl rfl (Xi rfl rfl) (Ze (Zb (H5 _ _ ?_)))))))
  refine Zbk rfl ?_
  refine Zg fun eH c5 => ?_
  refine Zc (Za rfl rfl (Zd rfl) (Ze (Zb (c5 _ _ ?_))))
  refine Yb (Zp ?_)
  have bq : Ol PStep.cs 103 4 cA (.slice none 0 0) (psR gV gE aS aA aN node s) := by
   have hx := Ol.nil (cs := PStep.cs) (e := 103) (k := 4) cA
   first | exact hx.eq (Zew (fun q => f ⟨fun i x hi hx => Zhb hi hx q.2.2.1, q.1, q.2.1⟩)) | exact hx.eq (Zew (fun q => c ⟨q.2.1, q.2.2.2⟩)) | exact hx.eq (by rw [Zfa (by rw [← ay]; omega)]; exact Zht ⟨f.2.1, f.2.2, ax, c.2⟩)
  exact Zi [_] ⟨rfl, trivial⟩ ⟨bq, Lo.nil _, E⟩
 have bT := f
 have f := bt_t (Xw f)
 first | have ax := Zgg f | skip
 first | have bU := f.2.1 | skip
 have cB := (bn.ch0 C7).ch0 aw
 refine Za rfl rfl (Zs cB.at_ agg38 sz38 rfl) (Za rfl rfl (Zf rfl) (Zx rfl rfl ?_))
 have cC := cx.ch0 aw
 have cD := cy.ch0 aw
 have cE := cz.ch0 aw
 refine Step.call (Zr (xs := [.tmp 21, .tmp 22]) fk56 rfl) (Zdy _ cC cE cD _ ) fun c6 bM bV => ?_
 obtain ⟨rfl, az⟩ := bV
 have c7 := az.size
 have E := E.trans az
 refine Za rfl rfl (Qj rfl) (Za rfl rfl (Xb rfl rfl) (Ze (Zb (H5 _ _ ?_))))
 refine Zz rfl (fun c => ?_) (fun c => ?_)
 ·have bW := c
  have c := bf_t (Xv c)
  first | have bX := c.1.1 | skip
  first | have c8 := c.2 | skip
  first | have bY := Zig c.1.1 | skip
  refine Zg fun eI c9 => ?_
  refine Zc (Za rfl rfl (Zd rfl) (Ze (Zb (c9 _ _ ?_))))
  refine Yb (Zp ?_)
  have br : Ol PStep.cs 103 4 bM (.slice none 0 0) (psR gV gE aS aA aN node s) := by
   have hx := Ol.nil (cs := PStep.cs) (e := 103) (k := 4) bM
   first | exact hx.eq (Zew (fun q => f ⟨fun i x hi hx => Zhb hi hx q.2.2.1, q.1, q.2.1⟩)) | exact hx.eq (Zew (fun q => c ⟨q.2.1, q.2.2.2⟩)) | exact hx.eq (by rw [Zfa (by rw [← ay]; omega)]; exact Zht ⟨f.2.1, f.2.2, ax, c.2⟩)
  exact Zi [_] ⟨rfl, trivial⟩ ⟨br, Lo.nil _, E⟩
 have bW := c
 have c := bt_t (Xw c)
 first | have bX := c.1.1 | skip
 first | have c8 := c.2 | skip
 first | have bY := Zig c.1.1 | skip
 refine Zu ?_
 refine Zb (H4 _ _ ?_)
 refine Zg fun eJ da => ?_
 refine Zc (Zx rfl rfl ?_)
 refine Zaa (k := 4) PStep.cs el32 sz103 fun db dc bs aI aB => ?_
 have dd := aB.size
 have E := E.trans aB
 obtain ⟨aJ, aK, rfl, cF, a7⟩ := bs.opn
 refine Za rfl rfl (Zd rfl) (Ze (Zb (da _ _ ?_)))
 refine Zg fun eK de => ?_
 refine Zg fun eL df => ?_
 refine Zc ?_
 have cG := (((F6.ch0 C7).ch0 aw).ch0 az).ch0 aB
 refine Za rfl rfl (Zs cG.at_ agg36 sz36 rfl) (Zx rfl rfl ?_)
 have cH := ((F8.ch0 aw).ch0 az).ch0 aB
 have cI := ((F9.ch0 aw).ch0 az).ch0 aB
 refine Step.call (Zr (xs := [.tmp 27]) fk57 rfl) (Zhd cH cI f.2.1) fun dg bf bZ => ?_
 obtain ⟨cJ, bN, rfl, M, bg, r, O, aq⟩ := bZ
 have dh := aq.size
 have E := E.trans aq
 obtain ⟨b0, b1, rfl, b2, bu⟩ := M.opn
 have di := Qa gV gE
 have dj := r.1
 refine Za rfl rfl (Zf rfl) (Zx rfl rfl ?_)
 refine (Yc (j := node.toNat) M.ls Sv.len el94 sz93 rfl rfl om om fun b3 b4 ac a8 => ?_)
 have cK := O _ (Xa ac)
 obtain ⟨b, a9, P, aL⟩ := r.ownget ac
 have b5 := ac
 obtain ⟨z, dk, A⟩ := b4
 obtain rfl := P.ls.eqn
 have dl := P.len
 have ad : Lo dc.heap.size (.slice z b.length A) := fun g hg => (aL g hg).1
 have ba : ∀ g ∈ bl (.slice z b.length A), g < bf.heap.size := fun g hg => (aL g hg).2
 replace P : Ol Arc.cs 99 4 bf (.slice z b.length A) b := P
 replace a8 : At bf 0 bf.heap.size b3 ([(.slice z b.length A)]) := a8
 have ay : b = arcL gE node := by rw [Zdr a9, Int.toNat_of_nonneg om]
 refine Za rfl rfl (Ya a8 agg93 rfl rfl) (Za rfl rfl (Yz (by rw [el93]; rfl) rfl) (Za rfl rfl (Zf rfl) (Ze (Zb (df _ _ ?_)))))
 refine Yd ?_
 have dm := bs.ch0 aq
 have bb : Ol PStep.cs 103 4 bf (.slice aJ (([] : List PStep)).length aK) (psT gV gE aN node s 0) := by
  have hx := dm
  exact hx
 have dn := cG.ch0 aq
 have dp := cH.ch0 aq
 have dq := cI.ch0 aq
 have dr := ((cB.ch0 az).ch0 aB).ch0 aq
 have ds := ((cC.ch0 az).ch0 aB).ch0 aq
 have dt := ((cE.ch0 az).ch0 aB).ch0 aq
 have du := ((cD.ch0 az).ch0 aB).ch0 aq
 refine Xd (σ := Nat × Value) (fun ⟨i, ov⟩ => [(2, (.int .i64 node)), (3, (.int .i64 s)), (4, (.pointer (some ⟨bk, 0, none⟩))), (5, (.pointer (some ⟨bm, 0, none⟩))), (8, (.slice none 0 0)), (9, ov), (31, (.slice z b.length A)), (32, (.int .i64 ((b.length : Nat) : Int))), (33, (.int .i64 ((i : Nat) : Int)))]) (fun ⟨i, ov⟩ wx => Ch [] w wx ∧ bf.heap.size ≤ wx.heap.size ∧ (i ≤ b.length) ∧ Blk wx bk 36 [(.slice B gV.length C), (.slice D gE.length F)] ∧ Ls ics 1 wx LL_gV w.heap.size (.slice B gV.length C) gV ∧ Ls GEdge.cs 4 wx LL_gE w.heap.size (.slice D gE.length F) gE ∧ Blk wx bm 38 [(.int .i64 aS), (.slice G aA.length H), (.slice n saN.length o)] ∧ Ls bcs 1 wx LL_aA w.heap.size (.slice G aA.length H) aA ∧ Ls Sv.cs 1 wx LL_saN w.heap.size (.slice n saN.length o) saN ∧ Rd ics 1 wx LR_aN w.heap.size saN aN ∧ Ol Arc.cs 99 4 wx (.slice z b.length A) b ∧ Ol PStep.cs 103 4 wx ov (psT gV gE aN node s i) ∧ Lo bM.heap.size ov ∧ (∀ g ∈ bl ov, g ∉ bl (.slice z b.length A))) (fun ⟨i, ov⟩ => b.length - i) (0, (.slice aJ (([] : List PStep)).length aK)) (sC8 rfl rfl rfl rfl rfl rfl rfl rfl (sC1 rfl (Sub.nil _))) ⟨E, (Nat.le_refl _), om, dn, dp, dq, dr, ds, dt, du, P, bb, aI, (fun g hm hg => by have au := aI _ hm; have bO := a7 _ hm; have b6 := ad _ hg; have b7 := ba _ hg; omega)⟩ ?_
 rintro ⟨i, ov⟩ dv ⟨E, dw, hi, aM, bv, bw, aO, bz, bA, bB, aP, ae, t, Q⟩
 have b8 := E
 have cL := b8.size
 have b9 := aM.lt
 have ca := aO.lt
 obtain ⟨Aov, Cov, rfl, lov, hiov⟩ := ae.opn
 refine Zg fun eM dx => ?_
 refine Zc (Za rfl rfl (Xh rfl rfl) (Ze (Zb (dx _ _ ?_))))
 refine Zg fun eN dy => ?_
 refine Zz rfl (fun R => ?_) (fun R => ?_)
 ·have cb := R
  have R := Yp R
  refine Zu ?_
  refine Zb (dy _ _ ?_)
  refine Zg fun eO dz => ?_
  refine Yd ?_
  refine Zg fun eP dA => ?_
  refine Zc (Zx rfl rfl ?_)
  refine (Yc aP.ls Arc.len el93 sz99 rfl rfl rfl om fun dB a bC cc => ?_)
  refine Za rfl rfl (Zs cc agg99 sz99 rfl) (Zx rfl rfl ?_)
  refine Qr zr99 fun af dC aC ag dD => ?_
  have dE := ag.size
  have E := E.trans ag
  have dF := aC.lt
  replace aC : Blk dC af 99 [(.int .i64 0), (.bool false), (.int .i64 0), (.int .i64 0)] := aC
  refine Zx rfl rfl ?_
  refine Qw (off := 0) 4 aC sz99 rfl (us := [(.int .i64 a.edge), (.bool a.back), (.int .i64 a.letter), (.int .i64 a.to_)]) rfl rfl rfl rfl fun dG ah ai => ?_
  have dH := ai.size
  have E := E.step ai (lS om)
  replace ah : Blk dG af 99 [(.int .i64 a.edge), (.bool a.back), (.int .i64 a.letter), (.int .i64 a.to_)] := ah
  refine Ze (Zb (dA _ _ ?_))
  refine Zg fun eQ dI => ?_
  refine Xl [] 14 mixed rfl fun cM Z => ?_
  have dJ := Z.size
  have E := E.trans Z
  have cN := ((aO.ch0 ag).ch ai (nS om)).ch0 Z
  refine dT 0 rfl rfl rfl (Yr cN.at_ (fun i hi => absurd hi List.not_mem_nil) agg38 sz38 rfl ?_)
  refine dV 1 rfl rfl rfl (fun _ => Zf rfl) (dV 2 rfl rfl rfl (fun _ => Zgt om rfl rfl) (dV 3 rfl rfl rfl (fun _ => Zh fa36_0 rfl) ?_))
  have cO := ((aM.ch0 ag).ch ai (nS om)).ch0 Z
  refine dT 4 rfl rfl rfl (Yo cO.at_ (fun i hi => absurd hi List.not_mem_nil) agg22 rfl rfl ?_)
  refine dV 5 rfl rfl rfl (fun _ => Zf rfl) ?_
  have cP := ((bv.ch0 ag).ch ai (oS om)).ch0 Z
  refine dT 6 rfl rfl rfl (Xt (j := node.toNat) cP Xr el22 sz3 rfl rfl om om fun dL l aQ cd => ?_)
  refine dT 7 rfl rfl rfl (Xu cd (fun i hi => absurd hi List.not_mem_nil) agg3 rfl rfl ?_)
  refine dV 8 rfl rfl rfl (fun _ => Zh fa99_1 rfl) ?_
  have cQ := ah.ch0 Z
  refine dT 9 rfl rfl rfl (Yo cQ.at_ (fun i hi => absurd hi List.not_mem_nil) agg3 rfl rfl ?_)
  refine dV 13 rfl rfl rfl (fun _ => Zf rfl) (dO 10 (Zk rfl rfl rfl ?_))
  have cR := ((bz.ch0 ag).ch ai (oS om)).ch0 Z
  have cS := ((bB.ch0 ag).ch ai (oS om)).ch0 Z
  have cT := ((bA.ch0 ag).ch ai (oS om)).ch0 Z
  refine Step.call (Zr (xs := [.tmp 37, .tmp 39, .tmp 44, .tmp 46]) fk59 rfl) (Zgn _ cR cT cS _ _ _ c.1 (Zkj om om om) (Qo f.2.1 aQ)) fun dM dN ce => ?_
  obtain ⟨rfl, V⟩ := ce
  have dP := V.size
  have E := E.trans V
  have cf := Zlt (v := l) (x := a.letter) c.1 c.2
  have eR := Zhe (v := l) (x := a.letter) (s := s) c.1 om
  have aR : Ch [] cM dN := ((Ch.refl _ _).trans V)
  refine ⟨aR, ?_⟩
  refine dO 11 (Zk rfl rfl rfl ?_)
  refine Step.call (Zr (xs := [.tmp 47]) fk58 rfl) (Zat _ om om) fun dQ cg aD => ?_
  obtain ⟨aD, aT, X⟩ := aD
  have dR := X.size
  have E := E.trans X
  obtain ⟨aj, ak, rfl, cU, al⟩ := aD.opn
  have bD : Ch [] cM cg := (aR.trans X)
  refine ⟨bD, ?_⟩
  refine dV 12 rfl rfl rfl (fun _ => Yz (by rw [el22]; rfl) rfl) ?_
  refine Zw (by kernel_rfl) ?_
  refine Zb (dI _ _ ?_)
  refine Yd ?_
  have dU := ((((ae.ch0 ag).ch ai (dS t hiov om)).ch0 Z).ch0 V).ch0 X
  have bc : Ol PStep.cs 103 4 cg (.slice Aov (psT gV gE aN node s i).length Cov) (psT gV gE aN node s i ++ psI a ((Yg (afS aN l a.letter 0 (Yg (Qp 1 s).toNat 30)).toNat 30).take 0)) := by
   have hx := dU
   exact hx.eq (by simp [psI])
  have dW := (cO.ch0 V).ch0 X
  have dX := (cP.ch0 V).ch0 X
  have dY := ((((bw.ch0 ag).ch ai (oS om)).ch0 Z).ch0 V).ch0 X
  have dZ := (cN.ch0 V).ch0 X
  have d0 := (cR.ch0 V).ch0 X
  have d1 := (cT.ch0 V).ch0 X
  have d2 := (cS.ch0 V).ch0 X
  have d3 := ((((aP.ch0 ag).ch ai (dS ad ba om)).ch0 Z).ch0 V).ch0 X
  have d4 := (cQ.ch0 V).ch0 X
  refine Xd (σ := Nat × Value) (fun ⟨j, pv⟩ => [(2, (.int .i64 node)), (3, (.int .i64 s)), (4, (.pointer (some ⟨bk, 0, none⟩))), (5, (.pointer (some ⟨bm, 0, none⟩))), (8, (.slice none 0 0)), (9, pv), (11, (.pointer (some ⟨af, 0, none⟩))), (31, (.slice z b.length A)), (32, (.int .i64 ((b.length : Nat) : Int))), (33, (.int .i64 ((i : Nat) : Int))), (34, (.bool (decide (((i : Nat) : Int) < ((b.length : Nat) : Int))))), (48, (.slice aj (Yg (afS aN l a.letter 0 (Yg (Qp 1 s).toNat 30)).toNat 30).length ak)), (49, (.int .i64 (((Yg (afS aN l a.letter 0 (Yg (Qp 1 s).toNat 30)).toNat 30).length : Nat) : Int))), (50, (.int .i64 ((j : Nat) : Int)))]) (fun ⟨j, pv⟩ wx => Ch [] w wx ∧ cg.heap.size ≤ wx.heap.size ∧ (j ≤ (Yg (afS aN l a.letter 0 (Yg (Qp 1 s).toNat 30)).toNat 30).length) ∧ Blk wx bk 36 [(.slice B gV.length C), (.slice D gE.length F)] ∧ Ls ics 1 wx LL_gV w.heap.size (.slice B gV.length C) gV ∧ Ls GEdge.cs 4 wx LL_gE w.heap.size (.slice D gE.length F) gE ∧ Blk wx bm 38 [(.int .i64 aS), (.slice G aA.length H), (.slice n saN.length o)] ∧ Ls bcs 1 wx LL_aA w.heap.size (.slice G aA.length H) aA ∧ Ls Sv.cs 1 wx LL_saN w.heap.size (.slice n saN.length o) saN ∧ Rd ics 1 wx LR_aN w.heap.size saN aN ∧ Ol Arc.cs 99 4 wx (.slice z b.length A) b ∧ Blk wx af 99 [(.int .i64 a.edge), (.bool a.back), (.int .i64 a.letter), (.int .i64 a.to_)] ∧ Ol ics 3 1 wx (.slice aj (Yg (afS aN l a.letter 0 (Yg (Qp 1 s).toNat 30)).toNat 30).length ak) (Yg (afS aN l a.letter 0 (Yg (Qp 1 s).toNat 30)).toNat 30) ∧ Ol PStep.cs 103 4 wx pv (psT gV gE aN node s i ++ psI a ((Yg (afS aN l a.letter 0 (Yg (Qp 1 s).toNat 30)).toNat 30).take j)) ∧ Lo bM.heap.size pv ∧ (∀ g ∈ bl pv, g ∉ bl (.slice z b.length A)) ∧ (∀ g ∈ bl pv, g ∉ bl (.slice aj (Yg (afS aN l a.letter 0 (Yg (Qp 1 s).toNat 30)).toNat 30).length ak)) ∧ (af ∉ bl pv)) (fun ⟨j, pv⟩ => (Yg (afS aN l a.letter 0 (Yg (Qp 1 s).toNat 30)).toNat 30).length - j) (0, (.slice Aov (psT gV gE aN node s i).length Cov)) (sC8 rfl rfl rfl rfl rfl rfl rfl rfl (sC4 rfl rfl rfl rfl (sC2 rfl rfl (Sub.nil _)))) ⟨E, (Nat.le_refl _), om, dW, dX, dY, dZ, d0, d1, d2, d3, d4, aD, bc, t, (fun g hm hg => by exact Q _ hm hg), (fun g hm hg => by have au := t _ hm; have bO := hiov _ hm; have b6 := aT _ hg; have b7 := al _ hg; omega), (fun hm => by have au := t _ hm; have bO := hiov _ hm; omega)⟩ ?_
  rintro ⟨j, pv⟩ d5 ⟨E, d6, hj, am, aU, aV, an, aW, aX, aY, aZ, U, a0, ao, h, m, u, y⟩
  have ci := E
  have cV := ci.size
  have cj := am.lt
  have ck := an.lt
  have cl := U.lt
  obtain ⟨Apv, Cpv, rfl, lpv, hipv⟩ := ao.opn
  refine Zg fun eS d7 => ?_
  refine Zc (Za rfl rfl (Xh rfl rfl) (Ze (Zb (d7 _ _ ?_))))
  refine Zg fun eT d8 => ?_
  refine Zz rfl (fun S => ?_) (fun S => ?_)
  ·have cm := S
   have S := Yp S
   refine Zu ?_
   refine Zb (d8 _ _ ?_)
   refine Zg fun eU d9 => ?_
   refine Yd ?_
   refine Zg fun eV eb => ?_
   refine Zc (Zx rfl rfl ?_)
   refine (Yc a0.ls Xr el22 sz3 rfl rfl rfl om fun ec aE bF cn => ?_)
   refine Za rfl rfl (Ya cn agg3 rfl rfl) (Za rfl rfl (Zd rfl) (Ze (Zb (eb _ _ (Zc (Za rfl rfl (Zf rfl) (Za rfl rfl (Zh fa99_0 rfl) (Za rfl rfl (Zdp 2 U.at_ agg97 sz97 rfl rfl) ?_))))))))
   refine Za rfl rfl (Zh fa99_2 rfl) (Za rfl rfl (Zl U.at_ agg3 rfl rfl) (Za rfl rfl (Zf rfl) (Za rfl rfl (Yk (parts := [(0, .tmp 56), (1, .tmp 58), (2, .tmp 59)]) (cells := [(.int .i64 a.edge), (.bool a.back), (.int .i64 a.to_), (.int .i64 aE)]) zr103 pl103 rfl rfl) (Zx rfl rfl ?_))))
   refine Zm (cs := PStep.cs) (parts := [(0, .tmp 60)]) (⟨0, false, 0, 0⟩ : PStep) [(⟨a.edge, a.back, a.to_, aE⟩ : PStep)] el32 sz103 zr103 PStep.len (by decide) rfl rfl rfl (by decide) (by decide) rfl fun ed eW bG cW Y => ?_
   have ee := Y.size
   have E := E.trans Y
   obtain ⟨cX, cY, rfl, cZ, co⟩ := bG.opn
   refine Zx rfl rfl ?_
   have ef := ao.ch0 Y
   refine Zy (cs := PStep.cs) el32 sz103 by103 zr103 rfl (by decide) PStep.one ef bG.ls rfl rfl (by have eg := Yj bU aN node s i; have eh := Zix a ((Yg (afS aN l a.letter 0 (Yg (Qp 1 s).toNat 30)).toNat 30).take j); have ei := Zau (afS aN l a.letter 0 (Yg (Qp 1 s).toNat 30)).toNat 30; simp only [List.length_append, List.length_singleton, List.length_take] at *; omega) (by have eg := Yj bU aN node s i; have eh := Zix a ((Yg (afS aN l a.letter 0 (Yg (Qp 1 s).toNat 30)).toNat 30).take j); have ei := Zau (afS aN l a.letter 0 (Yg (Qp 1 s).toNat 30)).toNat 30; simp only [List.length_append, List.length_singleton, List.length_take] at *; omega) h om fun ej ek bH bI ap aa => ?_
   have el := aa.size
   have E := E.step aa (fun i hi => .inl (by have au := h _ hi; omega))
   obtain ⟨a1, a2, rfl, c0, T⟩ := bH.opn
   refine Za rfl rfl (Zd rfl) (Ze (Zq (Zb (d9 _ _ (Zc (Za rfl rfl (Ye om rfl rfl) (Za rfl rfl (Zf rfl) (Ze ?_))))))))
   have bd : Ol PStep.cs 103 4 ek (.slice a1 ((psT gV gE aN node s i ++ psI a ((Yg (afS aN l a.letter 0 (Yg (Qp 1 s).toNat 30)).toNat 30).take j) ++ [(⟨a.edge, a.back, a.to_, aE⟩ : PStep)])).length a2) (psT gV gE aN node s i ++ psI a ((Yg (afS aN l a.letter 0 (Yg (Qp 1 s).toNat 30)).toNat 30).take (j + 1))) := by
    have hx := bH
    exact hx.eq (by rw [List.append_assoc, Zkb bF])
   have em := (am.ch0 Y).ch aa (fun hm => by have au := h _ hm; have bO := hipv _ hm; omega)
   have en := (aU.ch0 Y).ch aa (fun i hi => by have au := h _ hi; omega)
   have eo := (aV.ch0 Y).ch aa (fun i hi => by have au := h _ hi; omega)
   have ep := (an.ch0 Y).ch aa (fun hm => by have au := h _ hm; have bO := hipv _ hm; omega)
   have er := (aW.ch0 Y).ch aa (fun i hi => by have au := h _ hi; omega)
   have es := (aX.ch0 Y).ch aa (fun i hi => by have au := h _ hi; omega)
   have et := (aY.ch0 Y).ch aa (fun i hi => by have au := h _ hi; omega)
   have eu := (aZ.ch0 Y).ch aa (fun g hg hm => by exact m _ hm hg)
   have ew := (U.ch0 Y).ch aa (fun hm => by exact y (by first | exact hm | exact ex ▸ hm))
   have ey := (a0.ch0 Y).ch aa (fun g hg hm => by exact u _ hm hg)
   exact Zb (Exists.intro ((j + 1), (.slice a1 ((psT gV gE aN node s i ++ psI a ((Yg (afS aN l a.letter 0 (Yg (Qp 1 s).toNat 30)).toNat 30).take j) ++ [(⟨a.edge, a.back, a.to_, aE⟩ : PStep)])).length a2)) ⟨⟨E, om, om, em, en, eo, ep, er, es, et, eu, ew, ey, bd, (Lo.down bI om), (fun g hm hg => by rcases ap with ea | ea; (rw [ea] at hm; exact m _ hm hg); (have bJ := T _ hm; rw [ea] at hm; have c1 := List.mem_singleton.1 hm; have b6 := ad _ hg; have b7 := ba _ hg; omega)), (fun g hm hg => by rcases ap with ea | ea; (rw [ea] at hm; exact u _ hm hg); (have bJ := T _ hm; rw [ea] at hm; have c1 := List.mem_singleton.1 hm; have b6 := aT _ hg; have b7 := al _ hg; omega)), (fun hm => by rcases ap with ea | ea; (rw [ea] at hm; exact y (by first | exact hm | exact ex ▸ hm)); (have bJ := T _ hm; rw [ea] at hm; have c1 := List.mem_singleton.1 hm; omega))⟩, sC8 rfl rfl rfl rfl rfl rfl rfl rfl (sC4 rfl rfl rfl rfl (sC2 rfl rfl (Sub.nil _))), (by first | omega | (dsimp only; omega))⟩)
  have cm := S
  have S := Yq S
  refine Xc (Zt (Zt (Yx ?_)))
  refine Zq (Zb (dz _ _ (Zc (Za rfl rfl (Ye om rfl rfl) (Za rfl rfl (Zf rfl) (Ze ?_))))))
  have be : Ol PStep.cs 103 4 d5 (.slice Apv (psT gV gE aN node s i ++ psI a ((Yg (afS aN l a.letter 0 (Yg (Qp 1 s).toNat 30)).toNat 30).take j)).length Cpv) (psT gV gE aN node s (i + 1)) := by
   have hx := ao
   exact hx.eq (Zjj (by rw [cf]; rfl) om (Qb aQ) (by rw [← ay]; exact bC))
  exact Zb (Exists.intro ((i + 1), (.slice Apv (psT gV gE aN node s i ++ psI a ((Yg (afS aN l a.letter 0 (Yg (Qp 1 s).toNat 30)).toNat 30).take j)).length Cpv)) ⟨⟨E, om, om, am, aU, aV, an, aW, aX, aY, aZ, be, (Lo.down h om), (fun g hm hg => by exact m _ hm hg)⟩, sC8 rfl rfl rfl rfl rfl rfl rfl rfl (sC1 rfl (Sub.nil _)), (by first | omega | (dsimp only; omega))⟩)
 have cb := R
 have R := Yq R
 refine Xc (Zt (Zt (Yx ?_)))
 refine Zb (de _ _ ?_)
 refine Zg fun eX ez => ?_
 refine Zc (Za rfl rfl (Zf rfl) (Za rfl rfl (Zd rfl) (Ze (Zb (ez _ _ ?_)))))
 refine Yb ?_
 have bK : Ol PStep.cs 103 4 dv (.slice Aov (psT gV gE aN node s i).length Cov) (psR gV gE aS aA aN node s) := by
  have hx := ae
  first | exact hx.eq (Zew (fun q => f ⟨fun i x hi hx => Zhb hi hx q.2.2.1, q.1, q.2.1⟩)) | exact hx.eq (Zew (fun q => c ⟨q.2.1, q.2.2.2⟩)) | exact hx.eq (by rw [Zfa (by rw [← ay]; omega)]; exact Zht ⟨f.2.1, f.2.2, ax, c.2⟩)
 exact Zi [_] ⟨rfl, trivial⟩ ⟨bK, Lo.down t om, E⟩

/-- laws.eqBoolS -/
theorem Zed {w : World} {LL_a y : Nat} {n : Value} {a : List Bool} (g : Ls bcs 1 w LL_a y n a) {LL_b z : Nat} {o : Value} {b : List Bool} (h : Ls bcs 1 w LL_b z o b) :
 Ctr Try.prog 63 #[n, o] w (fun v w' => v = .bool (decide (a = b)) ∧ Ch [] w w') := by
 obtain ⟨p, q, r⟩ := g.val
 subst r
 have I := g.len
 have g := g.here (by decide)
 obtain ⟨s, t, u⟩ := h.val
 subst u
 have J := h.len
 have h := h.here (by decide)
 have E := Ch.refl [] w
 refine Yf (N := 26) (vs0 := [(.slice p a.length q), (.slice s b.length t)]) Try.func63 rfl rfl rfl ?_
 refine Zg fun K1 H1 => ?_
 refine Zc (Za rfl rfl (Zd rfl) (Ze (Zb (H1 _ _ ?_))))
 refine Zg fun K2 H2 => ?_
 refine Zg fun K3 H3 => ?_
 refine Zc (Za rfl rfl (Zf rfl) (Za rfl rfl (Yz (by rw [el26]; rfl) rfl) (Za rfl rfl (Zf rfl) (Za rfl rfl (Yz (by rw [el26]; rfl) rfl) (Za rfl rfl (Qu rfl rfl) (Ze (Zb (H3 _ _ ?_))))))))
 refine Zz rfl (fun d => ?_) (fun d => ?_)
 ·have K := d
  have d := Yq (Xv d)
  refine Zg fun K5 H5 => ?_
  refine Zc (Za rfl rfl (Zd rfl) (Ze (Zb (H5 _ _ ?_))))
  refine Yb (Zp ?_)
  exact Zi [_] ⟨rfl, trivial⟩ ⟨congrArg Value.bool (decide_eq_false (fun e => d (by rw [e]))).symm, E⟩
 have K := d
 have d := Yp (Xw d)
 refine Zu ?_
 refine Zb (H2 _ _ ?_)
 refine Zg fun K6 H6 => ?_
 refine Zg fun K7 H7 => ?_
 refine Zc (Za rfl rfl (Zd rfl) (Ze (Zb (H7 _ _ ?_))))
 refine Yd ?_
 refine Xd (σ := Nat) (fun (k : Nat) => [(0, (.slice p a.length q)), (1, (.slice s b.length t)), (5, (.int .i64 ((k : Nat) : Int)))]) (fun (k : Nat) wx => Ch [] w wx ∧ w.heap.size ≤ wx.heap.size ∧ (k ≤ a.length) ∧ (a.take k = b.take k)) (fun (k : Nat) => a.length - k) 0 (sC2 rfl rfl (sC1 rfl (Sub.nil _))) ⟨E, (Nat.le_refl _), om, rfl⟩ ?_
 rintro k R8 ⟨E, L, Z, F⟩
 have m := E
 have G := m.size
 refine Zg fun K9 H9 => ?_
 refine Zg fun aa M => ?_
 refine Zc (Za rfl rfl (Zf rfl) (Za rfl rfl (Zf rfl) (Za rfl rfl (Yz (by rw [el26]; rfl) rfl) (Za rfl rfl (Xh rfl rfl) (Ze (Zb (M _ _ ?_)))))))
 refine Zz rfl (fun f => ?_) (fun f => ?_)
 ·have A := f
  have f := Yp f
  refine Zu ?_
  refine Zb (H9 _ _ ?_)
  refine Zg fun ab H => ?_
  refine Yd ?_
  refine Zg fun ac O => ?_
  refine Xl [] 9 mixed rfl fun ad x => ?_
  have P := x.size
  have E := E.trans x
  refine dV 0 rfl rfl rfl (fun _ => Zf rfl) (dV 1 rfl rfl rfl (fun _ => Zf rfl) ?_)
  have Q := (g.ch0 m).ch0 x
  refine dT 2 rfl rfl rfl (Xt Q Zcc el26 sz4 rfl rfl rfl om fun R S j B => ?_)
  refine dT 3 rfl rfl rfl (Xu B (fun i hi => absurd hi List.not_mem_nil) agg4 rfl rfl ?_)
  refine dV 4 rfl rfl rfl (fun _ => Zf rfl) (dV 5 rfl rfl rfl (fun _ => Zf rfl) ?_)
  have T := (h.ch0 m).ch0 x
  refine dT 6 rfl rfl rfl (Xt T Zcc el26 sz4 rfl rfl rfl om fun U V l C => ?_)
  refine dT 7 rfl rfl rfl (Xu C (fun i hi => absurd hi List.not_mem_nil) agg4 rfl rfl ?_)
  refine dV 8 rfl rfl rfl (fun _ => Zip un4 rfl rfl) ?_
  refine Zw (by kernel_rfl) ?_
  refine Zb (O _ _ ?_)
  refine Zz rfl (fun c => ?_) (fun c => ?_)
  ·have D := c
   have c := bf_e (Xv c)
   refine Zg fun ae X => ?_
   refine Zc (Za rfl rfl (Zd rfl) (Ze (Zb (X _ _ ?_))))
   refine Yb (Yw (Zp (Zp (Yw (Zp ?_)))))
   clear H6 H
   exact Zi [_] ⟨rfl, trivial⟩ ⟨congrArg Value.bool (decide_eq_false (Zbn j l c)).symm, E⟩
  have D := c
  have c := bt_e (Xw c)
  refine Zu ?_
  refine Zq (Zb (H _ _ (Zc (Za rfl rfl (Zf rfl) (Za rfl rfl (Ye om rfl rfl) (Za rfl rfl (Zd rfl) (Ze ?_)))))))
  exact Zb (Exists.intro (k + 1) ⟨⟨E, om, om, (Zaf F j l c)⟩, sC2 rfl rfl (sC1 rfl (Sub.nil _)), (by first | omega | (dsimp only; omega))⟩)
 have A := f
 have f := Yq f
 refine Xc (Zt (Zt (Yx ?_)))
 refine Zb (H6 _ _ ?_)
 refine Zg fun af Y => ?_
 refine Zc (Za rfl rfl (Zd rfl) (Ze (Zb (Y _ _ ?_))))
 refine Yb ?_
 exact Zi [_] ⟨rfl, trivial⟩ ⟨congrArg Value.bool (decide_eq_true (Zaw F om om)).symm, E⟩

/-- laws.eqIntS -/
theorem Zcp {w : World} {LL_a y : Nat} {n : Value} {a : List Int} (g : Ls ics 1 w LL_a y n a) {LL_b z : Nat} {o : Value} {b : List Int} (h : Ls ics 1 w LL_b z o b) :
 Ctr Try.prog 61 #[n, o] w (fun v w' => v = .bool (decide (a = b)) ∧ Ch [] w w') := by
 obtain ⟨p, q, r⟩ := g.val
 subst r
 have I := g.len
 have g := g.here (by decide)
 obtain ⟨s, t, u⟩ := h.val
 subst u
 have J := h.len
 have h := h.here (by decide)
 have E := Ch.refl [] w
 refine Yf (N := 26) (vs0 := [(.slice p a.length q), (.slice s b.length t)]) Try.func61 rfl rfl rfl ?_
 refine Zg fun K1 H1 => ?_
 refine Zc (Za rfl rfl (Zd rfl) (Ze (Zb (H1 _ _ ?_))))
 refine Zg fun K2 H2 => ?_
 refine Zg fun K3 H3 => ?_
 refine Zc (Za rfl rfl (Zf rfl) (Za rfl rfl (Yz (by rw [el22]; rfl) rfl) (Za rfl rfl (Zf rfl) (Za rfl rfl (Yz (by rw [el22]; rfl) rfl) (Za rfl rfl (Qu rfl rfl) (Ze (Zb (H3 _ _ ?_))))))))
 refine Zz rfl (fun d => ?_) (fun d => ?_)
 ·have K := d
  have d := Yq (Xv d)
  refine Zg fun K5 H5 => ?_
  refine Zc (Za rfl rfl (Zd rfl) (Ze (Zb (H5 _ _ ?_))))
  refine Yb (Zp ?_)
  exact Zi [_] ⟨rfl, trivial⟩ ⟨congrArg Value.bool (decide_eq_false (fun e => d (by rw [e]))).symm, E⟩
 have K := d
 have d := Yp (Xw d)
 refine Zu ?_
 refine Zb (H2 _ _ ?_)
 refine Zg fun K6 H6 => ?_
 refine Zg fun K7 H7 => ?_
 refine Zc (Za rfl rfl (Zd rfl) (Ze (Zb (H7 _ _ ?_))))
 refine Yd ?_
 refine Xd (σ := Nat) (fun (k : Nat) => [(0, (.slice p a.length q)), (1, (.slice s b.length t)), (5, (.int .i64 ((k : Nat) : Int)))]) (fun (k : Nat) wx => Ch [] w wx ∧ w.heap.size ≤ wx.heap.size ∧ (k ≤ a.length) ∧ (a.take k = b.take k)) (fun (k : Nat) => a.length - k) 0 (sC2 rfl rfl (sC1 rfl (Sub.nil _))) ⟨E, (Nat.le_refl _), om, rfl⟩ ?_
 rintro k R8 ⟨E, L, Z, F⟩
 have m := E
 have G := m.size
 refine Zg fun K9 H9 => ?_
 refine Zg fun aa M => ?_
 refine Zc (Za rfl rfl (Zf rfl) (Za rfl rfl (Zf rfl) (Za rfl rfl (Yz (by rw [el22]; rfl) rfl) (Za rfl rfl (Xh rfl rfl) (Ze (Zb (M _ _ ?_)))))))
 refine Zz rfl (fun f => ?_) (fun f => ?_)
 ·have A := f
  have f := Yp f
  refine Zu ?_
  refine Zb (H9 _ _ ?_)
  refine Zg fun ab H => ?_
  refine Yd ?_
  refine Zg fun ac O => ?_
  refine Xl [] 9 mixed rfl fun ad x => ?_
  have P := x.size
  have E := E.trans x
  refine dV 0 rfl rfl rfl (fun _ => Zf rfl) (dV 1 rfl rfl rfl (fun _ => Zf rfl) ?_)
  have Q := (g.ch0 m).ch0 x
  refine dT 2 rfl rfl rfl (Xt Q Xr el22 sz3 rfl rfl rfl om fun R S j B => ?_)
  refine dT 3 rfl rfl rfl (Xu B (fun i hi => absurd hi List.not_mem_nil) agg3 rfl rfl ?_)
  refine dV 4 rfl rfl rfl (fun _ => Zf rfl) (dV 5 rfl rfl rfl (fun _ => Zf rfl) ?_)
  have T := (h.ch0 m).ch0 x
  refine dT 6 rfl rfl rfl (Xt T Xr el22 sz3 rfl rfl rfl om fun U V l C => ?_)
  refine dT 7 rfl rfl rfl (Xu C (fun i hi => absurd hi List.not_mem_nil) agg3 rfl rfl ?_)
  refine dV 8 rfl rfl rfl (fun _ => Qu rfl rfl) ?_
  refine Zw (by kernel_rfl) ?_
  refine Zb (O _ _ ?_)
  refine Zz rfl (fun c => ?_) (fun c => ?_)
  ·have D := c
   have c := Yq (Xv c)
   refine Zg fun ae X => ?_
   refine Zc (Za rfl rfl (Zd rfl) (Ze (Zb (X _ _ ?_))))
   refine Yb (Yw (Zp (Zp (Yw (Zp ?_)))))
   clear H6 H
   exact Zi [_] ⟨rfl, trivial⟩ ⟨congrArg Value.bool (decide_eq_false (Zbn j l c)).symm, E⟩
  have D := c
  have c := Yp (Xw c)
  refine Zu ?_
  refine Zq (Zb (H _ _ (Zc (Za rfl rfl (Zf rfl) (Za rfl rfl (Ye om rfl rfl) (Za rfl rfl (Zd rfl) (Ze ?_)))))))
  exact Zb (Exists.intro (k + 1) ⟨⟨E, om, om, (Zaf F j l c)⟩, sC2 rfl rfl (sC1 rfl (Sub.nil _)), (by first | omega | (dsimp only; omega))⟩)
 have A := f
 have f := Yq f
 refine Xc (Zt (Zt (Yx ?_)))
 refine Zb (H6 _ _ ?_)
 refine Zg fun af Y => ?_
 refine Zc (Za rfl rfl (Zd rfl) (Ze (Zb (Y _ _ ?_))))
 refine Yb ?_
 exact Zi [_] ⟨rfl, trivial⟩ ⟨congrArg Value.bool (decide_eq_true (Zaw F om om)).symm, E⟩

/-- laws.eqIntSS -/
theorem Zee {w : World} {LL_sa H : Nat} {t : Value} {sa : List Sv} (d : Ls Sv.cs 1 w LL_sa H t sa) {LR_a BB_a : Nat} {a : List (List Int)} (m : Rd ics 1 w LR_a BB_a sa a) {LL_sb I : Nat} {u : Value} {sb : List Sv} (f : Ls Sv.cs 1 w LL_sb I u sb) {LR_b BB_b : Nat} {b : List (List Int)} (n : Rd ics 1 w LR_b BB_b sb b) :
 Ctr Try.prog 64 #[t, u] w (fun v w' => v = .bool (decide (a = b)) ∧ Ch [] w w') := by
 obtain ⟨x, y, B⟩ := d.val
 subst B
 have ad := d.len
 have d := d.here (by decide)
 have m := m.here (by decide)
 have J := m.1
 obtain ⟨z, A, C⟩ := f.val
 subst C
 have ae := f.len
 have f := f.here (by decide)
 have n := n.here (by decide)
 have K := n.1
 have E := Ch.refl [] w
 refine Yf (N := 27) (vs0 := [(.slice x sa.length y), (.slice z sb.length A)]) Try.func64 rfl rfl rfl ?_
 refine Zg fun K1 H1 => ?_
 refine Zc (Za rfl rfl (Zd rfl) (Ze (Zb (H1 _ _ ?_))))
 refine Zg fun K2 H2 => ?_
 refine Zg fun K3 H3 => ?_
 refine Zc (Za rfl rfl (Zf rfl) (Za rfl rfl (Yz (by rw [el27]; rfl) rfl) (Za rfl rfl (Zf rfl) (Za rfl rfl (Yz (by rw [el27]; rfl) rfl) (Za rfl rfl (Qu rfl rfl) (Ze (Zb (H3 _ _ ?_))))))))
 refine Zz rfl (fun g => ?_) (fun g => ?_)
 ·have ai := g
  have g := Yq (Xv g)
  refine Zg fun K5 H5 => ?_
  refine Zc (Za rfl rfl (Zd rfl) (Ze (Zb (H5 _ _ ?_))))
  refine Yb (Zp ?_)
  exact Zi [_] ⟨rfl, trivial⟩ ⟨congrArg Value.bool (decide_eq_false (fun e => g (by rw [J, K, e]))).symm, E⟩
 have ai := g
 have g := Yp (Xw g)
 refine Zu ?_
 refine Zb (H2 _ _ ?_)
 refine Zg fun K6 H6 => ?_
 refine Zg fun K7 H7 => ?_
 refine Zc (Za rfl rfl (Zd rfl) (Ze (Zb (H7 _ _ ?_))))
 refine Yd ?_
 refine Xd (σ := Nat) (fun (k : Nat) => [(0, (.slice x sa.length y)), (1, (.slice z sb.length A)), (5, (.int .i64 ((k : Nat) : Int)))]) (fun (k : Nat) wx => Ch [] w wx ∧ w.heap.size ≤ wx.heap.size ∧ (k ≤ a.length) ∧ (a.take k = b.take k)) (fun (k : Nat) => a.length - k) 0 (sC2 rfl rfl (sC1 rfl (Sub.nil _))) ⟨E, (Nat.le_refl _), om, rfl⟩ ?_
 rintro k R8 ⟨E, aj, aD, af⟩
 have o := E
 have ag := o.size
 refine Zg fun K9 H9 => ?_
 refine Zg fun aE ak => ?_
 refine Zc (Za rfl rfl (Zf rfl) (Za rfl rfl (Zf rfl) (Za rfl rfl (Yz (by rw [el27]; rfl) rfl) (Za rfl rfl (Xh rfl rfl) (Ze (Zb (ak _ _ ?_)))))))
 refine Zz rfl (fun l => ?_) (fun l => ?_)
 ·have U := l
  have l := Yp l
  refine Zu ?_
  refine Zb (H9 _ _ ?_)
  refine Zg fun aF ah => ?_
  refine Yd ?_
  refine Zg fun aG al => ?_
  refine Xl [] 10 mixed rfl fun L G => ?_
  have am := G.size
  have E := E.trans G
  refine dV 0 rfl rfl rfl (fun _ => Zf rfl) (dV 1 rfl rfl rfl (fun _ => Zf rfl) ?_)
  have an := (d.ch0 o).ch0 G
  have ao := (m.ch0 o).ch0 G
  refine dT 2 rfl rfl rfl (Xt an Sv.len el27 sz22 rfl rfl rfl om fun V X M D => ?_)
  obtain ⟨p, q, h⟩ := ao.get M
  obtain ⟨O, ap, P⟩ := X
  obtain rfl := h.eqn
  have aq := h.len
  replace h : Ls ics 1 L LR_a w.heap.size (.slice O p.length P) p := h
  replace D : At L LL_sa w.heap.size V ([(.slice O p.length P)]) := D
  refine dT 3 rfl rfl rfl (Xu D (fun i hi => absurd hi List.not_mem_nil) agg22 rfl rfl ?_)
  refine dV 4 rfl rfl rfl (fun _ => Zf rfl) (dV 5 rfl rfl rfl (fun _ => Zf rfl) ?_)
  have au := (f.ch0 o).ch0 G
  have av := (n.ch0 o).ch0 G
  refine dT 6 rfl rfl rfl (Xt au Sv.len el27 sz22 rfl rfl rfl om fun Y Z Q F => ?_)
  obtain ⟨r, s, j⟩ := av.get Q
  obtain ⟨R, aw, S⟩ := Z
  obtain rfl := j.eqn
  have ax := j.len
  replace j : Ls ics 1 L LR_b w.heap.size (.slice R r.length S) r := j
  replace F : At L LL_sb w.heap.size Y ([(.slice R r.length S)]) := F
  refine dT 7 rfl rfl rfl (Xu F (fun i hi => absurd hi List.not_mem_nil) agg22 rfl rfl ?_)
  refine dO 8 (Zk rfl rfl rfl ?_)
  refine Step.call (Zr (xs := [.tmp 20, .tmp 24]) fk61 rfl) (Zcp h j ) fun ay az aa => ?_
  obtain ⟨rfl, ab⟩ := aa
  have aA := ab.size
  have E := E.trans ab
  have T : Ch [] L az := ((Ch.refl _ _).trans ab)
  refine ⟨T, ?_⟩
  refine dV 9 rfl rfl rfl (fun _ => Qj rfl) ?_
  refine Zw (by kernel_rfl) ?_
  refine Zb (al _ _ ?_)
  refine Zz rfl (fun c => ?_) (fun c => ?_)
  ·have ac := c
   have c := Yq (Xv c)
   refine Zg fun aH aB => ?_
   refine Zc (Za rfl rfl (Zd rfl) (Ze (Zb (aB _ _ ?_))))
   refine Yb (Yw (Zp (Zp (Yw (Zp ?_)))))
   clear H6 ah
   exact Zi [_] ⟨rfl, trivial⟩ ⟨congrArg Value.bool (decide_eq_false (Zbn q s c)).symm, E⟩
  have ac := c
  have c := Yp (Xw c)
  refine Zu ?_
  refine Zq (Zb (ah _ _ (Zc (Za rfl rfl (Zf rfl) (Za rfl rfl (Ye om rfl rfl) (Za rfl rfl (Zd rfl) (Ze ?_)))))))
  exact Zb (Exists.intro (k + 1) ⟨⟨E, om, om, (Zaf af q s c)⟩, sC2 rfl rfl (sC1 rfl (Sub.nil _)), (by first | omega | (dsimp only; omega))⟩)
 have U := l
 have l := Yq l
 refine Xc (Zt (Zt (Yx ?_)))
 refine Zb (H6 _ _ ?_)
 refine Zg fun aI aC => ?_
 refine Zc (Za rfl rfl (Zd rfl) (Ze (Zb (aC _ _ ?_))))
 refine Yb ?_
 exact Zi [_] ⟨rfl, trivial⟩ ⟨congrArg Value.bool (decide_eq_true (Zaw af om om)).symm, E⟩

/-- laws.eqAutomaton -/
theorem Zct {w : World} (aS : Int) {LL_aA G : Nat} {q : Value} {aA : List Bool} (e : Ls bcs 1 w LL_aA G q aA) {LL_saN z : Nat} {i : Value} {saN : List Sv} (a : Ls Sv.cs 1 w LL_saN z i saN) {LR_aN BB_aN : Nat} {aN : List (List Int)} (c : Rd ics 1 w LR_aN BB_aN saN aN) (bS : Int) {LL_bA H : Nat} {r : Value} {bA : List Bool} (f : Ls bcs 1 w LL_bA H r bA) {LL_sbN A : Nat} {j : Value} {sbN : List Sv} (b : Ls Sv.cs 1 w LL_sbN A j sbN) {LR_bN BB_bN : Nat} {bN : List (List Int)} (d : Rd ics 1 w LR_bN BB_bN sbN bN) :
 Ctr Try.prog 14 #[(.agg #[(.int .i64 aS), q, i]), (.agg #[(.int .i64 bS), r, j])] w (fun v w' => v = .bool (decide (aS = bS ∧ aA = bA ∧ aN = bN)) ∧ Ch [] w w') := by
 obtain ⟨s, t, B⟩ := e.val
 subst B
 have S := e.len
 have e := e.here (by decide)
 obtain ⟨k, l, o⟩ := a.val
 subst o
 have J := a.len
 have a := a.here (by decide)
 have c := c.here (by decide)
 have K := c.1
 obtain ⟨u, x, C⟩ := f.val
 subst C
 have T := f.len
 have f := f.here (by decide)
 obtain ⟨m, n, p⟩ := b.val
 subst p
 have L := b.len
 have b := b.here (by decide)
 have d := d.here (by decide)
 have M := d.1
 have E := Ch.refl [] w
 refine Yf (N := 22) (vs0 := [(.agg #[(.int .i64 aS), (.slice s aA.length t), (.slice k saN.length l)]), (.agg #[(.int .i64 bS), (.slice u bA.length x), (.slice m sbN.length n)])]) Try.func14 rfl rfl rfl ?_
 refine Zg fun K1 H1 => ?_
 refine Zc (Zx rfl rfl ?_)
 refine Xj rfl fun V W2 I C2 au => ?_
 have av := C2.size
 have E := E.trans C2
 have aw := I.lt
 replace I : Blk W2 V 38 [(.int .i64 aS), (.slice s aA.length t), (.slice k saN.length l)] := I
 refine Zx rfl rfl ?_
 refine Xj rfl fun X W3 F C3 ax => ?_
 have ay := C3.size
 have E := E.trans C3
 have az := F.lt
 replace F : Blk W3 X 38 [(.int .i64 bS), (.slice u bA.length x), (.slice m sbN.length n)] := F
 refine Za rfl rfl (Zd rfl) (Ze (Zb (H1 _ _ ?_)))
 refine Zg fun K4 H4 => ?_
 refine Zg fun K5 H5 => ?_
 refine Zc (Za rfl rfl (Zh fa38_0 rfl) ?_)
 have F6 := I.ch0 C3
 refine Za rfl rfl (Zl F6.at_ agg3 rfl rfl) (Za rfl rfl (Zh fa38_0 rfl) (Za rfl rfl (Zl F.at_ agg3 rfl rfl) (Za rfl rfl (Qu rfl rfl) (Ze (Zb (H5 _ _ ?_))))))
 refine Zz rfl (fun D => ?_) (fun D => ?_)
 ·have Y := D
  have D := Yq (Xv D)
  refine Zg fun K8 H8 => ?_
  refine Zc (Za rfl rfl (Zd rfl) (Ze (Zb (H8 _ _ ?_))))
  refine Yb (Zp ?_)
  exact Zi [_] ⟨rfl, trivial⟩ ⟨congrArg Value.bool (by simp_all), E⟩
 have Y := D
 have D := Yp (Xw D)
 refine Zu ?_
 refine Zb (H4 _ _ ?_)
 refine Zg fun K9 H9 => ?_
 refine Zg fun aB Z => ?_
 refine Zc (Za rfl rfl (Zh fa38_1 rfl) (Za rfl rfl (Zl F6.at_ agg26 rfl rfl) (Za rfl rfl (Zh fa38_1 rfl) (Za rfl rfl (Zl F.at_ agg26 rfl rfl) (Zx rfl rfl ?_)))))
 have aa := (e.ch0 C2).ch0 C3
 have ab := (f.ch0 C2).ch0 C3
 refine Step.call (Zr (xs := [.tmp 11, .tmp 13]) fk63 rfl) (Zed aa ab ) fun ac aC O => ?_
 obtain ⟨rfl, y⟩ := O
 have ad := y.size
 have E := E.trans y
 refine Za rfl rfl (Qj rfl) (Ze (Zb (Z _ _ ?_)))
 refine Zz rfl (fun g => ?_) (fun g => ?_)
 ·have P := g
  have g := Yq (Xv g)
  refine Zg fun aD ae => ?_
  refine Zc (Za rfl rfl (Zd rfl) (Ze (Zb (ae _ _ ?_))))
  refine Yb (Zp ?_)
  exact Zi [_] ⟨rfl, trivial⟩ ⟨congrArg Value.bool (by simp_all), E⟩
 have P := g
 have g := Yp (Xw g)
 refine Zu ?_
 refine Zb (H9 _ _ ?_)
 refine Zg fun aE af => ?_
 refine Zg fun aF ag => ?_
 refine Zc (Za rfl rfl (Zh fa38_2 rfl) ?_)
 have ah := F6.ch0 y
 refine Za rfl rfl (Zl ah.at_ agg27 rfl rfl) (Za rfl rfl (Zh fa38_2 rfl) ?_)
 have ai := F.ch0 y
 refine Za rfl rfl (Zl ai.at_ agg27 rfl rfl) (Zx rfl rfl ?_)
 have aj := ((c.ch0 C2).ch0 C3).ch0 y
 have ak := ((a.ch0 C2).ch0 C3).ch0 y
 have al := ((d.ch0 C2).ch0 C3).ch0 y
 have am := ((b.ch0 C2).ch0 C3).ch0 y
 refine Step.call (Zr (xs := [.tmp 17, .tmp 19]) fk64 rfl) (Zee ak aj am al ) fun an aG Q => ?_
 obtain ⟨rfl, U⟩ := Q
 have ao := U.size
 have E := E.trans U
 refine Za rfl rfl (Qj rfl) (Ze (Zb (ag _ _ ?_)))
 refine Zz rfl (fun h => ?_) (fun h => ?_)
 ·have R := h
  have h := Yq (Xv h)
  refine Zg fun aH ap => ?_
  refine Zc (Za rfl rfl (Zd rfl) (Ze (Zb (ap _ _ ?_))))
  refine Yb (Zp ?_)
  exact Zi [_] ⟨rfl, trivial⟩ ⟨congrArg Value.bool (by simp_all), E⟩
 have R := h
 have h := Yp (Xw h)
 refine Zu ?_
 refine Zb (af _ _ ?_)
 refine Zg fun aI aq => ?_
 refine Zc (Za rfl rfl (Zd rfl) (Ze (Zb (aq _ _ ?_))))
 refine Yb ?_
 exact Zi [_] ⟨rfl, trivial⟩ ⟨congrArg Value.bool (by simp_all), E⟩

/-- laws.eqEdge -/
theorem Zfn {w : World} (a : GEdge) (b : GEdge) :
 Ctr Try.prog 108 #[(.agg #[(.int .i64 a.id), (.int .i64 a.f), (.int .i64 a.t), (.int .i64 a.label)]), (.agg #[(.int .i64 b.id), (.int .i64 b.f), (.int .i64 b.t), (.int .i64 b.label)])] w (fun v w' => v = .bool (decide (a = b)) ∧ Ch [] w w') := by
 have E := Ch.refl [] w
 refine Yf (N := 25) (vs0 := [(.agg #[(.int .i64 a.id), (.int .i64 a.f), (.int .i64 a.t), (.int .i64 a.label)]), (.agg #[(.int .i64 b.id), (.int .i64 b.f), (.int .i64 b.t), (.int .i64 b.label)])]) Try.func108 rfl rfl rfl ?_
 refine Zg fun K1 H1 => ?_
 refine Zc (Zx rfl rfl ?_)
 refine Xj rfl fun n W2 j C2 C => ?_
 have D := C2.size
 have E := E.trans C2
 have F := j.lt
 replace j : Blk W2 n 129 [(.int .i64 a.id), (.int .i64 a.f), (.int .i64 a.t), (.int .i64 a.label)] := j
 refine Zx rfl rfl ?_
 refine Xj rfl fun o W3 i C3 G => ?_
 have H := C3.size
 have E := E.trans C3
 have I := i.lt
 replace i : Blk W3 o 129 [(.int .i64 b.id), (.int .i64 b.f), (.int .i64 b.t), (.int .i64 b.label)] := i
 refine Za rfl rfl (Zd rfl) (Ze (Zb (H1 _ _ ?_)))
 refine Zg fun K4 H4 => ?_
 refine Zg fun K5 H5 => ?_
 refine Zc (Za rfl rfl (Zh fa129_0 rfl) ?_)
 have F6 := j.ch0 C3
 refine Za rfl rfl (Zl F6.at_ agg3 rfl rfl) (Za rfl rfl (Zh fa129_0 rfl) (Za rfl rfl (Zl i.at_ agg3 rfl rfl) (Za rfl rfl (Qu rfl rfl) (Ze (Zb (H5 _ _ ?_))))))
 refine Zz rfl (fun h => ?_) (fun h => ?_)
 ·have p := h
  have h := Yq (Xv h)
  refine Zg fun K8 H8 => ?_
  refine Zc (Za rfl rfl (Zd rfl) (Ze (Zb (H8 _ _ ?_))))
  refine Yb (Zp ?_)
  exact Zi [_] ⟨rfl, trivial⟩ ⟨congrArg Value.bool (decide_eq_false (fun e => h (by rw [e]))).symm, E⟩
 have p := h
 have h := Yp (Xw h)
 refine Zu ?_
 refine Zb (H4 _ _ ?_)
 refine Zg fun K9 H9 => ?_
 refine Zg fun J q => ?_
 refine Zc (Za rfl rfl (Zh fa129_1 rfl) (Za rfl rfl (Zl F6.at_ agg3 rfl rfl) (Za rfl rfl (Zh fa129_1 rfl) (Za rfl rfl (Zl i.at_ agg3 rfl rfl) (Za rfl rfl (Qu rfl rfl) (Ze (Zb (q _ _ ?_))))))))
 refine Zz rfl (fun c => ?_) (fun c => ?_)
 ·have k := c
  have c := Yq (Xv c)
  refine Zg fun K r => ?_
  refine Zc (Za rfl rfl (Zd rfl) (Ze (Zb (r _ _ ?_))))
  refine Yb (Zp ?_)
  exact Zi [_] ⟨rfl, trivial⟩ ⟨congrArg Value.bool (decide_eq_false (fun e => c (by rw [e]))).symm, E⟩
 have k := c
 have c := Yp (Xw c)
 refine Zu ?_
 refine Zb (H9 _ _ ?_)
 refine Zg fun L s => ?_
 refine Zg fun M u => ?_
 refine Zc (Za rfl rfl (Zh fa129_2 rfl) (Za rfl rfl (Zl F6.at_ agg3 rfl rfl) (Za rfl rfl (Zh fa129_2 rfl) (Za rfl rfl (Zl i.at_ agg3 rfl rfl) (Za rfl rfl (Qu rfl rfl) (Ze (Zb (u _ _ ?_))))))))
 refine Zz rfl (fun d => ?_) (fun d => ?_)
 ·have l := d
  have d := Yq (Xv d)
  refine Zg fun O x => ?_
  refine Zc (Za rfl rfl (Zd rfl) (Ze (Zb (x _ _ ?_))))
  refine Yb (Zp ?_)
  exact Zi [_] ⟨rfl, trivial⟩ ⟨congrArg Value.bool (decide_eq_false (fun e => d (by rw [e]))).symm, E⟩
 have l := d
 have d := Yp (Xw d)
 refine Zu ?_
 refine Zb (s _ _ ?_)
 refine Zg fun P y => ?_
 refine Zg fun Q z => ?_
 refine Zc (Za rfl rfl (Zh fa129_3 rfl) (Za rfl rfl (Zl F6.at_ agg3 rfl rfl) (Za rfl rfl (Zh fa129_3 rfl) (Za rfl rfl (Zl i.at_ agg3 rfl rfl) (Za rfl rfl (Qu rfl rfl) (Ze (Zb (z _ _ ?_))))))))
 refine Zz rfl (fun g => ?_) (fun g => ?_)
 ·have m := g
  have g := Yq (Xv g)
  refine Zg fun R A => ?_
  refine Zc (Za rfl rfl (Zd rfl) (Ze (Zb (A _ _ ?_))))
  refine Yb (Zp ?_)
  exact Zi [_] ⟨rfl, trivial⟩ ⟨congrArg Value.bool (decide_eq_false (fun e => g (by rw [e]))).symm, E⟩
 have m := g
 have g := Yp (Xw g)
 refine Zu ?_
 refine Zb (y _ _ ?_)
 refine Zg fun S B => ?_
 refine Zc (Za rfl rfl (Zd rfl) (Ze (Zb (B _ _ ?_))))
 refine Yb ?_
 exact Zi [_] ⟨rfl, trivial⟩ ⟨congrArg Value.bool (decide_eq_true (GEdge.inj (by rw [h, c, d, g]))).symm, E⟩

/-- laws.eqEdgeS -/
theorem Zeq {w : World} {LL_a z : Nat} {n : Value} {a : List GEdge} (g : Ls GEdge.cs 4 w LL_a z n a) {LL_b A : Nat} {o : Value} {b : List GEdge} (h : Ls GEdge.cs 4 w LL_b A o b) :
 Ctr Try.prog 62 #[n, o] w (fun v w' => v = .bool (decide (a = b)) ∧ Ch [] w w') := by
 obtain ⟨p, q, r⟩ := g.val
 subst r
 have O := g.len
 have g := g.here (by decide)
 obtain ⟨s, t, u⟩ := h.val
 subst u
 have P := h.len
 have h := h.here (by decide)
 have E := Ch.refl [] w
 refine Yf (N := 27) (vs0 := [(.slice p a.length q), (.slice s b.length t)]) Try.func62 rfl rfl rfl ?_
 refine Zg fun K1 H1 => ?_
 refine Zc (Za rfl rfl (Zd rfl) (Ze (Zb (H1 _ _ ?_))))
 refine Zg fun K2 H2 => ?_
 refine Zg fun K3 H3 => ?_
 refine Zc (Za rfl rfl (Zf rfl) (Za rfl rfl (Yz (by rw [el34]; rfl) rfl) (Za rfl rfl (Zf rfl) (Za rfl rfl (Yz (by rw [el34]; rfl) rfl) (Za rfl rfl (Qu rfl rfl) (Ze (Zb (H3 _ _ ?_))))))))
 refine Zz rfl (fun d => ?_) (fun d => ?_)
 ·have Q := d
  have d := Yq (Xv d)
  refine Zg fun K5 H5 => ?_
  refine Zc (Za rfl rfl (Zd rfl) (Ze (Zb (H5 _ _ ?_))))
  refine Yb (Zp ?_)
  exact Zi [_] ⟨rfl, trivial⟩ ⟨congrArg Value.bool (decide_eq_false (fun e => d (by rw [e]))).symm, E⟩
 have Q := d
 have d := Yp (Xw d)
 refine Zu ?_
 refine Zb (H2 _ _ ?_)
 refine Zg fun K6 H6 => ?_
 refine Zg fun K7 H7 => ?_
 refine Zc (Za rfl rfl (Zd rfl) (Ze (Zb (H7 _ _ ?_))))
 refine Yd ?_
 refine Xd (σ := Nat) (fun (k : Nat) => [(0, (.slice p a.length q)), (1, (.slice s b.length t)), (5, (.int .i64 ((k : Nat) : Int)))]) (fun (k : Nat) wx => Ch [] w wx ∧ w.heap.size ≤ wx.heap.size ∧ (k ≤ a.length) ∧ (a.take k = b.take k)) (fun (k : Nat) => a.length - k) 0 (sC2 rfl rfl (sC1 rfl (Sub.nil _))) ⟨E, (Nat.le_refl _), om, rfl⟩ ?_
 rintro k R8 ⟨E, R, ag, K⟩
 have m := E
 have L := m.size
 refine Zg fun K9 H9 => ?_
 refine Zg fun ah S => ?_
 refine Zc (Za rfl rfl (Zf rfl) (Za rfl rfl (Zf rfl) (Za rfl rfl (Yz (by rw [el34]; rfl) rfl) (Za rfl rfl (Xh rfl rfl) (Ze (Zb (S _ _ ?_)))))))
 refine Zz rfl (fun f => ?_) (fun f => ?_)
 ·have B := f
  have f := Yp f
  refine Zu ?_
  refine Zb (H9 _ _ ?_)
  refine Zg fun ai M => ?_
  refine Yd ?_
  refine Zg fun aj T => ?_
  refine Xl [] 10 mixed rfl fun U y => ?_
  have V := y.size
  have E := E.trans y
  refine dV 0 rfl rfl rfl (fun _ => Zf rfl) (dV 1 rfl rfl rfl (fun _ => Zf rfl) ?_)
  have X := (g.ch0 m).ch0 y
  refine dT 2 rfl rfl rfl (Xt X GEdge.len el34 sz129 rfl rfl rfl om fun Y C j D => ?_)
  refine dT 3 rfl rfl rfl (Yr D (fun i hi => absurd hi List.not_mem_nil) agg129 sz129 rfl ?_)
  refine dV 4 rfl rfl rfl (fun _ => Zf rfl) (dV 5 rfl rfl rfl (fun _ => Zf rfl) ?_)
  have Z := (h.ch0 m).ch0 y
  refine dT 6 rfl rfl rfl (Xt Z GEdge.len el34 sz129 rfl rfl rfl om fun aa F l G => ?_)
  refine dT 7 rfl rfl rfl (Yr G (fun i hi => absurd hi List.not_mem_nil) agg129 sz129 rfl ?_)
  refine dO 8 (Zk rfl rfl rfl ?_)
  refine Step.call (Zr (xs := [.tmp 20, .tmp 24]) fk108 rfl) (Zfn C F ) fun ab ac H => ?_
  obtain ⟨rfl, I⟩ := H
  have ad := I.size
  have E := E.trans I
  have x : Ch [] U ac := ((Ch.refl _ _).trans I)
  refine ⟨x, ?_⟩
  refine dV 9 rfl rfl rfl (fun _ => Qj rfl) ?_
  refine Zw (by kernel_rfl) ?_
  refine Zb (T _ _ ?_)
  refine Zz rfl (fun c => ?_) (fun c => ?_)
  ·have J := c
   have c := Yq (Xv c)
   refine Zg fun ak ae => ?_
   refine Zc (Za rfl rfl (Zd rfl) (Ze (Zb (ae _ _ ?_))))
   refine Yb (Yw (Zp (Zp (Yw (Zp ?_)))))
   clear H6 M
   exact Zi [_] ⟨rfl, trivial⟩ ⟨congrArg Value.bool (decide_eq_false (Zbn j l c)).symm, E⟩
  have J := c
  have c := Yp (Xw c)
  refine Zu ?_
  refine Zq (Zb (M _ _ (Zc (Za rfl rfl (Zf rfl) (Za rfl rfl (Ye om rfl rfl) (Za rfl rfl (Zd rfl) (Ze ?_)))))))
  exact Zb (Exists.intro (k + 1) ⟨⟨E, om, om, (Zaf K j l c)⟩, sC2 rfl rfl (sC1 rfl (Sub.nil _)), (by first | omega | (dsimp only; omega))⟩)
 have B := f
 have f := Yq f
 refine Xc (Zt (Zt (Yx ?_)))
 refine Zb (H6 _ _ ?_)
 refine Zg fun al af => ?_
 refine Zc (Za rfl rfl (Zd rfl) (Ze (Zb (af _ _ ?_))))
 refine Yb ?_
 exact Zi [_] ⟨rfl, trivial⟩ ⟨congrArg Value.bool (decide_eq_true (Zaw K om om)).symm, E⟩

/-- laws.eqGraph -/
theorem Zer {w : World} {LL_aV y : Nat} {g : Value} {aV : List Int} (a : Ls ics 1 w LL_aV y g aV) {LL_aE z : Nat} {h : Value} {aE : List GEdge} (b : Ls GEdge.cs 4 w LL_aE z h aE) {LL_bV A : Nat} {i : Value} {bV : List Int} (c : Ls ics 1 w LL_bV A i bV) {LL_bE B : Nat} {j : Value} {bE : List GEdge} (d : Ls GEdge.cs 4 w LL_bE B j bE) :
 Ctr Try.prog 13 #[(.agg #[g, h]), (.agg #[i, j])] w (fun v w' => v = .bool (decide (aV = bV ∧ aE = bE)) ∧ Ch [] w w') := by
 obtain ⟨k, l, s⟩ := a.val
 subst s
 have I := a.len
 have a := a.here (by decide)
 obtain ⟨m, n, t⟩ := b.val
 subst t
 have J := b.len
 have b := b.here (by decide)
 obtain ⟨o, p, u⟩ := c.val
 subst u
 have K := c.len
 have c := c.here (by decide)
 obtain ⟨q, r, x⟩ := d.val
 subst x
 have L := d.len
 have d := d.here (by decide)
 have E := Ch.refl [] w
 refine Yf (N := 17) (vs0 := [(.agg #[(.slice k aV.length l), (.slice m aE.length n)]), (.agg #[(.slice o bV.length p), (.slice q bE.length r)])]) Try.func13 rfl rfl rfl ?_
 refine Zg fun K1 H1 => ?_
 refine Zc (Zx rfl rfl ?_)
 refine Xj rfl fun O W2 D C2 ad => ?_
 have ae := C2.size
 have E := E.trans C2
 have af := D.lt
 replace D : Blk W2 O 36 [(.slice k aV.length l), (.slice m aE.length n)] := D
 refine Zx rfl rfl ?_
 refine Xj rfl fun P W3 C C3 ag => ?_
 have ah := C3.size
 have E := E.trans C3
 have ai := C.lt
 replace C : Blk W3 P 36 [(.slice o bV.length p), (.slice q bE.length r)] := C
 refine Za rfl rfl (Zd rfl) (Ze (Zb (H1 _ _ ?_)))
 refine Zg fun K4 H4 => ?_
 refine Zg fun K5 H5 => ?_
 refine Zc (Za rfl rfl (Zh fa36_0 rfl) ?_)
 have F6 := D.ch0 C3
 refine Za rfl rfl (Zl F6.at_ agg22 rfl rfl) (Za rfl rfl (Zh fa36_0 rfl) (Za rfl rfl (Zl C.at_ agg22 rfl rfl) (Zx rfl rfl ?_)))
 have F7 := (a.ch0 C2).ch0 C3
 have F8 := (c.ch0 C2).ch0 C3
 refine Step.call (Zr (xs := [.tmp 6, .tmp 8]) fk61 rfl) (Zcp F7 F8 ) fun aj W9 Q => ?_
 obtain ⟨rfl, C9⟩ := Q
 have ak := C9.size
 have E := E.trans C9
 refine Za rfl rfl (Qj rfl) (Ze (Zb (H5 _ _ ?_)))
 refine Zz rfl (fun e => ?_) (fun e => ?_)
 ·have F := e
  have e := Yq (Xv e)
  refine Zg fun al R => ?_
  refine Zc (Za rfl rfl (Zd rfl) (Ze (Zb (R _ _ ?_))))
  refine Yb (Zp ?_)
  exact Zi [_] ⟨rfl, trivial⟩ ⟨congrArg Value.bool (by simp_all), E⟩
 have F := e
 have e := Yp (Xw e)
 refine Zu ?_
 refine Zb (H4 _ _ ?_)
 refine Zg fun am S => ?_
 refine Zg fun an T => ?_
 refine Zc (Za rfl rfl (Zh fa36_1 rfl) ?_)
 have U := F6.ch0 C9
 refine Za rfl rfl (Zl U.at_ agg34 rfl rfl) (Za rfl rfl (Zh fa36_1 rfl) ?_)
 have V := C.ch0 C9
 refine Za rfl rfl (Zl V.at_ agg34 rfl rfl) (Zx rfl rfl ?_)
 have X := ((b.ch0 C2).ch0 C3).ch0 C9
 have Y := ((d.ch0 C2).ch0 C3).ch0 C9
 refine Step.call (Zr (xs := [.tmp 12, .tmp 14]) fk62 rfl) (Zeq X Y ) fun Z ao G => ?_
 obtain ⟨rfl, M⟩ := G
 have aa := M.size
 have E := E.trans M
 refine Za rfl rfl (Qj rfl) (Ze (Zb (T _ _ ?_)))
 refine Zz rfl (fun f => ?_) (fun f => ?_)
 ·have H := f
  have f := Yq (Xv f)
  refine Zg fun ap ab => ?_
  refine Zc (Za rfl rfl (Zd rfl) (Ze (Zb (ab _ _ ?_))))
  refine Yb (Zp ?_)
  exact Zi [_] ⟨rfl, trivial⟩ ⟨congrArg Value.bool (by simp_all), E⟩
 have H := f
 have f := Yp (Xw f)
 refine Zu ?_
 refine Zb (S _ _ ?_)
 refine Zg fun aq ac => ?_
 refine Zc (Za rfl rfl (Zd rfl) (Ze (Zb (ac _ _ ?_))))
 refine Yb ?_
 exact Zi [_] ⟨rfl, trivial⟩ ⟨congrArg Value.bool (by simp_all), E⟩

/-- laws.eqStep -/
theorem Zfo {w : World} (a : GStp) (b : GStp) :
 Ctr Try.prog 107 #[(.agg #[(.int .i64 a.ed), (.bool a.bk)]), (.agg #[(.int .i64 b.ed), (.bool b.bk)])] w (fun v w' => v = .bool (decide (a = b)) ∧ Ch [] w w') := by
 have E := Ch.refl [] w
 refine Yf (N := 15) (vs0 := [(.agg #[(.int .i64 a.ed), (.bool a.bk)]), (.agg #[(.int .i64 b.ed), (.bool b.bk)])]) Try.func107 rfl rfl rfl ?_
 refine Zg fun K1 H1 => ?_
 refine Zc (Zx rfl rfl ?_)
 refine Xj rfl fun i W2 g C2 o => ?_
 have p := C2.size
 have E := E.trans C2
 have q := g.lt
 replace g : Blk W2 i 97 [(.int .i64 a.ed), (.bool a.bk)] := g
 refine Zx rfl rfl ?_
 refine Xj rfl fun j W3 f C3 r => ?_
 have s := C3.size
 have E := E.trans C3
 have t := f.lt
 replace f : Blk W3 j 97 [(.int .i64 b.ed), (.bool b.bk)] := f
 refine Za rfl rfl (Zd rfl) (Ze (Zb (H1 _ _ ?_)))
 refine Zg fun K4 H4 => ?_
 refine Zg fun K5 H5 => ?_
 refine Zc (Za rfl rfl (Zh fa97_0 rfl) ?_)
 have F6 := g.ch0 C3
 refine Za rfl rfl (Zl F6.at_ agg3 rfl rfl) (Za rfl rfl (Zh fa97_0 rfl) (Za rfl rfl (Zl f.at_ agg3 rfl rfl) (Za rfl rfl (Qu rfl rfl) (Ze (Zb (H5 _ _ ?_))))))
 refine Zz rfl (fun d => ?_) (fun d => ?_)
 ·have k := d
  have d := Yq (Xv d)
  refine Zg fun K8 H8 => ?_
  refine Zc (Za rfl rfl (Zd rfl) (Ze (Zb (H8 _ _ ?_))))
  refine Yb (Zp ?_)
  exact Zi [_] ⟨rfl, trivial⟩ ⟨congrArg Value.bool (decide_eq_false (fun e => d (by rw [e]))).symm, E⟩
 have k := d
 have d := Yp (Xw d)
 refine Zu ?_
 refine Zb (H4 _ _ ?_)
 refine Zg fun K9 H9 => ?_
 refine Zg fun u l => ?_
 refine Zc (Za rfl rfl (Zh fa97_1 rfl) (Za rfl rfl (Zl F6.at_ agg4 rfl rfl) (Za rfl rfl (Zh fa97_1 rfl) (Za rfl rfl (Zl f.at_ agg4 rfl rfl) (Za rfl rfl (Zip un4 rfl rfl) (Ze (Zb (l _ _ ?_))))))))
 refine Zz rfl (fun c => ?_) (fun c => ?_)
 ·have h := c
  have c := bf_e (Xv c)
  refine Zg fun x m => ?_
  refine Zc (Za rfl rfl (Zd rfl) (Ze (Zb (m _ _ ?_))))
  refine Yb (Zp ?_)
  exact Zi [_] ⟨rfl, trivial⟩ ⟨congrArg Value.bool (decide_eq_false (fun e => c (by rw [e]))).symm, E⟩
 have h := c
 have c := bt_e (Xw c)
 refine Zu ?_
 refine Zb (H9 _ _ ?_)
 refine Zg fun y n => ?_
 refine Zc (Za rfl rfl (Zd rfl) (Ze (Zb (n _ _ ?_))))
 refine Yb ?_
 exact Zi [_] ⟨rfl, trivial⟩ ⟨congrArg Value.bool (decide_eq_true (by cases a; cases b; simp_all)).symm, E⟩

/-- laws.eqProductStep -/
theorem Zbw {w : World} (a : PStep) (b : PStep) :
 Ctr Try.prog 60 #[(.agg #[(.int .i64 a.edge), (.bool a.back), (.int .i64 a.node), (.int .i64 a.state)]), (.agg #[(.int .i64 b.edge), (.bool b.back), (.int .i64 b.node), (.int .i64 b.state)])] w (fun v w' => v = .bool (decide (a = b)) ∧ Ch [] w w') := by
 have E := Ch.refl [] w
 refine Yf (N := 21) (vs0 := [(.agg #[(.int .i64 a.edge), (.bool a.back), (.int .i64 a.node), (.int .i64 a.state)]), (.agg #[(.int .i64 b.edge), (.bool b.back), (.int .i64 b.node), (.int .i64 b.state)])]) Try.func60 rfl rfl rfl ?_
 refine Zg fun K1 H1 => ?_
 refine Zc (Zx rfl rfl ?_)
 refine Xj rfl fun m W2 h C2 z => ?_
 have A := C2.size
 have E := E.trans C2
 have B := h.lt
 replace h : Blk W2 m 103 [(.int .i64 a.edge), (.bool a.back), (.int .i64 a.node), (.int .i64 a.state)] := h
 refine Zx rfl rfl ?_
 refine Xj rfl fun n W3 g C3 C => ?_
 have D := C3.size
 have E := E.trans C3
 have F := g.lt
 replace g : Blk W3 n 103 [(.int .i64 b.edge), (.bool b.back), (.int .i64 b.node), (.int .i64 b.state)] := g
 refine Za rfl rfl (Zd rfl) (Ze (Zb (H1 _ _ ?_)))
 refine Zg fun K4 H4 => ?_
 refine Zg fun K5 H5 => ?_
 refine Zc (Za rfl rfl (Zh fa103_0 rfl) ?_)
 have F6 := h.ch0 C3
 refine Za rfl rfl (Zdp 2 F6.at_ agg97 sz97 rfl rfl) (Za rfl rfl (Zh fa103_0 rfl) (Za rfl rfl (Zdp 2 g.at_ agg97 sz97 rfl rfl) (Zx rfl rfl ?_)))
 refine Step.call (Zr (xs := [.tmp 6, .tmp 8]) fk107 rfl) (Zfo ⟨a.edge, a.back⟩ ⟨b.edge, b.back⟩ ) fun G W7 o => ?_
 obtain ⟨rfl, C7⟩ := o
 have H := C7.size
 have E := E.trans C7
 refine Za rfl rfl (Qj rfl) (Ze (Zb (H5 _ _ ?_)))
 refine Zz rfl (fun c => ?_) (fun c => ?_)
 ·have p := c
  have c := Yq (Xv c)
  refine Zg fun K9 H9 => ?_
  refine Zc (Za rfl rfl (Zd rfl) (Ze (Zb (H9 _ _ ?_))))
  refine Yb (Zp ?_)
  exact Zi [_] ⟨rfl, trivial⟩ ⟨congrArg Value.bool (decide_eq_false (fun e => c (by rw [e]))).symm, E⟩
 have p := c
 have c := Yp (Xw c)
 refine Zu ?_
 refine Zb (H4 _ _ ?_)
 refine Zg fun I q => ?_
 refine Zg fun J r => ?_
 refine Zc (Za rfl rfl (Zh fa103_1 rfl) ?_)
 have k := F6.ch0 C7
 refine Za rfl rfl (Zl k.at_ agg3 rfl rfl) (Za rfl rfl (Zh fa103_1 rfl) ?_)
 have l := g.ch0 C7
 refine Za rfl rfl (Zl l.at_ agg3 rfl rfl) (Za rfl rfl (Qu rfl rfl) (Ze (Zb (r _ _ ?_))))
 refine Zz rfl (fun d => ?_) (fun d => ?_)
 ·have i := d
  have d := Yq (Xv d)
  refine Zg fun K s => ?_
  refine Zc (Za rfl rfl (Zd rfl) (Ze (Zb (s _ _ ?_))))
  refine Yb (Zp ?_)
  exact Zi [_] ⟨rfl, trivial⟩ ⟨congrArg Value.bool (decide_eq_false (fun e => d (by rw [e]))).symm, E⟩
 have i := d
 have d := Yp (Xw d)
 refine Zu ?_
 refine Zb (q _ _ ?_)
 refine Zg fun L t => ?_
 refine Zg fun M u => ?_
 refine Zc (Za rfl rfl (Zh fa103_2 rfl) (Za rfl rfl (Zl k.at_ agg3 rfl rfl) (Za rfl rfl (Zh fa103_2 rfl) (Za rfl rfl (Zl l.at_ agg3 rfl rfl) (Za rfl rfl (Qu rfl rfl) (Ze (Zb (u _ _ ?_))))))))
 refine Zz rfl (fun f => ?_) (fun f => ?_)
 ·have j := f
  have f := Yq (Xv f)
  refine Zg fun O x => ?_
  refine Zc (Za rfl rfl (Zd rfl) (Ze (Zb (x _ _ ?_))))
  refine Yb (Zp ?_)
  exact Zi [_] ⟨rfl, trivial⟩ ⟨congrArg Value.bool (decide_eq_false (fun e => f (by rw [e]))).symm, E⟩
 have j := f
 have f := Yp (Xw f)
 refine Zu ?_
 refine Zb (t _ _ ?_)
 refine Zg fun P y => ?_
 refine Zc (Za rfl rfl (Zd rfl) (Ze (Zb (y _ _ ?_))))
 refine Yb ?_
 exact Zi [_] ⟨rfl, trivial⟩ ⟨congrArg Value.bool (decide_eq_true (by cases a; cases b; simp_all)).symm, E⟩

/-- laws.eqProductStepS -/
theorem Qq {w : World} {LL_a z : Nat} {n : Value} {a : List PStep} (g : Ls PStep.cs 4 w LL_a z n a) {LL_b A : Nat} {o : Value} {b : List PStep} (h : Ls PStep.cs 4 w LL_b A o b) :
 Ctr Try.prog 12 #[n, o] w (fun v w' => v = .bool (decide (a = b)) ∧ Ch [] w w') := by
 obtain ⟨p, q, r⟩ := g.val
 subst r
 have O := g.len
 have g := g.here (by decide)
 obtain ⟨s, t, u⟩ := h.val
 subst u
 have P := h.len
 have h := h.here (by decide)
 have E := Ch.refl [] w
 refine Yf (N := 27) (vs0 := [(.slice p a.length q), (.slice s b.length t)]) Try.func12 rfl rfl rfl ?_
 refine Zg fun K1 H1 => ?_
 refine Zc (Za rfl rfl (Zd rfl) (Ze (Zb (H1 _ _ ?_))))
 refine Zg fun K2 H2 => ?_
 refine Zg fun K3 H3 => ?_
 refine Zc (Za rfl rfl (Zf rfl) (Za rfl rfl (Yz (by rw [el32]; rfl) rfl) (Za rfl rfl (Zf rfl) (Za rfl rfl (Yz (by rw [el32]; rfl) rfl) (Za rfl rfl (Qu rfl rfl) (Ze (Zb (H3 _ _ ?_))))))))
 refine Zz rfl (fun d => ?_) (fun d => ?_)
 ·have Q := d
  have d := Yq (Xv d)
  refine Zg fun K5 H5 => ?_
  refine Zc (Za rfl rfl (Zd rfl) (Ze (Zb (H5 _ _ ?_))))
  refine Yb (Zp ?_)
  exact Zi [_] ⟨rfl, trivial⟩ ⟨congrArg Value.bool (decide_eq_false (fun e => d (by rw [e]))).symm, E⟩
 have Q := d
 have d := Yp (Xw d)
 refine Zu ?_
 refine Zb (H2 _ _ ?_)
 refine Zg fun K6 H6 => ?_
 refine Zg fun K7 H7 => ?_
 refine Zc (Za rfl rfl (Zd rfl) (Ze (Zb (H7 _ _ ?_))))
 refine Yd ?_
 refine Xd (σ := Nat) (fun (k : Nat) => [(0, (.slice p a.length q)), (1, (.slice s b.length t)), (5, (.int .i64 ((k : Nat) : Int)))]) (fun (k : Nat) wx => Ch [] w wx ∧ w.heap.size ≤ wx.heap.size ∧ (k ≤ a.length) ∧ (a.take k = b.take k)) (fun (k : Nat) => a.length - k) 0 (sC2 rfl rfl (sC1 rfl (Sub.nil _))) ⟨E, (Nat.le_refl _), om, rfl⟩ ?_
 rintro k R8 ⟨E, R, ag, K⟩
 have m := E
 have L := m.size
 refine Zg fun K9 H9 => ?_
 refine Zg fun ah S => ?_
 refine Zc (Za rfl rfl (Zf rfl) (Za rfl rfl (Zf rfl) (Za rfl rfl (Yz (by rw [el32]; rfl) rfl) (Za rfl rfl (Xh rfl rfl) (Ze (Zb (S _ _ ?_)))))))
 refine Zz rfl (fun f => ?_) (fun f => ?_)
 ·have B := f
  have f := Yp f
  refine Zu ?_
  refine Zb (H9 _ _ ?_)
  refine Zg fun ai M => ?_
  refine Yd ?_
  refine Zg fun aj T => ?_
  refine Xl [] 10 mixed rfl fun U y => ?_
  have V := y.size
  have E := E.trans y
  refine dV 0 rfl rfl rfl (fun _ => Zf rfl) (dV 1 rfl rfl rfl (fun _ => Zf rfl) ?_)
  have X := (g.ch0 m).ch0 y
  refine dT 2 rfl rfl rfl (Xt X PStep.len el32 sz103 rfl rfl rfl om fun Y C j D => ?_)
  refine dT 3 rfl rfl rfl (Yr D (fun i hi => absurd hi List.not_mem_nil) agg103 sz103 rfl ?_)
  refine dV 4 rfl rfl rfl (fun _ => Zf rfl) (dV 5 rfl rfl rfl (fun _ => Zf rfl) ?_)
  have Z := (h.ch0 m).ch0 y
  refine dT 6 rfl rfl rfl (Xt Z PStep.len el32 sz103 rfl rfl rfl om fun aa F l G => ?_)
  refine dT 7 rfl rfl rfl (Yr G (fun i hi => absurd hi List.not_mem_nil) agg103 sz103 rfl ?_)
  refine dO 8 (Zk rfl rfl rfl ?_)
  refine Step.call (Zr (xs := [.tmp 20, .tmp 24]) fk60 rfl) (Zbw C F ) fun ab ac H => ?_
  obtain ⟨rfl, I⟩ := H
  have ad := I.size
  have E := E.trans I
  have x : Ch [] U ac := ((Ch.refl _ _).trans I)
  refine ⟨x, ?_⟩
  refine dV 9 rfl rfl rfl (fun _ => Qj rfl) ?_
  refine Zw (by kernel_rfl) ?_
  refine Zb (T _ _ ?_)
  refine Zz rfl (fun c => ?_) (fun c => ?_)
  ·have J := c
   have c := Yq (Xv c)
   refine Zg fun ak ae => ?_
   refine Zc (Za rfl rfl (Zd rfl) (Ze (Zb (ae _ _ ?_))))
   refine Yb (Yw (Zp (Zp (Yw (Zp ?_)))))
   clear H6 M
   exact Zi [_] ⟨rfl, trivial⟩ ⟨congrArg Value.bool (decide_eq_false (Zbn j l c)).symm, E⟩
  have J := c
  have c := Yp (Xw c)
  refine Zu ?_
  refine Zq (Zb (M _ _ (Zc (Za rfl rfl (Zf rfl) (Za rfl rfl (Ye om rfl rfl) (Za rfl rfl (Zd rfl) (Ze ?_)))))))
  exact Zb (Exists.intro (k + 1) ⟨⟨E, om, om, (Zaf K j l c)⟩, sC2 rfl rfl (sC1 rfl (Sub.nil _)), (by first | omega | (dsimp only; omega))⟩)
 have B := f
 have f := Yq f
 refine Xc (Zt (Zt (Yx ?_)))
 refine Zb (H6 _ _ ?_)
 refine Zg fun al af => ?_
 refine Zc (Za rfl rfl (Zd rfl) (Ze (Zb (af _ _ ?_))))
 refine Yb ?_
 exact Zi [_] ⟨rfl, trivial⟩ ⟨congrArg Value.bool (decide_eq_true (Zaw K om om)).symm, E⟩

/-- laws.heldProductStepS -/
theorem Zab {w : World} {LL_a x : Nat} {p : Value} {a : List PStep} (g : Ls PStep.cs 4 w LL_a x p a) (k : Int) (O : 0 ≤ k) (hkk : k + 4 * a.length ≤ 4611686018427387904) :
 Ctr Try.prog 18 #[p, (.int .i64 k)] w (fun v w' => v = .int .i64 (if a = Xo k a.length then k + 4 * a.length else -1) ∧ Ch [] w w') := by
 obtain ⟨q, r, s⟩ := g.val
 subst s
 have P := g.len
 have g := g.here (by decide)
 have E := Ch.refl [] w
 refine Yf (N := 53) (vs0 := [(.slice q a.length r), (.int .i64 k)]) Try.func18 rfl rfl rfl ?_
 refine Zg fun K1 H1 => ?_
 refine Zc (Za rfl rfl (Zd rfl) (Ze (Zb (H1 _ _ ?_))))
 refine Zg fun K2 H2 => ?_
 refine Zg fun K3 H3 => ?_
 refine Zc (Za rfl rfl (Zd rfl) (Ze (Zb (H3 _ _ ?_))))
 refine Yd ?_
 refine Xd (σ := Nat × Int) (fun ⟨i, kk⟩ => [(0, (.slice q a.length r)), (1, (.int .i64 kk)), (5, (.int .i64 ((i : Nat) : Int)))]) (fun ⟨i, kk⟩ wx => Ch [] w wx ∧ w.heap.size ≤ wx.heap.size ∧ (i ≤ a.length) ∧ (kk = k + 4 * i) ∧ (a.take i = Xo k i)) (fun ⟨i, kk⟩ => a.length - i) (0, k) (sC2 rfl rfl (sC1 rfl (Sub.nil _))) ⟨E, (Nat.le_refl _), om, om, rfl⟩ ?_
 rintro ⟨i, kk⟩ R4 ⟨E, Q, hi, hq, H⟩
 have t := E
 have I := t.size
 refine Zg fun K5 H5 => ?_
 refine Zg fun K6 H6 => ?_
 refine Zc (Za rfl rfl (Zf rfl) (Za rfl rfl (Zf rfl) (Za rfl rfl (Yz (by rw [el32]; rfl) rfl) (Za rfl rfl (Xh rfl rfl) (Ze (Zb (H6 _ _ ?_)))))))
 refine Zz rfl (fun o => ?_) (fun o => ?_)
 ·have R := o
  have o := Yp o
  refine Zu ?_
  refine Zb (H5 _ _ ?_)
  refine Zg fun K8 H8 => ?_
  refine Yd ?_
  refine Zg fun K9 H9 => ?_
  refine Zg fun an S => ?_
  refine Zc (Za rfl rfl (Zf rfl) (Za rfl rfl (Zf rfl) (Zx rfl rfl ?_)))
  have u := g.ch0 t
  refine (Yc u PStep.len el32 sz103 rfl rfl rfl om fun T U h y => ?_)
  refine Za rfl rfl (Zh fa103_0 rfl) (Za rfl rfl (Zas (n := 0) fa97_0 rfl rfl) (Za rfl rfl (Zl y agg3 rfl rfl) (Za rfl rfl (Zf rfl) (Za rfl rfl (Qu rfl rfl) (Ze (Zb (S _ _ ?_)))))))
  refine Zz rfl (fun b => ?_) (fun b => ?_)
  ·have z := b
   have b := Yq (Xv b)
   refine Zg fun ao V => ?_
   refine Zc (Za rfl rfl (Zd rfl) (Ze (Zb (V _ _ ?_))))
   refine Yb (Zp (Yw (Zp (Zp (Yw (Zp ?_))))))
   clear H2 H8 H9
   exact Zi [_] ⟨rfl, trivial⟩ ⟨congrArg (Value.int .i64) (if_neg (fun e => b (by have J := (Zal e h).1; omega))).symm, E⟩
  have z := b
  have b := Yp (Xw b)
  refine Zu ?_
  refine Zb (H9 _ _ ?_)
  refine Zg fun ap X => ?_
  refine Zc (Za rfl rfl (Zf rfl) (Za rfl rfl (Ye om rfl rfl) (Za rfl rfl (Zd rfl) (Ze (Zb (X _ _ ?_))))))
  refine Zg fun aq K => ?_
  refine Zg fun au Y => ?_
  refine Zc (Za rfl rfl (Zf rfl) (Za rfl rfl (Zf rfl) (Zx rfl rfl ?_)))
  refine (Yc u PStep.len el32 sz103 rfl rfl rfl om fun Z aa j A => ?_)
  refine Za rfl rfl (Zh fa103_0 rfl) (Za rfl rfl (Zas (n := 1) fa97_1 rfl rfl) (Za rfl rfl (Zl A agg4 rfl rfl) (Za rfl rfl (Zf rfl) (Za rfl rfl (Zla om rfl rfl) (Za rfl rfl (Zbv rfl rfl) (Za rfl rfl (Zip un4 rfl rfl) (Ze ?_)))))))
  refine Zb (Y _ _ ?_)
  refine Zz rfl (fun c => ?_) (fun c => ?_)
  ·have B := c
   have c := bf_e (Xv c)
   refine Zg fun av ab => ?_
   refine Zc (Za rfl rfl (Zd rfl) (Ze (Zb (ab _ _ ?_))))
   refine Yb (Zp (Yw (Zp (Zp (Yw (Zp ?_))))))
   clear H2 H8 K
   exact Zi [_] ⟨rfl, trivial⟩ ⟨congrArg (Value.int .i64) (if_neg (fun e => c (by rw [(Zal e j).2.1, hq]))).symm, E⟩
  have B := c
  have c := bt_e (Xw c)
  refine Zu ?_
  refine Zb (K _ _ ?_)
  refine Zg fun aw ac => ?_
  refine Zc (Za rfl rfl (Zf rfl) (Za rfl rfl (Ye om rfl rfl) (Za rfl rfl (Zd rfl) (Ze (Zb (ac _ _ ?_))))))
  refine Zg fun ax L => ?_
  refine Zg fun ay ad => ?_
  refine Zc (Za rfl rfl (Zf rfl) (Za rfl rfl (Zf rfl) (Zx rfl rfl ?_)))
  refine (Yc u PStep.len el32 sz103 rfl rfl rfl om fun ae af l C => ?_)
  refine Za rfl rfl (Zh fa103_1 rfl) (Za rfl rfl (Zl C agg3 rfl rfl) (Za rfl rfl (Zf rfl) (Za rfl rfl (Qu rfl rfl) (Ze (Zb (ad _ _ ?_))))))
  refine Zz rfl (fun d => ?_) (fun d => ?_)
  ·have D := d
   have d := Yq (Xv d)
   refine Zg fun az ag => ?_
   refine Zc (Za rfl rfl (Zd rfl) (Ze (Zb (ag _ _ ?_))))
   refine Yb (Zp (Yw (Zp (Zp (Yw (Zp ?_))))))
   clear H2 H8 L
   exact Zi [_] ⟨rfl, trivial⟩ ⟨congrArg (Value.int .i64) (if_neg (fun e => d (by have J := (Zal e l).2.2.1; omega))).symm, E⟩
  have D := d
  have d := Yp (Xw d)
  refine Zu ?_
  refine Zb (L _ _ ?_)
  refine Zg fun aA ah => ?_
  refine Zc (Za rfl rfl (Zf rfl) (Za rfl rfl (Ye om rfl rfl) (Za rfl rfl (Zd rfl) (Ze (Zb (ah _ _ ?_))))))
  refine Zg fun aB M => ?_
  refine Zg fun aC ai => ?_
  refine Zc (Za rfl rfl (Zf rfl) (Za rfl rfl (Zf rfl) (Zx rfl rfl ?_)))
  refine (Yc u PStep.len el32 sz103 rfl rfl rfl om fun aj ak m F => ?_)
  refine Za rfl rfl (Zh fa103_2 rfl) (Za rfl rfl (Zl F agg3 rfl rfl) (Za rfl rfl (Zf rfl) (Za rfl rfl (Qu rfl rfl) (Ze (Zb (ai _ _ ?_))))))
  refine Zz rfl (fun f => ?_) (fun f => ?_)
  ·have G := f
   have f := Yq (Xv f)
   refine Zg fun aD al => ?_
   refine Zc (Za rfl rfl (Zd rfl) (Ze (Zb (al _ _ ?_))))
   refine Yb (Zp (Yw (Zp (Zp (Yw (Zp ?_))))))
   clear H2 H8 M
   exact Zi [_] ⟨rfl, trivial⟩ ⟨congrArg (Value.int .i64) (if_neg (fun e => f (by have J := (Zal e m).2.2.2; omega))).symm, E⟩
  have G := f
  have f := Yp (Xw f)
  refine Zu ?_
  refine Zb (M _ _ (Zc (Za rfl rfl (Zf rfl) (Za rfl rfl (Ye om rfl rfl) (Za rfl rfl (Zd rfl) (Ze (Zq (Zb (H8 _ _ ?_)))))))))
  refine Zc (Za rfl rfl (Zf rfl) (Za rfl rfl (Ye om rfl rfl) (Za rfl rfl (Zd rfl) (Ze ?_))))
  exact Zb (Exists.intro ((i + 1), ((((kk + 1) + 1) + 1) + 1)) ⟨⟨E, om, om, om, (Zec H hq h b j c l d m f)⟩, sC2 rfl rfl (sC1 rfl (Sub.nil _)), (by first | omega | (dsimp only; omega))⟩)
 have R := o
 have o := Yq o
 refine Xc (Zt (Zt (Yx ?_)))
 refine Zb (H2 _ _ ?_)
 refine Zg fun aE am => ?_
 refine Zc (Za rfl rfl (Zf rfl) (Za rfl rfl (Zd rfl) (Ze (Zb (am _ _ ?_)))))
 refine Yb ?_
 exact Zi [_] ⟨rfl, trivial⟩ ⟨congrArg (Value.int .i64) (by rw [if_pos (Zfq H om om)]; omega), E⟩

/-- laws.markBoolS -/
theorem Zdf {w : World} {e_a : Nat} {e : Value} {a : List Bool} (h : Ol bcs e_a 1 w e a) (k : Int) (t : 0 ≤ k) (hkk : k + a.length ≤ 4611686018427387904) :
 Ctr Try.prog 67 #[e, (.int .i64 k)] w (fun v w' => v = .int .i64 (k + a.length) ∧ Ch (bl e) w w') := by
 obtain ⟨b, c, rfl, u, p⟩ := h.opn
 have E := Ch.refl (bl (.slice b a.length c)) w
 refine Yf (N := 21) (vs0 := [(.slice b a.length c), (.int .i64 k)]) Try.func67 rfl rfl rfl ?_
 refine Zg fun K1 H1 => ?_
 refine Zc (Za rfl rfl (Zd rfl) (Ze (Zb (H1 _ _ ?_))))
 refine Zg fun K2 H2 => ?_
 refine Zg fun K3 H3 => ?_
 refine Zc (Za rfl rfl (Zd rfl) (Ze (Zb (H3 _ _ ?_))))
 refine Yd ?_
 have l : Ol bcs e_a 1 w (.slice b a.length c) (a) := by
  have hx := h
  exact hx
 refine Xd (σ := Nat × Int × List Bool) (fun ⟨i, kk, zs⟩ => [(0, (.slice b a.length c)), (1, (.int .i64 kk)), (4, (.int .i64 0)), (5, (.int .i64 ((i : Nat) : Int)))]) (fun ⟨i, kk, zs⟩ wx => Ch (bl (.slice b a.length c)) w wx ∧ w.heap.size ≤ wx.heap.size ∧ (i ≤ a.length) ∧ (kk = k + i) ∧ (zs.length = a.length) ∧ Ol bcs e_a 1 wx (.slice b a.length c) zs) (fun ⟨i, kk, zs⟩ => a.length - i) (0, k, a) (sC4 rfl rfl rfl rfl (Sub.nil _)) ⟨E, (Nat.le_refl _), om, om, rfl, l⟩ ?_
 rintro ⟨i, kk, zs⟩ R5 ⟨E, x, hi, hq, hz, d⟩
 have n := E
 have q := n.size
 refine Zg fun K6 H6 => ?_
 refine Zg fun K7 H7 => ?_
 refine Zc (Za rfl rfl (Zf rfl) (Za rfl rfl (Zf rfl) (Za rfl rfl (Yz (by rw [el26]; rfl) rfl) (Za rfl rfl (Xh rfl rfl) (Ze (Zb (H7 _ _ ?_)))))))
 refine Zz rfl (fun f => ?_) (fun f => ?_)
 ·have y := f
  have f := Yp f
  refine Zu ?_
  refine Zb (H6 _ _ ?_)
  refine Zg fun K9 H9 => ?_
  refine Yd ?_
  refine Zg fun G z => ?_
  refine Zc (Za rfl rfl (Zf rfl) (Za rfl rfl (Zf rfl) (Za rfl rfl (Zf rfl) (Za rfl rfl (Zla om rfl rfl) (Za rfl rfl (Zbv rfl rfl) (Zx rfl rfl ?_))))))
  refine Yi (j := i) d el26 sz4 rfl rfl rfl om fun A B r o => ?_
  refine Zx rfl rfl ?_
  refine Yn (j := i) (decide ((kk.tmod 3) = 0)) d o Zcc sz4 rfl rfl rfl rfl om fun C m s => ?_
  have D := s.size
  have E := E.trans s
  refine Ze (Zb (z _ _ (Zc (Za rfl rfl (Zf rfl) (Za rfl rfl (Ye om rfl rfl) (Za rfl rfl (Zd rfl) (Ze (Zq ?_))))))))
  refine Zb (H9 _ _ (Zc (Za rfl rfl (Zf rfl) (Za rfl rfl (Ye om rfl rfl) (Za rfl rfl (Zd rfl) (Ze ?_))))))
  have g : Ol bcs e_a 1 C (.slice b a.length c) ((zs.set i (decide ((kk.tmod 3) = 0)))) := by
   have hx := m
   exact hx
  exact Zb (Exists.intro ((i + 1), (kk + 1), (zs.set i (decide ((kk.tmod 3) = 0)))) ⟨⟨E, om, om, om, (by simpa using hz), g⟩, sC4 rfl rfl rfl rfl (Sub.nil _), (by first | omega | (dsimp only; omega))⟩)
 have y := f
 have f := Yq f
 refine Xc (Zt (Zt (Yx ?_)))
 refine Zb (H2 _ _ ?_)
 refine Zg fun H F => ?_
 refine Zc (Za rfl rfl (Zf rfl) (Za rfl rfl (Zd rfl) (Ze (Zb (F _ _ ?_)))))
 refine Yb ?_
 exact Zi [_] ⟨rfl, trivial⟩ ⟨congrArg (Value.int .i64) om, E⟩

/-- laws.markIntS -/
theorem Zbr {w : World} {e_a : Nat} {e : Value} {a : List Int} (h : Ol ics e_a 1 w e a) (k : Int) (u : 0 ≤ k) (hkk : k + a.length ≤ 4611686018427387904) :
 Ctr Try.prog 65 #[e, (.int .i64 k)] w (fun v w' => v = .int .i64 (k + a.length) ∧ Ol ics e_a 1 w' e (Zca k a.length) ∧ Ch (bl e) w w') := by
 obtain ⟨b, c, rfl, x, q⟩ := h.opn
 have E := Ch.refl (bl (.slice b a.length c)) w
 refine Yf (N := 19) (vs0 := [(.slice b a.length c), (.int .i64 k)]) Try.func65 rfl rfl rfl ?_
 refine Zg fun K1 H1 => ?_
 refine Zc (Za rfl rfl (Zd rfl) (Ze (Zb (H1 _ _ ?_))))
 refine Zg fun K2 H2 => ?_
 refine Zg fun K3 H3 => ?_
 refine Zc (Za rfl rfl (Zd rfl) (Ze (Zb (H3 _ _ ?_))))
 refine Yd ?_
 have l : Ol ics e_a 1 w (.slice b a.length c) (Zca k 0 ++ a.drop 0) := by
  have hx := h
  simpa [Zca] using hx
 refine Xd (σ := Nat × Int) (fun ⟨i, kk⟩ => [(0, (.slice b a.length c)), (1, (.int .i64 kk)), (4, (.int .i64 0)), (5, (.int .i64 ((i : Nat) : Int)))]) (fun ⟨i, kk⟩ wx => Ch (bl (.slice b a.length c)) w wx ∧ w.heap.size ≤ wx.heap.size ∧ (i ≤ a.length) ∧ (kk = k + i) ∧ Ol ics e_a 1 wx (.slice b a.length c) (Zca k i ++ a.drop i)) (fun ⟨i, kk⟩ => a.length - i) (0, k) (sC4 rfl rfl rfl rfl (Sub.nil _)) ⟨E, (Nat.le_refl _), om, om, l⟩ ?_
 rintro ⟨i, kk⟩ R5 ⟨E, y, hi, hq, d⟩
 have o := E
 have r := o.size
 refine Zg fun K6 H6 => ?_
 refine Zg fun K7 H7 => ?_
 refine Zc (Za rfl rfl (Zf rfl) (Za rfl rfl (Zf rfl) (Za rfl rfl (Yz (by rw [el22]; rfl) rfl) (Za rfl rfl (Xh rfl rfl) (Ze (Zb (H7 _ _ ?_)))))))
 refine Zz rfl (fun f => ?_) (fun f => ?_)
 ·have z := f
  have f := Yp f
  refine Zu ?_
  refine Zb (H6 _ _ ?_)
  refine Zg fun K9 H9 => ?_
  refine Yd ?_
  refine Zg fun I A => ?_
  refine Zc (Za rfl rfl (Zf rfl) (Za rfl rfl (Zf rfl) (Za rfl rfl (Zf rfl) (Zx rfl rfl ?_))))
  refine Yi (j := i) d el22 sz3 rfl rfl rfl (by first | omega | (simp [Zca] <;> omega)) fun B C s p => ?_
  refine Zx rfl rfl ?_
  refine Yn (j := i) kk d p Xr sz3 rfl rfl rfl rfl (by first | omega | (simp [Zca] <;> omega)) fun D m t => ?_
  have F := t.size
  have E := E.trans t
  refine Ze (Zb (A _ _ (Zc (Za rfl rfl (Zf rfl) (Za rfl rfl (Ye om rfl rfl) (Za rfl rfl (Zd rfl) (Ze (Zq ?_))))))))
  refine Zb (H9 _ _ (Zc (Za rfl rfl (Zf rfl) (Za rfl rfl (Ye om rfl rfl) (Za rfl rfl (Zd rfl) (Ze ?_))))))
  have g : Ol ics e_a 1 D (.slice b a.length c) (Zca k (i + 1) ++ a.drop (i + 1)) := by
   have hx := m
   rwa [Zhx a om hq] at hx
  exact Zb (Exists.intro ((i + 1), (kk + 1)) ⟨⟨E, om, om, om, g⟩, sC4 rfl rfl rfl rfl (Sub.nil _), (by first | omega | (dsimp only; omega))⟩)
 have z := f
 have f := Yq f
 refine Xc (Zt (Zt (Yx ?_)))
 refine Zb (H2 _ _ ?_)
 refine Zg fun J G => ?_
 refine Zc (Za rfl rfl (Zf rfl) (Za rfl rfl (Zd rfl) (Ze (Zb (G _ _ ?_)))))
 refine Yb ?_
 have n : Ol ics e_a 1 R5 (.slice b a.length c) (Zca k a.length) := by
  have hx := d
  have H : i = a.length := om; subst H; simpa using hx
 exact Zi [_] ⟨rfl, trivial⟩ ⟨congrArg (Value.int .i64) om, n, E⟩

/-- laws.markIntSS -/
theorem Zdd {w : World} {e_sa e_a c b : Nat} {m : Value} {sa : List Sv} {a : List (List Int)} (n : Ol Sv.cs e_sa 1 w m sa) (t : Od ics e_a 1 w c b sa a) (u : ∀ g ∈ bl m, c ≤ g ∧ g < b) (F : Sep m sa) (O : b ≤ w.heap.size) (k : Int) (T : 0 ≤ k) (hkk : k + a.flatten.length ≤ 4611686018427387904) :
 Ctr Try.prog 68 #[m, (.int .i64 k)] w (fun v w' => v = .int .i64 (k + a.flatten.length) ∧ Ch (Rg c b) w w') := by
 obtain ⟨e, f, A⟩ := n.val
 subst A
 have P := n.len
 have I : Lo c (.slice e sa.length f) := fun g hg => (u g hg).1
 have hi_sa : ∀ g ∈ bl (.slice e sa.length f), g < b := fun g hg => (u g hg).2
 have Q := t.1
 have E := Ch.refl (Rg c b) w
 refine Yf (N := 19) (vs0 := [(.slice e sa.length f), (.int .i64 k)]) Try.func68 rfl rfl rfl ?_
 refine Zg fun K1 H1 => ?_
 refine Zc (Za rfl rfl (Zd rfl) (Ze (Zb (H1 _ _ ?_))))
 refine Zg fun K2 H2 => ?_
 refine Zg fun K3 H3 => ?_
 refine Zc (Za rfl rfl (Zd rfl) (Ze (Zb (H3 _ _ ?_))))
 refine Yd ?_
 refine Xd (σ := Nat × Int × List (List Int)) (fun ⟨i, kk, zss⟩ => [(0, (.slice e sa.length f)), (1, (.int .i64 kk)), (4, (.int .i64 0)), (5, (.int .i64 ((i : Nat) : Int)))]) (fun ⟨i, kk, zss⟩ wx => Ch (Rg c b) w wx ∧ w.heap.size ≤ wx.heap.size ∧ (i ≤ a.length) ∧ (kk = k + (a.take i).flatten.length) ∧ (zss.length = a.length ∧ ∀ j x, i ≤ j → zss[j]? = some x → a[j]? = some x) ∧ Ol Sv.cs e_sa 1 wx (.slice e sa.length f) sa ∧ Od ics e_a 1 wx c b sa zss) (fun ⟨i, kk, zss⟩ => a.length - i) (0, k, a) (sC4 rfl rfl rfl rfl (Sub.nil _)) ⟨E, (Nat.le_refl _), om, (by simp), ⟨rfl, fun _ _ _ h => h⟩, n, t⟩ ?_
 rintro ⟨i, kk, zss⟩ R4 ⟨E, U, hi, hq, hz, y, od⟩
 have J := E
 have R := J.size
 refine Zg fun K5 H5 => ?_
 refine Zg fun K6 H6 => ?_
 refine Zc (Za rfl rfl (Zf rfl) (Za rfl rfl (Zf rfl) (Za rfl rfl (Yz (by rw [el27]; rfl) rfl) (Za rfl rfl (Xh rfl rfl) (Ze (Zb (H6 _ _ ?_)))))))
 refine Zz rfl (fun q => ?_) (fun q => ?_)
 ·have V := q
  have q := Yp q
  refine Zu ?_
  refine Zb (H5 _ _ ?_)
  refine Zg fun K8 H8 => ?_
  refine Yd ?_
  refine Zc (Za rfl rfl (Zf rfl) (Za rfl rfl (Zf rfl) (Zx rfl rfl ?_)))
  refine (Yc y.ls Sv.len el27 sz22 rfl rfl rfl om fun K L o B => ?_)
  have G := F _ (Xa o)
  obtain ⟨d, p, l, z⟩ := od.ownget o
  have C := o
  obtain ⟨r, X, s⟩ := L
  obtain rfl := l.ls.eqn
  have Y := l.len
  have H : Lo c (.slice r d.length s) := fun g hg => (z g hg).1
  have M : ∀ g ∈ bl (.slice r d.length s), g < b := fun g hg => (z g hg).2
  replace l : Ol ics e_a 1 R4 (.slice r d.length s) d := l
  replace B : At R4 0 R4.heap.size K ([(.slice r d.length s)]) := B
  have S := hz.2 i d (Nat.le_refl _) p
  have ac := Zle S
  refine Za rfl rfl (Ya B agg22 rfl rfl) (Za rfl rfl (Zf rfl) (Zx rfl rfl ?_))
  refine Step.call (Zr (xs := [.tmp 15, .tmp 16]) fk65 rfl) (Zbr l _ om (by first | omega | (simp <;> omega))) fun Z W9 D => ?_
  obtain ⟨rfl, D, C9⟩ := D
  have ad := C9.size
  have E := E.step C9 (fun i hm => by have ae := H _ hm; have af := M _ hm; first | (left; omega) | (right; exact Zim om))
  refine Za rfl rfl (Zd rfl) (Ze (Zq (Zb (H8 _ _ (Zc (Za rfl rfl (Zf rfl) (Za rfl rfl (Ye om rfl rfl) (Za rfl rfl (Zd rfl) ?_))))))))
  refine Ze ?_
  have aa := y.ch C9 (fun g hg hm => by exact G _ hm hg)
  exact Zb (Exists.intro ((i + 1), (kk + d.length), (zss.set i (Zca kk d.length))) ⟨⟨E, om, om, (by have q := Zkq S; omega), ⟨by simpa using hz.1, fun j x hj hx => by rw [List.getElem?_set, if_neg om] at hx; exact hz.2 j x om hx⟩, aa, (Od.set od C p C9 D)⟩, sC4 rfl rfl rfl rfl (Sub.nil _), (by first | omega | (dsimp only; omega))⟩)
 have V := q
 have q := Yq q
 refine Xc (Zt (Zt (Yx ?_)))
 refine Zb (H2 _ _ ?_)
 refine Zg fun ag ab => ?_
 refine Zc (Za rfl rfl (Zf rfl) (Za rfl rfl (Zd rfl) (Ze (Zb (ab _ _ ?_)))))
 refine Yb ?_
 exact Zi [_] ⟨rfl, trivial⟩ ⟨congrArg (Value.int .i64) (by have q := Ziz (show a.length ≤ i by omega); omega), E⟩

/-- laws.markAutomaton -/
theorem Zbx {w : World} (aS : Int) {e_aA : Nat} {f : Value} {aA : List Bool} (r : Ol bcs e_aA 1 w f aA) {e_saN e_aN b a : Nat} {c : Value} {saN : List Sv} {aN : List (List Int)} (h : Ol Sv.cs e_saN 1 w c saN) (m : Od ics e_aN 1 w b a saN aN) (n : ∀ g ∈ bl c, b ≤ g ∧ g < a) (t : Sep c saN) (z : a ≤ w.heap.size) (s : ∀ g ∈ bl f, b ≤ g ∧ g < a) (u : ∀ g ∈ bl f, g ∉ bl c) (x : Sep f saN) (k : Int) (J : 0 ≤ k) (hkk : k + aA.length + aN.flatten.length ≤ 4611686018427387904) :
 Ctr Try.prog 16 #[(.agg #[(.int .i64 aS), f, c]), (.int .i64 k)] w (fun v w' => v = .int .i64 (k + aA.length + aN.flatten.length) ∧ Ch (Rg b a) w w') := by
 obtain ⟨j, l, rfl, G, A⟩ := r.opn
 obtain ⟨d, e, p⟩ := h.val
 subst p
 have B := h.len
 have q : Lo b (.slice d saN.length e) := fun g hg => (n g hg).1
 have hi_saN : ∀ g ∈ bl (.slice d saN.length e), g < a := fun g hg => (n g hg).2
 have C := m.1
 have o : Lo b (.slice j aA.length l) := fun g hg => (s g hg).1
 have hi_aA : ∀ g ∈ bl (.slice j aA.length l), g < a := fun g hg => (s g hg).2
 have E := Ch.refl (Rg b a) w
 refine Yf (N := 14) (vs0 := [(.agg #[(.int .i64 aS), (.slice j aA.length l), (.slice d saN.length e)]), (.int .i64 k)]) Try.func16 rfl rfl rfl ?_
 refine Zg fun K1 H1 => ?_
 refine Zc (Zx rfl rfl ?_)
 refine Xj rfl fun K W2 y C2 Q => ?_
 have R := C2.size
 have E := E.trans C2.of_nil
 have S := y.lt
 replace y : Blk W2 K 38 [(.int .i64 aS), (.slice j aA.length l), (.slice d saN.length e)] := y
 refine Za rfl rfl (Zd rfl) (Ze (Zb (H1 _ _ ?_)))
 refine Zg fun K3 H3 => ?_
 refine Zc (Za rfl rfl (Zh fa38_1 rfl) (Za rfl rfl (Zl y.at_ agg26 rfl rfl) (Za rfl rfl (Zf rfl) (Zx rfl rfl ?_))))
 have F4 := r.ch0 C2
 refine Step.call (Zr (xs := [.tmp 6, .tmp 7]) fk67 rfl) (Zdf F4 _ om (by first | omega | (simp <;> omega))) fun T W5 L => ?_
 obtain ⟨rfl, C5⟩ := L
 have U := C5.size
 have E := E.step C5 (fun i hm => by have D := o _ hm; have H := hi_aA _ hm; first | (left; omega) | (right; exact Zim om))
 refine Za rfl rfl (Zd rfl) (Ze (Zb (H3 _ _ ?_)))
 refine Zg fun K6 H6 => ?_
 refine Zc (Za rfl rfl (Zh fa38_2 rfl) ?_)
 have F7 := y.ch C5 (fun hm => by have D := o _ hm; have H := hi_aA _ hm; omega)
 refine Za rfl rfl (Zl F7.at_ agg27 rfl rfl) (Za rfl rfl (Zf rfl) (Zx rfl rfl ?_))
 have F8 := (h.ch0 C2).ch C5 (fun g hg hm => by exact u _ hm hg)
 have F9 := (m.ch0 C2).chS C5 x
 refine Step.call (Zr (xs := [.tmp 10, .tmp 11]) fk68 rfl) (Zdd F8 (F9.up (lo' := b) (hi' := a) om om) (fun g hm => by have D := q _ hm; have H := hi_saN _ hm; omega) t om _ om (by first | omega | (simp <;> omega))) fun M V F => ?_
 obtain ⟨rfl, I⟩ := F
 have O := I.size
 have E := E.step I (fun i hm => by have D := Zbh hm; first | (left; omega) | (right; exact Zim om))
 refine Za rfl rfl (Zd rfl) (Ze (Zb (H6 _ _ ?_)))
 refine Zg fun X P => ?_
 refine Zc (Za rfl rfl (Zf rfl) (Za rfl rfl (Zd rfl) (Ze (Zb (P _ _ ?_)))))
 refine Yb ?_
 exact Zi [_] ⟨rfl, trivial⟩ ⟨congrArg (Value.int .i64) rfl, E⟩

/-- laws.markEdgeS -/
theorem Zdg {w : World} {e_a : Nat} {m : Value} {a : List GEdge} (r : Ol GEdge.cs e_a 4 w m a) (k : Int) (O : 0 ≤ k) (hkk : k + 4 * a.length ≤ 4611686018427387904) :
 Ctr Try.prog 66 #[m, (.int .i64 k)] w (fun v w' => v = .int .i64 (k + 4 * a.length) ∧ Ol GEdge.cs e_a 4 w' m (Xx k a.length) ∧ Ch (bl m) w w') := by
 obtain ⟨c, d, rfl, P, C⟩ := r.opn
 have E := Ch.refl (bl (.slice c a.length d)) w
 refine Yf (N := 41) (vs0 := [(.slice c a.length d), (.int .i64 k)]) Try.func66 rfl rfl rfl ?_
 refine Zg fun K1 H1 => ?_
 refine Zc (Za rfl rfl (Zd rfl) (Ze (Zb (H1 _ _ ?_))))
 refine Zg fun K2 H2 => ?_
 refine Zg fun K3 H3 => ?_
 refine Zc (Za rfl rfl (Zd rfl) (Ze (Zb (H3 _ _ ?_))))
 refine Yd ?_
 have s : Ol GEdge.cs e_a 4 w (.slice c a.length d) (Xx k 0 ++ a.drop 0) := by
  have hx := r
  simpa [Xx] using hx
 refine Xd (σ := Nat × Int) (fun ⟨i, kk⟩ => [(0, (.slice c a.length d)), (1, (.int .i64 kk)), (4, (.int .i64 0)), (5, (.int .i64 ((i : Nat) : Int)))]) (fun ⟨i, kk⟩ wx => Ch (bl (.slice c a.length d)) w wx ∧ w.heap.size ≤ wx.heap.size ∧ (i ≤ a.length) ∧ (kk = k + 4 * i) ∧ Ol GEdge.cs e_a 4 wx (.slice c a.length d) (Xx k i ++ a.drop i)) (fun ⟨i, kk⟩ => a.length - i) (0, k) (sC4 rfl rfl rfl rfl (Sub.nil _)) ⟨E, (Nat.le_refl _), om, om, s⟩ ?_
 rintro ⟨i, kk⟩ R5 ⟨E, Q, hi, hq, g⟩
 have x := E
 have D := x.size
 refine Zg fun K6 H6 => ?_
 refine Zg fun K7 H7 => ?_
 refine Zc (Za rfl rfl (Zf rfl) (Za rfl rfl (Zf rfl) (Za rfl rfl (Yz (by rw [el34]; rfl) rfl) (Za rfl rfl (Xh rfl rfl) (Ze (Zb (H7 _ _ ?_)))))))
 refine Zz rfl (fun p => ?_) (fun p => ?_)
 ·have R := p
  have p := Yp p
  refine Zu ?_
  refine Zb (H6 _ _ ?_)
  refine Zg fun K9 H9 => ?_
  refine Yd ?_
  refine Zg fun ap S => ?_
  refine Zc (Za rfl rfl (Zf rfl) (Za rfl rfl (Zf rfl) (Za rfl rfl (Zf rfl) (Zx rfl rfl ?_))))
  refine Yi (j := i) g el34 sz129 rfl rfl rfl (by first | omega | (simp [Xx] <;> omega)) fun T U F y => ?_
  refine Za rfl rfl (Zh fa129_0 rfl) (Zx rfl rfl ?_)
  obtain ⟨b, e⟩ := Zaj (xs := Xx k i ++ a.drop i) (j := i) (by first | omega | (simp [Xx] <;> omega))
  refine Zar (j := i) 0 (⟨b.id, b.f, b.t, b.label⟩ : GEdge) (⟨kk, b.f, b.t, b.label⟩ : GEdge) g y e GEdge.len rfl sz3 rfl rfl rfl rfl fun aq n G => ?_
  have V := G.size
  have E := E.trans G
  refine Ze (Zb (S _ _ ?_))
  refine Zg fun au X => ?_
  refine Zc (Za rfl rfl (Zf rfl) (Za rfl rfl (Ye om rfl rfl) (Za rfl rfl (Zd rfl) (Ze (Zb (X _ _ ?_))))))
  refine Zg fun av Y => ?_
  refine Zc (Za rfl rfl (Zf rfl) (Za rfl rfl (Zf rfl) (Za rfl rfl (Zf rfl) (Zx rfl rfl ?_))))
  refine Yi (j := i) n el34 sz129 rfl rfl rfl (by first | omega | (simp [Xx] <;> omega)) fun Z aa H z => ?_
  refine Za rfl rfl (Zh fa129_1 rfl) (Zx rfl rfl ?_)
  refine Zar (j := i) 1 (⟨kk, b.f, b.t, b.label⟩ : GEdge) (⟨kk, (kk + 1), b.t, b.label⟩ : GEdge) n z (Zcu e _) GEdge.len rfl sz3 rfl rfl rfl rfl fun aw h I => ?_
  rw [List.set_set] at h
  have ab := I.size
  have E := E.trans I
  refine Ze (Zb (Y _ _ ?_))
  refine Zg fun ax ac => ?_
  refine Zc (Za rfl rfl (Zf rfl) (Za rfl rfl (Ye om rfl rfl) (Za rfl rfl (Zd rfl) (Ze (Zb (ac _ _ ?_))))))
  refine Zg fun ay ad => ?_
  refine Zc (Za rfl rfl (Zf rfl) (Za rfl rfl (Zf rfl) (Za rfl rfl (Zf rfl) (Zx rfl rfl ?_))))
  refine Yi (j := i) h el34 sz129 rfl rfl rfl (by first | omega | (simp [Xx] <;> omega)) fun ae af J A => ?_
  refine Za rfl rfl (Zh fa129_2 rfl) (Zx rfl rfl ?_)
  refine Zar (j := i) 2 (⟨kk, (kk + 1), b.t, b.label⟩ : GEdge) (⟨kk, (kk + 1), ((kk + 1) + 1), b.label⟩ : GEdge) h A (Zcu e _) GEdge.len rfl sz3 rfl rfl rfl rfl fun az l K => ?_
  rw [List.set_set] at l
  have ag := K.size
  have E := E.trans K
  refine Ze (Zb (ad _ _ ?_))
  refine Zg fun aA ah => ?_
  refine Zc (Za rfl rfl (Zf rfl) (Za rfl rfl (Ye om rfl rfl) (Za rfl rfl (Zd rfl) (Ze (Zb (ah _ _ ?_))))))
  refine Zg fun aB ai => ?_
  refine Zc (Za rfl rfl (Zf rfl) (Za rfl rfl (Zf rfl) (Za rfl rfl (Zf rfl) (Zx rfl rfl ?_))))
  refine Yi (j := i) l el34 sz129 rfl rfl rfl (by first | omega | (simp [Xx] <;> omega)) fun aj ak L B => ?_
  refine Za rfl rfl (Zh fa129_3 rfl) (Zx rfl rfl ?_)
  refine Zar (j := i) 3 (⟨kk, (kk + 1), ((kk + 1) + 1), b.label⟩ : GEdge) (⟨kk, (kk + 1), ((kk + 1) + 1), (((kk + 1) + 1) + 1)⟩ : GEdge) l B (Zcu e _) GEdge.len rfl sz3 rfl rfl rfl rfl fun al o M => ?_
  rw [List.set_set] at o
  have am := M.size
  have E := E.trans M
  refine Ze (Zb (ai _ _ (Zc (Za rfl rfl (Zf rfl) (Za rfl rfl (Ye om rfl rfl) (Za rfl rfl (Zd rfl) (Ze (Zq ?_))))))))
  refine Zb (H9 _ _ (Zc (Za rfl rfl (Zf rfl) (Za rfl rfl (Ye om rfl rfl) (Za rfl rfl (Zd rfl) (Ze ?_))))))
  have q : Ol GEdge.cs e_a 4 al (.slice c a.length d) (Xx k (i + 1) ++ a.drop (i + 1)) := by
   have hx := o
   rwa [Zgq a om hq] at hx
  exact Zb (Exists.intro ((i + 1), ((((kk + 1) + 1) + 1) + 1)) ⟨⟨E, om, om, om, q⟩, sC4 rfl rfl rfl rfl (Sub.nil _), (by first | omega | (dsimp only; omega))⟩)
 have R := p
 have p := Yq p
 refine Xc (Zt (Zt (Yx ?_)))
 refine Zb (H2 _ _ ?_)
 refine Zg fun aC an => ?_
 refine Zc (Za rfl rfl (Zf rfl) (Za rfl rfl (Zd rfl) (Ze (Zb (an _ _ ?_)))))
 refine Yb ?_
 have u : Ol GEdge.cs e_a 4 R5 (.slice c a.length d) (Xx k a.length) := by
  have hx := g
  have ao : i = a.length := om; subst ao; simpa using hx
 exact Zi [_] ⟨rfl, trivial⟩ ⟨congrArg (Value.int .i64) om, u, E⟩

/-- laws.markGraph -/
theorem Zde {w : World} {e_aV : Nat} {a : Value} {aV : List Int} (j : Ol ics e_aV 1 w a aV) {e_aE : Nat} {b : Value} {aE : List GEdge} (l : Ol GEdge.cs e_aE 4 w b aE) (m : ∀ g ∈ bl a, g ∉ bl b) (k : Int) (x : 0 ≤ k) (hkk : k + aV.length + 4 * aE.length ≤ 4611686018427387904) :
 Ctr Try.prog 15 #[(.agg #[a, b]), (.int .i64 k)] w (fun v w' => v = .int .i64 (k + aV.length + 4 * aE.length) ∧ Ol ics e_aV 1 w' a (Zca k aV.length) ∧ Ol GEdge.cs e_aE 4 w' b (Xx (k + aV.length) aE.length) ∧ Ch (bl a ++ bl b) w w') := by
 obtain ⟨c, d, rfl, t, h⟩ := j.opn
 obtain ⟨e, f, rfl, u, r⟩ := l.opn
 have E := Ch.refl (bl (.slice c aV.length d) ++ bl (.slice e aE.length f)) w
 refine Yf (N := 14) (vs0 := [(.agg #[(.slice c aV.length d), (.slice e aE.length f)]), (.int .i64 k)]) Try.func15 rfl rfl rfl ?_
 refine Zg fun K1 H1 => ?_
 refine Zc (Zx rfl rfl ?_)
 refine Xj rfl fun y W2 o C2 C => ?_
 have D := C2.size
 have E := E.trans C2.of_nil
 have F := o.lt
 replace o : Blk W2 y 36 [(.slice c aV.length d), (.slice e aE.length f)] := o
 refine Za rfl rfl (Zd rfl) (Ze (Zb (H1 _ _ ?_)))
 refine Zg fun K3 H3 => ?_
 refine Zc (Za rfl rfl (Zh fa36_0 rfl) (Za rfl rfl (Zl o.at_ agg22 rfl rfl) (Za rfl rfl (Zf rfl) (Zx rfl rfl ?_))))
 have F4 := j.ch0 C2
 refine Step.call (Zr (xs := [.tmp 6, .tmp 7]) fk65 rfl) (Zbr F4 _ om (by first | omega | (simp <;> omega))) fun G W5 s => ?_
 obtain ⟨rfl, s, C5⟩ := s
 have H := C5.size
 have E := E.step C5 (fun i hm => .inr (List.mem_append_left _ hm))
 refine Za rfl rfl (Zd rfl) (Ze (Zb (H3 _ _ ?_)))
 refine Zg fun K6 H6 => ?_
 refine Zc (Za rfl rfl (Zh fa36_1 rfl) ?_)
 have F7 := o.ch C5 (fun hm => by have I := h _ hm; have J := h _ hm; omega)
 refine Za rfl rfl (Zl F7.at_ agg34 rfl rfl) (Za rfl rfl (Zf rfl) (Zx rfl rfl ?_))
 have F8 := (l.ch0 C2).ch C5 (fun g hg hm => by exact m _ hm hg)
 refine Step.call (Zr (xs := [.tmp 10, .tmp 11]) fk66 rfl) (Zdg F8 _ om (by first | omega | (simp <;> omega))) fun z W9 n => ?_
 obtain ⟨rfl, n, C9⟩ := n
 have K := C9.size
 have E := E.step C9 (fun i hm => .inr (List.mem_append_right _ hm))
 refine Za rfl rfl (Zd rfl) (Ze (Zb (H6 _ _ ?_)))
 refine Zg fun L A => ?_
 refine Zc (Za rfl rfl (Zf rfl) (Za rfl rfl (Zd rfl) (Ze (Zb (A _ _ ?_)))))
 refine Yb ?_
 have B := s.ch C9 (fun g hg hm => by exact m _ hg hm)
 have p : Ol ics e_aV 1 W9 (.slice c aV.length d) (Zca k aV.length) := B
 have q : Ol GEdge.cs e_aE 4 W9 (.slice e aE.length f) (Xx (k + aV.length) aE.length) := n
 exact Zi [_] ⟨rfl, trivial⟩ ⟨congrArg (Value.int .i64) rfl, p, q, E⟩

/-- laws.markProductStepS -/
theorem Zbd {w : World} {e_a : Nat} {l : Value} {a : List PStep} (r : Ol PStep.cs e_a 4 w l a) (k : Int) (M : 0 ≤ k) (hkk : k + 4 * a.length ≤ 4611686018427387904) :
 Ctr Try.prog 17 #[l, (.int .i64 k)] w (fun v w' => v = .int .i64 (k + 4 * a.length) ∧ Ol PStep.cs e_a 4 w' l (Xo k a.length) ∧ Ch (bl l) w w') := by
 obtain ⟨c, d, rfl, O, B⟩ := r.opn
 have E := Ch.refl (bl (.slice c a.length d)) w
 refine Yf (N := 45) (vs0 := [(.slice c a.length d), (.int .i64 k)]) Try.func17 rfl rfl rfl ?_
 refine Zg fun K1 H1 => ?_
 refine Zc (Za rfl rfl (Zd rfl) (Ze (Zb (H1 _ _ ?_))))
 refine Zg fun K2 H2 => ?_
 refine Zg fun K3 H3 => ?_
 refine Zc (Za rfl rfl (Zd rfl) (Ze (Zb (H3 _ _ ?_))))
 refine Yd ?_
 have s : Ol PStep.cs e_a 4 w (.slice c a.length d) (Xo k 0 ++ a.drop 0) := by
  have hx := r
  simpa [Xo] using hx
 refine Xd (σ := Nat × Int) (fun ⟨i, kk⟩ => [(0, (.slice c a.length d)), (1, (.int .i64 kk)), (4, (.int .i64 0)), (5, (.int .i64 ((i : Nat) : Int)))]) (fun ⟨i, kk⟩ wx => Ch (bl (.slice c a.length d)) w wx ∧ w.heap.size ≤ wx.heap.size ∧ (i ≤ a.length) ∧ (kk = k + 4 * i) ∧ Ol PStep.cs e_a 4 wx (.slice c a.length d) (Xo k i ++ a.drop i)) (fun ⟨i, kk⟩ => a.length - i) (0, k) (sC4 rfl rfl rfl rfl (Sub.nil _)) ⟨E, (Nat.le_refl _), om, om, s⟩ ?_
 rintro ⟨i, kk⟩ R5 ⟨E, P, hi, hq, f⟩
 have u := E
 have C := u.size
 refine Zg fun K6 H6 => ?_
 refine Zg fun K7 H7 => ?_
 refine Zc (Za rfl rfl (Zf rfl) (Za rfl rfl (Zf rfl) (Za rfl rfl (Yz (by rw [el32]; rfl) rfl) (Za rfl rfl (Xh rfl rfl) (Ze (Zb (H7 _ _ ?_)))))))
 refine Zz rfl (fun p => ?_) (fun p => ?_)
 ·have Q := p
  have p := Yp p
  refine Zu ?_
  refine Zb (H6 _ _ ?_)
  refine Zg fun K9 H9 => ?_
  refine Yd ?_
  refine Zg fun ao R => ?_
  refine Zc (Za rfl rfl (Zf rfl) (Za rfl rfl (Zf rfl) (Za rfl rfl (Zf rfl) (Zx rfl rfl ?_))))
  refine Yi (j := i) f el32 sz103 rfl rfl rfl (by first | omega | (simp [Xo] <;> omega)) fun S T D x => ?_
  refine Za rfl rfl (Zh fa103_0 rfl) (Za rfl rfl (Zas (n := 0) fa97_0 rfl rfl) (Zx rfl rfl ?_))
  obtain ⟨b, e⟩ := Zaj (xs := Xo k i ++ a.drop i) (j := i) (by first | omega | (simp [Xo] <;> omega))
  refine Zar (j := i) 0 (⟨b.edge, b.back, b.node, b.state⟩ : PStep) (⟨kk, b.back, b.node, b.state⟩ : PStep) f x e PStep.len rfl sz3 rfl rfl rfl rfl fun ap m F => ?_
  have U := F.size
  have E := E.trans F
  refine Ze (Zb (R _ _ ?_))
  refine Zg fun aq V => ?_
  refine Zc (Za rfl rfl (Zf rfl) (Za rfl rfl (Ye om rfl rfl) (Za rfl rfl (Zd rfl) (Ze (Zb (V _ _ ?_))))))
  refine Zg fun au X => ?_
  refine Zc (Za rfl rfl (Zf rfl) (Za rfl rfl (Zf rfl) (Za rfl rfl (Zf rfl) (Za rfl rfl (Zla om rfl rfl) (Za rfl rfl (Zbv rfl rfl) (Zx rfl rfl ?_))))))
  refine Yi (j := i) m el32 sz103 rfl rfl rfl (by first | omega | (simp [Xo] <;> omega)) fun Y Z G y => ?_
  refine Za rfl rfl (Zh fa103_0 rfl) (Za rfl rfl (Zas (n := 1) fa97_1 rfl rfl) (Zx rfl rfl ?_))
  refine Zar (j := i) 1 (⟨kk, b.back, b.node, b.state⟩ : PStep) (⟨kk, decide (((kk + 1).tmod 3) = 0), b.node, b.state⟩ : PStep) m y (Zcu e _) PStep.len rfl sz4 rfl rfl rfl rfl fun av g H => ?_
  rw [List.set_set] at g
  have aa := H.size
  have E := E.trans H
  refine Ze (Zb (X _ _ ?_))
  refine Zg fun aw ab => ?_
  refine Zc (Za rfl rfl (Zf rfl) (Za rfl rfl (Ye om rfl rfl) (Za rfl rfl (Zd rfl) (Ze (Zb (ab _ _ ?_))))))
  refine Zg fun ax ac => ?_
  refine Zc (Za rfl rfl (Zf rfl) (Za rfl rfl (Zf rfl) (Za rfl rfl (Zf rfl) (Zx rfl rfl ?_))))
  refine Yi (j := i) g el32 sz103 rfl rfl rfl (by first | omega | (simp [Xo] <;> omega)) fun ad ae I z => ?_
  refine Za rfl rfl (Zh fa103_1 rfl) (Zx rfl rfl ?_)
  refine Zar (j := i) 2 (⟨kk, decide (((kk + 1).tmod 3) = 0), b.node, b.state⟩ : PStep) (⟨kk, decide (((kk + 1).tmod 3) = 0), ((kk + 1) + 1), b.state⟩ : PStep) g z (Zcu e _) PStep.len rfl sz3 rfl rfl rfl rfl fun ay h J => ?_
  rw [List.set_set] at h
  have af := J.size
  have E := E.trans J
  refine Ze (Zb (ac _ _ ?_))
  refine Zg fun az ag => ?_
  refine Zc (Za rfl rfl (Zf rfl) (Za rfl rfl (Ye om rfl rfl) (Za rfl rfl (Zd rfl) (Ze (Zb (ag _ _ ?_))))))
  refine Zg fun aA ah => ?_
  refine Zc (Za rfl rfl (Zf rfl) (Za rfl rfl (Zf rfl) (Za rfl rfl (Zf rfl) (Zx rfl rfl ?_))))
  refine Yi (j := i) h el32 sz103 rfl rfl rfl (by first | omega | (simp [Xo] <;> omega)) fun ai aj K A => ?_
  refine Za rfl rfl (Zh fa103_2 rfl) (Zx rfl rfl ?_)
  refine Zar (j := i) 3 (⟨kk, decide (((kk + 1).tmod 3) = 0), ((kk + 1) + 1), b.state⟩ : PStep) (⟨kk, decide (((kk + 1).tmod 3) = 0), ((kk + 1) + 1), (((kk + 1) + 1) + 1)⟩ : PStep) h A (Zcu e _) PStep.len rfl sz3 rfl rfl rfl rfl fun ak o L => ?_
  rw [List.set_set] at o
  have al := L.size
  have E := E.trans L
  refine Ze (Zb (ah _ _ (Zc (Za rfl rfl (Zf rfl) (Za rfl rfl (Ye om rfl rfl) (Za rfl rfl (Zd rfl) (Ze (Zq ?_))))))))
  refine Zb (H9 _ _ (Zc (Za rfl rfl (Zf rfl) (Za rfl rfl (Ye om rfl rfl) (Za rfl rfl (Zd rfl) (Ze ?_))))))
  have q : Ol PStep.cs e_a 4 ak (.slice c a.length d) (Xo k (i + 1) ++ a.drop (i + 1)) := by
   have hx := o
   rwa [Zgo a om hq] at hx
  exact Zb (Exists.intro ((i + 1), ((((kk + 1) + 1) + 1) + 1)) ⟨⟨E, om, om, om, q⟩, sC4 rfl rfl rfl rfl (Sub.nil _), (by first | omega | (dsimp only; omega))⟩)
 have Q := p
 have p := Yq p
 refine Xc (Zt (Zt (Yx ?_)))
 refine Zb (H2 _ _ ?_)
 refine Zg fun aB am => ?_
 refine Zc (Za rfl rfl (Zf rfl) (Za rfl rfl (Zd rfl) (Ze (Zb (am _ _ ?_)))))
 refine Yb ?_
 have t : Ol PStep.cs e_a 4 R5 (.slice c a.length d) (Xo k a.length) := by
  have hx := f
  have an : i = a.length := om; subst an; simpa using hx
 exact Zi [_] ⟨rfl, trivial⟩ ⟨congrArg (Value.int .i64) om, t, E⟩

/-- laws.szBoolS -/
theorem Zej {w : World} {LL_a f : Nat} {d : Value} {a : List Bool} (c : Ls bcs 1 w LL_a f d a) (left : Int) (hl : left ≤ 1048576) (k : 0 ≤ left) :
 Ctr Try.prog 47 #[d, (.int .i64 left)] w (fun v w' => v = .int .i64 (if left < a.length then -1 else left - a.length) ∧ Ch [] w w') := by
 obtain ⟨g, h, e⟩ := c.val
 subst e
 have i := c.len
 have c := c.here (by decide)
 have E := Ch.refl [] w
 refine Yf (N := 12) (vs0 := [(.slice g a.length h), (.int .i64 left)]) Try.func47 rfl rfl rfl ?_
 refine Zg fun K1 H1 => ?_
 refine Zc (Za rfl rfl (Zd rfl) (Ze (Zb (H1 _ _ ?_))))
 refine Zg fun K2 H2 => ?_
 refine Zc (Za rfl rfl (Zf rfl) (Za rfl rfl (Zf rfl) (Za rfl rfl (Yz (by rw [el26]; rfl) rfl) (Za rfl rfl (Zbf om rfl rfl) (Za rfl rfl (Zd rfl) (Ze (Zb (H2 _ _ ?_))))))))
 refine Zg fun K3 H3 => ?_
 refine Zg fun K4 H4 => ?_
 refine Zc (Za rfl rfl (Zf rfl) (Za rfl rfl (Xh rfl rfl) (Ze (Zb (H4 _ _ ?_)))))
 refine Zz rfl (fun b => ?_) (fun b => ?_)
 ·have j := b
  have b := Yp b
  refine Zg fun K6 H6 => ?_
  refine Zc (Za rfl rfl (Zd rfl) (Ze (Zb (H6 _ _ ?_))))
  refine Yb (Zp ?_)
  exact Zi [_] ⟨rfl, trivial⟩ ⟨congrArg (Value.int .i64) (if_pos om).symm, E⟩
 have j := b
 have b := Yq b
 refine Zu ?_
 refine Zb (H3 _ _ ?_)
 refine Zg fun K7 H7 => ?_
 refine Zc (Za rfl rfl (Zf rfl) (Za rfl rfl (Zd rfl) (Ze (Zb (H7 _ _ ?_)))))
 refine Yb ?_
 exact Zi [_] ⟨rfl, trivial⟩ ⟨congrArg (Value.int .i64) (if_neg om).symm, E⟩

/-- laws.szIntS -/
theorem Zcr {w : World} {LL_a f : Nat} {d : Value} {a : List Int} (c : Ls ics 1 w LL_a f d a) (left : Int) (hl : left ≤ 1048576) (k : 0 ≤ left) :
 Ctr Try.prog 45 #[d, (.int .i64 left)] w (fun v w' => v = .int .i64 (if left < a.length then -1 else left - a.length) ∧ Ch [] w w') := by
 obtain ⟨g, h, e⟩ := c.val
 subst e
 have i := c.len
 have c := c.here (by decide)
 have E := Ch.refl [] w
 refine Yf (N := 12) (vs0 := [(.slice g a.length h), (.int .i64 left)]) Try.func45 rfl rfl rfl ?_
 refine Zg fun K1 H1 => ?_
 refine Zc (Za rfl rfl (Zd rfl) (Ze (Zb (H1 _ _ ?_))))
 refine Zg fun K2 H2 => ?_
 refine Zc (Za rfl rfl (Zf rfl) (Za rfl rfl (Zf rfl) (Za rfl rfl (Yz (by rw [el22]; rfl) rfl) (Za rfl rfl (Zbf om rfl rfl) (Za rfl rfl (Zd rfl) (Ze (Zb (H2 _ _ ?_))))))))
 refine Zg fun K3 H3 => ?_
 refine Zg fun K4 H4 => ?_
 refine Zc (Za rfl rfl (Zf rfl) (Za rfl rfl (Xh rfl rfl) (Ze (Zb (H4 _ _ ?_)))))
 refine Zz rfl (fun b => ?_) (fun b => ?_)
 ·have j := b
  have b := Yp b
  refine Zg fun K6 H6 => ?_
  refine Zc (Za rfl rfl (Zd rfl) (Ze (Zb (H6 _ _ ?_))))
  refine Yb (Zp ?_)
  exact Zi [_] ⟨rfl, trivial⟩ ⟨congrArg (Value.int .i64) (if_pos om).symm, E⟩
 have j := b
 have b := Yq b
 refine Zu ?_
 refine Zb (H3 _ _ ?_)
 refine Zg fun K7 H7 => ?_
 refine Zc (Za rfl rfl (Zf rfl) (Za rfl rfl (Zd rfl) (Ze (Zb (H7 _ _ ?_)))))
 refine Yb ?_
 exact Zi [_] ⟨rfl, trivial⟩ ⟨congrArg (Value.int .i64) (if_neg om).symm, E⟩

/-- laws.szIntSS -/
theorem Zen {w : World} {LL_sa r : Nat} {j : Value} {sa : List Sv} (b : Ls Sv.cs 1 w LL_sa r j sa) {LR_a BB_a : Nat} {a : List (List Int)} (h : Rd ics 1 w LR_a BB_a sa a) (left : Int) (hl : left ≤ 1048576) (Z : 0 ≤ left) :
 Ctr Try.prog 48 #[j, (.int .i64 left)] w (fun v w' => v = .int .i64 (if left < a.length + a.flatten.length then -1 else left - a.length - a.flatten.length) ∧ Ch [] w w') := by
 obtain ⟨l, n, o⟩ := b.val
 subst o
 have C := b.len
 have b := b.here (by decide)
 have h := h.here (by decide)
 have D := h.1
 have E := Ch.refl [] w
 refine Yf (N := 27) (vs0 := [(.slice l sa.length n), (.int .i64 left)]) Try.func48 rfl rfl rfl ?_
 refine Zg fun K1 H1 => ?_
 refine Zc (Za rfl rfl (Zd rfl) (Ze (Zb (H1 _ _ ?_))))
 refine Zg fun K2 H2 => ?_
 refine Zc (Za rfl rfl (Zf rfl) (Za rfl rfl (Zf rfl) (Za rfl rfl (Yz (by rw [el27]; rfl) rfl) (Za rfl rfl (Zbf om rfl rfl) (Za rfl rfl (Zd rfl) (Ze (Zb (H2 _ _ ?_))))))))
 refine Zg fun K3 H3 => ?_
 refine Zg fun K4 H4 => ?_
 refine Zc (Za rfl rfl (Zf rfl) (Za rfl rfl (Xh rfl rfl) (Ze (Zb (H4 _ _ ?_)))))
 refine Zz rfl (fun e => ?_) (fun e => ?_)
 ·have J := e
  have e := Yp e
  refine Zg fun K6 H6 => ?_
  refine Zc (Za rfl rfl (Zd rfl) (Ze (Zb (H6 _ _ ?_))))
  refine Yb (Zp ?_)
  exact Zi [_] ⟨rfl, trivial⟩ ⟨congrArg (Value.int .i64) (if_pos om).symm, E⟩
 have J := e
 have e := Yq e
 refine Zu ?_
 refine Zb (H3 _ _ ?_)
 refine Zg fun K7 H7 => ?_
 refine Zg fun K8 H8 => ?_
 refine Zc (Za rfl rfl (Zd rfl) (Ze (Zb (H8 _ _ ?_))))
 refine Yd ?_
 refine Xd (σ := Nat × Int) (fun ⟨k, m⟩ => [(0, (.slice l sa.length n)), (1, (.int .i64 m)), (5, (.int .i64 ((k : Nat) : Int)))]) (fun ⟨k, m⟩ wx => Ch [] w wx ∧ w.heap.size ≤ wx.heap.size ∧ (k ≤ a.length) ∧ (m = left - a.length - (a.take k).flatten.length) ∧ (0 ≤ m)) (fun ⟨k, m⟩ => a.length - k) (0, (left - ((sa.length : Nat) : Int))) (sC2 rfl rfl (sC1 rfl (Sub.nil _))) ⟨E, (Nat.le_refl _), om, (by simp; omega), om⟩ ?_
 rintro ⟨k, m⟩ R9 ⟨E, K, aa, hm, hn⟩
 have p := E
 have F := p.size
 refine Zg fun ab L => ?_
 refine Zg fun ac M => ?_
 refine Zc (Za rfl rfl (Zf rfl) (Za rfl rfl (Zf rfl) (Za rfl rfl (Yz (by rw [el27]; rfl) rfl) (Za rfl rfl (Xh rfl rfl) (Ze (Zb (M _ _ ?_)))))))
 refine Zz rfl (fun f => ?_) (fun f => ?_)
 ·have x := f
  have f := Yp f
  refine Zu ?_
  refine Zb (L _ _ ?_)
  refine Zg fun ad G => ?_
  refine Yd ?_
  refine Zg fun ae O => ?_
  refine Zc (Za rfl rfl (Zf rfl) (Za rfl rfl (Zf rfl) (Zx rfl rfl ?_)))
  have P := b.ch0 p
  refine (Yc P Sv.len el27 sz22 rfl rfl rfl om fun y z s q => ?_)
  have Q := h.ch0 p
  obtain ⟨c, i, d⟩ := Q.get s
  obtain ⟨t, R, u⟩ := z
  obtain rfl := d.eqn
  have S := d.len
  replace d : Ls ics 1 R9 LR_a w.heap.size (.slice t c.length u) c := d
  replace q : At R9 LL_sa w.heap.size y ([(.slice t c.length u)]) := q
  refine Za rfl rfl (Ya q agg22 rfl rfl) (Za rfl rfl (Zf rfl) (Zx rfl rfl ?_))
  refine Step.call (Zr (xs := [.tmp 21, .tmp 22]) fk45 rfl) (Zcr d _ om om) fun T af A => ?_
  obtain ⟨rfl, H⟩ := A
  have U := H.size
  have E := E.trans H
  refine Za rfl rfl (Zd rfl) (Ze (Zb (O _ _ ?_)))
  refine Zg fun ag V => ?_
  refine Zc (Za rfl rfl (Zf rfl) (Za rfl rfl (Xh rfl rfl) (Ze (Zb (V _ _ ?_)))))
  refine Zz rfl (fun g => ?_) (fun g => ?_)
  ·have B := g
   have g := Yp g
   refine Zg fun ah X => ?_
   refine Zc (Za rfl rfl (Zd rfl) (Ze (Zb (X _ _ ?_))))
   refine Yb (Yw (Zp (Zp (Yw (Zp ?_)))))
   clear H7 G
   exact Zi [_] ⟨rfl, trivial⟩ ⟨congrArg (Value.int .i64) (if_pos (by have I := Zle i; omega)).symm, E⟩
  have B := g
  have g := Yq g
  refine Zu ?_
  refine Zq (Zb (G _ _ (Zc (Za rfl rfl (Zf rfl) (Za rfl rfl (Ye om rfl rfl) (Za rfl rfl (Zd rfl) (Ze ?_)))))))
  exact Zb (Exists.intro ((k + 1), if m < c.length then -1 else m - c.length) ⟨⟨E, om, om, (by have I := Zkq i; omega), om⟩, sC2 rfl rfl (sC1 rfl (Sub.nil _)), (by first | omega | (dsimp only; omega))⟩)
 have x := f
 have f := Yq f
 refine Xc (Zt (Zt (Yx ?_)))
 refine Zb (H7 _ _ ?_)
 refine Zg fun ai Y => ?_
 refine Zc (Za rfl rfl (Zf rfl) (Za rfl rfl (Zd rfl) (Ze (Zb (Y _ _ ?_)))))
 refine Yb ?_
 exact Zi [_] ⟨rfl, trivial⟩ ⟨congrArg (Value.int .i64) (by have I := Ziz (show a.length ≤ k by omega); omega), E⟩

/-- laws.szAutomaton -/
theorem Zcs {w : World} (aS : Int) {LL_aA o : Nat} {j : Value} {aA : List Bool} (c : Ls bcs 1 w LL_aA o j aA) {LL_saN m : Nat} {f : Value} {saN : List Sv} (a : Ls Sv.cs 1 w LL_saN m f saN) {LR_aN BB_aN : Nat} {aN : List (List Int)} (b : Rd ics 1 w LR_aN BB_aN saN aN) (left : Int) (hl : left ≤ 1048576) (M : 0 ≤ left) :
 Ctr Try.prog 7 #[(.agg #[(.int .i64 aS), j, f]), (.int .i64 left)] w (fun v w' => v = .int .i64 (if left < aA.length + aN.length + aN.flatten.length then -1 else left - aA.length - aN.length - aN.flatten.length) ∧ Ch [] w w') := by
 obtain ⟨k, l, n⟩ := c.val
 subst n
 have u := c.len
 have c := c.here (by decide)
 obtain ⟨g, h, i⟩ := a.val
 subst i
 have q := a.len
 have a := a.here (by decide)
 have b := b.here (by decide)
 have r := b.1
 have E := Ch.refl [] w
 refine Yf (N := 18) (vs0 := [(.agg #[(.int .i64 aS), (.slice k aA.length l), (.slice g saN.length h)]), (.int .i64 left)]) Try.func7 rfl rfl rfl ?_
 refine Zg fun K1 H1 => ?_
 refine Zc (Zx rfl rfl ?_)
 refine Xj rfl fun y W2 p C2 O => ?_
 have P := C2.size
 have E := E.trans C2
 have Q := p.lt
 replace p : Blk W2 y 29 [(.int .i64 aS), (.slice k aA.length l), (.slice g saN.length h)] := p
 refine Za rfl rfl (Zd rfl) (Ze (Zb (H1 _ _ ?_)))
 refine Zg fun K3 H3 => ?_
 refine Zc (Za rfl rfl (Zh fa29_1 rfl) (Za rfl rfl (Zl p.at_ agg26 rfl rfl) (Za rfl rfl (Zf rfl) (Zx rfl rfl ?_))))
 have F4 := c.ch0 C2
 refine Step.call (Zr (xs := [.tmp 6, .tmp 7]) fk47 rfl) (Zej F4 _ om om) fun R W5 z => ?_
 obtain ⟨rfl, C5⟩ := z
 have S := C5.size
 have E := E.trans C5
 refine Za rfl rfl (Zd rfl) (Ze (Zb (H3 _ _ ?_)))
 refine Zg fun K6 H6 => ?_
 refine Zg fun K7 H7 => ?_
 refine Zc (Za rfl rfl (Zf rfl) (Za rfl rfl (Xh rfl rfl) (Ze (Zb (H7 _ _ ?_)))))
 refine Zz rfl (fun d => ?_) (fun d => ?_)
 ·have A := d
  have d := Yp d
  refine Zg fun K9 H9 => ?_
  refine Zc (Za rfl rfl (Zd rfl) (Ze (Zb (H9 _ _ ?_))))
  refine Yb (Zp ?_)
  exact Zi [_] ⟨rfl, trivial⟩ ⟨congrArg (Value.int .i64) om, E⟩
 have A := d
 have d := Yq d
 refine Zu ?_
 refine Zb (H6 _ _ ?_)
 refine Zg fun T B => ?_
 refine Zc (Za rfl rfl (Zh fa29_2 rfl) ?_)
 have C := p.ch0 C5
 refine Za rfl rfl (Zl C.at_ agg27 rfl rfl) (Za rfl rfl (Zf rfl) (Zx rfl rfl ?_))
 have D := (b.ch0 C2).ch0 C5
 have F := (a.ch0 C2).ch0 C5
 refine Step.call (Zr (xs := [.tmp 12, .tmp 13]) fk48 rfl) (Zen F D _ om om) fun G U s => ?_
 obtain ⟨rfl, x⟩ := s
 have H := x.size
 have E := E.trans x
 refine Za rfl rfl (Zd rfl) (Ze (Zb (B _ _ ?_)))
 refine Zg fun V I => ?_
 refine Zg fun X J => ?_
 refine Zc (Za rfl rfl (Zf rfl) (Za rfl rfl (Xh rfl rfl) (Ze (Zb (J _ _ ?_)))))
 refine Zz rfl (fun e => ?_) (fun e => ?_)
 ·have t := e
  have e := Yp e
  refine Zg fun Y K => ?_
  refine Zc (Za rfl rfl (Zd rfl) (Ze (Zb (K _ _ ?_))))
  refine Yb (Zp ?_)
  exact Zi [_] ⟨rfl, trivial⟩ ⟨congrArg (Value.int .i64) om, E⟩
 have t := e
 have e := Yq e
 refine Zu ?_
 refine Zb (I _ _ ?_)
 refine Zg fun Z L => ?_
 refine Zc (Za rfl rfl (Zf rfl) (Za rfl rfl (Zd rfl) (Ze (Zb (L _ _ ?_)))))
 refine Yb ?_
 exact Zi [_] ⟨rfl, trivial⟩ ⟨congrArg (Value.int .i64) om, E⟩

/-- laws.szEdgeS -/
theorem Zeg {w : World} {LL_a f : Nat} {d : Value} {a : List GEdge} (c : Ls GEdge.cs 4 w LL_a f d a) (left : Int) (hl : left ≤ 1048576) (k : 0 ≤ left) :
 Ctr Try.prog 46 #[d, (.int .i64 left)] w (fun v w' => v = .int .i64 (if left < a.length then -1 else left - a.length) ∧ Ch [] w w') := by
 obtain ⟨g, h, e⟩ := c.val
 subst e
 have i := c.len
 have c := c.here (by decide)
 have E := Ch.refl [] w
 refine Yf (N := 12) (vs0 := [(.slice g a.length h), (.int .i64 left)]) Try.func46 rfl rfl rfl ?_
 refine Zg fun K1 H1 => ?_
 refine Zc (Za rfl rfl (Zd rfl) (Ze (Zb (H1 _ _ ?_))))
 refine Zg fun K2 H2 => ?_
 refine Zc (Za rfl rfl (Zf rfl) (Za rfl rfl (Zf rfl) (Za rfl rfl (Yz (by rw [el23]; rfl) rfl) (Za rfl rfl (Zbf om rfl rfl) (Za rfl rfl (Zd rfl) (Ze (Zb (H2 _ _ ?_))))))))
 refine Zg fun K3 H3 => ?_
 refine Zg fun K4 H4 => ?_
 refine Zc (Za rfl rfl (Zf rfl) (Za rfl rfl (Xh rfl rfl) (Ze (Zb (H4 _ _ ?_)))))
 refine Zz rfl (fun b => ?_) (fun b => ?_)
 ·have j := b
  have b := Yp b
  refine Zg fun K6 H6 => ?_
  refine Zc (Za rfl rfl (Zd rfl) (Ze (Zb (H6 _ _ ?_))))
  refine Yb (Zp ?_)
  exact Zi [_] ⟨rfl, trivial⟩ ⟨congrArg (Value.int .i64) (if_pos om).symm, E⟩
 have j := b
 have b := Yq b
 refine Zu ?_
 refine Zb (H3 _ _ ?_)
 refine Zg fun K7 H7 => ?_
 refine Zc (Za rfl rfl (Zf rfl) (Za rfl rfl (Zd rfl) (Ze (Zb (H7 _ _ ?_)))))
 refine Yb ?_
 exact Zi [_] ⟨rfl, trivial⟩ ⟨congrArg (Value.int .i64) (if_neg om).symm, E⟩

/-- laws.szGraph -/
theorem Zeh {w : World} {LL_aV m : Nat} {e : Value} {aV : List Int} (a : Ls ics 1 w LL_aV m e aV) {LL_aE n : Nat} {f : Value} {aE : List GEdge} (b : Ls GEdge.cs 4 w LL_aE n f aE) (left : Int) (hl : left ≤ 1048576) (J : 0 ≤ left) :
 Ctr Try.prog 6 #[(.agg #[e, f]), (.int .i64 left)] w (fun v w' => v = .int .i64 (if left < aV.length + aE.length then -1 else left - aV.length - aE.length) ∧ Ch [] w w') := by
 obtain ⟨g, h, k⟩ := a.val
 subst k
 have r := a.len
 have a := a.here (by decide)
 obtain ⟨i, j, l⟩ := b.val
 subst l
 have s := b.len
 have b := b.here (by decide)
 have E := Ch.refl [] w
 refine Yf (N := 18) (vs0 := [(.agg #[(.slice g aV.length h), (.slice i aE.length j)]), (.int .i64 left)]) Try.func6 rfl rfl rfl ?_
 refine Zg fun K1 H1 => ?_
 refine Zc (Zx rfl rfl ?_)
 refine Xj rfl fun u W2 o C2 K => ?_
 have L := C2.size
 have E := E.trans C2
 have M := o.lt
 replace o : Blk W2 u 25 [(.slice g aV.length h), (.slice i aE.length j)] := o
 refine Za rfl rfl (Zd rfl) (Ze (Zb (H1 _ _ ?_)))
 refine Zg fun K3 H3 => ?_
 refine Zc (Za rfl rfl (Zh fa25_0 rfl) (Za rfl rfl (Zl o.at_ agg22 rfl rfl) (Za rfl rfl (Zf rfl) (Zx rfl rfl ?_))))
 have F4 := a.ch0 C2
 refine Step.call (Zr (xs := [.tmp 6, .tmp 7]) fk45 rfl) (Zcr F4 _ om om) fun O W5 x => ?_
 obtain ⟨rfl, C5⟩ := x
 have P := C5.size
 have E := E.trans C5
 refine Za rfl rfl (Zd rfl) (Ze (Zb (H3 _ _ ?_)))
 refine Zg fun K6 H6 => ?_
 refine Zg fun K7 H7 => ?_
 refine Zc (Za rfl rfl (Zf rfl) (Za rfl rfl (Xh rfl rfl) (Ze (Zb (H7 _ _ ?_)))))
 refine Zz rfl (fun c => ?_) (fun c => ?_)
 ·have y := c
  have c := Yp c
  refine Zg fun K9 H9 => ?_
  refine Zc (Za rfl rfl (Zd rfl) (Ze (Zb (H9 _ _ ?_))))
  refine Yb (Zp ?_)
  exact Zi [_] ⟨rfl, trivial⟩ ⟨congrArg (Value.int .i64) (by repeat (first | omega | split)), E⟩
 have y := c
 have c := Yq c
 refine Zu ?_
 refine Zb (H6 _ _ ?_)
 refine Zg fun Q z => ?_
 refine Zc (Za rfl rfl (Zh fa25_1 rfl) ?_)
 have A := o.ch0 C5
 refine Za rfl rfl (Zl A.at_ agg23 rfl rfl) (Za rfl rfl (Zf rfl) (Zx rfl rfl ?_))
 have B := (b.ch0 C2).ch0 C5
 refine Step.call (Zr (xs := [.tmp 12, .tmp 13]) fk46 rfl) (Zeg B _ om om) fun C R p => ?_
 obtain ⟨rfl, t⟩ := p
 have D := t.size
 have E := E.trans t
 refine Za rfl rfl (Zd rfl) (Ze (Zb (z _ _ ?_)))
 refine Zg fun S F => ?_
 refine Zg fun T G => ?_
 refine Zc (Za rfl rfl (Zf rfl) (Za rfl rfl (Xh rfl rfl) (Ze (Zb (G _ _ ?_)))))
 refine Zz rfl (fun d => ?_) (fun d => ?_)
 ·have q := d
  have d := Yp d
  refine Zg fun U H => ?_
  refine Zc (Za rfl rfl (Zd rfl) (Ze (Zb (H _ _ ?_))))
  refine Yb (Zp ?_)
  exact Zi [_] ⟨rfl, trivial⟩ ⟨congrArg (Value.int .i64) (by repeat (first | omega | split)), E⟩
 have q := d
 have d := Yq d
 refine Zu ?_
 refine Zb (F _ _ ?_)
 refine Zg fun V I => ?_
 refine Zc (Za rfl rfl (Zf rfl) (Za rfl rfl (Zd rfl) (Ze (Zb (I _ _ ?_)))))
 refine Yb ?_
 exact Zi [_] ⟨rfl, trivial⟩ ⟨congrArg (Value.int .i64) (by repeat (first | omega | split)), E⟩

/-- laws.toBoolS -/
theorem Zem {w : World} {LL_a u : Nat} {h : Value} {a : List Bool} (c : Ls bcs 1 w LL_a u h a) (hb : a.length ≤ 1048576) :
 Ctr Try.prog 53 #[h] w (fun v w' => Ol bcs 4 1 w' v (a) ∧ Lo w.heap.size v ∧ Ch [] w w') := by
 obtain ⟨l, m, n⟩ := c.val
 subst n
 have H := c.len
 have c := c.here (by decide)
 have E := Ch.refl [] w
 refine Yf (N := 22) (vs0 := [(.slice l a.length m)]) Try.func53 rfl rfl rfl ?_
 refine Zg fun K1 H1 => ?_
 refine Zc (Za rfl rfl (Zd rfl) (Ze (Zb (H1 _ _ ?_))))
 refine Zg fun K2 H2 => ?_
 refine Zc (Za rfl rfl (Zf rfl) (Za rfl rfl (Yz (by rw [el26]; rfl) rfl) (Zx rfl rfl ?_)))
 refine Zfv (cs := bcs) false el26 sz4 by4 zr4 Zcc (by decide) rfl rfl om om fun T W3 B o C3 => ?_
 have U := C3.size
 have E := E.trans C3
 obtain ⟨d, e, rfl, I, C⟩ := B.opn
 refine Za rfl rfl (Zd rfl) (Ze (Zb (H2 _ _ ?_)))
 refine Zg fun K4 H4 => ?_
 refine Zg fun K5 H5 => ?_
 refine Zc (Za rfl rfl (Zd rfl) (Ze (Zb (H5 _ _ ?_))))
 refine Yd ?_
 have p : Ol bcs 4 1 W3 (.slice d ((List.replicate a.length false)).length e) (a.take 0 ++ List.replicate (a.length - 0) false) := by
  have hx := B
  simpa using hx
 refine Xd (σ := Nat) (fun (k : Nat) => [(0, (.slice l a.length m)), (2, (.slice none 0 0)), (3, (.slice d ((List.replicate a.length false)).length e)), (4, (.int .i64 ((k : Nat) : Int)))]) (fun (k : Nat) wx => Ch [] w wx ∧ W3.heap.size ≤ wx.heap.size ∧ (k ≤ a.length) ∧ Ol bcs 4 1 wx (.slice d ((List.replicate a.length false)).length e) (a.take k ++ List.replicate (a.length - k) false)) (fun (k : Nat) => a.length - k) 0 (sC4 rfl rfl rfl rfl (Sub.nil _)) ⟨E, (Nat.le_refl _), om, p⟩ ?_
 rintro k R7 ⟨E, J, V, f⟩
 have q := E
 have D := q.size
 refine Zg fun K8 H8 => ?_
 refine Zg fun K9 H9 => ?_
 refine Zc (Za rfl rfl (Zf rfl) (Za rfl rfl (Zf rfl) (Za rfl rfl (Yz (by rw [el26]; rfl) rfl) (Za rfl rfl (Xh rfl rfl) (Ze (Zb (H9 _ _ ?_)))))))
 refine Zz rfl (fun b => ?_) (fun b => ?_)
 ·have x := b
  have b := Yp b
  refine Zu ?_
  refine Zb (H8 _ _ ?_)
  refine Zg fun X K => ?_
  refine Yd ?_
  refine Zc (Za rfl rfl (Zf rfl) (Za rfl rfl (Zf rfl) (Za rfl rfl (Zf rfl) (Za rfl rfl (Zf rfl) (Zx rfl rfl ?_)))))
  have L := c.ch0 q
  refine (Yc L Zcc el26 sz4 rfl rfl rfl om fun M y r z => ?_)
  refine Za rfl rfl (Ya z agg4 rfl rfl) (Zx rfl rfl ?_)
  refine Yi (j := k) f el26 sz4 rfl rfl rfl (by simp; omega) fun O P F A => ?_
  refine Zx rfl rfl ?_
  refine Yn (j := k) y f A Zcc sz4 rfl rfl rfl rfl (by simp; omega) fun Q s G => ?_
  have R := G.size
  have E := E.step G (fun i hi => .inl (by have Y := o _ hi; omega))
  refine Ze (Zq (Zb (K _ _ (Zc (Za rfl rfl (Zf rfl) (Za rfl rfl (Ye om rfl rfl) (Za rfl rfl (Zd rfl) (Ze ?_))))))))
  have g : Ol bcs 4 1 Q (.slice d ((List.replicate a.length false)).length e) (a.take (k + 1) ++ List.replicate (a.length - (k + 1)) false) := by
   have hx := s
   rwa [Zdq a false r] at hx
  exact Zb (Exists.intro (k + 1) ⟨⟨E, om, om, g⟩, sC4 rfl rfl rfl rfl (Sub.nil _), (by first | omega | (dsimp only; omega))⟩)
 have x := b
 have b := Yq b
 refine Xc (Zt (Zt (Yx ?_)))
 refine Zb (H4 _ _ ?_)
 refine Zg fun Z S => ?_
 refine Zc (Za rfl rfl (Zf rfl) (Za rfl rfl (Zd rfl) (Ze (Zb (S _ _ ?_)))))
 refine Yb ?_
 have t : Ol bcs 4 1 R7 (.slice d ((List.replicate a.length false)).length e) (a) := by
  have hx := f
  simpa [List.take_of_length_le (show a.length ≤ k by omega), show a.length - k = 0 by omega] using hx
 exact Zi [_] ⟨rfl, trivial⟩ ⟨t, Lo.down o om, E⟩

/-- laws.toIntS -/
theorem Zcq {w : World} {LL_a u : Nat} {h : Value} {a : List Int} (c : Ls ics 1 w LL_a u h a) (hb : a.length ≤ 1048576) :
 Ctr Try.prog 51 #[h] w (fun v w' => Ol ics 3 1 w' v (a) ∧ Lo w.heap.size v ∧ Ch [] w w') := by
 obtain ⟨l, m, n⟩ := c.val
 subst n
 have H := c.len
 have c := c.here (by decide)
 have E := Ch.refl [] w
 refine Yf (N := 22) (vs0 := [(.slice l a.length m)]) Try.func51 rfl rfl rfl ?_
 refine Zg fun K1 H1 => ?_
 refine Zc (Za rfl rfl (Zd rfl) (Ze (Zb (H1 _ _ ?_))))
 refine Zg fun K2 H2 => ?_
 refine Zc (Za rfl rfl (Zf rfl) (Za rfl rfl (Yz (by rw [el22]; rfl) rfl) (Zx rfl rfl ?_)))
 refine Zfv (cs := ics) (0 : Int) el22 sz3 by3 zr3 Xr (by decide) rfl rfl om om fun T W3 B o C3 => ?_
 have U := C3.size
 have E := E.trans C3
 obtain ⟨d, e, rfl, I, C⟩ := B.opn
 refine Za rfl rfl (Zd rfl) (Ze (Zb (H2 _ _ ?_)))
 refine Zg fun K4 H4 => ?_
 refine Zg fun K5 H5 => ?_
 refine Zc (Za rfl rfl (Zd rfl) (Ze (Zb (H5 _ _ ?_))))
 refine Yd ?_
 have p : Ol ics 3 1 W3 (.slice d ((List.replicate a.length (0 : Int))).length e) (a.take 0 ++ List.replicate (a.length - 0) (0 : Int)) := by
  have hx := B
  simpa using hx
 refine Xd (σ := Nat) (fun (k : Nat) => [(0, (.slice l a.length m)), (2, (.slice none 0 0)), (3, (.slice d ((List.replicate a.length (0 : Int))).length e)), (4, (.int .i64 ((k : Nat) : Int)))]) (fun (k : Nat) wx => Ch [] w wx ∧ W3.heap.size ≤ wx.heap.size ∧ (k ≤ a.length) ∧ Ol ics 3 1 wx (.slice d ((List.replicate a.length (0 : Int))).length e) (a.take k ++ List.replicate (a.length - k) (0 : Int))) (fun (k : Nat) => a.length - k) 0 (sC4 rfl rfl rfl rfl (Sub.nil _)) ⟨E, (Nat.le_refl _), om, p⟩ ?_
 rintro k R7 ⟨E, J, V, f⟩
 have q := E
 have D := q.size
 refine Zg fun K8 H8 => ?_
 refine Zg fun K9 H9 => ?_
 refine Zc (Za rfl rfl (Zf rfl) (Za rfl rfl (Zf rfl) (Za rfl rfl (Yz (by rw [el22]; rfl) rfl) (Za rfl rfl (Xh rfl rfl) (Ze (Zb (H9 _ _ ?_)))))))
 refine Zz rfl (fun b => ?_) (fun b => ?_)
 ·have x := b
  have b := Yp b
  refine Zu ?_
  refine Zb (H8 _ _ ?_)
  refine Zg fun X K => ?_
  refine Yd ?_
  refine Zc (Za rfl rfl (Zf rfl) (Za rfl rfl (Zf rfl) (Za rfl rfl (Zf rfl) (Za rfl rfl (Zf rfl) (Zx rfl rfl ?_)))))
  have L := c.ch0 q
  refine (Yc L Xr el22 sz3 rfl rfl rfl om fun M y r z => ?_)
  refine Za rfl rfl (Ya z agg3 rfl rfl) (Zx rfl rfl ?_)
  refine Yi (j := k) f el22 sz3 rfl rfl rfl (by simp; omega) fun O P F A => ?_
  refine Zx rfl rfl ?_
  refine Yn (j := k) y f A Xr sz3 rfl rfl rfl rfl (by simp; omega) fun Q s G => ?_
  have R := G.size
  have E := E.step G (fun i hi => .inl (by have Y := o _ hi; omega))
  refine Ze (Zq (Zb (K _ _ (Zc (Za rfl rfl (Zf rfl) (Za rfl rfl (Ye om rfl rfl) (Za rfl rfl (Zd rfl) (Ze ?_))))))))
  have g : Ol ics 3 1 Q (.slice d ((List.replicate a.length (0 : Int))).length e) (a.take (k + 1) ++ List.replicate (a.length - (k + 1)) (0 : Int)) := by
   have hx := s
   rwa [Zdq a (0 : Int) r] at hx
  exact Zb (Exists.intro (k + 1) ⟨⟨E, om, om, g⟩, sC4 rfl rfl rfl rfl (Sub.nil _), (by first | omega | (dsimp only; omega))⟩)
 have x := b
 have b := Yq b
 refine Xc (Zt (Zt (Yx ?_)))
 refine Zb (H4 _ _ ?_)
 refine Zg fun Z S => ?_
 refine Zc (Za rfl rfl (Zf rfl) (Za rfl rfl (Zd rfl) (Ze (Zb (S _ _ ?_)))))
 refine Yb ?_
 have t : Ol ics 3 1 R7 (.slice d ((List.replicate a.length (0 : Int))).length e) (a) := by
  have hx := f
  simpa [List.take_of_length_le (show a.length ≤ k by omega), show a.length - k = 0 by omega] using hx
 exact Zi [_] ⟨rfl, trivial⟩ ⟨t, Lo.down o om, E⟩

/-- laws.toIntSS -/
theorem Zel {w : World} {LL_sa G : Nat} {t : Value} {sa : List Sv} (c : Ls Sv.cs 1 w LL_sa G t sa) {LR_a BB_a : Nat} {a : List (List Int)} (f : Rd ics 1 w LR_a BB_a sa a) (hb : a.length + a.flatten.length ≤ 1048576) :
 Ctr Try.prog 54 #[t] w (fun v w' => ∃ (Q : Value) (vs0 : List Sv), v = Q ∧ Ol Sv.cs 22 1 w' Q vs0 ∧ Lo w.heap.size Q ∧ Od ics 3 1 w' w.heap.size w'.heap.size vs0 (a) ∧ Sep Q vs0 ∧ Ch [] w w') := by
 obtain ⟨x, y, B⟩ := c.val
 subst B
 have Z := c.len
 have c := c.here (by decide)
 have f := f.here (by decide)
 have H := f.1
 have E := Ch.refl [] w
 refine Yf (N := 23) (vs0 := [(.slice x sa.length y)]) Try.func54 rfl rfl rfl ?_
 refine Zg fun K1 H1 => ?_
 refine Zc (Za rfl rfl (Zd rfl) (Ze (Zb (H1 _ _ ?_))))
 refine Zg fun K2 H2 => ?_
 refine Zc (Za rfl rfl (Zf rfl) (Za rfl rfl (Yz (by rw [el27]; rfl) rfl) (Zx rfl rfl ?_)))
 refine Zfv (cs := Sv.cs) (⟨none, 0, 0⟩ : Sv) el27 sz22 by22 zr22 Sv.len (by decide) rfl rfl om om fun aA W3 aa m C3 => ?_
 have aB := C3.size
 have E := E.trans C3
 obtain ⟨h, l, rfl, ag, n⟩ := aa.opn
 refine Za rfl rfl (Zd rfl) (Ze (Zb (H2 _ _ ?_)))
 refine Zg fun K4 H4 => ?_
 refine Zg fun K5 H5 => ?_
 refine Zc (Za rfl rfl (Zd rfl) (Ze (Zb (H5 _ _ ?_))))
 refine Yd ?_
 have I : Ol Sv.cs 22 1 W3 (.slice h ((List.replicate sa.length (⟨none, 0, 0⟩ : Sv))).length l) (([] : List Sv) ++ List.replicate (a.length - 0) (⟨none, 0, 0⟩ : Sv)) := by
  have hx := aa
  simpa [H] using hx
 refine Xd (σ := Nat × List Sv) (fun ⟨k, vs⟩ => [(0, (.slice x sa.length y)), (2, (.slice none 0 0)), (3, (.slice h ((List.replicate sa.length (⟨none, 0, 0⟩ : Sv))).length l)), (4, (.int .i64 ((k : Nat) : Int)))]) (fun ⟨k, vs⟩ wx => Ch [] w wx ∧ W3.heap.size ≤ wx.heap.size ∧ (k ≤ a.length) ∧ (vs.length = k) ∧ Ol Sv.cs 22 1 wx (.slice h ((List.replicate sa.length (⟨none, 0, 0⟩ : Sv))).length l) (vs ++ List.replicate (a.length - k) (⟨none, 0, 0⟩ : Sv)) ∧ Od ics 3 1 wx W3.heap.size wx.heap.size vs (a.take k)) (fun ⟨k, vs⟩ => a.length - k) (0, ([] : List Sv)) (sC4 rfl rfl rfl rfl (Sub.nil _)) ⟨E, (Nat.le_refl _), om, rfl, I, Od.nil⟩ ?_
 rintro ⟨k, vs⟩ R7 ⟨E, ah, aC, hv, z, od⟩
 have C := E
 have ab := C.size
 refine Zg fun K8 H8 => ?_
 refine Zg fun K9 H9 => ?_
 refine Zc (Za rfl rfl (Zf rfl) (Za rfl rfl (Zf rfl) (Za rfl rfl (Yz (by rw [el27]; rfl) rfl) (Za rfl rfl (Xh rfl rfl) (Ze (Zb (H9 _ _ ?_)))))))
 refine Zz rfl (fun e => ?_) (fun e => ?_)
 ·have U := e
  have e := Yp e
  refine Zu ?_
  refine Zb (H8 _ _ ?_)
  refine Zg fun aD ai => ?_
  refine Yd ?_
  refine Zc (Za rfl rfl (Zf rfl) (Za rfl rfl (Zf rfl) (Za rfl rfl (Zf rfl) (Za rfl rfl (Zf rfl) (Zx rfl rfl ?_)))))
  have aj := c.ch0 C
  refine (Yc aj Sv.len el27 sz22 rfl rfl rfl om fun V X J D => ?_)
  have ak := f.ch0 C
  obtain ⟨b, o, d⟩ := ak.get J
  obtain ⟨K, al, L⟩ := X
  obtain rfl := d.eqn
  have am := d.len
  replace d : Ls ics 1 R7 LR_a w.heap.size (.slice K b.length L) b := d
  replace D : At R7 LL_sa w.heap.size V ([(.slice K b.length L)]) := D
  refine Za rfl rfl (Ya D agg22 rfl rfl) (Zx rfl rfl ?_)
  refine Step.call (Zr (xs := [.tmp 19]) fk51 rfl) (Zcq d (by have an := Zle o; omega)) fun ao aE s => ?_
  obtain ⟨s, A, R⟩ := s
  have ap := R.size
  have E := E.trans R
  obtain ⟨p, q, rfl, ac, r⟩ := s.opn
  refine Zx rfl rfl ?_
  have ad := z.ch0 R
  refine Yi (j := k) ad el27 sz22 rfl rfl rfl (by simp; omega) fun aq au ae Y => ?_
  refine Zx rfl rfl ?_
  refine Yn (j := k) (⟨p, (b).length, q⟩ : Sv) ad Y Sv.len sz22 rfl rfl rfl rfl (by simp; omega) fun av M S => ?_
  have aw := S.size
  have E := E.step S (fun i hi => .inl (by have T := m _ hi; omega))
  refine Ze (Zq (Zb (ai _ _ (Zc (Za rfl rfl (Zf rfl) (Za rfl rfl (Ye om rfl rfl) (Za rfl rfl (Zd rfl) (Ze ?_))))))))
  have F : Ol Sv.cs 22 1 av (.slice h ((List.replicate sa.length (⟨none, 0, 0⟩ : Sv))).length l) ((vs ++ [(⟨p, (b).length, q⟩ : Sv)]) ++ List.replicate (a.length - (k + 1)) (⟨none, 0, 0⟩ : Sv)) := by
   have hx := M
   rwa [Zlh hv om] at hx
  have ax := (od.ch0 R).ch S (fun i hm => by have T := m _ hm; have af := n _ hm; omega)
  have ay := s.ch S (fun g hg hm => by have T := m _ hm; have af := n _ hm; have aF := A _ hg; have aG := r _ hg; omega)
  exact Zb (Exists.intro ((k + 1), (vs ++ [(⟨p, (b).length, q⟩ : Sv)])) ⟨⟨E, om, om, (by simp [hv]), F, (by rw [Zao o]; exact Od.snoc ax ay (Lo.down A om) (fun g hg => by have T := r g hg; omega) om om)⟩, sC4 rfl rfl rfl rfl (Sub.nil _), (by first | omega | (dsimp only; omega))⟩)
 have U := e
 have e := Yq e
 refine Xc (Zt (Zt (Yx ?_)))
 refine Zb (H4 _ _ ?_)
 refine Zg fun aH az => ?_
 refine Zc (Za rfl rfl (Zf rfl) (Za rfl rfl (Zd rfl) (Ze (Zb (az _ _ ?_)))))
 refine Yb ?_
 have O : Ol Sv.cs 22 1 R7 (.slice h ((List.replicate sa.length (⟨none, 0, 0⟩ : Sv))).length l) vs := by
  have hx := z
  simpa [show a.length - k = 0 by omega, show sa.length - k = 0 by omega] using hx
 have P : Od ics 3 1 R7 w.heap.size R7.heap.size vs (a) := by
  have hx := od.up (lo' := w.heap.size) (hi' := R7.heap.size) om om
  rwa [List.take_of_length_le om] at hx
 exact Zi [_] ⟨rfl, trivial⟩ ⟨(.slice h ((List.replicate sa.length (⟨none, 0, 0⟩ : Sv))).length l), vs, rfl, O, (Lo.down m om), P, (fun u hu g hg hm => by have an := od.rng hu hg; have T := m _ hm; have af := n _ hm; omega), E⟩

/-- laws.toAutomaton -/
theorem Qm {w : World} (aS : Int) {LL_aA P : Nat} {D : Value} {aA : List Bool} (i : Ls bcs 1 w LL_aA P D aA) {LL_saN H : Nat} {r : Value} {saN : List Sv} (e : Ls Sv.cs 1 w LL_saN H r saN) {LR_aN BB_aN : Nat} {aN : List (List Int)} (h : Rd ics 1 w LR_aN BB_aN saN aN) (hb : aA.length + aN.length + aN.flatten.length ≤ 1048576) :
 Ctr Try.prog 10 #[(.agg #[(.int .i64 aS), D, r])] w (fun v w' => ∃ (s : Value) (t : Value) (p : List Sv), v = .agg #[.int .i64 aS, s, t] ∧ Ol bcs 4 1 w' s (aA) ∧ Lo w.heap.size s ∧ Ol Sv.cs 22 1 w' t p ∧ Lo w.heap.size t ∧ Od ics 3 1 w' w.heap.size w'.heap.size p (aN) ∧ Sep t p ∧ (∀ g ∈ bl s, g ∉ bl t) ∧ Sep s p ∧ Ch [] w w') := by
 obtain ⟨F, G, I⟩ := i.val
 subst I
 have af := i.len
 have i := i.here (by decide)
 obtain ⟨x, y, C⟩ := e.val
 subst C
 have ab := e.len
 have e := e.here (by decide)
 have h := h.here (by decide)
 have ac := h.1
 have E := Ch.refl [] w
 refine Yf (N := 16) (vs0 := [(.agg #[(.int .i64 aS), (.slice F aA.length G), (.slice x saN.length y)])]) Try.func10 rfl rfl rfl ?_
 refine Zg fun K1 H1 => ?_
 refine Zc (Zx rfl rfl ?_)
 refine Xj rfl fun ak W2 V C2 aM => ?_
 have aO := C2.size
 have E := E.trans C2
 have aP := V.lt
 replace V : Blk W2 ak 29 [(.int .i64 aS), (.slice F aA.length G), (.slice x saN.length y)] := V
 refine Zx rfl rfl ?_
 refine Qr zr38 fun ag W3 X C3 aQ => ?_
 have aR := C3.size
 have E := E.trans C3
 have aT := X.lt
 replace X : Blk W3 ag 38 [(.int .i64 0), (.slice none 0 0), (.slice none 0 0)] := X
 refine Ze (Zb (H1 _ _ ?_))
 refine Zg fun K4 H4 => ?_
 refine Zc (Zx rfl rfl ?_)
 refine Qr zr38 fun Y W5 Z C5 aU => ?_
 have aV := C5.size
 have E := E.trans C5
 have aW := Z.lt
 replace Z : Blk W5 Y 38 [(.int .i64 0), (.slice none 0 0), (.slice none 0 0)] := Z
 refine Ze (Zb (H4 _ _ ?_))
 refine Zg fun K6 H6 => ?_
 refine Zc (Za rfl rfl (Zh fa29_0 rfl) ?_)
 have F7 := (V.ch0 C3).ch0 C5
 refine Za rfl rfl (Zl F7.at_ agg3 rfl rfl) (Za rfl rfl (Zh fa38_0 rfl) (Zx rfl rfl ?_))
 refine Zak (off := 0) Z sz3 rfl rfl rfl rfl fun W8 J C8 => ?_
 have aX := C8.size
 have E := E.step C8 (lS om)
 replace J : Blk W8 Y 38 [(.int .i64 aS), (.slice none 0 0), (.slice none 0 0)] := J
 refine Ze (Zb (H6 _ _ ?_))
 refine Zg fun aY al => ?_
 refine Zc (Za rfl rfl (Zh fa29_1 rfl) ?_)
 have ah := F7.ch C8 (nS om)
 refine Za rfl rfl (Zl ah.at_ agg26 rfl rfl) (Zx rfl rfl ?_)
 have am := (((i.ch0 C2).ch0 C3).ch0 C5).ch C8 (oS om)
 refine Step.call (Zr (xs := [.tmp 8]) fk53 rfl) (Zem am om) fun aZ a0 aa => ?_
 obtain ⟨aa, q, K⟩ := aa
 have an := K.size
 have E := E.trans K
 obtain ⟨m, n, rfl, ao, j⟩ := aa.opn
 refine Za rfl rfl (Zh fa38_1 rfl) (Zx rfl rfl ?_)
 have ap := J.ch0 K
 refine Zak (off := 1) ap sz26 rfl rfl rfl rfl fun aq z L => ?_
 have au := L.size
 have E := E.step L (lS om)
 replace z : Blk aq Y 38 [(.int .i64 aS), (.slice m (aA).length n), (.slice none 0 0)] := z
 refine Ze (Zb (al _ _ ?_))
 refine Zg fun a1 av => ?_
 refine Zc (Za rfl rfl (Zh fa29_2 rfl) ?_)
 have aw := (ah.ch0 K).ch L (nS om)
 refine Za rfl rfl (Zl aw.at_ agg27 rfl rfl) (Zx rfl rfl ?_)
 have ax := (((((h.ch0 C2).ch0 C3).ch0 C5).ch C8 (oS om)).ch0 K).ch L (oS om)
 have ay := (((((e.ch0 C2).ch0 C3).ch0 C5).ch C8 (oS om)).ch0 K).ch L (oS om)
 refine Step.call (Zr (xs := [.tmp 12]) fk54 rfl) (Zel ay ax om) fun az a2 ad => ?_
 obtain ⟨ai, a, rfl, k, b, o, l, Q⟩ := ad
 have aB := Q.size
 have E := E.trans Q
 obtain ⟨c, d, rfl, ae, f⟩ := k.opn
 refine Za rfl rfl (Zh fa38_2 rfl) (Zx rfl rfl ?_)
 have aC := z.ch0 Q
 refine Zak (off := 2) aC sz27 rfl rfl rfl rfl fun aD A M => ?_
 have aE := M.size
 have E := E.step M (lS om)
 replace A : Blk aD Y 38 [(.int .i64 aS), (.slice m (aA).length n), (.slice c (a).length d)] := A
 refine Ze (Zb (av _ _ ?_))
 refine Zg fun a3 aF => ?_
 refine Zc (Za rfl rfl (Zs A.at_ agg38 sz38 rfl) (Zx rfl rfl ?_))
 have aG := (((((X.ch0 C5).ch C8 (nS om)).ch0 K).ch L (nS om)).ch0 Q).ch M (nS om)
 refine Qw (off := 0) 3 aG sz38 rfl (us := [(.int .i64 aS), (.slice m (aA).length n), (.slice c (a).length d)]) rfl rfl rfl rfl fun O B R => ?_
 have aH := R.size
 have E := E.step R (lS om)
 replace B : Blk O ag 38 [(.int .i64 aS), (.slice m (aA).length n), (.slice c (a).length d)] := B
 refine Ze (Zb (aF _ _ ?_))
 refine Yb ?_
 have aI := (((aa.ch L (dS q j om)).ch0 Q).ch M (dS q j om)).ch R (dS q j om)
 have S : Ol bcs 4 1 O (.slice m (aA).length n) (aA) := by
  have hx := aI
  first | exact hx | simpa using hx
 have aJ := (k.ch M (dS b f om)).ch R (dS b f om)
 have aj := (o.ch M (oS om)).ch R (oS om)
 have T : Ol Sv.cs 22 1 O (.slice c (a).length d) a := by
  have hx := aJ
  exact hx
 have U : Od ics 3 1 O w.heap.size O.heap.size a (aN) := by
  have hx := aj.up (lo' := w.heap.size) (hi' := O.heap.size) om om
  exact hx
 exact Zi [_] (Zcd B rfl agg38 sz38 trivial) ⟨(.slice m (aA).length n), (.slice c (a).length d), a, (congrArg (fun zq => (Value.agg #[.int .i64 zq, (.slice m (aA).length n), (.slice c (a).length d)])) (by first | rfl | simp_all)), S, (Lo.down q om), T, (Lo.down b om), U, l, (fun g hm hg => by have aK := q _ hm; have aL := j _ hm; have a4 := b _ hg; have a5 := f _ hg; omega), (fun u hu g hg hm => by have a6 := aj.rng hu hg; have aK := q _ hm; have aL := j _ hm; omega), E⟩

/-- laws.toEdge -/
theorem Zfl {w : World} (a : GEdge) :
 Ctr Try.prog 102 #[(.agg #[(.int .i64 a.id), (.int .i64 a.f), (.int .i64 a.t), (.int .i64 a.label)])] w (fun v w' => v = .agg (GEdge.cs (a)).toArray ∧ Ch [] w w') := by
 have E := Ch.refl [] w
 refine Yf (N := 17) (vs0 := [(.agg #[(.int .i64 a.id), (.int .i64 a.f), (.int .i64 a.t), (.int .i64 a.label)])]) Try.func102 rfl rfl rfl ?_
 refine Zg fun K1 H1 => ?_
 refine Zc (Zx rfl rfl ?_)
 refine Xj rfl fun s W2 i C2 L => ?_
 have M := C2.size
 have E := E.trans C2
 have O := i.lt
 replace i : Blk W2 s 137 [(.int .i64 a.id), (.int .i64 a.f), (.int .i64 a.t), (.int .i64 a.label)] := i
 refine Zx rfl rfl ?_
 refine Qr zr129 fun o W3 j C3 P => ?_
 have Q := C3.size
 have E := E.trans C3
 have R := j.lt
 replace j : Blk W3 o 129 [(.int .i64 0), (.int .i64 0), (.int .i64 0), (.int .i64 0)] := j
 refine Ze (Zb (H1 _ _ ?_))
 refine Zg fun K4 H4 => ?_
 refine Zc (Zx rfl rfl ?_)
 refine Qr zr129 fun h W5 k C5 S => ?_
 have T := C5.size
 have E := E.trans C5
 have U := k.lt
 replace k : Blk W5 h 129 [(.int .i64 0), (.int .i64 0), (.int .i64 0), (.int .i64 0)] := k
 refine Ze (Zb (H4 _ _ ?_))
 refine Zg fun K6 H6 => ?_
 refine Zc (Za rfl rfl (Zh fa137_0 rfl) ?_)
 have F7 := (i.ch0 C3).ch0 C5
 refine Za rfl rfl (Zl F7.at_ agg3 rfl rfl) (Za rfl rfl (Zh fa129_0 rfl) (Zx rfl rfl ?_))
 refine Zak (off := 0) k sz3 rfl rfl rfl rfl fun W8 g C8 => ?_
 have V := C8.size
 have E := E.step C8 (lS om)
 replace g : Blk W8 h 129 [(.int .i64 a.id), (.int .i64 0), (.int .i64 0), (.int .i64 0)] := g
 refine Ze (Zb (H6 _ _ ?_))
 refine Zg fun X u => ?_
 refine Zc (Za rfl rfl (Zh fa137_1 rfl) ?_)
 have p := F7.ch C8 (nS om)
 refine Za rfl rfl (Zl p.at_ agg3 rfl rfl) (Za rfl rfl (Zh fa129_1 rfl) (Zx rfl rfl ?_))
 refine Zak (off := 1) g sz3 rfl rfl rfl rfl fun x b l => ?_
 have y := l.size
 have E := E.step l (lS om)
 replace b : Blk x h 129 [(.int .i64 a.id), (.int .i64 a.f), (.int .i64 0), (.int .i64 0)] := b
 refine Ze (Zb (u _ _ ?_))
 refine Zg fun Y z => ?_
 refine Zc (Za rfl rfl (Zh fa137_2 rfl) ?_)
 have q := p.ch l (nS om)
 refine Za rfl rfl (Zl q.at_ agg3 rfl rfl) (Za rfl rfl (Zh fa129_2 rfl) (Zx rfl rfl ?_))
 refine Zak (off := 2) b sz3 rfl rfl rfl rfl fun A c m => ?_
 have B := m.size
 have E := E.step m (lS om)
 replace c : Blk A h 129 [(.int .i64 a.id), (.int .i64 a.f), (.int .i64 a.t), (.int .i64 0)] := c
 refine Ze (Zb (z _ _ ?_))
 refine Zg fun Z C => ?_
 refine Zc (Za rfl rfl (Zh fa137_3 rfl) ?_)
 have D := q.ch m (nS om)
 refine Za rfl rfl (Zl D.at_ agg3 rfl rfl) (Za rfl rfl (Zh fa129_3 rfl) (Zx rfl rfl ?_))
 refine Zak (off := 3) c sz3 rfl rfl rfl rfl fun F d n => ?_
 have G := n.size
 have E := E.step n (lS om)
 replace d : Blk F h 129 [(.int .i64 a.id), (.int .i64 a.f), (.int .i64 a.t), (.int .i64 a.label)] := d
 refine Ze (Zb (C _ _ ?_))
 refine Zg fun aa H => ?_
 refine Zc (Za rfl rfl (Zs d.at_ agg129 sz129 rfl) (Zx rfl rfl ?_))
 have I := ((((j.ch0 C5).ch C8 (nS om)).ch l (nS om)).ch m (nS om)).ch n (nS om)
 refine Qw (off := 0) 4 I sz129 rfl (us := [(.int .i64 a.id), (.int .i64 a.f), (.int .i64 a.t), (.int .i64 a.label)]) rfl rfl rfl rfl fun J e r => ?_
 have K := r.size
 have E := E.step r (lS om)
 replace e : Blk J o 129 [(.int .i64 a.id), (.int .i64 a.f), (.int .i64 a.t), (.int .i64 a.label)] := e
 refine Ze (Zb (H _ _ ?_))
 refine Yb ?_
 exact Zi [_] (Zcd e rfl agg129 sz129 trivial) ⟨by simp [Zdn, GEdge.cs], E⟩

/-- laws.toEdgeS -/
theorem Zei {w : World} {LL_a x : Nat} {h : Value} {a : List GEdge} (c : Ls GEdge.cs 4 w LL_a x h a) (hb : a.length ≤ 1048576) :
 Ctr Try.prog 52 #[h] w (fun v w' => Ol GEdge.cs 129 4 w' v (a) ∧ Lo w.heap.size v ∧ Ch [] w w') := by
 obtain ⟨l, m, n⟩ := c.val
 subst n
 have K := c.len
 have c := c.here (by decide)
 have E := Ch.refl [] w
 refine Yf (N := 23) (vs0 := [(.slice l a.length m)]) Try.func52 rfl rfl rfl ?_
 refine Zg fun K1 H1 => ?_
 refine Zc (Za rfl rfl (Zd rfl) (Ze (Zb (H1 _ _ ?_))))
 refine Zg fun K2 H2 => ?_
 refine Zc (Za rfl rfl (Zf rfl) (Za rfl rfl (Yz (by rw [el23]; rfl) rfl) (Zx rfl rfl ?_)))
 refine Zfv (cs := GEdge.cs) (⟨0, 0, 0, 0⟩ : GEdge) el34 sz129 by129 zr129 GEdge.len (by decide) rfl rfl om om fun Z W3 D o C3 => ?_
 have aa := C3.size
 have E := E.trans C3
 obtain ⟨d, e, rfl, L, F⟩ := D.opn
 refine Za rfl rfl (Zd rfl) (Ze (Zb (H2 _ _ ?_)))
 refine Zg fun K4 H4 => ?_
 refine Zg fun K5 H5 => ?_
 refine Zc (Za rfl rfl (Zd rfl) (Ze (Zb (H5 _ _ ?_))))
 refine Yd ?_
 have p : Ol GEdge.cs 129 4 W3 (.slice d ((List.replicate a.length (⟨0, 0, 0, 0⟩ : GEdge))).length e) (a.take 0 ++ List.replicate (a.length - 0) (⟨0, 0, 0, 0⟩ : GEdge)) := by
  have hx := D
  simpa using hx
 refine Xd (σ := Nat) (fun (k : Nat) => [(0, (.slice l a.length m)), (2, (.slice none 0 0)), (3, (.slice d ((List.replicate a.length (⟨0, 0, 0, 0⟩ : GEdge))).length e)), (4, (.int .i64 ((k : Nat) : Int)))]) (fun (k : Nat) wx => Ch [] w wx ∧ W3.heap.size ≤ wx.heap.size ∧ (k ≤ a.length) ∧ Ol GEdge.cs 129 4 wx (.slice d ((List.replicate a.length (⟨0, 0, 0, 0⟩ : GEdge))).length e) (a.take k ++ List.replicate (a.length - k) (⟨0, 0, 0, 0⟩ : GEdge))) (fun (k : Nat) => a.length - k) 0 (sC4 rfl rfl rfl rfl (Sub.nil _)) ⟨E, (Nat.le_refl _), om, p⟩ ?_
 rintro k R7 ⟨E, M, ab, f⟩
 have q := E
 have G := q.size
 refine Zg fun K8 H8 => ?_
 refine Zg fun K9 H9 => ?_
 refine Zc (Za rfl rfl (Zf rfl) (Za rfl rfl (Zf rfl) (Za rfl rfl (Yz (by rw [el23]; rfl) rfl) (Za rfl rfl (Xh rfl rfl) (Ze (Zb (H9 _ _ ?_)))))))
 refine Zz rfl (fun b => ?_) (fun b => ?_)
 ·have y := b
  have b := Yp b
  refine Zu ?_
  refine Zb (H8 _ _ ?_)
  refine Zg fun ac O => ?_
  refine Yd ?_
  refine Zc (Za rfl rfl (Zf rfl) (Za rfl rfl (Zf rfl) (Za rfl rfl (Zf rfl) (Za rfl rfl (Zf rfl) (Zx rfl rfl ?_)))))
  have P := c.ch0 q
  refine (Yc P GEdge.len el23 sz137 rfl rfl rfl om fun Q r s z => ?_)
  refine Za rfl rfl (Zs z agg137 sz137 rfl) (Zx rfl rfl ?_)
  refine Step.call (Zr (xs := [.tmp 19]) fk102 rfl) (Zfl r ) fun R ad A => ?_
  obtain ⟨rfl, B⟩ := A
  have S := B.size
  have E := E.trans B
  refine Zx rfl rfl ?_
  have H := f.ch0 B
  refine Yi (j := k) H el34 sz129 rfl rfl rfl (by simp; omega) fun T U I C => ?_
  refine Zx rfl rfl ?_
  refine Yn (j := k) r H C GEdge.len sz129 rfl rfl rfl rfl (by simp; omega) fun V t J => ?_
  have X := J.size
  have E := E.step J (fun i hi => .inl (by have ae := o _ hi; omega))
  refine Ze (Zq (Zb (O _ _ (Zc (Za rfl rfl (Zf rfl) (Za rfl rfl (Ye om rfl rfl) (Za rfl rfl (Zd rfl) (Ze ?_))))))))
  have g : Ol GEdge.cs 129 4 V (.slice d ((List.replicate a.length (⟨0, 0, 0, 0⟩ : GEdge))).length e) (a.take (k + 1) ++ List.replicate (a.length - (k + 1)) (⟨0, 0, 0, 0⟩ : GEdge)) := by
   have hx := t
   rwa [Zdq a (⟨0, 0, 0, 0⟩ : GEdge) s] at hx
  exact Zb (Exists.intro (k + 1) ⟨⟨E, om, om, g⟩, sC4 rfl rfl rfl rfl (Sub.nil _), (by first | omega | (dsimp only; omega))⟩)
 have y := b
 have b := Yq b
 refine Xc (Zt (Zt (Yx ?_)))
 refine Zb (H4 _ _ ?_)
 refine Zg fun af Y => ?_
 refine Zc (Za rfl rfl (Zf rfl) (Za rfl rfl (Zd rfl) (Ze (Zb (Y _ _ ?_)))))
 refine Yb ?_
 have u : Ol GEdge.cs 129 4 R7 (.slice d ((List.replicate a.length (⟨0, 0, 0, 0⟩ : GEdge))).length e) (a) := by
  have hx := f
  simpa [List.take_of_length_le (show a.length ≤ k by omega), show a.length - k = 0 by omega] using hx
 exact Zi [_] ⟨rfl, trivial⟩ ⟨u, Lo.down o om, E⟩

/-- laws.toGraph -/
theorem Zae {w : World} {LL_aV C : Nat} {r : Value} {aV : List Int} (a : Ls ics 1 w LL_aV C r aV) {LL_aE D : Nat} {s : Value} {aE : List GEdge} (b : Ls GEdge.cs 4 w LL_aE D s aE) (hb : aV.length + aE.length ≤ 1048576) :
 Ctr Try.prog 9 #[(.agg #[r, s])] w (fun v w' => ∃ (o : Value) (p : Value), v = .agg #[o, p] ∧ Ol ics 3 1 w' o (aV) ∧ Lo w.heap.size o ∧ Ol GEdge.cs 129 4 w' p (aE) ∧ Lo w.heap.size p ∧ (∀ g ∈ bl o, g ∉ bl p) ∧ Ch [] w w') := by
 obtain ⟨t, u, z⟩ := a.val
 subst z
 have R := a.len
 have a := a.here (by decide)
 obtain ⟨x, y, A⟩ := b.val
 subst A
 have S := b.len
 have b := b.here (by decide)
 have E := Ch.refl [] w
 refine Yf (N := 13) (vs0 := [(.agg #[(.slice t aV.length u), (.slice x aE.length y)])]) Try.func9 rfl rfl rfl ?_
 refine Zg fun K1 H1 => ?_
 refine Zc (Zx rfl rfl ?_)
 refine Xj rfl fun V W2 J C2 ao => ?_
 have ap := C2.size
 have E := E.trans C2
 have aq := J.lt
 replace J : Blk W2 V 25 [(.slice t aV.length u), (.slice x aE.length y)] := J
 refine Zx rfl rfl ?_
 refine Qr zr36 fun T W3 K C3 au => ?_
 have av := C3.size
 have E := E.trans C3
 have aw := K.lt
 replace K : Blk W3 T 36 [(.slice none 0 0), (.slice none 0 0)] := K
 refine Ze (Zb (H1 _ _ ?_))
 refine Zg fun K4 H4 => ?_
 refine Zc (Zx rfl rfl ?_)
 refine Qr zr36 fun P W5 L C5 ax => ?_
 have ay := C5.size
 have E := E.trans C5
 have az := L.lt
 replace L : Blk W5 P 36 [(.slice none 0 0), (.slice none 0 0)] := L
 refine Ze (Zb (H4 _ _ ?_))
 refine Zg fun K6 H6 => ?_
 refine Zc (Za rfl rfl (Zh fa25_0 rfl) ?_)
 have F7 := (J.ch0 C3).ch0 C5
 refine Za rfl rfl (Zl F7.at_ agg22 rfl rfl) (Zx rfl rfl ?_)
 have F8 := ((a.ch0 C2).ch0 C3).ch0 C5
 refine Step.call (Zr (xs := [.tmp 5]) fk51 rfl) (Zcq F8 om) fun aA W9 M => ?_
 obtain ⟨M, k, C9⟩ := M
 have aB := C9.size
 have E := E.trans C9
 obtain ⟨i, j, rfl, X, f⟩ := M.opn
 refine Za rfl rfl (Zh fa36_0 rfl) (Zx rfl rfl ?_)
 have Y := L.ch0 C9
 refine Zak (off := 0) Y sz22 rfl rfl rfl rfl fun Z l B => ?_
 have aa := B.size
 have E := E.step B (lS om)
 replace l : Blk Z P 36 [(.slice i (aV).length j), (.slice none 0 0)] := l
 refine Ze (Zb (H6 _ _ ?_))
 refine Zg fun aC ab => ?_
 refine Zc (Za rfl rfl (Zh fa25_1 rfl) ?_)
 have ac := (F7.ch0 C9).ch B (nS om)
 refine Za rfl rfl (Zl ac.at_ agg23 rfl rfl) (Zx rfl rfl ?_)
 have ad := ((((b.ch0 C2).ch0 C3).ch0 C5).ch0 C9).ch B (oS om)
 refine Step.call (Zr (xs := [.tmp 9]) fk52 rfl) (Zei ad om) fun ae aD q => ?_
 obtain ⟨q, h, F⟩ := q
 have af := F.size
 have E := E.trans F
 obtain ⟨c, d, rfl, U, e⟩ := q.opn
 refine Za rfl rfl (Zh fa36_1 rfl) (Zx rfl rfl ?_)
 have ag := l.ch0 F
 refine Zak (off := 1) ag sz34 rfl rfl rfl rfl fun ah m G => ?_
 have ai := G.size
 have E := E.step G (lS om)
 replace m : Blk ah P 36 [(.slice i (aV).length j), (.slice c (aE).length d)] := m
 refine Ze (Zb (ab _ _ ?_))
 refine Zg fun aF aj => ?_
 refine Zc (Za rfl rfl (Zs m.at_ agg36 sz36 rfl) (Zx rfl rfl ?_))
 have ak := ((((K.ch0 C5).ch0 C9).ch B (nS om)).ch0 F).ch G (nS om)
 refine Qw (off := 0) 2 ak sz36 rfl (us := [(.slice i (aV).length j), (.slice c (aE).length d)]) rfl rfl rfl rfl fun Q n O => ?_
 have al := O.size
 have E := E.step O (lS om)
 replace n : Blk Q T 36 [(.slice i (aV).length j), (.slice c (aE).length d)] := n
 refine Ze (Zb (aj _ _ ?_))
 refine Yb ?_
 have am := (((M.ch B (dS k f om)).ch0 F).ch G (dS k f om)).ch O (dS k f om)
 have H : Ol ics 3 1 Q (.slice i (aV).length j) (aV) := by
  have hx := am
  first | exact hx | simpa using hx
 have an := (q.ch G (dS h e om)).ch O (dS h e om)
 have I : Ol GEdge.cs 129 4 Q (.slice c (aE).length d) (aE) := by
  have hx := an
  first | exact hx | simpa using hx
 exact Zi [_] (Zcd n rfl agg36 sz36 trivial) ⟨(.slice i (aV).length j), (.slice c (aE).length d), rfl, H, (Lo.down k om), I, (Lo.down h om), (fun g hm hg => by have aG := k _ hm; have aH := f _ hm; have aI := h _ hg; have aJ := e _ hg; omega), E⟩

/-- spec.l1In -/
theorem Xy {w : World} (n : Int) (a : Int) (b : Int) :
 Ctr Try.prog 90 #[(.int .i64 n), (.int .i64 a), (.int .i64 b)] w (fun v w' => v = .bool (decide (a ≤ n ∧ n ≤ b)) ∧ Ch [] w w') := by
 have E := Ch.refl [] w
 refine Yf (N := 15) (vs0 := [(.int .i64 n), (.int .i64 a), (.int .i64 b)]) Try.func90 rfl rfl rfl ?_
 refine Zg fun K1 H1 => ?_
 refine Zc (Za rfl rfl (Zd rfl) (Ze (Zb (H1 _ _ ?_))))
 refine Zg fun K2 H2 => ?_
 refine Zc (Za rfl rfl (Zf rfl) (Za rfl rfl (Zf rfl) (Za rfl rfl (Zeb rfl rfl) (Za rfl rfl (Zf rfl) ?_))))
 refine Xg (d := 10) rfl (fun c => ?_) (fun c => ?_)
 ·have e := c
  have c := Yp c
  refine Za rfl rfl (Zf rfl) (Za rfl rfl (Zf rfl) (Za rfl rfl (Zid rfl rfl) (Za rfl rfl (Xi rfl rfl) (Za rfl rfl (Zd rfl) (Ze (Zb (H2 _ _ ?_)))))))
  refine Yb ?_
  exact Zi [_] ⟨rfl, trivial⟩ ⟨congrArg Value.bool (by first | rfl | (rw [Bool.eq_iff_iff]; simp <;> omega) | (rw [Bool.eq_iff_iff]; simp_all; done) | simp_all), E⟩
 have e := c
 have c := Yq c
 refine Zo rfl rfl (Zo rfl rfl (Zo rfl rfl (Za rfl rfl (Xb rfl rfl) (Za rfl rfl (Zd rfl) (Ze (Zb (H2 _ _ ?_)))))))
 refine Yb ?_
 exact Zi [_] ⟨rfl, trivial⟩ ⟨congrArg Value.bool (by first | rfl | (rw [Bool.eq_iff_iff]; simp <;> omega) | (rw [Bool.eq_iff_iff]; simp_all; done) | simp_all), E⟩

/-- spec.l11Fits -/
theorem Zep {w : World} (aS : Int) {LL_aA X : Nat} {J : Value} {aA : List Bool} (u : Ls bcs 1 w LL_aA X J aA) {LL_saN M : Nat} {A : Value} {saN : List Sv} (m : Ls Sv.cs 1 w LL_saN M A saN) {LR_aN BB_aN : Nat} {aN : List (List Int)} (o : Rd ics 1 w LR_aN BB_aN saN aN) :
 Ctr Try.prog 127 #[(.agg #[(.int .i64 aS), J, A])] w (fun v w' => v = .bool (tt (Zjt aS aA aN)) ∧ Ch [] w w') := by
 obtain ⟨x, y, O⟩ := u.val
 subst O
 have aB := u.len
 have u := u.here (by decide)
 obtain ⟨g, h, G⟩ := m.val
 subst G
 have ae := m.len
 have m := m.here (by decide)
 have o := o.here (by decide)
 have af := o.1
 have E := Ch.refl [] w
 refine Yf (N := 50) (vs0 := [(.agg #[(.int .i64 aS), (.slice x aA.length y), (.slice g saN.length h)])]) Try.func127 rfl rfl rfl ?_
 refine Zg fun K1 H1 => ?_
 refine Zc (Zx rfl rfl ?_)
 refine Xj rfl fun T W2 U C2 bf => ?_
 have bg := C2.size
 have E := E.trans C2
 have bh := U.lt
 replace U : Blk W2 T 38 [(.int .i64 aS), (.slice x aA.length y), (.slice g saN.length h)] := U
 refine Za rfl rfl (Zd rfl) (Ze (Zb (H1 _ _ ?_)))
 refine Zg fun K3 H3 => ?_
 refine Zc (Za rfl rfl (Zh fa38_1 rfl) (Za rfl rfl (Zl U.at_ agg26 rfl rfl) (Za rfl rfl (Yz (by rw [el26]; rfl) rfl) (Za rfl rfl (Zd rfl) (Ze (Zb (H3 _ _ ?_)))))))
 refine Zg fun K4 H4 => ?_
 refine Zg fun K5 H5 => ?_
 refine Zc (Za rfl rfl (Zh fa38_0 rfl) (Za rfl rfl (Zl U.at_ agg3 rfl rfl) (Za rfl rfl (Zf rfl) (Za rfl rfl (Zbf om rfl rfl) (Zx rfl rfl ?_)))))
 refine Step.call (Zr (xs := [.tmp 10, .const (Go.Value.int Go.IntKind.i64 0), .tmp 12]) fk90 rfl) (Xy _ _ _ ) fun aJ W6 ag => ?_
 obtain ⟨rfl, C6⟩ := ag
 have bi := C6.size
 have E := E.trans C6
 refine Za rfl rfl (Qj rfl) (Za rfl rfl (Zf rfl) ?_)
 refine Xg (d := 15) rfl (fun a => ?_) (fun a => ?_)
 ·have aK := a
  have a := Yq (Xv a)
  refine Zo rfl rfl (Zo rfl rfl (Zo rfl rfl (Zo rfl rfl (Zo rfl rfl (Za rfl rfl (Xi rfl rfl) (Ze (Zb (H5 _ _ ?_))))))))
  refine Zbk rfl ?_
  refine Zg fun K8 H8 => ?_
  refine Zc (Za rfl rfl (Zd rfl) (Ze (Zb (H8 _ _ ?_))))
  refine Yb (Zp ?_)
  exact Zi [_] ⟨rfl, trivial⟩ ⟨congrArg Value.bool (by first | exact Qz ⟨a, by omega, Qx V om⟩ | exact Zn (fun e => a e.1) | exact Zn (fun e => j (by have H := e.2.1; omega)) | exact Zn (fun e => i (Qg e f n)) | exact Zn (fun e => l (by have H := (Xp e b).1; omega))), E⟩
 have aK := a
 have a := Yp (Xw a)
 refine Za rfl rfl (Zh fa38_2 rfl) ?_
 have F9 := U.ch0 C6
 refine Za rfl rfl (Zl F9.at_ agg27 rfl rfl) (Za rfl rfl (Yz (by rw [el27]; rfl) rfl) (Za rfl rfl (Zf rfl) (Za rfl rfl (Qu rfl rfl) (Za rfl rfl (Xb rfl rfl) (Ze (Zb (H5 _ _ ?_)))))))
 refine Zz rfl (fun j => ?_) (fun j => ?_)
 ·have ah := j
  have j := Yq (Xv j)
  refine Zg fun bj aL => ?_
  refine Zc (Za rfl rfl (Zd rfl) (Ze (Zb (aL _ _ ?_))))
  refine Yb (Zp ?_)
  exact Zi [_] ⟨rfl, trivial⟩ ⟨congrArg Value.bool (by first | exact Qz ⟨a, by omega, Qx V om⟩ | exact Zn (fun e => a e.1) | exact Zn (fun e => j (by have H := e.2.1; omega)) | exact Zn (fun e => i (Qg e f n)) | exact Zn (fun e => l (by have H := (Xp e b).1; omega))), E⟩
 have ah := j
 have j := Yp (Xw j)
 refine Zu ?_
 refine Zb (H4 _ _ ?_)
 refine Zg fun bk ai => ?_
 refine Zg fun bm aM => ?_
 refine Zc (Za rfl rfl (Zd rfl) (Ze (Zb (aM _ _ ?_))))
 refine Yd ?_
 refine Xd (σ := Nat) (fun (s : Nat) => [(1, (.pointer (some ⟨T, 0, none⟩))), (3, (.int .i64 ((aA.length : Nat) : Int))), (4, (.int .i64 ((s : Nat) : Int)))]) (fun (s : Nat) wx => Ch [] w wx ∧ W6.heap.size ≤ wx.heap.size ∧ (s ≤ aN.length) ∧ (Zft aA.length aN s) ∧ Blk wx T 38 [(.int .i64 aS), (.slice x aA.length y), (.slice g saN.length h)]) (fun (s : Nat) => aN.length - s) 0 (sC2 rfl rfl (sC1 rfl (Sub.nil _))) ⟨E, (Nat.le_refl _), om, (Zgh _ _), F9⟩ ?_
 rintro s aj ⟨E, aO, hs, V, B⟩
 have P := E
 have aC := P.size
 have ak := B.lt
 refine Zg fun bn aP => ?_
 refine Zg fun bp aQ => ?_
 refine Zc (Za rfl rfl (Zf rfl) (Za rfl rfl (Zf rfl) (Za rfl rfl (Xh rfl rfl) (Ze (Zb (aQ _ _ ?_))))))
 refine Zz rfl (fun r => ?_) (fun r => ?_)
 ·have al := r
  have r := Yp r
  refine Zu ?_
  refine Zb (aP _ _ ?_)
  refine Zg fun bq am => ?_
  refine Yd ?_
  refine Zg fun br aD => ?_
  refine Zg fun bs aR => ?_
  refine Zc (Za rfl rfl (Zh fa38_2 rfl) (Za rfl rfl (Zl B.at_ agg27 rfl rfl) (Za rfl rfl (Zf rfl) (Zx rfl rfl ?_))))
  have aE := m.ch0 P
  refine (Yc aE Sv.len el27 sz22 rfl rfl rfl om fun Q an Y I => ?_)
  have aF := o.ch0 P
  obtain ⟨c, b, p⟩ := aF.get Y
  obtain ⟨C, aT, D⟩ := an
  obtain rfl := p.eqn
  have aU := p.len
  replace p : Ls ics 1 aj LR_aN w.heap.size (.slice C c.length D) c := p
  replace I : At aj LL_saN w.heap.size Q ([(.slice C c.length D)]) := I
  refine Za rfl rfl (Ya I agg22 rfl rfl) (Za rfl rfl (Yz (by rw [el22]; rfl) rfl) (Za rfl rfl (Qu rfl rfl) (Ze (Zb (aR _ _ ?_)))))
  refine Zz rfl (fun l => ?_) (fun l => ?_)
  ·have ao := l
   have l := Yq (Xv l)
   refine Zg fun bu aV => ?_
   refine Zc (Za rfl rfl (Zd rfl) (Ze (Zb (aV _ _ ?_))))
   refine Yb (Zp (Yw (Zp (Zp (Yw (Zp ?_))))))
   clear ai am aD
   exact Zi [_] ⟨rfl, trivial⟩ ⟨congrArg Value.bool (by first | exact Qz ⟨a, by omega, Qx V om⟩ | exact Zn (fun e => a e.1) | exact Zn (fun e => j (by have H := e.2.1; omega)) | exact Zn (fun e => i (Qg e f n)) | exact Zn (fun e => l (by have H := (Xp e b).1; omega))), E⟩
  have ao := l
  have l := Yp (Xw l)
  refine Zu ?_
  refine Zb (aD _ _ ?_)
  refine Zg fun bv aW => ?_
  refine Zc (Za rfl rfl (Zd rfl) (Ze (Zb (aW _ _ ?_))))
  refine Yd ?_
  refine Xd (σ := Nat) (fun (k : Nat) => [(1, (.pointer (some ⟨T, 0, none⟩))), (3, (.int .i64 ((aA.length : Nat) : Int))), (4, (.int .i64 ((s : Nat) : Int))), (5, (.int .i64 ((k : Nat) : Int))), (22, (.int .i64 ((s : Nat) : Int))), (23, (.int .i64 ((aA.length : Nat) : Int))), (24, (.bool (decide (((s : Nat) : Int) < ((aA.length : Nat) : Int))))), (27, (.pointer (some (Addr.add ⟨T, 0, none⟩ 2)))), (28, (.slice g saN.length h)), (29, (.int .i64 ((s : Nat) : Int))), (30, (.pointer (some Q))), (31, (.slice C c.length D)), (32, (.int .i64 ((c.length : Nat) : Int))), (33, (.bool (!decide (((c.length : Nat) : Int) = 9))))]) (fun (k : Nat) wx => Ch [] w wx ∧ aj.heap.size ≤ wx.heap.size ∧ (k ≤ 9) ∧ (RowP aA.length c k) ∧ Blk wx T 38 [(.int .i64 aS), (.slice x aA.length y), (.slice g saN.length h)] ∧ Ls Sv.cs 1 wx LL_saN w.heap.size (.slice g saN.length h) saN ∧ Rd ics 1 wx LR_aN w.heap.size saN aN ∧ At wx LL_saN w.heap.size Q ([(.slice C c.length D)]) ∧ Ls ics 1 wx LR_aN w.heap.size (.slice C c.length D) c) (fun (k : Nat) => 9 - k) 0 (sC8 rfl rfl rfl rfl rfl rfl rfl rfl (sC4 rfl rfl rfl rfl (sC2 rfl rfl (Sub.nil _)))) ⟨E, (Nat.le_refl _), om, (Zgi _ _), B, aE, aF, I, p⟩ ?_
  rintro k aG ⟨E, aX, bw, hp, z, K, L, Z, aa⟩
  have ap := E
  have aH := ap.size
  have aq := z.lt
  refine Zg fun bz aY => ?_
  refine Zg fun bA aZ => ?_
  refine Zc (Za rfl rfl (Zf rfl) (Za rfl rfl (Xh rfl rfl) (Ze (Zb (aZ _ _ ?_)))))
  refine Zz rfl (fun t => ?_) (fun t => ?_)
  ·have au := t
   have t := Yp t
   refine Zu ?_
   refine Zb (aY _ _ ?_)
   refine Zg fun bB aI => ?_
   refine Yd ?_
   refine Zg fun bC a0 => ?_
   refine Zc (Za rfl rfl (Zh fa38_2 rfl) (Za rfl rfl (Zl z.at_ agg27 rfl rfl) (Za rfl rfl (Zf rfl) (Zx rfl rfl ?_))))
   refine (Yc K Sv.len el27 sz22 rfl rfl rfl om fun av aw ab R => ?_)
   obtain ⟨F, f, q⟩ := L.get ab
   obtain ⟨ac, a1, ad⟩ := aw
   obtain rfl := q.eqn
   have a2 := q.len
   replace q : Ls ics 1 aG LR_aN w.heap.size (.slice ac F.length ad) F := q
   replace R : At aG LL_saN w.heap.size av ([(.slice ac F.length ad)]) := R
   have a3 := congrArg List.length (Zv b f)
   refine Za rfl rfl (Ya R agg22 rfl rfl) (Za rfl rfl (Zf rfl) (Zx rfl rfl ?_))
   refine (Yc q Xr el22 sz3 rfl rfl rfl om fun a4 a5 n ax => ?_)
   refine Za rfl rfl (Ya ax agg3 rfl rfl) (Za rfl rfl (Zf rfl) (Za rfl rfl (Zbf om rfl rfl) (Zx rfl rfl ?_)))
   refine Step.call (Zr (xs := [.tmp 45, .const (Go.Value.int Go.IntKind.i64 (-1)), .tmp 47]) fk90 rfl) (Xy _ _ _ ) fun a6 bD ay => ?_
   obtain ⟨rfl, S⟩ := ay
   have a7 := S.size
   have E := E.trans S
   refine Za rfl rfl (Qj rfl) (Ze (Zb (a0 _ _ ?_)))
   refine Zz rfl (fun i => ?_) (fun i => ?_)
   ·have az := i
    have i := Yq (Xv i)
    refine Zg fun bF a8 => ?_
    refine Zc (Za rfl rfl (Zd rfl) (Ze (Zb (a8 _ _ ?_))))
    refine Yb (Yw (Zp (Zp (Yw (Yw (Zp (Zp (Yw (Zp ?_)))))))))
    clear ai am aI
    exact Zi [_] ⟨rfl, trivial⟩ ⟨congrArg Value.bool (by first | exact Qz ⟨a, by omega, Qx V om⟩ | exact Zn (fun e => a e.1) | exact Zn (fun e => j (by have H := e.2.1; omega)) | exact Zn (fun e => i (Qg e f n)) | exact Zn (fun e => l (by have H := (Xp e b).1; omega))), E⟩
   have az := i
   have i := Yp (Xw i)
   refine Zu ?_
   refine Zq (Zb (aI _ _ (Zc (Za rfl rfl (Zf rfl) (Za rfl rfl (Ye om rfl rfl) (Za rfl rfl (Zd rfl) (Ze ?_)))))))
   have a9 := z.ch0 S
   have ba := K.ch0 S
   have bb := L.ch0 S
   have bc := Z.ch0 S
   have bd := aa.ch0 S
   exact Zb (Exists.intro (k + 1) ⟨⟨E, om, om, (Zgb hp (Zv f b ▸ n) i), a9, ba, bb, bc, bd⟩, sC8 rfl rfl rfl rfl rfl rfl rfl rfl (sC4 rfl rfl rfl rfl (sC2 rfl rfl (Sub.nil _))), (by first | omega | (dsimp only; omega))⟩)
  have au := t
  have t := Yq t
  refine Xc (Zt (Zt (Yx ?_)))
  refine Zq (Zb (am _ _ (Zc (Za rfl rfl (Zf rfl) (Za rfl rfl (Ye om rfl rfl) (Za rfl rfl (Zd rfl) (Ze ?_)))))))
  exact Zb (Exists.intro (s + 1) ⟨⟨E, om, om, (Zfy V b ⟨by omega, Zho hp om⟩), z⟩, sC2 rfl rfl (sC1 rfl (Sub.nil _)), (by first | omega | (dsimp only; omega))⟩)
 have al := r
 have r := Yq r
 refine Xc (Zt (Zt (Yx ?_)))
 refine Zb (ai _ _ ?_)
 refine Zg fun bG be => ?_
 refine Zc (Za rfl rfl (Zd rfl) (Ze (Zb (be _ _ ?_))))
 refine Yb ?_
 exact Zi [_] ⟨rfl, trivial⟩ ⟨congrArg Value.bool (by first | exact Qz ⟨a, by omega, Qx V om⟩ | exact Zn (fun e => a e.1) | exact Zn (fun e => j (by have H := e.2.1; omega)) | exact Zn (fun e => i (Qg e f n)) | exact Zn (fun e => l (by have H := (Xp e b).1; omega))), E⟩

/-- spec.IsValidAutomaton -/
theorem Zbb {w : World} (aS : Int) {LL_aA p : Nat} {k : Value} {aA : List Bool} (c : Ls bcs 1 w LL_aA p k aA) {LL_saN n : Nat} {f : Value} {saN : List Sv} (a : Ls Sv.cs 1 w LL_saN n f saN) {LR_aN BB_aN : Nat} {aN : List (List Int)} (b : Rd ics 1 w LR_aN BB_aN saN aN) :
 Ctr Try.prog 96 #[(.agg #[(.int .i64 aS), k, f])] w (fun v w' => v = .bool (tt (Xs aS aA aN)) ∧ Ch [] w w') := by
 obtain ⟨l, m, o⟩ := c.val
 subst o
 have t := c.len
 have c := c.here (by decide)
 obtain ⟨g, h, i⟩ := a.val
 subst i
 have r := a.len
 have a := a.here (by decide)
 have b := b.here (by decide)
 have s := b.1
 have E := Ch.refl [] w
 refine Yf (N := 11) (vs0 := [(.agg #[(.int .i64 aS), (.slice l aA.length m), (.slice g saN.length h)])]) Try.func96 rfl rfl rfl ?_
 refine Zg fun K1 H1 => ?_
 refine Zc (Zx rfl rfl ?_)
 refine Xj rfl fun u W2 q C2 A => ?_
 have B := C2.size
 have E := E.trans C2
 have C := q.lt
 replace q : Blk W2 u 38 [(.int .i64 aS), (.slice l aA.length m), (.slice g saN.length h)] := q
 refine Za rfl rfl (Zd rfl) (Ze (Zb (H1 _ _ ?_)))
 refine Zg fun K3 H3 => ?_
 refine Zc (Za rfl rfl (Zh fa38_1 rfl) (Za rfl rfl (Zl q.at_ agg26 rfl rfl) (Za rfl rfl (Yz (by rw [el26]; rfl) rfl) (Za rfl rfl (Zid rfl rfl) (Za rfl rfl (Zf rfl) ?_)))))
 refine Xg (d := 7) rfl (fun j => ?_) (fun j => ?_)
 ·have x := j
  have j := Yp j
  refine Za rfl rfl (Zs q.at_ agg38 sz38 rfl) (Zx rfl rfl ?_)
  have F5 := c.ch0 C2
  have F6 := b.ch0 C2
  have F7 := a.ch0 C2
  refine Step.call (Zr (xs := [.tmp 8]) fk127 rfl) (Zep _ F5 F7 F6 ) fun D W8 y => ?_
  obtain ⟨rfl, C8⟩ := y
  have F := C8.size
  have E := E.trans C8
  refine Za rfl rfl (Xi rfl rfl) (Za rfl rfl (Zd rfl) (Ze (Zb (H3 _ _ ?_))))
  refine Yb ?_
  exact Zi [_] ⟨rfl, trivial⟩ ⟨congrArg Value.bool (by first | exact Zbg ⟨fun e => ⟨by omega, e⟩, fun e => e.2⟩ | exact Zn (fun e => j (by have z := e.1; omega))), E⟩
 have x := j
 have j := Yq j
 refine Zo rfl rfl (Zo rfl rfl (Za rfl rfl (Xb rfl rfl) (Za rfl rfl (Zd rfl) (Ze (Zb (H3 _ _ ?_))))))
 refine Yb ?_
 exact Zi [_] ⟨rfl, trivial⟩ ⟨congrArg Value.bool (by first | exact Zbg ⟨fun e => ⟨by omega, e⟩, fun e => e.2⟩ | exact Zn (fun e => j (by have z := e.1; omega))), E⟩

/-- spec.l3Edge -/
theorem Zfp {w : World} {LL_gV r : Nat} {i : Value} {gV : List Int} (g : Ls ics 1 w LL_gV r i gV) {LL_gE s : Nat} {j : Value} {gE : List GEdge} (h : Ls GEdge.cs 4 w LL_gE s j gE) (e : GEdge) :
 Ctr Try.prog 122 #[(.agg #[i, j]), (.agg #[(.int .i64 e.id), (.int .i64 e.f), (.int .i64 e.t), (.int .i64 e.label)])] w (fun v w' => v = .bool (tt (Xq ((gV.length : Int) - 1) e)) ∧ Ch [] w w') := by
 obtain ⟨k, l, o⟩ := g.val
 subst o
 have H := g.len
 have g := g.here (by decide)
 obtain ⟨m, n, p⟩ := h.val
 subst p
 have I := h.len
 have h := h.here (by decide)
 have E := Ch.refl [] w
 refine Yf (N := 30) (vs0 := [(.agg #[(.slice k gV.length l), (.slice m gE.length n)]), (.agg #[(.int .i64 e.id), (.int .i64 e.f), (.int .i64 e.t), (.int .i64 e.label)])]) Try.func122 rfl rfl rfl ?_
 refine Zg fun K1 H1 => ?_
 refine Zc (Zx rfl rfl ?_)
 refine Xj rfl fun L W2 x C2 Y => ?_
 have Z := C2.size
 have E := E.trans C2
 have aa := x.lt
 replace x : Blk W2 L 36 [(.slice k gV.length l), (.slice m gE.length n)] := x
 refine Zx rfl rfl ?_
 refine Xj rfl fun M W3 u C3 ab => ?_
 have ac := C3.size
 have E := E.trans C3
 have ad := u.lt
 replace u : Blk W3 M 129 [(.int .i64 e.id), (.int .i64 e.f), (.int .i64 e.t), (.int .i64 e.label)] := u
 refine Za rfl rfl (Zd rfl) (Ze (Zb (H1 _ _ ?_)))
 refine Zg fun K4 H4 => ?_
 refine Zc (Za rfl rfl (Zh fa36_0 rfl) ?_)
 have F5 := x.ch0 C3
 refine Za rfl rfl (Zl F5.at_ agg22 rfl rfl) (Za rfl rfl (Yz (by rw [el22]; rfl) rfl) (Za rfl rfl (Zbf om rfl rfl) (Za rfl rfl (Zd rfl) (Ze (Zb (H4 _ _ ?_))))))
 refine Zg fun K6 H6 => ?_
 refine Zc (Za rfl rfl (Zh fa129_0 rfl) (Za rfl rfl (Zl u.at_ agg3 rfl rfl) (Zx rfl rfl ?_)))
 refine Step.call (Zr (xs := [.tmp 11, .const (Go.Value.int Go.IntKind.i64 1), .const (Go.Value.int Go.IntKind.i64 99)]) fk90 rfl) (Xy _ _ _ ) fun O W7 y => ?_
 obtain ⟨rfl, C7⟩ := y
 have ae := C7.size
 have E := E.trans C7
 refine Za rfl rfl (Zf rfl) ?_
 refine Xg (d := 13) rfl (fun a => ?_) (fun a => ?_)
 ·have P := a
  have a := Yp a
  refine Za rfl rfl (Zh fa129_1 rfl) ?_
  have F9 := u.ch0 C7
  refine Za rfl rfl (Zl F9.at_ agg3 rfl rfl) (Za rfl rfl (Zf rfl) (Zx rfl rfl ?_))
  refine Step.call (Zr (xs := [.tmp 15, .const (Go.Value.int Go.IntKind.i64 0), .tmp 16]) fk90 rfl) (Xy _ _ _ ) fun Q af z => ?_
  obtain ⟨rfl, A⟩ := z
  have R := A.size
  have E := E.trans A
  refine Za rfl rfl (Xi rfl rfl) (Za rfl rfl (Zf rfl) ?_)
  refine Xg (d := 19) rfl (fun b => ?_) (fun b => ?_)
  ·have B := b
   have b := Yp b
   refine Za rfl rfl (Zh fa129_2 rfl) ?_
   have J := F9.ch0 A
   refine Za rfl rfl (Zl J.at_ agg3 rfl rfl) (Za rfl rfl (Zf rfl) (Zx rfl rfl ?_))
   refine Step.call (Zr (xs := [.tmp 21, .const (Go.Value.int Go.IntKind.i64 0), .tmp 22]) fk90 rfl) (Xy _ _ _ ) fun S ag C => ?_
   obtain ⟨rfl, D⟩ := C
   have T := D.size
   have E := E.trans D
   refine Za rfl rfl (Xi rfl rfl) (Za rfl rfl (Zf rfl) ?_)
   refine Xg (d := 25) rfl (fun c => ?_) (fun c => ?_)
   ·have F := c
    have c := Yp c
    refine Za rfl rfl (Zh fa129_3 rfl) ?_
    have U := J.ch0 D
    refine Za rfl rfl (Zl U.at_ agg3 rfl rfl) (Zx rfl rfl ?_)
    refine Step.call (Zr (xs := [.tmp 27, .const (Go.Value.int Go.IntKind.i64 0), .const (Go.Value.int Go.IntKind.i64 2)]) fk90 rfl) (Xy _ _ _ ) fun V ah G => ?_
    obtain ⟨rfl, K⟩ := G
    have X := K.size
    have E := E.trans K
    refine Za rfl rfl (Xi rfl rfl) (Za rfl rfl (Zd rfl) (Ze (Zb (H6 _ _ ?_))))
    refine Yb ?_
    exact Zi [_] ⟨rfl, trivial⟩ ⟨congrArg Value.bool (by first | exact Zn (fun q => by unfold Xq at q; omega) | (rw [Zbz]; exact Zbg ⟨fun q => by unfold Xq; omega, fun q => by unfold Xq at q; omega⟩)), E⟩
   have F := c
   have c := Yq c
   refine Zo rfl rfl (Zo rfl rfl (Zo rfl rfl (Za rfl rfl (Xb rfl rfl) (Za rfl rfl (Zd rfl) (Ze (Zb (H6 _ _ ?_)))))))
   refine Yb ?_
   exact Zi [_] ⟨rfl, trivial⟩ ⟨congrArg Value.bool (by first | exact Zn (fun q => by unfold Xq at q; omega) | (rw [Zbz]; exact Zbg ⟨fun q => by unfold Xq; omega, fun q => by unfold Xq at q; omega⟩)), E⟩
  have B := b
  have b := Yq b
  refine Zo rfl rfl (Zo rfl rfl (Zo rfl rfl (Zo rfl rfl (Za rfl rfl (Xb rfl rfl) (Za rfl rfl (Zf rfl) (Zo rfl rfl (Zo rfl rfl ?_)))))))
  refine Zo rfl rfl (Za rfl rfl (Xb rfl rfl) (Za rfl rfl (Zd rfl) (Ze (Zb (H6 _ _ ?_)))))
  refine Yb ?_
  exact Zi [_] ⟨rfl, trivial⟩ ⟨congrArg Value.bool (by first | exact Zn (fun q => by unfold Xq at q; omega) | (rw [Zbz]; exact Zbg ⟨fun q => by unfold Xq; omega, fun q => by unfold Xq at q; omega⟩)), E⟩
 have P := a
 have a := Yq a
 refine Zo rfl rfl (Zo rfl rfl (Zo rfl rfl (Zo rfl rfl (Za rfl rfl (Xb rfl rfl) (Za rfl rfl (Zf rfl) (Zo rfl rfl (Zo rfl rfl ?_)))))))
 refine Zo rfl rfl (Zo rfl rfl (Za rfl rfl (Xb rfl rfl) (Za rfl rfl (Zf rfl) (Zo rfl rfl (Zo rfl rfl (Zo rfl rfl (Za rfl rfl (Xb rfl rfl) ?_)))))))
 refine Za rfl rfl (Zd rfl) (Ze (Zb (H6 _ _ ?_)))
 refine Yb ?_
 exact Zi [_] ⟨rfl, trivial⟩ ⟨congrArg Value.bool (by first | exact Zn (fun q => by unfold Xq at q; omega) | (rw [Zbz]; exact Zbg ⟨fun q => by unfold Xq; omega, fun q => by unfold Xq at q; omega⟩)), E⟩

/-- spec.IsValidGraph -/
theorem Zch {w : World} {LL_gV I : Nat} {A : Value} {gV : List Int} (g : Ls ics 1 w LL_gV I A gV) {LL_gE J : Nat} {B : Value} {gE : List GEdge} (l : Ls GEdge.cs 4 w LL_gE J B gE) :
 Ctr Try.prog 88 #[(.agg #[A, B])] w (fun v w' => v = .bool (tt (Qc gV gE)) ∧ Ch [] w w') := by
 obtain ⟨t, u, C⟩ := g.val
 subst C
 have aq := g.len
 have g := g.here (by decide)
 obtain ⟨x, y, D⟩ := l.val
 subst D
 have au := l.len
 have l := l.here (by decide)
 have E := Ch.refl [] w
 refine Yf (N := 64) (vs0 := [(.agg #[(.slice t gV.length u), (.slice x gE.length y)])]) Try.func88 rfl rfl rfl ?_
 refine Zg fun K1 H1 => ?_
 refine Zc (Zx rfl rfl ?_)
 refine Xj rfl fun K W2 Q C2 a3 => ?_
 have a4 := C2.size
 have E := E.trans C2
 have a5 := Q.lt
 replace Q : Blk W2 K 36 [(.slice t gV.length u), (.slice x gE.length y)] := Q
 refine Za rfl rfl (Zd rfl) (Ze (Zb (H1 _ _ ?_)))
 refine Zg fun K3 H3 => ?_
 refine Zg fun K4 H4 => ?_
 refine Zc (Za rfl rfl (Zd rfl) (Ze (Zb (H4 _ _ ?_))))
 refine Yd ?_
 refine Xd (σ := Nat) (fun (k : Nat) => [(1, (.pointer (some ⟨K, 0, none⟩))), (3, (.int .i64 ((k : Nat) : Int)))]) (fun (k : Nat) wx => Ch [] w wx ∧ W2.heap.size ≤ wx.heap.size ∧ (k ≤ gV.length) ∧ (Zgr gV k) ∧ Blk wx K 36 [(.slice t gV.length u), (.slice x gE.length y)]) (fun (k : Nat) => gV.length - k) 0 (sC2 rfl rfl (Sub.nil _)) ⟨E, (Nat.le_refl _), om, (Zgd _), Q⟩ ?_
 rintro k R5 ⟨E, ay, a6, hv, m⟩
 have L := E
 have av := L.size
 have T := m.lt
 refine Zg fun K6 H6 => ?_
 refine Zg fun K7 H7 => ?_
 refine Zc (Za rfl rfl (Zf rfl) (Za rfl rfl (Zh fa36_0 rfl) (Za rfl rfl (Zl m.at_ agg22 rfl rfl) (Za rfl rfl (Yz (by rw [el22]; rfl) rfl) (Za rfl rfl (Xh rfl rfl) (Ze (Zb (H7 _ _ ?_))))))))
 refine Zz rfl (fun F => ?_) (fun F => ?_)
 ·have az := F
  have F := Yp F
  refine Zu ?_
  refine Zb (H6 _ _ ?_)
  refine Zg fun K9 H9 => ?_
  refine Yd ?_
  refine Zg fun a7 aA => ?_
  refine Zc (Za rfl rfl (Zh fa36_0 rfl) (Za rfl rfl (Zl m.at_ agg22 rfl rfl) (Za rfl rfl (Zf rfl) (Zx rfl rfl ?_))))
  have aB := g.ch0 L
  refine (Yc aB Xr el22 sz3 rfl rfl rfl om fun aC aD h U => ?_)
  refine Za rfl rfl (Ya U agg3 rfl rfl) (Zx rfl rfl ?_)
  refine Step.call (Zr (xs := [.tmp 16, .const (Go.Value.int Go.IntKind.i64 0), .const (Go.Value.int Go.IntKind.i64 2)]) fk90 rfl) (Xy _ _ _ ) fun aE a8 V => ?_
  obtain ⟨rfl, X⟩ := V
  have aF := X.size
  have E := E.trans X
  refine Za rfl rfl (Qj rfl) (Ze (Zb (aA _ _ ?_)))
  refine Zz rfl (fun c => ?_) (fun c => ?_)
  ·have Y := c
   have c := Yq (Xv c)
   refine Zg fun a9 aG => ?_
   refine Zc (Za rfl rfl (Zd rfl) (Ze (Zb (aG _ _ ?_))))
   refine Yb (Yw (Zp (Zp (Yw (Zp ?_)))))
   clear H3 H9
   exact Zi [_] ⟨rfl, trivial⟩ ⟨congrArg Value.bool (by first | exact Zn (fun q => c (Qo q h)) | exact Zn (fun q => b (Zad q a)) | exact Zn (fun q => by have z := Qe q e f om; omega) | exact vg_y hv om hE om om | exact Zn (fun q => by have z := q.2.2.1; omega)), E⟩
  have Y := c
  have c := Yp (Xw c)
  refine Zu ?_
  refine Zq (Zb (H9 _ _ (Zc (Za rfl rfl (Zf rfl) (Za rfl rfl (Ye om rfl rfl) (Za rfl rfl (Zd rfl) (Ze ?_)))))))
  have aH := m.ch0 X
  exact Zb (Exists.intro (k + 1) ⟨⟨E, om, om, (Zga hv h c), aH⟩, sC2 rfl rfl (Sub.nil _), (by first | omega | (dsimp only; omega))⟩)
 have az := F
 have F := Yq F
 refine Xc (Zt (Zt (Yx ?_)))
 refine Zb (H3 _ _ ?_)
 refine Zg fun ba Z => ?_
 refine Zg fun bb aI => ?_
 refine Zc (Za rfl rfl (Zd rfl) (Ze (Zb (aI _ _ ?_))))
 refine Yd ?_
 refine Xd (σ := Nat) (fun (q : Nat) => [(1, (.pointer (some ⟨K, 0, none⟩))), (4, (.int .i64 ((q : Nat) : Int)))]) (fun (q : Nat) wx => Ch [] w wx ∧ R5.heap.size ≤ wx.heap.size ∧ (q ≤ gE.length) ∧ (Zbi ((gV.length : Int) - 1) gE q) ∧ Blk wx K 36 [(.slice t gV.length u), (.slice x gE.length y)]) (fun (q : Nat) => gE.length - q) 0 (sC2 rfl rfl (Sub.nil _)) ⟨E, (Nat.le_refl _), om, (Zet _ _), m⟩ ?_
 rintro q bc ⟨E, aJ, hq, hE, n⟩
 have G := E
 have aw := G.size
 have aa := n.lt
 refine Zg fun bd ab => ?_
 refine Zg fun be aK => ?_
 refine Zc (Za rfl rfl (Zf rfl) (Za rfl rfl (Zh fa36_1 rfl) (Za rfl rfl (Zl n.at_ agg34 rfl rfl) (Za rfl rfl (Yz (by rw [el34]; rfl) rfl) (Za rfl rfl (Xh rfl rfl) (Ze (Zb (aK _ _ ?_))))))))
 refine Zz rfl (fun o => ?_) (fun o => ?_)
 ·have ac := o
  have o := Yp o
  refine Zu ?_
  refine Zb (ab _ _ ?_)
  refine Zg fun bf R => ?_
  refine Yd ?_
  refine Zg fun bg ad => ?_
  refine Xl [] 28 mixed rfl fun aL M => ?_
  have aM := M.size
  have E := E.trans M
  have H := n.ch0 M
  refine dT 0 rfl rfl rfl (Yr H.at_ (fun i hi => absurd hi List.not_mem_nil) agg36 sz36 rfl ?_)
  refine dV 1 rfl rfl rfl (fun _ => Zh fa36_1 rfl) ?_
  refine dT 2 rfl rfl rfl (Yo H.at_ (fun i hi => absurd hi List.not_mem_nil) agg34 rfl rfl ?_)
  refine dV 3 rfl rfl rfl (fun _ => Zf rfl) ?_
  have S := (l.ch0 G).ch0 M
  refine dT 4 rfl rfl rfl (Xt S GEdge.len el34 sz129 rfl rfl rfl om fun aN ae a af => ?_)
  refine dT 5 rfl rfl rfl (Yr af (fun i hi => absurd hi List.not_mem_nil) agg129 sz129 rfl ?_)
  refine dO 6 (Zk rfl rfl rfl ?_)
  have aO := (g.ch0 G).ch0 M
  refine Step.call (Zr (xs := [.tmp 26, .tmp 31]) fk122 rfl) (Zfp aO S ae ) fun aP aQ ag => ?_
  obtain ⟨rfl, O⟩ := ag
  have aR := O.size
  have E := E.trans O
  have P : Ch [] aL aQ := ((Ch.refl _ _).trans O)
  refine ⟨P, ?_⟩
  refine dV 7 rfl rfl rfl (fun _ => Qj rfl) (dV 8 rfl rfl rfl (fun _ => Zf rfl) ?_)
  refine Zdj (d := 34) rfl (fun b => ?_) (fun b => ?_)
  ·have ah := b
   have b := bf_t (Xv b)
   refine dK 9 rfl rfl rfl (dK 10 rfl rfl rfl (dK 11 rfl rfl rfl (dK 12 rfl rfl rfl (dK 13 rfl rfl rfl (dK 14 rfl rfl rfl (dK 15 rfl rfl rfl (dK 16 rfl rfl rfl ?_)))))))
   refine dK 17 rfl rfl rfl (dK 18 rfl rfl rfl (dK 19 rfl rfl rfl (dK 20 rfl rfl rfl (dK 21 rfl rfl rfl (dK 22 rfl rfl rfl (dK 23 rfl rfl rfl (dK 24 rfl rfl rfl ?_)))))))
   refine dK 25 rfl rfl rfl (dK 26 rfl rfl rfl (dV 27 rfl rfl rfl (fun _ => Xi rfl rfl) ?_))
   refine Zw (by kernel_rfl) ?_
   refine Zb (ad _ _ ?_)
   refine Zbk rfl ?_
   refine Zg fun bh aS => ?_
   refine Zc (Za rfl rfl (Zd rfl) (Ze (Zb (aS _ _ ?_))))
   refine Yb (Yw (Zp (Zp (Yw (Zp ?_)))))
   clear H6 Z R
   exact Zi [_] ⟨rfl, trivial⟩ ⟨congrArg Value.bool (by first | exact Zn (fun q => c (Qo q h)) | exact Zn (fun q => b (Zad q a)) | exact Zn (fun q => by have z := Qe q e f om; omega) | exact vg_y hv om hE om om | exact Zn (fun q => by have z := q.2.2.1; omega)), E⟩
  have ah := b
  have b := bt_t (Xw b)
  refine dV 9 rfl rfl rfl (fun _ => Zf rfl) (dV 10 rfl rfl rfl (fun _ => Zma rfl rfl) (dV 11 rfl rfl rfl (fun _ => Zf rfl) ?_))
  refine Zdj (d := 37) rfl (fun p => ?_) (fun p => ?_)
  ·have ai := p
   have p := Yp p
   refine dV 12 rfl rfl rfl (fun _ => Zh fa36_1 rfl) ?_
   refine dT 13 rfl rfl rfl (Yo H.at_ (fun i hi => absurd hi List.not_mem_nil) agg34 rfl rfl ?_)
   refine dV 14 rfl rfl rfl (fun _ => Zf rfl) (dV 15 rfl rfl rfl (fun _ => Zbf om rfl rfl) ?_)
   refine dT 16 rfl rfl rfl (Xt (j := (((q : Nat) : Int) - 1).toNat) S GEdge.len el34 sz129 rfl rfl om om fun aT aU f aj => ?_)
   refine dV 17 rfl rfl rfl (fun _ => Zh fa129_0 rfl) ?_
   refine dT 18 rfl rfl rfl (Yo aj (fun i hi => absurd hi List.not_mem_nil) agg3 rfl rfl ?_)
   refine dV 19 rfl rfl rfl (fun _ => Zh fa36_1 rfl) ?_
   refine dT 20 rfl rfl rfl (Yo H.at_ (fun i hi => absurd hi List.not_mem_nil) agg34 rfl rfl ?_)
   refine dV 21 rfl rfl rfl (fun _ => Zf rfl) ?_
   refine dT 22 rfl rfl rfl (Xt S GEdge.len el34 sz129 rfl rfl rfl om fun aV aW e ak => ?_)
   refine dV 23 rfl rfl rfl (fun _ => Zh fa129_0 rfl) ?_
   refine dT 24 rfl rfl rfl (Yo ak (fun i hi => absurd hi List.not_mem_nil) agg3 rfl rfl ?_)
   refine dV 25 rfl rfl rfl (fun _ => Zeb rfl rfl) (dV 26 rfl rfl rfl (fun _ => Xi rfl rfl) (dV 27 rfl rfl rfl (fun _ => Xb rfl rfl) ?_))
   refine Zw (by kernel_rfl) ?_
   refine Zb (ad _ _ ?_)
   refine Zz rfl (fun r => ?_) (fun r => ?_)
   ·have al := r
    have r := Yp r
    refine Zg fun bi aX => ?_
    refine Zc (Za rfl rfl (Zd rfl) (Ze (Zb (aX _ _ ?_))))
    refine Yb (Yw (Zp (Zp (Yw (Zp ?_)))))
    clear H6 Z R
    exact Zi [_] ⟨rfl, trivial⟩ ⟨congrArg Value.bool (by first | exact Zn (fun q => c (Qo q h)) | exact Zn (fun q => b (Zad q a)) | exact Zn (fun q => by have z := Qe q e f om; omega) | exact vg_y hv om hE om om | exact Zn (fun q => by have z := q.2.2.1; omega)), E⟩
   have al := r
   have r := Yq r
   refine Zu ?_
   refine Zq (Zb (R _ _ (Zc (Za rfl rfl (Zf rfl) (Za rfl rfl (Ye om rfl rfl) (Za rfl rfl (Zd rfl) (Ze ?_)))))))
   have aY := H.ch0 O
   exact Zb (Exists.intro (q + 1) ⟨⟨E, om, om, (by first | exact Zba hE a b om | (have am := Zv a e; exact Zaz hE a b f om (by first | omega | (rw [am]; omega)))), aY⟩, sC2 rfl rfl (Sub.nil _), (by first | omega | (dsimp only; omega))⟩)
  have ai := p
  have p := Yq p
  refine dK 12 rfl rfl rfl (dK 13 rfl rfl rfl (dK 14 rfl rfl rfl (dK 15 rfl rfl rfl (dK 16 rfl rfl rfl (dK 17 rfl rfl rfl (dK 18 rfl rfl rfl (dK 19 rfl rfl rfl ?_)))))))
  refine dK 20 rfl rfl rfl (dK 21 rfl rfl rfl (dK 22 rfl rfl rfl (dK 23 rfl rfl rfl (dK 24 rfl rfl rfl (dK 25 rfl rfl rfl (dV 26 rfl rfl rfl (fun _ => Xb rfl rfl) (dV 27 rfl rfl rfl (fun _ => Xb rfl rfl) ?_)))))))
  refine Zw (by kernel_rfl) ?_
  refine Zb (ad _ _ ?_)
  refine Zbj rfl ?_
  refine Zu ?_
  refine Zq (Zb (R _ _ (Zc (Za rfl rfl (Zf rfl) (Za rfl rfl (Ye om rfl rfl) (Za rfl rfl (Zd rfl) (Ze ?_)))))))
  have aZ := H.ch0 O
  exact Zb (Exists.intro (q + 1) ⟨⟨E, om, om, (by first | exact Zba hE a b om | (have am := Zv a e; exact Zaz hE a b f om (by first | omega | (rw [am]; omega)))), aZ⟩, sC2 rfl rfl (Sub.nil _), (by first | omega | (dsimp only; omega))⟩)
 have ac := o
 have o := Yq o
 refine Xc (Zt (Zt (Yx ?_)))
 refine Zb (Z _ _ ?_)
 refine Zg fun bj ax => ?_
 refine Zc (Za rfl rfl (Zh fa36_0 rfl) (Za rfl rfl (Zl n.at_ agg22 rfl rfl) (Za rfl rfl (Yz (by rw [el22]; rfl) rfl) (Zx rfl rfl ?_))))
 refine Step.call (Zr (xs := [.tmp 56, .const (Go.Value.int Go.IntKind.i64 1), .const (Go.Value.int Go.IntKind.i64 5)]) fk90 rfl) (Xy _ _ _ ) fun a0 bk an => ?_
 obtain ⟨rfl, ao⟩ := an
 have a1 := ao.size
 have E := E.trans ao
 refine Za rfl rfl (Zf rfl) ?_
 refine Xg (d := 58) rfl (fun s => ?_) (fun s => ?_)
 ·have ap := s
  have s := Yp s
  refine Za rfl rfl (Zh fa36_1 rfl) ?_
  have a2 := n.ch0 ao
  refine Za rfl rfl (Zl a2.at_ agg34 rfl rfl) (Za rfl rfl (Yz (by rw [el34]; rfl) rfl) (Za rfl rfl (Zid rfl rfl) (Za rfl rfl (Xi rfl rfl) (Za rfl rfl (Zd rfl) (Ze (Zb (ax _ _ ?_)))))))
  refine Yb ?_
  clear H6 ab
  exact Zi [_] ⟨rfl, trivial⟩ ⟨congrArg Value.bool (by first | exact Zn (fun q => c (Qo q h)) | exact Zn (fun q => b (Zad q a)) | exact Zn (fun q => by have z := Qe q e f om; omega) | exact vg_y hv om hE om om | exact Zn (fun q => by have z := q.2.2.1; omega)), E⟩
 have ap := s
 have s := Yq s
 refine Zo rfl rfl (Zo rfl rfl (Zo rfl rfl (Zo rfl rfl (Za rfl rfl (Xb rfl rfl) (Za rfl rfl (Zd rfl) (Ze (Zb (ax _ _ ?_))))))))
 refine Yb ?_
 clear H6 ab
 exact Zi [_] ⟨rfl, trivial⟩ ⟨congrArg Value.bool (by first | exact Zn (fun q => c (Qo q h)) | exact Zn (fun q => b (Zad q a)) | exact Zn (fun q => by have z := Qe q e f om; omega) | exact vg_y hv om hE om om | exact Zn (fun q => by have z := q.2.2.1; omega)), E⟩

/-- spec.l14Good -/
theorem Zeo {w : World} {LL_gV F : Nat} {n : Value} {gV : List Int} (g : Ls ics 1 w LL_gV F n gV) {LL_gE G : Nat} {o : Value} {gE : List GEdge} (h : Ls GEdge.cs 4 w LL_gE G o gE) (aS : Int) {LL_aA H : Nat} {p : Value} {aA : List Bool} (i : Ls bcs 1 w LL_aA H p aA) {LL_saN A : Nat} {j : Value} {saN : List Sv} (e : Ls Sv.cs 1 w LL_saN A j saN) {LR_aN BB_aN : Nat} {aN : List (List Int)} (f : Rd ics 1 w LR_aN BB_aN saN aN) (node : Int) (s : Int) :
 Ctr Try.prog 49 #[(.agg #[n, o]), (.agg #[(.int .i64 aS), p, j]), (.int .i64 node), (.int .i64 s)] w (fun v w' => v = .bool (tt (Zgs gV gE aS aA aN node s)) ∧ Ch [] w w') := by
 obtain ⟨r, t, B⟩ := g.val
 subst B
 have V := g.len
 have g := g.here (by decide)
 obtain ⟨u, x, C⟩ := h.val
 subst C
 have X := h.len
 have h := h.here (by decide)
 obtain ⟨y, z, D⟩ := i.val
 subst D
 have Y := i.len
 have i := i.here (by decide)
 obtain ⟨k, l, m⟩ := e.val
 subst m
 have L := e.len
 have e := e.here (by decide)
 have f := f.here (by decide)
 have M := f.1
 have E := Ch.refl [] w
 refine Yf (N := 31) (vs0 := [(.agg #[(.slice r gV.length t), (.slice u gE.length x)]), (.agg #[(.int .i64 aS), (.slice y aA.length z), (.slice k saN.length l)]), (.int .i64 node), (.int .i64 s)]) Try.func49 rfl rfl rfl ?_
 refine Zg fun K1 H1 => ?_
 refine Zc (Zx rfl rfl ?_)
 refine Xj rfl fun ab W2 I C2 aq => ?_
 have au := C2.size
 have E := E.trans C2
 have av := I.lt
 replace I : Blk W2 ab 36 [(.slice r gV.length t), (.slice u gE.length x)] := I
 refine Zx rfl rfl ?_
 refine Xj rfl fun ac W3 J C3 aw => ?_
 have ax := C3.size
 have E := E.trans C3
 have ay := J.lt
 replace J : Blk W3 ac 38 [(.int .i64 aS), (.slice y aA.length z), (.slice k saN.length l)] := J
 refine Za rfl rfl (Zd rfl) (Ze (Zb (H1 _ _ ?_)))
 refine Zg fun K4 H4 => ?_
 refine Zc ?_
 have F5 := I.ch0 C3
 refine Za rfl rfl (Zs F5.at_ agg36 sz36 rfl) (Zx rfl rfl ?_)
 have F6 := (g.ch0 C2).ch0 C3
 have F7 := (h.ch0 C2).ch0 C3
 refine Step.call (Zr (xs := [.tmp 9]) fk88 rfl) (Zch F6 F7 ) fun ad W8 O => ?_
 obtain ⟨rfl, C8⟩ := O
 have az := C8.size
 have E := E.trans C8
 refine Za rfl rfl (Zf rfl) ?_
 refine Xg (d := 11) rfl (fun a => ?_) (fun a => ?_)
 ·have ae := a
  have a := bt_t a
  have Z := J.ch0 C8
  refine Za rfl rfl (Zs Z.at_ agg38 sz38 rfl) (Zx rfl rfl ?_)
  have af := ((i.ch0 C2).ch0 C3).ch0 C8
  have ag := ((f.ch0 C2).ch0 C3).ch0 C8
  have ah := ((e.ch0 C2).ch0 C3).ch0 C8
  refine Step.call (Zr (xs := [.tmp 12]) fk96 rfl) (Zbb _ af ah ag ) fun ai aB P => ?_
  obtain ⟨rfl, K⟩ := P
  have aj := K.size
  have E := E.trans K
  refine Za rfl rfl (Xi rfl rfl) (Za rfl rfl (Zf rfl) ?_)
  refine Xg (d := 15) rfl (fun b => ?_) (fun b => ?_)
  ·have Q := b
   have b := bt_t b
   refine Za rfl rfl (Zf rfl) (Za rfl rfl (Zh fa36_0 rfl) ?_)
   have ak := (F5.ch0 C8).ch0 K
   refine Za rfl rfl (Zl ak.at_ agg22 rfl rfl) (Za rfl rfl (Yz (by rw [el22]; rfl) rfl) (Za rfl rfl (Zbf om rfl rfl) (Zx rfl rfl ?_)))
   refine Step.call (Zr (xs := [.tmp 16, .const (Go.Value.int Go.IntKind.i64 0), .tmp 20]) fk90 rfl) (Xy _ _ _ ) fun al aC R => ?_
   obtain ⟨rfl, S⟩ := R
   have am := S.size
   have E := E.trans S
   refine Za rfl rfl (Xi rfl rfl) (Za rfl rfl (Zf rfl) ?_)
   refine Xg (d := 23) rfl (fun c => ?_) (fun c => ?_)
   ·have T := c
    have c := Yp c
    refine Za rfl rfl (Zf rfl) (Za rfl rfl (Zh fa38_1 rfl) ?_)
    have an := (Z.ch0 K).ch0 S
    refine Za rfl rfl (Zl an.at_ agg26 rfl rfl) (Za rfl rfl (Yz (by rw [el26]; rfl) rfl) (Za rfl rfl (Zbf om rfl rfl) (Zx rfl rfl ?_)))
    refine Step.call (Zr (xs := [.tmp 24, .const (Go.Value.int Go.IntKind.i64 0), .tmp 28]) fk90 rfl) (Xy _ _ _ ) fun ao aD U => ?_
    obtain ⟨rfl, aa⟩ := U
    have ap := aa.size
    have E := E.trans aa
    refine Za rfl rfl (Xi rfl rfl) (Za rfl rfl (Zd rfl) (Ze (Zb (H4 _ _ ?_))))
    refine Yb ?_
    exact Zi [_] ⟨rfl, trivial⟩ ⟨congrArg Value.bool (by first | exact Zhn a b c | exact Zn (fun q => a q.1) | exact Zn (fun q => b q.2.1) | exact Zn (fun q => c q.2.2.1)), E⟩
   have T := c
   have c := Yq c
   refine Zo rfl rfl (Zo rfl rfl (Zo rfl rfl (Zo rfl rfl (Zo rfl rfl (Zo rfl rfl (Za rfl rfl (Xb rfl rfl) (Za rfl rfl (Zd rfl) ?_)))))))
   refine Ze (Zb (H4 _ _ ?_))
   refine Yb ?_
   exact Zi [_] ⟨rfl, trivial⟩ ⟨congrArg Value.bool (by first | exact Zhn a b c | exact Zn (fun q => a q.1) | exact Zn (fun q => b q.2.1) | exact Zn (fun q => c q.2.2.1)), E⟩
  have Q := b
  have b := bf_t b
  refine Zo rfl rfl (Zo rfl rfl (Zo rfl rfl (Zo rfl rfl (Zo rfl rfl (Zo rfl rfl (Za rfl rfl (Xb rfl rfl) (Za rfl rfl (Zf rfl) ?_)))))))
  refine Zo rfl rfl (Zo rfl rfl (Zo rfl rfl (Zo rfl rfl (Zo rfl rfl (Zo rfl rfl (Za rfl rfl (Xb rfl rfl) (Za rfl rfl (Zd rfl) ?_)))))))
  refine Ze (Zb (H4 _ _ ?_))
  refine Yb ?_
  exact Zi [_] ⟨rfl, trivial⟩ ⟨congrArg Value.bool (by first | exact Zhn a b c | exact Zn (fun q => a q.1) | exact Zn (fun q => b q.2.1) | exact Zn (fun q => c q.2.2.1)), E⟩
 have ae := a
 have a := bf_t a
 refine Zo rfl rfl (Zo rfl rfl (Za rfl rfl (Xb rfl rfl) (Za rfl rfl (Zf rfl) (Zo rfl rfl (Zo rfl rfl (Zo rfl rfl (Zo rfl rfl ?_)))))))
 refine Zo rfl rfl (Zo rfl rfl (Za rfl rfl (Xb rfl rfl) (Za rfl rfl (Zf rfl) (Zo rfl rfl (Zo rfl rfl (Zo rfl rfl (Zo rfl rfl ?_)))))))
 refine Zo rfl rfl (Zo rfl rfl (Za rfl rfl (Xb rfl rfl) (Za rfl rfl (Zd rfl) (Ze (Zb (H4 _ _ ?_))))))
 refine Yb ?_
 exact Zi [_] ⟨rfl, trivial⟩ ⟨congrArg Value.bool (by first | exact Zhn a b c | exact Zn (fun q => a q.1) | exact Zn (fun q => b q.2.1) | exact Zn (fun q => c q.2.2.1)), E⟩

/-- spec.EdgeIndex -/
theorem Zah {w : World} {LL_gV q : Nat} {m : Value} {gV : List Int} (d : Ls ics 1 w LL_gV q m gV) {LL_gE r : Nat} {n : Value} {gE : List GEdge} (b : Ls GEdge.cs 4 w LL_gE r n gE) (id : Int) :
 Ctr Try.prog 99 #[(.agg #[m, n]), (.int .i64 id)] w (fun v w' => v = .int .i64 (eiR gE id) ∧ Ch [] w w') := by
 obtain ⟨g, h, o⟩ := d.val
 subst o
 have B := d.len
 have d := d.here (by decide)
 obtain ⟨i, j, p⟩ := b.val
 subst p
 have C := b.len
 have b := b.here (by decide)
 have E := Ch.refl [] w
 refine Yf (N := 22) (vs0 := [(.agg #[(.slice g gV.length h), (.slice i gE.length j)]), (.int .i64 id)]) Try.func99 rfl rfl rfl ?_
 refine Zg fun K1 H1 => ?_
 refine Zc (Zx rfl rfl ?_)
 refine Xj rfl fun x W2 u C2 O => ?_
 have P := C2.size
 have E := E.trans C2
 have Q := u.lt
 replace u : Blk W2 x 36 [(.slice g gV.length h), (.slice i gE.length j)] := u
 refine Za rfl rfl (Zd rfl) (Ze (Zb (H1 _ _ ?_)))
 refine Zg fun K3 H3 => ?_
 refine Zg fun K4 H4 => ?_
 refine Zc (Za rfl rfl (Zd rfl) (Ze (Zb (H4 _ _ ?_))))
 refine Yd ?_
 refine Xd (σ := Nat) (fun (k : Nat) => [(1, (.int .i64 id)), (2, (.pointer (some ⟨x, 0, none⟩))), (5, (.int .i64 ((k : Nat) : Int)))]) (fun (k : Nat) wx => Ch [] w wx ∧ W2.heap.size ≤ wx.heap.size ∧ (k ≤ gE.length) ∧ ((gE.take k).any (fun e : GEdge => decide (e.id = id)) = false) ∧ Blk wx x 36 [(.slice g gV.length h), (.slice i gE.length j)]) (fun (k : Nat) => gE.length - k) 0 (sC2 rfl rfl (sC1 rfl (Sub.nil _))) ⟨E, (Nat.le_refl _), om, (by simp), u⟩ ?_
 rintro k R5 ⟨E, F, R, s, f⟩
 have t := E
 have D := t.size
 have y := f.lt
 refine Zg fun K6 H6 => ?_
 refine Zg fun K7 H7 => ?_
 refine Zc (Za rfl rfl (Zf rfl) (Za rfl rfl (Zh fa36_1 rfl) (Za rfl rfl (Zl f.at_ agg34 rfl rfl) (Za rfl rfl (Yz (by rw [el34]; rfl) rfl) (Za rfl rfl (Xh rfl rfl) (Ze (Zb (H7 _ _ ?_))))))))
 refine Zz rfl (fun c => ?_) (fun c => ?_)
 ·have G := c
  have c := Yp c
  refine Zu ?_
  refine Zb (H6 _ _ ?_)
  refine Zg fun K9 H9 => ?_
  refine Yd ?_
  refine Zg fun S H => ?_
  refine Zc (Za rfl rfl (Zh fa36_1 rfl) (Za rfl rfl (Zl f.at_ agg34 rfl rfl) (Za rfl rfl (Zf rfl) (Zx rfl rfl ?_))))
  have I := b.ch0 t
  refine (Yc I GEdge.len el34 sz129 rfl rfl rfl om fun J K l z => ?_)
  refine Za rfl rfl (Zh fa129_0 rfl) (Za rfl rfl (Zl z agg3 rfl rfl) (Za rfl rfl (Zf rfl) (Za rfl rfl (Zbv rfl rfl) (Ze (Zb (H _ _ ?_))))))
  refine Zz rfl (fun a => ?_) (fun a => ?_)
  ·have A := a
   have a := Yp a
   refine Zg fun T L => ?_
   refine Zc (Za rfl rfl (Zf rfl) (Za rfl rfl (Zd rfl) (Ze (Zb (L _ _ ?_)))))
   refine Yb (Yw (Zp (Zp (Yw (Zp ?_)))))
   clear H3 H9
   exact Zi [_] ⟨rfl, trivial⟩ ⟨congrArg (Value.int .i64) (by unfold eiR; first | exact Zly s l (decide_eq_true a) | exact Zlv s om), E⟩
  have A := a
  have a := Yq a
  refine Zu ?_
  refine Zq (Zb (H9 _ _ (Zc (Za rfl rfl (Zf rfl) (Za rfl rfl (Ye om rfl rfl) (Za rfl rfl (Zd rfl) (Ze ?_)))))))
  exact Zb (Exists.intro (k + 1) ⟨⟨E, om, om, (Zkf s l (decide_eq_false a)), f⟩, sC2 rfl rfl (sC1 rfl (Sub.nil _)), (by first | omega | (dsimp only; omega))⟩)
 have G := c
 have c := Yq c
 refine Xc (Zt (Zt (Yx ?_)))
 refine Zb (H3 _ _ ?_)
 refine Zg fun U M => ?_
 refine Zc (Za rfl rfl (Zd rfl) (Ze (Zb (M _ _ ?_))))
 refine Yb ?_
 exact Zi [_] ⟨rfl, trivial⟩ ⟨congrArg (Value.int .i64) (by unfold eiR; first | exact Zly s l (decide_eq_true a) | exact Zlv s om), E⟩

/-- spec.l14Closure -/
theorem Zcy {w : World} (aS : Int) {LL_aA D : Nat} {t : Value} {aA : List Bool} (k : Ls bcs 1 w LL_aA D t aA) {LL_saN y : Nat} {l : Value} {saN : List Sv} (a : Ls Sv.cs 1 w LL_saN y l saN) {LR_aN BB_aN : Nat} {aN : List (List Int)} (c : Rd ics 1 w LR_aN BB_aN saN aN) (s : Int) (x : Int) (hv : Xs aS aA aN) (hs : 0 ≤ s ∧ s ≤ (aA.length : Int) - 1) (hw : 0 ≤ x ∧ x ≤ 2) :
 Ctr Try.prog 97 #[(.agg #[(.int .i64 aS), t, l]), (.int .i64 s), (.int .i64 x)] w (fun v w' => v = .int .i64 (((cloR aN (6 + x) s : Nat) : Int)) ∧ Ch [] w w') := by
 obtain ⟨n, o, A⟩ := k.val
 subst A
 have S := k.len
 have k := k.here (by decide)
 obtain ⟨f, g, r⟩ := a.val
 subst r
 have J := a.len
 have a := a.here (by decide)
 have c := c.here (by decide)
 have K := c.1
 have E := Ch.refl [] w
 have ah := hv.2.2.1; have ai := hv.1
 refine Yf (N := 31) (vs0 := [(.agg #[(.int .i64 aS), (.slice n aA.length o), (.slice f saN.length g)]), (.int .i64 s), (.int .i64 x)]) Try.func97 rfl rfl rfl ?_
 refine Zg fun K1 H1 => ?_
 refine Zc (Zx rfl rfl ?_)
 refine Xj rfl fun L W2 I C2 aj => ?_
 have ak := C2.size
 have E := E.trans C2
 have al := I.lt
 replace I : Blk W2 L 38 [(.int .i64 aS), (.slice n aA.length o), (.slice f saN.length g)] := I
 refine Za rfl rfl (Zd rfl) (Ze (Zb (H1 _ _ ?_)))
 refine Zg fun K3 H3 => ?_
 refine Zc (Za rfl rfl (Zd rfl) (Ze (Zb (H3 _ _ ?_))))
 refine Zg fun K4 H4 => ?_
 refine Yd ?_
 refine Xd (σ := Int × Int) (fun ⟨z, m⟩ => [(1, (.int .i64 z)), (2, (.int .i64 x)), (3, (.pointer (some ⟨L, 0, none⟩))), (6, (.int .i64 0)), (7, (.int .i64 m))]) (fun ⟨z, m⟩ wx => Ch [] w wx ∧ W2.heap.size ≤ wx.heap.size ∧ (-1 ≤ z ∧ z ≤ (aA.length : Int) - 1) ∧ (CloI aN (6 + x) s z m) ∧ Blk wx L 38 [(.int .i64 aS), (.slice n aA.length o), (.slice f saN.length g)]) (fun ⟨z, m⟩ => zc m.toNat 12) (s, 0) (sC4 rfl rfl rfl rfl (sC1 rfl (Sub.nil _))) ⟨E, (Nat.le_refl _), om, (Zgl _ _ _), I⟩ ?_
 rintro ⟨z, m⟩ R5 ⟨E, U, hz, hc, p⟩
 have B := E
 have T := B.size
 have M := p.lt
 refine Zg fun K6 H6 => ?_
 refine Zg fun K7 H7 => ?_
 refine Zc (Za rfl rfl (Zf rfl) (Za rfl rfl (Zeb rfl rfl) (Za rfl rfl (Zf rfl) ?_)))
 refine Xg (d := 10) rfl (fun h => ?_) (fun h => ?_)
 ·have V := h
  have h := Yp h
  refine Za rfl rfl (Zf rfl) (Za rfl rfl (Zf rfl) (Za rfl rfl (Zea om rfl rfl) (Za rfl rfl (Zey rfl rfl) (Za rfl rfl (Zbv rfl rfl) (Za rfl rfl (Xi rfl rfl) (Ze (Zb (H7 _ _ ?_))))))))
  refine Zz rfl (fun b => ?_) (fun b => ?_)
  ·have X := b
   have b := Yp b
   refine Zu ?_
   refine Zb (H6 _ _ ?_)
   refine Yd ?_
   refine Zg fun am Y => ?_
   refine Zc (Za rfl rfl (Zf rfl) (Za rfl rfl (Zf rfl) (Za rfl rfl (Zgt om rfl rfl) (Za rfl rfl (r_or rfl rfl) (Za rfl rfl (Zd rfl) (Ze (Zb (Y _ _ ?_))))))))
   refine Zc (Za rfl rfl (Zh fa38_2 rfl) (Za rfl rfl (Zl p.at_ agg27 rfl rfl) (Za rfl rfl (Zf rfl) (Zx rfl rfl ?_))))
   have Z := a.ch0 B
   refine (Yc (j := z.toNat) Z Sv.len el27 sz22 rfl rfl om om fun O P F C => ?_)
   have aa := c.ch0 B
   obtain ⟨q, i, e⟩ := aa.get F
   obtain ⟨G, ab, H⟩ := P
   obtain rfl := e.eqn
   have ac := e.len
   replace e : Ls ics 1 R5 LR_aN w.heap.size (.slice G q.length H) q := e
   replace C : At R5 LL_saN w.heap.size O ([(.slice G q.length H)]) := C
   have ad := (Xp hv.2 i).1
   refine Za rfl rfl (Ya C agg22 rfl rfl) (Za rfl rfl (Zf rfl) (Za rfl rfl (Ye om rfl rfl) (Zx rfl rfl ?_)))
   refine (Yc (j := (6 + x).toNat) e Xr el22 sz3 rfl rfl om om fun ae Q u R => ?_)
   refine Za rfl rfl (Ya R agg3 rfl rfl) (Za rfl rfl (Zd rfl) (Ze (Zq ?_)))
   exact Zb (Exists.intro (Q, (ior m (Qp 1 z))) ⟨⟨E, om, (Qg hv.2 i u), (by rw [Zdm (x := 6 + x) om om i u]; exact Zgm hc om om b), p⟩, sC4 rfl rfl rfl rfl (sC1 rfl (Sub.nil _)), (Ziu hc om om b)⟩)
  have X := b
  have b := Yq b
  refine Xc (Zt (Zt (Yx ?_)))
  refine Zb (H4 _ _ ?_)
  refine Zg fun an af => ?_
  refine Zc (Za rfl rfl (Zf rfl) (Za rfl rfl (Zd rfl) (Ze (Zb (af _ _ ?_)))))
  refine Yb ?_
  exact Zi [_] ⟨rfl, trivial⟩ ⟨congrArg (Value.int .i64) (by first | exact Zcn hc om | exact Zco hc om om b), E⟩
 have V := h
 have h := Yq h
 refine Zo rfl rfl (Zo rfl rfl (Zo rfl rfl (Zo rfl rfl (Zo rfl rfl (Za rfl rfl (Xb rfl rfl) (Ze (Zb (H7 _ _ ?_))))))))
 refine Zbj rfl ?_
 refine Xc (Zt (Zt (Yx ?_)))
 refine Zb (H4 _ _ ?_)
 refine Zg fun ao ag => ?_
 refine Zc (Za rfl rfl (Zf rfl) (Za rfl rfl (Zd rfl) (Ze (Zb (ag _ _ ?_)))))
 refine Yb ?_
 exact Zi [_] ⟨rfl, trivial⟩ ⟨congrArg (Value.int .i64) (by first | exact Zcn hc om | exact Zco hc om om b), E⟩

/-- spec.l14Letter -/
theorem Zai {w : World} (e : GEdge) (b : Bool) (hl : 0 ≤ e.label ∧ e.label ≤ 2) :
 Ctr Try.prog 100 #[(.agg #[(.int .i64 e.id), (.int .i64 e.f), (.int .i64 e.t), (.int .i64 e.label)]), (.bool b)] w (fun v w' => v = .int .i64 (Zj e b) ∧ Ch [] w w') := by
 have E := Ch.refl [] w
 refine Yf (N := 13) (vs0 := [(.agg #[(.int .i64 e.id), (.int .i64 e.f), (.int .i64 e.t), (.int .i64 e.label)]), (.bool b)]) Try.func100 rfl rfl rfl ?_
 refine Zg fun K1 H1 => ?_
 refine Zc (Zx rfl rfl ?_)
 refine Xj rfl fun d W2 a C2 h => ?_
 have i := C2.size
 have E := E.trans C2
 have j := a.lt
 replace a : Blk W2 d 129 [(.int .i64 e.id), (.int .i64 e.f), (.int .i64 e.t), (.int .i64 e.label)] := a
 refine Za rfl rfl (Zd rfl) (Ze (Zb (H1 _ _ ?_)))
 refine Zg fun K3 H3 => ?_
 refine Zg fun K4 H4 => ?_
 refine Zc (Za rfl rfl (Zf rfl) (Ze (Zb (H4 _ _ ?_))))
 refine Zz rfl (fun c => ?_) (fun c => ?_)
 ·have g := c
  refine Zg fun K6 H6 => ?_
  refine Zc (Za rfl rfl (Zh fa129_3 rfl) (Za rfl rfl (Zl a.at_ agg3 rfl rfl) (Za rfl rfl (Zjw om rfl rfl) (Za rfl rfl (Ye om rfl rfl) (Za rfl rfl (Zd rfl) (Ze (Zb (H6 _ _ ?_))))))))
  refine Yb (Zp ?_)
  exact Zi [_] ⟨rfl, trivial⟩ ⟨congrArg (Value.int .i64) (by unfold Zj; rw [c]; rfl), E⟩
 have g := c
 refine Zu ?_
 refine Zb (H3 _ _ ?_)
 refine Zg fun K7 H7 => ?_
 refine Zc (Za rfl rfl (Zh fa129_3 rfl) (Za rfl rfl (Zl a.at_ agg3 rfl rfl) (Za rfl rfl (Zjw om rfl rfl) (Za rfl rfl (Zd rfl) (Ze (Zb (H7 _ _ ?_)))))))
 refine Yb ?_
 exact Zi [_] ⟨rfl, trivial⟩ ⟨congrArg (Value.int .i64) (by unfold Zj; rw [c]; rfl), E⟩

/-- spec.l14To -/
theorem Yl {w : World} (e : GEdge) (b : Bool) :
 Ctr Try.prog 101 #[(.agg #[(.int .i64 e.id), (.int .i64 e.f), (.int .i64 e.t), (.int .i64 e.label)]), (.bool b)] w (fun v w' => v = .int .i64 (Yv e b) ∧ Ch [] w w') := by
 have E := Ch.refl [] w
 refine Yf (N := 10) (vs0 := [(.agg #[(.int .i64 e.id), (.int .i64 e.f), (.int .i64 e.t), (.int .i64 e.label)]), (.bool b)]) Try.func101 rfl rfl rfl ?_
 refine Zg fun K1 H1 => ?_
 refine Zc (Zx rfl rfl ?_)
 refine Xj rfl fun d W2 a C2 h => ?_
 have i := C2.size
 have E := E.trans C2
 have j := a.lt
 replace a : Blk W2 d 129 [(.int .i64 e.id), (.int .i64 e.f), (.int .i64 e.t), (.int .i64 e.label)] := a
 refine Za rfl rfl (Zd rfl) (Ze (Zb (H1 _ _ ?_)))
 refine Zg fun K3 H3 => ?_
 refine Zg fun K4 H4 => ?_
 refine Zc (Za rfl rfl (Zf rfl) (Ze (Zb (H4 _ _ ?_))))
 refine Zz rfl (fun c => ?_) (fun c => ?_)
 ·have g := c
  refine Zg fun K6 H6 => ?_
  refine Zc (Za rfl rfl (Zh fa129_1 rfl) (Za rfl rfl (Zl a.at_ agg3 rfl rfl) (Za rfl rfl (Zd rfl) (Ze (Zb (H6 _ _ ?_))))))
  refine Yb (Zp ?_)
  exact Zi [_] ⟨rfl, trivial⟩ ⟨congrArg (Value.int .i64) (by unfold Yv; rw [c]; rfl), E⟩
 have g := c
 refine Zu ?_
 refine Zb (H3 _ _ ?_)
 refine Zg fun K7 H7 => ?_
 refine Zc (Za rfl rfl (Zh fa129_2 rfl) (Za rfl rfl (Zl a.at_ agg3 rfl rfl) (Za rfl rfl (Zd rfl) (Ze (Zb (H7 _ _ ?_))))))
 refine Yb ?_
 exact Zi [_] ⟨rfl, trivial⟩ ⟨congrArg (Value.int .i64) (by unfold Yv; rw [c]; rfl), E⟩

/-- spec.l4From -/
theorem Zfm {w : World} {LL_gV U : Nat} {C : Value} {gV : List Int} (q : Ls ics 1 w LL_gV U C gV) {LL_gE V : Nat} {D : Value} {gE : List GEdge} (l : Ls GEdge.cs 4 w LL_gE V D gE) (node : Int) (hg : Qc gV gE)  :
 Ctr Try.prog 98 #[(.agg #[C, D]), (.int .i64 node)] w (fun v w' => Ol GStp.cs 97 2 w' v (stL gE node) ∧ Lo w.heap.size v ∧ Ch [] w w') := by
 obtain ⟨s, t, H⟩ := q.val
 subst H
 have aO := q.len
 have q := q.here (by decide)
 obtain ⟨u, x, I⟩ := l.val
 subst I
 have aP := l.len
 have l := l.here (by decide)
 have E := Ch.refl [] w
 refine Yf (N := 52) (vs0 := [(.agg #[(.slice s gV.length t), (.slice u gE.length x)]), (.int .i64 node)]) Try.func98 rfl rfl rfl ?_
 refine Zg fun K1 H1 => ?_
 refine Zc (Zx rfl rfl ?_)
 refine Xj rfl fun aw W2 an C2 bv => ?_
 have bw := C2.size
 have E := E.trans C2
 have bz := an.lt
 replace an : Blk W2 aw 36 [(.slice s gV.length t), (.slice u gE.length x)] := an
 refine Za rfl rfl (Zd rfl) (Ze (Zb (H1 _ _ ?_)))
 refine Zg fun K3 H3 => ?_
 refine Zc (Zx rfl rfl ?_)
 refine Zaa (k := 2) GStp.cs el133 sz97 fun bA W4 aQ ax C4 => ?_
 have bB := C4.size
 have E := E.trans C4
 obtain ⟨X, Y, rfl, a1, aR⟩ := aQ.opn
 refine Za rfl rfl (Zd rfl) (Ze (Zb (H3 _ _ ?_)))
 refine Zg fun K5 H5 => ?_
 refine Zg fun K6 H6 => ?_
 refine Zc (Za rfl rfl (Zd rfl) (Ze (Zb (H6 _ _ ?_))))
 refine Yd ?_
 have Z : Ol GStp.cs 97 2 W4 (.slice X (([] : List GStp)).length Y) (stL (gE.take 0) node) := by
  have hx := aQ
  exact hx
 have F8 := an.ch0 C4
 refine Xd (σ := Nat × Value) (fun ⟨k, ov⟩ => [(1, (.int .i64 node)), (2, (.pointer (some ⟨aw, 0, none⟩))), (4, (.slice none 0 0)), (5, ov), (6, (.int .i64 ((k : Nat) : Int)))]) (fun ⟨k, ov⟩ wx => Ch [] w wx ∧ W4.heap.size ≤ wx.heap.size ∧ (k ≤ gE.length) ∧ Blk wx aw 36 [(.slice s gV.length t), (.slice u gE.length x)] ∧ Ol GStp.cs 97 2 wx ov (stL (gE.take k) node) ∧ Lo W2.heap.size ov) (fun ⟨k, ov⟩ => gE.length - k) (0, (.slice X (([] : List GStp)).length Y)) (sC4 rfl rfl rfl rfl (sC1 rfl (Sub.nil _))) ⟨E, (Nat.le_refl _), om, F8, Z, ax⟩ ?_
 rintro ⟨k, ov⟩ R9 ⟨E, a2, bC, f, m, e⟩
 have aa := E
 have aS := aa.size
 have ay := f.lt
 obtain ⟨Aov, Cov, rfl, lov, hiov⟩ := m.opn
 refine Zg fun bD a3 => ?_
 refine Zg fun bF a4 => ?_
 refine Zc (Za rfl rfl (Zf rfl) (Za rfl rfl (Zh fa36_1 rfl) (Za rfl rfl (Zl f.at_ agg34 rfl rfl) (Za rfl rfl (Yz (by rw [el34]; rfl) rfl) (Za rfl rfl (Xh rfl rfl) (Ze (Zb (a4 _ _ ?_))))))))
 refine Zz rfl (fun p => ?_) (fun p => ?_)
 ·have az := p
  have p := Yp p
  refine Zu ?_
  refine Zb (a3 _ _ ?_)
  refine Zg fun bG ao => ?_
  refine Yd ?_
  refine Zg fun bH aT => ?_
  refine Zg fun bI a5 => ?_
  refine Zc (Za rfl rfl (Zh fa36_1 rfl) (Za rfl rfl (Zl f.at_ agg34 rfl rfl) (Za rfl rfl (Zf rfl) (Zx rfl rfl ?_))))
  have ab := l.ch0 aa
  refine (Yc ab GEdge.len el34 sz129 rfl rfl rfl om fun a6 a7 a aA => ?_)
  refine Za rfl rfl (Zh fa129_1 rfl) (Za rfl rfl (Zl aA agg3 rfl rfl) (Za rfl rfl (Zf rfl) (Za rfl rfl (Zbv rfl rfl) (Ze (Zb (a5 _ _ ?_))))))
  refine Zz rfl (fun d => ?_) (fun d => ?_)
  ·have aB := d
   have d := Yp d
   refine Zc (Za rfl rfl (Zf rfl) (Za rfl rfl (Zh fa36_1 rfl) (Za rfl rfl (Zl f.at_ agg34 rfl rfl) (Za rfl rfl (Zf rfl) (Zx rfl rfl ?_)))))
   refine (Yc ab GEdge.len el34 sz129 rfl rfl rfl om fun a8 r h aC => ?_)
   refine Za rfl rfl (Zh fa129_0 rfl) (Za rfl rfl (Zl aC agg3 rfl rfl) (Za rfl rfl (Yk (parts := [(0, .tmp 29)]) (cells := [(.int .i64 r.id), (.bool false)]) zr97 pl97 rfl rfl) (Zx rfl rfl ?_)))
   refine Zm (cs := GStp.cs) (parts := [(0, .tmp 30)]) (⟨0, false⟩ : GStp) [(⟨r.id, false⟩ : GStp)] el133 sz97 zr97 GStp.len (by decide) rfl rfl rfl (by decide) (by decide) rfl fun a9 bJ ac aU ad => ?_
   have ba := ad.size
   have E := E.trans ad
   obtain ⟨aV, aW, rfl, aX, aD⟩ := ac.opn
   refine Zx rfl rfl ?_
   have bb := m.ch0 ad
   refine Zy (cs := GStp.cs) el133 sz97 by97 zr97 rfl (by decide) GStp.one bb ac.ls rfl rfl (by have ae := Zbt hg node k; simp only [List.length_append, List.length_singleton]; omega) (by have ae := Zbt hg node k; simp only [List.length_append, List.length_singleton]; omega) e om fun bc bd J y af ap => ?_
   have be := ap.size
   have E := E.step ap (fun i hi => .inl (by have T := e _ hi; omega))
   obtain ⟨F, G, rfl, aY, aE⟩ := J.opn
   refine Za rfl rfl (Zd rfl) (Ze (Zb (aT _ _ ?_)))
   refine Zg fun bK bf => ?_
   refine Zc (Za rfl rfl (Zh fa36_1 rfl) ?_)
   have aq := (f.ch0 ad).ch ap (fun hm => by have T := e _ hm; have aZ := hiov _ hm; omega)
   refine Za rfl rfl (Zl aq.at_ agg34 rfl rfl) (Za rfl rfl (Zf rfl) (Zx rfl rfl ?_))
   have a0 := (ab.ch0 ad).ch ap (fun i hi => by have T := e _ hi; omega)
   refine (Yc a0 GEdge.len el34 sz129 rfl rfl rfl om fun aF aG c K => ?_)
   refine Za rfl rfl (Zh fa129_2 rfl) (Za rfl rfl (Zl K agg3 rfl rfl) (Za rfl rfl (Zf rfl) (Za rfl rfl (Zbv rfl rfl) (Ze (Zb (bf _ _ ?_))))))
   refine Zz rfl (fun b => ?_) (fun b => ?_)
   ·have aH := b
    have b := Yp b
    refine Zc (Za rfl rfl (Zf rfl) (Za rfl rfl (Zh fa36_1 rfl) (Za rfl rfl (Zl aq.at_ agg34 rfl rfl) (Za rfl rfl (Zf rfl) (Zx rfl rfl ?_)))))
    refine (Yc a0 GEdge.len el34 sz129 rfl rfl rfl om fun aI j g L => ?_)
    refine Za rfl rfl (Zh fa129_0 rfl) (Za rfl rfl (Zl L agg3 rfl rfl) (Za rfl rfl (Yk (parts := [(0, .tmp 47), (1, .const (Go.Value.bool true))]) (cells := [(.int .i64 j.id), (.bool true)]) zr97 pl97 rfl rfl) (Zx rfl rfl ?_)))
    refine Zm (cs := GStp.cs) (parts := [(0, .tmp 48)]) (⟨0, false⟩ : GStp) [(⟨j.id, true⟩ : GStp)] el133 sz97 zr97 GStp.len (by decide) rfl rfl rfl (by decide) (by decide) rfl fun aJ bL z ag au => ?_
    have bg := au.size
    have E := E.trans au
    obtain ⟨ah, ai, rfl, aj, M⟩ := z.opn
    refine Zx rfl rfl ?_
    have bh := J.ch0 au
    refine Zy (cs := GStp.cs) el133 sz97 by97 zr97 rfl (by decide) GStp.one bh z.ls rfl rfl (by have ae := Zbt hg node k; simp only [List.length_append, List.length_singleton]; omega) (by have ae := Zbt hg node k; simp only [List.length_append, List.length_singleton]; omega) y om fun aK bi A B ak aL => ?_
    have bj := aL.size
    have E := E.step aL (fun i hi => .inl (by have T := y _ hi; omega))
    obtain ⟨n, o, rfl, al, O⟩ := A.opn
    refine Za rfl rfl (Zd rfl) (Ze (Zq (Zb (ao _ _ (Zc (Za rfl rfl (Zf rfl) (Za rfl rfl (Ye om rfl rfl) (Za rfl rfl (Zd rfl) ?_))))))))
    refine Ze ?_
    have P : Ol GStp.cs 97 2 bi (.slice n (((stL (gE.take k) node ++ [(⟨r.id, false⟩ : GStp)]) ++ [(⟨j.id, true⟩ : GStp)])).length o) (stL (gE.take (k + 1)) node) := by
     have hx := A
     first | (cases Zv h a; cases Zv c a; cases Zv g a; exact hx.eq (Zhl a d b)) | (cases Zv h a; cases Zv c a; exact hx.eq (Zhh a d b)) | (cases Zv c a; cases Zv g a; exact hx.eq (Zhg a d b)) | (cases Zv c a; exact hx.eq (Zhk a d b))
    have bk := (aq.ch0 au).ch aL (fun hm => by rcases af with ea | ea; (rw [ea] at hm; have T := e _ hm; have aZ := hiov _ hm; omega); (rw [ea] at hm; have bM := List.mem_singleton.1 hm; omega))
    exact Zb (Exists.intro ((k + 1), (.slice n (((stL (gE.take k) node ++ [(⟨r.id, false⟩ : GStp)]) ++ [(⟨j.id, true⟩ : GStp)])).length o)) ⟨⟨E, om, om, bk, P, (Lo.down B om)⟩, sC4 rfl rfl rfl rfl (sC1 rfl (Sub.nil _)), (by first | omega | (dsimp only; omega))⟩)
   have aH := b
   have b := Yq b
   refine Zu ?_
   refine Zq (Zb (ao _ _ (Zc (Za rfl rfl (Zf rfl) (Za rfl rfl (Ye om rfl rfl) (Za rfl rfl (Zd rfl) (Ze ?_)))))))
   have Q : Ol GStp.cs 97 2 bd (.slice F ((stL (gE.take k) node ++ [(⟨r.id, false⟩ : GStp)])).length G) (stL (gE.take (k + 1)) node) := by
    have hx := J
    first | (cases Zv h a; cases Zv c a; cases Zv g a; exact hx.eq (Zhl a d b)) | (cases Zv h a; cases Zv c a; exact hx.eq (Zhh a d b)) | (cases Zv c a; cases Zv g a; exact hx.eq (Zhg a d b)) | (cases Zv c a; exact hx.eq (Zhk a d b))
   exact Zb (Exists.intro ((k + 1), (.slice F ((stL (gE.take k) node ++ [(⟨r.id, false⟩ : GStp)])).length G)) ⟨⟨E, om, om, aq, Q, (Lo.down y om)⟩, sC4 rfl rfl rfl rfl (sC1 rfl (Sub.nil _)), (by first | omega | (dsimp only; omega))⟩)
  have aB := d
  have d := Yq d
  refine Zu ?_
  refine Zb (aT _ _ ?_)
  refine Zg fun bN bm => ?_
  refine Zc (Za rfl rfl (Zh fa36_1 rfl) (Za rfl rfl (Zl f.at_ agg34 rfl rfl) (Za rfl rfl (Zf rfl) (Zx rfl rfl ?_))))
  refine (Yc ab GEdge.len el34 sz129 rfl rfl rfl om fun aF aG c K => ?_)
  refine Za rfl rfl (Zh fa129_2 rfl) (Za rfl rfl (Zl K agg3 rfl rfl) (Za rfl rfl (Zf rfl) (Za rfl rfl (Zbv rfl rfl) (Ze (Zb (bm _ _ ?_))))))
  refine Zz rfl (fun b => ?_) (fun b => ?_)
  ·have aM := b
   have b := Yp b
   refine Zc (Za rfl rfl (Zf rfl) (Za rfl rfl (Zh fa36_1 rfl) (Za rfl rfl (Zl f.at_ agg34 rfl rfl) (Za rfl rfl (Zf rfl) (Zx rfl rfl ?_)))))
   refine (Yc ab GEdge.len el34 sz129 rfl rfl rfl om fun aI j g L => ?_)
   refine Za rfl rfl (Zh fa129_0 rfl) (Za rfl rfl (Zl L agg3 rfl rfl) (Za rfl rfl (Yk (parts := [(0, .tmp 47), (1, .const (Go.Value.bool true))]) (cells := [(.int .i64 j.id), (.bool true)]) zr97 pl97 rfl rfl) (Zx rfl rfl ?_)))
   refine Zm (cs := GStp.cs) (parts := [(0, .tmp 48)]) (⟨0, false⟩ : GStp) [(⟨j.id, true⟩ : GStp)] el133 sz97 zr97 GStp.len (by decide) rfl rfl rfl (by decide) (by decide) rfl fun aJ bO z ag av => ?_
   have bn := av.size
   have E := E.trans av
   obtain ⟨ah, ai, rfl, aj, M⟩ := z.opn
   refine Zx rfl rfl ?_
   have bp := m.ch0 av
   refine Zy (cs := GStp.cs) el133 sz97 by97 zr97 rfl (by decide) GStp.one bp z.ls rfl rfl (by have ae := Zbt hg node k; simp only [List.length_append, List.length_singleton]; omega) (by have ae := Zbt hg node k; simp only [List.length_append, List.length_singleton]; omega) e om fun aK bq A B ak aN => ?_
   have br := aN.size
   have E := E.step aN (fun i hi => .inl (by have T := e _ hi; omega))
   obtain ⟨n, o, rfl, al, O⟩ := A.opn
   refine Za rfl rfl (Zd rfl) (Ze (Zq (Zb (ao _ _ (Zc (Za rfl rfl (Zf rfl) (Za rfl rfl (Ye om rfl rfl) (Za rfl rfl (Zd rfl) ?_))))))))
   refine Ze ?_
   have R : Ol GStp.cs 97 2 bq (.slice n ((stL (gE.take k) node ++ [(⟨j.id, true⟩ : GStp)])).length o) (stL (gE.take (k + 1)) node) := by
    have hx := A
    first | (cases Zv h a; cases Zv c a; cases Zv g a; exact hx.eq (Zhl a d b)) | (cases Zv h a; cases Zv c a; exact hx.eq (Zhh a d b)) | (cases Zv c a; cases Zv g a; exact hx.eq (Zhg a d b)) | (cases Zv c a; exact hx.eq (Zhk a d b))
   have bs := (f.ch0 av).ch aN (fun hm => by have T := e _ hm; have aZ := hiov _ hm; omega)
   exact Zb (Exists.intro ((k + 1), (.slice n ((stL (gE.take k) node ++ [(⟨j.id, true⟩ : GStp)])).length o)) ⟨⟨E, om, om, bs, R, (Lo.down B om)⟩, sC4 rfl rfl rfl rfl (sC1 rfl (Sub.nil _)), (by first | omega | (dsimp only; omega))⟩)
  have aM := b
  have b := Yq b
  refine Zu ?_
  refine Zq (Zb (ao _ _ (Zc (Za rfl rfl (Zf rfl) (Za rfl rfl (Ye om rfl rfl) (Za rfl rfl (Zd rfl) (Ze ?_)))))))
  have S : Ol GStp.cs 97 2 R9 (.slice Aov (stL (gE.take k) node).length Cov) (stL (gE.take (k + 1)) node) := by
   have hx := m
   first | (cases Zv h a; cases Zv c a; cases Zv g a; exact hx.eq (Zhl a d b)) | (cases Zv h a; cases Zv c a; exact hx.eq (Zhh a d b)) | (cases Zv c a; cases Zv g a; exact hx.eq (Zhg a d b)) | (cases Zv c a; exact hx.eq (Zhk a d b))
  exact Zb (Exists.intro ((k + 1), (.slice Aov (stL (gE.take k) node).length Cov)) ⟨⟨E, om, om, f, S, (Lo.down e om)⟩, sC4 rfl rfl rfl rfl (sC1 rfl (Sub.nil _)), (by first | omega | (dsimp only; omega))⟩)
 have az := p
 have p := Yq p
 refine Xc (Zt (Zt (Yx ?_)))
 refine Zb (H5 _ _ ?_)
 refine Zg fun bP bu => ?_
 refine Zc (Za rfl rfl (Zf rfl) (Za rfl rfl (Zd rfl) (Ze (Zb (bu _ _ ?_)))))
 refine Yb ?_
 have am : Ol GStp.cs 97 2 R9 (.slice Aov (stL (gE.take k) node).length Cov) (stL gE node) := by
  have hx := m
  exact hx.eq (by rw [List.take_of_length_le om])
 exact Zi [_] ⟨rfl, trivial⟩ ⟨am, Lo.down e om, E⟩

end Go.Proofs.Ytkmhgeppenifoaa
