/- Walks of functions that FnExactProductSteps reaches: what each returns, and that it leaves the memory that was there alone. -/
import Derived.Test.YtkmhgeppenifoaaLibA
import Derived.Test.YtkmhgeppenifoaaLibB
import Derived.Test.YtkmhgeppenifoaaProg
namespace Go.Proofs.Ytkmhgeppenifoaa
open Go.KLib Go.Shelf
set_option maxHeartbeats 1000000
set_option maxRecDepth 20000
set_option linter.unusedVariables false
set_option linter.unusedSimpArgs false
namespace TExactProductSteps
theorem agg22 : Ys Try.prog 22 = some false := by kernel_rfl
theorem agg27 : Ys Try.prog 27 = some false := by kernel_rfl
theorem agg3 : Ys Try.prog 3 = some false := by kernel_rfl
theorem agg38 : Ys Try.prog 38 = some true := by kernel_rfl
theorem by3 : Zan Try.prog 3 = some 8 := by kernel_rfl
theorem el22 : elB Try.prog 22 = some 3 := by kernel_rfl
theorem el27 : elB Try.prog 27 = some 22 := by kernel_rfl
theorem fa129_3 : faB Try.prog 129 3 = some 3 := by kernel_rfl
theorem fa38_2 : faB Try.prog 38 2 = some 2 := by kernel_rfl
theorem fk105 : fnB Try.prog 105 = true := by kernel_rfl
theorem fk106 : fnB Try.prog 106 = true := by kernel_rfl
theorem fk128 : fnB Try.prog 128 = true := by kernel_rfl
theorem fk58 : fnB Try.prog 58 = true := by kernel_rfl
theorem fk85 : fnB Try.prog 85 = true := by kernel_rfl
theorem sz22 : Yh Try.prog 22 = some 1 := by kernel_rfl
theorem sz3 : Yh Try.prog 3 = some 1 := by kernel_rfl
theorem sz38 : Yh Try.prog 38 = some 3 := by kernel_rfl
theorem zr3 : Xz Try.prog 3 = some (.int .i64 0) := by kernel_rfl
end TExactProductSteps
open TExactProductSteps

/-- impl.within -/
theorem Xk {w : World} (n : Int) (a : Int) (b : Int) :
 Ctr Try.prog 85 #[(.int .i64 n), (.int .i64 a), (.int .i64 b)] w (fun v w' => v = .bool (decide (a ≤ n ∧ n ≤ b)) ∧ Ch [] w w') := by
 have E := Ch.refl [] w
 refine Yf (N := 15) (vs0 := [(.int .i64 n), (.int .i64 a), (.int .i64 b)]) Try.func85 rfl rfl rfl ?_
 refine Zg fun K1 H1 => ?_
 refine Zc (Za rfl rfl (Zd rfl) (Ze (Zb (H1 _ _ ?_))))
 refine Zg fun K2 H2 => ?_
 refine Zc (Za rfl rfl (Zf rfl) (Za rfl rfl (Zf rfl) (Za rfl rfl (Zeb rfl rfl) (Za rfl rfl (Zf rfl) ?_))))
 refine Xg (d := 10) rfl (fun c => ?_) (fun c => ?_)
 ·have e := c
  have c := Yp c
  refine Za rfl rfl (Zf rfl) (Za rfl rfl (Zf rfl) (Za rfl rfl (Zid rfl rfl) (Za rfl rfl (Xi rfl rfl) (Za rfl rfl (Zd rfl) (Ze (Zb (H2 _ _ ?_)))))))
  refine Yb ?_
  exact Zi [_] ⟨rfl, trivial⟩ ⟨congrArg Value.bool (by first | rfl | (rw [Bool.eq_iff_iff]; simp <;> omega) | (rw [Bool.eq_iff_iff]; simp_all; done) | simp_all), E⟩
 have e := c
 have c := Yq c
 refine Zo rfl rfl (Zo rfl rfl (Zo rfl rfl (Za rfl rfl (Xb rfl rfl) (Za rfl rfl (Zd rfl) (Ze (Zb (H2 _ _ ?_)))))))
 refine Yb ?_
 exact Zi [_] ⟨rfl, trivial⟩ ⟨congrArg Value.bool (by first | rfl | (rw [Bool.eq_iff_iff]; simp <;> omega) | (rw [Bool.eq_iff_iff]; simp_all; done) | simp_all), E⟩

/-- impl.isLetter -/
theorem Zdx {w : World} (n : Int) :
 Ctr Try.prog 128 #[(.int .i64 n)] w (fun v w' => v = .bool (decide (0 ≤ n ∧ n ≤ 8)) ∧ Ch [] w w') := by
 have E := Ch.refl [] w
 refine Yf (N := 5) (vs0 := [(.int .i64 n)]) Try.func128 rfl rfl rfl ?_
 refine Zg fun K1 H1 => ?_
 refine Zc (Za rfl rfl (Zd rfl) (Ze (Zb (H1 _ _ ?_))))
 refine Zg fun K2 H2 => ?_
 refine Zc (Za rfl rfl (Zf rfl) (Zx rfl rfl ?_))
 refine Step.call (Zr (xs := [.tmp 3, .const (Go.Value.int Go.IntKind.i64 0), .const (Go.Value.int Go.IntKind.i64 8)]) fk85 rfl) (Xk _ _ _ ) fun b W3 a => ?_
 obtain ⟨rfl, C3⟩ := a
 have c := C3.size
 have E := E.trans C3
 refine Za rfl rfl (Zd rfl) (Ze (Zb (H2 _ _ ?_)))
 refine Yb ?_
 exact Zi [_] ⟨rfl, trivial⟩ ⟨congrArg Value.bool rfl, E⟩

/-- impl.Automaton).move -/
theorem Zag {w : World} (aS : Int) {LL_aA z : Nat} {p : Value} {aA : List Bool} (g : Ls bcs 1 w LL_aA z p aA) {LL_saN t : Nat} {h : Value} {saN : List Sv} (b : Ls Sv.cs 1 w LL_saN t h saN) {LR_aN BB_aN : Nat} {aN : List (List Int)} (c : Rd ics 1 w LR_aN BB_aN saN aN) (s : Int) (x : Int) (hv : Xs aS aA aN) (hs : -1 ≤ s ∧ s ≤ (aA.length : Int) - 1) :
 Ctr Try.prog 106 #[(.agg #[(.int .i64 aS), p, h]), (.int .i64 s), (.int .i64 x)] w (fun v w' => v = .int .i64 (Qk aN s x) ∧ Ch [] w w') := by
 obtain ⟨q, r, u⟩ := g.val
 subst u
 have L := g.len
 have g := g.here (by decide)
 obtain ⟨i, k, o⟩ := b.val
 subst o
 have F := b.len
 have b := b.here (by decide)
 have c := c.here (by decide)
 have G := c.1
 have E := Ch.refl [] w
 have ab := hv.2.2.1
 refine Yf (N := 22) (vs0 := [(.agg #[(.int .i64 aS), (.slice q aA.length r), (.slice i saN.length k)]), (.int .i64 s), (.int .i64 x)]) Try.func106 rfl rfl rfl ?_
 refine Zg fun K1 H1 => ?_
 refine Zc (Zx rfl rfl ?_)
 refine Xj rfl fun M W2 D C2 ac => ?_
 have ad := C2.size
 have E := E.trans C2
 have ae := D.lt
 replace D : Blk W2 M 38 [(.int .i64 aS), (.slice q aA.length r), (.slice i saN.length k)] := D
 refine Za rfl rfl (Zd rfl) (Ze (Zb (H1 _ _ ?_)))
 refine Zg fun K3 H3 => ?_
 refine Zg fun K4 H4 => ?_
 refine Zc (Za rfl rfl (Zf rfl) (Za rfl rfl (Xh rfl rfl) (Za rfl rfl (Zf rfl) ?_)))
 refine Xg (d := 9) rfl (fun n => ?_) (fun n => ?_)
 ·have O := n
  have n := Yp n
  refine Zo rfl rfl (Zo rfl rfl (Zo rfl rfl (Za rfl rfl (Xi rfl rfl) (Ze (Zb (H4 _ _ ?_))))))
  refine Zbk rfl ?_
  refine Zg fun K6 H6 => ?_
  refine Zc (Za rfl rfl (Zd rfl) (Ze (Zb (H6 _ _ ?_))))
  refine Yb (Zp ?_)
  exact Zi [_] ⟨rfl, trivial⟩ ⟨congrArg (Value.int .i64) (by first | exact Zdm om a e l | exact Zcj (.inl n) | exact Zcj (.inr a) | exact Zcj (.inl om)), E⟩
 have O := n
 have n := Yq n
 refine Za rfl rfl (Zf rfl) (Zx rfl rfl ?_)
 refine Step.call (Zr (xs := [.tmp 10]) fk128 rfl) (Zdx _ ) fun P W7 H => ?_
 obtain ⟨rfl, C7⟩ := H
 have af := C7.size
 have E := E.trans C7
 refine Za rfl rfl (Qj rfl) (Za rfl rfl (Xb rfl rfl) (Ze (Zb (H4 _ _ ?_))))
 refine Zz rfl (fun a => ?_) (fun a => ?_)
 ·have Q := a
  have a := Yq (Xv a)
  refine Zg fun K9 H9 => ?_
  refine Zc (Za rfl rfl (Zd rfl) (Ze (Zb (H9 _ _ ?_))))
  refine Yb (Zp ?_)
  exact Zi [_] ⟨rfl, trivial⟩ ⟨congrArg (Value.int .i64) (by first | exact Zdm om a e l | exact Zcj (.inl n) | exact Zcj (.inr a) | exact Zcj (.inl om)), E⟩
 have Q := a
 have a := Yp (Xw a)
 refine Zu ?_
 refine Zb (H3 _ _ ?_)
 refine Zg fun ag R => ?_
 refine Zc (Za rfl rfl (Zh fa38_2 rfl) ?_)
 have S := D.ch0 C7
 refine Za rfl rfl (Zl S.at_ agg27 rfl rfl) (Za rfl rfl (Zf rfl) (Zx rfl rfl ?_))
 have T := (b.ch0 C2).ch0 C7
 refine (Yc (j := s.toNat) T Sv.len el27 sz22 rfl rfl om om fun I J A y => ?_)
 have U := (c.ch0 C2).ch0 C7
 obtain ⟨m, e, f⟩ := U.get A
 obtain ⟨B, V, C⟩ := J
 obtain rfl := f.eqn
 have X := f.len
 replace f : Ls ics 1 W7 LR_aN w.heap.size (.slice B m.length C) m := f
 replace y : At W7 LL_saN w.heap.size I ([(.slice B m.length C)]) := y
 have Y := (Xp hv.2 e).1
 refine Za rfl rfl (Ya y agg22 rfl rfl) (Za rfl rfl (Zf rfl) (Zx rfl rfl ?_))
 refine (Yc (j := x.toNat) f Xr el22 sz3 rfl rfl om om fun Z aa l K => ?_)
 refine Za rfl rfl (Ya K agg3 rfl rfl) (Za rfl rfl (Zd rfl) (Ze (Zb (R _ _ ?_))))
 refine Yb ?_
 exact Zi [_] ⟨rfl, trivial⟩ ⟨congrArg (Value.int .i64) (by first | exact Zdm om a e l | exact Zcj (.inl n) | exact Zcj (.inr a) | exact Zcj (.inl om)), E⟩

/-- impl.closure -/
theorem Zek {w : World} (aS : Int) {LL_aA t : Nat} {p : Value} {aA : List Bool} (e : Ls bcs 1 w LL_aA t p aA) {LL_saN q : Nat} {i : Value} {saN : List Sv} (a : Ls Sv.cs 1 w LL_saN q i saN) {LR_aN BB_aN : Nat} {aN : List (List Int)} (c : Rd ics 1 w LR_aN BB_aN saN aN) (s : Int) (x : Int) (hv : Xs aS aA aN) (hs : 0 ≤ s ∧ s ≤ (aA.length : Int) - 1) (hw : 0 ≤ x ∧ x ≤ 2) :
 Ctr Try.prog 105 #[(.agg #[(.int .i64 aS), p, i]), (.int .i64 s), (.int .i64 x)] w (fun v w' => v = .int .i64 (((cloR aN (6 + x) s : Nat) : Int)) ∧ Ch [] w w') := by
 obtain ⟨j, k, r⟩ := e.val
 subst r
 have H := e.len
 have e := e.here (by decide)
 obtain ⟨f, g, n⟩ := a.val
 subst n
 have y := a.len
 have a := a.here (by decide)
 have c := c.here (by decide)
 have A := c.1
 have E := Ch.refl [] w
 have V := hv.2.2.1; have X := hv.1
 refine Yf (N := 29) (vs0 := [(.agg #[(.int .i64 aS), (.slice j aA.length k), (.slice f saN.length g)]), (.int .i64 s), (.int .i64 x)]) Try.func105 rfl rfl rfl ?_
 refine Zg fun K1 H1 => ?_
 refine Zc (Zx rfl rfl ?_)
 refine Xj rfl fun B W2 u C2 Y => ?_
 have Z := C2.size
 have E := E.trans C2
 have aa := u.lt
 replace u : Blk W2 B 38 [(.int .i64 aS), (.slice j aA.length k), (.slice f saN.length g)] := u
 refine Za rfl rfl (Zd rfl) (Ze (Zb (H1 _ _ ?_)))
 refine Zg fun K3 H3 => ?_
 refine Zc (Za rfl rfl (Zd rfl) (Ze (Zb (H3 _ _ ?_))))
 refine Zg fun K4 H4 => ?_
 refine Zg fun K5 H5 => ?_
 refine Zc (Za rfl rfl (Zf rfl) (Za rfl rfl (Zd rfl) (Ze (Zb (H5 _ _ ?_)))))
 refine Yd ?_
 refine Xd (σ := Int × Int) (fun ⟨z, m⟩ => [(2, (.int .i64 x)), (3, (.pointer (some ⟨B, 0, none⟩))), (6, (.int .i64 0)), (7, (.int .i64 m)), (8, (.int .i64 z))]) (fun ⟨z, m⟩ wx => Ch [] w wx ∧ W2.heap.size ≤ wx.heap.size ∧ (-1 ≤ z ∧ z ≤ (aA.length : Int) - 1) ∧ (CloI aN (6 + x) s z m) ∧ Blk wx B 38 [(.int .i64 aS), (.slice j aA.length k), (.slice f saN.length g)]) (fun ⟨z, m⟩ => zc m.toNat 12) (s, 0) (sC4 rfl rfl rfl rfl (sC1 rfl (Sub.nil _))) ⟨E, (Nat.le_refl _), om, (Zgl _ _ _), u⟩ ?_
 rintro ⟨z, m⟩ R6 ⟨E, J, hz, hc, l⟩
 have o := E
 have I := o.size
 have C := l.lt
 refine Zg fun K7 H7 => ?_
 refine Zg fun K8 H8 => ?_
 refine Zc (Za rfl rfl (Zf rfl) (Za rfl rfl (Zeb rfl rfl) (Za rfl rfl (Zf rfl) ?_)))
 refine Xg (d := 12) rfl (fun h => ?_) (fun h => ?_)
 ·have K := h
  have h := Yp h
  refine Za rfl rfl (Zf rfl) (Za rfl rfl (Zf rfl) (Za rfl rfl (Zea om rfl rfl) (Za rfl rfl (Zey rfl rfl) (Za rfl rfl (Zbv rfl rfl) (Za rfl rfl (Xi rfl rfl) (Ze (Zb (H8 _ _ ?_))))))))
  refine Zz rfl (fun b => ?_) (fun b => ?_)
  ·have D := b
   have b := Yp b
   refine Zu ?_
   refine Zb (H7 _ _ ?_)
   refine Zg fun ab L => ?_
   refine Yd ?_
   refine Zc (Za rfl rfl (Zf rfl) (Za rfl rfl (Zf rfl) (Za rfl rfl (Zgt om rfl rfl) (Za rfl rfl (r_or rfl rfl) (Za rfl rfl (Zd rfl) (Ze (Zq ?_)))))))
   refine Zb (L _ _ (Zc (Za rfl rfl (Zs l.at_ agg38 sz38 rfl) (Za rfl rfl (Zf rfl) (Za rfl rfl (Zf rfl) (Za rfl rfl (Ye om rfl rfl) (Zx rfl rfl ?_)))))))
   have M := e.ch0 o
   have O := c.ch0 o
   have P := a.ch0 o
   refine Step.call (Zr (xs := [.tmp 19, .tmp 20, .tmp 22]) fk106 rfl) (Zag _ M P O _ _ hv om) fun Q ac F => ?_
   obtain ⟨rfl, G⟩ := F
   have R := G.size
   have E := E.trans G
   refine Za rfl rfl (Zd rfl) (Ze ?_)
   have S := l.ch0 G
   exact Zb (Exists.intro (Qk aN z (6 + x), (ior m (Qp 1 z))) ⟨⟨E, om, (Zdk hv hz), (Zgm hc om om b), S⟩, sC4 rfl rfl rfl rfl (sC1 rfl (Sub.nil _)), (Ziu hc om om b)⟩)
  have D := b
  have b := Yq b
  refine Xc (Zt (Zt (Yx ?_)))
  refine Zb (H4 _ _ ?_)
  refine Zg fun ad T => ?_
  refine Zc (Za rfl rfl (Zf rfl) (Za rfl rfl (Zd rfl) (Ze (Zb (T _ _ ?_)))))
  refine Yb ?_
  exact Zi [_] ⟨rfl, trivial⟩ ⟨congrArg (Value.int .i64) (by first | exact Zcn hc om | exact Zco hc om om b), E⟩
 have K := h
 have h := Yq h
 refine Zo rfl rfl (Zo rfl rfl (Zo rfl rfl (Zo rfl rfl (Zo rfl rfl (Za rfl rfl (Xb rfl rfl) (Ze (Zb (H8 _ _ ?_))))))))
 refine Zbj rfl ?_
 refine Xc (Zt (Zt (Yx ?_)))
 refine Zb (H4 _ _ ?_)
 refine Zg fun ae U => ?_
 refine Zc (Za rfl rfl (Zf rfl) (Za rfl rfl (Zd rfl) (Ze (Zb (U _ _ ?_)))))
 refine Yb ?_
 exact Zi [_] ⟨rfl, trivial⟩ ⟨congrArg (Value.int .i64) (by first | exact Zcn hc om | exact Zco hc om om b), E⟩

/-- impl.members -/
theorem Zat {w : World} (m : Int) (j : 0 ≤ m) (P : m < 1073741824) :
 Ctr Try.prog 58 #[(.int .i64 m)] w (fun v w' => Ol ics 3 1 w' v (Yg m.toNat 30) ∧ Lo w.heap.size v ∧ Ch [] w w') := by
 have E := Ch.refl [] w
 refine Yf (N := 22) (vs0 := [(.int .i64 m)]) Try.func58 rfl rfl rfl ?_
 refine Zg fun K1 H1 => ?_
 refine Zc (Za rfl rfl (Zd rfl) (Ze (Zb (H1 _ _ ?_))))
 refine Zg fun K2 H2 => ?_
 refine Zc (Zx rfl rfl ?_)
 refine Zaa (k := 1) ics el22 sz3 fun ab W3 C t C3 => ?_
 have ac := C3.size
 have E := E.trans C3
 obtain ⟨l, n, rfl, Q, D⟩ := C.opn
 refine Za rfl rfl (Zd rfl) (Ze (Zb (H2 _ _ ?_)))
 refine Zg fun K4 H4 => ?_
 refine Zg fun K5 H5 => ?_
 refine Zc (Za rfl rfl (Zd rfl) (Ze (Zb (H5 _ _ ?_))))
 refine Yd ?_
 have o : Ol ics 3 1 W3 (.slice l (([] : List Int)).length n) (Yg m.toNat 0) := by
  have hx := C
  simpa [Yg] using hx
 refine Xd (σ := Nat × Value) (fun ⟨i, sv⟩ => [(0, (.int .i64 m)), (2, (.slice none 0 0)), (3, sv), (4, (.int .i64 ((i : Nat) : Int)))]) (fun ⟨i, sv⟩ wx => Ch [] w wx ∧ W3.heap.size ≤ wx.heap.size ∧ (i ≤ 30) ∧ Ol ics 3 1 wx sv (Yg m.toNat i) ∧ Lo w.heap.size sv) (fun ⟨i, sv⟩ => 30 - i) (0, (.slice l (([] : List Int)).length n)) (sC4 rfl rfl rfl rfl (Sub.nil _)) ⟨E, (Nat.le_refl _), om, o, t⟩ ?_
 rintro ⟨i, sv⟩ R7 ⟨E, R, hi, c, b⟩
 have u := E
 have F := u.size
 obtain ⟨Asv, Csv, rfl, lsv, hisv⟩ := c.opn
 refine Zg fun K8 H8 => ?_
 refine Zg fun K9 H9 => ?_
 refine Zc (Za rfl rfl (Zf rfl) (Za rfl rfl (Zf rfl) (Za rfl rfl (Zea om rfl rfl) (Za rfl rfl (Qu rfl rfl) (Ze (Zb (H9 _ _ ?_)))))))
 refine Zz rfl (fun d => ?_) (fun d => ?_)
 ·have x := d
  have d := Yq (Xv d)
  have ad := Zjk d j P hi
  refine Zu ?_
  refine Zb (H8 _ _ ?_)
  refine Zg fun ae G => ?_
  refine Yd ?_
  refine Zg fun af S => ?_
  refine Zc (Za rfl rfl (Zf rfl) (Za rfl rfl (Zf rfl) (Za rfl rfl (Zea om rfl rfl) (Za rfl rfl (Zey rfl rfl) (Za rfl rfl (Zbv rfl rfl) (Ze (Zb (S _ _ ?_))))))))
  refine Zz rfl (fun a => ?_) (fun a => ?_)
  ·have y := a
   have a := Yp a
   refine Zc (Za rfl rfl (Zf rfl) (Za rfl rfl (Zf rfl) (Zx rfl rfl ?_)))
   refine Zm (cs := ics) (parts := [(0, .tmp 18)]) (0 : Int) [((i : Nat) : Int)] el22 sz3 zr3 Xr (by decide) rfl rfl rfl (by decide) (by decide) rfl fun T ag p H z => ?_
   have U := z.size
   have E := E.trans z
   obtain ⟨I, J, rfl, K, A⟩ := p.opn
   refine Zx rfl rfl ?_
   have V := c.ch0 z
   refine Zy (cs := ics) el22 sz3 by3 zr3 rfl (by decide) Zlm V p.ls rfl rfl (by have d := Zau m.toNat i; simp only [List.length_singleton]; omega) (by have d := Zau m.toNat i; simp only [List.length_singleton]; omega) b om fun X Y q r L M => ?_
   have Z := M.size
   have E := E.step M (fun i hi => .inl (by have ah := b _ hi; omega))
   obtain ⟨e, f, rfl, O, B⟩ := q.opn
   refine Za rfl rfl (Zd rfl) (Ze (Zq (Zb (G _ _ (Zc (Za rfl rfl (Zf rfl) (Za rfl rfl (Ye om rfl rfl) (Za rfl rfl (Zd rfl) ?_))))))))
   refine Ze ?_
   have g : Ol ics 3 1 Y (.slice e ((Yg m.toNat i ++ [((i : Nat) : Int)])).length f) (Yg m.toNat (i + 1)) := by
    have hx := q
    first | exact hx.eq (Zjc a j om om) | exact hx.eq (Zit a j om om)
   exact Zb (Exists.intro ((i + 1), (.slice e ((Yg m.toNat i ++ [((i : Nat) : Int)])).length f)) ⟨⟨E, om, om, g, (Lo.down r om)⟩, sC4 rfl rfl rfl rfl (Sub.nil _), (by first | omega | (dsimp only; omega))⟩)
  have y := a
  have a := Yq a
  refine Zu ?_
  refine Zq (Zb (G _ _ (Zc (Za rfl rfl (Zf rfl) (Za rfl rfl (Ye om rfl rfl) (Za rfl rfl (Zd rfl) (Ze ?_)))))))
  have h : Ol ics 3 1 R7 (.slice Asv (Yg m.toNat i).length Csv) (Yg m.toNat (i + 1)) := by
   have hx := c
   first | exact hx.eq (Zjc a j om om) | exact hx.eq (Zit a j om om)
  exact Zb (Exists.intro ((i + 1), (.slice Asv (Yg m.toNat i).length Csv)) ⟨⟨E, om, om, h, (Lo.down b om)⟩, sC4 rfl rfl rfl rfl (Sub.nil _), (by first | omega | (dsimp only; omega))⟩)
 have x := d
 have d := Yp (Xw d)
 refine Xc (Zt (Zt (Yx ?_)))
 refine Zb (H4 _ _ ?_)
 refine Zg fun ai aa => ?_
 refine Zc (Za rfl rfl (Zf rfl) (Za rfl rfl (Zd rfl) (Ze (Zb (aa _ _ ?_)))))
 refine Yb ?_
 have s : Ol ics 3 1 R7 (.slice Asv (Yg m.toNat i).length Csv) (Yg m.toNat 30) := by
  have hx := c
  exact hx.eq (Zjl om j hi)
 exact Zi [_] ⟨rfl, trivial⟩ ⟨s, Lo.down b om, E⟩

/-- impl.after -/
theorem Zgn {w : World} (aS : Int) {LL_aA Y : Nat} {O : Value} {aA : List Bool} (h : Ls bcs 1 w LL_aA Y O aA) {LL_saN T : Nat} {B : Value} {saN : List Sv} (a : Ls Sv.cs 1 w LL_saN T B saN) {LR_aN BB_aN : Nat} {aN : List (List Int)} (g : Rd ics 1 w LR_aN BB_aN saN aN) (set : Int) (x : Int) (y : Int) (hv : Xs aS aA aN) (hm : 0 ≤ set ∧ set.toNat < 2 ^ aA.length) (hw : 0 ≤ x ∧ x ≤ 2) :
 Ctr Try.prog 59 #[(.agg #[(.int .i64 aS), O, B]), (.int .i64 set), (.int .i64 x), (.int .i64 y)] w (fun v w' => v = .int .i64 (afS aN x y 0 (Yg set.toNat 30)) ∧ Ch [] w w') := by
 obtain ⟨j, l, U⟩ := h.val
 subst U
 have aq := h.len
 have h := h.here (by decide)
 obtain ⟨b, d, J⟩ := a.val
 subst J
 have ab := a.len
 have a := a.here (by decide)
 have g := g.here (by decide)
 have ac := g.1
 have E := Ch.refl [] w
 have aF := hv.1; have bq := hv.2.2.1; have br := Zig aF
 refine Yf (N := 45) (vs0 := [(.agg #[(.int .i64 aS), (.slice j aA.length l), (.slice b saN.length d)]), (.int .i64 set), (.int .i64 x), (.int .i64 y)]) Try.func59 rfl rfl rfl ?_
 refine Zg fun K1 H1 => ?_
 refine Zc (Zx rfl rfl ?_)
 refine Xj rfl fun Z W2 aa C2 bs => ?_
 have bu := C2.size
 have E := E.trans C2
 have bv := aa.lt
 replace aa : Blk W2 Z 38 [(.int .i64 aS), (.slice j aA.length l), (.slice b saN.length d)] := aa
 refine Za rfl rfl (Zd rfl) (Ze (Zb (H1 _ _ ?_)))
 refine Zg fun K3 H3 => ?_
 refine Zc (Za rfl rfl (Zd rfl) (Ze (Zb (H3 _ _ ?_))))
 refine Zg fun K4 H4 => ?_
 refine Zg fun K5 H5 => ?_
 refine Zc (Za rfl rfl (Zf rfl) (Zx rfl rfl ?_))
 refine Step.call (Zr (xs := [.tmp 15]) fk58 rfl) (Zat _ om om) fun aG W6 K => ?_
 obtain ⟨K, au, C6⟩ := K
 have bw := C6.size
 have E := E.trans C6
 obtain ⟨t, u, rfl, av, ad⟩ := K.opn
 refine Za rfl rfl (Yz (by rw [el22]; rfl) rfl) (Za rfl rfl (Zf rfl) (Ze (Zb (H5 _ _ ?_))))
 refine Yd ?_
 have F7 := aa.ch0 C6
 refine Xd (σ := Nat × Int) (fun ⟨i, m⟩ => [(2, (.int .i64 x)), (3, (.int .i64 y)), (4, (.pointer (some ⟨Z, 0, none⟩))), (8, (.int .i64 0)), (9, (.int .i64 m)), (16, (.slice t (Yg set.toNat 30).length u)), (17, (.int .i64 (((Yg set.toNat 30).length : Nat) : Int))), (18, (.int .i64 ((i : Nat) : Int)))]) (fun ⟨i, m⟩ wx => Ch [] w wx ∧ W6.heap.size ≤ wx.heap.size ∧ (i ≤ (Yg set.toNat 30).length) ∧ (m = afS aN x y 0 ((Yg set.toNat 30).take i)) ∧ Blk wx Z 38 [(.int .i64 aS), (.slice j aA.length l), (.slice b saN.length d)] ∧ Ol ics 3 1 wx (.slice t (Yg set.toNat 30).length u) (Yg set.toNat 30)) (fun ⟨i, m⟩ => (Yg set.toNat 30).length - i) (0, 0) (sC8 rfl rfl rfl rfl rfl rfl rfl rfl (Sub.nil _)) ⟨E, (Nat.le_refl _), om, (by rfl), F7, K⟩ ?_
 rintro ⟨i, m⟩ R8 ⟨E, aH, hi, hq, C, P⟩
 have L := E
 have aw := L.size
 have ae := C.lt
 refine Zg fun K9 H9 => ?_
 refine Zc (Za rfl rfl (Xh rfl rfl) (Ze (Zb (H9 _ _ ?_))))
 refine Zg fun bz aI => ?_
 refine Zz rfl (fun q => ?_) (fun q => ?_)
 ·have af := q
  have q := Yp q
  refine Zu ?_
  refine Zb (aI _ _ ?_)
  refine Zg fun bA aJ => ?_
  refine Yd ?_
  refine Zg fun bB aK => ?_
  refine Zc (Zx rfl rfl ?_)
  refine (Yc P.ls Xr el22 sz3 rfl rfl rfl om fun aL e Q ag => ?_)
  have aM := Zhc hm.2 (Xa Q)
  have bC := Zis (c := 6 + x) (s := e) hv om
  have aO := Zcm (c := 6 + x) (s := e) hv om
  refine Za rfl rfl (Ya ag agg3 rfl rfl) (Za rfl rfl (Zd rfl) (Ze (Zb (aK _ _ ?_))))
  refine Zg fun bD aP => ?_
  refine Zc (Za rfl rfl (Zs C.at_ agg38 sz38 rfl) (Za rfl rfl (Zf rfl) (Za rfl rfl (Zf rfl) (Zx rfl rfl ?_))))
  have ax := h.ch0 L
  have ay := g.ch0 L
  have az := a.ch0 L
  refine Step.call (Zr (xs := [.tmp 22, .tmp 23, .tmp 24]) fk105 rfl) (Zek _ ax az ay _ _ hv om hw) fun aQ bF ah => ?_
  obtain ⟨rfl, V⟩ := ah
  have aR := V.size
  have E := E.trans V
  refine Zx rfl rfl ?_
  refine Step.call (Zr (xs := [.tmp 25]) fk58 rfl) (Zat _ om om) fun aT aU M => ?_
  obtain ⟨M, aB, X⟩ := M
  have aV := X.size
  have E := E.trans X
  obtain ⟨R, S, rfl, aC, ai⟩ := M.opn
  refine Za rfl rfl (Yz (by rw [el22]; rfl) rfl) (Za rfl rfl (Zf rfl) (Ze (Zb (aP _ _ ?_))))
  refine Yd ?_
  have aW := (C.ch0 V).ch0 X
  have aX := (ax.ch0 V).ch0 X
  have aY := (az.ch0 V).ch0 X
  have aZ := (ay.ch0 V).ch0 X
  have a0 := (P.ch0 V).ch0 X
  refine Xd (σ := Nat × Int) (fun ⟨k, z⟩ => [(2, (.int .i64 x)), (3, (.int .i64 y)), (4, (.pointer (some ⟨Z, 0, none⟩))), (8, (.int .i64 0)), (9, (.int .i64 z)), (11, (.int .i64 e)), (16, (.slice t (Yg set.toNat 30).length u)), (17, (.int .i64 (((Yg set.toNat 30).length : Nat) : Int))), (18, (.int .i64 ((i : Nat) : Int))), (19, (.bool (decide (((i : Nat) : Int) < (((Yg set.toNat 30).length : Nat) : Int))))), (26, (.slice R (Yg ((cloR aN (6 + x) e : Nat) : Int).toNat 30).length S)), (27, (.int .i64 (((Yg ((cloR aN (6 + x) e : Nat) : Int).toNat 30).length : Nat) : Int))), (28, (.int .i64 ((k : Nat) : Int)))]) (fun ⟨k, z⟩ wx => Ch [] w wx ∧ aU.heap.size ≤ wx.heap.size ∧ (k ≤ (Yg ((cloR aN (6 + x) e : Nat) : Int).toNat 30).length) ∧ (z = afC aN y m ((Yg ((cloR aN (6 + x) e : Nat) : Int).toNat 30).take k)) ∧ Blk wx Z 38 [(.int .i64 aS), (.slice j aA.length l), (.slice b saN.length d)] ∧ Ls bcs 1 wx LL_aA w.heap.size (.slice j aA.length l) aA ∧ Ls Sv.cs 1 wx LL_saN w.heap.size (.slice b saN.length d) saN ∧ Rd ics 1 wx LR_aN w.heap.size saN aN ∧ Ol ics 3 1 wx (.slice t (Yg set.toNat 30).length u) (Yg set.toNat 30) ∧ Ol ics 3 1 wx (.slice R (Yg ((cloR aN (6 + x) e : Nat) : Int).toNat 30).length S) (Yg ((cloR aN (6 + x) e : Nat) : Int).toNat 30)) (fun ⟨k, z⟩ => (Yg ((cloR aN (6 + x) e : Nat) : Int).toNat 30).length - k) (0, m) (sC8 rfl rfl rfl rfl rfl rfl rfl rfl (sC4 rfl rfl rfl rfl (sC1 rfl (Sub.nil _)))) ⟨E, (Nat.le_refl _), om, (by rfl), aW, aX, aY, aZ, a0, M⟩ ?_
  rintro ⟨k, z⟩ bG ⟨E, a1, bH, hz, o, D, F, G, H, I⟩
  have aj := E
  have aD := aj.size
  have ak := o.lt
  refine Zg fun bI a2 => ?_
  refine Zc (Za rfl rfl (Xh rfl rfl) (Ze (Zb (a2 _ _ ?_))))
  refine Zg fun bJ a3 => ?_
  refine Zz rfl (fun r => ?_) (fun r => ?_)
  ·have al := r
   have r := Yp r
   refine Zu ?_
   refine Zb (a3 _ _ ?_)
   refine Zg fun bK aE => ?_
   refine Yd ?_
   refine Zg fun bL a4 => ?_
   refine Zc (Zx rfl rfl ?_)
   refine (Yc I.ls Xr el22 sz3 rfl rfl rfl om fun a5 am p an => ?_)
   have a6 := Zhc (n := aA.length) (m := ((cloR aN (6 + x) e : Nat) : Int).toNat) (by simpa using aO) (Xa p)
   refine Za rfl rfl (Ya an agg3 rfl rfl) (Za rfl rfl (Zd rfl) (Ze (Zb (a4 _ _ ?_))))
   refine Zg fun bM a7 => ?_
   refine Zc (Za rfl rfl (Zs o.at_ agg38 sz38 rfl) (Za rfl rfl (Zf rfl) (Za rfl rfl (Zf rfl) (Zx rfl rfl ?_))))
   refine Step.call (Zr (xs := [.tmp 32, .tmp 33, .tmp 34]) fk106 rfl) (Zag _ D F G _ _ hv om) fun a8 bN ao => ?_
   obtain ⟨rfl, A⟩ := ao
   have a9 := A.size
   have E := E.trans A
   refine Za rfl rfl (Zd rfl) (Ze (Zb (a7 _ _ ?_)))
   refine Zg fun bO ba => ?_
   refine Zc (Za rfl rfl (Zf rfl) (Za rfl rfl (Zeb rfl rfl) (Ze (Zb (ba _ _ ?_)))))
   refine Zz rfl (fun f => ?_) (fun f => ?_)
   ·have ap := f
    have f := Yp f
    refine Zc (Za rfl rfl (Zf rfl) (Za rfl rfl (Zf rfl) (Za rfl rfl (Zgt om rfl rfl) (Za rfl rfl (r_or rfl rfl) (Za rfl rfl (Zd rfl) (Ze (Zq ?_)))))))
    refine Zb (aE _ _ (Zc (Za rfl rfl (Ye om rfl rfl) (Za rfl rfl (Zf rfl) (Ze ?_)))))
    have bb := o.ch0 A
    have bc := D.ch0 A
    have bd := F.ch0 A
    have be := G.ch0 A
    have bf := H.ch0 A
    have bg := I.ch0 A
    exact Zb (Exists.intro ((k + 1), (ior z (Qp 1 (Qk aN am y)))) ⟨⟨E, om, om, (by rw [hz]; first | exact Zkz p f | exact Zky p f), bb, bc, bd, be, bf, bg⟩, sC8 rfl rfl rfl rfl rfl rfl rfl rfl (sC4 rfl rfl rfl rfl (sC1 rfl (Sub.nil _))), (by first | omega | (dsimp only; omega))⟩)
   have ap := f
   have f := Yq f
   refine Zu ?_
   refine Zq (Zb (aE _ _ (Zc (Za rfl rfl (Ye om rfl rfl) (Za rfl rfl (Zf rfl) (Ze ?_))))))
   have bh := o.ch0 A
   have bi := D.ch0 A
   have bj := F.ch0 A
   have bk := G.ch0 A
   have bm := H.ch0 A
   have bn := I.ch0 A
   exact Zb (Exists.intro ((k + 1), z) ⟨⟨E, om, om, (by rw [hz]; first | exact Zkz p f | exact Zky p f), bh, bi, bj, bk, bm, bn⟩, sC8 rfl rfl rfl rfl rfl rfl rfl rfl (sC4 rfl rfl rfl rfl (sC1 rfl (Sub.nil _))), (by first | omega | (dsimp only; omega))⟩)
  have al := r
  have r := Yq r
  refine Xc (Zt (Zt (Yx ?_)))
  refine Zq (Zb (aJ _ _ (Zc (Za rfl rfl (Ye om rfl rfl) (Za rfl rfl (Zf rfl) (Ze ?_))))))
  exact Zb (Exists.intro ((i + 1), z) ⟨⟨E, om, om, (by rw [hz, hq]; exact Zmt Q rfl om), o, H⟩, sC8 rfl rfl rfl rfl rfl rfl rfl rfl (Sub.nil _), (by first | omega | (dsimp only; omega))⟩)
 have af := q
 have q := Yq q
 refine Xc (Zt (Zt (Yx ?_)))
 refine Zb (H4 _ _ ?_)
 refine Zg fun bP bp => ?_
 refine Zc (Za rfl rfl (Zf rfl) (Za rfl rfl (Zd rfl) (Ze (Zb (bp _ _ ?_)))))
 refine Yb ?_
 exact Zi [_] ⟨rfl, trivial⟩ ⟨congrArg (Value.int .i64) (by rw [hq, List.take_of_length_le om]), E⟩

/-- impl.reads -/
theorem Yy {w : World} (e : GEdge) (b : Bool) (hl : 0 ≤ e.label ∧ e.label ≤ 2) :
 Ctr Try.prog 104 #[(.agg #[(.int .i64 e.id), (.int .i64 e.f), (.int .i64 e.t), (.int .i64 e.label)]), (.bool b)] w (fun v w' => v = .int .i64 (Zj e b) ∧ Ch [] w w') := by
 have E := Ch.refl [] w
 refine Yf (N := 13) (vs0 := [(.agg #[(.int .i64 e.id), (.int .i64 e.f), (.int .i64 e.t), (.int .i64 e.label)]), (.bool b)]) Try.func104 rfl rfl rfl ?_
 refine Zg fun K1 H1 => ?_
 refine Zc (Zx rfl rfl ?_)
 refine Xj rfl fun d W2 a C2 h => ?_
 have i := C2.size
 have E := E.trans C2
 have j := a.lt
 replace a : Blk W2 d 129 [(.int .i64 e.id), (.int .i64 e.f), (.int .i64 e.t), (.int .i64 e.label)] := a
 refine Za rfl rfl (Zd rfl) (Ze (Zb (H1 _ _ ?_)))
 refine Zg fun K3 H3 => ?_
 refine Zg fun K4 H4 => ?_
 refine Zc (Za rfl rfl (Zf rfl) (Ze (Zb (H4 _ _ ?_))))
 refine Zz rfl (fun c => ?_) (fun c => ?_)
 ·have g := c
  refine Zg fun K6 H6 => ?_
  refine Zc (Za rfl rfl (Zh fa129_3 rfl) (Za rfl rfl (Zl a.at_ agg3 rfl rfl) (Za rfl rfl (Zjw om rfl rfl) (Za rfl rfl (Ye om rfl rfl) (Za rfl rfl (Zd rfl) (Ze (Zb (H6 _ _ ?_))))))))
  refine Yb (Zp ?_)
  exact Zi [_] ⟨rfl, trivial⟩ ⟨congrArg (Value.int .i64) (by unfold Zj; rw [c]; rfl), E⟩
 have g := c
 refine Zu ?_
 refine Zb (H3 _ _ ?_)
 refine Zg fun K7 H7 => ?_
 refine Zc (Za rfl rfl (Zh fa129_3 rfl) (Za rfl rfl (Zl a.at_ agg3 rfl rfl) (Za rfl rfl (Zjw om rfl rfl) (Za rfl rfl (Zd rfl) (Ze (Zb (H7 _ _ ?_)))))))
 refine Yb ?_
 exact Zi [_] ⟨rfl, trivial⟩ ⟨congrArg (Value.int .i64) (by unfold Zj; rw [c]; rfl), E⟩

end Go.Proofs.Ytkmhgeppenifoaa
