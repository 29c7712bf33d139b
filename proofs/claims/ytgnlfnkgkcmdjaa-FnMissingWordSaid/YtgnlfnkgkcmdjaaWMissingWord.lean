/- Walks of functions that FnMissingWord reaches: what each returns, and that it leaves the memory that was there alone. -/
import Derived.Test.YtgnlfnkgkcmdjaaLibA
import Derived.Test.YtgnlfnkgkcmdjaaLibB
import Derived.Test.YtgnlfnkgkcmdjaaProg
namespace Go.Proofs.Ytgnlfnkgkcmdjaa
open Go.KLib Go.Shelf
set_option maxHeartbeats 1000000
set_option maxRecDepth 20000
set_option linter.unusedVariables false
set_option linter.unusedSimpArgs false
namespace TMissingWord
theorem agg106 : Ys Try.prog 106 = some true := by kernel_rfl
theorem agg124 : Ys Try.prog 124 = some true := by kernel_rfl
theorem agg24 : Ys Try.prog 24 = some false := by kernel_rfl
theorem agg25 : Ys Try.prog 25 = some false := by kernel_rfl
theorem agg27 : Ys Try.prog 27 = some true := by kernel_rfl
theorem agg3 : Ys Try.prog 3 = some false := by kernel_rfl
theorem agg30 : Ys Try.prog 30 = some false := by kernel_rfl
theorem agg4 : Ys Try.prog 4 = some false := by kernel_rfl
theorem agg69 : Ys Try.prog 69 = some true := by kernel_rfl
theorem by106 : Qw Try.prog 106 = some 40 := by kernel_rfl
theorem by124 : Qw Try.prog 124 = some 32 := by kernel_rfl
theorem by3 : Qw Try.prog 3 = some 8 := by kernel_rfl
theorem by4 : Qw Try.prog 4 = some 1 := by kernel_rfl
theorem el107 : elB Try.prog 107 = some 106 := by kernel_rfl
theorem el111 : elB Try.prog 111 = some 110 := by kernel_rfl
theorem el125 : elB Try.prog 125 = some 124 := by kernel_rfl
theorem el22 : elB Try.prog 22 = some 5 := by kernel_rfl
theorem el24 : elB Try.prog 24 = some 4 := by kernel_rfl
theorem el25 : elB Try.prog 25 = some 30 := by kernel_rfl
theorem el30 : elB Try.prog 30 = some 3 := by kernel_rfl
theorem fa106_0 : faB Try.prog 106 0 = some 0 := by kernel_rfl
theorem fa106_1 : faB Try.prog 106 1 = some 2 := by kernel_rfl
theorem fa110_0 : faB Try.prog 110 0 = some 0 := by kernel_rfl
theorem fa110_1 : faB Try.prog 110 1 = some 1 := by kernel_rfl
theorem fa110_2 : faB Try.prog 110 2 = some 2 := by kernel_rfl
theorem fa110_3 : faB Try.prog 110 3 = some 3 := by kernel_rfl
theorem fa110_4 : faB Try.prog 110 4 = some 4 := by kernel_rfl
theorem fa124_0 : faB Try.prog 124 0 = some 0 := by kernel_rfl
theorem fa124_1 : faB Try.prog 124 1 = some 1 := by kernel_rfl
theorem fa27_0 : faB Try.prog 27 0 = some 0 := by kernel_rfl
theorem fa27_1 : faB Try.prog 27 1 = some 1 := by kernel_rfl
theorem fa27_2 : faB Try.prog 27 2 = some 2 := by kernel_rfl
theorem fa69_0 : faB Try.prog 69 0 = some 0 := by kernel_rfl
theorem fa69_1 : faB Try.prog 69 1 = some 1 := by kernel_rfl
theorem fk13 : fnB Try.prog 13 = true := by kernel_rfl
theorem fk16 : fnB Try.prog 16 = true := by kernel_rfl
theorem fk18 : fnB Try.prog 18 = true := by kernel_rfl
theorem fk43 : fnB Try.prog 43 = true := by kernel_rfl
theorem fk44 : fnB Try.prog 44 = true := by kernel_rfl
theorem fk45 : fnB Try.prog 45 = true := by kernel_rfl
theorem fk46 : fnB Try.prog 46 = true := by kernel_rfl
theorem fk48 : fnB Try.prog 48 = true := by kernel_rfl
theorem fk49 : fnB Try.prog 49 = true := by kernel_rfl
theorem fk53 : fnB Try.prog 53 = true := by kernel_rfl
theorem fk54 : fnB Try.prog 54 = true := by kernel_rfl
theorem fk56 : fnB Try.prog 56 = true := by kernel_rfl
theorem fk57 : fnB Try.prog 57 = true := by kernel_rfl
theorem fk58 : fnB Try.prog 58 = true := by kernel_rfl
theorem fk60 : fnB Try.prog 60 = true := by kernel_rfl
theorem fk61 : fnB Try.prog 61 = true := by kernel_rfl
theorem fk75 : fnB Try.prog 75 = true := by kernel_rfl
theorem fk83 : fnB Try.prog 83 = true := by kernel_rfl
theorem fk87 : fnB Try.prog 87 = true := by kernel_rfl
theorem fk88 : fnB Try.prog 88 = true := by kernel_rfl
theorem fk98 : fnB Try.prog 98 = true := by kernel_rfl
theorem fk99 : fnB Try.prog 99 = true := by kernel_rfl
theorem ist69 : Zct Try.prog 69 2 = true := by kernel_rfl
theorem mixed : Try.prog.follows .mixedOrders = true := by kernel_rfl
theorem pl106 : Qp Try.prog 106 = some [(0, 2), (2, 1)] := by kernel_rfl
theorem pl124 : Qp Try.prog 124 = some [(0, 1), (1, 1)] := by kernel_rfl
theorem pl69 : Qp Try.prog 69 = some [(0, 1), (1, 1)] := by kernel_rfl
theorem sz106 : Yg Try.prog 106 = some 3 := by kernel_rfl
theorem sz110 : Yg Try.prog 110 = some 5 := by kernel_rfl
theorem sz124 : Yg Try.prog 124 = some 2 := by kernel_rfl
theorem sz27 : Yg Try.prog 27 = some 3 := by kernel_rfl
theorem sz3 : Yg Try.prog 3 = some 1 := by kernel_rfl
theorem sz30 : Yg Try.prog 30 = some 1 := by kernel_rfl
theorem sz4 : Yg Try.prog 4 = some 1 := by kernel_rfl
theorem sz69 : Yg Try.prog 69 = some 2 := by kernel_rfl
theorem un104 : Try.prog.underlying 104 = some (.map 69 4) := by kernel_rfl
theorem un122 : Try.prog.underlying 122 = some (.map 3 4) := by kernel_rfl
theorem un3 : Try.prog.underlying 3 = some (.int .i64) := by kernel_rfl
theorem un4 : Try.prog.underlying 4 = some (.bool) := by kernel_rfl
theorem zr106 : Xg Try.prog 106 = some (.agg #[.int .i64 0, .int .i64 0, .slice none 0 0]) := by kernel_rfl
theorem zr124 : Xg Try.prog 124 = some (.agg #[.int .i64 0, .slice none 0 0]) := by kernel_rfl
theorem zr3 : Xg Try.prog 3 = some (.int .i64 0) := by kernel_rfl
theorem zr4 : Xg Try.prog 4 = some (.bool false) := by kernel_rfl
theorem zr69 : Xg Try.prog 69 = some (.agg #[.int .i64 0, .int .i64 0]) := by kernel_rfl
end TMissingWord
open TMissingWord

/-- impl.Automaton).accepts -/
theorem Zab {w : World} (aS : Int) {LL_aA q : Nat} {i : Value} {aA : List Bool} (b : Ls bcs 1 w LL_aA q i aA) {LL_saN n : Nat} {e : Value} {saN : List Sv} (a : Ls Sv.cs 1 w LL_saN n e saN) {LR_aN BB_aN : Nat} {aN : List (List Int)} (c : Rd ics 1 w LR_aN BB_aN saN aN) (s : Int) (hs : s ≤ (aA.length : Int) - 1) :
 Ctr Try.prog 48 #[(.agg #[(.int .i64 aS), i, e]), (.int .i64 s)] w (fun v w' => v = .bool (Qy aA s) ∧ Ch [] w w') := by
 obtain ⟨k, l, o⟩ := b.val
 subst o
 have y := b.len
 have b := b.here (by decide)
 obtain ⟨f, g, h⟩ := a.val
 subst h
 have t := a.len
 have a := a.here (by decide)
 have c := c.here (by decide)
 have u := c.1
 have E := Ch.refl [] w
 refine Yh (N := 14) (vs0 := [(.agg #[(.int .i64 aS), (.slice k aA.length l), (.slice f saN.length g)]), (.int .i64 s)]) Try.func48 rfl rfl rfl ?_
 refine Zg fun K1 H1 => ?_
 refine Zc (Zk rfl rfl ?_)
 refine Xw rfl fun z W2 r C2 D => ?_
 have F := C2.size
 have E := E.trans C2
 have G := r.lt
 replace r : Blk W2 z 27 [(.int .i64 aS), (.slice k aA.length l), (.slice f saN.length g)] := r
 refine Za rfl rfl (Ze rfl) (Zf (Zb (H1 _ _ ?_)))
 refine Zg fun K3 H3 => ?_
 refine Zc (Za rfl rfl (Zd rfl) (Za rfl rfl (Zjj rfl rfl) (Za rfl rfl (Zd rfl) ?_)))
 refine Ym (d := 7) rfl (fun p => ?_) (fun p => ?_)
 ·have A := p
  have p := Yo p
  refine Za rfl rfl (Zh fa27_1 rfl) (Za rfl rfl (Zp r.at_ agg24 rfl rfl) (Za rfl rfl (Zd rfl) (Zk rfl rfl ?_)))
  have F5 := b.ch0 C2
  refine (Yy (j := s.toNat) F5 Qa el24 sz4 rfl rfl om om fun B C m x => ?_)
  refine Za rfl rfl (Yk x agg4 rfl rfl) (Za rfl rfl (Zw rfl rfl) (Za rfl rfl (Ze rfl) (Zf (Zb (H3 _ _ ?_)))))
  refine Zs ?_
  exact Zi [_] ⟨rfl, trivial⟩ ⟨congrArg Value.bool (by first | exact Zjc om m | exact Zhm om), E⟩
 have A := p
 have p := Yp p
 refine Zj rfl rfl (Zj rfl rfl (Zj rfl rfl (Zj rfl rfl (Zj rfl rfl (Za rfl rfl (Zv rfl rfl) (Za rfl rfl (Ze rfl) (Zf ?_)))))))
 refine Zb (H3 _ _ ?_)
 refine Zs ?_
 exact Zi [_] ⟨rfl, trivial⟩ ⟨congrArg Value.bool (by first | exact Zjc om m | exact Zhm om), E⟩

/-- impl.within -/
theorem Zbv {w : World} (n : Int) (a : Int) (b : Int) :
 Ctr Try.prog 44 #[(.int .i64 n), (.int .i64 a), (.int .i64 b)] w (fun v w' => v = .bool (decide (a ≤ n ∧ n ≤ b)) ∧ Ch [] w w') := by
 have E := Ch.refl [] w
 refine Yh (N := 15) (vs0 := [(.int .i64 n), (.int .i64 a), (.int .i64 b)]) Try.func44 rfl rfl rfl ?_
 refine Zg fun K1 H1 => ?_
 refine Zc (Za rfl rfl (Ze rfl) (Zf (Zb (H1 _ _ ?_))))
 refine Zg fun K2 H2 => ?_
 refine Zc (Za rfl rfl (Zd rfl) (Za rfl rfl (Zd rfl) (Za rfl rfl (Zjj rfl rfl) (Za rfl rfl (Zd rfl) ?_))))
 refine Ym (d := 10) rfl (fun c => ?_) (fun c => ?_)
 ·have e := c
  have c := Yo c
  refine Za rfl rfl (Zd rfl) (Za rfl rfl (Zd rfl) (Za rfl rfl (Zfo rfl rfl) (Za rfl rfl (Zw rfl rfl) (Za rfl rfl (Ze rfl) (Zf (Zb (H2 _ _ ?_)))))))
  refine Zs ?_
  exact Zi [_] ⟨rfl, trivial⟩ ⟨congrArg Value.bool (by first | rfl | (rw [Bool.eq_iff_iff]; simp <;> omega) | (rw [Bool.eq_iff_iff]; simp_all; done) | simp_all), E⟩
 have e := c
 have c := Yp c
 refine Zj rfl rfl (Zj rfl rfl (Zj rfl rfl (Za rfl rfl (Zv rfl rfl) (Za rfl rfl (Ze rfl) (Zf (Zb (H2 _ _ ?_)))))))
 refine Zs ?_
 exact Zi [_] ⟨rfl, trivial⟩ ⟨congrArg Value.bool (by first | rfl | (rw [Bool.eq_iff_iff]; simp <;> omega) | (rw [Bool.eq_iff_iff]; simp_all; done) | simp_all), E⟩

/-- impl.isLetter -/
theorem Zil {w : World} (n : Int) :
 Ctr Try.prog 83 #[(.int .i64 n)] w (fun v w' => v = .bool (decide (0 ≤ n ∧ n ≤ 8)) ∧ Ch [] w w') := by
 have E := Ch.refl [] w
 refine Yh (N := 5) (vs0 := [(.int .i64 n)]) Try.func83 rfl rfl rfl ?_
 refine Zg fun K1 H1 => ?_
 refine Zc (Za rfl rfl (Ze rfl) (Zf (Zb (H1 _ _ ?_))))
 refine Zg fun K2 H2 => ?_
 refine Zc (Za rfl rfl (Zd rfl) (Zk rfl rfl ?_))
 refine Step.call (Zl (xs := [.tmp 3, .const (Go.Value.int Go.IntKind.i64 0), .const (Go.Value.int Go.IntKind.i64 8)]) fk44 rfl) (Zbv _ _ _ ) fun b W3 a => ?_
 obtain ⟨rfl, C3⟩ := a
 have c := C3.size
 have E := E.trans C3
 refine Za rfl rfl (Ze rfl) (Zf (Zb (H2 _ _ ?_)))
 refine Zs ?_
 exact Zi [_] ⟨rfl, trivial⟩ ⟨congrArg Value.bool rfl, E⟩

/-- impl.Automaton).move -/
theorem Zak {w : World} (aS : Int) {LL_aA z : Nat} {p : Value} {aA : List Bool} (g : Ls bcs 1 w LL_aA z p aA) {LL_saN t : Nat} {h : Value} {saN : List Sv} (b : Ls Sv.cs 1 w LL_saN t h saN) {LR_aN BB_aN : Nat} {aN : List (List Int)} (c : Rd ics 1 w LR_aN BB_aN saN aN) (s : Int) (x : Int) (hv : Yz aS aA aN) (hs : -1 ≤ s ∧ s ≤ (aA.length : Int) - 1) :
 Ctr Try.prog 58 #[(.agg #[(.int .i64 aS), p, h]), (.int .i64 s), (.int .i64 x)] w (fun v w' => v = .int .i64 (Yd aN s x) ∧ Ch [] w w') := by
 obtain ⟨q, r, u⟩ := g.val
 subst u
 have L := g.len
 have g := g.here (by decide)
 obtain ⟨i, k, o⟩ := b.val
 subst o
 have F := b.len
 have b := b.here (by decide)
 have c := c.here (by decide)
 have G := c.1
 have E := Ch.refl [] w
 have ab := hv.2.2.1
 refine Yh (N := 22) (vs0 := [(.agg #[(.int .i64 aS), (.slice q aA.length r), (.slice i saN.length k)]), (.int .i64 s), (.int .i64 x)]) Try.func58 rfl rfl rfl ?_
 refine Zg fun K1 H1 => ?_
 refine Zc (Zk rfl rfl ?_)
 refine Xw rfl fun M W2 D C2 ac => ?_
 have ad := C2.size
 have E := E.trans C2
 have ae := D.lt
 replace D : Blk W2 M 27 [(.int .i64 aS), (.slice q aA.length r), (.slice i saN.length k)] := D
 refine Za rfl rfl (Ze rfl) (Zf (Zb (H1 _ _ ?_)))
 refine Zg fun K3 H3 => ?_
 refine Zg fun K4 H4 => ?_
 refine Zc (Za rfl rfl (Zd rfl) (Za rfl rfl (Xv rfl rfl) (Za rfl rfl (Zd rfl) ?_)))
 refine Ym (d := 9) rfl (fun n => ?_) (fun n => ?_)
 ·have O := n
  have n := Yo n
  refine Zj rfl rfl (Zj rfl rfl (Zj rfl rfl (Za rfl rfl (Zw rfl rfl) (Zf (Zb (H4 _ _ ?_))))))
  refine Xl rfl ?_
  refine Zg fun K6 H6 => ?_
  refine Zc (Za rfl rfl (Ze rfl) (Zf (Zb (H6 _ _ ?_))))
  refine Zs (Zm ?_)
  exact Zi [_] ⟨rfl, trivial⟩ ⟨congrArg (Value.int .i64) (by first | exact Zja om a e l | exact Zcp (.inl n) | exact Zcp (.inr a) | exact Zcp (.inl om)), E⟩
 have O := n
 have n := Yp n
 refine Za rfl rfl (Zd rfl) (Zk rfl rfl ?_)
 refine Step.call (Zl (xs := [.tmp 10]) fk83 rfl) (Zil _ ) fun P W7 H => ?_
 obtain ⟨rfl, C7⟩ := H
 have af := C7.size
 have E := E.trans C7
 refine Za rfl rfl (Xi rfl) (Za rfl rfl (Zv rfl rfl) (Zf (Zb (H4 _ _ ?_))))
 refine Zx rfl (fun a => ?_) (fun a => ?_)
 ·have Q := a
  have a := Yp (Qf a)
  refine Zg fun K9 H9 => ?_
  refine Zc (Za rfl rfl (Ze rfl) (Zf (Zb (H9 _ _ ?_))))
  refine Zs (Zm ?_)
  exact Zi [_] ⟨rfl, trivial⟩ ⟨congrArg (Value.int .i64) (by first | exact Zja om a e l | exact Zcp (.inl n) | exact Zcp (.inr a) | exact Zcp (.inl om)), E⟩
 have Q := a
 have a := Yo (Qg a)
 refine Zu ?_
 refine Zb (H3 _ _ ?_)
 refine Zg fun ag R => ?_
 refine Zc (Za rfl rfl (Zh fa27_2 rfl) ?_)
 have S := D.ch0 C7
 refine Za rfl rfl (Zp S.at_ agg25 rfl rfl) (Za rfl rfl (Zd rfl) (Zk rfl rfl ?_))
 have T := (b.ch0 C2).ch0 C7
 refine (Yy (j := s.toNat) T Sv.len el25 sz30 rfl rfl om om fun I J A y => ?_)
 have U := (c.ch0 C2).ch0 C7
 obtain ⟨m, e, f⟩ := U.get A
 obtain ⟨B, V, C⟩ := J
 obtain rfl := f.eqn
 have X := f.len
 replace f : Ls ics 1 W7 LR_aN w.heap.size (.slice B m.length C) m := f
 replace y : At W7 LL_saN w.heap.size I ([(.slice B m.length C)]) := y
 have Y := (Xy hv.2 e).1
 refine Za rfl rfl (Yk y agg30 rfl rfl) (Za rfl rfl (Zd rfl) (Zk rfl rfl ?_))
 refine (Yy (j := x.toNat) f Yl el30 sz3 rfl rfl om om fun Z aa l K => ?_)
 refine Za rfl rfl (Yk K agg3 rfl rfl) (Za rfl rfl (Ze rfl) (Zf (Zb (R _ _ ?_))))
 refine Zs ?_
 exact Zi [_] ⟨rfl, trivial⟩ ⟨congrArg (Value.int .i64) (by first | exact Zja om a e l | exact Zcp (.inl n) | exact Zcp (.inr a) | exact Zcp (.inl om)), E⟩

/-- impl.IsValidAutomaton -/
theorem Xx {w : World} (aS : Int) {LL_aA O : Nat} {C : Value} {aA : List Bool} (y : Ls bcs 1 w LL_aA O C aA) {LL_saN H : Nat} {z : Value} {saN : List Sv} (j : Ls Sv.cs 1 w LL_saN H z saN) {LR_aN BB_aN : Nat} {aN : List (List Int)} (o : Rd ics 1 w LR_aN BB_aN saN aN) :
 Ctr Try.prog 43 #[(.agg #[(.int .i64 aS), C, z])] w (fun v w' => v = .bool (tt (Yz aS aA aN)) ∧ Ch [] w w') := by
 obtain ⟨D, F, I⟩ := y.val
 subst I
 have ao := y.len
 have y := y.here (by decide)
 obtain ⟨l, m, A⟩ := j.val
 subst A
 have V := j.len
 have j := j.here (by decide)
 have o := o.here (by decide)
 have X := o.1
 have E := Ch.refl [] w
 refine Yh (N := 52) (vs0 := [(.agg #[(.int .i64 aS), (.slice D aA.length F), (.slice l saN.length m)])]) Try.func43 rfl rfl rfl ?_
 refine Zg fun K1 H1 => ?_
 refine Zc (Zk rfl rfl ?_)
 refine Xw rfl fun aB W2 P C2 a9 => ?_
 have ba := C2.size
 have E := E.trans C2
 have bb := P.lt
 replace P : Blk W2 aB 27 [(.int .i64 aS), (.slice D aA.length F), (.slice l saN.length m)] := P
 refine Za rfl rfl (Ze rfl) (Zf (Zb (H1 _ _ ?_)))
 refine Zg fun K3 H3 => ?_
 refine Zc (Za rfl rfl (Zh fa27_1 rfl) (Za rfl rfl (Zp P.at_ agg24 rfl rfl) (Za rfl rfl (Xm (by rw [el24]; rfl) rfl) (Za rfl rfl (Ze rfl) (Zf (Zb (H3 _ _ ?_)))))))
 refine Zg fun K4 H4 => ?_
 refine Zg fun K5 H5 => ?_
 refine Zc (Za rfl rfl (Zd rfl) (Zk rfl rfl ?_))
 refine Step.call (Zl (xs := [.tmp 11, .const (Go.Value.int Go.IntKind.i64 1), .const (Go.Value.int Go.IntKind.i64 12)]) fk44 rfl) (Zbv _ _ _ ) fun aC W6 Y => ?_
 obtain ⟨rfl, C6⟩ := Y
 have bc := C6.size
 have E := E.trans C6
 refine Za rfl rfl (Xi rfl) (Za rfl rfl (Zd rfl) ?_)
 refine Ym (d := 14) rfl (fun g => ?_) (fun g => ?_)
 ·have aD := g
  have g := Yp (Qf g)
  refine Zj rfl rfl (Zj rfl rfl (Zj rfl rfl (Zj rfl rfl (Zj rfl rfl (Zj rfl rfl (Za rfl rfl (Zw rfl rfl) (Za rfl rfl (Zd rfl) ?_)))))))
  refine Zj rfl rfl (Zj rfl rfl (Zj rfl rfl (Zj rfl rfl (Zj rfl rfl (Za rfl rfl (Zw rfl rfl) (Zf (Zb (H5 _ _ ?_))))))))
  refine Xl rfl ?_
  refine Zg fun K8 H8 => ?_
  refine Zc (Za rfl rfl (Ze rfl) (Zf (Zb (H8 _ _ ?_))))
  refine Zs (Zm ?_)
  exact Zi [_] ⟨rfl, trivial⟩ ⟨congrArg Value.bool (by first | exact Zq ⟨by omega, c, by omega, Zbc J om⟩ | exact Zo (fun e => g (by have p := e.1; have Q := e.2.1; omega)) | exact Zo (fun e => c e.2.1) | exact Zo (fun e => h (by have p := e.2.2.1; omega)) | exact Zo (fun e => f (Zaq e.2 a n)) | exact Zo (fun e => i (by have p := (Xy e.2 a).1; omega))), E⟩
 have aD := g
 have g := Yo (Qg g)
 refine Za rfl rfl (Zh fa27_0 rfl) ?_
 have F9 := P.ch0 C6
 refine Za rfl rfl (Zp F9.at_ agg3 rfl rfl) (Za rfl rfl (Zd rfl) (Za rfl rfl (Zbr om rfl rfl) (Zk rfl rfl ?_)))
 refine Step.call (Zl (xs := [.tmp 16, .const (Go.Value.int Go.IntKind.i64 0), .tmp 18]) fk44 rfl) (Zbv _ _ _ ) fun aE aF Z => ?_
 obtain ⟨rfl, aa⟩ := Z
 have aG := aa.size
 have E := E.trans aa
 refine Za rfl rfl (Xi rfl) (Za rfl rfl (Zv rfl rfl) (Za rfl rfl (Zd rfl) ?_))
 refine Ym (d := 22) rfl (fun c => ?_) (fun c => ?_)
 ·have ab := c
  have c := Yp (Qf c)
  refine Zj rfl rfl (Zj rfl rfl (Zj rfl rfl (Zj rfl rfl (Zj rfl rfl (Za rfl rfl (Zw rfl rfl) (Zf (Zb (H5 _ _ ?_))))))))
  refine Xl rfl ?_
  refine Zg fun be aH => ?_
  refine Zc (Za rfl rfl (Ze rfl) (Zf (Zb (aH _ _ ?_))))
  refine Zs (Zm ?_)
  exact Zi [_] ⟨rfl, trivial⟩ ⟨congrArg Value.bool (by first | exact Zq ⟨by omega, c, by omega, Zbc J om⟩ | exact Zo (fun e => g (by have p := e.1; have Q := e.2.1; omega)) | exact Zo (fun e => c e.2.1) | exact Zo (fun e => h (by have p := e.2.2.1; omega)) | exact Zo (fun e => f (Zaq e.2 a n)) | exact Zo (fun e => i (by have p := (Xy e.2 a).1; omega))), E⟩
 have ab := c
 have c := Yo (Qg c)
 refine Za rfl rfl (Zh fa27_2 rfl) ?_
 have ap := F9.ch0 aa
 refine Za rfl rfl (Zp ap.at_ agg25 rfl rfl) (Za rfl rfl (Xm (by rw [el25]; rfl) rfl) (Za rfl rfl (Zd rfl) (Za rfl rfl (Zbb rfl rfl) (Za rfl rfl (Zv rfl rfl) (Zf (Zb (H5 _ _ ?_)))))))
 refine Zx rfl (fun h => ?_) (fun h => ?_)
 ·have ac := h
  have h := Yp (Qf h)
  refine Zg fun bf aI => ?_
  refine Zc (Za rfl rfl (Ze rfl) (Zf (Zb (aI _ _ ?_))))
  refine Zs (Zm ?_)
  exact Zi [_] ⟨rfl, trivial⟩ ⟨congrArg Value.bool (by first | exact Zq ⟨by omega, c, by omega, Zbc J om⟩ | exact Zo (fun e => g (by have p := e.1; have Q := e.2.1; omega)) | exact Zo (fun e => c e.2.1) | exact Zo (fun e => h (by have p := e.2.2.1; omega)) | exact Zo (fun e => f (Zaq e.2 a n)) | exact Zo (fun e => i (by have p := (Xy e.2 a).1; omega))), E⟩
 have ac := h
 have h := Yo (Qg h)
 refine Zu ?_
 refine Zb (H4 _ _ ?_)
 refine Zg fun bg ad => ?_
 refine Zg fun bh aJ => ?_
 refine Zc (Za rfl rfl (Zh fa27_2 rfl) (Za rfl rfl (Zp ap.at_ agg25 rfl rfl) (Za rfl rfl (Xm (by rw [el25]; rfl) rfl) (Za rfl rfl (Zd rfl) (Zf (Zb (aJ _ _ ?_)))))))
 refine Yf ?_
 refine Xo (σ := Nat) (fun (s : Nat) => [(3, (.int .i64 ((aA.length : Nat) : Int))), (30, (.slice l saN.length m)), (31, (.int .i64 ((saN.length : Nat) : Int))), (32, (.int .i64 ((s : Nat) : Int)))]) (fun (s : Nat) wx => Ch [] w wx ∧ aF.heap.size ≤ wx.heap.size ∧ (s ≤ aN.length) ∧ (Zku aA.length aN s)) (fun (s : Nat) => aN.length - s) 0 (sC4 rfl rfl rfl rfl (Sub.nil _)) ⟨E, (Nat.le_refl _), om, (Zlc _ _)⟩ ?_
 rintro s ae ⟨E, aK, hs, J⟩
 have K := E
 have aq := K.size
 refine Zg fun bi aL => ?_
 refine Zc (Za rfl rfl (Xv rfl rfl) (Zf (Zb (aL _ _ ?_))))
 refine Zg fun bj aM => ?_
 refine Zx rfl (fun r => ?_) (fun r => ?_)
 ·have af := r
  have r := Yo r
  refine Zu ?_
  refine Zb (aM _ _ ?_)
  refine Zg fun bk ag => ?_
  refine Yf ?_
  refine Zg fun bm aO => ?_
  refine Zc (Zk rfl rfl ?_)
  have au := j.ch0 K
  refine (Yy au Sv.len el25 sz30 rfl rfl rfl om fun L ah R B => ?_)
  have av := o.ch0 K
  obtain ⟨b, a, q⟩ := av.get R
  obtain ⟨t, aP, u⟩ := ah
  obtain rfl := q.eqn
  have aQ := q.len
  replace q : Ls ics 1 ae LR_aN w.heap.size (.slice t b.length u) b := q
  replace B : At ae LL_saN w.heap.size L ([(.slice t b.length u)]) := B
  refine Za rfl rfl (Yk B agg30 rfl rfl) (Za rfl rfl (Ze rfl) (Zf (Zb (aO _ _ ?_))))
  refine Zg fun bn aw => ?_
  refine Zg fun bp aR => ?_
  refine Zc (Za rfl rfl (Zd rfl) (Za rfl rfl (Xm (by rw [el30]; rfl) rfl) (Za rfl rfl (Zd rfl) (Zf (Zb (aR _ _ ?_))))))
  refine Yf ?_
  refine Xo (σ := Nat) (fun (k : Nat) => [(3, (.int .i64 ((aA.length : Nat) : Int))), (5, (.slice t b.length u)), (30, (.slice l saN.length m)), (31, (.int .i64 ((saN.length : Nat) : Int))), (32, (.int .i64 ((s : Nat) : Int))), (33, (.bool (decide (((s : Nat) : Int) < ((saN.length : Nat) : Int))))), (34, (.pointer (some L))), (35, (.slice t b.length u)), (36, (.slice t b.length u)), (37, (.int .i64 ((b.length : Nat) : Int))), (38, (.int .i64 ((k : Nat) : Int)))]) (fun (k : Nat) wx => Ch [] w wx ∧ ae.heap.size ≤ wx.heap.size ∧ (k ≤ b.length) ∧ (RowP aA.length b k) ∧ Ls Sv.cs 1 wx LL_saN w.heap.size (.slice l saN.length m) saN ∧ Rd ics 1 wx LR_aN w.heap.size saN aN ∧ At wx LL_saN w.heap.size L ([(.slice t b.length u)]) ∧ Ls ics 1 wx LR_aN w.heap.size (.slice t b.length u) b) (fun (k : Nat) => b.length - k) 0 (sC8 rfl rfl rfl rfl rfl rfl rfl rfl (sC2 rfl rfl (sC1 rfl (Sub.nil _)))) ⟨E, (Nat.le_refl _), om, (Zlh _ _), au, av, B, q⟩ ?_
  rintro k bq ⟨E, aT, br, hp, S, T, U, G⟩
  have ai := E
  have ax := ai.size
  refine Zg fun bs aU => ?_
  refine Zc (Za rfl rfl (Xv rfl rfl) (Zf (Zb (aU _ _ ?_))))
  refine Zg fun bu ay => ?_
  refine Zx rfl (fun x => ?_) (fun x => ?_)
  ·have aj := x
   have x := Yo x
   refine Zu ?_
   refine Zb (ay _ _ ?_)
   refine Zg fun bv az => ?_
   refine Yf ?_
   refine Zg fun bw aV => ?_
   refine Zc (Zk rfl rfl ?_)
   refine (Yy G Yl el30 sz3 rfl rfl rfl om fun aW aX n ak => ?_)
   refine Za rfl rfl (Yk ak agg3 rfl rfl) (Za rfl rfl (Ze rfl) (Zf (Zb (aV _ _ ?_))))
   refine Zg fun bz aY => ?_
   refine Zc (Za rfl rfl (Zd rfl) (Za rfl rfl (Zd rfl) (Za rfl rfl (Zbr om rfl rfl) (Zk rfl rfl ?_))))
   refine Step.call (Zl (xs := [.tmp 42, .const (Go.Value.int Go.IntKind.i64 (-1)), .tmp 44]) fk44 rfl) (Zbv _ _ _ ) fun aZ bA al => ?_
   obtain ⟨rfl, M⟩ := al
   have a0 := M.size
   have E := E.trans M
   refine Za rfl rfl (Xi rfl) (Zf (Zb (aY _ _ ?_)))
   refine Zx rfl (fun f => ?_) (fun f => ?_)
   ·have am := f
    have f := Yp (Qf f)
    refine Zg fun bB a1 => ?_
    refine Zc (Za rfl rfl (Ze rfl) (Zf (Zb (a1 _ _ ?_))))
    refine Zs (Yi (Zm (Zm (Yi (Zm (Yi (Zm (Zm (Yi (Zm ?_))))))))))
    clear ad ag aw az
    exact Zi [_] ⟨rfl, trivial⟩ ⟨congrArg Value.bool (by first | exact Zq ⟨by omega, c, by omega, Zbc J om⟩ | exact Zo (fun e => g (by have p := e.1; have Q := e.2.1; omega)) | exact Zo (fun e => c e.2.1) | exact Zo (fun e => h (by have p := e.2.2.1; omega)) | exact Zo (fun e => f (Zaq e.2 a n)) | exact Zo (fun e => i (by have p := (Xy e.2 a).1; omega))), E⟩
   have am := f
   have f := Yo (Qg f)
   refine Zu ?_
   refine Yc (Zb (az _ _ (Zc (Za rfl rfl (Yq om rfl rfl) (Za rfl rfl (Zd rfl) (Zf ?_))))))
   have a2 := S.ch0 M
   have a3 := T.ch0 M
   have a4 := U.ch0 M
   have a5 := G.ch0 M
   exact Zb (Exists.intro (k + 1) ⟨⟨E, om, om, (Zll hp n f), a2, a3, a4, a5⟩, sC8 rfl rfl rfl rfl rfl rfl rfl rfl (sC2 rfl rfl (sC1 rfl (Sub.nil _))), (by first | omega | (dsimp only; omega))⟩)
  have aj := x
  have x := Yp x
  refine Xk (Ya (Ya (Xd ?_)))
  refine Zb (aw _ _ ?_)
  refine Zg fun bC a6 => ?_
  refine Zc (Za rfl rfl (Zd rfl) (Za rfl rfl (Xm (by rw [el30]; rfl) rfl) (Za rfl rfl (Zbb rfl rfl) (Zf (Zb (a6 _ _ ?_))))))
  refine Zx rfl (fun i => ?_) (fun i => ?_)
  ·have an := i
   have i := Yp (Qf i)
   refine Zg fun bD a7 => ?_
   refine Zc (Za rfl rfl (Ze rfl) (Zf (Zb (a7 _ _ ?_))))
   refine Zs (Yi (Zm (Zm (Yi (Zm ?_)))))
   clear ad ag ay
   exact Zi [_] ⟨rfl, trivial⟩ ⟨congrArg Value.bool (by first | exact Zq ⟨by omega, c, by omega, Zbc J om⟩ | exact Zo (fun e => g (by have p := e.1; have Q := e.2.1; omega)) | exact Zo (fun e => c e.2.1) | exact Zo (fun e => h (by have p := e.2.2.1; omega)) | exact Zo (fun e => f (Zaq e.2 a n)) | exact Zo (fun e => i (by have p := (Xy e.2 a).1; omega))), E⟩
  have an := i
  have i := Yo (Qg i)
  refine Zu ?_
  refine Yc (Zb (ag _ _ (Zc (Za rfl rfl (Yq om rfl rfl) (Za rfl rfl (Zd rfl) (Zf ?_))))))
  exact Zb (Exists.intro (s + 1) ⟨⟨E, om, om, (Zlj J a ⟨by omega, Znj hp om⟩)⟩, sC4 rfl rfl rfl rfl (Sub.nil _), (by first | omega | (dsimp only; omega))⟩)
 have af := r
 have r := Yp r
 refine Xk (Ya (Ya (Xd ?_)))
 refine Zb (ad _ _ ?_)
 refine Zg fun bF a8 => ?_
 refine Zc (Za rfl rfl (Ze rfl) (Zf (Zb (a8 _ _ ?_))))
 refine Zs ?_
 exact Zi [_] ⟨rfl, trivial⟩ ⟨congrArg Value.bool (by first | exact Zq ⟨by omega, c, by omega, Zbc J om⟩ | exact Zo (fun e => g (by have p := e.1; have Q := e.2.1; omega)) | exact Zo (fun e => c e.2.1) | exact Zo (fun e => h (by have p := e.2.2.1; omega)) | exact Zo (fun e => f (Zaq e.2 a n)) | exact Zo (fun e => i (by have p := (Xy e.2 a).1; omega))), E⟩

/-- impl.RunWord -/
theorem Zit {w : World} (aS : Int) {LL_aA C : Nat} {p : Value} {aA : List Bool} (f : Ls bcs 1 w LL_aA C p aA) {LL_saN y : Nat} {l : Value} {saN : List Sv} (b : Ls Sv.cs 1 w LL_saN y l saN) {LR_aN BB_aN : Nat} {aN : List (List Int)} (c : Rd ics 1 w LR_aN BB_aN saN aN) {LL_wd D : Nat} {q : Value} {wd : List Int} (g : Ls ics 1 w LL_wd D q wd) :
 Ctr Try.prog 54 #[(.agg #[(.int .i64 aS), p, l]), q] w (fun v w' => v = .int .i64 (rwR aS aA aN wd) ∧ Ch [] w w') := by
 obtain ⟨i, j, z⟩ := f.val
 subst z
 have R := f.len
 have f := f.here (by decide)
 obtain ⟨d, e, o⟩ := b.val
 subst o
 have I := b.len
 have b := b.here (by decide)
 have c := c.here (by decide)
 have J := c.1
 obtain ⟨r, s, A⟩ := g.val
 subst A
 have S := g.len
 have g := g.here (by decide)
 have E := Ch.refl [] w
 refine Yh (N := 25) (vs0 := [(.agg #[(.int .i64 aS), (.slice i aA.length j), (.slice d saN.length e)]), (.slice r wd.length s)]) Try.func54 rfl rfl rfl ?_
 refine Zg fun K1 H1 => ?_
 refine Zc (Zk rfl rfl ?_)
 refine Xw rfl fun K W2 F C2 aw => ?_
 have ax := C2.size
 have E := E.trans C2
 have ay := F.lt
 replace F : Blk W2 K 27 [(.int .i64 aS), (.slice i aA.length j), (.slice d saN.length e)] := F
 refine Za rfl rfl (Ze rfl) (Zf (Zb (H1 _ _ ?_)))
 refine Zg fun K3 H3 => ?_
 refine Zg fun K4 H4 => ?_
 refine Zc (Za rfl rfl (Zt F.at_ agg27 sz27 rfl) (Zk rfl rfl ?_))
 have F5 := f.ch0 C2
 have F6 := c.ch0 C2
 have F7 := b.ch0 C2
 refine Step.call (Zl (xs := [.tmp 8]) fk43 rfl) (Xx _ F5 F7 F6 ) fun az W8 V => ?_
 obtain ⟨rfl, C8⟩ := V
 have aB := C8.size
 have E := E.trans C8
 refine Za rfl rfl (Xi rfl) (Zf (Zb (H4 _ _ ?_)))
 refine Zx rfl (fun a => ?_) (fun a => ?_)
 ·have X := a
  have a := bf_t (Qf a)
  refine Zg fun aC Y => ?_
  refine Zc (Za rfl rfl (Ze rfl) (Zf (Zb (Y _ _ ?_))))
  refine Zs (Zm ?_)
  exact Zi [_] ⟨rfl, trivial⟩ ⟨congrArg (Value.int .i64) (by first | exact Zla a | (rw [← Zfr a, hm, show k = wd.length by omega])), E⟩
 have X := a
 have a := bt_t (Qg a)
 refine Zu ?_
 refine Zb (H3 _ _ ?_)
 refine Zg fun aD Z => ?_
 refine Zc (Za rfl rfl (Zh fa27_0 rfl) ?_)
 have T := F.ch0 C8
 refine Za rfl rfl (Zp T.at_ agg3 rfl rfl) (Za rfl rfl (Ze rfl) (Zf (Zb (Z _ _ ?_))))
 refine Zg fun aE aa => ?_
 refine Zg fun aF ab => ?_
 refine Zc (Za rfl rfl (Zd rfl) (Za rfl rfl (Xm (by rw [el30]; rfl) rfl) (Za rfl rfl (Zd rfl) (Zf (Zb (ab _ _ ?_))))))
 refine Yf ?_
 have ac := F5.ch0 C8
 have ad := F7.ch0 C8
 have ae := F6.ch0 C8
 refine Xo (σ := Nat × Int) (fun ⟨k, m⟩ => [(2, (.pointer (some ⟨K, 0, none⟩))), (4, (.int .i64 0)), (5, (.int .i64 m)), (13, (.slice r wd.length s)), (14, (.int .i64 ((wd.length : Nat) : Int))), (15, (.int .i64 ((k : Nat) : Int)))]) (fun ⟨k, m⟩ wx => Ch [] w wx ∧ W8.heap.size ≤ wx.heap.size ∧ (k ≤ wd.length) ∧ (m = runA aN aS wd k) ∧ (-1 ≤ m ∧ m ≤ (aA.length : Int) - 1) ∧ Blk wx K 27 [(.int .i64 aS), (.slice i aA.length j), (.slice d saN.length e)] ∧ Ls bcs 1 wx LL_aA w.heap.size (.slice i aA.length j) aA ∧ Ls Sv.cs 1 wx LL_saN w.heap.size (.slice d saN.length e) saN ∧ Rd ics 1 wx LR_aN w.heap.size saN aN) (fun ⟨k, m⟩ => wd.length - k) (0, aS) (sC4 rfl rfl rfl rfl (sC2 rfl rfl (Sub.nil _))) ⟨E, (Nat.le_refl _), om, rfl, (by have aG := a.2.1; omega), T, ac, ad, ae⟩ ?_
 rintro ⟨k, m⟩ aH ⟨E, af, aI, hm, hb, n, t, u, x⟩
 have G := E
 have U := G.size
 have L := n.lt
 refine Zg fun aJ ag => ?_
 refine Zc (Za rfl rfl (Xv rfl rfl) (Zf (Zb (ag _ _ ?_))))
 refine Zg fun aK ah => ?_
 refine Zx rfl (fun h => ?_) (fun h => ?_)
 ·have M := h
  have h := Yo h
  refine Zu ?_
  refine Zb (ah _ _ ?_)
  refine Zg fun aL ai => ?_
  refine Yf ?_
  refine Zg fun aM aj => ?_
  refine Zc (Zk rfl rfl ?_)
  have ak := g.ch0 G
  refine (Yy ak Yl el30 sz3 rfl rfl rfl om fun al O H P => ?_)
  refine Za rfl rfl (Yk P agg3 rfl rfl) (Za rfl rfl (Ze rfl) (Zf (Zb (aj _ _ (Zc (Za rfl rfl (Zt n.at_ agg27 sz27 rfl) (Za rfl rfl (Zd rfl) (Za rfl rfl (Zd rfl) ?_))))))))
  refine Zk rfl rfl ?_
  refine Step.call (Zl (xs := [.tmp 19, .tmp 20, .tmp 21]) fk58 rfl) (Zak _ t u x _ _ a hb) fun am aO Q => ?_
  obtain ⟨rfl, B⟩ := Q
  have an := B.size
  have E := E.trans B
  refine Za rfl rfl (Ze rfl) (Zf (Yc (Zb (ai _ _ (Zc (Za rfl rfl (Yq om rfl rfl) (Za rfl rfl (Zd rfl) (Zf ?_))))))))
  have ao := n.ch0 B
  have ap := t.ch0 B
  have aq := u.ch0 B
  have au := x.ch0 B
  exact Zb (Exists.intro ((k + 1), Yd aN m O) ⟨⟨E, om, om, (by rw [Zhc H, ← hm]), (Zex a hb), ao, ap, aq, au⟩, sC4 rfl rfl rfl rfl (sC2 rfl rfl (Sub.nil _)), (by first | omega | (dsimp only; omega))⟩)
 have M := h
 have h := Yp h
 refine Xk (Ya (Ya (Xd ?_)))
 refine Zb (aa _ _ ?_)
 refine Zg fun aP av => ?_
 refine Zc (Za rfl rfl (Zd rfl) (Za rfl rfl (Ze rfl) (Zf (Zb (av _ _ ?_)))))
 refine Zs ?_
 exact Zi [_] ⟨rfl, trivial⟩ ⟨congrArg (Value.int .i64) (by first | exact Zla a | (rw [← Zfr a, hm, show k = wd.length by omega])), E⟩

/-- impl.AcceptsWord -/
theorem Zaa {w : World} (aS : Int) {LL_aA s : Nat} {j : Value} {aA : List Bool} (c : Ls bcs 1 w LL_aA s j aA) {LL_saN o : Nat} {e : Value} {saN : List Sv} (a : Ls Sv.cs 1 w LL_saN o e saN) {LR_aN BB_aN : Nat} {aN : List (List Int)} (b : Rd ics 1 w LR_aN BB_aN saN aN) {LL_wd t : Nat} {k : Value} {wd : List Int} (d : Ls ics 1 w LL_wd t k wd) :
 Ctr Try.prog 14 #[(.agg #[(.int .i64 aS), j, e]), k] w (fun v w' => v = .bool (Qy aA (rwR aS aA aN wd)) ∧ Ch [] w w') := by
 obtain ⟨l, m, p⟩ := c.val
 subst p
 have D := c.len
 have c := c.here (by decide)
 obtain ⟨f, g, h⟩ := a.val
 subst h
 have A := a.len
 have a := a.here (by decide)
 have b := b.here (by decide)
 have B := b.1
 obtain ⟨u, x, q⟩ := d.val
 subst q
 have F := d.len
 have d := d.here (by decide)
 have E := Ch.refl [] w
 have hr := Zpn aS aA aN wd
 refine Yh (N := 10) (vs0 := [(.agg #[(.int .i64 aS), (.slice l aA.length m), (.slice f saN.length g)]), (.slice u wd.length x)]) Try.func14 rfl rfl rfl ?_
 refine Zg fun K1 H1 => ?_
 refine Zc (Zk rfl rfl ?_)
 refine Xw rfl fun G W2 z C2 R => ?_
 have S := C2.size
 have E := E.trans C2
 have T := z.lt
 replace z : Blk W2 G 27 [(.int .i64 aS), (.slice l aA.length m), (.slice f saN.length g)] := z
 refine Za rfl rfl (Ze rfl) (Zf (Zb (H1 _ _ ?_)))
 refine Zg fun K3 H3 => ?_
 refine Yx [] 6 mixed rfl fun W4 C4 => ?_
 have U := C4.size
 have E := E.trans C4
 have F5 := z.ch0 C4
 refine dT 0 rfl rfl rfl (Zn F5.at_ (fun i hi => absurd hi List.not_mem_nil) agg27 sz27 rfl ?_)
 refine dT 1 rfl rfl rfl (Zn F5.at_ (fun i hi => absurd hi List.not_mem_nil) agg27 sz27 rfl ?_)
 refine dV 2 rfl rfl rfl (fun _ => Zd rfl) (dO 3 (Ye rfl rfl rfl ?_))
 have F6 := (c.ch0 C2).ch0 C4
 have F7 := (b.ch0 C2).ch0 C4
 have F8 := (a.ch0 C2).ch0 C4
 have F9 := (d.ch0 C2).ch0 C4
 refine Step.call (Zl (xs := [.tmp 6, .tmp 7]) fk54 rfl) (Zit _ F6 F8 F7 F9 ) fun V H I => ?_
 obtain ⟨rfl, r⟩ := I
 have J := r.size
 have E := E.trans r
 have n : Ch [] W4 H := ((Ch.refl _ _).trans r)
 refine ⟨n, ?_⟩
 refine dO 4 (Ye rfl rfl rfl ?_)
 have K := F6.ch0 r
 have L := F7.ch0 r
 have M := F8.ch0 r
 refine Step.call (Zl (xs := [.tmp 5, .tmp 8]) fk48 rfl) (Zab _ K M L _ om) fun X O P => ?_
 obtain ⟨rfl, C⟩ := P
 have Q := C.size
 have E := E.trans C
 have y : Ch [] W4 O := (n.trans C)
 refine ⟨y, ?_⟩
 refine dV 5 rfl rfl rfl (fun _ => Ze rfl) ?_
 refine Yb (by kernel_rfl) ?_
 refine Zb (H3 _ _ ?_)
 refine Zs ?_
 exact Zi [_] ⟨rfl, trivial⟩ ⟨congrArg Value.bool rfl, E⟩

/-- impl.MissingWord$1 -/
theorem Zeg {w : World} (s : St2) (bS : Int) {LL_bA y : Nat} {n : Value} {bA : List Bool} (h : Ls bcs 1 w LL_bA y n bA) {LL_sbN r : Nat} {j : Value} {sbN : List Sv} (c : Ls Sv.cs 1 w LL_sbN r j sbN) {LR_bN BB_bN : Nat} {bN : List (List Int)} (f : Rd ics 1 w LR_bN BB_bN sbN bN) {b_b t_b : Nat} (o : Blk w b_b t_b [(.int .i64 bS), n, j]) (aS : Int) {LL_aA z : Nat} {p : Value} {aA : List Bool} (i : Ls bcs 1 w LL_aA z p aA) {LL_saN t : Nat} {k : Value} {saN : List Sv} (e : Ls Sv.cs 1 w LL_saN t k saN) {LR_aN BB_aN : Nat} {aN : List (List Int)} (g : Rd ics 1 w LR_aN BB_aN saN aN) {b_a t_a : Nat} (q : Blk w b_a t_a [(.int .i64 aS), p, k]) (hs : inS aA bA s) :
 Ctr Try.prog 56 #[(.agg #[(.int .i64 s.a), (.int .i64 s.b)]), (.pointer (some ⟨b_b, 0, none⟩)), (.pointer (some ⟨b_a, 0, none⟩))] w (fun v w' => v = .bool (tsD aA bA true s) ∧ Ch [] w w') := by
 obtain ⟨M, O, u⟩ := h.val
 subst u
 have P := h.len
 have h := h.here (by decide)
 obtain ⟨C, D, l⟩ := c.val
 subst l
 have F := c.len
 have c := c.here (by decide)
 have f := f.here (by decide)
 have G := f.1
 have Q := o.lt
 obtain ⟨R, S, x⟩ := i.val
 subst x
 have T := i.len
 have i := i.here (by decide)
 obtain ⟨H, I, m⟩ := e.val
 subst m
 have J := e.len
 have e := e.here (by decide)
 have g := g.here (by decide)
 have K := g.1
 have U := q.lt
 have E := Ch.refl [] w
 unfold inS inA at hs
 refine Yh (N := 16) (vs0 := [(.agg #[(.int .i64 s.a), (.int .i64 s.b)]), (.pointer (some ⟨b_b, 0, none⟩)), (.pointer (some ⟨b_a, 0, none⟩))]) Try.func56 rfl rfl rfl ?_
 refine Zg fun K1 H1 => ?_
 refine Zc (Zk rfl rfl ?_)
 refine Xw rfl fun X W2 A C2 ah => ?_
 have ai := C2.size
 have E := E.trans C2
 have aj := A.lt
 replace A : Blk W2 X 69 [(.int .i64 s.a), (.int .i64 s.b)] := A
 refine Za rfl rfl (Ze rfl) (Zf (Zb (H1 _ _ ?_)))
 refine Zg fun K3 H3 => ?_
 refine Zc ?_
 have F4 := o.ch0 C2
 refine Za rfl rfl (Zt F4.at_ agg27 sz27 rfl) (Za rfl rfl (Zh fa69_1 rfl) (Za rfl rfl (Zp A.at_ agg3 rfl rfl) (Zk rfl rfl ?_)))
 have F5 := h.ch0 C2
 have F6 := f.ch0 C2
 have F7 := c.ch0 C2
 refine Step.call (Zl (xs := [.tmp 5, .tmp 7]) fk48 rfl) (Zab _ F5 F7 F6 _ om) fun ak W8 Y => ?_
 obtain ⟨rfl, C8⟩ := Y
 have al := C8.size
 have E := E.trans C8
 refine Za rfl rfl (Zd rfl) ?_
 refine Ym (d := 9) rfl (fun B => ?_) (fun B => ?_)
 ·have Z := B
  have aa := (q.ch0 C2).ch0 C8
  refine Za rfl rfl (Zt aa.at_ agg27 sz27 rfl) (Za rfl rfl (Zh fa69_0 rfl) ?_)
  have ab := A.ch0 C8
  refine Za rfl rfl (Zp ab.at_ agg3 rfl rfl) (Zk rfl rfl ?_)
  have ac := (i.ch0 C2).ch0 C8
  have ad := (g.ch0 C2).ch0 C8
  have ae := (e.ch0 C2).ch0 C8
  refine Step.call (Zl (xs := [.tmp 10, .tmp 12]) fk48 rfl) (Zab _ ac ae ad _ om) fun af am L => ?_
  obtain ⟨rfl, V⟩ := L
  have ag := V.size
  have E := E.trans V
  refine Za rfl rfl (Xi rfl) (Za rfl rfl (Zw rfl rfl) (Za rfl rfl (Ze rfl) (Zf (Zb (H3 _ _ ?_)))))
  refine Zs ?_
  exact Zi [_] ⟨rfl, trivial⟩ ⟨congrArg Value.bool (by unfold tsD; first | (simp [B]; done) | simp_all), E⟩
 have Z := B
 refine Zj rfl rfl (Zj rfl rfl (Zj rfl rfl (Zj rfl rfl (Zj rfl rfl (Za rfl rfl (Zv rfl rfl) (Za rfl rfl (Ze rfl) (Zf ?_)))))))
 refine Zb (H3 _ _ ?_)
 refine Zs ?_
 exact Zi [_] ⟨rfl, trivial⟩ ⟨congrArg Value.bool (by unfold tsD; first | (simp [B]; done) | simp_all), E⟩

/-- impl.copyInts -/
theorem Zas {w : World} {LL_l f : Nat} {b : Value} {l : List Int} (a : Ls ics 1 w LL_l f b l) (hb : l.length ≤ 4194304) :
 Ctr Try.prog 87 #[b] w (fun v w' => Ol ics 3 1 w' v (l) ∧ Lo w.heap.size v ∧ Ch [] w w') := by
 obtain ⟨g, h, c⟩ := a.val
 subst c
 have s := a.len
 have a := a.here (by decide)
 have E := Ch.refl [] w
 refine Yh (N := 6) (vs0 := [(.slice g l.length h)]) Try.func87 rfl rfl rfl ?_
 refine Zg fun K1 H1 => ?_
 refine Zc (Za rfl rfl (Ze rfl) (Zf (Zb (H1 _ _ ?_))))
 refine Zg fun K2 H2 => ?_
 refine Zc (Zk rfl rfl ?_)
 refine Xt (k := 1) ics el30 sz3 fun B W3 p d C3 => ?_
 have C := C3.size
 have E := E.trans C3
 obtain ⟨t, u, rfl, x, q⟩ := p.opn
 refine Za rfl rfl (Zd rfl) (Zk rfl rfl ?_)
 have F5 := a.ch0 C3
 refine Yj (cs := ics) el30 sz3 by3 zr3 rfl (by decide) Xz p F5 rfl rfl bd bd d om fun y W4 e j z C4 => ?_
 have D := C4.size
 have E := E.step C4 (fun i hi => .inl (by have F := d _ hi; omega))
 replace e : Ol ics 3 1 W4 y l := e
 obtain ⟨m, n, rfl, A, r⟩ := e.opn
 refine Za rfl rfl (Ze rfl) (Zf (Zb (H2 _ _ ?_)))
 refine Zs ?_
 have o : Ol ics 3 1 W4 (.slice m (l).length n) (l) := by
  have hx := e
  first | exact hx | simpa using hx
 exact Zi [_] ⟨rfl, trivial⟩ ⟨o, Lo.down j om, E⟩

/-- impl.together$1 -/
theorem Zge {w : World} (s : St2) (x : Int) (aS : Int) {LL_aA F : Nat} {o : Value} {aA : List Bool} (g : Ls bcs 1 w LL_aA F o aA) {LL_saN y : Nat} {j : Value} {saN : List Sv} (c : Ls Sv.cs 1 w LL_saN y j saN) {LR_aN BB_aN : Nat} {aN : List (List Int)} (e : Rd ics 1 w LR_aN BB_aN saN aN) {b_a t_a : Nat} (p : Blk w b_a t_a [(.int .i64 aS), o, j]) (bS : Int) {LL_bA G : Nat} {q : Value} {bA : List Bool} (h : Ls bcs 1 w LL_bA G q bA) {LL_sbN z : Nat} {k : Value} {sbN : List Sv} (d : Ls Sv.cs 1 w LL_sbN z k sbN) {LR_bN BB_bN : Nat} {bN : List (List Int)} (f : Rd ics 1 w LR_bN BB_bN sbN bN) {b_b t_b : Nat} (r : Blk w b_b t_b [(.int .i64 bS), q, k]) (hva : Yz aS aA aN) (hvb : Yz bS bA bN) (hs : inS aA bA s) :
 Ctr Try.prog 88 #[(.agg #[(.int .i64 s.a), (.int .i64 s.b)]), (.int .i64 x), (.pointer (some ⟨b_a, 0, none⟩)), (.pointer (some ⟨b_b, 0, none⟩))] w (fun v w' => v = .agg (St2.cs ((⟨Yd aN s.a x, Yd bN s.b x⟩ : St2))).toArray ∧ Ch [] w w') := by
 obtain ⟨Y, Z, A⟩ := g.val
 subst A
 have aa := g.len
 have g := g.here (by decide)
 obtain ⟨L, M, m⟩ := c.val
 subst m
 have O := c.len
 have c := c.here (by decide)
 have e := e.here (by decide)
 have P := e.1
 have ab := p.lt
 obtain ⟨ac, ad, B⟩ := h.val
 subst B
 have ae := h.len
 have h := h.here (by decide)
 obtain ⟨Q, R, n⟩ := d.val
 subst n
 have S := d.len
 have d := d.here (by decide)
 have f := f.here (by decide)
 have T := f.1
 have af := r.lt
 have E := Ch.refl [] w
 unfold inS inA at hs
 refine Yh (N := 18) (vs0 := [(.agg #[(.int .i64 s.a), (.int .i64 s.b)]), (.int .i64 x), (.pointer (some ⟨b_a, 0, none⟩)), (.pointer (some ⟨b_b, 0, none⟩))]) Try.func88 rfl rfl rfl ?_
 refine Zg fun K1 H1 => ?_
 refine Zc (Zk rfl rfl ?_)
 refine Xw rfl fun ah W2 I C2 az => ?_
 have aB := C2.size
 have E := E.trans C2
 have aC := I.lt
 replace I : Blk W2 ah 69 [(.int .i64 s.a), (.int .i64 s.b)] := I
 refine Zk rfl rfl ?_
 refine Yr zr69 fun D W3 J C3 aD => ?_
 have aE := C3.size
 have E := E.trans C3
 have aF := J.lt
 replace J : Blk W3 D 69 [(.int .i64 0), (.int .i64 0)] := J
 refine Zf (Zb (H1 _ _ ?_))
 refine Zg fun K4 H4 => ?_
 refine Yx [D] 12 mixed rfl fun W5 C5 => ?_
 have aG := C5.size
 have E := E.trans C5
 have F6 := ((p.ch0 C2).ch0 C3).ch0 C5
 refine dT 0 rfl rfl rfl (Zn F6.at_ (oS om) agg27 sz27 rfl ?_)
 refine dV 1 rfl rfl rfl (fun _ => Zh fa69_0 rfl) ?_
 have F7 := (I.ch0 C3).ch0 C5
 refine dT 2 rfl rfl rfl (Xj F7.at_ (oS om) agg3 rfl rfl ?_)
 refine dV 3 rfl rfl rfl (fun _ => Zd rfl) ?_
 have F8 := ((r.ch0 C2).ch0 C3).ch0 C5
 refine dT 5 rfl rfl rfl (Zn F8.at_ (oS om) agg27 sz27 rfl ?_)
 refine dV 6 rfl rfl rfl (fun _ => Zh fa69_1 rfl) ?_
 refine dT 7 rfl rfl rfl (Xj F7.at_ (oS om) agg3 rfl rfl ?_)
 refine dV 8 rfl rfl rfl (fun _ => Zd rfl) (dO 4 (Ye rfl rfl rfl ?_))
 have F9 := ((g.ch0 C2).ch0 C3).ch0 C5
 have ai := ((e.ch0 C2).ch0 C3).ch0 C5
 have aj := ((c.ch0 C2).ch0 C3).ch0 C5
 refine Step.call (Zl (xs := [.tmp 7, .tmp 9, .tmp 10]) fk58 rfl) (Zak _ F9 aj ai _ _ hva om) fun ak al U => ?_
 obtain ⟨rfl, C⟩ := U
 have am := C.size
 have E := E.trans C
 have t : Ch [D] W5 al := ((Ch.refl _ _).trans C.of_nil)
 refine ⟨t, ?_⟩
 refine dO 9 (Ye rfl rfl rfl ?_)
 have an := (((h.ch0 C2).ch0 C3).ch0 C5).ch0 C
 have ao := (((f.ch0 C2).ch0 C3).ch0 C5).ch0 C
 have ap := (((d.ch0 C2).ch0 C3).ch0 C5).ch0 C
 refine Step.call (Zl (xs := [.tmp 12, .tmp 14, .tmp 15]) fk58 rfl) (Zak _ an ap ao _ _ hvb om) fun aq au V => ?_
 obtain ⟨rfl, K⟩ := V
 have av := K.size
 have E := E.trans K
 have u : Ch [D] W5 au := (t.trans K.of_nil)
 refine ⟨u, ?_⟩
 refine dV 10 rfl rfl rfl (fun _ => Yt (parts := [(0, .tmp 11), (1, .tmp 16)]) (cells := [(.int .i64 (Yd aN s.a x)), (.int .i64 (Yd bN s.b x))]) zr69 pl69 rfl rfl) (dO 11 (Ye rfl rfl rfl ?_))
 have aw := ((J.ch0 C5).ch0 C).ch0 K
 refine Zy (off := 0) 2 aw sz69 rfl (us := [(.int .i64 (Yd aN s.a x)), (.int .i64 (Yd bN s.b x))]) rfl rfl rfl rfl fun ag l X => ?_
 have ax := X.size
 have E := E.step X (lS om)
 replace l : Blk ag D 69 [(.int .i64 (Yd aN s.a x)), (.int .i64 (Yd bN s.b x))] := l
 have H : Ch [D] W5 ag := (u.step X (fun i hm => by have ay := List.mem_singleton.1 hm; exact .inr (by rw [ay]; exact (List.mem_singleton.2 rfl))))
 refine ⟨H, ?_⟩
 refine Yb (by kernel_rfl) ?_
 refine Zb (H4 _ _ ?_)
 refine Zs ?_
 exact Zi [_] (Zz l rfl agg69 sz69 trivial) ⟨by simp [Zgk, St2.cs], E⟩

/-- impl.states] -/
theorem Zko {w : World} (first : St2) (aV : Int) {bB bC : Nat} {aF : Value} {aC : List Bool} (F : Ls bcs 1 w bB bC aF aC) {a7 a8 : Nat} {ao : Value} {a9 : List Sv} (A : Ls Sv.cs 1 w a7 a8 ao a9) {bD bF : Nat} {c : List (List Int)} (P : Rd ics 1 w bD bF a9 c) {T ca : Nat} (aG : Blk w T ca [(.int .i64 aV), aF, ao]) (aW : Int) {bG bH : Nat} {aH : Value} {aD : List Bool} (G : Ls bcs 1 w bG bH aH aD) {ba bb : Nat} {ap : Value} {bc : List Sv} (B : Ls Sv.cs 1 w ba bb ap bc) {bI bJ : Nat} {d : List (List Int)} (Q : Rd ics 1 w bI bJ bc d) {U cb : Nat} (aI : Blk w U cb [(.int .i64 aW), aH, ap]) (b1 : Int) {aJ bK : Nat} {aK : Value} {r : List Bool} (H : Ls bcs 1 w aJ bK aK r) {aq be : Nat} {au : Value} {X : List Sv} (C : Ls Sv.cs 1 w aq be au X) {aL bL : Nat} {b2 : List (List Int)} (R : Rd ics 1 w aL bL X b2) {I bf : Nat} (aM : Blk w I bf [(.int .i64 b1), aK, au]) (b3 : Int) {aN bM : Nat} {aO : Value} {s : List Bool} (J : Ls bcs 1 w aN bM aO s) {av bg : Nat} {aw : Value} {Y : List Sv} (D : Ls Sv.cs 1 w av bg aw Y) {aP bN : Nat} {b4 : List (List Int)} (S : Rd ics 1 w aP bN Y b4) {K bh : Nat} (aQ : Blk w K bh [(.int .i64 b3), aO, aw]) (hva : Yz aV aC c) (hvb : Yz aW aD d) (hs : inS aC aD first) (ee : aC = s) (ef : aD = r) :
 Ctr Try.prog 45 #[(.agg #[(.int .i64 first.a), (.int .i64 first.b)]), (.func (.func 88) #[] #[(.pointer (some ⟨T, 0, none⟩)), (.pointer (some ⟨U, 0, none⟩))]), (.func (.func 56) #[] #[(.pointer (some ⟨I, 0, none⟩)), (.pointer (some ⟨K, 0, none⟩))])] w (fun v w' => ∃ (eg : Value), v = .tuple #[eg, .bool ((difR s c r d first true).2)] ∧ Ol ics 3 1 w' eg ((difR s c r d first true).1) ∧ Lo w.heap.size eg ∧ Ch [] w w') := by
 obtain ⟨c3, c4, bi⟩ := F.val
 subst bi
 have c5 := F.len
 have F := F.here (by decide)
 obtain ⟨cJ, cK, aX⟩ := A.val
 subst aX
 have cL := A.len
 have A := A.here (by decide)
 have P := P.here (by decide)
 have cM := P.1
 have c6 := aG.lt
 obtain ⟨c7, c8, bj⟩ := G.val
 subst bj
 have c9 := G.len
 have G := G.here (by decide)
 obtain ⟨cN, cO, aY⟩ := B.val
 subst aY
 have cP := B.len
 have B := B.here (by decide)
 have Q := Q.here (by decide)
 have cQ := Q.1
 have da := aI.lt
 obtain ⟨aR, aS, bk⟩ := H.val
 subst bk
 have db := H.len
 have H := H.here (by decide)
 obtain ⟨ax, ay, aZ⟩ := C.val
 subst aZ
 have cR := C.len
 have C := C.here (by decide)
 have R := R.here (by decide)
 have cS := R.1
 have dc := aM.lt
 obtain ⟨aT, aU, bm⟩ := J.val
 subst bm
 have dd := J.len
 have J := J.here (by decide)
 obtain ⟨az, aA, a0⟩ := D.val
 subst a0
 have cT := D.len
 have D := D.here (by decide)
 have S := S.here (by decide)
 have cU := S.1
 have de := aQ.lt
 have E := Ch.refl [] w
 have dx : Yz aV s c := by rw [← ee]; exact hva
 have dy : Yz aW r d := by rw [← ef]; exact hvb
 have fl : inS s r first := by rw [ee, ef] at hs; exact hs
 have hin := Zhx dx dy fl; have hle := lenS dx dy fl; have hwl := Zvg c d first
 refine Yh (N := 60) (vs0 := [(.agg #[(.int .i64 first.a), (.int .i64 first.b)]), (.func (.func 88) #[] #[(.pointer (some ⟨T, 0, none⟩)), (.pointer (some ⟨U, 0, none⟩))]), (.func (.func 56) #[] #[(.pointer (some ⟨I, 0, none⟩)), (.pointer (some ⟨K, 0, none⟩))])]) Try.func45 rfl rfl rfl ?_
 refine Zg fun K1 H1 => ?_
 refine Zc (Zk rfl rfl ?_)
 refine Xw rfl fun fL W2 d6 C2 g9 => ?_
 have ha := C2.size
 have E := E.trans C2
 have d7 := d6.lt
 replace d6 : Blk W2 fL 69 [(.int .i64 first.a), (.int .i64 first.b)] := d6
 refine Za rfl rfl (Ze rfl) (Za rfl rfl (Ze rfl) (Zf (Zb (H1 _ _ ?_))))
 refine Zg fun K3 H3 => ?_
 refine Zc (Zk rfl rfl ?_)
 refine Zlb kvS fun an W4 cy C4 fM => ?_
 have hb := C4.size
 have E := E.trans C4
 have fN := cy.lt
 replace cy : Mp kvS W4 an ([] : List St2) := cy
 have F5 := d6.ch0 C4
 refine Za rfl rfl (Zt F5.at_ agg69 sz69 rfl) (Zk rfl rfl ?_)
 refine Zni (first : St2) un104 (Zkd ist69) cy rfl rfl rfl (by simp) fun W6 df C6 => ?_
 have hc := C6.size
 have E := E.step C6 (lS om)
 replace df : Mp kvS W6 an ([(first : St2)]) := df
 refine Za rfl rfl (Zd rfl) (Za rfl rfl (Ze rfl) (Zf (Zb (H3 _ _ ?_))))
 refine Zg fun K8 H8 => ?_
 refine Zg fun K9 H9 => ?_
 refine Zc ?_
 have fO := F5.ch C6 (nS om)
 refine Za rfl rfl (Zt fO.at_ agg69 sz69 rfl) (Za rfl rfl (Yt (parts := [(0, .tmp 16)]) (cells := [(.int .i64 first.a), (.int .i64 first.b), (.slice none 0 0)]) zr106 pl106 rfl rfl) (Zk rfl rfl ?_))
 refine Zr (cs := Qs.cs) (parts := [(0, .tmp 17)]) (⟨⟨0, 0⟩, ⟨none, 0, 0⟩⟩ : Qs) [(⟨⟨first.a, first.b⟩, (⟨none, 0, 0⟩ : Sv)⟩ : Qs)] el107 sz106 zr106 Qs.len (by decide) rfl rfl rfl (by decide) (by decide) rfl fun fP dz dA dB eh => ?_
 have fQ := eh.size
 have E := E.trans eh
 obtain ⟨cV, cW, rfl, fm, ei⟩ := dA.opn
 refine Za rfl rfl (Ze rfl) (Zf (Zb (H9 _ _ ?_)))
 refine Yf ?_
 have dg : Ol Qs.cs 106 3 dz (.slice cV ([(⟨⟨first.a, first.b⟩, (⟨none, 0, 0⟩ : Sv)⟩ : Qs)]).length cW) ((zq (bE (nxS c d) first 0) [(⟨none, 0, 0⟩ : Sv)]).drop 0) := by
  have hx := dA
  exact hx
 have fR := df.ch0 eh
 have dh : Mp kvS dz an ((bE (nxS c d) first 0).map (·.1)) := by
  have hx := fR
  exact hx
 refine Xo (σ := Nat × List Sv × Value) (fun ⟨k, V, kq⟩ => [(1, (.func (.func 88) #[] #[(.pointer (some ⟨T, 0, none⟩)), (.pointer (some ⟨U, 0, none⟩))])), (2, (.func (.func 56) #[] #[(.pointer (some ⟨I, 0, none⟩)), (.pointer (some ⟨K, 0, none⟩))])), (8, (.map (some an))), (9, kq)]) (fun ⟨k, V, kq⟩ wx => Ch [] w wx ∧ dz.heap.size ≤ wx.heap.size ∧ (k ≤ (bE (nxS c d) first k).length) ∧ (V.length = (bE (nxS c d) first k).length) ∧ (∀ j x, j < k → (bE (nxS c d) first j)[j]? = some x → (tsD s r true) x.1 = false) ∧ Ol Qs.cs 106 3 wx kq ((zq (bE (nxS c d) first k) V).drop k) ∧ Lo W6.heap.size kq ∧ Mp kvS wx an ((bE (nxS c d) first k).map (·.1)) ∧ Od ics 3 1 wx dz.heap.size wx.heap.size V ((bE (nxS c d) first k).map (·.2)) ∧ (Sep kq V)) (fun ⟨k, V, kq⟩ => 170 - k) (0, [(⟨none, 0, 0⟩ : Sv)], (.slice cV ([(⟨⟨first.a, first.b⟩, (⟨none, 0, 0⟩ : Sv)⟩ : Qs)]).length cW)) (sC4 rfl rfl rfl rfl (Sub.nil _)) ⟨E, (Nat.le_refl _), (Nat.zero_le _), rfl, (fun _ _ h => absurd h om), dg, dB, dh, Od.one_nil, Zqe⟩ ?_
 rintro ⟨k, V, kq⟩ d8 ⟨E, fS, hd, hV, hf, cc, bO, cX, od, cz⟩
 have a1 := E
 have fn := a1.size
 have fo := cX.lt
 obtain ⟨Akq, Ckq, rfl, lkq, hikq⟩ := cc.opn
 have hlk := hle k
 have he := Zde hV
 have hh := List.length_drop (l := zq (bE (nxS c d) first k) V) (i := k)
 refine Zg fun hj fT => ?_
 refine Zg fun hk fU => ?_
 refine Zc (Za rfl rfl (Zd rfl) (Za rfl rfl (Xm (by rw [el107]; rfl) rfl) (Za rfl rfl (Zec rfl rfl) (Zf (Zb (fU _ _ ?_))))))
 refine Zx rfl (fun bP => ?_) (fun bP => ?_)
 ·have ej := bP
  have bP := Yo bP
  refine Zu ?_
  refine Zb (fT _ _ ?_)
  refine Zg fun hl fp => ?_
  refine Yf ?_
  refine Zg fun hn fV => ?_
  refine Zc (Za rfl rfl (Zd rfl) (Zk rfl rfl ?_))
  refine (Yy (j := 0) cc.ls Qs.len el107 sz106 rfl rfl rfl om fun fW fX dC ek => ?_)
  obtain ⟨p, n, cd, ce, t, dD, rfl, cf⟩ := Ztm dC od
  have fY := cf.len
  replace cf : Ls ics 1 d8 0 d8.heap.size (.slice cd n.length ce) n := cf
  have di := hin k _ (Yv t)
  dsimp only at di
  refine Za rfl rfl (Zt ek agg106 sz106 rfl) (Zk rfl rfl ?_)
  refine Yr zr106 fun b9 fZ cA b5 f0 => ?_
  have f1 := b5.size
  have E := E.trans b5
  have f2 := cA.lt
  replace cA : Blk fZ b9 106 [(.int .i64 0), (.int .i64 0), (.slice none 0 0)] := cA
  refine Zk rfl rfl ?_
  refine Zy (off := 0) 3 cA sz106 rfl (us := [(.int .i64 p.a), (.int .i64 p.b), (.slice cd n.length ce)]) rfl rfl rfl rfl fun f3 bn b6 => ?_
  have f4 := b6.size
  have E := E.step b6 (lS om)
  replace bn : Blk f3 b9 106 [(.int .i64 p.a), (.int .i64 p.b), (.slice cd n.length ce)] := bn
  refine Zf (Zb (fV _ _ ?_))
  refine Zg fun ho fq => ?_
  refine Zg fun hp f5 => ?_
  refine Zc (Za rfl rfl (Zd rfl) (Za rfl rfl (Zh fa106_0 rfl) (Za rfl rfl (Zld 2 bn.at_ agg69 sz69 rfl rfl) (Zk rfl rfl ?_))))
  have fr := ((H.ch0 a1).ch0 b5).ch b6 (oS om)
  have fs := ((R.ch0 a1).ch0 b5).ch b6 (oS om)
  have ft := ((C.ch0 a1).ch0 b5).ch b6 (oS om)
  have fu := ((aM.ch0 a1).ch0 b5).ch b6 (nS om)
  have fv := ((J.ch0 a1).ch0 b5).ch b6 (oS om)
  have fw := ((S.ch0 a1).ch0 b5).ch b6 (oS om)
  have fx := ((D.ch0 a1).ch0 b5).ch b6 (oS om)
  have fy := ((aQ.ch0 a1).ch0 b5).ch b6 (nS om)
  refine Step.call (Zjn (xs := [.tmp 29]) (as' := [(.agg #[(.int .i64 p.a), (.int .i64 p.b)]), (.pointer (some ⟨I, 0, none⟩)), (.pointer (some ⟨K, 0, none⟩))]) fk56 rfl rfl rfl) (Zeg p _ fr ft fs fu _ fv fx fw fy di) fun f6 el em => ?_
  obtain ⟨rfl, bw⟩ := em
  have f7 := bw.size
  have E := E.trans bw
  refine Zf (Zb (f5 _ _ ?_))
  refine Zx rfl (fun bp => ?_) (fun bp => ?_)
  ·have en := bp
   refine Zg fun hq f8 => ?_
   refine Zc (Za rfl rfl (Zh fa106_1 rfl) ?_)
   have f9 := bn.ch0 bw
   refine Za rfl rfl (Zp f9.at_ agg30 rfl rfl) (Zk rfl rfl ?_)
   have ga := ((od.ch0 b5).ch b6 (oS om)).ch0 bw
   have gb : _ := Zht ga dD t
   refine Step.call (Zl (xs := [.tmp 32]) fk87 rfl) (Zas gb (by have ak := hwl k _ (Yv t); dsimp only at ak; omega)) fun gc gd cB => ?_
   obtain ⟨cB, dE, fz⟩ := cB
   have ge := fz.size
   have E := E.trans fz
   obtain ⟨cg, ci, rfl, fA, eo⟩ := cB.opn
   refine Za rfl rfl (Ze rfl) (Za rfl rfl (Ze rfl) (Zf (Zb (f8 _ _ ?_))))
   refine Zs (Zm (Yi (Zm (Zm (Yi (Zm ?_))))))
   clear H8 fp fq
   have dF : Ol ics 3 1 gd (.slice cg (n).length ci) ((difR s c r d first true).1) := by
    have hx := cB
    first | (rw [← Zav (Zam t bp hf)]; exact hx) | (rw [← Zav (Zag (Zkv hV om) hf)]; simpa using hx)
   exact Zi [_, _] ⟨rfl, ⟨rfl, trivial⟩⟩ ⟨(.slice cg (n).length ci), (congrArg (fun zq => (Value.tuple #[(.slice cg (n).length ci), .bool zq])) (by first | rw [← Zav (Zam t bp hf)] | rw [← Zav (Zag (Zkv hV om) hf)])), dF, (Lo.down dE om), E⟩
  have en := bp
  refine Zu ?_
  refine Zb (fq _ _ ?_)
  refine Zg fun hr gf => ?_
  refine Zc (Za rfl rfl (Ze rfl) (Zf (Zb (gf _ _ ?_))))
  refine Yf ?_
  have gg := ((cc.ch0 b5).ch b6 (dS bO hikq om)).ch0 bw
  have dj : Ol Qs.cs 106 3 el (.slice Akq ((zq (bE (nxS c d) first k) V).drop k).length Ckq) ((zq (bx (nxS c d) (p, n) (bE (nxS c d) first k) 0) V).drop k) := by
   have hx := gg
   exact hx
  have gh := ((cX.ch0 b5).ch b6 (nS om)).ch0 bw
  have dk : Mp kvS el an ((bx (nxS c d) (p, n) (bE (nxS c d) first k) 0).map (·.1)) := by
   have hx := gh
   exact hx
  have gi := ((od.ch0 b5).ch b6 (oS om)).ch0 bw
  have gj := fu.ch0 bw
  have gk := fr.ch0 bw
  have gl := ft.ch0 bw
  have gm := fs.ch0 bw
  have gn := fy.ch0 bw
  have gp := fv.ch0 bw
  have gq := fx.ch0 bw
  have gr := fw.ch0 bw
  have gs := bn.ch0 bw
  refine Xo (σ := Nat × List Sv × Value) (fun ⟨m, V2, kr⟩ => [(1, (.func (.func 88) #[] #[(.pointer (some ⟨T, 0, none⟩)), (.pointer (some ⟨U, 0, none⟩))])), (2, (.func (.func 56) #[] #[(.pointer (some ⟨I, 0, none⟩)), (.pointer (some ⟨K, 0, none⟩))])), (8, (.map (some an))), (9, kr), (10, (.pointer (some ⟨b9, 0, none⟩))), (11, (.int .i64 ((m : Nat) : Int))), (21, (.bool (decide (0 < ((((zq (bE (nxS c d) first k) V).drop k).length : Nat) : Int))))), (30, (.bool (tsD s r true p)))]) (fun ⟨m, V2, kr⟩ wx => Ch [] w wx ∧ el.heap.size ≤ wx.heap.size ∧ (m ≤ 9) ∧ (V2.length = (bx (nxS c d) (p, n) (bE (nxS c d) first k) m).length) ∧ (V2[k]? = some (⟨cd, n.length, ce⟩ : Sv)) ∧ Blk wx I bf [(.int .i64 b1), (.slice aR r.length aS), (.slice ax X.length ay)] ∧ Ls bcs 1 wx aJ w.heap.size (.slice aR r.length aS) r ∧ Ls Sv.cs 1 wx aq w.heap.size (.slice ax X.length ay) X ∧ Rd ics 1 wx aL w.heap.size X b2 ∧ Blk wx K bh [(.int .i64 b3), (.slice aT s.length aU), (.slice az Y.length aA)] ∧ Ls bcs 1 wx aN w.heap.size (.slice aT s.length aU) s ∧ Ls Sv.cs 1 wx av w.heap.size (.slice az Y.length aA) Y ∧ Rd ics 1 wx aP w.heap.size Y b4 ∧ Blk wx b9 106 [(.int .i64 p.a), (.int .i64 p.b), (.slice cd n.length ce)] ∧ Ol Qs.cs 106 3 wx kr ((zq (bx (nxS c d) (p, n) (bE (nxS c d) first k) m) V2).drop k) ∧ Lo W6.heap.size kr ∧ Mp kvS wx an ((bx (nxS c d) (p, n) (bE (nxS c d) first k) m).map (·.1)) ∧ Od ics 3 1 wx dz.heap.size wx.heap.size V2 ((bx (nxS c d) (p, n) (bE (nxS c d) first k) m).map (·.2)) ∧ (b9 ∉ bl kr) ∧ (Sep kr V2)) (fun ⟨m, V2, kr⟩ => 9 - m) (0, V, (.slice Akq ((zq (bE (nxS c d) first k) V).drop k).length Ckq)) (sC8 rfl rfl rfl rfl rfl rfl rfl rfl (Sub.nil _)) ⟨E, (Nat.le_refl _), om, hV, dD, gj, gk, gl, gm, gn, gp, gq, gr, gs, dj, bO, dk, (gi.up (Nat.le_refl _) om), (fun hm => by have y := bO _ hm; have al := hikq _ hm; omega), cz⟩ ?_
  rintro ⟨m, V2, kr⟩ fB ⟨E, gt, hm, bQ, hvk, b7, cj, bR, bS, a2, bT, bU, bV, a3, bq, f, ck, d9, z, ad⟩
  have a4 := E
  have fC := a4.size
  have ep := b7.lt
  have eb := a2.lt
  have ec := a3.lt
  have fD := ck.lt
  obtain ⟨Akr, Ckr, rfl, lkr, hikr⟩ := bq.opn
  refine Zg fun ht gu => ?_
  refine Zg fun hv gv => ?_
  refine Zc (Za rfl rfl (Zd rfl) (Za rfl rfl (Xv rfl rfl) (Zf (Zb (gv _ _ ?_)))))
  refine Zx rfl (fun bW => ?_) (fun bW => ?_)
  ·have er := bW
   have bW := Yo bW
   refine Zu ?_
   refine Zb (gu _ _ ?_)
   refine Zg fun hw es => ?_
   refine Yf ?_
   refine Zg fun hy gw => ?_
   refine Zc (Za rfl rfl (Zd rfl) (Za rfl rfl (Zh fa106_0 rfl) (Za rfl rfl (Zld 2 a3.at_ agg69 sz69 rfl rfl) (Za rfl rfl (Zd rfl) (Zk rfl rfl ?_)))))
   have gx := F.ch0 a4
   have gy := P.ch0 a4
   have gz := A.ch0 a4
   have gA := aG.ch0 a4
   have gB := G.ch0 a4
   have gC := Q.ch0 a4
   have gD := B.ch0 a4
   have gE := aI.ch0 a4
   refine Step.call (Zjn (xs := [.tmp 40, .tmp 41]) (as' := [(.agg #[(.int .i64 p.a), (.int .i64 p.b)]), (.int .i64 ((m : Nat) : Int)), (.pointer (some ⟨T, 0, none⟩)), (.pointer (some ⟨U, 0, none⟩))]) fk88 rfl rfl rfl) (Zge p _ _ gx gz gy gA _ gB gD gC gE hva hvb (by rw [ee, ef]; exact di)) fun gF hz et => ?_
   obtain ⟨rfl, aa⟩ := et
   have gG := aa.size
   have E := E.trans aa
   refine Zk rfl rfl ?_
   refine Yr zr69 fun dG gH cC ab gI => ?_
   have gJ := ab.size
   have E := E.trans ab
   have gK := cC.lt
   replace cC : Blk gH dG 69 [(.int .i64 0), (.int .i64 0)] := cC
   refine Zk rfl rfl ?_
   refine Zy (off := 0) 2 cC sz69 rfl (us := [(.int .i64 ((⟨Yd c p.a ((m : Nat) : Int), Yd d p.b ((m : Nat) : Int)⟩ : St2).a)), (.int .i64 ((⟨Yd c p.a ((m : Nat) : Int), Yd d p.b ((m : Nat) : Int)⟩ : St2).b))]) rfl rfl rfl rfl fun eu br ac => ?_
   have gL := ac.size
   have E := E.step ac (lS om)
   replace br : Blk eu dG 69 [(.int .i64 ((⟨Yd c p.a ((m : Nat) : Int), Yd d p.b ((m : Nat) : Int)⟩ : St2).a)), (.int .i64 ((⟨Yd c p.a ((m : Nat) : Int), Yd d p.b ((m : Nat) : Int)⟩ : St2).b))] := br
   refine Zf (Zb (gw _ _ ?_))
   refine Zg fun hA gM => ?_
   refine Zc (Za rfl rfl (Zd rfl) (Za rfl rfl (Zt br.at_ agg69 sz69 rfl) ?_))
   have ew := ((ck.ch0 aa).ch0 ab).ch ac (nS om)
   refine Za rfl rfl (Zlf ((⟨Yd c p.a ((m : Nat) : Int), Yd d p.b ((m : Nat) : Int)⟩ : St2) : St2) un104 zr4 (Zkd ist69) ew rfl rfl) (Za rfl rfl (Xi rfl) (Zf (Zb (gM _ _ ?_))))
   refine Zx rfl (fun a5 => ?_) (fun a5 => ?_)
   ·have ex := a5
    have a5 := Yp (Qf a5)
    have L := a5
    refine Zg fun hB gN => ?_
    refine Zc (Za rfl rfl (Zd rfl) (Za rfl rfl (Zt br.at_ agg69 sz69 rfl) (Zk rfl rfl ?_)))
    refine Znm ((⟨Yd c p.a ((m : Nat) : Int), Yd d p.b ((m : Nat) : Int)⟩ : St2) : St2) un104 (Zkd ist69) ew rfl rfl rfl (L) fun gO b8 aE => ?_
    have gP := aE.size
    have E := E.step aE (lS om)
    replace b8 : Mp kvS gO an (((bx (nxS c d) (p, n) (bE (nxS c d) first k) m).map (·.1)) ++ [((⟨Yd c p.a ((m : Nat) : Int), Yd d p.b ((m : Nat) : Int)⟩ : St2) : St2)]) := b8
    refine Zf (Zb (gN _ _ ?_))
    refine Yx (bl (.slice Akr ((zq (bx (nxS c d) (p, n) (bE (nxS c d) first k) m) V2).drop k).length Ckr)) 12 mixed rfl fun cx aB => ?_
    have gQ := aB.size
    have E := E.trans aB
    refine dV 0 rfl rfl rfl (fun _ => Zd rfl) ?_
    have gR := (br.ch aE (nS om)).ch0 aB
    refine dT 1 rfl rfl rfl (Zn gR.at_ (fun i hm => by have y := f _ hm; have al := hikr _ hm; omega) agg69 sz69 rfl ?_)
    refine dV 2 rfl rfl rfl (fun _ => Zh fa106_1 rfl) ?_
    have ey := ((((a3.ch0 aa).ch0 ab).ch ac (nS om)).ch aE (nS om)).ch0 aB
    refine dT 3 rfl rfl rfl (Xj ey.at_ (fun i hm => by rcases Nat.lt_trichotomy i b9 with dl | dl | dl; (exact .inl dl); (exact absurd (dl ▸ hm) z); (exact .inr dl)) agg30 rfl rfl ?_)
    refine dV 5 rfl rfl rfl (fun _ => Zd rfl) ?_
    refine Zau 4 6 (by kernel_rfl) ?_ ?_
    ·refine Ye rfl rfl rfl ?_
     have fE := ((((d9.ch0 aa).ch0 ab).ch ac (oS om)).ch aE (oS om)).ch0 aB
     have gS : _ := Zht fE hvk (Zby t)
     refine Step.call (Zl (xs := [.tmp 52]) fk87 rfl) (Zas gS (by have ak := hwl k _ (Yv t); dsimp only at ak; omega)) fun ez gT a6 => ?_
     obtain ⟨a6, o, bX⟩ := a6
     have gU := bX.size
     have E := E.trans bX
     obtain ⟨dH, dI, rfl, dJ, q⟩ := a6.opn
     have cY : Ch (bl (.slice Akr ((zq (bx (nxS c d) (p, n) (bE (nxS c d) first k) m) V2).drop k).length Ckr)) cx gT := ((Ch.refl _ _).trans bX.of_nil)
     refine ⟨cY, ?_⟩
     refine dO 6 (Ye rfl rfl rfl ?_)
     refine Zr (cs := ics) (parts := [(0, .tmp 54)]) (0 : Int) [((m : Nat) : Int)] el30 sz3 zr3 Yl (by decide) rfl rfl rfl (by decide) (by decide) rfl fun eA gV cm dL bz => ?_
     have gW := bz.size
     have E := E.trans bz
     obtain ⟨dM, dN, rfl, dP, dm⟩ := cm.opn
     have cZ : Ch (bl (.slice Akr ((zq (bx (nxS c d) (p, n) (bE (nxS c d) first k) m) V2).drop k).length Ckr)) cx gV := (cY.trans bz.of_nil)
     refine ⟨cZ, ?_⟩
     refine dO 7 (Ye rfl rfl rfl ?_)
     have gX := a6.ch0 bz
     refine Yj (cs := ics) el30 sz3 by3 zr3 rfl (by decide) Xz gX cm.ls rfl rfl (by have ak := hwl k _ (Yv t); dsimp only at ak; simp only [List.length_singleton]; omega) (by have ak := hwl k _ (Yv t); dsimp only at ak; simp only [List.length_singleton]; omega) o om fun eB gY cn co bs bY => ?_
     have gZ := bY.size
     have E := E.step bY (fun i hi => .inl (by have y := o _ hi; omega))
     obtain ⟨M, O, rfl, dQ, ag⟩ := cn.opn
     have c0 : Ch (bl (.slice Akr ((zq (bx (nxS c d) (p, n) (bE (nxS c d) first k) m) V2).drop k).length Ckr)) cx gY := (cZ.step bY (fun i hm => by left; have y := o _ hm; have al := q _ hm; omega))
     refine ⟨c0, ?_⟩
     refine dV 8 rfl rfl rfl (fun _ => Yt (parts := [(0, .tmp 50), (1, .tmp 56)]) (cells := [(.int .i64 ((⟨Yd c p.a ((m : Nat) : Int), Yd d p.b ((m : Nat) : Int)⟩ : St2).a)), (.int .i64 ((⟨Yd c p.a ((m : Nat) : Int), Yd d p.b ((m : Nat) : Int)⟩ : St2).b)), (.slice M ((n ++ [((m : Nat) : Int)])).length O)]) zr106 pl106 rfl rfl) (dO 9 (Ye rfl rfl rfl ?_))
     refine Zr (cs := Qs.cs) (parts := [(0, .tmp 57)]) (⟨⟨0, 0⟩, ⟨none, 0, 0⟩⟩ : Qs) [(⟨⟨(⟨Yd c p.a ((m : Nat) : Int), Yd d p.b ((m : Nat) : Int)⟩ : St2).a, (⟨Yd c p.a ((m : Nat) : Int), Yd d p.b ((m : Nat) : Int)⟩ : St2).b⟩, (⟨M, ((n ++ [((m : Nat) : Int)])).length, O⟩ : Sv)⟩ : Qs)] el107 sz106 zr106 Qs.len (by decide) rfl rfl rfl (by decide) (by decide) rfl fun eC g0 cp dR bA => ?_
     have g1 := bA.size
     have E := E.trans bA
     obtain ⟨dU, dW, rfl, dX, dn⟩ := cp.opn
     have c1 : Ch (bl (.slice Akr ((zq (bx (nxS c d) (p, n) (bE (nxS c d) first k) m) V2).drop k).length Ckr)) cx g0 := (c0.trans bA.of_nil)
     refine ⟨c1, ?_⟩
     refine dO 10 (Ye rfl rfl rfl ?_)
     have g2 := ((((((((bq.ch0 aa).ch0 ab).ch ac (dS f hikr om)).ch aE (dS f hikr om)).ch0 aB).ch0 bX).ch0 bz).ch bY (fun g hg hm => by have y := o _ hm; have al := q _ hm; have dp := f _ hg; have dq := hikr _ hg; omega)).ch0 bA
     refine Yj (cs := Qs.cs) el107 sz106 by106 zr106 rfl (by decide) Qs.one g2 cp.ls rfl rfl (by have ak := Zev (m := m) t om; have eD := hle (k + 1); have d7 := Zde bQ; simp only [List.length_singleton, List.length_drop]; omega) (by have ak := Zev (m := m) t om; have eD := hle (k + 1); have d7 := Zde bQ; simp only [List.length_singleton, List.length_drop]; omega) f om fun eE eF cq cr am bZ => ?_
     have g3 := bZ.size
     have E := E.step bZ (fun i hi => .inl (by have y := f _ hi; omega))
     obtain ⟨bu, bv, rfl, dY, Z⟩ := cq.opn
     have dZ : Ch (bl (.slice Akr ((zq (bx (nxS c d) (p, n) (bE (nxS c d) first k) m) V2).drop k).length Ckr)) cx eF := (c1.step bZ (fun i hm => by exact .inr hm))
     refine ⟨dZ, ?_⟩
     refine dV 11 rfl rfl rfl (fun _ => Ze rfl) ?_
     refine Yb (by kernel_rfl) ?_
     refine Yc (Zb (es _ _ (Zc (Za rfl rfl (Zd rfl) (Za rfl rfl (Yq om rfl rfl) (Za rfl rfl (Ze rfl) (Zf ?_)))))))
     have dr : Ol Qs.cs 106 3 eF (.slice bu (((zq (bx (nxS c d) (p, n) (bE (nxS c d) first k) m) V2).drop k ++ [(⟨⟨(⟨Yd c p.a ((m : Nat) : Int), Yd d p.b ((m : Nat) : Int)⟩ : St2).a, (⟨Yd c p.a ((m : Nat) : Int), Yd d p.b ((m : Nat) : Int)⟩ : St2).b⟩, (⟨M, ((n ++ [((m : Nat) : Int)])).length, O⟩ : Sv)⟩ : Qs)])).length bv) ((zq (bx (nxS c d) (p, n) (bE (nxS c d) first k) (m + 1)) (V2 ++ [(⟨M, ((n ++ [((m : Nat) : Int)])).length, O⟩ : Sv)])).drop k) := by
      have hx := cq
      first | (rw [bx_y L]; exact hx) | (rw [bx_n L, Zhr bQ (Nat.le_of_lt (Zep t))]; exact hx)
     have eG := (((((b8.ch0 aB).ch0 bX).ch0 bz).ch bY (fun hm => by have y := o _ hm; have al := q _ hm; omega)).ch0 bA).ch bZ (fun hm => by have y := f _ hm; have al := hikr _ hm; omega)
     have ds : Mp kvS eF an ((bx (nxS c d) (p, n) (bE (nxS c d) first k) (m + 1)).map (·.1)) := by
      have hx := eG
      first | (rw [bx_y L]; exact hx) | (rw [bx_n L, List.map_append]; exact hx)
     have d0 := ((((fE.ch0 bX).ch0 bz).ch bY (fun i hm => by have y := o _ hm; have al := q _ hm; omega)).ch0 bA).chS bZ ad
     have eH := (cn.ch0 bA).ch bZ (fun g hg hm => by rcases bs with ea | ea; (rw [ea] at hg; have y := f _ hm; have al := hikr _ hm; have dp := o _ hg; have dq := q _ hg; omega); (have dt := ag _ hg; rw [ea] at hg; have ak := List.mem_singleton.1 hg; have y := f _ hm; have al := hikr _ hm; omega))
     have eI := (((((((((b7.ch0 aa).ch0 ab).ch ac (nS om)).ch aE (nS om)).ch0 aB).ch0 bX).ch0 bz).ch bY (fun hm => by have y := o _ hm; have al := q _ hm; omega)).ch0 bA).ch bZ (fun hm => by have y := f _ hm; have al := hikr _ hm; omega)
     have eJ := (((((((((cj.ch0 aa).ch0 ab).ch ac (oS om)).ch aE (oS om)).ch0 aB).ch0 bX).ch0 bz).ch bY (fun i hi => by have y := o _ hi; omega)).ch0 bA).ch bZ (fun i hi => by have y := f _ hi; omega)
     have eK := (((((((((bR.ch0 aa).ch0 ab).ch ac (oS om)).ch aE (oS om)).ch0 aB).ch0 bX).ch0 bz).ch bY (fun i hi => by have y := o _ hi; omega)).ch0 bA).ch bZ (fun i hi => by have y := f _ hi; omega)
     have eL := (((((((((bS.ch0 aa).ch0 ab).ch ac (oS om)).ch aE (oS om)).ch0 aB).ch0 bX).ch0 bz).ch bY (fun i hi => by have y := o _ hi; omega)).ch0 bA).ch bZ (fun i hi => by have y := f _ hi; omega)
     have eM := (((((((((a2.ch0 aa).ch0 ab).ch ac (nS om)).ch aE (nS om)).ch0 aB).ch0 bX).ch0 bz).ch bY (fun hm => by have y := o _ hm; have al := q _ hm; omega)).ch0 bA).ch bZ (fun hm => by have y := f _ hm; have al := hikr _ hm; omega)
     have eN := (((((((((bT.ch0 aa).ch0 ab).ch ac (oS om)).ch aE (oS om)).ch0 aB).ch0 bX).ch0 bz).ch bY (fun i hi => by have y := o _ hi; omega)).ch0 bA).ch bZ (fun i hi => by have y := f _ hi; omega)
     have eO := (((((((((bU.ch0 aa).ch0 ab).ch ac (oS om)).ch aE (oS om)).ch0 aB).ch0 bX).ch0 bz).ch bY (fun i hi => by have y := o _ hi; omega)).ch0 bA).ch bZ (fun i hi => by have y := f _ hi; omega)
     have eP := (((((((((bV.ch0 aa).ch0 ab).ch ac (oS om)).ch aE (oS om)).ch0 aB).ch0 bX).ch0 bz).ch bY (fun i hi => by have y := o _ hi; omega)).ch0 bA).ch bZ (fun i hi => by have y := f _ hi; omega)
     have eQ := ((((ey.ch0 bX).ch0 bz).ch bY (fun hm => by have y := o _ hm; have al := q _ hm; omega)).ch0 bA).ch bZ (fun hm => by exact z (by first | exact hm | exact ed ▸ hm))
     exact Zb (Exists.intro ((m + 1), (V2 ++ [(⟨M, ((n ++ [((m : Nat) : Int)])).length, O⟩ : Sv)]), (.slice bu (((zq (bx (nxS c d) (p, n) (bE (nxS c d) first k) m) V2).drop k ++ [(⟨⟨(⟨Yd c p.a ((m : Nat) : Int), Yd d p.b ((m : Nat) : Int)⟩ : St2).a, (⟨Yd c p.a ((m : Nat) : Int), Yd d p.b ((m : Nat) : Int)⟩ : St2).b⟩, (⟨M, ((n ++ [((m : Nat) : Int)])).length, O⟩ : Sv)⟩ : Qs)])).length bv)) ⟨⟨E, om, om, (by first | (rw [bx_y L]; exact bQ) | (rw [bx_n L]; simp only [List.length_append, bQ, List.length_singleton])), (by first | exact hvk | exact Zhv hvk), eI, eJ, eK, eL, eM, eN, eO, eP, eQ, dr, (Lo.down cr om), ds, (by rw [bx_n L, List.map_append]; exact Od.snoc d0 eH (Lo.down co om) (fun g hg => by have y := ag g hg; omega) om om), (fun hm => by rcases am with ea | ea; (rw [ea] at hm; exact z (by first | exact hm | exact ed ▸ hm)); (have b0 := Z _ hm; rw [ea] at hm; have ak := List.mem_singleton.1 hm; omega)), (fun u hu g hg hm => by rcases List.mem_append.1 hu with hu | hu; (rcases am with ea | ea; (rw [ea] at hm; exact ad _ hu _ hg hm); (have b0 := Z _ hm; rw [ea] at hm; have ak := List.mem_singleton.1 hm; have dl := d0.rng hu hg; omega)); (rw [List.mem_singleton.1 hu] at hg; replace hg : g ∈ bl (.slice M ((n ++ [((m : Nat) : Int)])).length O) := hg; rcases bs with ea | ea; (rw [ea] at hg; rcases am with ea | ea; (rw [ea] at hm; have y := f _ hm; have al := hikr _ hm; have dp := o _ hg; have dq := q _ hg; omega); (have b0 := Z _ hm; rw [ea] at hm; have ak := List.mem_singleton.1 hm; have dp := o _ hg; have dq := q _ hg; omega)); (have dt := ag _ hg; rw [ea] at hg; have ak := List.mem_singleton.1 hg; rcases am with ea | ea; (rw [ea] at hm; have y := f _ hm; have al := hikr _ hm; omega); (have b0 := Z _ hm; rw [ea] at hm; have ak := List.mem_singleton.1 hm; omega))))⟩, sC8 rfl rfl rfl rfl rfl rfl rfl rfl (Sub.nil _), (by first | omega | (dsimp only; omega))⟩)
    refine Ye rfl rfl rfl ?_
    refine Zr (cs := ics) (parts := [(0, .tmp 54)]) (0 : Int) [((m : Nat) : Int)] el30 sz3 zr3 Yl (by decide) rfl rfl rfl (by decide) (by decide) rfl fun eA eR cm dL ah => ?_
    have fF := ah.size
    have E := E.trans ah
    obtain ⟨dM, dN, rfl, dP, dm⟩ := cm.opn
    have ct : Ch (bl (.slice Akr ((zq (bx (nxS c d) (p, n) (bE (nxS c d) first k) m) V2).drop k).length Ckr)) cx eR := ((Ch.refl _ _).trans ah.of_nil)
    refine ⟨ct, ?_⟩
    refine dO 4 (Ye rfl rfl rfl ?_)
    have d1 := (((((d9.ch0 aa).ch0 ab).ch ac (oS om)).ch aE (oS om)).ch0 aB).ch0 ah
    have eS : _ := Zht d1 hvk (Zby t)
    refine Step.call (Zl (xs := [.tmp 52]) fk87 rfl) (Zas eS (by have ak := hwl k _ (Yv t); dsimp only at ak; omega)) fun ez eT a6 => ?_
    obtain ⟨a6, o, ae⟩ := a6
    have fG := ae.size
    have E := E.trans ae
    obtain ⟨dH, dI, rfl, dJ, q⟩ := a6.opn
    have cu : Ch (bl (.slice Akr ((zq (bx (nxS c d) (p, n) (bE (nxS c d) first k) m) V2).drop k).length Ckr)) cx eT := (ct.trans ae.of_nil)
    refine ⟨cu, ?_⟩
    refine dO 7 (Ye rfl rfl rfl ?_)
    have eU := cm.ch0 ae
    refine Yj (cs := ics) el30 sz3 by3 zr3 rfl (by decide) Xz a6 eU.ls rfl rfl (by have ak := hwl k _ (Yv t); dsimp only at ak; simp only [List.length_singleton]; omega) (by have ak := hwl k _ (Yv t); dsimp only at ak; simp only [List.length_singleton]; omega) o om fun eB eV cn co bs ai => ?_
    have fH := ai.size
    have E := E.step ai (fun i hi => .inl (by have y := o _ hi; omega))
    obtain ⟨M, O, rfl, dQ, ag⟩ := cn.opn
    have cv : Ch (bl (.slice Akr ((zq (bx (nxS c d) (p, n) (bE (nxS c d) first k) m) V2).drop k).length Ckr)) cx eV := (cu.step ai (fun i hm => by left; have y := o _ hm; have al := q _ hm; omega))
    refine ⟨cv, ?_⟩
    refine dV 8 rfl rfl rfl (fun _ => Yt (parts := [(0, .tmp 50), (1, .tmp 56)]) (cells := [(.int .i64 ((⟨Yd c p.a ((m : Nat) : Int), Yd d p.b ((m : Nat) : Int)⟩ : St2).a)), (.int .i64 ((⟨Yd c p.a ((m : Nat) : Int), Yd d p.b ((m : Nat) : Int)⟩ : St2).b)), (.slice M ((n ++ [((m : Nat) : Int)])).length O)]) zr106 pl106 rfl rfl) (dO 9 (Ye rfl rfl rfl ?_))
    refine Zr (cs := Qs.cs) (parts := [(0, .tmp 57)]) (⟨⟨0, 0⟩, ⟨none, 0, 0⟩⟩ : Qs) [(⟨⟨(⟨Yd c p.a ((m : Nat) : Int), Yd d p.b ((m : Nat) : Int)⟩ : St2).a, (⟨Yd c p.a ((m : Nat) : Int), Yd d p.b ((m : Nat) : Int)⟩ : St2).b⟩, (⟨M, ((n ++ [((m : Nat) : Int)])).length, O⟩ : Sv)⟩ : Qs)] el107 sz106 zr106 Qs.len (by decide) rfl rfl rfl (by decide) (by decide) rfl fun eC eW cp dR af => ?_
    have fI := af.size
    have E := E.trans af
    obtain ⟨dU, dW, rfl, dX, dn⟩ := cp.opn
    have cw : Ch (bl (.slice Akr ((zq (bx (nxS c d) (p, n) (bE (nxS c d) first k) m) V2).drop k).length Ckr)) cx eW := (cv.trans af.of_nil)
    refine ⟨cw, ?_⟩
    refine dO 10 (Ye rfl rfl rfl ?_)
    have eX := ((((((((bq.ch0 aa).ch0 ab).ch ac (dS f hikr om)).ch aE (dS f hikr om)).ch0 aB).ch0 ah).ch0 ae).ch ai (fun g hg hm => by have y := o _ hm; have al := q _ hm; have dp := f _ hg; have dq := hikr _ hg; omega)).ch0 af
    refine Yj (cs := Qs.cs) el107 sz106 by106 zr106 rfl (by decide) Qs.one eX cp.ls rfl rfl (by have ak := Zev (m := m) t om; have eD := hle (k + 1); have d7 := Zde bQ; simp only [List.length_singleton, List.length_drop]; omega) (by have ak := Zev (m := m) t om; have eD := hle (k + 1); have d7 := Zde bQ; simp only [List.length_singleton, List.length_drop]; omega) f om fun eE du cq cr am aj => ?_
    have fJ := aj.size
    have E := E.step aj (fun i hi => .inl (by have y := f _ hi; omega))
    obtain ⟨bu, bv, rfl, dY, Z⟩ := cq.opn
    have dv : Ch (bl (.slice Akr ((zq (bx (nxS c d) (p, n) (bE (nxS c d) first k) m) V2).drop k).length Ckr)) cx du := (cw.step aj (fun i hm => by exact .inr hm))
    refine ⟨dv, ?_⟩
    refine dV 11 rfl rfl rfl (fun _ => Ze rfl) ?_
    refine Yb (by kernel_rfl) ?_
    refine Yc (Zb (es _ _ (Zc (Za rfl rfl (Zd rfl) (Za rfl rfl (Yq om rfl rfl) (Za rfl rfl (Ze rfl) (Zf ?_)))))))
    have cD : Ol Qs.cs 106 3 du (.slice bu (((zq (bx (nxS c d) (p, n) (bE (nxS c d) first k) m) V2).drop k ++ [(⟨⟨(⟨Yd c p.a ((m : Nat) : Int), Yd d p.b ((m : Nat) : Int)⟩ : St2).a, (⟨Yd c p.a ((m : Nat) : Int), Yd d p.b ((m : Nat) : Int)⟩ : St2).b⟩, (⟨M, ((n ++ [((m : Nat) : Int)])).length, O⟩ : Sv)⟩ : Qs)])).length bv) ((zq (bx (nxS c d) (p, n) (bE (nxS c d) first k) (m + 1)) (V2 ++ [(⟨M, ((n ++ [((m : Nat) : Int)])).length, O⟩ : Sv)])).drop k) := by
     have hx := cq
     first | (rw [bx_y L]; exact hx) | (rw [bx_n L, Zhr bQ (Nat.le_of_lt (Zep t))]; exact hx)
    have eY := (((((b8.ch0 aB).ch0 ah).ch0 ae).ch ai (fun hm => by have y := o _ hm; have al := q _ hm; omega)).ch0 af).ch aj (fun hm => by have y := f _ hm; have al := hikr _ hm; omega)
    have cE : Mp kvS du an ((bx (nxS c d) (p, n) (bE (nxS c d) first k) (m + 1)).map (·.1)) := by
     have hx := eY
     first | (rw [bx_y L]; exact hx) | (rw [bx_n L, List.map_append]; exact hx)
    have d2 := (((d1.ch0 ae).ch ai (fun i hm => by have y := o _ hm; have al := q _ hm; omega)).ch0 af).chS aj ad
    have eZ := (cn.ch0 af).ch aj (fun g hg hm => by rcases bs with ea | ea; (rw [ea] at hg; have y := f _ hm; have al := hikr _ hm; have dp := o _ hg; have dq := q _ hg; omega); (have dt := ag _ hg; rw [ea] at hg; have ak := List.mem_singleton.1 hg; have y := f _ hm; have al := hikr _ hm; omega))
    have e0 := (((((((((b7.ch0 aa).ch0 ab).ch ac (nS om)).ch aE (nS om)).ch0 aB).ch0 ah).ch0 ae).ch ai (fun hm => by have y := o _ hm; have al := q _ hm; omega)).ch0 af).ch aj (fun hm => by have y := f _ hm; have al := hikr _ hm; omega)
    have e1 := (((((((((cj.ch0 aa).ch0 ab).ch ac (oS om)).ch aE (oS om)).ch0 aB).ch0 ah).ch0 ae).ch ai (fun i hi => by have y := o _ hi; omega)).ch0 af).ch aj (fun i hi => by have y := f _ hi; omega)
    have e2 := (((((((((bR.ch0 aa).ch0 ab).ch ac (oS om)).ch aE (oS om)).ch0 aB).ch0 ah).ch0 ae).ch ai (fun i hi => by have y := o _ hi; omega)).ch0 af).ch aj (fun i hi => by have y := f _ hi; omega)
    have e3 := (((((((((bS.ch0 aa).ch0 ab).ch ac (oS om)).ch aE (oS om)).ch0 aB).ch0 ah).ch0 ae).ch ai (fun i hi => by have y := o _ hi; omega)).ch0 af).ch aj (fun i hi => by have y := f _ hi; omega)
    have e4 := (((((((((a2.ch0 aa).ch0 ab).ch ac (nS om)).ch aE (nS om)).ch0 aB).ch0 ah).ch0 ae).ch ai (fun hm => by have y := o _ hm; have al := q _ hm; omega)).ch0 af).ch aj (fun hm => by have y := f _ hm; have al := hikr _ hm; omega)
    have e5 := (((((((((bT.ch0 aa).ch0 ab).ch ac (oS om)).ch aE (oS om)).ch0 aB).ch0 ah).ch0 ae).ch ai (fun i hi => by have y := o _ hi; omega)).ch0 af).ch aj (fun i hi => by have y := f _ hi; omega)
    have e6 := (((((((((bU.ch0 aa).ch0 ab).ch ac (oS om)).ch aE (oS om)).ch0 aB).ch0 ah).ch0 ae).ch ai (fun i hi => by have y := o _ hi; omega)).ch0 af).ch aj (fun i hi => by have y := f _ hi; omega)
    have e7 := (((((((((bV.ch0 aa).ch0 ab).ch ac (oS om)).ch aE (oS om)).ch0 aB).ch0 ah).ch0 ae).ch ai (fun i hi => by have y := o _ hi; omega)).ch0 af).ch aj (fun i hi => by have y := f _ hi; omega)
    have e8 := ((((ey.ch0 ah).ch0 ae).ch ai (fun hm => by have y := o _ hm; have al := q _ hm; omega)).ch0 af).ch aj (fun hm => by exact z (by first | exact hm | exact ed ▸ hm))
    exact Zb (Exists.intro ((m + 1), (V2 ++ [(⟨M, ((n ++ [((m : Nat) : Int)])).length, O⟩ : Sv)]), (.slice bu (((zq (bx (nxS c d) (p, n) (bE (nxS c d) first k) m) V2).drop k ++ [(⟨⟨(⟨Yd c p.a ((m : Nat) : Int), Yd d p.b ((m : Nat) : Int)⟩ : St2).a, (⟨Yd c p.a ((m : Nat) : Int), Yd d p.b ((m : Nat) : Int)⟩ : St2).b⟩, (⟨M, ((n ++ [((m : Nat) : Int)])).length, O⟩ : Sv)⟩ : Qs)])).length bv)) ⟨⟨E, om, om, (by first | (rw [bx_y L]; exact bQ) | (rw [bx_n L]; simp only [List.length_append, bQ, List.length_singleton])), (by first | exact hvk | exact Zhv hvk), e0, e1, e2, e3, e4, e5, e6, e7, e8, cD, (Lo.down cr om), cE, (by rw [bx_n L, List.map_append]; exact Od.snoc d2 eZ (Lo.down co om) (fun g hg => by have y := ag g hg; omega) om om), (fun hm => by rcases am with ea | ea; (rw [ea] at hm; exact z (by first | exact hm | exact ed ▸ hm)); (have b0 := Z _ hm; rw [ea] at hm; have ak := List.mem_singleton.1 hm; omega)), (fun u hu g hg hm => by rcases List.mem_append.1 hu with hu | hu; (rcases am with ea | ea; (rw [ea] at hm; exact ad _ hu _ hg hm); (have b0 := Z _ hm; rw [ea] at hm; have ak := List.mem_singleton.1 hm; have dl := d2.rng hu hg; omega)); (rw [List.mem_singleton.1 hu] at hg; replace hg : g ∈ bl (.slice M ((n ++ [((m : Nat) : Int)])).length O) := hg; rcases bs with ea | ea; (rw [ea] at hg; rcases am with ea | ea; (rw [ea] at hm; have y := f _ hm; have al := hikr _ hm; have dp := o _ hg; have dq := q _ hg; omega); (have b0 := Z _ hm; rw [ea] at hm; have ak := List.mem_singleton.1 hm; have dp := o _ hg; have dq := q _ hg; omega)); (have dt := ag _ hg; rw [ea] at hg; have ak := List.mem_singleton.1 hg; rcases am with ea | ea; (rw [ea] at hm; have y := f _ hm; have al := hikr _ hm; omega); (have b0 := Z _ hm; rw [ea] at hm; have ak := List.mem_singleton.1 hm; omega))))⟩, sC8 rfl rfl rfl rfl rfl rfl rfl rfl (Sub.nil _), (by first | omega | (dsimp only; omega))⟩)
   have ex := a5
   have a5 := Yo (Qg a5)
   have L := a5
   refine Zu ?_
   refine Yc (Zb (es _ _ (Zc (Za rfl rfl (Zd rfl) (Za rfl rfl (Yq om rfl rfl) (Za rfl rfl (Ze rfl) (Zf ?_)))))))
   have e9 := ((bq.ch0 aa).ch0 ab).ch ac (dS f hikr om)
   have cF : Ol Qs.cs 106 3 eu (.slice Akr ((zq (bx (nxS c d) (p, n) (bE (nxS c d) first k) m) V2).drop k).length Ckr) ((zq (bx (nxS c d) (p, n) (bE (nxS c d) first k) (m + 1)) V2).drop k) := by
    have hx := e9
    first | (rw [bx_y L]; exact hx) | (rw [bx_n L, Zhr bQ (Nat.le_of_lt (Zep t))]; exact hx)
   have cG : Mp kvS eu an ((bx (nxS c d) (p, n) (bE (nxS c d) first k) (m + 1)).map (·.1)) := by
    have hx := ew
    first | (rw [bx_y L]; exact hx) | (rw [bx_n L, List.map_append]; exact hx)
   have fa := ((d9.ch0 aa).ch0 ab).ch ac (oS om)
   have fb := ((b7.ch0 aa).ch0 ab).ch ac (nS om)
   have fc := ((cj.ch0 aa).ch0 ab).ch ac (oS om)
   have fd := ((bR.ch0 aa).ch0 ab).ch ac (oS om)
   have fe := ((bS.ch0 aa).ch0 ab).ch ac (oS om)
   have ff := ((a2.ch0 aa).ch0 ab).ch ac (nS om)
   have fg := ((bT.ch0 aa).ch0 ab).ch ac (oS om)
   have fh := ((bU.ch0 aa).ch0 ab).ch ac (oS om)
   have fi := ((bV.ch0 aa).ch0 ab).ch ac (oS om)
   have fj := ((a3.ch0 aa).ch0 ab).ch ac (nS om)
   exact Zb (Exists.intro ((m + 1), V2, (.slice Akr ((zq (bx (nxS c d) (p, n) (bE (nxS c d) first k) m) V2).drop k).length Ckr)) ⟨⟨E, om, om, (by first | (rw [bx_y L]; exact bQ) | (rw [bx_n L]; simp only [List.length_append, bQ, List.length_singleton])), (by first | exact hvk | exact Zhv hvk), fb, fc, fd, fe, ff, fg, fh, fi, fj, cF, (Lo.down f om), cG, (by rw [bx_y L]; exact fa.up (Nat.le_refl _) om), (fun hm => by exact z (by first | exact hm | exact ed ▸ hm)), (fun u hu g hg hm => by exact ad _ hu _ hg hm)⟩, sC8 rfl rfl rfl rfl rfl rfl rfl rfl (Sub.nil _), (by first | omega | (dsimp only; omega))⟩)
  have er := bW
  have bW := Yp bW
  have hC := Zde bQ
  have hD := List.length_drop (l := zq (bx (nxS c d) (p, n) (bE (nxS c d) first k) m) V2) (i := k)
  have hE := Zep (m := m) t
  refine Xk (Ya (Ya (Xd ?_)))
  refine Yc (Zb (fp _ _ (Zc (Za rfl rfl (Zd rfl) (Zk rfl rfl ?_)))))
  refine (Zov (ys := (((zq (bx (nxS c d) (p, n) (bE (nxS c d) first k) m) V2).drop k).drop 1)) 1 (((zq (bx (nxS c d) (p, n) (bE (nxS c d) first k) m) V2).drop k).length) bq Qs.len el107 sz106 rfl ⟨_, _, rfl, by omega⟩ rfl om om (Zox _ _) fun g4 d3 c2 fK => ?_)
  obtain ⟨d4, d5, rfl, g5, g6⟩ := d3.opn
  refine Za rfl rfl (Ze rfl) (Zf ?_)
  have cH : Ol Qs.cs 106 3 fB (.slice d4 ((((zq (bx (nxS c d) (p, n) (bE (nxS c d) first k) m) V2).drop k).drop 1)).length d5) ((zq (bE (nxS c d) first (k + 1)) V2).drop (k + 1)) := by
   have hx := d3
   rw [Zah t, show 9 = m by omega]; exact hx.eq (by rw [List.drop_drop])
  have cI : Mp kvS fB an ((bE (nxS c d) first (k + 1)).map (·.1)) := by
   have hx := ck
   rw [Zah t, show 9 = m by omega]; exact hx
  exact Zb (Exists.intro ((k + 1), V2, (.slice d4 ((((zq (bx (nxS c d) (p, n) (bE (nxS c d) first k) m) V2).drop k).drop 1)).length d5)) ⟨⟨E, om, (by have g7 := Zep (m := 9) t; rw [← Zah t] at g7; omega), (by rw [Zah t, show 9 = m by omega]; exact bQ), (Zdx hf t bp), cH, (Lo.down (fun g hg => f g (c2 ▸ hg)) om), cI, (by rw [Zah t, show 9 = m by omega]; exact d9.up (Nat.le_refl _) om), (fun u hu g hg hm => by rw [c2] at hm; exact ad _ hu _ hg hm)⟩, sC4 rfl rfl rfl rfl (Sub.nil _), (by first | omega | (dsimp only; omega))⟩)
 have ej := bP
 have bP := Yp bP
 refine Xk (Ya (Ya (Xd ?_)))
 refine Zb (H8 _ _ ?_)
 refine Zg fun g8 fk => ?_
 refine Zc (Za rfl rfl (Ze rfl) (Za rfl rfl (Ze rfl) (Zf (Zb (fk _ _ ?_)))))
 refine Zs ?_
 have dw : Ol ics 3 1 d8 (.slice none 0 0) ((difR s c r d first true).1) := by
  have hx := Ol.nil (cs := ics) (e := 3) (k := 1) d8
  first | (rw [← Zav (Zam t bp hf)]; exact hx) | (rw [← Zav (Zag (Zkv hV om) hf)]; simpa using hx)
 exact Zi [_, _] ⟨rfl, ⟨rfl, trivial⟩⟩ ⟨(.slice none 0 0), (congrArg (fun zq => (Value.tuple #[(.slice none 0 0), .bool zq])) (by first | rw [← Zav (Zam t bp hf)] | rw [← Zav (Zag (Zkv hV om) hf)])), dw, (Lo.nil _), E⟩

/-- impl.together -/
theorem Zig {w : World} (aS : Int) {LL_aA A : Nat} {i : Value} {aA : List Bool} (g : Ls bcs 1 w LL_aA A i aA) {LL_saN u : Nat} {c : Value} {saN : List Sv} (a : Ls Sv.cs 1 w LL_saN u c saN) {LR_aN BB_aN : Nat} {aN : List (List Int)} (d : Rd ics 1 w LR_aN BB_aN saN aN) (bS : Int) {LL_bA B : Nat} {j : Value} {bA : List Bool} (h : Ls bcs 1 w LL_bA B j bA) {LL_sbN x : Nat} {e : Value} {sbN : List Sv} (b : Ls Sv.cs 1 w LL_sbN x e sbN) {LR_bN BB_bN : Nat} {bN : List (List Int)} (f : Rd ics 1 w LR_bN BB_bN sbN bN) :
 Ctr Try.prog 46 #[(.agg #[(.int .i64 aS), i, c]), (.agg #[(.int .i64 bS), j, e])] w (fun v w' => ∃ F G, v = .func (.func 88) #[] #[.pointer (some ⟨F, 0, none⟩), .pointer (some ⟨G, 0, none⟩)] ∧ Blk w' F 27 [(.int .i64 aS), i, c] ∧ w.heap.size ≤ F ∧ Blk w' G 27 [(.int .i64 bS), j, e] ∧ w.heap.size ≤ G ∧ Ch [] w w') := by
 obtain ⟨q, r, y⟩ := g.val
 subst y
 have L := g.len
 have g := g.here (by decide)
 obtain ⟨k, l, o⟩ := a.val
 subst o
 have H := a.len
 have a := a.here (by decide)
 have d := d.here (by decide)
 have I := d.1
 obtain ⟨s, t, z⟩ := h.val
 subst z
 have M := h.len
 have h := h.here (by decide)
 obtain ⟨m, n, p⟩ := b.val
 subst p
 have J := b.len
 have b := b.here (by decide)
 have f := f.here (by decide)
 have K := f.1
 have E := Ch.refl [] w
 refine Yh (N := 6) (vs0 := [(.agg #[(.int .i64 aS), (.slice q aA.length r), (.slice k saN.length l)]), (.agg #[(.int .i64 bS), (.slice s bA.length t), (.slice m sbN.length n)])]) Try.func46 rfl rfl rfl ?_
 refine Zg fun K1 H1 => ?_
 refine Zc (Zk rfl rfl ?_)
 refine Xw rfl fun O W2 C C2 Q => ?_
 have R := C2.size
 have E := E.trans C2
 have S := C.lt
 replace C : Blk W2 O 27 [(.int .i64 aS), (.slice q aA.length r), (.slice k saN.length l)] := C
 refine Zk rfl rfl ?_
 refine Xw rfl fun P W3 D C3 T => ?_
 have U := C3.size
 have E := E.trans C3
 have V := D.lt
 replace D : Blk W3 P 27 [(.int .i64 bS), (.slice s bA.length t), (.slice m sbN.length n)] := D
 refine Za rfl rfl (Ze rfl) (Zf (Zb (H1 _ _ ?_)))
 refine Zg fun K4 H4 => ?_
 refine Zc (Za rfl rfl (Zeb (xs := []) (ys := [.tmp 2, .tmp 3]) rfl rfl) (Za rfl rfl (Ze rfl) (Zf (Zb (H4 _ _ ?_)))))
 refine Zs ?_
 have F5 := C.ch0 C3
 exact Zi [_] ⟨rfl, trivial⟩ ⟨_, _, rfl, F5, om, D, om, E⟩

/-- impl.MissingWord -/
theorem Zcj {w : World} (aS : Int) {LL_aA U : Nat} {M : Value} {aA : List Bool} (m : Ls bcs 1 w LL_aA U M aA) {LL_saN Q : Nat} {z : Value} {saN : List Sv} (b : Ls Sv.cs 1 w LL_saN Q z saN) {LR_aN BB_aN : Nat} {aN : List (List Int)} (g : Rd ics 1 w LR_aN BB_aN saN aN) (bS : Int) {LL_bA V : Nat} {O : Value} {bA : List Bool} (n : Ls bcs 1 w LL_bA V O bA) {LL_sbN R : Nat} {A : Value} {sbN : List Sv} (c : Ls Sv.cs 1 w LL_sbN R A sbN) {LR_bN BB_bN : Nat} {bN : List (List Int)} (h : Rd ics 1 w LR_bN BB_bN sbN bN) :
 Ctr Try.prog 16 #[(.agg #[(.int .i64 aS), M, z]), (.agg #[(.int .i64 bS), O, A])] w (fun v w' => ∃ (ag : Value), v = .tuple #[ag, .bool ((msR aS aA aN bS bA bN).2)] ∧ Ol ics 3 1 w' ag ((msR aS aA aN bS bA bN).1) ∧ Lo w.heap.size ag ∧ Ch [] w w') := by
 obtain ⟨B, C, S⟩ := m.val
 subst S
 have aD := m.len
 have m := m.here (by decide)
 obtain ⟨p, r, K⟩ := b.val
 subst K
 have ah := b.len
 have b := b.here (by decide)
 have g := g.here (by decide)
 have ai := g.1
 obtain ⟨D, F, T⟩ := n.val
 subst T
 have aE := n.len
 have n := n.here (by decide)
 obtain ⟨s, t, L⟩ := c.val
 subst L
 have aj := c.len
 have c := c.here (by decide)
 have h := h.here (by decide)
 have ak := h.1
 have E := Ch.refl [] w
 refine Yh (N := 26) (vs0 := [(.agg #[(.int .i64 aS), (.slice B aA.length C), (.slice p saN.length r)]), (.agg #[(.int .i64 bS), (.slice D bA.length F), (.slice s sbN.length t)])]) Try.func16 rfl rfl rfl ?_
 refine Zg fun K1 H1 => ?_
 refine Zc (Zk rfl rfl ?_)
 refine Xw rfl fun a2 W2 ae C2 bj => ?_
 have bk := C2.size
 have E := E.trans C2
 have bm := ae.lt
 replace ae : Blk W2 a2 27 [(.int .i64 aS), (.slice B aA.length C), (.slice p saN.length r)] := ae
 refine Zk rfl rfl ?_
 refine Xw rfl fun a3 W3 af C3 bn => ?_
 have bp := C3.size
 have E := E.trans C3
 have bq := af.lt
 replace af : Blk W3 a3 27 [(.int .i64 bS), (.slice D bA.length F), (.slice s sbN.length t)] := af
 refine Za rfl rfl (Ze rfl) (Za rfl rfl (Ze rfl) (Zf (Zb (H1 _ _ ?_))))
 refine Zg fun K4 H4 => ?_
 refine Zg fun K5 H5 => ?_
 refine Zc ?_
 have F6 := ae.ch0 C3
 refine Za rfl rfl (Zt F6.at_ agg27 sz27 rfl) (Zk rfl rfl ?_)
 have F7 := (m.ch0 C2).ch0 C3
 have F8 := (g.ch0 C2).ch0 C3
 have F9 := (b.ch0 C2).ch0 C3
 refine Step.call (Zl (xs := [.tmp 6]) fk43 rfl) (Xx _ F7 F9 F8 ) fun br aF a4 => ?_
 obtain ⟨rfl, H⟩ := a4
 have a5 := H.size
 have E := E.trans H
 refine Za rfl rfl (Xi rfl) (Za rfl rfl (Zd rfl) ?_)
 refine Ym (d := 9) rfl (fun f => ?_) (fun f => ?_)
 ·have al := f
  have f := bf_t (Qf f)
  refine Zj rfl rfl (Zj rfl rfl (Zj rfl rfl (Za rfl rfl (Zw rfl rfl) (Zf (Zb (H5 _ _ ?_))))))
  refine Xl rfl ?_
  refine Zg fun bs a6 => ?_
  refine Zc (Za rfl rfl (Ze rfl) (Za rfl rfl (Ze rfl) (Zf (Zb (a6 _ _ ?_)))))
  refine Zs (Zm ?_)
  have X : Ol ics 3 1 aF (.slice none 0 0) ((msR aS aA aN bS bA bN).1) := by
   have hx := Ol.nil (cs := ics) (e := 3) (k := 1) aF
   first | (rw [Zfn f a]; exact hx) | (rw [Zbn (fun q => f q.1)]; simpa using hx) | (rw [Zbn (fun q => a q.2)]; simpa using hx)
  exact Zi [_, _] ⟨rfl, ⟨rfl, trivial⟩⟩ ⟨(.slice none 0 0), (congrArg (fun zq => (Value.tuple #[(.slice none 0 0), .bool zq])) (by first | rw [Zfn f a] | rw [Zbn (fun q => f q.1)] | rw [Zbn (fun q => a q.2)])), X, (Lo.nil _), E⟩
 have al := f
 have f := bt_t (Qg f)
 have aG := af.ch0 H
 refine Za rfl rfl (Zt aG.at_ agg27 sz27 rfl) (Zk rfl rfl ?_)
 have aH := ((n.ch0 C2).ch0 C3).ch0 H
 have aI := ((h.ch0 C2).ch0 C3).ch0 H
 have aJ := ((c.ch0 C2).ch0 C3).ch0 H
 refine Step.call (Zl (xs := [.tmp 10]) fk43 rfl) (Xx _ aH aJ aI ) fun a7 aK am => ?_
 obtain ⟨rfl, I⟩ := am
 have a8 := I.size
 have E := E.trans I
 refine Za rfl rfl (Xi rfl) (Za rfl rfl (Zv rfl rfl) (Zf (Zb (H5 _ _ ?_))))
 refine Zx rfl (fun a => ?_) (fun a => ?_)
 ·have an := a
  have a := bf_t (Qf a)
  refine Zg fun bu a9 => ?_
  refine Zc (Za rfl rfl (Ze rfl) (Za rfl rfl (Ze rfl) (Zf (Zb (a9 _ _ ?_)))))
  refine Zs (Zm ?_)
  have Y : Ol ics 3 1 aK (.slice none 0 0) ((msR aS aA aN bS bA bN).1) := by
   have hx := Ol.nil (cs := ics) (e := 3) (k := 1) aK
   first | (rw [Zfn f a]; exact hx) | (rw [Zbn (fun q => f q.1)]; simpa using hx) | (rw [Zbn (fun q => a q.2)]; simpa using hx)
  exact Zi [_, _] ⟨rfl, ⟨rfl, trivial⟩⟩ ⟨(.slice none 0 0), (congrArg (fun zq => (Value.tuple #[(.slice none 0 0), .bool zq])) (by first | rw [Zfn f a] | rw [Zbn (fun q => f q.1)] | rw [Zbn (fun q => a q.2)])), Y, (Lo.nil _), E⟩
 have an := a
 have a := bt_t (Qg a)
 refine Zu ?_
 refine Zb (H4 _ _ ?_)
 refine Zg fun bv ba => ?_
 refine Yx [] 14 mixed rfl fun aL J => ?_
 have bb := J.size
 have E := E.trans J
 refine dV 0 rfl rfl rfl (fun _ => Zh fa27_0 rfl) ?_
 have ao := ((F6.ch0 H).ch0 I).ch0 J
 refine dT 1 rfl rfl rfl (Xj ao.at_ (fun i hi => absurd hi List.not_mem_nil) agg3 rfl rfl ?_)
 refine dV 2 rfl rfl rfl (fun _ => Zh fa27_0 rfl) ?_
 have ap := (aG.ch0 I).ch0 J
 refine dT 3 rfl rfl rfl (Xj ap.at_ (fun i hi => absurd hi List.not_mem_nil) agg3 rfl rfl ?_)
 refine dV 4 rfl rfl rfl (fun _ => Yt (parts := [(0, .tmp 15), (1, .tmp 17)]) (cells := [(.int .i64 aS), (.int .i64 bS)]) zr69 pl69 rfl rfl) ?_
 refine dT 5 rfl rfl rfl (Zn ao.at_ (fun i hi => absurd hi List.not_mem_nil) agg27 sz27 rfl ?_)
 refine dT 6 rfl rfl rfl (Zn ap.at_ (fun i hi => absurd hi List.not_mem_nil) agg27 sz27 rfl ?_)
 refine dV 8 rfl rfl rfl (fun _ => Zeb (xs := []) (ys := [.tmp 3, .tmp 2]) rfl rfl) (dO 7 (Ye rfl rfl rfl ?_))
 have aM := ((F7.ch0 H).ch0 I).ch0 J
 have aO := ((F8.ch0 H).ch0 I).ch0 J
 have aP := ((F9.ch0 H).ch0 I).ch0 J
 have aQ := (aH.ch0 I).ch0 J
 have aR := (aI.ch0 I).ch0 J
 have aT := (aJ.ch0 I).ch0 J
 refine Step.call (Zl (xs := [.tmp 19, .tmp 20]) fk46 rfl) (Zig _ aM aP aO _ aQ aT aR ) fun bc aq au => ?_
 obtain ⟨Z, aa, rfl, j, av, l, aw, G⟩ := au
 have be := G.size
 have E := E.trans G
 have ax := j.lt
 replace j : Blk aq Z 27 [(.int .i64 aS), (.slice B aA.length C), (.slice p saN.length r)] := j
 have ay := l.lt
 replace l : Blk aq aa 27 [(.int .i64 bS), (.slice D bA.length F), (.slice s sbN.length t)] := l
 have P : Ch [] aL aq := ((Ch.refl _ _).trans G)
 refine ⟨P, ?_⟩
 refine dO 9 (Ye rfl rfl rfl ?_)
 have aU := aM.ch0 G
 have aV := aO.ch0 G
 have aW := aP.ch0 G
 have aX := aQ.ch0 G
 have aY := aR.ch0 G
 have aZ := aT.ch0 G
 have bf := ap.ch0 G
 have bg := ao.ch0 G
 refine Step.call (Zl (xs := [.tmp 18, .tmp 21, .tmp 22]) fk45 rfl) (Zko ⟨aS, bS⟩ _ aU aW aV j _ aX aZ aY l _ aX aZ aY bf _ aU aW aV bg f a ⟨Zbk f, Zbk a⟩ rfl rfl) fun bh a0 az => ?_
 obtain ⟨a1, rfl, o, y, aB⟩ := az
 have bi := aB.size
 have E := E.trans aB
 obtain ⟨u, x, rfl, aC, ab⟩ := o.opn
 have ac : Ch [] aL a0 := (P.trans aB)
 refine ⟨ac, ?_⟩
 refine dV 10 rfl rfl rfl (fun _ => Xc rfl rfl) (dV 11 rfl rfl rfl (fun _ => Xc rfl rfl) (dV 12 rfl rfl rfl (fun _ => Ze rfl) (dV 13 rfl rfl rfl (fun _ => Ze rfl) ?_)))
 refine Yb (by kernel_rfl) ?_
 refine Zb (ba _ _ ?_)
 refine Zs ?_
 have ad : Ol ics 3 1 a0 (.slice u ((difR aA aN bA bN (⟨aS, bS⟩ : St2) true).1).length x) ((msR aS aA aN bS bA bN).1) := by
  have hx := o
  first | (rw [Zfn f a]; exact hx) | (rw [Zbn (fun q => f q.1)]; simpa using hx) | (rw [Zbn (fun q => a q.2)]; simpa using hx)
 exact Zi [_, _] ⟨rfl, ⟨rfl, trivial⟩⟩ ⟨(.slice u ((difR aA aN bA bN (⟨aS, bS⟩ : St2) true).1).length x), (congrArg (fun zq => (Value.tuple #[(.slice u ((difR aA aN bA bN (⟨aS, bS⟩ : St2) true).1).length x), .bool zq])) (by first | rw [Zfn f a] | rw [Zbn (fun q => f q.1)] | rw [Zbn (fun q => a q.2)])), ad, (Lo.down y om), E⟩

/-- impl.IncludesLanguage -/
theorem Zae {w : World} (aS : Int) {LL_aA I : Nat} {t : Value} {aA : List Bool} (f : Ls bcs 1 w LL_aA I t aA) {LL_saN B : Nat} {j : Value} {saN : List Sv} (a : Ls Sv.cs 1 w LL_saN B j saN) {LR_aN BB_aN : Nat} {aN : List (List Int)} (c : Rd ics 1 w LR_aN BB_aN saN aN) (bS : Int) {LL_bA J : Nat} {u : Value} {bA : List Bool} (g : Ls bcs 1 w LL_bA J u bA) {LL_sbN C : Nat} {k : Value} {sbN : List Sv} (b : Ls Sv.cs 1 w LL_sbN C k sbN) {LR_bN BB_bN : Nat} {bN : List (List Int)} (e : Rd ics 1 w LR_bN BB_bN sbN bN) :
 Ctr Try.prog 18 #[(.agg #[(.int .i64 aS), t, j]), (.agg #[(.int .i64 bS), u, k])] w (fun v w' => v = .bool (tt (IncP aS aA aN bS bA bN)) ∧ Ch [] w w') := by
 obtain ⟨x, y, D⟩ := f.val
 subst D
 have ac := f.len
 have f := f.here (by decide)
 obtain ⟨l, m, r⟩ := a.val
 subst r
 have O := a.len
 have a := a.here (by decide)
 have c := c.here (by decide)
 have P := c.1
 obtain ⟨z, A, F⟩ := g.val
 subst F
 have ad := g.len
 have g := g.here (by decide)
 obtain ⟨n, o, s⟩ := b.val
 subst s
 have Q := b.len
 have b := b.here (by decide)
 have e := e.here (by decide)
 have R := e.1
 have E := Ch.refl [] w
 refine Yh (N := 23) (vs0 := [(.agg #[(.int .i64 aS), (.slice x aA.length y), (.slice l saN.length m)]), (.agg #[(.int .i64 bS), (.slice z bA.length A), (.slice n sbN.length o)])]) Try.func18 rfl rfl rfl ?_
 refine Zg fun K1 H1 => ?_
 refine Zc (Zk rfl rfl ?_)
 refine Xw rfl fun ai W2 M C2 aC => ?_
 have aD := C2.size
 have E := E.trans C2
 have aE := M.lt
 replace M : Blk W2 ai 27 [(.int .i64 aS), (.slice x aA.length y), (.slice l saN.length m)] := M
 refine Zk rfl rfl ?_
 refine Xw rfl fun aj W3 K C3 aF => ?_
 have aG := C3.size
 have E := E.trans C3
 have aH := K.lt
 replace K : Blk W3 aj 27 [(.int .i64 bS), (.slice z bA.length A), (.slice n sbN.length o)] := K
 refine Za rfl rfl (Ze rfl) (Zf (Zb (H1 _ _ ?_)))
 refine Zg fun K4 H4 => ?_
 refine Zc ?_
 have F5 := M.ch0 C3
 refine Za rfl rfl (Zt F5.at_ agg27 sz27 rfl) (Za rfl rfl (Zt K.at_ agg27 sz27 rfl) (Zk rfl rfl ?_))
 have F6 := (f.ch0 C2).ch0 C3
 have F7 := (c.ch0 C2).ch0 C3
 have F8 := (a.ch0 C2).ch0 C3
 have F9 := (g.ch0 C2).ch0 C3
 have ae := (e.ch0 C2).ch0 C3
 have af := (b.ch0 C2).ch0 C3
 refine Step.call (Zl (xs := [.tmp 8, .tmp 9]) fk16 rfl) (Zcj _ F6 F8 F7 _ F9 af ae ) fun ak aI S => ?_
 obtain ⟨ag, rfl, p, G, q⟩ := S
 have al := q.size
 have E := E.trans q
 obtain ⟨T, U, rfl, V, L⟩ := p.opn
 refine Za rfl rfl (Zd rfl) (Za rfl rfl (Xc rfl rfl) (Za rfl rfl (Xc rfl rfl) (Za rfl rfl (Ze rfl) (Za rfl rfl (Ze rfl) (Zf (Zb (H4 _ _ ?_)))))))
 refine Zg fun aJ X => ?_
 refine Zc ?_
 have am := F5.ch0 q
 refine Za rfl rfl (Zt am.at_ agg27 sz27 rfl) (Zk rfl rfl ?_)
 have an := F6.ch0 q
 have ao := F7.ch0 q
 have ap := F8.ch0 q
 refine Step.call (Zl (xs := [.tmp 13]) fk43 rfl) (Xx _ an ap ao ) fun aq aK Y => ?_
 obtain ⟨rfl, H⟩ := Y
 have au := H.size
 have E := E.trans H
 refine Za rfl rfl (Zd rfl) ?_
 refine Ym (d := 15) rfl (fun h => ?_) (fun h => ?_)
 ·have Z := h
  have h := bt_t h
  have av := (K.ch0 q).ch0 H
  refine Za rfl rfl (Zt av.at_ agg27 sz27 rfl) (Zk rfl rfl ?_)
  have aw := (F9.ch0 q).ch0 H
  have ax := (ae.ch0 q).ch0 H
  have ay := (af.ch0 q).ch0 H
  refine Step.call (Zl (xs := [.tmp 16]) fk43 rfl) (Xx _ aw ay ax ) fun az aL aa => ?_
  obtain ⟨rfl, ah⟩ := aa
  have aB := ah.size
  have E := E.trans ah
  refine Za rfl rfl (Zw rfl rfl) (Za rfl rfl (Zd rfl) ?_)
  refine Ym (d := 19) rfl (fun i => ?_) (fun i => ?_)
  ·have ab := i
   have i := bt_t i
   refine Za rfl rfl (Zd rfl) (Za rfl rfl (Xi rfl) (Za rfl rfl (Zw rfl rfl) (Za rfl rfl (Ze rfl) (Zf (Zb (X _ _ ?_))))))
   refine Zs ?_
   exact Zi [_] ⟨rfl, trivial⟩ ⟨congrArg Value.bool (by first | exact Zho (by assumption) | exact Zhp (by assumption) | exact Zlu (by assumption) (by assumption)), E⟩
  have ab := i
  have i := bf_t i
  refine Zj rfl rfl (Zj rfl rfl (Za rfl rfl (Zv rfl rfl) (Za rfl rfl (Ze rfl) (Zf (Zb (X _ _ ?_))))))
  refine Zs ?_
  exact Zi [_] ⟨rfl, trivial⟩ ⟨congrArg Value.bool (by first | exact Zho (by assumption) | exact Zhp (by assumption) | exact Zlu (by assumption) (by assumption)), E⟩
 have Z := h
 have h := bf_t h
 refine Zj rfl rfl (Zj rfl rfl (Za rfl rfl (Zv rfl rfl) (Za rfl rfl (Zd rfl) (Zj rfl rfl (Zj rfl rfl (Za rfl rfl (Zv rfl rfl) (Za rfl rfl (Ze rfl) ?_)))))))
 refine Zf (Zb (X _ _ ?_))
 refine Zs ?_
 exact Zi [_] ⟨rfl, trivial⟩ ⟨congrArg Value.bool (by first | exact Zho (by assumption) | exact Zhp (by assumption) | exact Zlu (by assumption) (by assumption)), E⟩

/-- impl.AreEquivalent -/
theorem Xb {w : World} (aS : Int) {LL_aA F : Nat} {s : Value} {aA : List Bool} (f : Ls bcs 1 w LL_aA F s aA) {LL_saN A : Nat} {h : Value} {saN : List Sv} (a : Ls Sv.cs 1 w LL_saN A h saN) {LR_aN BB_aN : Nat} {aN : List (List Int)} (c : Rd ics 1 w LR_aN BB_aN saN aN) (bS : Int) {LL_bA G : Nat} {t : Value} {bA : List Bool} (g : Ls bcs 1 w LL_bA G t bA) {LL_sbN B : Nat} {i : Value} {sbN : List Sv} (b : Ls Sv.cs 1 w LL_sbN B i sbN) {LR_bN BB_bN : Nat} {bN : List (List Int)} (e : Rd ics 1 w LR_bN BB_bN sbN bN) :
 Ctr Try.prog 23 #[(.agg #[(.int .i64 aS), s, h]), (.agg #[(.int .i64 bS), t, i])] w (fun v w' => v = .bool (tt (IncP aS aA aN bS bA bN ∧ IncP bS bA bN aS aA aN)) ∧ Ch [] w w') := by
 obtain ⟨u, x, C⟩ := f.val
 subst C
 have Q := f.len
 have f := f.here (by decide)
 obtain ⟨j, k, p⟩ := a.val
 subst p
 have J := a.len
 have a := a.here (by decide)
 have c := c.here (by decide)
 have K := c.1
 obtain ⟨y, z, D⟩ := g.val
 subst D
 have R := g.len
 have g := g.here (by decide)
 obtain ⟨l, m, r⟩ := b.val
 subst r
 have L := b.len
 have b := b.here (by decide)
 have e := e.here (by decide)
 have M := e.1
 have E := Ch.refl [] w
 refine Yh (N := 13) (vs0 := [(.agg #[(.int .i64 aS), (.slice u aA.length x), (.slice j saN.length k)]), (.agg #[(.int .i64 bS), (.slice y bA.length z), (.slice l sbN.length m)])]) Try.func23 rfl rfl rfl ?_
 refine Zg fun K1 H1 => ?_
 refine Zc (Zk rfl rfl ?_)
 refine Xw rfl fun V W2 I C2 ak => ?_
 have al := C2.size
 have E := E.trans C2
 have am := I.lt
 replace I : Blk W2 V 27 [(.int .i64 aS), (.slice u aA.length x), (.slice j saN.length k)] := I
 refine Zk rfl rfl ?_
 refine Xw rfl fun X W3 H C3 an => ?_
 have ao := C3.size
 have E := E.trans C3
 have ap := H.lt
 replace H : Blk W3 X 27 [(.int .i64 bS), (.slice y bA.length z), (.slice l sbN.length m)] := H
 refine Za rfl rfl (Ze rfl) (Zf (Zb (H1 _ _ ?_)))
 refine Zg fun K4 H4 => ?_
 refine Zc ?_
 have F5 := I.ch0 C3
 refine Za rfl rfl (Zt F5.at_ agg27 sz27 rfl) (Za rfl rfl (Zt H.at_ agg27 sz27 rfl) (Zk rfl rfl ?_))
 have F6 := (f.ch0 C2).ch0 C3
 have F7 := (c.ch0 C2).ch0 C3
 have F8 := (a.ch0 C2).ch0 C3
 have F9 := (g.ch0 C2).ch0 C3
 have S := (e.ch0 C2).ch0 C3
 have T := (b.ch0 C2).ch0 C3
 refine Step.call (Zl (xs := [.tmp 5, .tmp 6]) fk18 rfl) (Zae _ F6 F8 F7 _ F9 T S ) fun aq au Y => ?_
 obtain ⟨rfl, o⟩ := Y
 have Z := o.size
 have E := E.trans o
 refine Za rfl rfl (Zd rfl) ?_
 refine Ym (d := 8) rfl (fun n => ?_) (fun n => ?_)
 ·have O := n
  have n := bt_t n
  have aa := H.ch0 o
  refine Za rfl rfl (Zt aa.at_ agg27 sz27 rfl) ?_
  have ab := F5.ch0 o
  refine Za rfl rfl (Zt ab.at_ agg27 sz27 rfl) (Zk rfl rfl ?_)
  have ac := F9.ch0 o
  have ad := S.ch0 o
  have ae := T.ch0 o
  have af := F6.ch0 o
  have ag := F7.ch0 o
  have ah := F8.ch0 o
  refine Step.call (Zl (xs := [.tmp 9, .tmp 10]) fk18 rfl) (Zae _ ac ae ad _ af ah ag ) fun ai av P => ?_
  obtain ⟨rfl, U⟩ := P
  have aj := U.size
  have E := E.trans U
  refine Za rfl rfl (Zw rfl rfl) (Za rfl rfl (Ze rfl) (Zf (Zb (H4 _ _ ?_))))
  refine Zs ?_
  exact Zi [_] ⟨rfl, trivial⟩ ⟨congrArg Value.bool (by first | exact Zo (fun q => n q.1) | exact Zns ⟨fun q => ⟨n, q⟩, fun q => q.2⟩), E⟩
 have O := n
 have n := bf_t n
 refine Zj rfl rfl (Zj rfl rfl (Zj rfl rfl (Za rfl rfl (Zv rfl rfl) (Za rfl rfl (Ze rfl) (Zf (Zb (H4 _ _ ?_)))))))
 refine Zs ?_
 exact Zi [_] ⟨rfl, trivial⟩ ⟨congrArg Value.bool (by first | exact Zo (fun q => n q.1) | exact Zns ⟨fun q => ⟨n, q⟩, fun q => q.2⟩), E⟩

/-- slices.Clone[[]bool,bool] -/
theorem Zcv {w : World} {LL_s j : Nat} {b : Value} {s : List Bool} (a : Ls bcs 1 w LL_s j b s) (hb : s.length ≤ 1048576) :
 Ctr Try.prog 98 #[b] w (fun v w' => Ol bcs 4 1 w' v (s) ∧ Lo w.heap.size v ∧ Ch [] w w') := by
 obtain ⟨l, m, c⟩ := a.val
 subst c
 have x := a.len
 have a := a.here (by decide)
 have E := Ch.refl [] w
 refine Yh (N := 8) (vs0 := [(.slice l s.length m)]) Try.func98 rfl rfl rfl ?_
 refine Zg fun K1 H1 => ?_
 refine Zc (Za rfl rfl (Ze rfl) (Zf (Zb (H1 _ _ ?_))))
 refine Zg fun K2 H2 => ?_
 refine Zg fun K3 H3 => ?_
 refine Zc (Za rfl rfl (Zd rfl) (Za rfl rfl (Zuj (by rw [el24]; rfl) rfl rfl) (Zf (Zb (H3 _ _ ?_)))))
 refine Zx rfl (fun d => ?_) (fun d => ?_)
 ·have y := d
  refine Zg fun K5 H5 => ?_
  refine Zc (Za rfl rfl (Ze rfl) (Zf (Zb (H5 _ _ ?_))))
  refine Zs (Zm ?_)
  have n : Ol bcs 4 1 w (.slice none 0 0) (s) := by
   have hx := Ol.nil (cs := bcs) (e := 4) (k := 1) w
   first | (have hn := Ls.none a d; subst hn; exact hx) | exact hx
  exact Zi [_] ⟨rfl, trivial⟩ ⟨n, Lo.nil _, E⟩
 have y := d
 refine Zu ?_
 refine Zb (H2 _ _ ?_)
 refine Zg fun K7 H7 => ?_
 refine Zc (Zk rfl rfl ?_)
 refine Xt (k := 1) bcs el24 sz4 fun H W8 r f C8 => ?_
 have I := C8.size
 have E := E.trans C8
 obtain ⟨z, A, rfl, B, t⟩ := r.opn
 refine Za rfl rfl (Zd rfl) (Zk rfl rfl ?_)
 have C := a.ch0 C8
 refine Yj (cs := bcs) el24 sz4 by4 zr4 rfl (by decide) Zaz r C rfl rfl bd bd f om fun D W9 h o F C9 => ?_
 have J := C9.size
 have E := E.step C9 (fun i hi => .inl (by have K := f _ hi; omega))
 replace h : Ol bcs 4 1 W9 D s := h
 obtain ⟨p, q, rfl, G, u⟩ := h.opn
 refine Za rfl rfl (Ze rfl) (Zf (Zb (H7 _ _ ?_)))
 refine Zs ?_
 have g : Ol bcs 4 1 W9 (.slice p (s).length q) (s) := by
  have hx := h
  first | (have hn := Ls.none a d; subst hn; exact hx) | exact hx
 exact Zi [_] ⟨rfl, trivial⟩ ⟨g, Lo.down o om, E⟩

/-- impl.Automaton).live -/
theorem Zdw {w : World} (aS : Int) {LL_aA aO : Nat} {an : Value} {aA : List Bool} (J : Ls bcs 1 w LL_aA aO an aA) {LL_saN ax : Nat} {ab : Value} {saN : List Sv} (B : Ls Sv.cs 1 w LL_saN ax ab saN) {LR_aN BB_aN : Nat} {aN : List (List Int)} (G : Rd ics 1 w LR_aN BB_aN saN aN) (hv : Yz aS aA aN) :
 Ctr Try.prog 60 #[(.agg #[(.int .i64 aS), an, ab])] w (fun v w' => Ol bcs 4 1 w' v (Yn aA aN) ∧ Lo w.heap.size v ∧ Ch [] w w') := by
 obtain ⟨o, p, ay⟩ := J.val
 subst ay
 have bm := J.len
 have J := J.here (by decide)
 obtain ⟨m, n, ag⟩ := B.val
 subst ag
 have aZ := B.len
 have B := B.here (by decide)
 have G := G.here (by decide)
 have a0 := G.1
 have E := Ch.refl [] w
 have ci := hv.2.2.1; have cj := hv.1
 refine Yh (N := 48) (vs0 := [(.agg #[(.int .i64 aS), (.slice o aA.length p), (.slice m saN.length n)])]) Try.func60 rfl rfl rfl ?_
 refine Zg fun K1 H1 => ?_
 refine Zc (Zk rfl rfl ?_)
 refine Xw rfl fun ah W2 aP C2 ck => ?_
 have cm := C2.size
 have E := E.trans C2
 have cn := aP.lt
 replace aP : Blk W2 ah 27 [(.int .i64 aS), (.slice o aA.length p), (.slice m saN.length n)] := aP
 refine Za rfl rfl (Ze rfl) (Zf (Zb (H1 _ _ ?_)))
 refine Zg fun K3 H3 => ?_
 refine Zc (Za rfl rfl (Zh fa27_1 rfl) (Za rfl rfl (Zp aP.at_ agg24 rfl rfl) (Zk rfl rfl ?_)))
 have F4 := J.ch0 C2
 refine Step.call (Zl (xs := [.tmp 10]) fk98 rfl) (Zcv F4 om) fun bH W5 ai => ?_
 obtain ⟨ai, u, C5⟩ := ai
 have co := C5.size
 have E := E.trans C5
 obtain ⟨b, c, rfl, bn, az⟩ := ai.opn
 refine Za rfl rfl (Ze rfl) (Zf (Zb (H3 _ _ ?_)))
 refine Zg fun K6 H6 => ?_
 refine Zg fun K7 H7 => ?_
 refine Zc (Za rfl rfl (Ze rfl) (Zf (Zb (H7 _ _ ?_))))
 refine Yf ?_
 have aQ : Ol bcs 4 1 W5 (.slice b (aA).length c) (aA) := by
  have hx := ai
  exact hx
 have F9 := aP.ch0 C5
 have bI := F4.ch0 C5
 refine Xo (σ := Bool × List Bool) (fun ⟨ao, Y⟩ => [(1, (.pointer (some ⟨ah, 0, none⟩))), (2, (.slice none 0 0)), (3, (.slice b (aA).length c)), (4, (.bool ao))]) (fun ⟨ao, Y⟩ wx => Ch [] w wx ∧ W5.heap.size ≤ wx.heap.size ∧ (Y.length = aA.length) ∧ (Zbh (Zbm aA) (Zbq aN) Y) ∧ (∀ q, Zbm aA q → Y[q]? = some true) ∧ (ao = false → PUp aN Y aN.length) ∧ Blk wx ah 27 [(.int .i64 aS), (.slice o aA.length p), (.slice m saN.length n)] ∧ Ls bcs 1 wx LL_aA w.heap.size (.slice o aA.length p) aA ∧ Ol bcs 4 1 wx (.slice b (aA).length c) Y) (fun ⟨ao, Y⟩ => 2 * Y.count false + (if ao = true then 1 else 0)) (true, aA) (sC4 rfl rfl rfl rfl (Sub.nil _)) ⟨E, (Nat.le_refl _), rfl, (fun s h => .base h), (fun s h => h), (fun h => by cases h), F9, bI, aQ⟩ ?_
 rintro ⟨ao, Y⟩ a1 ⟨E, bJ, bp, bq, br, a2, ac, aR, ap⟩
 have a3 := E
 have bs := a3.size
 have a4 := ac.lt
 refine Zg fun cp bK => ?_
 refine Zg fun cq bL => ?_
 refine Zc (Za rfl rfl (Zd rfl) (Zf (Zb (bL _ _ ?_))))
 refine Zx rfl (fun ad => ?_) (fun ad => ?_)
 ·have a5 := ad
  refine Zu ?_
  refine Zb (bK _ _ ?_)
  refine Yf ?_
  refine Zg fun cr bM => ?_
  refine Zc (Za rfl rfl (Ze rfl) (Zf (Zb (bM _ _ ?_))))
  refine Zg fun ct bN => ?_
  refine Zc (Za rfl rfl (Zh fa27_2 rfl) (Za rfl rfl (Zp ac.at_ agg25 rfl rfl) (Za rfl rfl (Xm (by rw [el25]; rfl) rfl) (Za rfl rfl (Zd rfl) (Zf (Zb (bN _ _ ?_)))))))
  refine Yf ?_
  have aB : Ol bcs 4 1 a1 (.slice b (aA).length c) (Y) := by
   have hx := ap
   exact hx
  refine Xo (σ := Nat × Bool × List Bool) (fun ⟨s, aq, Z⟩ => [(1, (.pointer (some ⟨ah, 0, none⟩))), (2, (.slice none 0 0)), (3, (.slice b (aA).length c)), (4, (.bool aq)), (12, (.bool ao)), (13, (.pointer (some (Addr.add ⟨ah, 0, none⟩ 2)))), (14, (.slice m saN.length n)), (15, (.int .i64 ((saN.length : Nat) : Int))), (16, (.int .i64 ((s : Nat) : Int)))]) (fun ⟨s, aq, Z⟩ wx => Ch [] w wx ∧ a1.heap.size ≤ wx.heap.size ∧ (s ≤ aN.length) ∧ (Z.length = aA.length) ∧ (Zbh (Zbm aA) (Zbq aN) Z) ∧ (∀ q, Zbm aA q → Z[q]? = some true) ∧ (aq = false → PUp aN Z s) ∧ (Z.count false + (if aq = true then 1 else 0) ≤ Y.count false) ∧ Blk wx ah 27 [(.int .i64 aS), (.slice o aA.length p), (.slice m saN.length n)] ∧ Ls bcs 1 wx LL_aA w.heap.size (.slice o aA.length p) aA ∧ Ol bcs 4 1 wx (.slice b (aA).length c) Z) (fun ⟨s, aq, Z⟩ => aN.length - s) (0, false, Y) (sC8 rfl rfl rfl rfl rfl rfl rfl rfl (sC1 rfl (Sub.nil _))) ⟨E, (Nat.le_refl _), om, bp, bq, br, (fun _ => Zsa), (by simp), ac, aR, aB⟩ ?_
  rintro ⟨s, aq, Z⟩ aT ⟨E, bO, hs, bu, bv, bw, bz, bA, ae, au, av⟩
  have aC := E
  have bB := aC.size
  have a6 := ae.lt
  refine Zg fun cu bP => ?_
  refine Zc (Za rfl rfl (Xv rfl rfl) (Zf (Zb (bP _ _ ?_))))
  refine Zg fun cv bQ => ?_
  refine Zx rfl (fun P => ?_) (fun P => ?_)
  ·have a7 := P
   have P := Yo P
   refine Zu ?_
   refine Zb (bQ _ _ ?_)
   refine Zg fun cw bR => ?_
   refine Yf ?_
   refine Zg fun cx bS => ?_
   refine Zc (Za rfl rfl (Zd rfl) (Zk rfl rfl ?_))
   have bC := B.ch0 aC
   refine (Yy bC Sv.len el25 sz30 rfl rfl rfl om fun aD a8 aU aj => ?_)
   have bD := G.ch0 aC
   obtain ⟨f, a, K⟩ := bD.get aU
   obtain ⟨Q, bT, R⟩ := a8
   obtain rfl := K.eqn
   have bU := K.len
   replace K : Ls ics 1 aT LR_aN w.heap.size (.slice Q f.length R) f := K
   replace aj : At aT LL_saN w.heap.size aD ([(.slice Q f.length R)]) := aj
   have bV := (Xy hv.2 a).1
   refine Za rfl rfl (Yk aj agg30 rfl rfl) (Za rfl rfl (Ze rfl) (Za rfl rfl (Ze rfl) (Zf (Zb (bS _ _ ?_)))))
   refine Zg fun cy bW => ?_
   refine Zc (Za rfl rfl (Zd rfl) (Za rfl rfl (Xm (by rw [el30]; rfl) rfl) (Za rfl rfl (Zd rfl) (Zf (Zb (bW _ _ ?_))))))
   refine Yf ?_
   have aE : Ol bcs 4 1 aT (.slice b (aA).length c) (Z) := by
    have hx := av
    exact hx
   refine Xo (σ := Nat × Bool × List Bool) (fun ⟨k, af, A⟩ => [(1, (.pointer (some ⟨ah, 0, none⟩))), (2, (.slice none 0 0)), (3, (.slice b (aA).length c)), (4, (.bool af)), (5, (.int .i64 ((s : Nat) : Int))), (6, (.slice Q f.length R)), (12, (.bool ao)), (13, (.pointer (some (Addr.add ⟨ah, 0, none⟩ 2)))), (14, (.slice m saN.length n)), (15, (.int .i64 ((saN.length : Nat) : Int))), (16, (.int .i64 ((s : Nat) : Int))), (17, (.bool (decide (((s : Nat) : Int) < ((saN.length : Nat) : Int))))), (18, (.int .i64 ((s : Nat) : Int))), (19, (.pointer (some aD))), (20, (.slice Q f.length R)), (21, (.slice Q f.length R)), (22, (.int .i64 ((f.length : Nat) : Int))), (23, (.int .i64 ((k : Nat) : Int)))]) (fun ⟨k, af, A⟩ wx => Ch [] w wx ∧ aT.heap.size ≤ wx.heap.size ∧ (k ≤ f.length) ∧ (A.length = aA.length) ∧ (Zbh (Zbm aA) (Zbq aN) A) ∧ (∀ q, Zbm aA q → A[q]? = some true) ∧ (af = false → PUp aN A s ∧ PRow aN A s k) ∧ (A.count false + (if af = true then 1 else 0) ≤ Y.count false) ∧ Blk wx ah 27 [(.int .i64 aS), (.slice o aA.length p), (.slice m saN.length n)] ∧ Ls bcs 1 wx LL_aA w.heap.size (.slice o aA.length p) aA ∧ Ls Sv.cs 1 wx LL_saN w.heap.size (.slice m saN.length n) saN ∧ Rd ics 1 wx LR_aN w.heap.size saN aN ∧ At wx LL_saN w.heap.size aD ([(.slice Q f.length R)]) ∧ Ls ics 1 wx LR_aN w.heap.size (.slice Q f.length R) f ∧ Ol bcs 4 1 wx (.slice b (aA).length c) A) (fun ⟨k, af, A⟩ => f.length - k) (0, aq, Z) (sC8 rfl rfl rfl rfl rfl rfl rfl rfl (sC8 rfl rfl rfl rfl rfl rfl rfl rfl (sC2 rfl rfl (Sub.nil _)))) ⟨E, (Nat.le_refl _), om, bu, bv, bw, (fun e => ⟨bz e, Zqt⟩), bA, ae, au, bC, bD, aj, K, aE⟩ ?_
   rintro ⟨k, af, A⟩ aX ⟨E, bX, cz, ak, aa, al, I, am, F, L, U, V, X, M, x⟩
   have a9 := E
   have bF := a9.size
   have ba := F.lt
   refine Zg fun cA bY => ?_
   refine Zc (Za rfl rfl (Xv rfl rfl) (Zf (Zb (bY _ _ ?_))))
   refine Zg fun cB bZ => ?_
   refine Zx rfl (fun S => ?_) (fun S => ?_)
   ·have bb := S
    have S := Yo S
    refine Zu ?_
    refine Zb (bZ _ _ ?_)
    refine Zg fun cC aY => ?_
    refine Yf ?_
    refine Zg fun cD b0 => ?_
    refine Zc (Zk rfl rfl ?_)
    refine (Yy M Yl el30 sz3 rfl rfl rfl om fun b1 H g bc => ?_)
    have cE := Zaq hv.2 a g
    refine Za rfl rfl (Yk bc agg3 rfl rfl) (Za rfl rfl (Ze rfl) (Zf (Zb (b0 _ _ ?_))))
    refine Zg fun cF be => ?_
    refine Zc (Za rfl rfl (Zd rfl) (Za rfl rfl (Zjj rfl rfl) (Za rfl rfl (Zd rfl) ?_)))
    refine Ym (d := 29) rfl (fun T => ?_) (fun T => ?_)
    ·have bf := T
     have T := Yo T
     refine Za rfl rfl (Zd rfl) (Za rfl rfl (Zd rfl) (Zk rfl rfl ?_))
     refine (Yy (j := H.toNat) x.ls Qa el24 sz4 rfl rfl om om fun b2 b3 y bg => ?_)
     refine Za rfl rfl (Yk bg agg4 rfl rfl) (Za rfl rfl (Zw rfl rfl) (Za rfl rfl (Zd rfl) ?_))
     refine Ym (d := 35) rfl (fun C => ?_) (fun C => ?_)
     ·have bh := C
      refine Za rfl rfl (Zd rfl) (Za rfl rfl (Zd rfl) (Zk rfl rfl ?_))
      refine (Yy x.ls Qa el24 sz4 rfl rfl rfl om fun b4 O z bi => ?_)
      refine Za rfl rfl (Yk bi agg4 rfl rfl) (Za rfl rfl (Xi rfl) (Za rfl rfl (Zw rfl rfl) (Zf (Zb (be _ _ ?_)))))
      refine Zx rfl (fun D => ?_) (fun D => ?_)
      ·have bj := D
       refine Zg fun cG b5 => ?_
       refine Zc (Za rfl rfl (Zd rfl) (Za rfl rfl (Zd rfl) (Zk rfl rfl ?_)))
       refine Zez (j := s) x el24 sz4 rfl rfl rfl om fun b6 b7 bG bk => ?_
       refine Zk rfl rfl ?_
       refine Zey (j := s) true x bk Qa sz4 rfl rfl rfl rfl om fun b8 aV aw => ?_
       have b9 := aw.size
       have E := E.step aw (fun i hi => .inl (by have aF := u _ hi; omega))
       refine Zf (Zb (b5 _ _ (Zc (Za rfl rfl (Ze rfl) (Zf (Yc (Zb (aY _ _ (Zc ?_)))))))))
       refine Za rfl rfl (Yq om rfl rfl) (Za rfl rfl (Zd rfl) (Zf ?_))
       have aG : Ol bcs 4 1 b8 (.slice b (aA).length c) ((A.set s true)) := by
        have hx := aV
        exact hx
       have ca := F.ch aw (fun hm => by have aF := u _ hm; have cH := az _ hm; omega)
       have cb := L.ch aw (fun i hi => by have aF := u _ hi; omega)
       have cc := U.ch aw (fun i hi => by have aF := u _ hi; omega)
       have cd := V.ch aw (fun i hi => by have aF := u _ hi; omega)
       have ce := X.ch aw (fun i hi => by have aF := u _ hi; omega)
       have cf := M.ch aw (fun i hi => by have aF := u _ hi; omega)
       exact Zb (Exists.intro ((k + 1), true, (A.set s true)) ⟨⟨E, om, om, (by first | exact ak | simpa using ak), (by first | exact aa | exact Zbz aa (.step (t := H.toNat) ⟨k, f, a, by rw [g, Int.toNat_of_nonneg om]⟩ (aa _ (by rw [y, C])))), (by first | exact al | exact fun q hq => Zda (al q hq)), (by first | exact (fun e => absurd e Bool.noConfusion) | exact (fun e => ⟨(I e).1, Zbl (I e).2 a g (fun t aH _ => by omega)⟩) | exact (fun e => ⟨(I e).1, Zbl (I e).2 a g (fun t aH q => by obtain rfl : t = H.toNat := om; first | (rw [y, C] at q; cases q; done) | (rw [z, show O = true from (by simpa using D)]; done))⟩)), (by first | exact am | (have hq := Zdr (l := A) (s := s) (by rw [z, show O = false from (by simpa using D)]); simp only [if_true]; split at am <;> omega)), ca, cb, cc, cd, ce, cf, aG⟩, sC8 rfl rfl rfl rfl rfl rfl rfl rfl (sC8 rfl rfl rfl rfl rfl rfl rfl rfl (sC2 rfl rfl (Sub.nil _))), (by first | omega | (dsimp only; omega))⟩)
      have bj := D
      refine Zu ?_
      refine Yc (Zb (aY _ _ (Zc (Za rfl rfl (Yq om rfl rfl) (Za rfl rfl (Zd rfl) (Zf ?_))))))
      have aI : Ol bcs 4 1 aX (.slice b (aA).length c) (A) := by
       have hx := x
       exact hx
      exact Zb (Exists.intro ((k + 1), af, A) ⟨⟨E, om, om, (by first | exact ak | simpa using ak), (by first | exact aa | exact Zbz aa (.step (t := H.toNat) ⟨k, f, a, by rw [g, Int.toNat_of_nonneg om]⟩ (aa _ (by rw [y, C])))), (by first | exact al | exact fun q hq => Zda (al q hq)), (by first | exact (fun e => absurd e Bool.noConfusion) | exact (fun e => ⟨(I e).1, Zbl (I e).2 a g (fun t aH _ => by omega)⟩) | exact (fun e => ⟨(I e).1, Zbl (I e).2 a g (fun t aH q => by obtain rfl : t = H.toNat := om; first | (rw [y, C] at q; cases q; done) | (rw [z, show O = true from (by simpa using D)]; done))⟩)), (by first | exact am | (have hq := Zdr (l := A) (s := s) (by rw [z, show O = false from (by simpa using D)]); simp only [if_true]; split at am <;> omega)), F, L, U, V, X, M, aI⟩, sC8 rfl rfl rfl rfl rfl rfl rfl rfl (sC8 rfl rfl rfl rfl rfl rfl rfl rfl (sC2 rfl rfl (Sub.nil _))), (by first | omega | (dsimp only; omega))⟩)
     have bh := C
     refine Zj rfl rfl (Zj rfl rfl (Zj rfl rfl (Zj rfl rfl (Zj rfl rfl (Za rfl rfl (Zv rfl rfl) (Zf (Zb (be _ _ ?_))))))))
     refine Xn rfl ?_
     refine Zu ?_
     refine Yc (Zb (aY _ _ (Zc (Za rfl rfl (Yq om rfl rfl) (Za rfl rfl (Zd rfl) (Zf ?_))))))
     have aJ : Ol bcs 4 1 aX (.slice b (aA).length c) (A) := by
      have hx := x
      exact hx
     exact Zb (Exists.intro ((k + 1), af, A) ⟨⟨E, om, om, (by first | exact ak | simpa using ak), (by first | exact aa | exact Zbz aa (.step (t := H.toNat) ⟨k, f, a, by rw [g, Int.toNat_of_nonneg om]⟩ (aa _ (by rw [y, C])))), (by first | exact al | exact fun q hq => Zda (al q hq)), (by first | exact (fun e => absurd e Bool.noConfusion) | exact (fun e => ⟨(I e).1, Zbl (I e).2 a g (fun t aH _ => by omega)⟩) | exact (fun e => ⟨(I e).1, Zbl (I e).2 a g (fun t aH q => by obtain rfl : t = H.toNat := om; first | (rw [y, C] at q; cases q; done) | (rw [z, show O = true from (by simpa using D)]; done))⟩)), (by first | exact am | (have hq := Zdr (l := A) (s := s) (by rw [z, show O = false from (by simpa using D)]); simp only [if_true]; split at am <;> omega)), F, L, U, V, X, M, aJ⟩, sC8 rfl rfl rfl rfl rfl rfl rfl rfl (sC8 rfl rfl rfl rfl rfl rfl rfl rfl (sC2 rfl rfl (Sub.nil _))), (by first | omega | (dsimp only; omega))⟩)
    have bf := T
    have T := Yp T
    refine Zj rfl rfl (Zj rfl rfl (Zj rfl rfl (Zj rfl rfl (Za rfl rfl (Zv rfl rfl) (Za rfl rfl (Zd rfl) (Zj rfl rfl (Zj rfl rfl ?_)))))))
    refine Zj rfl rfl (Zj rfl rfl (Zj rfl rfl (Za rfl rfl (Zv rfl rfl) (Zf (Zb (be _ _ ?_))))))
    refine Xn rfl ?_
    refine Zu ?_
    refine Yc (Zb (aY _ _ (Zc (Za rfl rfl (Yq om rfl rfl) (Za rfl rfl (Zd rfl) (Zf ?_))))))
    have aK : Ol bcs 4 1 aX (.slice b (aA).length c) (A) := by
     have hx := x
     exact hx
    exact Zb (Exists.intro ((k + 1), af, A) ⟨⟨E, om, om, (by first | exact ak | simpa using ak), (by first | exact aa | exact Zbz aa (.step (t := H.toNat) ⟨k, f, a, by rw [g, Int.toNat_of_nonneg om]⟩ (aa _ (by rw [y, C])))), (by first | exact al | exact fun q hq => Zda (al q hq)), (by first | exact (fun e => absurd e Bool.noConfusion) | exact (fun e => ⟨(I e).1, Zbl (I e).2 a g (fun t aH _ => by omega)⟩) | exact (fun e => ⟨(I e).1, Zbl (I e).2 a g (fun t aH q => by obtain rfl : t = H.toNat := om; first | (rw [y, C] at q; cases q; done) | (rw [z, show O = true from (by simpa using D)]; done))⟩)), (by first | exact am | (have hq := Zdr (l := A) (s := s) (by rw [z, show O = false from (by simpa using D)]); simp only [if_true]; split at am <;> omega)), F, L, U, V, X, M, aK⟩, sC8 rfl rfl rfl rfl rfl rfl rfl rfl (sC8 rfl rfl rfl rfl rfl rfl rfl rfl (sC2 rfl rfl (Sub.nil _))), (by first | omega | (dsimp only; omega))⟩)
   have bb := S
   have S := Yp S
   refine Xk (Ya (Ya (Xd ?_)))
   refine Yc (Zb (bR _ _ (Zc (Za rfl rfl (Yq om rfl rfl) (Za rfl rfl (Zd rfl) (Zf ?_))))))
   have aL : Ol bcs 4 1 aX (.slice b (aA).length c) (A) := by
    have hx := x
    exact hx
   exact Zb (Exists.intro ((s + 1), af, A) ⟨⟨E, om, om, ak, aa, al, (fun e => Zty (I e).1 (I e).2 (fun r hr => by have aF := (Xy hv.2 hr).1; omega)), am, F, L, aL⟩, sC8 rfl rfl rfl rfl rfl rfl rfl rfl (sC1 rfl (Sub.nil _)), (by first | omega | (dsimp only; omega))⟩)
  have a7 := P
  have P := Yp P
  refine Xk (Ya (Ya (Xd ?_)))
  refine Yc ?_
  have aM : Ol bcs 4 1 aT (.slice b (aA).length c) (Z) := by
   have hx := av
   exact hx
  exact Zb (Exists.intro (aq, Z) ⟨⟨E, om, bu, bv, bw, (fun e => (show s = aN.length by omega) ▸ bz e), ae, au, aM⟩, sC4 rfl rfl rfl rfl (Sub.nil _), (by have hf := bA; rw [ad] ; simp only [if_true]; split at hf <;> simp_all <;> omega)⟩)
 have a5 := ad
 refine Xk (Ya (Ya (Xd ?_)))
 refine Zb (H6 _ _ ?_)
 refine Zg fun cI cg => ?_
 refine Zc (Za rfl rfl (Zd rfl) (Za rfl rfl (Ze rfl) (Zf (Zb (cg _ _ ?_)))))
 refine Zs ?_
 have aW : Ol bcs 4 1 a1 (.slice b (aA).length c) (Yn aA aN) := by
  have hx := ap
  (rw [← Ziu bp bq br (a2 ad)]; exact hx)
 exact Zi [_] ⟨rfl, trivial⟩ ⟨aW, Lo.down u om, E⟩

/-- impl.IsEmptyAutomaton -/
theorem Xs {w : World} (aS : Int) {LL_aA t : Nat} {m : Value} {aA : List Bool} (c : Ls bcs 1 w LL_aA t m aA) {LL_saN r : Nat} {f : Value} {saN : List Sv} (a : Ls Sv.cs 1 w LL_saN r f saN) {LR_aN BB_aN : Nat} {aN : List (List Int)} (b : Rd ics 1 w LR_aN BB_aN saN aN) :
 Ctr Try.prog 21 #[(.agg #[(.int .i64 aS), m, f])] w (fun v w' => v = .bool (emR aS aA aN) ∧ Ch [] w w') := by
 obtain ⟨n, o, s⟩ := c.val
 subst s
 have D := c.len
 have c := c.here (by decide)
 obtain ⟨g, h, l⟩ := a.val
 subst l
 have y := a.len
 have a := a.here (by decide)
 have b := b.here (by decide)
 have z := b.1
 have E := Ch.refl [] w
 refine Yh (N := 14) (vs0 := [(.agg #[(.int .i64 aS), (.slice n aA.length o), (.slice g saN.length h)])]) Try.func21 rfl rfl rfl ?_
 refine Zg fun K1 H1 => ?_
 refine Zc (Zk rfl rfl ?_)
 refine Xw rfl fun G W2 u C2 U => ?_
 have V := C2.size
 have E := E.trans C2
 have X := u.lt
 replace u : Blk W2 G 27 [(.int .i64 aS), (.slice n aA.length o), (.slice g saN.length h)] := u
 refine Za rfl rfl (Ze rfl) (Zf (Zb (H1 _ _ ?_)))
 refine Zg fun K3 H3 => ?_
 refine Yx [] 12 mixed rfl fun W4 C4 => ?_
 have Y := C4.size
 have E := E.trans C4
 have F5 := u.ch0 C4
 refine dT 0 rfl rfl rfl (Zn F5.at_ (fun i hi => absurd hi List.not_mem_nil) agg27 sz27 rfl ?_)
 refine dO 1 (Ye rfl rfl rfl ?_)
 have F6 := (c.ch0 C2).ch0 C4
 have F7 := (b.ch0 C2).ch0 C4
 have F8 := (a.ch0 C2).ch0 C4
 refine Step.call (Zl (xs := [.tmp 3]) fk43 rfl) (Xx _ F6 F8 F7 ) fun Z W9 H => ?_
 obtain ⟨rfl, C9⟩ := H
 have aa := C9.size
 have E := E.trans C9
 have p : Ch [] W4 W9 := ((Ch.refl _ _).trans C9)
 refine ⟨p, ?_⟩
 refine dV 2 rfl rfl rfl (fun _ => Zd rfl) ?_
 refine Xe (d := 5) rfl (fun e => ?_) (fun e => ?_)
 ·have A := e
  have e := bt_t e
  refine dT 3 rfl rfl rfl (Zn F5.at_ (fun i hi => absurd hi List.not_mem_nil) agg27 sz27 rfl ?_)
  refine dV 5 rfl rfl rfl (fun _ => Zh fa27_0 rfl) ?_
  refine dT 6 rfl rfl rfl (Xj F5.at_ (fun i hi => absurd hi List.not_mem_nil) agg3 rfl rfl ?_)
  refine dO 4 (Ye rfl rfl rfl ?_)
  have I := F6.ch0 C9
  have J := F7.ch0 C9
  have K := F8.ch0 C9
  refine Step.call (Zl (xs := [.tmp 6]) fk60 rfl) (Zdw _ I K J e) fun ab L x => ?_
  obtain ⟨x, M, B⟩ := x
  have O := B.size
  have E := E.trans B
  obtain ⟨P, Q, rfl, R, F⟩ := x.opn
  have ac := Zdt aA aN
  have f7 := e.2.1
  have k : Ch [] W4 L := (p.trans B)
  refine ⟨k, ?_⟩
  refine dO 7 (Ye rfl rfl rfl ?_)
  refine (Yy (j := aS.toNat) x.ls Qa el24 sz4 rfl rfl om om fun S T q C => ?_)
  refine ⟨k, ?_⟩
  refine dO 8 (Ye rfl rfl rfl ?_)
  refine s_v (Yk C agg4 rfl rfl) ?_
  refine ⟨k, ?_⟩
  refine dV 9 rfl rfl rfl (fun _ => Xi rfl) (dV 10 rfl rfl rfl (fun _ => Zw rfl rfl) (dV 11 rfl rfl rfl (fun _ => Ze rfl) ?_))
  refine Yb (by kernel_rfl) ?_
  refine Zb (H3 _ _ ?_)
  refine Zs ?_
  exact Zi [_] ⟨rfl, trivial⟩ ⟨congrArg Value.bool (by first | exact em_y e q | exact em_n e), E⟩
 have A := e
 have e := bf_t e
 refine dK 3 rfl rfl rfl (dK 4 rfl rfl rfl (dK 5 rfl rfl rfl (dK 6 rfl rfl rfl (dK 7 rfl rfl rfl (dK 8 rfl rfl rfl (dK 9 rfl rfl rfl (dV 10 rfl rfl rfl (fun _ => Zv rfl rfl) ?_)))))))
 refine dV 11 rfl rfl rfl (fun _ => Ze rfl) ?_
 refine Yb (by kernel_rfl) ?_
 refine Zb (H3 _ _ ?_)
 refine Zs ?_
 exact Zi [_] ⟨rfl, trivial⟩ ⟨congrArg Value.bool (by first | exact em_y e q | exact em_n e), E⟩

/-- impl.leastWord[int] -/
theorem Zee {w : World} (first : Int) (K : Int) {aq au : Nat} {Y : Value} {A : List Bool} (r : Ls bcs 1 w aq au Y A) {aj ak : Nat} {R : Value} {G : List Sv} (n : Ls Sv.cs 1 w aj ak R G) {av aw : Nat} {a : List (List Int)} (B : Rd ics 1 w av aw G a) (Q : Int) {Z ax : Nat} {aa : Value} {b : List Bool} (s : Ls bcs 1 w Z ax aa b) {S al : Nat} {T : Value} {d : List Sv} (o : Ls Sv.cs 1 w S al T d) {ab ay : Nat} {aF : List (List Int)} (C : Rd ics 1 w ab ay d aF) (hva : Yz K A a) (hs : inA A first) (cV : A = b) :
 Ctr Try.prog 57 #[(.int .i64 first), (.func (.func 58) #[(.agg #[(.int .i64 K), Y, R])] #[]), (.func (.func 48) #[(.agg #[(.int .i64 Q), aa, T])] #[])] w (fun v w' => ∃ (b1 : Value), v = .tuple #[b1, .bool ((saF b a first).2)] ∧ Ol ics 3 1 w' b1 ((saF b a first).1) ∧ Lo w.heap.size b1 ∧ Ch [] w w') := by
 obtain ⟨H, I, am⟩ := r.val
 subst am
 have br := r.len
 have r := r.here (by decide)
 obtain ⟨D, F, ae⟩ := n.val
 subst ae
 have a9 := n.len
 have n := n.here (by decide)
 have B := B.here (by decide)
 have ba := B.1
 obtain ⟨t, y, an⟩ := s.val
 subst an
 have bs := s.len
 have s := s.here (by decide)
 obtain ⟨p, q, af⟩ := o.val
 subst af
 have bb := o.len
 have o := o.here (by decide)
 have C := C.here (by decide)
 have bc := C.1
 have E := Ch.refl [] w
 have hin := Zjv hva hs; have hle := lenI hva hs; have hwl := Zwe a first; have el9 := congrArg List.length cV
 refine Yh (N := 60) (vs0 := [(.int .i64 first), (.func (.func 58) #[(.agg #[(.int .i64 K), (.slice H A.length I), (.slice D G.length F)])] #[]), (.func (.func 48) #[(.agg #[(.int .i64 Q), (.slice t b.length y), (.slice p d.length q)])] #[])]) Try.func57 rfl rfl rfl ?_
 refine Zg fun K1 H1 => ?_
 refine Zc (Za rfl rfl (Ze rfl) (Za rfl rfl (Ze rfl) (Zf (Zb (H1 _ _ ?_)))))
 refine Zg fun K2 H2 => ?_
 refine Zc (Zk rfl rfl ?_)
 refine Zlb kvI fun U W3 aW C3 cW => ?_
 have el := C3.size
 have E := E.trans C3
 have cX := aW.lt
 replace aW : Mp kvI W3 U ([] : List Int) := aW
 refine Za rfl rfl (Zd rfl) (Zk rfl rfl ?_)
 refine Zni first un122 (Zkf un3) aW rfl rfl rfl (by simp) fun W4 bu C4 => ?_
 have em := C4.size
 have E := E.step C4 (lS om)
 replace bu : Mp kvI W4 U ([first]) := bu
 refine Za rfl rfl (Zd rfl) (Za rfl rfl (Ze rfl) (Zf (Zb (H2 _ _ ?_))))
 refine Zg fun K6 H6 => ?_
 refine Zg fun K7 H7 => ?_
 refine Zc (Za rfl rfl (Zd rfl) (Za rfl rfl (Yt (parts := [(0, .tmp 16)]) (cells := [(.int .i64 first), (.slice none 0 0)]) zr124 pl124 rfl rfl) (Zk rfl rfl ?_)))
 refine Zr (cs := Qi.cs) (parts := [(0, .tmp 17)]) (⟨0, ⟨none, 0, 0⟩⟩ : Qi) [(⟨first, (⟨none, 0, 0⟩ : Sv)⟩ : Qi)] el125 sz124 zr124 Qi.len (by decide) rfl rfl rfl (by decide) (by decide) rfl fun cY W8 bJ bK C8 => ?_
 have en := C8.size
 have E := E.trans C8
 obtain ⟨be, bf, rfl, cm, b2⟩ := bJ.opn
 refine Za rfl rfl (Ze rfl) (Zf (Zb (H7 _ _ ?_)))
 refine Yf ?_
 have bL : Ol Qi.cs 124 2 W8 (.slice be ([(⟨first, (⟨none, 0, 0⟩ : Sv)⟩ : Qi)]).length bf) ((zq (bE (nxI a) first 0) [(⟨none, 0, 0⟩ : Sv)]).drop 0) := by
  have hx := bJ
  exact hx
 have cZ := bu.ch0 C8
 have bv : Mp kvI W8 U ((bE (nxI a) first 0).map (·.1)) := by
  have hx := cZ
  exact hx
 refine Xo (σ := Nat × List Sv × Value) (fun ⟨k, V, kq⟩ => [(1, (.func (.func 58) #[(.agg #[(.int .i64 K), (.slice H A.length I), (.slice D G.length F)])] #[])), (2, (.func (.func 48) #[(.agg #[(.int .i64 Q), (.slice t b.length y), (.slice p d.length q)])] #[])), (8, (.map (some U))), (9, kq)]) (fun ⟨k, V, kq⟩ wx => Ch [] w wx ∧ W8.heap.size ≤ wx.heap.size ∧ (k ≤ (bE (nxI a) first k).length) ∧ (V.length = (bE (nxI a) first k).length) ∧ (∀ j x, j < k → (bE (nxI a) first j)[j]? = some x → (Qy b) x.1 = false) ∧ Ol Qi.cs 124 2 wx kq ((zq (bE (nxI a) first k) V).drop k) ∧ Lo W4.heap.size kq ∧ Mp kvI wx U ((bE (nxI a) first k).map (·.1)) ∧ Od ics 3 1 wx W8.heap.size wx.heap.size V ((bE (nxI a) first k).map (·.2)) ∧ (Sep kq V)) (fun ⟨k, V, kq⟩ => 170 - k) (0, [(⟨none, 0, 0⟩ : Sv)], (.slice be ([(⟨first, (⟨none, 0, 0⟩ : Sv)⟩ : Qi)]).length bf)) (sC4 rfl rfl rfl rfl (Sub.nil _)) ⟨E, (Nat.le_refl _), (Nat.zero_le _), rfl, (fun _ _ h => absurd h om), bL, bK, bv, Od.one_nil, Zqe⟩ ?_
 rintro ⟨k, V, kq⟩ b0 ⟨E, c0, eo, hV, hf, aJ, az, bg, od, aX⟩
 have aY := E
 have cn := aY.size
 have co := bg.lt
 obtain ⟨Akq, Ckq, rfl, lkq, hikq⟩ := aJ.opn
 have hlk := hle k
 have ep := Zde hV
 have er := List.length_drop (l := zq (bE (nxI a) first k) V) (i := k)
 refine Zg fun es c1 => ?_
 refine Zg fun et c2 => ?_
 refine Zc (Za rfl rfl (Zd rfl) (Za rfl rfl (Xm (by rw [el125]; rfl) rfl) (Za rfl rfl (Zec rfl rfl) (Zf (Zb (c2 _ _ ?_))))))
 refine Zx rfl (fun aA => ?_) (fun aA => ?_)
 ·have b3 := aA
  have aA := Yo aA
  refine Zu ?_
  refine Zb (c1 _ _ ?_)
  refine Zg fun eu cp => ?_
  refine Yf ?_
  refine Zg fun ew c3 => ?_
  refine Zc (Za rfl rfl (Zd rfl) (Zk rfl rfl ?_))
  refine (Yy (j := 0) aJ.ls Qi.len el125 sz124 rfl rfl rfl om fun c4 c5 bM b4 => ?_)
  obtain ⟨L, c, aK, aL, z, bN, rfl, aM⟩ := Ztm bM od
  have c6 := aM.len
  replace aM : Ls ics 1 b0 0 b0.heap.size (.slice aK c.length aL) c := aM
  have bw := hin k _ (Yv z)
  dsimp only at bw
  refine Za rfl rfl (Zt b4 agg124 sz124 rfl) (Zk rfl rfl ?_)
  refine Yr zr124 fun aN c7 aZ a0 c8 => ?_
  have c9 := a0.size
  have E := E.trans a0
  have da := aZ.lt
  replace aZ : Blk c7 aN 124 [(.int .i64 0), (.slice none 0 0)] := aZ
  refine Zk rfl rfl ?_
  refine Zy (off := 0) 2 aZ sz124 rfl (us := [(.int .i64 L), (.slice aK c.length aL)]) rfl rfl rfl rfl fun db ao a1 => ?_
  have dc := a1.size
  have E := E.step a1 (lS om)
  replace ao : Blk db aN 124 [(.int .i64 L), (.slice aK c.length aL)] := ao
  refine Zf (Zb (c3 _ _ ?_))
  refine Zg fun ex cq => ?_
  refine Zg fun ey dd => ?_
  refine Zc (Za rfl rfl (Zd rfl) (Za rfl rfl (Zh fa124_0 rfl) (Za rfl rfl (Zp ao.at_ agg3 rfl rfl) (Zk rfl rfl ?_))))
  have cr := ((s.ch0 aY).ch0 a0).ch a1 (oS om)
  have ct := ((C.ch0 aY).ch0 a0).ch a1 (oS om)
  have cu := ((o.ch0 aY).ch0 a0).ch a1 (oS om)
  refine Step.call (Zjn (xs := [.tmp 29]) (as' := [(.agg #[(.int .i64 Q), (.slice t b.length y), (.slice p d.length q)]), (.int .i64 L)]) fk48 rfl rfl rfl) (Zab _ cr cu ct _ (by unfold inA at bw; omega)) fun de b5 b6 => ?_
  obtain ⟨rfl, aO⟩ := b6
  have df := aO.size
  have E := E.trans aO
  refine Zf (Zb (dd _ _ ?_))
  refine Zx rfl (fun ap => ?_) (fun ap => ?_)
  ·have b7 := ap
   refine Zg fun ez dg => ?_
   refine Zc (Za rfl rfl (Zh fa124_1 rfl) ?_)
   have dh := ao.ch0 aO
   refine Za rfl rfl (Zp dh.at_ agg30 rfl rfl) (Zk rfl rfl ?_)
   have di := ((od.ch0 a0).ch a1 (oS om)).ch0 aO
   have dj : _ := Zht di bN z
   refine Step.call (Zl (xs := [.tmp 32]) fk87 rfl) (Zas dj (by have aB := hwl k _ (Yv z); dsimp only at aB; omega)) fun dk dl a2 => ?_
   obtain ⟨a2, bO, cv⟩ := a2
   have dm := cv.size
   have E := E.trans cv
   obtain ⟨aP, aQ, rfl, cw, b8⟩ := a2.opn
   refine Za rfl rfl (Ze rfl) (Za rfl rfl (Ze rfl) (Zf (Zb (dg _ _ ?_))))
   refine Zs (Zm (Yi (Zm (Zm (Yi (Zm ?_))))))
   clear H6 cp cq
   have bP : Ol ics 3 1 dl (.slice aP (c).length aQ) ((saF b a first).1) := by
    have hx := a2
    first | (rw [← Zji (Zam z ap hf)]; exact hx) | (rw [← Zji (Zag (Zkv hV om) hf)]; simpa using hx)
   exact Zi [_, _] ⟨rfl, ⟨rfl, trivial⟩⟩ ⟨(.slice aP (c).length aQ), (congrArg (fun zq => (Value.tuple #[(.slice aP (c).length aQ), .bool zq])) (by first | rw [← Zji (Zam z ap hf)] | rw [← Zji (Zag (Zkv hV om) hf)])), bP, (Lo.down bO om), E⟩
  have b7 := ap
  refine Zu ?_
  refine Zb (cq _ _ ?_)
  refine Zg fun eA dn => ?_
  refine Zc (Za rfl rfl (Ze rfl) (Zf (Zb (dn _ _ ?_))))
  refine Yf ?_
  have dp := ((aJ.ch0 a0).ch a1 (dS az hikq om)).ch0 aO
  have bz : Ol Qi.cs 124 2 b5 (.slice Akq ((zq (bE (nxI a) first k) V).drop k).length Ckq) ((zq (bx (nxI a) (L, c) (bE (nxI a) first k) 0) V).drop k) := by
   have hx := dp
   exact hx
  have dq := ((bg.ch0 a0).ch a1 (nS om)).ch0 aO
  have bA : Mp kvI b5 U ((bx (nxI a) (L, c) (bE (nxI a) first k) 0).map (·.1)) := by
   have hx := dq
   exact hx
  have dr := ((od.ch0 a0).ch a1 (oS om)).ch0 aO
  have ds := cr.ch0 aO
  have dt := cu.ch0 aO
  have du := ct.ch0 aO
  have dv := ao.ch0 aO
  refine Xo (σ := Nat × List Sv × Value) (fun ⟨m, V2, kr⟩ => [(1, (.func (.func 58) #[(.agg #[(.int .i64 K), (.slice H A.length I), (.slice D G.length F)])] #[])), (2, (.func (.func 48) #[(.agg #[(.int .i64 Q), (.slice t b.length y), (.slice p d.length q)])] #[])), (8, (.map (some U))), (9, kr), (10, (.pointer (some ⟨aN, 0, none⟩))), (11, (.int .i64 ((m : Nat) : Int))), (21, (.bool (decide (0 < ((((zq (bE (nxI a) first k) V).drop k).length : Nat) : Int))))), (30, (.bool (Qy b L)))]) (fun ⟨m, V2, kr⟩ wx => Ch [] w wx ∧ b5.heap.size ≤ wx.heap.size ∧ (m ≤ 9) ∧ (V2.length = (bx (nxI a) (L, c) (bE (nxI a) first k) m).length) ∧ (V2[k]? = some (⟨aK, c.length, aL⟩ : Sv)) ∧ Ls bcs 1 wx Z w.heap.size (.slice t b.length y) b ∧ Ls Sv.cs 1 wx S w.heap.size (.slice p d.length q) d ∧ Rd ics 1 wx ab w.heap.size d aF ∧ Blk wx aN 124 [(.int .i64 L), (.slice aK c.length aL)] ∧ Ol Qi.cs 124 2 wx kr ((zq (bx (nxI a) (L, c) (bE (nxI a) first k) m) V2).drop k) ∧ Lo W4.heap.size kr ∧ Mp kvI wx U ((bx (nxI a) (L, c) (bE (nxI a) first k) m).map (·.1)) ∧ Od ics 3 1 wx W8.heap.size wx.heap.size V2 ((bx (nxI a) (L, c) (bE (nxI a) first k) m).map (·.2)) ∧ (aN ∉ bl kr) ∧ (Sep kr V2)) (fun ⟨m, V2, kr⟩ => 9 - m) (0, V, (.slice Akq ((zq (bE (nxI a) first k) V).drop k).length Ckq)) (sC8 rfl rfl rfl rfl rfl rfl rfl rfl (Sub.nil _)) ⟨E, (Nat.le_refl _), om, hV, bN, ds, dt, du, dv, bz, az, bA, (dr.up (Nat.le_refl _) om), (fun hm => by have ai := az _ hm; have a3 := hikq _ hm; omega), aX⟩ ?_
  rintro ⟨m, V2, kr⟩ cx ⟨E, dw, hm, aT, hvk, bh, bi, bj, aG, aH, f, aR, b9, O, X⟩
  have a4 := E
  have cy := a4.size
  have ca := aG.lt
  have cz := aR.lt
  obtain ⟨Akr, Ckr, rfl, lkr, hikr⟩ := aH.opn
  refine Zg fun eB dx => ?_
  refine Zg fun eC dy => ?_
  refine Zc (Za rfl rfl (Zd rfl) (Za rfl rfl (Xv rfl rfl) (Zf (Zb (dy _ _ ?_)))))
  refine Zx rfl (fun aC => ?_) (fun aC => ?_)
  ·have cb := aC
   have aC := Yo aC
   refine Zu ?_
   refine Zb (dx _ _ ?_)
   refine Zg fun eD cA => ?_
   refine Yf ?_
   refine Zg fun eE dz => ?_
   refine Zc (Za rfl rfl (Zd rfl) (Za rfl rfl (Zh fa124_0 rfl) (Za rfl rfl (Zp aG.at_ agg3 rfl rfl) (Za rfl rfl (Zd rfl) (Zk rfl rfl ?_)))))
   have dA := r.ch0 a4
   have dB := B.ch0 a4
   have dC := n.ch0 a4
   refine Step.call (Zjn (xs := [.tmp 40, .tmp 41]) (as' := [(.agg #[(.int .i64 K), (.slice H A.length I), (.slice D G.length F)]), (.int .i64 L), (.int .i64 ((m : Nat) : Int))]) fk58 rfl rfl rfl) (Zak _ dA dC dB _ _ hva bw) fun dD cB cc => ?_
   obtain ⟨rfl, aD⟩ := cc
   have dE := aD.size
   have E := E.trans aD
   refine Za rfl rfl (Ze rfl) (Zf (Zb (dz _ _ ?_)))
   refine Zg fun eF dF => ?_
   refine Zc (Za rfl rfl (Zd rfl) (Za rfl rfl (Zd rfl) ?_))
   have cd := aR.ch0 aD
   refine Za rfl rfl (Zlf (Yd a L ((m : Nat) : Int)) un122 zr4 (Zkf un3) cd rfl rfl) (Za rfl rfl (Xi rfl) (Zf (Zb (dF _ _ ?_))))
   refine Zx rfl (fun ag => ?_) (fun ag => ?_)
   ·have ce := ag
    have ag := Yp (Qf ag)
    have M := ag
    refine Zg fun eG dG => ?_
    refine Zc (Za rfl rfl (Zd rfl) (Za rfl rfl (Zd rfl) (Zk rfl rfl ?_)))
    refine Znm (Yd a L ((m : Nat) : Int)) un122 (Zkf un3) cd rfl rfl rfl (M) fun dH aS bk => ?_
    have dI := bk.size
    have E := E.step bk (lS om)
    replace aS : Mp kvI dH U (((bx (nxI a) (L, c) (bE (nxI a) first k) m).map (·.1)) ++ [(Yd a L ((m : Nat) : Int))]) := aS
    refine Zf (Zb (dG _ _ (Zc (Za rfl rfl (Zd rfl) (Za rfl rfl (Zd rfl) (Za rfl rfl (Zh fa124_1 rfl) ?_))))))
    have cC := (aG.ch0 aD).ch bk (nS om)
    refine Za rfl rfl (Zp cC.at_ agg30 rfl rfl) (Zk rfl rfl ?_)
    have cD := (b9.ch0 aD).ch bk (oS om)
    have dJ : _ := Zht cD hvk (Zby z)
    refine Step.call (Zl (xs := [.tmp 52]) fk87 rfl) (Zas dJ (by have aB := hwl k _ (Yv z); dsimp only at aB; omega)) fun dL eH a5 => ?_
    obtain ⟨a5, J, a6⟩ := a5
    have dM := a6.size
    have E := E.trans a6
    obtain ⟨cE, cF, rfl, cG, P⟩ := a5.opn
    refine Za rfl rfl (Zd rfl) (Zk rfl rfl ?_)
    refine Zr (cs := ics) (parts := [(0, .tmp 54)]) (0 : Int) [((m : Nat) : Int)] el30 sz3 zr3 Yl (by decide) rfl rfl rfl (by decide) (by decide) rfl fun dN eI bQ cH aU => ?_
    have dP := aU.size
    have E := E.trans aU
    obtain ⟨cI, cJ, rfl, cK, cf⟩ := bQ.opn
    refine Zk rfl rfl ?_
    have dQ := a5.ch0 aU
    refine Yj (cs := ics) el30 sz3 by3 zr3 rfl (by decide) Xz dQ bQ.ls rfl rfl (by have aB := hwl k _ (Yv z); dsimp only at aB; simp only [List.length_singleton]; omega) (by have aB := hwl k _ (Yv z); dsimp only at aB; simp only [List.length_singleton]; omega) J om fun dR eJ bR bS bm a7 => ?_
    have dU := a7.size
    have E := E.step a7 (fun i hi => .inl (by have ai := J _ hi; omega))
    obtain ⟨ac, ad, rfl, cL, aE⟩ := bR.opn
    refine Za rfl rfl (Yt (parts := [(0, .tmp 50), (1, .tmp 56)]) (cells := [(.int .i64 (Yd a L ((m : Nat) : Int))), (.slice ac ((c ++ [((m : Nat) : Int)])).length ad)]) zr124 pl124 rfl rfl) (Zk rfl rfl ?_)
    refine Zr (cs := Qi.cs) (parts := [(0, .tmp 57)]) (⟨0, ⟨none, 0, 0⟩⟩ : Qi) [(⟨Yd a L ((m : Nat) : Int), (⟨ac, ((c ++ [((m : Nat) : Int)])).length, ad⟩ : Sv)⟩ : Qi)] el125 sz124 zr124 Qi.len (by decide) rfl rfl rfl (by decide) (by decide) rfl fun dW eK bT cM aV => ?_
    have dX := aV.size
    have E := E.trans aV
    obtain ⟨cN, cO, rfl, cP, cg⟩ := bT.opn
    refine Zk rfl rfl ?_
    have dY := (((((aH.ch0 aD).ch bk (dS f hikr om)).ch0 a6).ch0 aU).ch a7 (fun g hg hm => by have ai := J _ hm; have a3 := P _ hm; have ci := f _ hg; have cj := hikr _ hg; omega)).ch0 aV
    refine Yj (cs := Qi.cs) el125 sz124 by124 zr124 rfl (by decide) Qi.one dY bT.ls rfl rfl (by have aB := Zev (m := m) z om; have dZ := hle (k + 1); have d0 := Zde aT; simp only [List.length_singleton, List.length_drop]; omega) (by have aB := Zev (m := m) z om; have dZ := hle (k + 1); have d0 := Zde aT; simp only [List.length_singleton, List.length_drop]; omega) f om fun d1 cQ bU bV aI a8 => ?_
    have d2 := a8.size
    have E := E.step a8 (fun i hi => .inl (by have ai := f _ hi; omega))
    obtain ⟨bn, bp, rfl, cR, ah⟩ := bU.opn
    refine Za rfl rfl (Ze rfl) (Zf (Yc (Zb (cA _ _ (Zc (Za rfl rfl (Zd rfl) (Za rfl rfl (Yq om rfl rfl) (Za rfl rfl (Ze rfl) ?_))))))))
    refine Zf ?_
    have bB : Ol Qi.cs 124 2 cQ (.slice bn (((zq (bx (nxI a) (L, c) (bE (nxI a) first k) m) V2).drop k ++ [(⟨Yd a L ((m : Nat) : Int), (⟨ac, ((c ++ [((m : Nat) : Int)])).length, ad⟩ : Sv)⟩ : Qi)])).length bp) ((zq (bx (nxI a) (L, c) (bE (nxI a) first k) (m + 1)) (V2 ++ [(⟨ac, ((c ++ [((m : Nat) : Int)])).length, ad⟩ : Sv)])).drop k) := by
     have hx := bU
     first | (rw [bx_y M]; exact hx) | (rw [bx_n M, Zhr aT (Nat.le_of_lt (Zep z))]; exact hx)
    have d3 := ((((aS.ch0 a6).ch0 aU).ch a7 (fun hm => by have ai := J _ hm; have a3 := P _ hm; omega)).ch0 aV).ch a8 (fun hm => by have ai := f _ hm; have a3 := hikr _ hm; omega)
    have bC : Mp kvI cQ U ((bx (nxI a) (L, c) (bE (nxI a) first k) (m + 1)).map (·.1)) := by
     have hx := d3
     first | (rw [bx_y M]; exact hx) | (rw [bx_n M, List.map_append]; exact hx)
    have cS := ((((cD.ch0 a6).ch0 aU).ch a7 (fun i hm => by have ai := J _ hm; have a3 := P _ hm; omega)).ch0 aV).chS a8 X
    have d4 := (bR.ch0 aV).ch a8 (fun g hg hm => by rcases bm with ea | ea; (rw [ea] at hg; have ai := f _ hm; have a3 := hikr _ hm; have ci := J _ hg; have cj := P _ hg; omega); (have ck := aE _ hg; rw [ea] at hg; have aB := List.mem_singleton.1 hg; have ai := f _ hm; have a3 := hikr _ hm; omega))
    have d5 := ((((((bh.ch0 aD).ch bk (oS om)).ch0 a6).ch0 aU).ch a7 (fun i hi => by have ai := J _ hi; omega)).ch0 aV).ch a8 (fun i hi => by have ai := f _ hi; omega)
    have d6 := ((((((bi.ch0 aD).ch bk (oS om)).ch0 a6).ch0 aU).ch a7 (fun i hi => by have ai := J _ hi; omega)).ch0 aV).ch a8 (fun i hi => by have ai := f _ hi; omega)
    have d7 := ((((((bj.ch0 aD).ch bk (oS om)).ch0 a6).ch0 aU).ch a7 (fun i hi => by have ai := J _ hi; omega)).ch0 aV).ch a8 (fun i hi => by have ai := f _ hi; omega)
    have d8 := ((((cC.ch0 a6).ch0 aU).ch a7 (fun hm => by have ai := J _ hm; have a3 := P _ hm; omega)).ch0 aV).ch a8 (fun hm => by exact O (by first | exact hm | exact cT ▸ hm))
    exact Zb (Exists.intro ((m + 1), (V2 ++ [(⟨ac, ((c ++ [((m : Nat) : Int)])).length, ad⟩ : Sv)]), (.slice bn (((zq (bx (nxI a) (L, c) (bE (nxI a) first k) m) V2).drop k ++ [(⟨Yd a L ((m : Nat) : Int), (⟨ac, ((c ++ [((m : Nat) : Int)])).length, ad⟩ : Sv)⟩ : Qi)])).length bp)) ⟨⟨E, om, om, (by first | (rw [bx_y M]; exact aT) | (rw [bx_n M]; simp only [List.length_append, aT, List.length_singleton])), (by first | exact hvk | exact Zhv hvk), d5, d6, d7, d8, bB, (Lo.down bV om), bC, (by rw [bx_n M, List.map_append]; exact Od.snoc cS d4 (Lo.down bS om) (fun g hg => by have ai := aE g hg; omega) om om), (fun hm => by rcases aI with ea | ea; (rw [ea] at hm; exact O (by first | exact hm | exact cT ▸ hm)); (have bD := ah _ hm; rw [ea] at hm; have aB := List.mem_singleton.1 hm; omega)), (fun u hu g hg hm => by rcases List.mem_append.1 hu with hu | hu; (rcases aI with ea | ea; (rw [ea] at hm; exact X _ hu _ hg hm); (have bD := ah _ hm; rw [ea] at hm; have aB := List.mem_singleton.1 hm; have eL := cS.rng hu hg; omega)); (rw [List.mem_singleton.1 hu] at hg; replace hg : g ∈ bl (.slice ac ((c ++ [((m : Nat) : Int)])).length ad) := hg; rcases bm with ea | ea; (rw [ea] at hg; rcases aI with ea | ea; (rw [ea] at hm; have ai := f _ hm; have a3 := hikr _ hm; have ci := J _ hg; have cj := P _ hg; omega); (have bD := ah _ hm; rw [ea] at hm; have aB := List.mem_singleton.1 hm; have ci := J _ hg; have cj := P _ hg; omega)); (have ck := aE _ hg; rw [ea] at hg; have aB := List.mem_singleton.1 hg; rcases aI with ea | ea; (rw [ea] at hm; have ai := f _ hm; have a3 := hikr _ hm; omega); (have bD := ah _ hm; rw [ea] at hm; have aB := List.mem_singleton.1 hm; omega))))⟩, sC8 rfl rfl rfl rfl rfl rfl rfl rfl (Sub.nil _), (by first | omega | (dsimp only; omega))⟩)
   have ce := ag
   have ag := Yo (Qg ag)
   have M := ag
   refine Zu ?_
   refine Yc (Zb (cA _ _ (Zc (Za rfl rfl (Zd rfl) (Za rfl rfl (Yq om rfl rfl) (Za rfl rfl (Ze rfl) (Zf ?_)))))))
   have d9 := aH.ch0 aD
   have bF : Ol Qi.cs 124 2 cB (.slice Akr ((zq (bx (nxI a) (L, c) (bE (nxI a) first k) m) V2).drop k).length Ckr) ((zq (bx (nxI a) (L, c) (bE (nxI a) first k) (m + 1)) V2).drop k) := by
    have hx := d9
    first | (rw [bx_y M]; exact hx) | (rw [bx_n M, Zhr aT (Nat.le_of_lt (Zep z))]; exact hx)
   have bG : Mp kvI cB U ((bx (nxI a) (L, c) (bE (nxI a) first k) (m + 1)).map (·.1)) := by
    have hx := cd
    first | (rw [bx_y M]; exact hx) | (rw [bx_n M, List.map_append]; exact hx)
   have eb := b9.ch0 aD
   have ec := bh.ch0 aD
   have ed := bi.ch0 aD
   have ee := bj.ch0 aD
   have ef := aG.ch0 aD
   exact Zb (Exists.intro ((m + 1), V2, (.slice Akr ((zq (bx (nxI a) (L, c) (bE (nxI a) first k) m) V2).drop k).length Ckr)) ⟨⟨E, om, om, (by first | (rw [bx_y M]; exact aT) | (rw [bx_n M]; simp only [List.length_append, aT, List.length_singleton])), (by first | exact hvk | exact Zhv hvk), ec, ed, ee, ef, bF, (Lo.down f om), bG, (by rw [bx_y M]; exact eb.up (Nat.le_refl _) om), (fun hm => by exact O (by first | exact hm | exact cT ▸ hm)), (fun u hu g hg hm => by exact X _ hu _ hg hm)⟩, sC8 rfl rfl rfl rfl rfl rfl rfl rfl (Sub.nil _), (by first | omega | (dsimp only; omega))⟩)
  have cb := aC
  have aC := Yp aC
  have eM := Zde aT
  have eN := List.length_drop (l := zq (bx (nxI a) (L, c) (bE (nxI a) first k) m) V2) (i := k)
  have eO := Zep (m := m) z
  refine Xk (Ya (Ya (Xd ?_)))
  refine Yc (Zb (cp _ _ (Zc (Za rfl rfl (Zd rfl) (Zk rfl rfl ?_)))))
  refine (Zov (ys := (((zq (bx (nxI a) (L, c) (bE (nxI a) first k) m) V2).drop k).drop 1)) 1 (((zq (bx (nxI a) (L, c) (bE (nxI a) first k) m) V2).drop k).length) aH Qi.len el125 sz124 rfl ⟨_, _, rfl, by omega⟩ rfl om om (Zox _ _) fun eg bW bq cU => ?_)
  obtain ⟨bX, bY, rfl, eh, ei⟩ := bW.opn
  refine Za rfl rfl (Ze rfl) (Zf ?_)
  have bH : Ol Qi.cs 124 2 cx (.slice bX ((((zq (bx (nxI a) (L, c) (bE (nxI a) first k) m) V2).drop k).drop 1)).length bY) ((zq (bE (nxI a) first (k + 1)) V2).drop (k + 1)) := by
   have hx := bW
   rw [Zah z, show 9 = m by omega]; exact hx.eq (by rw [List.drop_drop])
  have bI : Mp kvI cx U ((bE (nxI a) first (k + 1)).map (·.1)) := by
   have hx := aR
   rw [Zah z, show 9 = m by omega]; exact hx
  exact Zb (Exists.intro ((k + 1), V2, (.slice bX ((((zq (bx (nxI a) (L, c) (bE (nxI a) first k) m) V2).drop k).drop 1)).length bY)) ⟨⟨E, om, (by have ej := Zep (m := 9) z; rw [← Zah z] at ej; omega), (by rw [Zah z, show 9 = m by omega]; exact aT), (Zdx hf z ap), bH, (Lo.down (fun g hg => f g (bq ▸ hg)) om), bI, (by rw [Zah z, show 9 = m by omega]; exact b9.up (Nat.le_refl _) om), (fun u hu g hg hm => by rw [bq] at hm; exact X _ hu _ hg hm)⟩, sC4 rfl rfl rfl rfl (Sub.nil _), (by first | omega | (dsimp only; omega))⟩)
 have b3 := aA
 have aA := Yp aA
 refine Xk (Ya (Ya (Xd ?_)))
 refine Zb (H6 _ _ ?_)
 refine Zg fun eP ek => ?_
 refine Zc (Za rfl rfl (Ze rfl) (Za rfl rfl (Ze rfl) (Zf (Zb (ek _ _ ?_)))))
 refine Zs ?_
 have bZ : Ol ics 3 1 b0 (.slice none 0 0) ((saF b a first).1) := by
  have hx := Ol.nil (cs := ics) (e := 3) (k := 1) b0
  first | (rw [← Zji (Zam z ap hf)]; exact hx) | (rw [← Zji (Zag (Zkv hV om) hf)]; simpa using hx)
 exact Zi [_, _] ⟨rfl, ⟨rfl, trivial⟩⟩ ⟨(.slice none 0 0), (congrArg (fun zq => (Value.tuple #[(.slice none 0 0), .bool zq])) (by first | rw [← Zji (Zam z ap hf)] | rw [← Zji (Zag (Zkv hV om) hf)])), bZ, (Lo.nil _), E⟩

/-- impl.ShortestAccepted -/
theorem Qk {w : World} (aS : Int) {LL_aA t : Nat} {o : Value} {aA : List Bool} (c : Ls bcs 1 w LL_aA t o aA) {LL_saN r : Nat} {j : Value} {saN : List Sv} (a : Ls Sv.cs 1 w LL_saN r j saN) {LR_aN BB_aN : Nat} {aN : List (List Int)} (b : Rd ics 1 w LR_aN BB_aN saN aN) :
 Ctr Try.prog 19 #[(.agg #[(.int .i64 aS), o, j])] w (fun v w' => ∃ (A : Value), v = .tuple #[A, .bool ((saR aS aA aN).2)] ∧ Ol ics 3 1 w' A ((saR aS aA aN).1) ∧ Lo w.heap.size A ∧ Ch [] w w') := by
 obtain ⟨p, q, s⟩ := c.val
 subst s
 have H := c.len
 have c := c.here (by decide)
 obtain ⟨l, m, n⟩ := a.val
 subst n
 have B := a.len
 have a := a.here (by decide)
 have b := b.here (by decide)
 have C := b.1
 have E := Ch.refl [] w
 refine Yh (N := 16) (vs0 := [(.agg #[(.int .i64 aS), (.slice p aA.length q), (.slice l saN.length m)])]) Try.func19 rfl rfl rfl ?_
 refine Zg fun K1 H1 => ?_
 refine Zc (Zk rfl rfl ?_)
 refine Xw rfl fun O W2 u C2 X => ?_
 have Y := C2.size
 have E := E.trans C2
 have Z := u.lt
 replace u : Blk W2 O 27 [(.int .i64 aS), (.slice p aA.length q), (.slice l saN.length m)] := u
 refine Za rfl rfl (Ze rfl) (Za rfl rfl (Ze rfl) (Zf (Zb (H1 _ _ ?_))))
 refine Zg fun K3 H3 => ?_
 refine Zg fun K4 H4 => ?_
 refine Zc (Za rfl rfl (Zt u.at_ agg27 sz27 rfl) (Zk rfl rfl ?_))
 have F5 := c.ch0 C2
 have F6 := b.ch0 C2
 have F7 := a.ch0 C2
 refine Step.call (Zl (xs := [.tmp 4]) fk43 rfl) (Xx _ F5 F7 F6 ) fun aa W8 P => ?_
 obtain ⟨rfl, C8⟩ := P
 have ab := C8.size
 have E := E.trans C8
 refine Za rfl rfl (Xi rfl) (Zf (Zb (H4 _ _ ?_)))
 refine Zx rfl (fun d => ?_) (fun d => ?_)
 ·have Q := d
  have d := bf_t (Qf d)
  refine Zg fun ac R => ?_
  refine Zc (Za rfl rfl (Ze rfl) (Za rfl rfl (Ze rfl) (Zf (Zb (R _ _ ?_)))))
  refine Zs (Zm ?_)
  have x : Ol ics 3 1 W8 (.slice none 0 0) ((saR aS aA aN).1) := by
   have hx := Ol.nil (cs := ics) (e := 3) (k := 1) W8
   first | (rw [Zol d]; exact hx) | (rw [Yu d]; simpa using hx)
  exact Zi [_, _] ⟨rfl, ⟨rfl, trivial⟩⟩ ⟨(.slice none 0 0), (congrArg (fun zq => (Value.tuple #[(.slice none 0 0), .bool zq])) (by first | rw [Zol d] | rw [Yu d])), x, (Lo.nil _), E⟩
 have Q := d
 have d := bt_t (Qg d)
 refine Zu ?_
 refine Zb (H3 _ _ ?_)
 refine Zg fun ad S => ?_
 refine Zc (Za rfl rfl (Zh fa27_0 rfl) ?_)
 have D := u.ch0 C8
 refine Za rfl rfl (Zp D.at_ agg3 rfl rfl) (Za rfl rfl (Zt D.at_ agg27 sz27 rfl) (Za rfl rfl (Zeb (xs := [.tmp 9]) (ys := []) rfl rfl) (Za rfl rfl (Zt D.at_ agg27 sz27 rfl) (Za rfl rfl (Zeb (xs := [.tmp 11]) (ys := []) rfl rfl) (Zk rfl rfl ?_)))))
 have I := F5.ch0 C8
 have J := F6.ch0 C8
 have K := F7.ch0 C8
 refine Step.call (Zl (xs := [.tmp 8, .tmp 10, .tmp 12]) fk57 rfl) (Zee _ _ I K J _ I K J d (Zbk d) rfl) fun T U F => ?_
 obtain ⟨L, rfl, f, i, M⟩ := F
 have V := M.size
 have E := E.trans M
 obtain ⟨g, h, rfl, G, y⟩ := f.opn
 refine Za rfl rfl (Xc rfl rfl) (Za rfl rfl (Xc rfl rfl) (Za rfl rfl (Ze rfl) (Za rfl rfl (Ze rfl) (Zf (Zb (S _ _ ?_))))))
 refine Zs ?_
 have z : Ol ics 3 1 U (.slice g ((saF aA aN aS).1).length h) ((saR aS aA aN).1) := by
  have hx := f
  first | (rw [Zol d]; exact hx) | (rw [Yu d]; simpa using hx)
 exact Zi [_, _] ⟨rfl, ⟨rfl, trivial⟩⟩ ⟨(.slice g ((saF aA aN aS).1).length h), (congrArg (fun zq => (Value.tuple #[(.slice g ((saF aA aN aS).1).length h), .bool zq])) (by first | rw [Zol d] | rw [Yu d])), z, (Lo.down i om), E⟩

/-- laws.big -/
theorem Zoj {w : World} {LL_code d : Nat} {b : Value} {code : List Int} (a : Ls ucs 1 w LL_code d b code) :
 Ctr Try.prog 6 #[b] w (fun v w' => v = .bool (decide (1048576 < (code.length : Int))) ∧ Ch [] w w') := by
 obtain ⟨e, f, c⟩ := a.val
 subst c
 have g := a.len
 have a := a.here (by decide)
 have E := Ch.refl [] w
 refine Yh (N := 6) (vs0 := [(.slice e code.length f)]) Try.func6 rfl rfl rfl ?_
 refine Zg fun K1 H1 => ?_
 refine Zc (Za rfl rfl (Ze rfl) (Zf (Zb (H1 _ _ ?_))))
 refine Zg fun K2 H2 => ?_
 refine Zc (Za rfl rfl (Zd rfl) (Za rfl rfl (Xm (by rw [el22]; rfl) rfl) (Za rfl rfl (Zec rfl rfl) (Za rfl rfl (Ze rfl) (Zf (Zb (H2 _ _ ?_)))))))
 refine Zs ?_
 exact Zi [_] ⟨rfl, trivial⟩ ⟨congrArg Value.bool rfl, E⟩

/-- laws.sameInts -/
theorem Zih {w : World} {LL_a y : Nat} {n : Value} {a : List Int} (g : Ls ics 1 w LL_a y n a) {LL_b z : Nat} {o : Value} {b : List Int} (h : Ls ics 1 w LL_b z o b) :
 Ctr Try.prog 10 #[n, o] w (fun v w' => v = .bool (decide (a = b)) ∧ Ch [] w w') := by
 obtain ⟨p, q, r⟩ := g.val
 subst r
 have I := g.len
 have g := g.here (by decide)
 obtain ⟨s, t, u⟩ := h.val
 subst u
 have J := h.len
 have h := h.here (by decide)
 have E := Ch.refl [] w
 refine Yh (N := 26) (vs0 := [(.slice p a.length q), (.slice s b.length t)]) Try.func10 rfl rfl rfl ?_
 refine Zg fun K1 H1 => ?_
 refine Zc (Za rfl rfl (Ze rfl) (Zf (Zb (H1 _ _ ?_))))
 refine Zg fun K2 H2 => ?_
 refine Zg fun K3 H3 => ?_
 refine Zc (Za rfl rfl (Zd rfl) (Za rfl rfl (Xm (by rw [el30]; rfl) rfl) (Za rfl rfl (Zd rfl) (Za rfl rfl (Xm (by rw [el30]; rfl) rfl) (Za rfl rfl (Zbb rfl rfl) (Zf (Zb (H3 _ _ ?_))))))))
 refine Zx rfl (fun d => ?_) (fun d => ?_)
 ·have K := d
  have d := Yp (Qf d)
  refine Zg fun K5 H5 => ?_
  refine Zc (Za rfl rfl (Ze rfl) (Zf (Zb (H5 _ _ ?_))))
  refine Zs (Zm ?_)
  exact Zi [_] ⟨rfl, trivial⟩ ⟨congrArg Value.bool (decide_eq_false (fun e => d (by rw [e]))).symm, E⟩
 have K := d
 have d := Yo (Qg d)
 refine Zu ?_
 refine Zb (H2 _ _ ?_)
 refine Zg fun K6 H6 => ?_
 refine Zg fun K7 H7 => ?_
 refine Zc (Za rfl rfl (Ze rfl) (Zf (Zb (H7 _ _ ?_))))
 refine Yf ?_
 refine Xo (σ := Nat) (fun (k : Nat) => [(0, (.slice p a.length q)), (1, (.slice s b.length t)), (5, (.int .i64 ((k : Nat) : Int)))]) (fun (k : Nat) wx => Ch [] w wx ∧ w.heap.size ≤ wx.heap.size ∧ (k ≤ a.length) ∧ (a.take k = b.take k)) (fun (k : Nat) => a.length - k) 0 (sC2 rfl rfl (sC1 rfl (Sub.nil _))) ⟨E, (Nat.le_refl _), om, rfl⟩ ?_
 rintro k R8 ⟨E, L, Z, F⟩
 have m := E
 have G := m.size
 refine Zg fun K9 H9 => ?_
 refine Zg fun aa M => ?_
 refine Zc (Za rfl rfl (Zd rfl) (Za rfl rfl (Zd rfl) (Za rfl rfl (Xm (by rw [el30]; rfl) rfl) (Za rfl rfl (Xv rfl rfl) (Zf (Zb (M _ _ ?_)))))))
 refine Zx rfl (fun f => ?_) (fun f => ?_)
 ·have A := f
  have f := Yo f
  refine Zu ?_
  refine Zb (H9 _ _ ?_)
  refine Zg fun ab H => ?_
  refine Yf ?_
  refine Zg fun ac O => ?_
  refine Yx [] 9 mixed rfl fun ad x => ?_
  have P := x.size
  have E := E.trans x
  refine dV 0 rfl rfl rfl (fun _ => Zd rfl) (dV 1 rfl rfl rfl (fun _ => Zd rfl) ?_)
  have Q := (g.ch0 m).ch0 x
  refine dT 2 rfl rfl rfl (Ql Q Yl el30 sz3 rfl rfl rfl om fun R S j B => ?_)
  refine dT 3 rfl rfl rfl (Qo B (fun i hi => absurd hi List.not_mem_nil) agg3 rfl rfl ?_)
  refine dV 4 rfl rfl rfl (fun _ => Zd rfl) (dV 5 rfl rfl rfl (fun _ => Zd rfl) ?_)
  have T := (h.ch0 m).ch0 x
  refine dT 6 rfl rfl rfl (Ql T Yl el30 sz3 rfl rfl rfl om fun U V l C => ?_)
  refine dT 7 rfl rfl rfl (Qo C (fun i hi => absurd hi List.not_mem_nil) agg3 rfl rfl ?_)
  refine dV 8 rfl rfl rfl (fun _ => Zbb rfl rfl) ?_
  refine Yb (by kernel_rfl) ?_
  refine Zb (O _ _ ?_)
  refine Zx rfl (fun c => ?_) (fun c => ?_)
  ·have D := c
   have c := Yp (Qf c)
   refine Zg fun ae X => ?_
   refine Zc (Za rfl rfl (Ze rfl) (Zf (Zb (X _ _ ?_))))
   refine Zs (Yi (Zm (Zm (Yi (Zm ?_)))))
   clear H6 H
   exact Zi [_] ⟨rfl, trivial⟩ ⟨congrArg Value.bool (decide_eq_false (Zqj j l c)).symm, E⟩
  have D := c
  have c := Yo (Qg c)
  refine Zu ?_
  refine Yc (Zb (H _ _ (Zc (Za rfl rfl (Zd rfl) (Za rfl rfl (Yq om rfl rfl) (Za rfl rfl (Ze rfl) (Zf ?_)))))))
  exact Zb (Exists.intro (k + 1) ⟨⟨E, om, om, (Zgo F j l c)⟩, sC2 rfl rfl (sC1 rfl (Sub.nil _)), (by first | omega | (dsimp only; omega))⟩)
 have A := f
 have f := Yp f
 refine Xk (Ya (Ya (Xd ?_)))
 refine Zb (H6 _ _ ?_)
 refine Zg fun af Y => ?_
 refine Zc (Za rfl rfl (Ze rfl) (Zf (Zb (Y _ _ ?_))))
 refine Zs ?_
 exact Zi [_] ⟨rfl, trivial⟩ ⟨congrArg Value.bool (decide_eq_true (Zoe F om om)).symm, E⟩

/-- spec.l1In -/
theorem Zcb {w : World} (n : Int) (a : Int) (b : Int) :
 Ctr Try.prog 49 #[(.int .i64 n), (.int .i64 a), (.int .i64 b)] w (fun v w' => v = .bool (decide (a ≤ n ∧ n ≤ b)) ∧ Ch [] w w') := by
 have E := Ch.refl [] w
 refine Yh (N := 15) (vs0 := [(.int .i64 n), (.int .i64 a), (.int .i64 b)]) Try.func49 rfl rfl rfl ?_
 refine Zg fun K1 H1 => ?_
 refine Zc (Za rfl rfl (Ze rfl) (Zf (Zb (H1 _ _ ?_))))
 refine Zg fun K2 H2 => ?_
 refine Zc (Za rfl rfl (Zd rfl) (Za rfl rfl (Zd rfl) (Za rfl rfl (Zjj rfl rfl) (Za rfl rfl (Zd rfl) ?_))))
 refine Ym (d := 10) rfl (fun c => ?_) (fun c => ?_)
 ·have e := c
  have c := Yo c
  refine Za rfl rfl (Zd rfl) (Za rfl rfl (Zd rfl) (Za rfl rfl (Zfo rfl rfl) (Za rfl rfl (Zw rfl rfl) (Za rfl rfl (Ze rfl) (Zf (Zb (H2 _ _ ?_)))))))
  refine Zs ?_
  exact Zi [_] ⟨rfl, trivial⟩ ⟨congrArg Value.bool (by first | rfl | (rw [Bool.eq_iff_iff]; simp <;> omega) | (rw [Bool.eq_iff_iff]; simp_all; done) | simp_all), E⟩
 have e := c
 have c := Yp c
 refine Zj rfl rfl (Zj rfl rfl (Zj rfl rfl (Za rfl rfl (Zv rfl rfl) (Za rfl rfl (Ze rfl) (Zf (Zb (H2 _ _ ?_)))))))
 refine Zs ?_
 exact Zi [_] ⟨rfl, trivial⟩ ⟨congrArg Value.bool (by first | rfl | (rw [Bool.eq_iff_iff]; simp <;> omega) | (rw [Bool.eq_iff_iff]; simp_all; done) | simp_all), E⟩

/-- spec.l11Fits -/
theorem Zip {w : World} (aS : Int) {LL_aA X : Nat} {J : Value} {aA : List Bool} (u : Ls bcs 1 w LL_aA X J aA) {LL_saN M : Nat} {A : Value} {saN : List Sv} (m : Ls Sv.cs 1 w LL_saN M A saN) {LR_aN BB_aN : Nat} {aN : List (List Int)} (o : Rd ics 1 w LR_aN BB_aN saN aN) :
 Ctr Try.prog 53 #[(.agg #[(.int .i64 aS), J, A])] w (fun v w' => v = .bool (tt (Zra aS aA aN)) ∧ Ch [] w w') := by
 obtain ⟨x, y, O⟩ := u.val
 subst O
 have aB := u.len
 have u := u.here (by decide)
 obtain ⟨g, h, G⟩ := m.val
 subst G
 have ae := m.len
 have m := m.here (by decide)
 have o := o.here (by decide)
 have af := o.1
 have E := Ch.refl [] w
 refine Yh (N := 50) (vs0 := [(.agg #[(.int .i64 aS), (.slice x aA.length y), (.slice g saN.length h)])]) Try.func53 rfl rfl rfl ?_
 refine Zg fun K1 H1 => ?_
 refine Zc (Zk rfl rfl ?_)
 refine Xw rfl fun T W2 U C2 bg => ?_
 have bh := C2.size
 have E := E.trans C2
 have bi := U.lt
 replace U : Blk W2 T 27 [(.int .i64 aS), (.slice x aA.length y), (.slice g saN.length h)] := U
 refine Za rfl rfl (Ze rfl) (Zf (Zb (H1 _ _ ?_)))
 refine Zg fun K3 H3 => ?_
 refine Zc (Za rfl rfl (Zh fa27_1 rfl) (Za rfl rfl (Zp U.at_ agg24 rfl rfl) (Za rfl rfl (Xm (by rw [el24]; rfl) rfl) (Za rfl rfl (Ze rfl) (Zf (Zb (H3 _ _ ?_)))))))
 refine Zg fun K4 H4 => ?_
 refine Zg fun K5 H5 => ?_
 refine Zc (Za rfl rfl (Zh fa27_0 rfl) (Za rfl rfl (Zp U.at_ agg3 rfl rfl) (Za rfl rfl (Zd rfl) (Za rfl rfl (Zbr om rfl rfl) (Zk rfl rfl ?_)))))
 refine Step.call (Zl (xs := [.tmp 10, .const (Go.Value.int Go.IntKind.i64 0), .tmp 12]) fk49 rfl) (Zcb _ _ _ ) fun aJ W6 ag => ?_
 obtain ⟨rfl, C6⟩ := ag
 have bj := C6.size
 have E := E.trans C6
 refine Za rfl rfl (Xi rfl) (Za rfl rfl (Zd rfl) ?_)
 refine Ym (d := 15) rfl (fun a => ?_) (fun a => ?_)
 ·have aK := a
  have a := Yp (Qf a)
  refine Zj rfl rfl (Zj rfl rfl (Zj rfl rfl (Zj rfl rfl (Zj rfl rfl (Za rfl rfl (Zw rfl rfl) (Zf (Zb (H5 _ _ ?_))))))))
  refine Xl rfl ?_
  refine Zg fun K8 H8 => ?_
  refine Zc (Za rfl rfl (Ze rfl) (Zf (Zb (H8 _ _ ?_))))
  refine Zs (Zm ?_)
  exact Zi [_] ⟨rfl, trivial⟩ ⟨congrArg Value.bool (by first | exact Zq ⟨a, by omega, Zbc V om⟩ | exact Zo (fun e => a e.1) | exact Zo (fun e => j (by have H := e.2.1; omega)) | exact Zo (fun e => i (Zaq e f n)) | exact Zo (fun e => l (by have H := (Xy e b).1; omega))), E⟩
 have aK := a
 have a := Yo (Qg a)
 refine Za rfl rfl (Zh fa27_2 rfl) ?_
 have F9 := U.ch0 C6
 refine Za rfl rfl (Zp F9.at_ agg25 rfl rfl) (Za rfl rfl (Xm (by rw [el25]; rfl) rfl) (Za rfl rfl (Zd rfl) (Za rfl rfl (Zbb rfl rfl) (Za rfl rfl (Zv rfl rfl) (Zf (Zb (H5 _ _ ?_)))))))
 refine Zx rfl (fun j => ?_) (fun j => ?_)
 ·have ah := j
  have j := Yp (Qf j)
  refine Zg fun bk aL => ?_
  refine Zc (Za rfl rfl (Ze rfl) (Zf (Zb (aL _ _ ?_))))
  refine Zs (Zm ?_)
  exact Zi [_] ⟨rfl, trivial⟩ ⟨congrArg Value.bool (by first | exact Zq ⟨a, by omega, Zbc V om⟩ | exact Zo (fun e => a e.1) | exact Zo (fun e => j (by have H := e.2.1; omega)) | exact Zo (fun e => i (Zaq e f n)) | exact Zo (fun e => l (by have H := (Xy e b).1; omega))), E⟩
 have ah := j
 have j := Yo (Qg j)
 refine Zu ?_
 refine Zb (H4 _ _ ?_)
 refine Zg fun bm ai => ?_
 refine Zg fun bn aM => ?_
 refine Zc (Za rfl rfl (Ze rfl) (Zf (Zb (aM _ _ ?_))))
 refine Yf ?_
 refine Xo (σ := Nat) (fun (s : Nat) => [(1, (.pointer (some ⟨T, 0, none⟩))), (3, (.int .i64 ((aA.length : Nat) : Int))), (4, (.int .i64 ((s : Nat) : Int)))]) (fun (s : Nat) wx => Ch [] w wx ∧ W6.heap.size ≤ wx.heap.size ∧ (s ≤ aN.length) ∧ (Zku aA.length aN s) ∧ Blk wx T 27 [(.int .i64 aS), (.slice x aA.length y), (.slice g saN.length h)]) (fun (s : Nat) => aN.length - s) 0 (sC2 rfl rfl (sC1 rfl (Sub.nil _))) ⟨E, (Nat.le_refl _), om, (Zlc _ _), F9⟩ ?_
 rintro s aj ⟨E, aO, hs, V, B⟩
 have P := E
 have aC := P.size
 have ak := B.lt
 refine Zg fun bp aP => ?_
 refine Zg fun bq aQ => ?_
 refine Zc (Za rfl rfl (Zd rfl) (Za rfl rfl (Zd rfl) (Za rfl rfl (Xv rfl rfl) (Zf (Zb (aQ _ _ ?_))))))
 refine Zx rfl (fun r => ?_) (fun r => ?_)
 ·have al := r
  have r := Yo r
  refine Zu ?_
  refine Zb (aP _ _ ?_)
  refine Zg fun br am => ?_
  refine Yf ?_
  refine Zg fun bs aD => ?_
  refine Zg fun bu aR => ?_
  refine Zc (Za rfl rfl (Zh fa27_2 rfl) (Za rfl rfl (Zp B.at_ agg25 rfl rfl) (Za rfl rfl (Zd rfl) (Zk rfl rfl ?_))))
  have aE := m.ch0 P
  refine (Yy aE Sv.len el25 sz30 rfl rfl rfl om fun Q an Y I => ?_)
  have aF := o.ch0 P
  obtain ⟨c, b, p⟩ := aF.get Y
  obtain ⟨C, aT, D⟩ := an
  obtain rfl := p.eqn
  have aU := p.len
  replace p : Ls ics 1 aj LR_aN w.heap.size (.slice C c.length D) c := p
  replace I : At aj LL_saN w.heap.size Q ([(.slice C c.length D)]) := I
  refine Za rfl rfl (Yk I agg30 rfl rfl) (Za rfl rfl (Xm (by rw [el30]; rfl) rfl) (Za rfl rfl (Zbb rfl rfl) (Zf (Zb (aR _ _ ?_)))))
  refine Zx rfl (fun l => ?_) (fun l => ?_)
  ·have ao := l
   have l := Yp (Qf l)
   refine Zg fun bv aV => ?_
   refine Zc (Za rfl rfl (Ze rfl) (Zf (Zb (aV _ _ ?_))))
   refine Zs (Zm (Yi (Zm (Zm (Yi (Zm ?_))))))
   clear ai am aD
   exact Zi [_] ⟨rfl, trivial⟩ ⟨congrArg Value.bool (by first | exact Zq ⟨a, by omega, Zbc V om⟩ | exact Zo (fun e => a e.1) | exact Zo (fun e => j (by have H := e.2.1; omega)) | exact Zo (fun e => i (Zaq e f n)) | exact Zo (fun e => l (by have H := (Xy e b).1; omega))), E⟩
  have ao := l
  have l := Yo (Qg l)
  refine Zu ?_
  refine Zb (aD _ _ ?_)
  refine Zg fun bw aW => ?_
  refine Zc (Za rfl rfl (Ze rfl) (Zf (Zb (aW _ _ ?_))))
  refine Yf ?_
  refine Xo (σ := Nat) (fun (k : Nat) => [(1, (.pointer (some ⟨T, 0, none⟩))), (3, (.int .i64 ((aA.length : Nat) : Int))), (4, (.int .i64 ((s : Nat) : Int))), (5, (.int .i64 ((k : Nat) : Int))), (22, (.int .i64 ((s : Nat) : Int))), (23, (.int .i64 ((aA.length : Nat) : Int))), (24, (.bool (decide (((s : Nat) : Int) < ((aA.length : Nat) : Int))))), (27, (.pointer (some (Addr.add ⟨T, 0, none⟩ 2)))), (28, (.slice g saN.length h)), (29, (.int .i64 ((s : Nat) : Int))), (30, (.pointer (some Q))), (31, (.slice C c.length D)), (32, (.int .i64 ((c.length : Nat) : Int))), (33, (.bool (!decide (((c.length : Nat) : Int) = 9))))]) (fun (k : Nat) wx => Ch [] w wx ∧ aj.heap.size ≤ wx.heap.size ∧ (k ≤ 9) ∧ (RowP aA.length c k) ∧ Blk wx T 27 [(.int .i64 aS), (.slice x aA.length y), (.slice g saN.length h)] ∧ Ls Sv.cs 1 wx LL_saN w.heap.size (.slice g saN.length h) saN ∧ Rd ics 1 wx LR_aN w.heap.size saN aN ∧ At wx LL_saN w.heap.size Q ([(.slice C c.length D)]) ∧ Ls ics 1 wx LR_aN w.heap.size (.slice C c.length D) c) (fun (k : Nat) => 9 - k) 0 (sC8 rfl rfl rfl rfl rfl rfl rfl rfl (sC4 rfl rfl rfl rfl (sC2 rfl rfl (Sub.nil _)))) ⟨E, (Nat.le_refl _), om, (Zlh _ _), B, aE, aF, I, p⟩ ?_
  rintro k aG ⟨E, aX, bz, hp, z, K, L, Z, aa⟩
  have ap := E
  have aH := ap.size
  have aq := z.lt
  refine Zg fun bA aY => ?_
  refine Zg fun bB aZ => ?_
  refine Zc (Za rfl rfl (Zd rfl) (Za rfl rfl (Xv rfl rfl) (Zf (Zb (aZ _ _ ?_)))))
  refine Zx rfl (fun t => ?_) (fun t => ?_)
  ·have au := t
   have t := Yo t
   refine Zu ?_
   refine Zb (aY _ _ ?_)
   refine Zg fun bC aI => ?_
   refine Yf ?_
   refine Zg fun bD a0 => ?_
   refine Zc (Za rfl rfl (Zh fa27_2 rfl) (Za rfl rfl (Zp z.at_ agg25 rfl rfl) (Za rfl rfl (Zd rfl) (Zk rfl rfl ?_))))
   refine (Yy K Sv.len el25 sz30 rfl rfl rfl om fun av aw ab R => ?_)
   obtain ⟨F, f, q⟩ := L.get ab
   obtain ⟨ac, a1, ad⟩ := aw
   obtain rfl := q.eqn
   have a2 := q.len
   replace q : Ls ics 1 aG LR_aN w.heap.size (.slice ac F.length ad) F := q
   replace R : At aG LL_saN w.heap.size av ([(.slice ac F.length ad)]) := R
   have a3 := congrArg List.length (Qj b f)
   refine Za rfl rfl (Yk R agg30 rfl rfl) (Za rfl rfl (Zd rfl) (Zk rfl rfl ?_))
   refine (Yy q Yl el30 sz3 rfl rfl rfl om fun a4 a5 n ax => ?_)
   refine Za rfl rfl (Yk ax agg3 rfl rfl) (Za rfl rfl (Zd rfl) (Za rfl rfl (Zbr om rfl rfl) (Zk rfl rfl ?_)))
   refine Step.call (Zl (xs := [.tmp 45, .const (Go.Value.int Go.IntKind.i64 (-1)), .tmp 47]) fk49 rfl) (Zcb _ _ _ ) fun a6 bF ay => ?_
   obtain ⟨rfl, S⟩ := ay
   have a7 := S.size
   have E := E.trans S
   refine Za rfl rfl (Xi rfl) (Zf (Zb (a0 _ _ ?_)))
   refine Zx rfl (fun i => ?_) (fun i => ?_)
   ·have az := i
    have i := Yp (Qf i)
    refine Zg fun bG a8 => ?_
    refine Zc (Za rfl rfl (Ze rfl) (Zf (Zb (a8 _ _ ?_))))
    refine Zs (Yi (Zm (Zm (Yi (Yi (Zm (Zm (Yi (Zm ?_)))))))))
    clear ai am aI
    exact Zi [_] ⟨rfl, trivial⟩ ⟨congrArg Value.bool (by first | exact Zq ⟨a, by omega, Zbc V om⟩ | exact Zo (fun e => a e.1) | exact Zo (fun e => j (by have H := e.2.1; omega)) | exact Zo (fun e => i (Zaq e f n)) | exact Zo (fun e => l (by have H := (Xy e b).1; omega))), E⟩
   have az := i
   have i := Yo (Qg i)
   refine Zu ?_
   refine Yc (Zb (aI _ _ (Zc (Za rfl rfl (Zd rfl) (Za rfl rfl (Yq om rfl rfl) (Za rfl rfl (Ze rfl) (Zf ?_)))))))
   have a9 := z.ch0 S
   have ba := K.ch0 S
   have bb := L.ch0 S
   have bc := Z.ch0 S
   have be := aa.ch0 S
   exact Zb (Exists.intro (k + 1) ⟨⟨E, om, om, (Zll hp (Qj f b ▸ n) i), a9, ba, bb, bc, be⟩, sC8 rfl rfl rfl rfl rfl rfl rfl rfl (sC4 rfl rfl rfl rfl (sC2 rfl rfl (Sub.nil _))), (by first | omega | (dsimp only; omega))⟩)
  have au := t
  have t := Yp t
  refine Xk (Ya (Ya (Xd ?_)))
  refine Yc (Zb (am _ _ (Zc (Za rfl rfl (Zd rfl) (Za rfl rfl (Yq om rfl rfl) (Za rfl rfl (Ze rfl) (Zf ?_)))))))
  exact Zb (Exists.intro (s + 1) ⟨⟨E, om, om, (Zlj V b ⟨by omega, Znj hp om⟩), z⟩, sC2 rfl rfl (sC1 rfl (Sub.nil _)), (by first | omega | (dsimp only; omega))⟩)
 have al := r
 have r := Yp r
 refine Xk (Ya (Ya (Xd ?_)))
 refine Zb (ai _ _ ?_)
 refine Zg fun bH bf => ?_
 refine Zc (Za rfl rfl (Ze rfl) (Zf (Zb (bf _ _ ?_))))
 refine Zs ?_
 exact Zi [_] ⟨rfl, trivial⟩ ⟨congrArg Value.bool (by first | exact Zq ⟨a, by omega, Zbc V om⟩ | exact Zo (fun e => a e.1) | exact Zo (fun e => j (by have H := e.2.1; omega)) | exact Zo (fun e => i (Zaq e f n)) | exact Zo (fun e => l (by have H := (Xy e b).1; omega))), E⟩

/-- spec.IsValidAutomaton -/
theorem Yw {w : World} (aS : Int) {LL_aA p : Nat} {k : Value} {aA : List Bool} (c : Ls bcs 1 w LL_aA p k aA) {LL_saN n : Nat} {f : Value} {saN : List Sv} (a : Ls Sv.cs 1 w LL_saN n f saN) {LR_aN BB_aN : Nat} {aN : List (List Int)} (b : Rd ics 1 w LR_aN BB_aN saN aN) :
 Ctr Try.prog 13 #[(.agg #[(.int .i64 aS), k, f])] w (fun v w' => v = .bool (tt (Yz aS aA aN)) ∧ Ch [] w w') := by
 obtain ⟨l, m, o⟩ := c.val
 subst o
 have t := c.len
 have c := c.here (by decide)
 obtain ⟨g, h, i⟩ := a.val
 subst i
 have r := a.len
 have a := a.here (by decide)
 have b := b.here (by decide)
 have s := b.1
 have E := Ch.refl [] w
 refine Yh (N := 11) (vs0 := [(.agg #[(.int .i64 aS), (.slice l aA.length m), (.slice g saN.length h)])]) Try.func13 rfl rfl rfl ?_
 refine Zg fun K1 H1 => ?_
 refine Zc (Zk rfl rfl ?_)
 refine Xw rfl fun u W2 q C2 A => ?_
 have B := C2.size
 have E := E.trans C2
 have C := q.lt
 replace q : Blk W2 u 27 [(.int .i64 aS), (.slice l aA.length m), (.slice g saN.length h)] := q
 refine Za rfl rfl (Ze rfl) (Zf (Zb (H1 _ _ ?_)))
 refine Zg fun K3 H3 => ?_
 refine Zc (Za rfl rfl (Zh fa27_1 rfl) (Za rfl rfl (Zp q.at_ agg24 rfl rfl) (Za rfl rfl (Xm (by rw [el24]; rfl) rfl) (Za rfl rfl (Zfo rfl rfl) (Za rfl rfl (Zd rfl) ?_)))))
 refine Ym (d := 7) rfl (fun j => ?_) (fun j => ?_)
 ·have x := j
  have j := Yo j
  refine Za rfl rfl (Zt q.at_ agg27 sz27 rfl) (Zk rfl rfl ?_)
  have F5 := c.ch0 C2
  have F6 := b.ch0 C2
  have F7 := a.ch0 C2
  refine Step.call (Zl (xs := [.tmp 8]) fk53 rfl) (Zip _ F5 F7 F6 ) fun D W8 y => ?_
  obtain ⟨rfl, C8⟩ := y
  have F := C8.size
  have E := E.trans C8
  refine Za rfl rfl (Zw rfl rfl) (Za rfl rfl (Ze rfl) (Zf (Zb (H3 _ _ ?_))))
  refine Zs ?_
  exact Zi [_] ⟨rfl, trivial⟩ ⟨congrArg Value.bool (by first | exact Zns ⟨fun e => ⟨by omega, e⟩, fun e => e.2⟩ | exact Zo (fun e => j (by have z := e.1; omega))), E⟩
 have x := j
 have j := Yp j
 refine Zj rfl rfl (Zj rfl rfl (Za rfl rfl (Zv rfl rfl) (Za rfl rfl (Ze rfl) (Zf (Zb (H3 _ _ ?_))))))
 refine Zs ?_
 exact Zi [_] ⟨rfl, trivial⟩ ⟨congrArg Value.bool (by first | exact Zns ⟨fun e => ⟨by omega, e⟩, fun e => e.2⟩ | exact Zo (fun e => j (by have z := e.1; omega))), E⟩

/-- spec.l2Letter -/
theorem Zcc {w : World} (n : Int) :
 Ctr Try.prog 75 #[(.int .i64 n)] w (fun v w' => v = .bool (decide (0 ≤ n ∧ n ≤ 8)) ∧ Ch [] w w') := by
 have E := Ch.refl [] w
 refine Yh (N := 5) (vs0 := [(.int .i64 n)]) Try.func75 rfl rfl rfl ?_
 refine Zg fun K1 H1 => ?_
 refine Zc (Za rfl rfl (Ze rfl) (Zf (Zb (H1 _ _ ?_))))
 refine Zg fun K2 H2 => ?_
 refine Zc (Za rfl rfl (Zd rfl) (Zk rfl rfl ?_))
 refine Step.call (Zl (xs := [.tmp 3, .const (Go.Value.int Go.IntKind.i64 0), .const (Go.Value.int Go.IntKind.i64 8)]) fk49 rfl) (Zcb _ _ _ ) fun b W3 a => ?_
 obtain ⟨rfl, C3⟩ := a
 have c := C3.size
 have E := E.trans C3
 refine Za rfl rfl (Ze rfl) (Zf (Zb (H2 _ _ ?_)))
 refine Zs ?_
 exact Zi [_] ⟨rfl, trivial⟩ ⟨congrArg Value.bool rfl, E⟩

/-- spec.l11Run -/
theorem Zkn {w : World} (aS : Int) {LL_aA O : Nat} {A : Value} {aA : List Bool} (q : Ls bcs 1 w LL_aA O A aA) {LL_saN H : Nat} {r : Value} {saN : List Sv} (a : Ls Sv.cs 1 w LL_saN H r saN) {LR_aN BB_aN : Nat} {aN : List (List Int)} (c : Rd ics 1 w LR_aN BB_aN saN aN) (s : Int) {LL_wd P : Nat} {B : Value} {wd : List Int} (e : Ls ics 1 w LL_wd P B wd) (hv : Yz aS aA aN) (hs : -1 ≤ s ∧ s ≤ (aA.length : Int) - 1) :
 Ctr Try.prog 99 #[(.agg #[(.int .i64 aS), A, r]), (.int .i64 s), B] w (fun v w' => v = .int .i64 (runA aN s wd wd.length) ∧ Ch [] w w') := by
 obtain ⟨t, u, I⟩ := q.val
 subst I
 have ak := q.len
 have q := q.here (by decide)
 obtain ⟨h, l, y⟩ := a.val
 subst y
 have V := a.len
 have a := a.here (by decide)
 have c := c.here (by decide)
 have X := c.1
 obtain ⟨C, D, J⟩ := e.val
 subst J
 have al := e.len
 have e := e.here (by decide)
 have E := Ch.refl [] w
 have aR := hv.2.2.1
 refine Yh (N := 36) (vs0 := [(.agg #[(.int .i64 aS), (.slice t aA.length u), (.slice h saN.length l)]), (.int .i64 s), (.slice C wd.length D)]) Try.func99 rfl rfl rfl ?_
 refine Zg fun K1 H1 => ?_
 refine Zc (Zk rfl rfl ?_)
 refine Xw rfl fun Y W2 U C2 aT => ?_
 have aU := C2.size
 have E := E.trans C2
 have aV := U.lt
 replace U : Blk W2 Y 27 [(.int .i64 aS), (.slice t aA.length u), (.slice h saN.length l)] := U
 refine Za rfl rfl (Ze rfl) (Zf (Zb (H1 _ _ ?_)))
 refine Zg fun K3 H3 => ?_
 refine Zg fun K4 H4 => ?_
 refine Zc (Za rfl rfl (Ze rfl) (Zf (Zb (H4 _ _ ?_))))
 refine Yf ?_
 refine Xo (σ := Nat × Int) (fun ⟨k, m⟩ => [(1, (.int .i64 m)), (2, (.slice C wd.length D)), (3, (.pointer (some ⟨Y, 0, none⟩))), (7, (.int .i64 ((k : Nat) : Int)))]) (fun ⟨k, m⟩ wx => Ch [] w wx ∧ W2.heap.size ≤ wx.heap.size ∧ (k ≤ wd.length) ∧ (m = runA aN s wd k) ∧ (-1 ≤ m ∧ m ≤ (aA.length : Int) - 1) ∧ Blk wx Y 27 [(.int .i64 aS), (.slice t aA.length u), (.slice h saN.length l)]) (fun ⟨k, m⟩ => wd.length - k) (0, s) (sC4 rfl rfl rfl rfl (Sub.nil _)) ⟨E, (Nat.le_refl _), om, rfl, hs, U⟩ ?_
 rintro ⟨k, m⟩ R5 ⟨E, av, aW, hm, hb, F⟩
 have z := E
 have am := z.size
 have Z := F.lt
 refine Zg fun K6 H6 => ?_
 refine Zg fun K7 H7 => ?_
 refine Zc (Za rfl rfl (Zd rfl) (Za rfl rfl (Zd rfl) (Za rfl rfl (Xm (by rw [el30]; rfl) rfl) (Za rfl rfl (Xv rfl rfl) (Za rfl rfl (Zd rfl) ?_)))))
 refine Ym (d := 12) rfl (fun n => ?_) (fun n => ?_)
 ·have aw := n
  have n := Yo n
  refine Za rfl rfl (Zd rfl) (Za rfl rfl (Zjj rfl rfl) (Za rfl rfl (Zw rfl rfl) (Zf (Zb (H7 _ _ ?_)))))
  refine Zx rfl (fun o => ?_) (fun o => ?_)
  ·have ax := o
   have o := Yo o
   refine Zu ?_
   refine Zb (H6 _ _ ?_)
   refine Zg fun aX an => ?_
   refine Yf ?_
   refine Zg fun aY ao => ?_
   refine Zg fun aZ ay => ?_
   refine Zc (Za rfl rfl (Zd rfl) (Za rfl rfl (Zd rfl) (Zk rfl rfl ?_)))
   have ap := e.ch0 z
   refine (Yy ap Yl el30 sz3 rfl rfl rfl om fun az aB f aa => ?_)
   refine Za rfl rfl (Yk aa agg3 rfl rfl) (Zk rfl rfl ?_)
   refine Step.call (Zl (xs := [.tmp 21]) fk75 rfl) (Zcc _ ) fun aC a0 ab => ?_
   obtain ⟨rfl, L⟩ := ab
   have aD := L.size
   have E := E.trans L
   refine Za rfl rfl (Xi rfl) (Zf (Zb (ay _ _ ?_)))
   refine Zx rfl (fun b => ?_) (fun b => ?_)
   ·have ac := b
    have b := Yp (Qf b)
    refine Zg fun a1 aE => ?_
    refine Zc (Za rfl rfl (Ze rfl) (Zf (Zb (aE _ _ ?_))))
    refine Zs (Zm (Yi (Zm (Zm (Yi (Zm ?_))))))
    clear H3 an ao
    exact Zi [_] ⟨rfl, trivial⟩ ⟨congrArg (Value.int .i64) (by first | exact Zmg f b | exact Zhe hm om om | (rw [hm, show k = wd.length by omega])), E⟩
   have ac := b
   have b := Yo (Qg b)
   refine Zu ?_
   refine Zb (ao _ _ ?_)
   refine Yx [] 12 mixed rfl fun aq M => ?_
   have aF := M.size
   have E := E.trans M
   refine dV 0 rfl rfl rfl (fun _ => Zh fa27_2 rfl) ?_
   have au := (F.ch0 L).ch0 M
   refine dT 1 rfl rfl rfl (Xj au.at_ (fun i hi => absurd hi List.not_mem_nil) agg25 rfl rfl ?_)
   refine dV 2 rfl rfl rfl (fun _ => Zd rfl) ?_
   have aG := ((a.ch0 z).ch0 L).ch0 M
   have aH := ((c.ch0 z).ch0 L).ch0 M
   refine dT 3 rfl rfl rfl (Ql (j := m.toNat) aG Sv.len el25 sz30 rfl rfl om om fun ad ae Q K => ?_)
   obtain ⟨x, p, g⟩ := aH.get Q
   obtain ⟨R, aI, S⟩ := ae
   obtain rfl := g.eqn
   have aJ := g.len
   replace g : Ls ics 1 aq LR_aN w.heap.size (.slice R x.length S) x := g
   replace K : At aq LL_saN w.heap.size ad ([(.slice R x.length S)]) := K
   have aK := (Xy hv.2 p).1
   refine dT 4 rfl rfl rfl (Qo K (fun i hi => absurd hi List.not_mem_nil) agg30 rfl rfl ?_)
   refine dV 5 rfl rfl rfl (fun _ => Zd rfl) (dV 6 rfl rfl rfl (fun _ => Zd rfl) ?_)
   have aL := (ap.ch0 L).ch0 M
   refine dT 7 rfl rfl rfl (Ql aL Yl el30 sz3 rfl rfl rfl om fun aM af T ag => ?_)
   have ah := Qj f T
   refine dT 8 rfl rfl rfl (Qo ag (fun i hi => absurd hi List.not_mem_nil) agg3 rfl rfl ?_)
   refine dT 9 rfl rfl rfl (Ql (j := af.toNat) g Yl el30 sz3 rfl rfl om om fun aO ai G aj => ?_)
   refine dT 10 rfl rfl rfl (Qo aj (fun i hi => absurd hi List.not_mem_nil) agg3 rfl rfl ?_)
   refine dV 11 rfl rfl rfl (fun _ => Ze rfl) ?_
   refine Yb (by kernel_rfl) ?_
   refine Yc (Zb (an _ _ (Zc (Za rfl rfl (Zd rfl) (Za rfl rfl (Yq om rfl rfl) (Za rfl rfl (Ze rfl) (Zf ?_)))))))
   exact Zb (Exists.intro ((k + 1), ai) ⟨⟨E, om, om, (by rw [Zhc f, ← hm]; exact Zja om b p (ah ▸ G)), (Zaq hv.2 p G), au⟩, sC4 rfl rfl rfl rfl (Sub.nil _), (by first | omega | (dsimp only; omega))⟩)
  have ax := o
  have o := Yp o
  refine Xk (Ya (Ya (Xd ?_)))
  refine Zb (H3 _ _ ?_)
  refine Zg fun a2 aP => ?_
  refine Zc (Za rfl rfl (Zd rfl) (Za rfl rfl (Ze rfl) (Zf (Zb (aP _ _ ?_)))))
  refine Zs ?_
  exact Zi [_] ⟨rfl, trivial⟩ ⟨congrArg (Value.int .i64) (by first | exact Zmg f b | exact Zhe hm om om | (rw [hm, show k = wd.length by omega])), E⟩
 have aw := n
 have n := Yp n
 refine Zj rfl rfl (Zj rfl rfl (Za rfl rfl (Zv rfl rfl) (Zf (Zb (H7 _ _ ?_)))))
 refine Xn rfl ?_
 refine Xk (Ya (Ya (Xd ?_)))
 refine Zb (H3 _ _ ?_)
 refine Zg fun a3 aQ => ?_
 refine Zc (Za rfl rfl (Zd rfl) (Za rfl rfl (Ze rfl) (Zf (Zb (aQ _ _ ?_)))))
 refine Zs ?_
 exact Zi [_] ⟨rfl, trivial⟩ ⟨congrArg (Value.int .i64) (by first | exact Zmg f b | exact Zhe hm om om | (rw [hm, show k = wd.length by omega])), E⟩

/-- spec.RunWord -/
theorem Zio {w : World} (aS : Int) {LL_aA q : Nat} {j : Value} {aA : List Bool} (c : Ls bcs 1 w LL_aA q j aA) {LL_saN n : Nat} {f : Value} {saN : List Sv} (a : Ls Sv.cs 1 w LL_saN n f saN) {LR_aN BB_aN : Nat} {aN : List (List Int)} (b : Rd ics 1 w LR_aN BB_aN saN aN) {LL_wd r : Nat} {k : Value} {wd : List Int} (d : Ls ics 1 w LL_wd r k wd) :
 Ctr Try.prog 61 #[(.agg #[(.int .i64 aS), j, f]), k] w (fun v w' => v = .int .i64 (rwR aS aA aN wd) ∧ Ch [] w w') := by
 obtain ⟨l, m, o⟩ := c.val
 subst o
 have A := c.len
 have c := c.here (by decide)
 obtain ⟨g, h, i⟩ := a.val
 subst i
 have x := a.len
 have a := a.here (by decide)
 have b := b.here (by decide)
 have y := b.1
 obtain ⟨s, t, p⟩ := d.val
 subst p
 have B := d.len
 have d := d.here (by decide)
 have E := Ch.refl [] w
 refine Yh (N := 13) (vs0 := [(.agg #[(.int .i64 aS), (.slice l aA.length m), (.slice g saN.length h)]), (.slice s wd.length t)]) Try.func61 rfl rfl rfl ?_
 refine Zg fun K1 H1 => ?_
 refine Zc (Zk rfl rfl ?_)
 refine Xw rfl fun F W2 u C2 R => ?_
 have S := C2.size
 have E := E.trans C2
 have T := u.lt
 replace u : Blk W2 F 27 [(.int .i64 aS), (.slice l aA.length m), (.slice g saN.length h)] := u
 refine Za rfl rfl (Ze rfl) (Zf (Zb (H1 _ _ ?_)))
 refine Zg fun K3 H3 => ?_
 refine Zg fun K4 H4 => ?_
 refine Zc (Za rfl rfl (Zt u.at_ agg27 sz27 rfl) (Zk rfl rfl ?_))
 have F5 := c.ch0 C2
 have F6 := b.ch0 C2
 have F7 := a.ch0 C2
 refine Step.call (Zl (xs := [.tmp 5]) fk13 rfl) (Yw _ F5 F7 F6 ) fun U W8 G => ?_
 obtain ⟨rfl, C8⟩ := G
 have V := C8.size
 have E := E.trans C8
 refine Za rfl rfl (Xi rfl) (Zf (Zb (H4 _ _ ?_)))
 refine Zx rfl (fun e => ?_) (fun e => ?_)
 ·have H := e
  have e := bf_t (Qf e)
  refine Zg fun X I => ?_
  refine Zc (Za rfl rfl (Ze rfl) (Zf (Zb (I _ _ ?_))))
  refine Zs (Zm ?_)
  exact Zi [_] ⟨rfl, trivial⟩ ⟨congrArg (Value.int .i64) (by first | exact Zfr e | exact Zla e), E⟩
 have H := e
 have e := bt_t (Qg e)
 refine Zu ?_
 refine Zb (H3 _ _ ?_)
 refine Zg fun Y J => ?_
 refine Zc ?_
 have C := u.ch0 C8
 refine Za rfl rfl (Zt C.at_ agg27 sz27 rfl) (Za rfl rfl (Zh fa27_0 rfl) (Za rfl rfl (Zp C.at_ agg3 rfl rfl) (Za rfl rfl (Zd rfl) (Zk rfl rfl ?_))))
 have K := F5.ch0 C8
 have L := F6.ch0 C8
 have M := F7.ch0 C8
 have O := (d.ch0 C2).ch0 C8
 refine Step.call (Zl (xs := [.tmp 8, .tmp 10, .tmp 11]) fk99 rfl) (Zkn _ K M L _ O e (by have Z := e.2.1; omega)) fun P aa z => ?_
 obtain ⟨rfl, D⟩ := z
 have Q := D.size
 have E := E.trans D
 refine Za rfl rfl (Ze rfl) (Zf (Zb (J _ _ ?_)))
 refine Zs ?_
 exact Zi [_] ⟨rfl, trivial⟩ ⟨congrArg (Value.int .i64) (by first | exact Zfr e | exact Zla e), E⟩

/-- spec.AcceptsWord -/
theorem Qm {w : World} (aS : Int) {LL_aA t : Nat} {l : Value} {aA : List Bool} (c : Ls bcs 1 w LL_aA t l aA) {LL_saN q : Nat} {g : Value} {saN : List Sv} (a : Ls Sv.cs 1 w LL_saN q g saN) {LR_aN BB_aN : Nat} {aN : List (List Int)} (b : Rd ics 1 w LR_aN BB_aN saN aN) {LL_wd u : Nat} {m : Value} {wd : List Int} (e : Ls ics 1 w LL_wd u m wd) :
 Ctr Try.prog 22 #[(.agg #[(.int .i64 aS), l, g]), m] w (fun v w' => v = .bool (Qy aA (rwR aS aA aN wd)) ∧ Ch [] w w') := by
 obtain ⟨n, o, r⟩ := c.val
 subst r
 have F := c.len
 have c := c.here (by decide)
 obtain ⟨h, i, k⟩ := a.val
 subst k
 have A := a.len
 have a := a.here (by decide)
 have b := b.here (by decide)
 have B := b.1
 obtain ⟨x, y, s⟩ := e.val
 subst s
 have G := e.len
 have e := e.here (by decide)
 have E := Ch.refl [] w
 have hr := Zpn aS aA aN wd
 refine Yh (N := 18) (vs0 := [(.agg #[(.int .i64 aS), (.slice n aA.length o), (.slice h saN.length i)]), (.slice x wd.length y)]) Try.func22 rfl rfl rfl ?_
 refine Zg fun K1 H1 => ?_
 refine Zc (Zk rfl rfl ?_)
 refine Xw rfl fun H W2 z C2 O => ?_
 have P := C2.size
 have E := E.trans C2
 have Q := z.lt
 replace z : Blk W2 H 27 [(.int .i64 aS), (.slice n aA.length o), (.slice h saN.length i)] := z
 refine Za rfl rfl (Ze rfl) (Zf (Zb (H1 _ _ ?_)))
 refine Zg fun K3 H3 => ?_
 refine Zc (Za rfl rfl (Zt z.at_ agg27 sz27 rfl) (Za rfl rfl (Zd rfl) (Zk rfl rfl ?_)))
 have F4 := c.ch0 C2
 have F5 := b.ch0 C2
 have F6 := a.ch0 C2
 have F7 := e.ch0 C2
 refine Step.call (Zl (xs := [.tmp 6, .tmp 7]) fk61 rfl) (Zio _ F4 F6 F5 F7 ) fun R W8 I => ?_
 obtain ⟨rfl, C8⟩ := I
 have S := C8.size
 have E := E.trans C8
 refine Za rfl rfl (Ze rfl) (Zf (Zb (H3 _ _ ?_)))
 refine Zg fun K9 H9 => ?_
 refine Zc (Za rfl rfl (Zd rfl) (Za rfl rfl (Zjj rfl rfl) (Za rfl rfl (Zd rfl) ?_)))
 refine Ym (d := 11) rfl (fun f => ?_) (fun f => ?_)
 ·have C := f
  have f := Yo f
  refine Za rfl rfl (Zh fa27_1 rfl) ?_
  have J := z.ch0 C8
  refine Za rfl rfl (Zp J.at_ agg24 rfl rfl) (Za rfl rfl (Zd rfl) (Zk rfl rfl ?_))
  have K := F4.ch0 C8
  refine (Yy (j := (rwR aS aA aN wd).toNat) K Qa el24 sz4 rfl rfl om om fun L M p D => ?_)
  refine Za rfl rfl (Yk D agg4 rfl rfl) (Za rfl rfl (Zw rfl rfl) (Za rfl rfl (Ze rfl) (Zf (Zb (H9 _ _ ?_)))))
  refine Zs ?_
  exact Zi [_] ⟨rfl, trivial⟩ ⟨congrArg Value.bool (by first | exact Zjc om p | exact Zhm om), E⟩
 have C := f
 have f := Yp f
 refine Zj rfl rfl (Zj rfl rfl (Zj rfl rfl (Zj rfl rfl (Zj rfl rfl (Za rfl rfl (Zv rfl rfl) (Za rfl rfl (Ze rfl) (Zf ?_)))))))
 refine Zb (H9 _ _ ?_)
 refine Zs ?_
 exact Zi [_] ⟨rfl, trivial⟩ ⟨congrArg Value.bool (by first | exact Zjc om p | exact Zhm om), E⟩

/-- spec.l10Has -/
theorem Zdd {w : World} {LL_l A : Nat} {p : Value} {l : List GNode} (j : Ls GNode.cs 5 w LL_l A p l) (x : GNode) :
 Ctr Try.prog 92 #[p, (.agg #[(.int .i64 x.a), (.int .i64 x.b), (.bool x.apart), (.int .i64 x.frm), (.int .i64 x.by_)])] w (fun v w' => v = .bool (tt (hasN l x l.length)) ∧ Ch [] w w') := by
 obtain ⟨q, r, s⟩ := j.val
 subst s
 have Q := j.len
 have j := j.here (by decide)
 have E := Ch.refl [] w
 refine Yh (N := 40) (vs0 := [(.slice q l.length r), (.agg #[(.int .i64 x.a), (.int .i64 x.b), (.bool x.apart), (.int .i64 x.frm), (.int .i64 x.by_)])]) Try.func92 rfl rfl rfl ?_
 refine Zg fun K1 H1 => ?_
 refine Zc (Zk rfl rfl ?_)
 refine Xw rfl fun B W2 y C2 ad => ?_
 have ae := C2.size
 have E := E.trans C2
 have af := y.lt
 replace y : Blk W2 B 110 [(.int .i64 x.a), (.int .i64 x.b), (.bool x.apart), (.int .i64 x.frm), (.int .i64 x.by_)] := y
 refine Za rfl rfl (Ze rfl) (Zf (Zb (H1 _ _ ?_)))
 refine Zg fun K3 H3 => ?_
 refine Zg fun K4 H4 => ?_
 refine Zc (Za rfl rfl (Ze rfl) (Zf (Zb (H4 _ _ ?_))))
 refine Yf ?_
 refine Xo (σ := Nat) (fun (k : Nat) => [(0, (.slice q l.length r)), (3, (.pointer (some ⟨B, 0, none⟩))), (5, (.int .i64 ((k : Nat) : Int)))]) (fun (k : Nat) wx => Ch [] w wx ∧ W2.heap.size ≤ wx.heap.size ∧ (k ≤ l.length) ∧ (¬ hasN l x k) ∧ Blk wx B 110 [(.int .i64 x.a), (.int .i64 x.b), (.bool x.apart), (.int .i64 x.frm), (.int .i64 x.by_)]) (fun (k : Nat) => l.length - k) 0 (sC2 rfl rfl (sC1 rfl (Sub.nil _))) ⟨E, (Nat.le_refl _), om, Zrw, y⟩ ?_
 rintro k R5 ⟨E, R, ag, t, m⟩
 have u := E
 have M := u.size
 have C := m.lt
 refine Zg fun K6 H6 => ?_
 refine Zg fun K7 H7 => ?_
 refine Zc (Za rfl rfl (Zd rfl) (Za rfl rfl (Zd rfl) (Za rfl rfl (Xm (by rw [el111]; rfl) rfl) (Za rfl rfl (Xv rfl rfl) (Zf (Zb (H7 _ _ ?_)))))))
 refine Zx rfl (fun n => ?_) (fun n => ?_)
 ·have S := n
  have n := Yo n
  refine Zu ?_
  refine Zb (H6 _ _ ?_)
  refine Zg fun K9 H9 => ?_
  refine Yf ?_
  refine Zg fun ah D => ?_
  refine Yx [] 28 mixed rfl fun ai z => ?_
  have T := z.size
  have E := E.trans z
  refine dV 0 rfl rfl rfl (fun _ => Zd rfl) (dV 1 rfl rfl rfl (fun _ => Zd rfl) ?_)
  have F := (j.ch0 u).ch0 z
  refine dT 2 rfl rfl rfl (Ql F GNode.len el111 sz110 rfl rfl rfl om fun U V e G => ?_)
  refine dV 3 rfl rfl rfl (fun _ => Zh fa110_0 rfl) ?_
  refine dT 4 rfl rfl rfl (Xj G (fun i hi => absurd hi List.not_mem_nil) agg3 rfl rfl ?_)
  refine dV 5 rfl rfl rfl (fun _ => Zh fa110_0 rfl) ?_
  have o := m.ch0 z
  refine dT 6 rfl rfl rfl (Xj o.at_ (fun i hi => absurd hi List.not_mem_nil) agg3 rfl rfl ?_)
  refine dV 7 rfl rfl rfl (fun _ => Xu rfl rfl) (dV 8 rfl rfl rfl (fun _ => Zd rfl) ?_)
  refine Xe (d := 20) rfl (fun f => ?_) (fun f => ?_)
  ·have H := f
   have f := Yo f
   refine dV 9 rfl rfl rfl (fun _ => Zd rfl) (dV 10 rfl rfl rfl (fun _ => Zd rfl) ?_)
   refine dT 11 rfl rfl rfl (Ql F GNode.len el111 sz110 rfl rfl rfl om fun X Y O I => ?_)
   refine dV 12 rfl rfl rfl (fun _ => Zh fa110_1 rfl) ?_
   refine dT 13 rfl rfl rfl (Xj I (fun i hi => absurd hi List.not_mem_nil) agg3 rfl rfl ?_)
   refine dV 14 rfl rfl rfl (fun _ => Zh fa110_1 rfl) ?_
   refine dT 15 rfl rfl rfl (Xj o.at_ (fun i hi => absurd hi List.not_mem_nil) agg3 rfl rfl ?_)
   refine dV 16 rfl rfl rfl (fun _ => Xu rfl rfl) (dV 17 rfl rfl rfl (fun _ => Zw rfl rfl) (dV 18 rfl rfl rfl (fun _ => Zd rfl) ?_))
   refine Xe (d := 30) rfl (fun g => ?_) (fun g => ?_)
   ·have J := g
    have g := Yo g
    refine dV 19 rfl rfl rfl (fun _ => Zd rfl) (dV 20 rfl rfl rfl (fun _ => Zd rfl) ?_)
    refine dT 21 rfl rfl rfl (Ql F GNode.len el111 sz110 rfl rfl rfl om fun Z aa P K => ?_)
    refine dV 22 rfl rfl rfl (fun _ => Zh fa110_2 rfl) ?_
    refine dT 23 rfl rfl rfl (Xj K (fun i hi => absurd hi List.not_mem_nil) agg4 rfl rfl ?_)
    refine dV 24 rfl rfl rfl (fun _ => Zh fa110_2 rfl) ?_
    refine dT 25 rfl rfl rfl (Xj o.at_ (fun i hi => absurd hi List.not_mem_nil) agg4 rfl rfl ?_)
    refine dV 26 rfl rfl rfl (fun _ => Zbj un4 rfl rfl) (dV 27 rfl rfl rfl (fun _ => Zw rfl rfl) ?_)
    refine Yb (by kernel_rfl) ?_
    refine Zb (D _ _ ?_)
    refine Zx rfl (fun h => ?_) (fun h => ?_)
    ·have L := h
     have h := bt_e h
     refine Zg fun aj ab => ?_
     refine Zc (Za rfl rfl (Ze rfl) (Zf (Zb (ab _ _ ?_))))
     refine Zs (Yi (Zm (Zm (Yi (Zm ?_)))))
     clear H3 H9
     exact Zi [_] ⟨rfl, trivial⟩ ⟨congrArg Value.bool (by first | exact Zq (Zpx e (by simp_all) (by simp_all) (by simp_all)) | exact Zo (Zpy t om)), E⟩
    have L := h
    have h := bf_e h
    refine Zu ?_
    refine Yc (Zb (H9 _ _ (Zc (Za rfl rfl (Zd rfl) (Za rfl rfl (Yq om rfl rfl) (Za rfl rfl (Ze rfl) (Zf ?_)))))))
    exact Zb (Exists.intro (k + 1) ⟨⟨E, om, om, (Zjw t e (fun c => by simp_all)), o⟩, sC2 rfl rfl (sC1 rfl (Sub.nil _)), (by first | omega | (dsimp only; omega))⟩)
   have J := g
   have g := Yp g
   refine dK 19 rfl rfl rfl (dK 20 rfl rfl rfl (dK 21 rfl rfl rfl (dK 22 rfl rfl rfl (dK 23 rfl rfl rfl (dK 24 rfl rfl rfl (dK 25 rfl rfl rfl (dK 26 rfl rfl rfl ?_)))))))
   refine dV 27 rfl rfl rfl (fun _ => Zv rfl rfl) ?_
   refine Yb (by kernel_rfl) ?_
   refine Zb (D _ _ ?_)
   refine Xn rfl ?_
   refine Zu ?_
   refine Yc (Zb (H9 _ _ (Zc (Za rfl rfl (Zd rfl) (Za rfl rfl (Yq om rfl rfl) (Za rfl rfl (Ze rfl) (Zf ?_)))))))
   exact Zb (Exists.intro (k + 1) ⟨⟨E, om, om, (Zjw t e (fun c => by simp_all)), o⟩, sC2 rfl rfl (sC1 rfl (Sub.nil _)), (by first | omega | (dsimp only; omega))⟩)
  have H := f
  have f := Yp f
  refine dK 9 rfl rfl rfl (dK 10 rfl rfl rfl (dK 11 rfl rfl rfl (dK 12 rfl rfl rfl (dK 13 rfl rfl rfl (dK 14 rfl rfl rfl (dK 15 rfl rfl rfl (dK 16 rfl rfl rfl ?_)))))))
  refine dV 17 rfl rfl rfl (fun _ => Zv rfl rfl) (dV 18 rfl rfl rfl (fun _ => Zd rfl) (dK 19 rfl rfl rfl (dK 20 rfl rfl rfl (dK 21 rfl rfl rfl (dK 22 rfl rfl rfl (dK 23 rfl rfl rfl (dK 24 rfl rfl rfl ?_)))))))
  refine dK 25 rfl rfl rfl (dK 26 rfl rfl rfl (dV 27 rfl rfl rfl (fun _ => Zv rfl rfl) ?_))
  refine Yb (by kernel_rfl) ?_
  refine Zb (D _ _ ?_)
  refine Xn rfl ?_
  refine Zu ?_
  refine Yc (Zb (H9 _ _ (Zc (Za rfl rfl (Zd rfl) (Za rfl rfl (Yq om rfl rfl) (Za rfl rfl (Ze rfl) (Zf ?_)))))))
  exact Zb (Exists.intro (k + 1) ⟨⟨E, om, om, (Zjw t e (fun c => by simp_all)), o⟩, sC2 rfl rfl (sC1 rfl (Sub.nil _)), (by first | omega | (dsimp only; omega))⟩)
 have S := n
 have n := Yp n
 refine Xk (Ya (Ya (Xd ?_)))
 refine Zb (H3 _ _ ?_)
 refine Zg fun ak ac => ?_
 refine Zc (Za rfl rfl (Ze rfl) (Zf (Zb (ac _ _ ?_))))
 refine Zs ?_
 exact Zi [_] ⟨rfl, trivial⟩ ⟨congrArg Value.bool (by first | exact Zq (Zpx e (by simp_all) (by simp_all) (by simp_all)) | exact Zo (Zpy t om)), E⟩

/-- spec.l10Word -/
theorem Zem {w : World} {LL_l J : Nat} {s : Value} {l : List GNode} (c : Ls GNode.cs 5 w LL_l J s l) (k : Int) (EE : List (St2 × List Int)) (hn : NdR l EE) (ad : 0 ≤ k ∧ k < l.length) (hW : ∀ x ∈ EE, x.2.length ≤ 1000) :
 Ctr Try.prog 90 #[s, (.int .i64 k)] w (fun v w' => Ol ics 3 1 w' v (ndw EE k) ∧ Lo w.heap.size v ∧ Ch [] w w') := by
 obtain ⟨t, u, y⟩ := c.val
 subst y
 have ae := c.len
 have c := c.here (by decide)
 have E := Ch.refl [] w
 refine Yh (N := 23) (vs0 := [(.slice t l.length u), (.int .i64 k)]) Try.func90 rfl rfl rfl ?_
 refine Zg fun K1 H1 => ?_
 refine Zc (Za rfl rfl (Ze rfl) (Zf (Zb (H1 _ _ ?_))))
 refine Zg fun K2 H2 => ?_
 refine Zc (Zk rfl rfl ?_)
 refine Xt (k := 1) ics el30 sz3 fun ax W3 S K C3 => ?_
 have ay := C3.size
 have E := E.trans C3
 obtain ⟨z, A, rfl, af, T⟩ := S.opn
 refine Za rfl rfl (Ze rfl) (Zf (Zb (H2 _ _ ?_)))
 refine Zg fun K4 H4 => ?_
 refine Yf ?_
 have B : Ol ics 3 1 W3 (.slice z (([] : List Int)).length A) (([] : List Int)) := by
  have hx := S
  exact hx
 refine Xo (σ := Int × List Int × Value) (fun ⟨q, o, kv⟩ => [(0, (.slice t l.length u)), (1, (.int .i64 q)), (4, (.slice none 0 0)), (5, kv)]) (fun ⟨q, o, kv⟩ wx => Ch [] w wx ∧ W3.heap.size ≤ wx.heap.size ∧ (0 ≤ q ∧ q < l.length) ∧ (ndw EE q ++ o = ndw EE k) ∧ (o.length ≤ 1000) ∧ Ol ics 3 1 wx kv o ∧ Lo w.heap.size kv) (fun ⟨q, o, kv⟩ => q.toNat) (k, ([] : List Int), (.slice z (([] : List Int)).length A)) (sC4 rfl rfl rfl rfl (Sub.nil _)) ⟨E, (Nat.le_refl _), ad, (by simp), (by simp), B, K⟩ ?_
 rintro ⟨q, o, kv⟩ R6 ⟨E, ag, hq, ho, hb, d, m⟩
 have C := E
 have U := C.size
 obtain ⟨Akv, Ckv, rfl, lkv, hikv⟩ := d.opn
 refine Zg fun K7 H7 => ?_
 refine Zg fun K8 H8 => ?_
 refine Zc (Za rfl rfl (Zd rfl) (Za rfl rfl (Zec rfl rfl) (Zf (Zb (H8 _ _ ?_)))))
 refine Zx rfl (fun n => ?_) (fun n => ?_)
 ·have ah := n
  have n := Yo n
  refine Zu ?_
  refine Zb (H7 _ _ ?_)
  refine Yf ?_
  refine Zg fun az ai => ?_
  refine Zc (Za rfl rfl (Zd rfl) (Za rfl rfl (Zd rfl) (Zk rfl rfl ?_)))
  have V := c.ch0 C
  refine (Yy (j := q.toNat) V GNode.len el111 sz110 rfl rfl om om fun aj e a L => ?_)
  have nd := Zsb hn om a
  have X := congrArg List.length ho
  have aA := Zum (k := k) hW
  rw [nd.1] at X
  simp only [List.length_append, List.length_singleton] at X
  refine Za rfl rfl (Zh fa110_4 rfl) (Za rfl rfl (Zp L agg3 rfl rfl) (Zk rfl rfl ?_))
  refine Zr (cs := ics) (parts := [(0, .tmp 13)]) (0 : Int) [e.by_] el30 sz3 zr3 Yl (by decide) rfl rfl rfl (by decide) (by decide) rfl fun ak aB D f I => ?_
  have al := I.size
  have E := E.trans I
  obtain ⟨Y, Z, rfl, aa, M⟩ := D.opn
  refine Za rfl rfl (Zd rfl) (Zk rfl rfl ?_)
  have am := d.ch0 I
  refine Yj (cs := ics) el30 sz3 by3 zr3 rfl (by decide) Xz D am.ls rfl rfl (by first | omega | (simp only [List.length_singleton]; omega)) (by first | omega | (simp only [List.length_singleton]; omega)) f om fun an ao F G ab O => ?_
  have ap := O.size
  have E := E.step O (fun i hi => .inl (by have aq := f _ hi; omega))
  obtain ⟨g, h, rfl, ac, P⟩ := F.opn
  refine Za rfl rfl (Ze rfl) (Zf (Zb (ai _ _ (Zc (Za rfl rfl (Zd rfl) (Za rfl rfl (Zd rfl) (Zk rfl rfl ?_)))))))
  have au := (V.ch0 I).ch O (fun i hi => by have aq := f _ hi; omega)
  refine (Yy (j := q.toNat) au GNode.len el111 sz110 rfl rfl om om fun av Q b R => ?_)
  refine Za rfl rfl (Zh fa110_3 rfl) (Za rfl rfl (Zp R agg3 rfl rfl) (Za rfl rfl (Ze rfl) (Zf (Yc ?_))))
  have p : Ol ics 3 1 ao (.slice g (([e.by_] ++ o)).length h) (([e.by_] ++ o)) := by
   have hx := F
   exact hx
  exact Zb (Exists.intro (Q.frm, ([e.by_] ++ o), (.slice g (([e.by_] ++ o)).length h)) ⟨⟨E, om, (by have r := Qj a b; rw [← r]; omega), (by have r := Qj a b; rw [← ho, nd.1, ← r]; simp), (by have r := Qj a b; simp only [List.length_append, List.length_singleton]; omega), p, (Lo.down G om)⟩, sC4 rfl rfl rfl rfl (Sub.nil _), (by have r := Qj a b; rw [← r]; dsimp only; omega)⟩)
 have ah := n
 have n := Yp n
 refine Xk (Ya (Ya (Xd ?_)))
 refine Zb (H4 _ _ ?_)
 refine Zg fun aC aw => ?_
 refine Zc (Za rfl rfl (Zd rfl) (Za rfl rfl (Ze rfl) (Zf (Zb (aw _ _ ?_)))))
 refine Zs ?_
 have H : Ol ics 3 1 R6 (.slice Akv (o).length Ckv) (ndw EE k) := by
  have hx := d
  rw [← ho, Zso hn om om]; simpa using hx
 exact Zi [_] ⟨rfl, trivial⟩ ⟨H, Lo.down m om, E⟩

/-- spec.l12Accept -/
theorem Zdf {w : World} (aS : Int) {LL_aA q : Nat} {i : Value} {aA : List Bool} (b : Ls bcs 1 w LL_aA q i aA) {LL_saN n : Nat} {e : Value} {saN : List Sv} (a : Ls Sv.cs 1 w LL_saN n e saN) {LR_aN BB_aN : Nat} {aN : List (List Int)} (c : Rd ics 1 w LR_aN BB_aN saN aN) (s : Int) (hs : s ≤ (aA.length : Int) - 1) :
 Ctr Try.prog 89 #[(.agg #[(.int .i64 aS), i, e]), (.int .i64 s)] w (fun v w' => v = .bool (Qy aA s) ∧ Ch [] w w') := by
 obtain ⟨k, l, o⟩ := b.val
 subst o
 have y := b.len
 have b := b.here (by decide)
 obtain ⟨f, g, h⟩ := a.val
 subst h
 have t := a.len
 have a := a.here (by decide)
 have c := c.here (by decide)
 have u := c.1
 have E := Ch.refl [] w
 refine Yh (N := 14) (vs0 := [(.agg #[(.int .i64 aS), (.slice k aA.length l), (.slice f saN.length g)]), (.int .i64 s)]) Try.func89 rfl rfl rfl ?_
 refine Zg fun K1 H1 => ?_
 refine Zc (Zk rfl rfl ?_)
 refine Xw rfl fun z W2 r C2 D => ?_
 have F := C2.size
 have E := E.trans C2
 have G := r.lt
 replace r : Blk W2 z 27 [(.int .i64 aS), (.slice k aA.length l), (.slice f saN.length g)] := r
 refine Za rfl rfl (Ze rfl) (Zf (Zb (H1 _ _ ?_)))
 refine Zg fun K3 H3 => ?_
 refine Zc (Za rfl rfl (Zd rfl) (Za rfl rfl (Zjj rfl rfl) (Za rfl rfl (Zd rfl) ?_)))
 refine Ym (d := 7) rfl (fun p => ?_) (fun p => ?_)
 ·have A := p
  have p := Yo p
  refine Za rfl rfl (Zh fa27_1 rfl) (Za rfl rfl (Zp r.at_ agg24 rfl rfl) (Za rfl rfl (Zd rfl) (Zk rfl rfl ?_)))
  have F5 := b.ch0 C2
  refine (Yy (j := s.toNat) F5 Qa el24 sz4 rfl rfl om om fun B C m x => ?_)
  refine Za rfl rfl (Yk x agg4 rfl rfl) (Za rfl rfl (Zw rfl rfl) (Za rfl rfl (Ze rfl) (Zf (Zb (H3 _ _ ?_)))))
  refine Zs ?_
  exact Zi [_] ⟨rfl, trivial⟩ ⟨congrArg Value.bool (by first | exact Zjc om m | exact Zhm om), E⟩
 have A := p
 have p := Yp p
 refine Zj rfl rfl (Zj rfl rfl (Zj rfl rfl (Zj rfl rfl (Zj rfl rfl (Za rfl rfl (Zv rfl rfl) (Za rfl rfl (Ze rfl) (Zf ?_)))))))
 refine Zb (H3 _ _ ?_)
 refine Zs ?_
 exact Zi [_] ⟨rfl, trivial⟩ ⟨congrArg Value.bool (by first | exact Zjc om m | exact Zhm om), E⟩

/-- spec.l12Next -/
theorem Xr {w : World} (aS : Int) {LL_aA u : Nat} {l : Value} {aA : List Bool} (e : Ls bcs 1 w LL_aA u l aA) {LL_saN p : Nat} {f : Value} {saN : List Sv} (a : Ls Sv.cs 1 w LL_saN p f saN) {LR_aN BB_aN : Nat} {aN : List (List Int)} (b : Rd ics 1 w LR_aN BB_aN saN aN) (s : Int) (x : Int) (hv : Yz aS aA aN) (hs : -1 ≤ s ∧ s ≤ (aA.length : Int) - 1) (hx : 0 ≤ x ∧ x ≤ 8) :
 Ctr Try.prog 91 #[(.agg #[(.int .i64 aS), l, f]), (.int .i64 s), (.int .i64 x)] w (fun v w' => v = .int .i64 (Yd aN s x) ∧ Ch [] w w') := by
 obtain ⟨m, n, q⟩ := e.val
 subst q
 have I := e.len
 have e := e.here (by decide)
 obtain ⟨g, h, k⟩ := a.val
 subst k
 have C := a.len
 have a := a.here (by decide)
 have b := b.here (by decide)
 have D := b.1
 have E := Ch.refl [] w
 have R := hv.2.2.1
 refine Yh (N := 17) (vs0 := [(.agg #[(.int .i64 aS), (.slice m aA.length n), (.slice g saN.length h)]), (.int .i64 s), (.int .i64 x)]) Try.func91 rfl rfl rfl ?_
 refine Zg fun K1 H1 => ?_
 refine Zc (Zk rfl rfl ?_)
 refine Xw rfl fun J W2 B C2 S => ?_
 have T := C2.size
 have E := E.trans C2
 have U := B.lt
 replace B : Blk W2 J 27 [(.int .i64 aS), (.slice m aA.length n), (.slice g saN.length h)] := B
 refine Za rfl rfl (Ze rfl) (Zf (Zb (H1 _ _ ?_)))
 refine Zg fun K3 H3 => ?_
 refine Zg fun K4 H4 => ?_
 refine Zc (Za rfl rfl (Zd rfl) (Za rfl rfl (Xv rfl rfl) (Zf (Zb (H4 _ _ ?_)))))
 refine Zx rfl (fun r => ?_) (fun r => ?_)
 ·have K := r
  have r := Yo r
  refine Zg fun K6 H6 => ?_
  refine Zc (Za rfl rfl (Ze rfl) (Zf (Zb (H6 _ _ ?_))))
  refine Zs (Zm ?_)
  exact Zi [_] ⟨rfl, trivial⟩ ⟨congrArg (Value.int .i64) (by first | exact Zja om hx d o | exact Zcp (.inl om)), E⟩
 have K := r
 have r := Yp r
 refine Zu ?_
 refine Zb (H3 _ _ ?_)
 refine Zg fun K7 H7 => ?_
 refine Zc (Za rfl rfl (Zh fa27_2 rfl) (Za rfl rfl (Zp B.at_ agg25 rfl rfl) (Za rfl rfl (Zd rfl) (Zk rfl rfl ?_))))
 have F8 := a.ch0 C2
 refine (Yy (j := s.toNat) F8 Sv.len el25 sz30 rfl rfl om om fun F G y t => ?_)
 have F9 := b.ch0 C2
 obtain ⟨i, d, c⟩ := F9.get y
 obtain ⟨z, L, A⟩ := G
 obtain rfl := c.eqn
 have M := c.len
 replace c : Ls ics 1 W2 LR_aN w.heap.size (.slice z i.length A) i := c
 replace t : At W2 LL_saN w.heap.size F ([(.slice z i.length A)]) := t
 have O := (Xy hv.2 d).1
 refine Za rfl rfl (Yk t agg30 rfl rfl) (Za rfl rfl (Zd rfl) (Zk rfl rfl ?_))
 refine (Yy (j := x.toNat) c Yl el30 sz3 rfl rfl om om fun P Q o H => ?_)
 refine Za rfl rfl (Yk H agg3 rfl rfl) (Za rfl rfl (Ze rfl) (Zf (Zb (H7 _ _ ?_))))
 refine Zs ?_
 exact Zi [_] ⟨rfl, trivial⟩ ⟨congrArg (Value.int .i64) (by first | exact Zja om hx d o | exact Zcp (.inl om)), E⟩

end Go.Proofs.Ytgnlfnkgkcmdjaa
