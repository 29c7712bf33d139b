/- Walks of functions that FnMinimal reaches: what each returns, and that it leaves the memory that was there alone. -/
import Derived.Test.YtgnlfnkgkcmdjaaLibA
import Derived.Test.YtgnlfnkgkcmdjaaLibB
import Derived.Test.YtgnlfnkgkcmdjaaProg
namespace Go.Proofs.Ytgnlfnkgkcmdjaa
open Go.KLib Go.Shelf
set_option maxHeartbeats 1000000
set_option maxRecDepth 20000
set_option linter.unusedVariables false
set_option linter.unusedSimpArgs false
namespace TMinimal
theorem agg106 : Ys Try.prog 106 = some true := by kernel_rfl
theorem agg24 : Ys Try.prog 24 = some false := by kernel_rfl
theorem agg25 : Ys Try.prog 25 = some false := by kernel_rfl
theorem agg27 : Ys Try.prog 27 = some true := by kernel_rfl
theorem agg3 : Ys Try.prog 3 = some false := by kernel_rfl
theorem agg30 : Ys Try.prog 30 = some false := by kernel_rfl
theorem agg4 : Ys Try.prog 4 = some false := by kernel_rfl
theorem agg69 : Ys Try.prog 69 = some true := by kernel_rfl
theorem by106 : Qe Try.prog 106 = some 40 := by kernel_rfl
theorem by3 : Qe Try.prog 3 = some 8 := by kernel_rfl
theorem by30 : Qe Try.prog 30 = some 24 := by kernel_rfl
theorem by4 : Qe Try.prog 4 = some 1 := by kernel_rfl
theorem el107 : elB Try.prog 107 = some 106 := by kernel_rfl
theorem el111 : elB Try.prog 111 = some 110 := by kernel_rfl
theorem el22 : elB Try.prog 22 = some 5 := by kernel_rfl
theorem el24 : elB Try.prog 24 = some 4 := by kernel_rfl
theorem el25 : elB Try.prog 25 = some 30 := by kernel_rfl
theorem el30 : elB Try.prog 30 = some 3 := by kernel_rfl
theorem fa106_0 : faB Try.prog 106 0 = some 0 := by kernel_rfl
theorem fa106_1 : faB Try.prog 106 1 = some 2 := by kernel_rfl
theorem fa110_0 : faB Try.prog 110 0 = some 0 := by kernel_rfl
theorem fa110_1 : faB Try.prog 110 1 = some 1 := by kernel_rfl
theorem fa110_2 : faB Try.prog 110 2 = some 2 := by kernel_rfl
theorem fa110_3 : faB Try.prog 110 3 = some 3 := by kernel_rfl
theorem fa110_4 : faB Try.prog 110 4 = some 4 := by kernel_rfl
theorem fa27_0 : faB Try.prog 27 0 = some 0 := by kernel_rfl
theorem fa27_1 : faB Try.prog 27 1 = some 1 := by kernel_rfl
theorem fa27_2 : faB Try.prog 27 2 = some 2 := by kernel_rfl
theorem fa69_0 : faB Try.prog 69 0 = some 0 := by kernel_rfl
theorem fa69_1 : faB Try.prog 69 1 = some 1 := by kernel_rfl
theorem fk121 : fnB Try.prog 121 = true := by kernel_rfl
theorem fk122 : fnB Try.prog 122 = true := by kernel_rfl
theorem fk123 : fnB Try.prog 123 = true := by kernel_rfl
theorem fk43 : fnB Try.prog 43 = true := by kernel_rfl
theorem fk44 : fnB Try.prog 44 = true := by kernel_rfl
theorem fk45 : fnB Try.prog 45 = true := by kernel_rfl
theorem fk46 : fnB Try.prog 46 = true := by kernel_rfl
theorem fk47 : fnB Try.prog 47 = true := by kernel_rfl
theorem fk48 : fnB Try.prog 48 = true := by kernel_rfl
theorem fk49 : fnB Try.prog 49 = true := by kernel_rfl
theorem fk51 : fnB Try.prog 51 = true := by kernel_rfl
theorem fk53 : fnB Try.prog 53 = true := by kernel_rfl
theorem fk54 : fnB Try.prog 54 = true := by kernel_rfl
theorem fk58 : fnB Try.prog 58 = true := by kernel_rfl
theorem fk60 : fnB Try.prog 60 = true := by kernel_rfl
theorem fk83 : fnB Try.prog 83 = true := by kernel_rfl
theorem fk87 : fnB Try.prog 87 = true := by kernel_rfl
theorem fk88 : fnB Try.prog 88 = true := by kernel_rfl
theorem fk93 : fnB Try.prog 93 = true := by kernel_rfl
theorem fk98 : fnB Try.prog 98 = true := by kernel_rfl
theorem ist69 : Zcl Try.prog 69 2 = true := by kernel_rfl
theorem mixed : Try.prog.follows .mixedOrders = true := by kernel_rfl
theorem pl106 : Qh Try.prog 106 = some [(0, 2), (2, 1)] := by kernel_rfl
theorem pl69 : Qh Try.prog 69 = some [(0, 1), (1, 1)] := by kernel_rfl
theorem sz106 : Yb Try.prog 106 = some 3 := by kernel_rfl
theorem sz110 : Yb Try.prog 110 = some 5 := by kernel_rfl
theorem sz27 : Yb Try.prog 27 = some 3 := by kernel_rfl
theorem sz3 : Yb Try.prog 3 = some 1 := by kernel_rfl
theorem sz30 : Yb Try.prog 30 = some 1 := by kernel_rfl
theorem sz4 : Yb Try.prog 4 = some 1 := by kernel_rfl
theorem sz69 : Yb Try.prog 69 = some 2 := by kernel_rfl
theorem un104 : Try.prog.underlying 104 = some (.map 69 4) := by kernel_rfl
theorem un4 : Try.prog.underlying 4 = some (.bool) := by kernel_rfl
theorem zr106 : Xb Try.prog 106 = some (.agg #[.int .i64 0, .int .i64 0, .slice none 0 0]) := by kernel_rfl
theorem zr3 : Xb Try.prog 3 = some (.int .i64 0) := by kernel_rfl
theorem zr30 : Xb Try.prog 30 = some (.slice none 0 0) := by kernel_rfl
theorem zr4 : Xb Try.prog 4 = some (.bool false) := by kernel_rfl
theorem zr69 : Xb Try.prog 69 = some (.agg #[.int .i64 0, .int .i64 0]) := by kernel_rfl
end TMinimal
open TMinimal

/-- impl.Automaton).accepts -/
theorem Zaa {w : World} (aS : Int) {LL_aA q : Nat} {i : Value} {aA : List Bool} (b : Ls bcs 1 w LL_aA q i aA) {LL_saN n : Nat} {e : Value} {saN : List Sv} (a : Ls Sv.cs 1 w LL_saN n e saN) {LR_aN BB_aN : Nat} {aN : List (List Int)} (c : Rd ics 1 w LR_aN BB_aN saN aN) (s : Int) (hs : s ≤ (aA.length : Int) - 1) :
 Ctr Try.prog 48 #[(.agg #[(.int .i64 aS), i, e]), (.int .i64 s)] w (fun v w' => v = .bool (Qd aA s) ∧ Ch [] w w') := by
 obtain ⟨k, l, o⟩ := b.val
 subst o
 have y := b.len
 have b := b.here (by decide)
 obtain ⟨f, g, h⟩ := a.val
 subst h
 have t := a.len
 have a := a.here (by decide)
 have c := c.here (by decide)
 have u := c.1
 have E := Ch.refl [] w
 refine Yc (N := 14) (vs0 := [(.agg #[(.int .i64 aS), (.slice k aA.length l), (.slice f saN.length g)]), (.int .i64 s)]) Try.func48 rfl rfl rfl ?_
 refine Zg fun K1 H1 => ?_
 refine Zc (Zk rfl rfl ?_)
 refine Xz rfl fun z W2 r C2 D => ?_
 have F := C2.size
 have E := E.trans C2
 have G := r.lt
 replace r : Blk W2 z 27 [(.int .i64 aS), (.slice k aA.length l), (.slice f saN.length g)] := r
 refine Za rfl rfl (Zd rfl) (Zf (Zb (H1 _ _ ?_)))
 refine Zg fun K3 H3 => ?_
 refine Zc (Za rfl rfl (Ze rfl) (Za rfl rfl (Ziv rfl rfl) (Za rfl rfl (Ze rfl) ?_)))
 refine Yn (d := 7) rfl (fun p => ?_) (fun p => ?_)
 ·have A := p
  have p := Yf p
  refine Za rfl rfl (Zh fa27_1 rfl) (Za rfl rfl (Zm r.at_ agg24 rfl rfl) (Za rfl rfl (Ze rfl) (Zk rfl rfl ?_)))
  have F5 := (b.ch0 C2)
  refine (Yo (j := s.toNat) F5 Qq el24 sz4 rfl rfl (by omega) (by omega) fun B C m x => ?_)
  refine Za rfl rfl (Yg x agg4 rfl rfl) (Za rfl rfl (Yi rfl rfl) (Za rfl rfl (Zd rfl) (Zf (Zb (H3 _ _ ?_)))))
  refine Zr ?_
  exact Zi [_] ⟨rfl, trivial⟩ ⟨congrArg Value.bool (by first | exact Zml (by omega) m | exact Zkn (by omega)), E⟩
 have A := p
 have p := Ye p
 refine Zj rfl rfl (Zj rfl rfl (Zj rfl rfl (Zj rfl rfl (Zj rfl rfl (Za rfl rfl (Ym rfl rfl) (Za rfl rfl (Zd rfl) (Zf ?_)))))))
 refine Zb (H3 _ _ ?_)
 refine Zr ?_
 exact Zi [_] ⟨rfl, trivial⟩ ⟨congrArg Value.bool (by first | exact Zml (by omega) m | exact Zkn (by omega)), E⟩

/-- impl.within -/
theorem Zam {w : World} (n : Int) (a : Int) (b : Int) :
 Ctr Try.prog 44 #[(.int .i64 n), (.int .i64 a), (.int .i64 b)] w (fun v w' => v = .bool (decide (a ≤ n ∧ n ≤ b)) ∧ Ch [] w w') := by
 have E := Ch.refl [] w
 refine Yc (N := 15) (vs0 := [(.int .i64 n), (.int .i64 a), (.int .i64 b)]) Try.func44 rfl rfl rfl ?_
 refine Zg fun K1 H1 => ?_
 refine Zc (Za rfl rfl (Zd rfl) (Zf (Zb (H1 _ _ ?_))))
 refine Zg fun K2 H2 => ?_
 refine Zc (Za rfl rfl (Ze rfl) (Za rfl rfl (Ze rfl) (Za rfl rfl (Ziv rfl rfl) (Za rfl rfl (Ze rfl) ?_))))
 refine Yn (d := 10) rfl (fun c => ?_) (fun c => ?_)
 ·have e := c
  have c := Yf c
  refine Za rfl rfl (Ze rfl) (Za rfl rfl (Ze rfl) (Za rfl rfl (Zit rfl rfl) (Za rfl rfl (Yi rfl rfl) (Za rfl rfl (Zd rfl) (Zf (Zb (H2 _ _ ?_)))))))
  refine Zr ?_
  exact Zi [_] ⟨rfl, trivial⟩ ⟨congrArg Value.bool (by first | rfl | (rw [Bool.eq_iff_iff]; simp <;> omega) | (rw [Bool.eq_iff_iff]; simp_all; done) | simp_all), E⟩
 have e := c
 have c := Ye c
 refine Zj rfl rfl (Zj rfl rfl (Zj rfl rfl (Za rfl rfl (Ym rfl rfl) (Za rfl rfl (Zd rfl) (Zf (Zb (H2 _ _ ?_)))))))
 refine Zr ?_
 exact Zi [_] ⟨rfl, trivial⟩ ⟨congrArg Value.bool (by first | rfl | (rw [Bool.eq_iff_iff]; simp <;> omega) | (rw [Bool.eq_iff_iff]; simp_all; done) | simp_all), E⟩

/-- impl.isLetter -/
theorem Zhm {w : World} (n : Int) :
 Ctr Try.prog 83 #[(.int .i64 n)] w (fun v w' => v = .bool (decide (0 ≤ n ∧ n ≤ 8)) ∧ Ch [] w w') := by
 have E := Ch.refl [] w
 refine Yc (N := 5) (vs0 := [(.int .i64 n)]) Try.func83 rfl rfl rfl ?_
 refine Zg fun K1 H1 => ?_
 refine Zc (Za rfl rfl (Zd rfl) (Zf (Zb (H1 _ _ ?_))))
 refine Zg fun K2 H2 => ?_
 refine Zc (Za rfl rfl (Ze rfl) (Zk rfl rfl ?_))
 refine Step.call (Zn (xs := [.tmp 3, .const (Go.Value.int Go.IntKind.i64 0), .const (Go.Value.int Go.IntKind.i64 8)]) fk44 rfl) (Zam _ _ _ ) fun b W3 a => ?_
 obtain ⟨rfl, C3⟩ := a
 have c := C3.size
 have E := E.trans C3
 refine Za rfl rfl (Zd rfl) (Zf (Zb (H2 _ _ ?_)))
 refine Zr ?_
 exact Zi [_] ⟨rfl, trivial⟩ ⟨congrArg Value.bool rfl, E⟩

/-- impl.Automaton).move -/
theorem Zaj {w : World} (aS : Int) {LL_aA z : Nat} {p : Value} {aA : List Bool} (g : Ls bcs 1 w LL_aA z p aA) {LL_saN t : Nat} {h : Value} {saN : List Sv} (b : Ls Sv.cs 1 w LL_saN t h saN) {LR_aN BB_aN : Nat} {aN : List (List Int)} (c : Rd ics 1 w LR_aN BB_aN saN aN) (s : Int) (x : Int) (hv : Xe aS aA aN) (hs : -1 ≤ s ∧ s ≤ (aA.length : Int) - 1) :
 Ctr Try.prog 58 #[(.agg #[(.int .i64 aS), p, h]), (.int .i64 s), (.int .i64 x)] w (fun v w' => v = .int .i64 (Zz aN s x) ∧ Ch [] w w') := by
 obtain ⟨q, r, u⟩ := g.val
 subst u
 have L := g.len
 have g := g.here (by decide)
 obtain ⟨i, k, o⟩ := b.val
 subst o
 have F := b.len
 have b := b.here (by decide)
 have c := c.here (by decide)
 have G := c.1
 have E := Ch.refl [] w
 have ab := hv.2.2.1
 refine Yc (N := 22) (vs0 := [(.agg #[(.int .i64 aS), (.slice q aA.length r), (.slice i saN.length k)]), (.int .i64 s), (.int .i64 x)]) Try.func58 rfl rfl rfl ?_
 refine Zg fun K1 H1 => ?_
 refine Zc (Zk rfl rfl ?_)
 refine Xz rfl fun M W2 D C2 ac => ?_
 have ad := C2.size
 have E := E.trans C2
 have ae := D.lt
 replace D : Blk W2 M 27 [(.int .i64 aS), (.slice q aA.length r), (.slice i saN.length k)] := D
 refine Za rfl rfl (Zd rfl) (Zf (Zb (H1 _ _ ?_)))
 refine Zg fun K3 H3 => ?_
 refine Zg fun K4 H4 => ?_
 refine Zc (Za rfl rfl (Ze rfl) (Za rfl rfl (Xi rfl rfl) (Za rfl rfl (Ze rfl) ?_)))
 refine Yn (d := 9) rfl (fun n => ?_) (fun n => ?_)
 ·have O := n
  have n := Yf n
  refine Zj rfl rfl (Zj rfl rfl (Zj rfl rfl (Za rfl rfl (Yi rfl rfl) (Zf (Zb (H4 _ _ ?_))))))
  refine Xp rfl ?_
  refine Zg fun K6 H6 => ?_
  refine Zc (Za rfl rfl (Zd rfl) (Zf (Zb (H6 _ _ ?_))))
  refine Zr (Zl ?_)
  exact Zi [_] ⟨rfl, trivial⟩ ⟨congrArg (Value.int .i64) (by first | exact Zkj (by omega) a e l | exact Zdg (.inl n) | exact Zdg (.inr a) | exact Zdg (.inl (by omega))), E⟩
 have O := n
 have n := Ye n
 refine Za rfl rfl (Ze rfl) (Zk rfl rfl ?_)
 refine Step.call (Zn (xs := [.tmp 10]) fk83 rfl) (Zhm _ ) fun P W7 H => ?_
 obtain ⟨rfl, C7⟩ := H
 have af := C7.size
 have E := E.trans C7
 refine Za rfl rfl (Xu rfl) (Za rfl rfl (Ym rfl rfl) (Zf (Zb (H4 _ _ ?_))))
 refine Zp rfl (fun a => ?_) (fun a => ?_)
 ·have Q := a
  have a := Ye (Qb a)
  refine Zg fun K9 H9 => ?_
  refine Zc (Za rfl rfl (Zd rfl) (Zf (Zb (H9 _ _ ?_))))
  refine Zr (Zl ?_)
  exact Zi [_] ⟨rfl, trivial⟩ ⟨congrArg (Value.int .i64) (by first | exact Zkj (by omega) a e l | exact Zdg (.inl n) | exact Zdg (.inr a) | exact Zdg (.inl (by omega))), E⟩
 have Q := a
 have a := Yf (Qc a)
 refine Zq ?_
 refine Zb (H3 _ _ ?_)
 refine Zg fun ag R => ?_
 refine Zc (Za rfl rfl (Zh fa27_2 rfl) ?_)
 have S := (D.ch0 C7)
 refine Za rfl rfl (Zm S.at_ agg25 rfl rfl) (Za rfl rfl (Ze rfl) (Zk rfl rfl ?_))
 have T := ((b.ch0 C2).ch0 C7)
 refine (Yo (j := s.toNat) T Sv.len el25 sz30 rfl rfl (by omega) (by omega) fun I J A y => ?_)
 have U := ((c.ch0 C2).ch0 C7)
 obtain ⟨m, e, f⟩ := U.get A
 obtain ⟨B, V, C⟩ := J
 obtain rfl := f.eqn
 have X := f.len
 replace f : Ls ics 1 W7 LR_aN w.heap.size (.slice B m.length C) m := f
 replace y : At W7 LL_saN w.heap.size I ([(.slice B m.length C)]) := y
 have Y := (Xo hv.2 e).1
 refine Za rfl rfl (Yg y agg30 rfl rfl) (Za rfl rfl (Ze rfl) (Zk rfl rfl ?_))
 refine (Yo (j := x.toNat) f Yh el30 sz3 rfl rfl (by omega) (by omega) fun Z aa l K => ?_)
 refine Za rfl rfl (Yg K agg3 rfl rfl) (Za rfl rfl (Zd rfl) (Zf (Zb (R _ _ ?_))))
 refine Zr ?_
 exact Zi [_] ⟨rfl, trivial⟩ ⟨congrArg (Value.int .i64) (by first | exact Zkj (by omega) a e l | exact Zdg (.inl n) | exact Zdg (.inr a) | exact Zdg (.inl (by omega))), E⟩

/-- impl.IsValidAutomaton -/
theorem Zac {w : World} (aS : Int) {LL_aA O : Nat} {C : Value} {aA : List Bool} (y : Ls bcs 1 w LL_aA O C aA) {LL_saN H : Nat} {z : Value} {saN : List Sv} (j : Ls Sv.cs 1 w LL_saN H z saN) {LR_aN BB_aN : Nat} {aN : List (List Int)} (o : Rd ics 1 w LR_aN BB_aN saN aN) :
 Ctr Try.prog 43 #[(.agg #[(.int .i64 aS), C, z])] w (fun v w' => v = .bool (tt (Xe aS aA aN)) ∧ Ch [] w w') := by
 obtain ⟨D, F, I⟩ := y.val
 subst I
 have ao := y.len
 have y := y.here (by decide)
 obtain ⟨l, m, A⟩ := j.val
 subst A
 have V := j.len
 have j := j.here (by decide)
 have o := o.here (by decide)
 have X := o.1
 have E := Ch.refl [] w
 refine Yc (N := 52) (vs0 := [(.agg #[(.int .i64 aS), (.slice D aA.length F), (.slice l saN.length m)])]) Try.func43 rfl rfl rfl ?_
 refine Zg fun K1 H1 => ?_
 refine Zc (Zk rfl rfl ?_)
 refine Xz rfl fun aB W2 P C2 a9 => ?_
 have ba := C2.size
 have E := E.trans C2
 have bb := P.lt
 replace P : Blk W2 aB 27 [(.int .i64 aS), (.slice D aA.length F), (.slice l saN.length m)] := P
 refine Za rfl rfl (Zd rfl) (Zf (Zb (H1 _ _ ?_)))
 refine Zg fun K3 H3 => ?_
 refine Zc (Za rfl rfl (Zh fa27_1 rfl) (Za rfl rfl (Zm P.at_ agg24 rfl rfl) (Za rfl rfl (Xa (by rw [el24]; rfl) rfl) (Za rfl rfl (Zd rfl) (Zf (Zb (H3 _ _ ?_)))))))
 refine Zg fun K4 H4 => ?_
 refine Zg fun K5 H5 => ?_
 refine Zc (Za rfl rfl (Ze rfl) (Zk rfl rfl ?_))
 refine Step.call (Zn (xs := [.tmp 11, .const (Go.Value.int Go.IntKind.i64 1), .const (Go.Value.int Go.IntKind.i64 12)]) fk44 rfl) (Zam _ _ _ ) fun aC W6 Y => ?_
 obtain ⟨rfl, C6⟩ := Y
 have bc := C6.size
 have E := E.trans C6
 refine Za rfl rfl (Xu rfl) (Za rfl rfl (Ze rfl) ?_)
 refine Yn (d := 14) rfl (fun g => ?_) (fun g => ?_)
 ·have aD := g
  have g := Ye (Qb g)
  refine Zj rfl rfl (Zj rfl rfl (Zj rfl rfl (Zj rfl rfl (Zj rfl rfl (Zj rfl rfl (Za rfl rfl (Yi rfl rfl) (Za rfl rfl (Ze rfl) ?_)))))))
  refine Zj rfl rfl (Zj rfl rfl (Zj rfl rfl (Zj rfl rfl (Zj rfl rfl (Za rfl rfl (Yi rfl rfl) (Zf (Zb (H5 _ _ ?_))))))))
  refine Xp rfl ?_
  refine Zg fun K8 H8 => ?_
  refine Zc (Za rfl rfl (Zd rfl) (Zf (Zb (H8 _ _ ?_))))
  refine Zr (Zl ?_)
  exact Zi [_] ⟨rfl, trivial⟩ ⟨congrArg Value.bool (by first | exact Qx ⟨by omega, c, by omega, Zau J (by omega)⟩ | exact Yj (fun e => g (by have p := e.1; have Q := e.2.1; omega)) | exact Yj (fun e => c e.2.1) | exact Yj (fun e => h (by have p := e.2.2.1; omega)) | exact Yj (fun e => f (Zag e.2 a n)) | exact Yj (fun e => i (by have p := (Xo e.2 a).1; omega))), E⟩
 have aD := g
 have g := Yf (Qc g)
 refine Za rfl rfl (Zh fa27_0 rfl) ?_
 have F9 := (P.ch0 C6)
 refine Za rfl rfl (Zm F9.at_ agg3 rfl rfl) (Za rfl rfl (Ze rfl) (Za rfl rfl (Zay (by omega) rfl rfl) (Zk rfl rfl ?_)))
 refine Step.call (Zn (xs := [.tmp 16, .const (Go.Value.int Go.IntKind.i64 0), .tmp 18]) fk44 rfl) (Zam _ _ _ ) fun aE aF Z => ?_
 obtain ⟨rfl, aa⟩ := Z
 have aG := aa.size
 have E := E.trans aa
 refine Za rfl rfl (Xu rfl) (Za rfl rfl (Ym rfl rfl) (Za rfl rfl (Ze rfl) ?_))
 refine Yn (d := 22) rfl (fun c => ?_) (fun c => ?_)
 ·have ab := c
  have c := Ye (Qb c)
  refine Zj rfl rfl (Zj rfl rfl (Zj rfl rfl (Zj rfl rfl (Zj rfl rfl (Za rfl rfl (Yi rfl rfl) (Zf (Zb (H5 _ _ ?_))))))))
  refine Xp rfl ?_
  refine Zg fun bd aH => ?_
  refine Zc (Za rfl rfl (Zd rfl) (Zf (Zb (aH _ _ ?_))))
  refine Zr (Zl ?_)
  exact Zi [_] ⟨rfl, trivial⟩ ⟨congrArg Value.bool (by first | exact Qx ⟨by omega, c, by omega, Zau J (by omega)⟩ | exact Yj (fun e => g (by have p := e.1; have Q := e.2.1; omega)) | exact Yj (fun e => c e.2.1) | exact Yj (fun e => h (by have p := e.2.2.1; omega)) | exact Yj (fun e => f (Zag e.2 a n)) | exact Yj (fun e => i (by have p := (Xo e.2 a).1; omega))), E⟩
 have ab := c
 have c := Yf (Qc c)
 refine Za rfl rfl (Zh fa27_2 rfl) ?_
 have ap := (F9.ch0 aa)
 refine Za rfl rfl (Zm ap.at_ agg25 rfl rfl) (Za rfl rfl (Xa (by rw [el25]; rfl) rfl) (Za rfl rfl (Ze rfl) (Za rfl rfl (Qv rfl rfl) (Za rfl rfl (Ym rfl rfl) (Zf (Zb (H5 _ _ ?_)))))))
 refine Zp rfl (fun h => ?_) (fun h => ?_)
 ·have ac := h
  have h := Ye (Qb h)
  refine Zg fun be aI => ?_
  refine Zc (Za rfl rfl (Zd rfl) (Zf (Zb (aI _ _ ?_))))
  refine Zr (Zl ?_)
  exact Zi [_] ⟨rfl, trivial⟩ ⟨congrArg Value.bool (by first | exact Qx ⟨by omega, c, by omega, Zau J (by omega)⟩ | exact Yj (fun e => g (by have p := e.1; have Q := e.2.1; omega)) | exact Yj (fun e => c e.2.1) | exact Yj (fun e => h (by have p := e.2.2.1; omega)) | exact Yj (fun e => f (Zag e.2 a n)) | exact Yj (fun e => i (by have p := (Xo e.2 a).1; omega))), E⟩
 have ac := h
 have h := Yf (Qc h)
 refine Zq ?_
 refine Zb (H4 _ _ ?_)
 refine Zg fun bf ad => ?_
 refine Zg fun bg aJ => ?_
 refine Zc (Za rfl rfl (Zh fa27_2 rfl) (Za rfl rfl (Zm ap.at_ agg25 rfl rfl) (Za rfl rfl (Xa (by rw [el25]; rfl) rfl) (Za rfl rfl (Ze rfl) (Zf (Zb (aJ _ _ ?_)))))))
 refine Zx ?_
 refine Xf (σ := Nat) (fun (s : Nat) => [(3, (.int .i64 ((aA.length : Nat) : Int))), (30, (.slice l saN.length m)), (31, (.int .i64 ((saN.length : Nat) : Int))), (32, (.int .i64 ((s : Nat) : Int)))]) (fun (s : Nat) wx => Ch [] w wx ∧ aF.heap.size ≤ wx.heap.size ∧ (s ≤ aN.length) ∧ (Zkf aA.length aN s)) (fun (s : Nat) => aN.length - s) 0 (sC4 rfl rfl rfl rfl (Sub.nil _)) ⟨E, (Nat.le_refl _), (by omega), (Zla _ _)⟩ ?_
 rintro s ae ⟨E, aK, hs, J⟩
 have K := E
 have aq := K.size
 refine Zg fun bh aL => ?_
 refine Zc (Za rfl rfl (Xi rfl rfl) (Zf (Zb (aL _ _ ?_))))
 refine Zg fun bi aM => ?_
 refine Zp rfl (fun r => ?_) (fun r => ?_)
 ·have af := r
  have r := Yf r
  refine Zq ?_
  refine Zb (aM _ _ ?_)
  refine Zg fun bj ag => ?_
  refine Zx ?_
  refine Zg fun bk aO => ?_
  refine Zc (Zk rfl rfl ?_)
  have au := (j.ch0 K)
  refine (Yo au Sv.len el25 sz30 rfl rfl rfl (by omega) fun L ah R B => ?_)
  have av := (o.ch0 K)
  obtain ⟨b, a, q⟩ := av.get R
  obtain ⟨t, aP, u⟩ := ah
  obtain rfl := q.eqn
  have aQ := q.len
  replace q : Ls ics 1 ae LR_aN w.heap.size (.slice t b.length u) b := q
  replace B : At ae LL_saN w.heap.size L ([(.slice t b.length u)]) := B
  refine Za rfl rfl (Yg B agg30 rfl rfl) (Za rfl rfl (Zd rfl) (Zf (Zb (aO _ _ ?_))))
  refine Zg fun bm aw => ?_
  refine Zg fun bn aR => ?_
  refine Zc (Za rfl rfl (Ze rfl) (Za rfl rfl (Xa (by rw [el30]; rfl) rfl) (Za rfl rfl (Ze rfl) (Zf (Zb (aR _ _ ?_))))))
  refine Zx ?_
  refine Xf (σ := Nat) (fun (k : Nat) => [(3, (.int .i64 ((aA.length : Nat) : Int))), (5, (.slice t b.length u)), (30, (.slice l saN.length m)), (31, (.int .i64 ((saN.length : Nat) : Int))), (32, (.int .i64 ((s : Nat) : Int))), (33, (.bool (decide (((s : Nat) : Int) < ((saN.length : Nat) : Int))))), (34, (.pointer (some L))), (35, (.slice t b.length u)), (36, (.slice t b.length u)), (37, (.int .i64 ((b.length : Nat) : Int))), (38, (.int .i64 ((k : Nat) : Int)))]) (fun (k : Nat) wx => Ch [] w wx ∧ ae.heap.size ≤ wx.heap.size ∧ (k ≤ b.length) ∧ (RowP aA.length b k) ∧ Ls Sv.cs 1 wx LL_saN w.heap.size (.slice l saN.length m) saN ∧ Rd ics 1 wx LR_aN w.heap.size saN aN ∧ At wx LL_saN w.heap.size L ([(.slice t b.length u)]) ∧ Ls ics 1 wx LR_aN w.heap.size (.slice t b.length u) b) (fun (k : Nat) => b.length - k) 0 (sC8 rfl rfl rfl rfl rfl rfl rfl rfl (sC2 rfl rfl (sC1 rfl (Sub.nil _)))) ⟨E, (Nat.le_refl _), (by omega), (Zko _ _), au, av, B, q⟩ ?_
  rintro k bp ⟨E, aT, bq, hp, S, T, U, G⟩
  have ai := E
  have ax := ai.size
  refine Zg fun br aU => ?_
  refine Zc (Za rfl rfl (Xi rfl rfl) (Zf (Zb (aU _ _ ?_))))
  refine Zg fun bs ay => ?_
  refine Zp rfl (fun x => ?_) (fun x => ?_)
  ·have aj := x
   have x := Yf x
   refine Zq ?_
   refine Zb (ay _ _ ?_)
   refine Zg fun bu az => ?_
   refine Zx ?_
   refine Zg fun bv aV => ?_
   refine Zc (Zk rfl rfl ?_)
   refine (Yo G Yh el30 sz3 rfl rfl rfl (by omega) fun aW aX n ak => ?_)
   refine Za rfl rfl (Yg ak agg3 rfl rfl) (Za rfl rfl (Zd rfl) (Zf (Zb (aV _ _ ?_))))
   refine Zg fun bw aY => ?_
   refine Zc (Za rfl rfl (Ze rfl) (Za rfl rfl (Ze rfl) (Za rfl rfl (Zay (by omega) rfl rfl) (Zk rfl rfl ?_))))
   refine Step.call (Zn (xs := [.tmp 42, .const (Go.Value.int Go.IntKind.i64 (-1)), .tmp 44]) fk44 rfl) (Zam _ _ _ ) fun aZ bz al => ?_
   obtain ⟨rfl, M⟩ := al
   have a0 := M.size
   have E := E.trans M
   refine Za rfl rfl (Xu rfl) (Zf (Zb (aY _ _ ?_)))
   refine Zp rfl (fun f => ?_) (fun f => ?_)
   ·have am := f
    have f := Ye (Qb f)
    refine Zg fun bA a1 => ?_
    refine Zc (Za rfl rfl (Zd rfl) (Zf (Zb (a1 _ _ ?_))))
    refine Zr (Ya (Zl (Zl (Ya (Zl (Ya (Zl (Zl (Ya (Zl ?_))))))))))
    clear ad ag aw az
    exact Zi [_] ⟨rfl, trivial⟩ ⟨congrArg Value.bool (by first | exact Qx ⟨by omega, c, by omega, Zau J (by omega)⟩ | exact Yj (fun e => g (by have p := e.1; have Q := e.2.1; omega)) | exact Yj (fun e => c e.2.1) | exact Yj (fun e => h (by have p := e.2.2.1; omega)) | exact Yj (fun e => f (Zag e.2 a n)) | exact Yj (fun e => i (by have p := (Xo e.2 a).1; omega))), E⟩
   have am := f
   have f := Yf (Qc f)
   refine Zq ?_
   refine Zv (Zb (az _ _ (Zc (Za rfl rfl (Yk (by omega) rfl rfl) (Za rfl rfl (Ze rfl) (Zf ?_))))))
   have a2 := (S.ch0 M)
   have a3 := (T.ch0 M)
   have a4 := (U.ch0 M)
   have a5 := (G.ch0 M)
   exact Zb (Exists.intro (k + 1) ⟨⟨E, (by omega), (by omega), (Zku hp n f), a2, a3, a4, a5⟩, sC8 rfl rfl rfl rfl rfl rfl rfl rfl (sC2 rfl rfl (sC1 rfl (Sub.nil _))), (by first | omega | (dsimp only; omega))⟩)
  have aj := x
  have x := Ye x
  refine Xc (Zs (Zs (Yu ?_)))
  refine Zb (aw _ _ ?_)
  refine Zg fun bB a6 => ?_
  refine Zc (Za rfl rfl (Ze rfl) (Za rfl rfl (Xa (by rw [el30]; rfl) rfl) (Za rfl rfl (Qv rfl rfl) (Zf (Zb (a6 _ _ ?_))))))
  refine Zp rfl (fun i => ?_) (fun i => ?_)
  ·have an := i
   have i := Ye (Qb i)
   refine Zg fun bC a7 => ?_
   refine Zc (Za rfl rfl (Zd rfl) (Zf (Zb (a7 _ _ ?_))))
   refine Zr (Ya (Zl (Zl (Ya (Zl ?_)))))
   clear ad ag ay
   exact Zi [_] ⟨rfl, trivial⟩ ⟨congrArg Value.bool (by first | exact Qx ⟨by omega, c, by omega, Zau J (by omega)⟩ | exact Yj (fun e => g (by have p := e.1; have Q := e.2.1; omega)) | exact Yj (fun e => c e.2.1) | exact Yj (fun e => h (by have p := e.2.2.1; omega)) | exact Yj (fun e => f (Zag e.2 a n)) | exact Yj (fun e => i (by have p := (Xo e.2 a).1; omega))), E⟩
  have an := i
  have i := Yf (Qc i)
  refine Zq ?_
  refine Zv (Zb (ag _ _ (Zc (Za rfl rfl (Yk (by omega) rfl rfl) (Za rfl rfl (Ze rfl) (Zf ?_))))))
  exact Zb (Exists.intro (s + 1) ⟨⟨E, (by omega), (by omega), (Zle J a ⟨by omega, Zmr hp (by omega)⟩)⟩, sC4 rfl rfl rfl rfl (Sub.nil _), (by first | omega | (dsimp only; omega))⟩)
 have af := r
 have r := Ye r
 refine Xc (Zs (Zs (Yu ?_)))
 refine Zb (ad _ _ ?_)
 refine Zg fun bD a8 => ?_
 refine Zc (Za rfl rfl (Zd rfl) (Zf (Zb (a8 _ _ ?_))))
 refine Zr ?_
 exact Zi [_] ⟨rfl, trivial⟩ ⟨congrArg Value.bool (by first | exact Qx ⟨by omega, c, by omega, Zau J (by omega)⟩ | exact Yj (fun e => g (by have p := e.1; have Q := e.2.1; omega)) | exact Yj (fun e => c e.2.1) | exact Yj (fun e => h (by have p := e.2.2.1; omega)) | exact Yj (fun e => f (Zag e.2 a n)) | exact Yj (fun e => i (by have p := (Xo e.2 a).1; omega))), E⟩

/-- impl.RunWord -/
theorem Zic {w : World} (aS : Int) {LL_aA C : Nat} {p : Value} {aA : List Bool} (f : Ls bcs 1 w LL_aA C p aA) {LL_saN y : Nat} {l : Value} {saN : List Sv} (b : Ls Sv.cs 1 w LL_saN y l saN) {LR_aN BB_aN : Nat} {aN : List (List Int)} (c : Rd ics 1 w LR_aN BB_aN saN aN) {LL_wd D : Nat} {q : Value} {wd : List Int} (g : Ls ics 1 w LL_wd D q wd) :
 Ctr Try.prog 54 #[(.agg #[(.int .i64 aS), p, l]), q] w (fun v w' => v = .int .i64 (rwR aS aA aN wd) ∧ Ch [] w w') := by
 obtain ⟨i, j, z⟩ := f.val
 subst z
 have R := f.len
 have f := f.here (by decide)
 obtain ⟨d, e, o⟩ := b.val
 subst o
 have I := b.len
 have b := b.here (by decide)
 have c := c.here (by decide)
 have J := c.1
 obtain ⟨r, s, A⟩ := g.val
 subst A
 have S := g.len
 have g := g.here (by decide)
 have E := Ch.refl [] w
 refine Yc (N := 25) (vs0 := [(.agg #[(.int .i64 aS), (.slice i aA.length j), (.slice d saN.length e)]), (.slice r wd.length s)]) Try.func54 rfl rfl rfl ?_
 refine Zg fun K1 H1 => ?_
 refine Zc (Zk rfl rfl ?_)
 refine Xz rfl fun K W2 F C2 aw => ?_
 have ax := C2.size
 have E := E.trans C2
 have ay := F.lt
 replace F : Blk W2 K 27 [(.int .i64 aS), (.slice i aA.length j), (.slice d saN.length e)] := F
 refine Za rfl rfl (Zd rfl) (Zf (Zb (H1 _ _ ?_)))
 refine Zg fun K3 H3 => ?_
 refine Zg fun K4 H4 => ?_
 refine Zc (Za rfl rfl (Zw F.at_ agg27 sz27 rfl) (Zk rfl rfl ?_))
 have F5 := (f.ch0 C2)
 have F6 := (c.ch0 C2)
 have F7 := (b.ch0 C2)
 refine Step.call (Zn (xs := [.tmp 8]) fk43 rfl) (Zac _ F5 F7 F6 ) fun az W8 V => ?_
 obtain ⟨rfl, C8⟩ := V
 have aB := C8.size
 have E := E.trans C8
 refine Za rfl rfl (Xu rfl) (Zf (Zb (H4 _ _ ?_)))
 refine Zp rfl (fun a => ?_) (fun a => ?_)
 ·have X := a
  have a := bf_t (Qb a)
  refine Zg fun aC Y => ?_
  refine Zc (Za rfl rfl (Zd rfl) (Zf (Zb (Y _ _ ?_))))
  refine Zr (Zl ?_)
  exact Zi [_] ⟨rfl, trivial⟩ ⟨congrArg (Value.int .i64) (by first | exact Zoe a | (rw [← Ziz a, hm, show k = wd.length by omega])), E⟩
 have X := a
 have a := bt_t (Qc a)
 refine Zq ?_
 refine Zb (H3 _ _ ?_)
 refine Zg fun aD Z => ?_
 refine Zc (Za rfl rfl (Zh fa27_0 rfl) ?_)
 have T := (F.ch0 C8)
 refine Za rfl rfl (Zm T.at_ agg3 rfl rfl) (Za rfl rfl (Zd rfl) (Zf (Zb (Z _ _ ?_))))
 refine Zg fun aE aa => ?_
 refine Zg fun aF ab => ?_
 refine Zc (Za rfl rfl (Ze rfl) (Za rfl rfl (Xa (by rw [el30]; rfl) rfl) (Za rfl rfl (Ze rfl) (Zf (Zb (ab _ _ ?_))))))
 refine Zx ?_
 have ac := (F5.ch0 C8)
 have ad := (F7.ch0 C8)
 have ae := (F6.ch0 C8)
 refine Xf (σ := Nat × Int) (fun ⟨k, m⟩ => [(2, (.pointer (some ⟨K, 0, none⟩))), (4, (.int .i64 0)), (5, (.int .i64 m)), (13, (.slice r wd.length s)), (14, (.int .i64 ((wd.length : Nat) : Int))), (15, (.int .i64 ((k : Nat) : Int)))]) (fun ⟨k, m⟩ wx => Ch [] w wx ∧ W8.heap.size ≤ wx.heap.size ∧ (k ≤ wd.length) ∧ (m = runA aN aS wd k) ∧ (-1 ≤ m ∧ m ≤ (aA.length : Int) - 1) ∧ Blk wx K 27 [(.int .i64 aS), (.slice i aA.length j), (.slice d saN.length e)] ∧ Ls bcs 1 wx LL_aA w.heap.size (.slice i aA.length j) aA ∧ Ls Sv.cs 1 wx LL_saN w.heap.size (.slice d saN.length e) saN ∧ Rd ics 1 wx LR_aN w.heap.size saN aN) (fun ⟨k, m⟩ => wd.length - k) (0, aS) (sC4 rfl rfl rfl rfl (sC2 rfl rfl (Sub.nil _))) ⟨E, (Nat.le_refl _), (by omega), rfl, (by have aG := a.2.1; omega), T, ac, ad, ae⟩ ?_
 rintro ⟨k, m⟩ aH ⟨E, af, aI, hm, hb, n, t, u, x⟩
 have G := E
 have U := G.size
 have L := n.lt
 refine Zg fun aJ ag => ?_
 refine Zc (Za rfl rfl (Xi rfl rfl) (Zf (Zb (ag _ _ ?_))))
 refine Zg fun aK ah => ?_
 refine Zp rfl (fun h => ?_) (fun h => ?_)
 ·have M := h
  have h := Yf h
  refine Zq ?_
  refine Zb (ah _ _ ?_)
  refine Zg fun aL ai => ?_
  refine Zx ?_
  refine Zg fun aM aj => ?_
  refine Zc (Zk rfl rfl ?_)
  have ak := (g.ch0 G)
  refine (Yo ak Yh el30 sz3 rfl rfl rfl (by omega) fun al O H P => ?_)
  refine Za rfl rfl (Yg P agg3 rfl rfl) (Za rfl rfl (Zd rfl) (Zf (Zb (aj _ _ (Zc (Za rfl rfl (Zw n.at_ agg27 sz27 rfl) (Za rfl rfl (Ze rfl) (Za rfl rfl (Ze rfl) ?_))))))))
  refine Zk rfl rfl ?_
  refine Step.call (Zn (xs := [.tmp 19, .tmp 20, .tmp 21]) fk58 rfl) (Zaj _ t u x _ _ a hb) fun am aO Q => ?_
  obtain ⟨rfl, B⟩ := Q
  have an := B.size
  have E := E.trans B
  refine Za rfl rfl (Zd rfl) (Zf (Zv (Zb (ai _ _ (Zc (Za rfl rfl (Yk (by omega) rfl rfl) (Za rfl rfl (Ze rfl) (Zf ?_))))))))
  have ao := (n.ch0 B)
  have ap := (t.ch0 B)
  have aq := (u.ch0 B)
  have au := (x.ch0 B)
  exact Zb (Exists.intro ((k + 1), Zz aN m O) ⟨⟨E, (by omega), (by omega), (by rw [Zmt H, ← hm]), (Zgn a hb), ao, ap, aq, au⟩, sC4 rfl rfl rfl rfl (sC2 rfl rfl (Sub.nil _)), (by first | omega | (dsimp only; omega))⟩)
 have M := h
 have h := Ye h
 refine Xc (Zs (Zs (Yu ?_)))
 refine Zb (aa _ _ ?_)
 refine Zg fun aP av => ?_
 refine Zc (Za rfl rfl (Ze rfl) (Za rfl rfl (Zd rfl) (Zf (Zb (av _ _ ?_)))))
 refine Zr ?_
 exact Zi [_] ⟨rfl, trivial⟩ ⟨congrArg (Value.int .i64) (by first | exact Zoe a | (rw [← Ziz a, hm, show k = wd.length by omega])), E⟩

/-- impl.AcceptsWord -/
theorem Zaf {w : World} (aS : Int) {LL_aA s : Nat} {j : Value} {aA : List Bool} (c : Ls bcs 1 w LL_aA s j aA) {LL_saN o : Nat} {e : Value} {saN : List Sv} (a : Ls Sv.cs 1 w LL_saN o e saN) {LR_aN BB_aN : Nat} {aN : List (List Int)} (b : Rd ics 1 w LR_aN BB_aN saN aN) {LL_wd t : Nat} {k : Value} {wd : List Int} (d : Ls ics 1 w LL_wd t k wd) :
 Ctr Try.prog 14 #[(.agg #[(.int .i64 aS), j, e]), k] w (fun v w' => v = .bool (Qd aA (rwR aS aA aN wd)) ∧ Ch [] w w') := by
 obtain ⟨l, m, p⟩ := c.val
 subst p
 have D := c.len
 have c := c.here (by decide)
 obtain ⟨f, g, h⟩ := a.val
 subst h
 have A := a.len
 have a := a.here (by decide)
 have b := b.here (by decide)
 have B := b.1
 obtain ⟨u, x, q⟩ := d.val
 subst q
 have F := d.len
 have d := d.here (by decide)
 have E := Ch.refl [] w
 have hr := Zti aS aA aN wd
 refine Yc (N := 10) (vs0 := [(.agg #[(.int .i64 aS), (.slice l aA.length m), (.slice f saN.length g)]), (.slice u wd.length x)]) Try.func14 rfl rfl rfl ?_
 refine Zg fun K1 H1 => ?_
 refine Zc (Zk rfl rfl ?_)
 refine Xz rfl fun G W2 z C2 R => ?_
 have S := C2.size
 have E := E.trans C2
 have T := z.lt
 replace z : Blk W2 G 27 [(.int .i64 aS), (.slice l aA.length m), (.slice f saN.length g)] := z
 refine Za rfl rfl (Zd rfl) (Zf (Zb (H1 _ _ ?_)))
 refine Zg fun K3 H3 => ?_
 refine Xg [] 6 mixed rfl fun W4 C4 => ?_
 have U := C4.size
 have E := E.trans C4
 have F5 := (z.ch0 C4)
 refine dT 0 rfl rfl rfl (Yx F5.at_ (fun i hi => absurd hi List.not_mem_nil) agg27 sz27 rfl ?_)
 refine dT 1 rfl rfl rfl (Yx F5.at_ (fun i hi => absurd hi List.not_mem_nil) agg27 sz27 rfl ?_)
 refine dV 2 rfl rfl rfl (fun _ => Ze rfl) (dO 3 (Yl rfl rfl rfl ?_))
 have F6 := ((c.ch0 C2).ch0 C4)
 have F7 := ((b.ch0 C2).ch0 C4)
 have F8 := ((a.ch0 C2).ch0 C4)
 have F9 := ((d.ch0 C2).ch0 C4)
 refine Step.call (Zn (xs := [.tmp 6, .tmp 7]) fk54 rfl) (Zic _ F6 F8 F7 F9 ) fun V H I => ?_
 obtain ⟨rfl, r⟩ := I
 have J := r.size
 have E := E.trans r
 have n : Ch [] W4 H := ((Ch.refl _ _).trans r)
 refine ⟨n, ?_⟩
 refine dO 4 (Yl rfl rfl rfl ?_)
 have K := (F6.ch0 r)
 have L := (F7.ch0 r)
 have M := (F8.ch0 r)
 refine Step.call (Zn (xs := [.tmp 5, .tmp 8]) fk48 rfl) (Zaa _ K M L _ (by omega)) fun X O P => ?_
 obtain ⟨rfl, C⟩ := P
 have Q := C.size
 have E := E.trans C
 have y : Ch [] W4 O := (n.trans C)
 refine ⟨y, ?_⟩
 refine dV 5 rfl rfl rfl (fun _ => Zd rfl) ?_
 refine Yq (by kernel_rfl) ?_
 refine Zb (H3 _ _ ?_)
 refine Zr ?_
 exact Zi [_] ⟨rfl, trivial⟩ ⟨congrArg Value.bool rfl, E⟩

/-- impl.DistinguishingWord$1 -/
theorem Zbu {w : World} (x : St2) (aS : Int) {LL_aA o : Nat} {h : Value} {aA : List Bool} (e : Ls bcs 1 w LL_aA o h aA) {LL_saN l : Nat} {f : Value} {saN : List Sv} (c : Ls Sv.cs 1 w LL_saN l f saN) {LR_aN BB_aN : Nat} {aN : List (List Int)} (d : Rd ics 1 w LR_aN BB_aN saN aN) {b_a t_a : Nat} (j : Blk w b_a t_a [(.int .i64 aS), h, f]) (hs : inS aA aA x) :
 Ctr Try.prog 47 #[(.agg #[(.int .i64 x.a), (.int .i64 x.b)]), (.pointer (some ⟨b_a, 0, none⟩))] w (fun v w' => v = .bool (tsD aA aA false x) ∧ Ch [] w w') := by
 obtain ⟨A, B, m⟩ := e.val
 subst m
 have C := e.len
 have e := e.here (by decide)
 obtain ⟨r, s, g⟩ := c.val
 subst g
 have t := c.len
 have c := c.here (by decide)
 have d := d.here (by decide)
 have u := d.1
 have D := j.lt
 have E := Ch.refl [] w
 unfold inS inA at hs
 refine Yc (N := 13) (vs0 := [(.agg #[(.int .i64 x.a), (.int .i64 x.b)]), (.pointer (some ⟨b_a, 0, none⟩))]) Try.func47 rfl rfl rfl ?_
 refine Zg fun K1 H1 => ?_
 refine Zc (Zk rfl rfl ?_)
 refine Xz rfl fun F W2 q C2 Q => ?_
 have R := C2.size
 have E := E.trans C2
 have S := q.lt
 replace q : Blk W2 F 69 [(.int .i64 x.a), (.int .i64 x.b)] := q
 refine Za rfl rfl (Zd rfl) (Zf (Zb (H1 _ _ ?_)))
 refine Zg fun K3 H3 => ?_
 refine Xg [] 10 mixed rfl fun W4 C4 => ?_
 have T := C4.size
 have E := E.trans C4
 have F5 := ((j.ch0 C2).ch0 C4)
 refine dT 0 rfl rfl rfl (Yx F5.at_ (fun i hi => absurd hi List.not_mem_nil) agg27 sz27 rfl ?_)
 refine dV 1 rfl rfl rfl (fun _ => Zh fa69_0 rfl) ?_
 have F6 := (q.ch0 C4)
 refine dT 2 rfl rfl rfl (Yw F6.at_ (fun i hi => absurd hi List.not_mem_nil) agg3 rfl rfl ?_)
 refine dT 4 rfl rfl rfl (Yx F5.at_ (fun i hi => absurd hi List.not_mem_nil) agg27 sz27 rfl ?_)
 refine dV 5 rfl rfl rfl (fun _ => Zh fa69_1 rfl) ?_
 refine dT 6 rfl rfl rfl (Yw F6.at_ (fun i hi => absurd hi List.not_mem_nil) agg3 rfl rfl ?_)
 refine dO 3 (Yl rfl rfl rfl ?_)
 have F7 := ((e.ch0 C2).ch0 C4)
 have F8 := ((d.ch0 C2).ch0 C4)
 have F9 := ((c.ch0 C2).ch0 C4)
 refine Step.call (Zn (xs := [.tmp 4, .tmp 6]) fk48 rfl) (Zaa _ F7 F9 F8 _ (by omega)) fun U G H => ?_
 obtain ⟨rfl, n⟩ := H
 have I := n.size
 have E := E.trans n
 have k : Ch [] W4 G := ((Ch.refl _ _).trans n)
 refine ⟨k, ?_⟩
 refine dO 7 (Yl rfl rfl rfl ?_)
 have J := (F7.ch0 n)
 have K := (F8.ch0 n)
 have L := (F9.ch0 n)
 refine Step.call (Zn (xs := [.tmp 8, .tmp 10]) fk48 rfl) (Zaa _ J L K _ (by omega)) fun M O y => ?_
 obtain ⟨rfl, z⟩ := y
 have P := z.size
 have E := E.trans z
 have p : Ch [] W4 O := (k.trans z)
 refine ⟨p, ?_⟩
 refine dV 8 rfl rfl rfl (fun _ => Zik un4 rfl rfl) (dV 9 rfl rfl rfl (fun _ => Zd rfl) ?_)
 refine Yq (by kernel_rfl) ?_
 refine Zb (H3 _ _ ?_)
 refine Zr ?_
 exact Zi [_] ⟨rfl, trivial⟩ ⟨congrArg Value.bool (by unfold tsD; cases Qd aA x.a <;> cases Qd aA x.b <;> rfl), E⟩

/-- impl.copyInts -/
theorem Zbs {w : World} {LL_l f : Nat} {b : Value} {l : List Int} (a : Ls ics 1 w LL_l f b l) (hb : l.length ≤ 4194304) :
 Ctr Try.prog 87 #[b] w (fun v w' => Ol ics 3 1 w' v (l) ∧ Lo w.heap.size v ∧ Ch [] w w') := by
 obtain ⟨g, h, c⟩ := a.val
 subst c
 have s := a.len
 have a := a.here (by decide)
 have E := Ch.refl [] w
 refine Yc (N := 6) (vs0 := [(.slice g l.length h)]) Try.func87 rfl rfl rfl ?_
 refine Zg fun K1 H1 => ?_
 refine Zc (Za rfl rfl (Zd rfl) (Zf (Zb (H1 _ _ ?_))))
 refine Zg fun K2 H2 => ?_
 refine Zc (Zk rfl rfl ?_)
 refine Xd (k := 1) ics el30 sz3 fun B W3 p d C3 => ?_
 have C := C3.size
 have E := E.trans C3
 obtain ⟨t, u, rfl, x, q⟩ := p.opn
 refine Za rfl rfl (Ze rfl) (Zk rfl rfl ?_)
 have F5 := (a.ch0 C3)
 refine Yd (cs := ics) el30 sz3 by3 zr3 rfl (by decide) Xn p F5 rfl rfl (by first | omega | (simp only [List.length_append, List.length_nil, List.length_cons, List.length_replicate, List.length_set, List.length_reverse, List.length_map] at *; omega) | (simp at *; omega)) (by first | omega | (simp only [List.length_append, List.length_nil, List.length_cons, List.length_replicate, List.length_set, List.length_reverse, List.length_map] at *; omega) | (simp at *; omega)) d (by omega) fun y W4 e j z C4 => ?_
 have D := C4.size
 have E := E.step C4 (fun i hi => .inl (by have F := d _ hi; omega))
 replace e : Ol ics 3 1 W4 y l := e
 obtain ⟨m, n, rfl, A, r⟩ := e.opn
 refine Za rfl rfl (Zd rfl) (Zf (Zb (H2 _ _ ?_)))
 refine Zr ?_
 have o : Ol ics 3 1 W4 (.slice m (l).length n) (l) := by
  have hx := e
  first | exact hx | simpa using hx
 exact Zi [_] ⟨rfl, trivial⟩ ⟨o, Lo.down j (by omega), E⟩

/-- impl.together$1 -/
theorem Zfj {w : World} (s : St2) (x : Int) (aS : Int) {LL_aA F : Nat} {o : Value} {aA : List Bool} (g : Ls bcs 1 w LL_aA F o aA) {LL_saN y : Nat} {j : Value} {saN : List Sv} (c : Ls Sv.cs 1 w LL_saN y j saN) {LR_aN BB_aN : Nat} {aN : List (List Int)} (e : Rd ics 1 w LR_aN BB_aN saN aN) {b_a t_a : Nat} (p : Blk w b_a t_a [(.int .i64 aS), o, j]) (bS : Int) {LL_bA G : Nat} {q : Value} {bA : List Bool} (h : Ls bcs 1 w LL_bA G q bA) {LL_sbN z : Nat} {k : Value} {sbN : List Sv} (d : Ls Sv.cs 1 w LL_sbN z k sbN) {LR_bN BB_bN : Nat} {bN : List (List Int)} (f : Rd ics 1 w LR_bN BB_bN sbN bN) {b_b t_b : Nat} (r : Blk w b_b t_b [(.int .i64 bS), q, k]) (hva : Xe aS aA aN) (hvb : Xe bS bA bN) (hs : inS aA bA s) :
 Ctr Try.prog 88 #[(.agg #[(.int .i64 s.a), (.int .i64 s.b)]), (.int .i64 x), (.pointer (some ⟨b_a, 0, none⟩)), (.pointer (some ⟨b_b, 0, none⟩))] w (fun v w' => v = .agg (St2.cs ((⟨Zz aN s.a x, Zz bN s.b x⟩ : St2))).toArray ∧ Ch [] w w') := by
 obtain ⟨Y, Z, A⟩ := g.val
 subst A
 have aa := g.len
 have g := g.here (by decide)
 obtain ⟨L, M, m⟩ := c.val
 subst m
 have O := c.len
 have c := c.here (by decide)
 have e := e.here (by decide)
 have P := e.1
 have ab := p.lt
 obtain ⟨ac, ad, B⟩ := h.val
 subst B
 have ae := h.len
 have h := h.here (by decide)
 obtain ⟨Q, R, n⟩ := d.val
 subst n
 have S := d.len
 have d := d.here (by decide)
 have f := f.here (by decide)
 have T := f.1
 have af := r.lt
 have E := Ch.refl [] w
 unfold inS inA at hs
 refine Yc (N := 18) (vs0 := [(.agg #[(.int .i64 s.a), (.int .i64 s.b)]), (.int .i64 x), (.pointer (some ⟨b_a, 0, none⟩)), (.pointer (some ⟨b_b, 0, none⟩))]) Try.func88 rfl rfl rfl ?_
 refine Zg fun K1 H1 => ?_
 refine Zc (Zk rfl rfl ?_)
 refine Xz rfl fun ah W2 I C2 az => ?_
 have aB := C2.size
 have E := E.trans C2
 have aC := I.lt
 replace I : Blk W2 ah 69 [(.int .i64 s.a), (.int .i64 s.b)] := I
 refine Zk rfl rfl ?_
 refine Yp zr69 fun D W3 J C3 aD => ?_
 have aE := C3.size
 have E := E.trans C3
 have aF := J.lt
 replace J : Blk W3 D 69 [(.int .i64 0), (.int .i64 0)] := J
 refine Zf (Zb (H1 _ _ ?_))
 refine Zg fun K4 H4 => ?_
 refine Xg [D] 12 mixed rfl fun W5 C5 => ?_
 have aG := C5.size
 have E := E.trans C5
 have F6 := (((p.ch0 C2).ch0 C3).ch0 C5)
 refine dT 0 rfl rfl rfl (Yx F6.at_ (oS (by omega)) agg27 sz27 rfl ?_)
 refine dV 1 rfl rfl rfl (fun _ => Zh fa69_0 rfl) ?_
 have F7 := ((I.ch0 C3).ch0 C5)
 refine dT 2 rfl rfl rfl (Yw F7.at_ (oS (by omega)) agg3 rfl rfl ?_)
 refine dV 3 rfl rfl rfl (fun _ => Ze rfl) ?_
 have F8 := (((r.ch0 C2).ch0 C3).ch0 C5)
 refine dT 5 rfl rfl rfl (Yx F8.at_ (oS (by omega)) agg27 sz27 rfl ?_)
 refine dV 6 rfl rfl rfl (fun _ => Zh fa69_1 rfl) ?_
 refine dT 7 rfl rfl rfl (Yw F7.at_ (oS (by omega)) agg3 rfl rfl ?_)
 refine dV 8 rfl rfl rfl (fun _ => Ze rfl) (dO 4 (Yl rfl rfl rfl ?_))
 have F9 := (((g.ch0 C2).ch0 C3).ch0 C5)
 have ai := (((e.ch0 C2).ch0 C3).ch0 C5)
 have aj := (((c.ch0 C2).ch0 C3).ch0 C5)
 refine Step.call (Zn (xs := [.tmp 7, .tmp 9, .tmp 10]) fk58 rfl) (Zaj _ F9 aj ai _ _ hva (by omega)) fun ak al U => ?_
 obtain ⟨rfl, C⟩ := U
 have am := C.size
 have E := E.trans C
 have t : Ch [D] W5 al := ((Ch.refl _ _).trans C.of_nil)
 refine ⟨t, ?_⟩
 refine dO 9 (Yl rfl rfl rfl ?_)
 have an := ((((h.ch0 C2).ch0 C3).ch0 C5).ch0 C)
 have ao := ((((f.ch0 C2).ch0 C3).ch0 C5).ch0 C)
 have ap := ((((d.ch0 C2).ch0 C3).ch0 C5).ch0 C)
 refine Step.call (Zn (xs := [.tmp 12, .tmp 14, .tmp 15]) fk58 rfl) (Zaj _ an ap ao _ _ hvb (by omega)) fun aq au V => ?_
 obtain ⟨rfl, K⟩ := V
 have av := K.size
 have E := E.trans K
 have u : Ch [D] W5 au := (t.trans K.of_nil)
 refine ⟨u, ?_⟩
 refine dV 10 rfl rfl rfl (fun _ => Yr (parts := [(0, .tmp 11), (1, .tmp 16)]) (cells := [(.int .i64 (Zz aN s.a x)), (.int .i64 (Zz bN s.b x))]) zr69 pl69 rfl rfl) (dO 11 (Yl rfl rfl rfl ?_))
 have aw := (((J.ch0 C5).ch0 C).ch0 K)
 refine Zt (off := 0) 2 aw sz69 rfl (us := [(.int .i64 (Zz aN s.a x)), (.int .i64 (Zz bN s.b x))]) rfl rfl rfl rfl fun ag l X => ?_
 have ax := X.size
 have E := E.step X (lS (by omega))
 replace l : Blk ag D 69 [(.int .i64 (Zz aN s.a x)), (.int .i64 (Zz bN s.b x))] := l
 have H : Ch [D] W5 ag := (u.step X (fun i hm => by have ay := List.mem_singleton.1 hm; exact .inr (by rw [ay]; exact (List.mem_singleton.2 rfl))))
 refine ⟨H, ?_⟩
 refine Yq (by kernel_rfl) ?_
 refine Zb (H4 _ _ ?_)
 refine Zr ?_
 exact Zi [_] (Zu l rfl agg69 sz69 trivial) ⟨by simp [Zfz, St2.cs], E⟩

/-- impl.states]@D -/
theorem Zho {w : World} (first : St2) (aD : Int) {a6 a7 : Nat} {ak : Value} {ai : List Bool} (B : Ls bcs 1 w a6 a7 ak ai) {aN aO : Nat} {Z : Value} {aP : List Sv} (y : Ls Sv.cs 1 w aN aO Z aP) {a8 a9 : Nat} {c : List (List Int)} (J : Rd ics 1 w a8 a9 aP c) {O bA : Nat} (al : Blk w O bA [(.int .i64 aD), ak, Z]) (aE : Int) {ba bb : Nat} {am : Value} {aj : List Bool} (C : Ls bcs 1 w ba bb am aj) {aQ aR : Nat} {aa : Value} {aS : List Sv} (z : Ls Sv.cs 1 w aQ aR aa aS) {bc bd : Nat} {d : List (List Int)} (K : Rd ics 1 w bc bd aS d) {P bB : Nat} (an : Blk w P bB [(.int .i64 aE), am, aa]) (bp : Int) {ao be : Nat} {ap : Value} {o : List Bool} (D : Ls bcs 1 w ao be ap o) {ab aT : Nat} {ac : Value} {Q : List Sv} (A : Ls Sv.cs 1 w ab aT ac Q) {aq bf : Nat} {bq : List (List Int)} (L : Rd ics 1 w aq bf Q bq) {F aU : Nat} (au : Blk w F aU [(.int .i64 bp), ap, ac]) (hva : Xe aD ai c) (hvb : Xe aE aj d) (hs : inS ai aj first) (dz : ai = o) (dA : aj = o) :
 Ctr Try.prog 45 #[(.agg #[(.int .i64 first.a), (.int .i64 first.b)]), (.func (.func 88) #[] #[(.pointer (some ⟨O, 0, none⟩)), (.pointer (some ⟨P, 0, none⟩))]), (.func (.func 47) #[] #[(.pointer (some ⟨F, 0, none⟩))])] w (fun v w' => ∃ (dB : Value), v = .tuple #[dB, .bool ((difR o c o d first false).2)] ∧ Ol ics 3 1 w' dB ((difR o c o d first false).1) ∧ Lo w.heap.size dB ∧ Ch [] w w') := by
 obtain ⟨cy, cz, aV⟩ := B.val
 subst aV
 have cA := B.len
 have B := B.here (by decide)
 obtain ⟨cd, ce, aF⟩ := y.val
 subst aF
 have cf := y.len
 have y := y.here (by decide)
 have J := J.here (by decide)
 have cg := J.1
 have cB := al.lt
 obtain ⟨cC, cD, aW⟩ := C.val
 subst aW
 have cE := C.len
 have C := C.here (by decide)
 obtain ⟨ci, cj, aG⟩ := z.val
 subst aG
 have ck := z.len
 have z := z.here (by decide)
 have K := K.here (by decide)
 have cm := K.1
 have cF := an.lt
 obtain ⟨av, aw, aX⟩ := D.val
 subst aX
 have cG := D.len
 have D := D.here (by decide)
 obtain ⟨ad, ae, aH⟩ := A.val
 subst aH
 have cn := A.len
 have A := A.here (by decide)
 have L := L.here (by decide)
 have co := L.1
 have cH := au.lt
 have E := Ch.refl [] w
 have cZ : Xe aD o c := by rw [← dz]; exact hva
 have c0 : Xe aE o d := by rw [← dA]; exact hvb
 have es : inS o o first := by rw [dz, dA] at hs; exact hs
 have hin := Zhc cZ c0 es; have hle := lenS cZ c0 es; have hwl := Zuu c d first
 refine Yc (N := 60) (vs0 := [(.agg #[(.int .i64 first.a), (.int .i64 first.b)]), (.func (.func 88) #[] #[(.pointer (some ⟨O, 0, none⟩)), (.pointer (some ⟨P, 0, none⟩))]), (.func (.func 47) #[] #[(.pointer (some ⟨F, 0, none⟩))])]) Try.func45 rfl rfl rfl ?_
 refine Zg fun K1 H1 => ?_
 refine Zc (Zk rfl rfl ?_)
 refine Xz rfl fun eQ W2 dt C2 gg => ?_
 have gh := C2.size
 have E := E.trans C2
 have du := dt.lt
 replace dt : Blk W2 eQ 69 [(.int .i64 first.a), (.int .i64 first.b)] := dt
 refine Za rfl rfl (Zd rfl) (Za rfl rfl (Zd rfl) (Zf (Zb (H1 _ _ ?_))))
 refine Zg fun K3 H3 => ?_
 refine Zc (Zk rfl rfl ?_)
 refine Zpl kvS fun Y W4 b2 C4 eR => ?_
 have gi := C4.size
 have E := E.trans C4
 have eS := b2.lt
 replace b2 : Mp kvS W4 Y ([] : List St2) := b2
 have F5 := (dt.ch0 C4)
 refine Za rfl rfl (Zw F5.at_ agg69 sz69 rfl) (Zk rfl rfl ?_)
 refine Zrg (first : St2) un104 (Zjj ist69) b2 rfl rfl rfl (by simp) fun W6 cI C6 => ?_
 have gj := C6.size
 have E := E.step C6 (lS (by omega))
 replace cI : Mp kvS W6 Y ([(first : St2)]) := cI
 refine Za rfl rfl (Ze rfl) (Za rfl rfl (Zd rfl) (Zf (Zb (H3 _ _ ?_))))
 refine Zg fun K8 H8 => ?_
 refine Zg fun K9 H9 => ?_
 refine Zc ?_
 have eT := (F5.ch C6 (nS (by omega)))
 refine Za rfl rfl (Zw eT.at_ agg69 sz69 rfl) (Za rfl rfl (Yr (parts := [(0, .tmp 16)]) (cells := [(.int .i64 first.a), (.int .i64 first.b), (.slice none 0 0)]) zr106 pl106 rfl rfl) (Zk rfl rfl ?_))
 refine Zo (cs := Qs.cs) (parts := [(0, .tmp 17)]) (⟨⟨0, 0⟩, ⟨none, 0, 0⟩⟩ : Qs) [(⟨⟨first.a, first.b⟩, (⟨none, 0, 0⟩ : Sv)⟩ : Qs)] el107 sz106 zr106 Qs.len (by decide) rfl rfl rfl (by decide) (by decide) rfl fun eU c1 c2 c3 dC => ?_
 have eV := dC.size
 have E := E.trans dC
 obtain ⟨cp, cq, rfl, et, dD⟩ := c2.opn
 refine Za rfl rfl (Zd rfl) (Zf (Zb (H9 _ _ ?_)))
 refine Zx ?_
 have cJ : Ol Qs.cs 106 3 c1 (.slice cp ([(⟨⟨first.a, first.b⟩, (⟨none, 0, 0⟩ : Sv)⟩ : Qs)]).length cq) ((zq (bE (nxS c d) first 0) [(⟨none, 0, 0⟩ : Sv)]).drop 0) := by
  have hx := c2
  exact hx
 have eW := (cI.ch0 dC)
 have cK : Mp kvS c1 Y ((bE (nxS c d) first 0).map (·.1)) := by
  have hx := eW
  exact hx
 refine Xf (σ := Nat × List Sv × Value) (fun ⟨k, V, kq⟩ => [(1, (.func (.func 88) #[] #[(.pointer (some ⟨O, 0, none⟩)), (.pointer (some ⟨P, 0, none⟩))])), (2, (.func (.func 47) #[] #[(.pointer (some ⟨F, 0, none⟩))])), (8, (.map (some Y))), (9, kq)]) (fun ⟨k, V, kq⟩ wx => Ch [] w wx ∧ c1.heap.size ≤ wx.heap.size ∧ (k ≤ (bE (nxS c d) first k).length) ∧ (V.length = (bE (nxS c d) first k).length) ∧ (∀ j x, j < k → (bE (nxS c d) first j)[j]? = some x → (tsD o o false) x.1 = false) ∧ Ol Qs.cs 106 3 wx kq ((zq (bE (nxS c d) first k) V).drop k) ∧ Lo W6.heap.size kq ∧ Mp kvS wx Y ((bE (nxS c d) first k).map (·.1)) ∧ Od ics 3 1 wx c1.heap.size wx.heap.size V ((bE (nxS c d) first k).map (·.2)) ∧ (Sep kq V)) (fun ⟨k, V, kq⟩ => 170 - k) (0, [(⟨none, 0, 0⟩ : Sv)], (.slice cp ([(⟨⟨first.a, first.b⟩, (⟨none, 0, 0⟩ : Sv)⟩ : Qs)]).length cq)) (sC4 rfl rfl rfl rfl (Sub.nil _)) ⟨E, (Nat.le_refl _), (Nat.zero_le _), rfl, (fun _ _ h => absurd h (by omega)), cJ, c3, cK, Od.one_nil, Ztg⟩ ?_
 rintro ⟨k, V, kq⟩ dv ⟨E, eX, gk, hV, hf, bC, bg, cr, od, b3⟩
 have bD := E
 have eu := bD.size
 have ew := cr.lt
 obtain ⟨Akq, Ckq, rfl, lkq, hikq⟩ := bC.opn
 have hlk := hle k
 have gl := Zfw hV
 have gm := List.length_drop (l := zq (bE (nxS c d) first k) V) (i := k)
 refine Zg fun gn eY => ?_
 refine Zg fun gp eZ => ?_
 refine Zc (Za rfl rfl (Ze rfl) (Za rfl rfl (Xa (by rw [el107]; rfl) rfl) (Za rfl rfl (Zeh rfl rfl) (Zf (Zb (eZ _ _ ?_))))))
 refine Zp rfl (fun bh => ?_) (fun bh => ?_)
 ·have dE := bh
  have bh := Yf bh
  refine Zq ?_
  refine Zb (eY _ _ ?_)
  refine Zg fun gq ex => ?_
  refine Zx ?_
  refine Zg fun gr e0 => ?_
  refine Zc (Za rfl rfl (Ze rfl) (Zk rfl rfl ?_))
  refine (Yo (j := 0) bC.ls Qs.len el107 sz106 rfl rfl rfl (by omega) fun e1 e2 c4 dF => ?_)
  obtain ⟨p, n, bF, bG, s, c5, rfl, bH⟩ := Zvn c4 od
  have e3 := bH.len
  replace bH : Ls ics 1 dv 0 dv.heap.size (.slice bF n.length bG) n := bH
  have cL := hin k _ (Yy s)
  dsimp only at cL
  refine Za rfl rfl (Zw dF agg106 sz106 rfl) (Zk rfl rfl ?_)
  refine Yp zr106 fun bu e4 b4 bZ e5 => ?_
  have e6 := bZ.size
  have E := E.trans bZ
  have e7 := b4.lt
  replace b4 : Blk e4 bu 106 [(.int .i64 0), (.int .i64 0), (.slice none 0 0)] := b4
  refine Zk rfl rfl ?_
  refine Zt (off := 0) 3 b4 sz106 rfl (us := [(.int .i64 p.a), (.int .i64 p.b), (.slice bF n.length bG)]) rfl rfl rfl rfl fun e8 aY b0 => ?_
  have e9 := b0.size
  have E := E.step b0 (lS (by omega))
  replace aY : Blk e8 bu 106 [(.int .i64 p.a), (.int .i64 p.b), (.slice bF n.length bG)] := aY
  refine Zf (Zb (e0 _ _ ?_))
  refine Zg fun gs ey => ?_
  refine Zg fun gt fa => ?_
  refine Zc (Za rfl rfl (Ze rfl) (Za rfl rfl (Zh fa106_0 rfl) (Za rfl rfl (Zks 2 aY.at_ agg69 sz69 rfl rfl) (Zk rfl rfl ?_))))
  have ez := (((D.ch0 bD).ch0 bZ).ch b0 (oS (by omega)))
  have eA := (((L.ch0 bD).ch0 bZ).ch b0 (oS (by omega)))
  have eB := (((A.ch0 bD).ch0 bZ).ch b0 (oS (by omega)))
  have eC := (((au.ch0 bD).ch0 bZ).ch b0 (nS (by omega)))
  refine Step.call (Zmf (xs := [.tmp 29]) (as' := [(.agg #[(.int .i64 p.a), (.int .i64 p.b)]), (.pointer (some ⟨F, 0, none⟩))]) fk47 rfl rfl rfl) (Zbu p _ ez eB eA eC cL) fun fb dG dH => ?_
  obtain ⟨rfl, bv⟩ := dH
  have fc := bv.size
  have E := E.trans bv
  refine Zf (Zb (fa _ _ ?_))
  refine Zp rfl (fun aZ => ?_) (fun aZ => ?_)
  ·have dI := aZ
   refine Zg fun gu fd => ?_
   refine Zc (Za rfl rfl (Zh fa106_1 rfl) ?_)
   have fe := (aY.ch0 bv)
   refine Za rfl rfl (Zm fe.at_ agg30 rfl rfl) (Zk rfl rfl ?_)
   have ff := (((od.ch0 bZ).ch b0 (oS (by omega))).ch0 bv)
   have fg : _ := Zly ff c5 s
   refine Step.call (Zn (xs := [.tmp 32]) fk87 rfl) (Zbs fg (by have U := hwl k _ (Yy s); dsimp only at U; omega)) fun fh fi b5 => ?_
   obtain ⟨b5, c6, eD⟩ := b5
   have fj := eD.size
   have E := E.trans eD
   obtain ⟨bI, bJ, rfl, eE, dJ⟩ := b5.opn
   refine Za rfl rfl (Zd rfl) (Za rfl rfl (Zd rfl) (Zf (Zb (fd _ _ ?_))))
   refine Zr (Zl (Ya (Zl (Zl (Ya (Zl ?_))))))
   clear H8 ex ey
   have c7 : Ol ics 3 1 fi (.slice bI (n).length bJ) ((difR o c o d first false).1) := by
    have hx := b5
    first | (rw [← Zao (Zat s aZ hf)]; exact hx) | (rw [← Zao (Zai (Zqn hV (by omega)) hf)]; simpa using hx)
   exact Zi [_, _] ⟨rfl, ⟨rfl, trivial⟩⟩ ⟨(.slice bI (n).length bJ), (congrArg (fun zq => (Value.tuple #[(.slice bI (n).length bJ), .bool zq])) (by first | rw [← Zao (Zat s aZ hf)] | rw [← Zao (Zai (Zqn hV (by omega)) hf)])), c7, (Lo.down c6 (by omega)), E⟩
  have dI := aZ
  refine Zq ?_
  refine Zb (ey _ _ ?_)
  refine Zg fun gv fk => ?_
  refine Zc (Za rfl rfl (Zd rfl) (Zf (Zb (fk _ _ ?_))))
  refine Zx ?_
  have fl := (((bC.ch0 bZ).ch b0 (dS bg hikq (by omega))).ch0 bv)
  have cM : Ol Qs.cs 106 3 dG (.slice Akq ((zq (bE (nxS c d) first k) V).drop k).length Ckq) ((zq (bx (nxS c d) (p, n) (bE (nxS c d) first k) 0) V).drop k) := by
   have hx := fl
   exact hx
  have fm := (((cr.ch0 bZ).ch b0 (nS (by omega))).ch0 bv)
  have cN : Mp kvS dG Y ((bx (nxS c d) (p, n) (bE (nxS c d) first k) 0).map (·.1)) := by
   have hx := fm
   exact hx
  have fn := (((od.ch0 bZ).ch b0 (oS (by omega))).ch0 bv)
  have fo := (eC.ch0 bv)
  have fp := (ez.ch0 bv)
  have fq := (eB.ch0 bv)
  have fr := (eA.ch0 bv)
  have fs := (aY.ch0 bv)
  refine Xf (σ := Nat × List Sv × Value) (fun ⟨m, V2, kr⟩ => [(1, (.func (.func 88) #[] #[(.pointer (some ⟨O, 0, none⟩)), (.pointer (some ⟨P, 0, none⟩))])), (2, (.func (.func 47) #[] #[(.pointer (some ⟨F, 0, none⟩))])), (8, (.map (some Y))), (9, kr), (10, (.pointer (some ⟨bu, 0, none⟩))), (11, (.int .i64 ((m : Nat) : Int))), (21, (.bool (decide (0 < ((((zq (bE (nxS c d) first k) V).drop k).length : Nat) : Int))))), (30, (.bool (tsD o o false p)))]) (fun ⟨m, V2, kr⟩ wx => Ch [] w wx ∧ dG.heap.size ≤ wx.heap.size ∧ (m ≤ 9) ∧ (V2.length = (bx (nxS c d) (p, n) (bE (nxS c d) first k) m).length) ∧ (V2[k]? = some (⟨bF, n.length, bG⟩ : Sv)) ∧ Blk wx F aU [(.int .i64 bp), (.slice av o.length aw), (.slice ad Q.length ae)] ∧ Ls bcs 1 wx ao w.heap.size (.slice av o.length aw) o ∧ Ls Sv.cs 1 wx ab w.heap.size (.slice ad Q.length ae) Q ∧ Rd ics 1 wx aq w.heap.size Q bq ∧ Blk wx bu 106 [(.int .i64 p.a), (.int .i64 p.b), (.slice bF n.length bG)] ∧ Ol Qs.cs 106 3 wx kr ((zq (bx (nxS c d) (p, n) (bE (nxS c d) first k) m) V2).drop k) ∧ Lo W6.heap.size kr ∧ Mp kvS wx Y ((bx (nxS c d) (p, n) (bE (nxS c d) first k) m).map (·.1)) ∧ Od ics 3 1 wx c1.heap.size wx.heap.size V2 ((bx (nxS c d) (p, n) (bE (nxS c d) first k) m).map (·.2)) ∧ (bu ∉ bl kr) ∧ (Sep kr V2)) (fun ⟨m, V2, kr⟩ => 9 - m) (0, V, (.slice Akq ((zq (bE (nxS c d) first k) V).drop k).length Ckq)) (sC8 rfl rfl rfl rfl rfl rfl rfl rfl (Sub.nil _)) ⟨E, (Nat.le_refl _), (by omega), hV, c5, fo, fp, fq, fr, fs, cM, bg, cN, (fn.up (Nat.le_refl _) (by omega)), (fun hm => by have M := bg _ hm; have af := hikq _ hm; omega), b3⟩ ?_
  rintro ⟨m, V2, kr⟩ eF ⟨E, ft, hm, bi, hvk, br, bK, bj, bk, aI, a0, f, bL, dw, t, S⟩
  have aJ := E
  have eG := aJ.size
  have dL := br.lt
  have dx := aI.lt
  have eH := bL.lt
  obtain ⟨Akr, Ckr, rfl, lkr, hikr⟩ := a0.opn
  refine Zg fun gw fu => ?_
  refine Zg fun gx fv => ?_
  refine Zc (Za rfl rfl (Ze rfl) (Za rfl rfl (Xi rfl rfl) (Zf (Zb (fv _ _ ?_)))))
  refine Zp rfl (fun bm => ?_) (fun bm => ?_)
  ·have dM := bm
   have bm := Yf bm
   refine Zq ?_
   refine Zb (fu _ _ ?_)
   refine Zg fun gy dN => ?_
   refine Zx ?_
   refine Zg fun gz fw => ?_
   refine Zc (Za rfl rfl (Ze rfl) (Za rfl rfl (Zh fa106_0 rfl) (Za rfl rfl (Zks 2 aI.at_ agg69 sz69 rfl rfl) (Za rfl rfl (Ze rfl) (Zk rfl rfl ?_)))))
   have fx := (B.ch0 aJ)
   have fy := (J.ch0 aJ)
   have fz := (y.ch0 aJ)
   have fA := (al.ch0 aJ)
   have fB := (C.ch0 aJ)
   have fC := (K.ch0 aJ)
   have fD := (z.ch0 aJ)
   have fE := (an.ch0 aJ)
   refine Step.call (Zmf (xs := [.tmp 40, .tmp 41]) (as' := [(.agg #[(.int .i64 p.a), (.int .i64 p.b)]), (.int .i64 ((m : Nat) : Int)), (.pointer (some ⟨O, 0, none⟩)), (.pointer (some ⟨P, 0, none⟩))]) fk88 rfl rfl rfl) (Zfj p _ _ fx fz fy fA _ fB fD fC fE hva hvb (by rw [dz, dA]; exact cL)) fun fF gA dP => ?_
   obtain ⟨rfl, ax⟩ := dP
   have fG := ax.size
   have E := E.trans ax
   refine Zk rfl rfl ?_
   refine Yp zr69 fun c8 fH b6 ay fI => ?_
   have fJ := ay.size
   have E := E.trans ay
   have fK := b6.lt
   replace b6 : Blk fH c8 69 [(.int .i64 0), (.int .i64 0)] := b6
   refine Zk rfl rfl ?_
   refine Zt (off := 0) 2 b6 sz69 rfl (us := [(.int .i64 ((⟨Zz c p.a ((m : Nat) : Int), Zz d p.b ((m : Nat) : Int)⟩ : St2).a)), (.int .i64 ((⟨Zz c p.a ((m : Nat) : Int), Zz d p.b ((m : Nat) : Int)⟩ : St2).b))]) rfl rfl rfl rfl fun dQ a1 az => ?_
   have fL := az.size
   have E := E.step az (lS (by omega))
   replace a1 : Blk dQ c8 69 [(.int .i64 ((⟨Zz c p.a ((m : Nat) : Int), Zz d p.b ((m : Nat) : Int)⟩ : St2).a)), (.int .i64 ((⟨Zz c p.a ((m : Nat) : Int), Zz d p.b ((m : Nat) : Int)⟩ : St2).b))] := a1
   refine Zf (Zb (fw _ _ ?_))
   refine Zg fun gB fM => ?_
   refine Zc (Za rfl rfl (Ze rfl) (Za rfl rfl (Zw a1.at_ agg69 sz69 rfl) ?_))
   have dR := (((bL.ch0 ax).ch0 ay).ch az (nS (by omega)))
   refine Za rfl rfl (Zqc ((⟨Zz c p.a ((m : Nat) : Int), Zz d p.b ((m : Nat) : Int)⟩ : St2) : St2) un104 zr4 (Zjj ist69) dR rfl rfl) (Za rfl rfl (Xu rfl) (Zf (Zb (fM _ _ ?_))))
   refine Zp rfl (fun aK => ?_) (fun aK => ?_)
   ·have dU := aK
    have aK := Ye (Qb aK)
    have G := aK
    refine Zg fun gC fN => ?_
    refine Zc (Za rfl rfl (Ze rfl) (Za rfl rfl (Zw a1.at_ agg69 sz69 rfl) (Zk rfl rfl ?_)))
    refine Zrd ((⟨Zz c p.a ((m : Nat) : Int), Zz d p.b ((m : Nat) : Int)⟩ : St2) : St2) un104 (Zjj ist69) dR rfl rfl rfl (G) fun fO bs a5 => ?_
    have fP := a5.size
    have E := E.step a5 (lS (by omega))
    replace bs : Mp kvS fO Y (((bx (nxS c d) (p, n) (bE (nxS c d) first k) m).map (·.1)) ++ [((⟨Zz c p.a ((m : Nat) : Int), Zz d p.b ((m : Nat) : Int)⟩ : St2) : St2)]) := bs
    refine Zf (Zb (fN _ _ ?_))
    refine Xg (bl (.slice Akr ((zq (bx (nxS c d) (p, n) (bE (nxS c d) first k) m) V2).drop k).length Ckr)) 12 mixed rfl fun b1 aM => ?_
    have fQ := aM.size
    have E := E.trans aM
    refine dV 0 rfl rfl rfl (fun _ => Ze rfl) ?_
    have fR := ((a1.ch a5 (nS (by omega))).ch0 aM)
    refine dT 1 rfl rfl rfl (Yx fR.at_ (fun i hm => by have M := f _ hm; have af := hikr _ hm; omega) agg69 sz69 rfl ?_)
    refine dV 2 rfl rfl rfl (fun _ => Zh fa106_1 rfl) ?_
    have dW := (((((aI.ch0 ax).ch0 ay).ch az (nS (by omega))).ch a5 (nS (by omega))).ch0 aM)
    refine dT 3 rfl rfl rfl (Yw dW.at_ (fun i hm => by rcases Nat.lt_trichotomy i bu with cO | cO | cO; (exact .inl cO); (exact absurd (cO ▸ hm) t); (exact .inr cO)) agg30 rfl rfl ?_)
    refine dV 5 rfl rfl rfl (fun _ => Ze rfl) ?_
    refine Zas 4 6 (by kernel_rfl) ?_ ?_
    ·refine Yl rfl rfl rfl ?_
     have eI := (((((dw.ch0 ax).ch0 ay).ch az (oS (by omega))).ch a5 (oS (by omega))).ch0 aM)
     have fS : _ := Zly eI hvk (Zbw s)
     refine Step.call (Zn (xs := [.tmp 52]) fk87 rfl) (Zbs fS (by have U := hwl k _ (Yy s); dsimp only at U; omega)) fun dX fT aL => ?_
     obtain ⟨aL, q, bM⟩ := aL
     have fU := bM.size
     have E := E.trans bM
     obtain ⟨c9, da, rfl, db, r⟩ := aL.opn
     have ct : Ch (bl (.slice Akr ((zq (bx (nxS c d) (p, n) (bE (nxS c d) first k) m) V2).drop k).length Ckr)) b1 fT := ((Ch.refl _ _).trans bM.of_nil)
     refine ⟨ct, ?_⟩
     refine dO 6 (Yl rfl rfl rfl ?_)
     refine Zo (cs := ics) (parts := [(0, .tmp 54)]) (0 : Int) [((m : Nat) : Int)] el30 sz3 zr3 Yh (by decide) rfl rfl rfl (by decide) (by decide) rfl fun dY fV bN dc bw => ?_
     have fW := bw.size
     have E := E.trans bw
     obtain ⟨dd, de, rfl, df, cP⟩ := bN.opn
     have cu : Ch (bl (.slice Akr ((zq (bx (nxS c d) (p, n) (bE (nxS c d) first k) m) V2).drop k).length Ckr)) b1 fV := (ct.trans bw.of_nil)
     refine ⟨cu, ?_⟩
     refine dO 7 (Yl rfl rfl rfl ?_)
     have fX := (aL.ch0 bw)
     refine Yd (cs := ics) el30 sz3 by3 zr3 rfl (by decide) Xn fX bN.ls rfl rfl (by have U := hwl k _ (Yy s); dsimp only at U; simp only [List.length_singleton]; omega) (by have U := hwl k _ (Yy s); dsimp only at U; simp only [List.length_singleton]; omega) q (by omega) fun dZ fY bO bP a2 bQ => ?_
     have fZ := bQ.size
     have E := E.step bQ (fun i hi => .inl (by have M := q _ hi; omega))
     obtain ⟨H, I, rfl, dg, T⟩ := bO.opn
     have cv : Ch (bl (.slice Akr ((zq (bx (nxS c d) (p, n) (bE (nxS c d) first k) m) V2).drop k).length Ckr)) b1 fY := (cu.step bQ (fun i hm => by left; have M := q _ hm; have af := r _ hm; omega))
     refine ⟨cv, ?_⟩
     refine dV 8 rfl rfl rfl (fun _ => Yr (parts := [(0, .tmp 50), (1, .tmp 56)]) (cells := [(.int .i64 ((⟨Zz c p.a ((m : Nat) : Int), Zz d p.b ((m : Nat) : Int)⟩ : St2).a)), (.int .i64 ((⟨Zz c p.a ((m : Nat) : Int), Zz d p.b ((m : Nat) : Int)⟩ : St2).b)), (.slice H ((n ++ [((m : Nat) : Int)])).length I)]) zr106 pl106 rfl rfl) (dO 9 (Yl rfl rfl rfl ?_))
     refine Zo (cs := Qs.cs) (parts := [(0, .tmp 57)]) (⟨⟨0, 0⟩, ⟨none, 0, 0⟩⟩ : Qs) [(⟨⟨(⟨Zz c p.a ((m : Nat) : Int), Zz d p.b ((m : Nat) : Int)⟩ : St2).a, (⟨Zz c p.a ((m : Nat) : Int), Zz d p.b ((m : Nat) : Int)⟩ : St2).b⟩, (⟨H, ((n ++ [((m : Nat) : Int)])).length, I⟩ : Sv)⟩ : Qs)] el107 sz106 zr106 Qs.len (by decide) rfl rfl rfl (by decide) (by decide) rfl fun d0 f0 bR dh bz => ?_
     have f1 := bz.size
     have E := E.trans bz
     obtain ⟨di, dj, rfl, dk, cQ⟩ := bR.opn
     have cw : Ch (bl (.slice Akr ((zq (bx (nxS c d) (p, n) (bE (nxS c d) first k) m) V2).drop k).length Ckr)) b1 f0 := (cv.trans bz.of_nil)
     refine ⟨cw, ?_⟩
     refine dO 10 (Yl rfl rfl rfl ?_)
     have f2 := (((((((((a0.ch0 ax).ch0 ay).ch az (dS f hikr (by omega))).ch a5 (dS f hikr (by omega))).ch0 aM).ch0 bM).ch0 bw).ch bQ (fun g hg hm => by have M := q _ hm; have af := r _ hm; have cR := f _ hg; have cS := hikr _ hg; omega)).ch0 bz)
     refine Yd (cs := Qs.cs) el107 sz106 by106 zr106 rfl (by decide) Qs.one f2 bR.ls rfl rfl (by have U := Zgx (m := m) s (by omega); have d1 := hle (k + 1); have du := Zfw bi; simp only [List.length_singleton, List.length_drop]; omega) (by have U := Zgx (m := m) s (by omega); have d1 := hle (k + 1); have du := Zfw bi; simp only [List.length_singleton, List.length_drop]; omega) f (by omega) fun d2 d3 bS bT X bU => ?_
     have f3 := bU.size
     have E := E.step bU (fun i hi => .inl (by have M := f _ hi; omega))
     obtain ⟨a3, a4, rfl, dl, R⟩ := bS.opn
     have dm : Ch (bl (.slice Akr ((zq (bx (nxS c d) (p, n) (bE (nxS c d) first k) m) V2).drop k).length Ckr)) b1 d3 := (cw.step bU (fun i hm => by exact .inr hm))
     refine ⟨dm, ?_⟩
     refine dV 11 rfl rfl rfl (fun _ => Zd rfl) ?_
     refine Yq (by kernel_rfl) ?_
     refine Zv (Zb (dN _ _ (Zc (Za rfl rfl (Ze rfl) (Za rfl rfl (Yk (by omega) rfl rfl) (Za rfl rfl (Zd rfl) (Zf ?_)))))))
     have cT : Ol Qs.cs 106 3 d3 (.slice a3 (((zq (bx (nxS c d) (p, n) (bE (nxS c d) first k) m) V2).drop k ++ [(⟨⟨(⟨Zz c p.a ((m : Nat) : Int), Zz d p.b ((m : Nat) : Int)⟩ : St2).a, (⟨Zz c p.a ((m : Nat) : Int), Zz d p.b ((m : Nat) : Int)⟩ : St2).b⟩, (⟨H, ((n ++ [((m : Nat) : Int)])).length, I⟩ : Sv)⟩ : Qs)])).length a4) ((zq (bx (nxS c d) (p, n) (bE (nxS c d) first k) (m + 1)) (V2 ++ [(⟨H, ((n ++ [((m : Nat) : Int)])).length, I⟩ : Sv)])).drop k) := by
      have hx := bS
      first | (rw [bx_y G]; exact hx) | (rw [bx_n G, Zlv bi (Nat.le_of_lt (Zgu s))]; exact hx)
     have f4 := ((((((bs.ch0 aM).ch0 bM).ch0 bw).ch bQ (fun hm => by have M := q _ hm; have af := r _ hm; omega)).ch0 bz).ch bU (fun hm => by have M := f _ hm; have af := hikr _ hm; omega))
     have cU : Mp kvS d3 Y ((bx (nxS c d) (p, n) (bE (nxS c d) first k) (m + 1)).map (·.1)) := by
      have hx := f4
      first | (rw [bx_y G]; exact hx) | (rw [bx_n G, List.map_append]; exact hx)
     have eJ := (((((eI.ch0 bM).ch0 bw).ch bQ (fun i hm => by have M := q _ hm; have af := r _ hm; omega)).ch0 bz).chS bU S)
     have f5 := ((bO.ch0 bz).ch bU (fun g hg hm => by rcases a2 with ea | ea; (rw [ea] at hg; have M := f _ hm; have af := hikr _ hm; have cR := q _ hg; have cS := r _ hg; omega); (have cV := T _ hg; rw [ea] at hg; have U := List.mem_singleton.1 hg; have M := f _ hm; have af := hikr _ hm; omega)))
     have f6 := ((((((((((br.ch0 ax).ch0 ay).ch az (nS (by omega))).ch a5 (nS (by omega))).ch0 aM).ch0 bM).ch0 bw).ch bQ (fun hm => by have M := q _ hm; have af := r _ hm; omega)).ch0 bz).ch bU (fun hm => by have M := f _ hm; have af := hikr _ hm; omega))
     have f7 := ((((((((((bK.ch0 ax).ch0 ay).ch az (oS (by omega))).ch a5 (oS (by omega))).ch0 aM).ch0 bM).ch0 bw).ch bQ (fun i hi => by have M := q _ hi; omega)).ch0 bz).ch bU (fun i hi => by have M := f _ hi; omega))
     have f8 := ((((((((((bj.ch0 ax).ch0 ay).ch az (oS (by omega))).ch a5 (oS (by omega))).ch0 aM).ch0 bM).ch0 bw).ch bQ (fun i hi => by have M := q _ hi; omega)).ch0 bz).ch bU (fun i hi => by have M := f _ hi; omega))
     have f9 := ((((((((((bk.ch0 ax).ch0 ay).ch az (oS (by omega))).ch a5 (oS (by omega))).ch0 aM).ch0 bM).ch0 bw).ch bQ (fun i hi => by have M := q _ hi; omega)).ch0 bz).ch bU (fun i hi => by have M := f _ hi; omega))
     have ga := (((((dW.ch0 bM).ch0 bw).ch bQ (fun hm => by have M := q _ hm; have af := r _ hm; omega)).ch0 bz).ch bU (fun hm => by exact t (by first | exact hm | exact dy ▸ hm)))
     exact Zb (Exists.intro ((m + 1), (V2 ++ [(⟨H, ((n ++ [((m : Nat) : Int)])).length, I⟩ : Sv)]), (.slice a3 (((zq (bx (nxS c d) (p, n) (bE (nxS c d) first k) m) V2).drop k ++ [(⟨⟨(⟨Zz c p.a ((m : Nat) : Int), Zz d p.b ((m : Nat) : Int)⟩ : St2).a, (⟨Zz c p.a ((m : Nat) : Int), Zz d p.b ((m : Nat) : Int)⟩ : St2).b⟩, (⟨H, ((n ++ [((m : Nat) : Int)])).length, I⟩ : Sv)⟩ : Qs)])).length a4)) ⟨⟨E, (by omega), (by omega), (by first | (rw [bx_y G]; exact bi) | (rw [bx_n G]; simp only [List.length_append, bi, List.length_singleton])), (by first | exact hvk | exact Zlw hvk), f6, f7, f8, f9, ga, cT, (Lo.down bT (by omega)), cU, (by rw [bx_n G, List.map_append]; exact Od.snoc eJ f5 (Lo.down bP (by omega)) (fun g hg => by have M := T g hg; omega) (by omega) (by omega)), (fun hm => by rcases X with ea | ea; (rw [ea] at hm; exact t (by first | exact hm | exact dy ▸ hm)); (have bn := R _ hm; rw [ea] at hm; have U := List.mem_singleton.1 hm; omega)), (fun u hu g hg hm => by rcases List.mem_append.1 hu with hu | hu; (rcases X with ea | ea; (rw [ea] at hm; exact S _ hu _ hg hm); (have bn := R _ hm; rw [ea] at hm; have U := List.mem_singleton.1 hm; have cO := eJ.rng hu hg; omega)); (rw [List.mem_singleton.1 hu] at hg; replace hg : g ∈ bl (.slice H ((n ++ [((m : Nat) : Int)])).length I) := hg; rcases a2 with ea | ea; (rw [ea] at hg; rcases X with ea | ea; (rw [ea] at hm; have M := f _ hm; have af := hikr _ hm; have cR := q _ hg; have cS := r _ hg; omega); (have bn := R _ hm; rw [ea] at hm; have U := List.mem_singleton.1 hm; have cR := q _ hg; have cS := r _ hg; omega)); (have cV := T _ hg; rw [ea] at hg; have U := List.mem_singleton.1 hg; rcases X with ea | ea; (rw [ea] at hm; have M := f _ hm; have af := hikr _ hm; omega); (have bn := R _ hm; rw [ea] at hm; have U := List.mem_singleton.1 hm; omega))))⟩, sC8 rfl rfl rfl rfl rfl rfl rfl rfl (Sub.nil _), (by first | omega | (dsimp only; omega))⟩)
    refine Yl rfl rfl rfl ?_
    refine Zo (cs := ics) (parts := [(0, .tmp 54)]) (0 : Int) [((m : Nat) : Int)] el30 sz3 zr3 Yh (by decide) rfl rfl rfl (by decide) (by decide) rfl fun dY d4 bN dc aA => ?_
    have eK := aA.size
    have E := E.trans aA
    obtain ⟨dd, de, rfl, df, cP⟩ := bN.opn
    have bV : Ch (bl (.slice Akr ((zq (bx (nxS c d) (p, n) (bE (nxS c d) first k) m) V2).drop k).length Ckr)) b1 d4 := ((Ch.refl _ _).trans aA.of_nil)
    refine ⟨bV, ?_⟩
    refine dO 4 (Yl rfl rfl rfl ?_)
    have dn := ((((((dw.ch0 ax).ch0 ay).ch az (oS (by omega))).ch a5 (oS (by omega))).ch0 aM).ch0 aA)
    have d5 : _ := Zly dn hvk (Zbw s)
    refine Step.call (Zn (xs := [.tmp 52]) fk87 rfl) (Zbs d5 (by have U := hwl k _ (Yy s); dsimp only at U; omega)) fun dX d6 aL => ?_
    obtain ⟨aL, q, ag⟩ := aL
    have eL := ag.size
    have E := E.trans ag
    obtain ⟨c9, da, rfl, db, r⟩ := aL.opn
    have bW : Ch (bl (.slice Akr ((zq (bx (nxS c d) (p, n) (bE (nxS c d) first k) m) V2).drop k).length Ckr)) b1 d6 := (bV.trans ag.of_nil)
    refine ⟨bW, ?_⟩
    refine dO 7 (Yl rfl rfl rfl ?_)
    have d7 := (bN.ch0 ag)
    refine Yd (cs := ics) el30 sz3 by3 zr3 rfl (by decide) Xn aL d7.ls rfl rfl (by have U := hwl k _ (Yy s); dsimp only at U; simp only [List.length_singleton]; omega) (by have U := hwl k _ (Yy s); dsimp only at U; simp only [List.length_singleton]; omega) q (by omega) fun dZ d8 bO bP a2 aB => ?_
    have eM := aB.size
    have E := E.step aB (fun i hi => .inl (by have M := q _ hi; omega))
    obtain ⟨H, I, rfl, dg, T⟩ := bO.opn
    have bX : Ch (bl (.slice Akr ((zq (bx (nxS c d) (p, n) (bE (nxS c d) first k) m) V2).drop k).length Ckr)) b1 d8 := (bW.step aB (fun i hm => by left; have M := q _ hm; have af := r _ hm; omega))
    refine ⟨bX, ?_⟩
    refine dV 8 rfl rfl rfl (fun _ => Yr (parts := [(0, .tmp 50), (1, .tmp 56)]) (cells := [(.int .i64 ((⟨Zz c p.a ((m : Nat) : Int), Zz d p.b ((m : Nat) : Int)⟩ : St2).a)), (.int .i64 ((⟨Zz c p.a ((m : Nat) : Int), Zz d p.b ((m : Nat) : Int)⟩ : St2).b)), (.slice H ((n ++ [((m : Nat) : Int)])).length I)]) zr106 pl106 rfl rfl) (dO 9 (Yl rfl rfl rfl ?_))
    refine Zo (cs := Qs.cs) (parts := [(0, .tmp 57)]) (⟨⟨0, 0⟩, ⟨none, 0, 0⟩⟩ : Qs) [(⟨⟨(⟨Zz c p.a ((m : Nat) : Int), Zz d p.b ((m : Nat) : Int)⟩ : St2).a, (⟨Zz c p.a ((m : Nat) : Int), Zz d p.b ((m : Nat) : Int)⟩ : St2).b⟩, (⟨H, ((n ++ [((m : Nat) : Int)])).length, I⟩ : Sv)⟩ : Qs)] el107 sz106 zr106 Qs.len (by decide) rfl rfl rfl (by decide) (by decide) rfl fun d0 d9 bR dh ah => ?_
    have eN := ah.size
    have E := E.trans ah
    obtain ⟨di, dj, rfl, dk, cQ⟩ := bR.opn
    have bY : Ch (bl (.slice Akr ((zq (bx (nxS c d) (p, n) (bE (nxS c d) first k) m) V2).drop k).length Ckr)) b1 d9 := (bX.trans ah.of_nil)
    refine ⟨bY, ?_⟩
    refine dO 10 (Yl rfl rfl rfl ?_)
    have eb := (((((((((a0.ch0 ax).ch0 ay).ch az (dS f hikr (by omega))).ch a5 (dS f hikr (by omega))).ch0 aM).ch0 aA).ch0 ag).ch aB (fun g hg hm => by have M := q _ hm; have af := r _ hm; have cR := f _ hg; have cS := hikr _ hg; omega)).ch0 ah)
    refine Yd (cs := Qs.cs) el107 sz106 by106 zr106 rfl (by decide) Qs.one eb bR.ls rfl rfl (by have U := Zgx (m := m) s (by omega); have d1 := hle (k + 1); have du := Zfw bi; simp only [List.length_singleton, List.length_drop]; omega) (by have U := Zgx (m := m) s (by omega); have d1 := hle (k + 1); have du := Zfw bi; simp only [List.length_singleton, List.length_drop]; omega) f (by omega) fun d2 cW bS bT X aC => ?_
    have eO := aC.size
    have E := E.step aC (fun i hi => .inl (by have M := f _ hi; omega))
    obtain ⟨a3, a4, rfl, dl, R⟩ := bS.opn
    have cX : Ch (bl (.slice Akr ((zq (bx (nxS c d) (p, n) (bE (nxS c d) first k) m) V2).drop k).length Ckr)) b1 cW := (bY.step aC (fun i hm => by exact .inr hm))
    refine ⟨cX, ?_⟩
    refine dV 11 rfl rfl rfl (fun _ => Zd rfl) ?_
    refine Yq (by kernel_rfl) ?_
    refine Zv (Zb (dN _ _ (Zc (Za rfl rfl (Ze rfl) (Za rfl rfl (Yk (by omega) rfl rfl) (Za rfl rfl (Zd rfl) (Zf ?_)))))))
    have b7 : Ol Qs.cs 106 3 cW (.slice a3 (((zq (bx (nxS c d) (p, n) (bE (nxS c d) first k) m) V2).drop k ++ [(⟨⟨(⟨Zz c p.a ((m : Nat) : Int), Zz d p.b ((m : Nat) : Int)⟩ : St2).a, (⟨Zz c p.a ((m : Nat) : Int), Zz d p.b ((m : Nat) : Int)⟩ : St2).b⟩, (⟨H, ((n ++ [((m : Nat) : Int)])).length, I⟩ : Sv)⟩ : Qs)])).length a4) ((zq (bx (nxS c d) (p, n) (bE (nxS c d) first k) (m + 1)) (V2 ++ [(⟨H, ((n ++ [((m : Nat) : Int)])).length, I⟩ : Sv)])).drop k) := by
     have hx := bS
     first | (rw [bx_y G]; exact hx) | (rw [bx_n G, Zlv bi (Nat.le_of_lt (Zgu s))]; exact hx)
    have ec := ((((((bs.ch0 aM).ch0 aA).ch0 ag).ch aB (fun hm => by have M := q _ hm; have af := r _ hm; omega)).ch0 ah).ch aC (fun hm => by have M := f _ hm; have af := hikr _ hm; omega))
    have b8 : Mp kvS cW Y ((bx (nxS c d) (p, n) (bE (nxS c d) first k) (m + 1)).map (·.1)) := by
     have hx := ec
     first | (rw [bx_y G]; exact hx) | (rw [bx_n G, List.map_append]; exact hx)
    have dp := ((((dn.ch0 ag).ch aB (fun i hm => by have M := q _ hm; have af := r _ hm; omega)).ch0 ah).chS aC S)
    have ed := ((bO.ch0 ah).ch aC (fun g hg hm => by rcases a2 with ea | ea; (rw [ea] at hg; have M := f _ hm; have af := hikr _ hm; have cR := q _ hg; have cS := r _ hg; omega); (have cV := T _ hg; rw [ea] at hg; have U := List.mem_singleton.1 hg; have M := f _ hm; have af := hikr _ hm; omega)))
    have ee := ((((((((((br.ch0 ax).ch0 ay).ch az (nS (by omega))).ch a5 (nS (by omega))).ch0 aM).ch0 aA).ch0 ag).ch aB (fun hm => by have M := q _ hm; have af := r _ hm; omega)).ch0 ah).ch aC (fun hm => by have M := f _ hm; have af := hikr _ hm; omega))
    have ef := ((((((((((bK.ch0 ax).ch0 ay).ch az (oS (by omega))).ch a5 (oS (by omega))).ch0 aM).ch0 aA).ch0 ag).ch aB (fun i hi => by have M := q _ hi; omega)).ch0 ah).ch aC (fun i hi => by have M := f _ hi; omega))
    have eg := ((((((((((bj.ch0 ax).ch0 ay).ch az (oS (by omega))).ch a5 (oS (by omega))).ch0 aM).ch0 aA).ch0 ag).ch aB (fun i hi => by have M := q _ hi; omega)).ch0 ah).ch aC (fun i hi => by have M := f _ hi; omega))
    have eh := ((((((((((bk.ch0 ax).ch0 ay).ch az (oS (by omega))).ch a5 (oS (by omega))).ch0 aM).ch0 aA).ch0 ag).ch aB (fun i hi => by have M := q _ hi; omega)).ch0 ah).ch aC (fun i hi => by have M := f _ hi; omega))
    have ei := (((((dW.ch0 aA).ch0 ag).ch aB (fun hm => by have M := q _ hm; have af := r _ hm; omega)).ch0 ah).ch aC (fun hm => by exact t (by first | exact hm | exact dy ▸ hm)))
    exact Zb (Exists.intro ((m + 1), (V2 ++ [(⟨H, ((n ++ [((m : Nat) : Int)])).length, I⟩ : Sv)]), (.slice a3 (((zq (bx (nxS c d) (p, n) (bE (nxS c d) first k) m) V2).drop k ++ [(⟨⟨(⟨Zz c p.a ((m : Nat) : Int), Zz d p.b ((m : Nat) : Int)⟩ : St2).a, (⟨Zz c p.a ((m : Nat) : Int), Zz d p.b ((m : Nat) : Int)⟩ : St2).b⟩, (⟨H, ((n ++ [((m : Nat) : Int)])).length, I⟩ : Sv)⟩ : Qs)])).length a4)) ⟨⟨E, (by omega), (by omega), (by first | (rw [bx_y G]; exact bi) | (rw [bx_n G]; simp only [List.length_append, bi, List.length_singleton])), (by first | exact hvk | exact Zlw hvk), ee, ef, eg, eh, ei, b7, (Lo.down bT (by omega)), b8, (by rw [bx_n G, List.map_append]; exact Od.snoc dp ed (Lo.down bP (by omega)) (fun g hg => by have M := T g hg; omega) (by omega) (by omega)), (fun hm => by rcases X with ea | ea; (rw [ea] at hm; exact t (by first | exact hm | exact dy ▸ hm)); (have bn := R _ hm; rw [ea] at hm; have U := List.mem_singleton.1 hm; omega)), (fun u hu g hg hm => by rcases List.mem_append.1 hu with hu | hu; (rcases X with ea | ea; (rw [ea] at hm; exact S _ hu _ hg hm); (have bn := R _ hm; rw [ea] at hm; have U := List.mem_singleton.1 hm; have cO := dp.rng hu hg; omega)); (rw [List.mem_singleton.1 hu] at hg; replace hg : g ∈ bl (.slice H ((n ++ [((m : Nat) : Int)])).length I) := hg; rcases a2 with ea | ea; (rw [ea] at hg; rcases X with ea | ea; (rw [ea] at hm; have M := f _ hm; have af := hikr _ hm; have cR := q _ hg; have cS := r _ hg; omega); (have bn := R _ hm; rw [ea] at hm; have U := List.mem_singleton.1 hm; have cR := q _ hg; have cS := r _ hg; omega)); (have cV := T _ hg; rw [ea] at hg; have U := List.mem_singleton.1 hg; rcases X with ea | ea; (rw [ea] at hm; have M := f _ hm; have af := hikr _ hm; omega); (have bn := R _ hm; rw [ea] at hm; have U := List.mem_singleton.1 hm; omega))))⟩, sC8 rfl rfl rfl rfl rfl rfl rfl rfl (Sub.nil _), (by first | omega | (dsimp only; omega))⟩)
   have dU := aK
   have aK := Yf (Qc aK)
   have G := aK
   refine Zq ?_
   refine Zv (Zb (dN _ _ (Zc (Za rfl rfl (Ze rfl) (Za rfl rfl (Yk (by omega) rfl rfl) (Za rfl rfl (Zd rfl) (Zf ?_)))))))
   have ej := (((a0.ch0 ax).ch0 ay).ch az (dS f hikr (by omega)))
   have b9 : Ol Qs.cs 106 3 dQ (.slice Akr ((zq (bx (nxS c d) (p, n) (bE (nxS c d) first k) m) V2).drop k).length Ckr) ((zq (bx (nxS c d) (p, n) (bE (nxS c d) first k) (m + 1)) V2).drop k) := by
    have hx := ej
    first | (rw [bx_y G]; exact hx) | (rw [bx_n G, Zlv bi (Nat.le_of_lt (Zgu s))]; exact hx)
   have ca : Mp kvS dQ Y ((bx (nxS c d) (p, n) (bE (nxS c d) first k) (m + 1)).map (·.1)) := by
    have hx := dR
    first | (rw [bx_y G]; exact hx) | (rw [bx_n G, List.map_append]; exact hx)
   have ek := (((dw.ch0 ax).ch0 ay).ch az (oS (by omega)))
   have el := (((br.ch0 ax).ch0 ay).ch az (nS (by omega)))
   have em := (((bK.ch0 ax).ch0 ay).ch az (oS (by omega)))
   have en := (((bj.ch0 ax).ch0 ay).ch az (oS (by omega)))
   have eo := (((bk.ch0 ax).ch0 ay).ch az (oS (by omega)))
   have ep := (((aI.ch0 ax).ch0 ay).ch az (nS (by omega)))
   exact Zb (Exists.intro ((m + 1), V2, (.slice Akr ((zq (bx (nxS c d) (p, n) (bE (nxS c d) first k) m) V2).drop k).length Ckr)) ⟨⟨E, (by omega), (by omega), (by first | (rw [bx_y G]; exact bi) | (rw [bx_n G]; simp only [List.length_append, bi, List.length_singleton])), (by first | exact hvk | exact Zlw hvk), el, em, en, eo, ep, b9, (Lo.down f (by omega)), ca, (by rw [bx_y G]; exact ek.up (Nat.le_refl _) (by omega)), (fun hm => by exact t (by first | exact hm | exact dy ▸ hm)), (fun u hu g hg hm => by exact S _ hu _ hg hm)⟩, sC8 rfl rfl rfl rfl rfl rfl rfl rfl (Sub.nil _), (by first | omega | (dsimp only; omega))⟩)
  have dM := bm
  have bm := Ye bm
  have gD := Zfw bi
  have gE := List.length_drop (l := zq (bx (nxS c d) (p, n) (bE (nxS c d) first k) m) V2) (i := k)
  have gF := Zgu (m := m) s
  refine Xc (Zs (Zs (Yu ?_)))
  refine Zv (Zb (ex _ _ (Zc (Za rfl rfl (Ze rfl) (Zk rfl rfl ?_)))))
  refine (Zsu (ys := (((zq (bx (nxS c d) (p, n) (bE (nxS c d) first k) m) V2).drop k).drop 1)) 1 (((zq (bx (nxS c d) (p, n) (bE (nxS c d) first k) m) V2).drop k).length) a0 Qs.len el107 sz106 rfl ⟨_, _, rfl, by omega⟩ rfl (by omega) (by omega) (Zuc _ _) fun gb dq cx eP => ?_)
  obtain ⟨dr, ds, rfl, gc, gd⟩ := dq.opn
  refine Za rfl rfl (Zd rfl) (Zf ?_)
  have cb : Ol Qs.cs 106 3 eF (.slice dr ((((zq (bx (nxS c d) (p, n) (bE (nxS c d) first k) m) V2).drop k).drop 1)).length ds) ((zq (bE (nxS c d) first (k + 1)) V2).drop (k + 1)) := by
   have hx := dq
   rw [Qz s, show 9 = m by omega]; exact hx.eq (by rw [List.drop_drop])
  have cc : Mp kvS eF Y ((bE (nxS c d) first (k + 1)).map (·.1)) := by
   have hx := bL
   rw [Qz s, show 9 = m by omega]; exact hx
  exact Zb (Exists.intro ((k + 1), V2, (.slice dr ((((zq (bx (nxS c d) (p, n) (bE (nxS c d) first k) m) V2).drop k).drop 1)).length ds)) ⟨⟨E, (by omega), (by have ge := Zgu (m := 9) s; rw [← Qz s] at ge; omega), (by rw [Qz s, show 9 = m by omega]; exact bi), (Zeo hf s aZ), cb, (Lo.down (fun g hg => f g (cx ▸ hg)) (by omega)), cc, (by rw [Qz s, show 9 = m by omega]; exact dw.up (Nat.le_refl _) (by omega)), (fun u hu g hg hm => by rw [cx] at hm; exact S _ hu _ hg hm)⟩, sC4 rfl rfl rfl rfl (Sub.nil _), (by first | omega | (dsimp only; omega))⟩)
 have dE := bh
 have bh := Ye bh
 refine Xc (Zs (Zs (Yu ?_)))
 refine Zb (H8 _ _ ?_)
 refine Zg fun gf er => ?_
 refine Zc (Za rfl rfl (Zd rfl) (Za rfl rfl (Zd rfl) (Zf (Zb (er _ _ ?_)))))
 refine Zr ?_
 have cY : Ol ics 3 1 dv (.slice none 0 0) ((difR o c o d first false).1) := by
  have hx := (Ol.nil (cs := ics) (e := 3) (k := 1) dv)
  first | (rw [← Zao (Zat s aZ hf)]; exact hx) | (rw [← Zao (Zai (Zqn hV (by omega)) hf)]; simpa using hx)
 exact Zi [_, _] ⟨rfl, ⟨rfl, trivial⟩⟩ ⟨(.slice none 0 0), (congrArg (fun zq => (Value.tuple #[(.slice none 0 0), .bool zq])) (by first | rw [← Zao (Zat s aZ hf)] | rw [← Zao (Zai (Zqn hV (by omega)) hf)])), cY, (Lo.nil _), E⟩

/-- impl.together -/
theorem Zhq {w : World} (aS : Int) {LL_aA A : Nat} {i : Value} {aA : List Bool} (g : Ls bcs 1 w LL_aA A i aA) {LL_saN u : Nat} {c : Value} {saN : List Sv} (a : Ls Sv.cs 1 w LL_saN u c saN) {LR_aN BB_aN : Nat} {aN : List (List Int)} (d : Rd ics 1 w LR_aN BB_aN saN aN) (bS : Int) {LL_bA B : Nat} {j : Value} {bA : List Bool} (h : Ls bcs 1 w LL_bA B j bA) {LL_sbN x : Nat} {e : Value} {sbN : List Sv} (b : Ls Sv.cs 1 w LL_sbN x e sbN) {LR_bN BB_bN : Nat} {bN : List (List Int)} (f : Rd ics 1 w LR_bN BB_bN sbN bN) :
 Ctr Try.prog 46 #[(.agg #[(.int .i64 aS), i, c]), (.agg #[(.int .i64 bS), j, e])] w (fun v w' => ∃ F G, v = .func (.func 88) #[] #[.pointer (some ⟨F, 0, none⟩), .pointer (some ⟨G, 0, none⟩)] ∧ Blk w' F 27 [(.int .i64 aS), i, c] ∧ w.heap.size ≤ F ∧ Blk w' G 27 [(.int .i64 bS), j, e] ∧ w.heap.size ≤ G ∧ Ch [] w w') := by
 obtain ⟨q, r, y⟩ := g.val
 subst y
 have L := g.len
 have g := g.here (by decide)
 obtain ⟨k, l, o⟩ := a.val
 subst o
 have H := a.len
 have a := a.here (by decide)
 have d := d.here (by decide)
 have I := d.1
 obtain ⟨s, t, z⟩ := h.val
 subst z
 have M := h.len
 have h := h.here (by decide)
 obtain ⟨m, n, p⟩ := b.val
 subst p
 have J := b.len
 have b := b.here (by decide)
 have f := f.here (by decide)
 have K := f.1
 have E := Ch.refl [] w
 refine Yc (N := 6) (vs0 := [(.agg #[(.int .i64 aS), (.slice q aA.length r), (.slice k saN.length l)]), (.agg #[(.int .i64 bS), (.slice s bA.length t), (.slice m sbN.length n)])]) Try.func46 rfl rfl rfl ?_
 refine Zg fun K1 H1 => ?_
 refine Zc (Zk rfl rfl ?_)
 refine Xz rfl fun O W2 C C2 Q => ?_
 have R := C2.size
 have E := E.trans C2
 have S := C.lt
 replace C : Blk W2 O 27 [(.int .i64 aS), (.slice q aA.length r), (.slice k saN.length l)] := C
 refine Zk rfl rfl ?_
 refine Xz rfl fun P W3 D C3 T => ?_
 have U := C3.size
 have E := E.trans C3
 have V := D.lt
 replace D : Blk W3 P 27 [(.int .i64 bS), (.slice s bA.length t), (.slice m sbN.length n)] := D
 refine Za rfl rfl (Zd rfl) (Zf (Zb (H1 _ _ ?_)))
 refine Zg fun K4 H4 => ?_
 refine Zc (Za rfl rfl (Zfc (xs := []) (ys := [.tmp 2, .tmp 3]) rfl rfl) (Za rfl rfl (Zd rfl) (Zf (Zb (H4 _ _ ?_)))))
 refine Zr ?_
 have F5 := (C.ch0 C3)
 exact Zi [_] ⟨rfl, trivial⟩ ⟨_, _, rfl, F5, (by omega), D, (by omega), E⟩

/-- impl.DistinguishingWord -/
theorem Zcg {w : World} (aS : Int) {LL_aA I : Nat} {A : Value} {aA : List Bool} (m : Ls bcs 1 w LL_aA I A aA) {LL_saN B : Nat} {y : Value} {saN : List Sv} (f : Ls Sv.cs 1 w LL_saN B y saN) {LR_aN BB_aN : Nat} {aN : List (List Int)} (g : Rd ics 1 w LR_aN BB_aN saN aN) (s : Int) (t : Int) :
 Ctr Try.prog 8 #[(.agg #[(.int .i64 aS), A, y]), (.int .i64 s), (.int .i64 t)] w (fun v w' => ∃ (R : Value), v = .tuple #[R, .bool ((dwR aS aA aN s t).2)] ∧ Ol ics 3 1 w' R ((dwR aS aA aN s t).1) ∧ Lo w.heap.size R ∧ Ch [] w w') := by
 obtain ⟨r, u, C⟩ := m.val
 subst C
 have ap := m.len
 have m := m.here (by decide)
 obtain ⟨h, i, z⟩ := f.val
 subst z
 have S := f.len
 have f := f.here (by decide)
 have g := g.here (by decide)
 have T := g.1
 have E := Ch.refl [] w
 refine Yc (N := 39) (vs0 := [(.agg #[(.int .i64 aS), (.slice r aA.length u), (.slice h saN.length i)]), (.int .i64 s), (.int .i64 t)]) Try.func8 rfl rfl rfl ?_
 refine Zg fun K1 H1 => ?_
 refine Zc (Zk rfl rfl ?_)
 refine Xz rfl fun ay W2 D C2 aQ => ?_
 have aR := C2.size
 have E := E.trans C2
 have aT := D.lt
 replace D : Blk W2 ay 27 [(.int .i64 aS), (.slice r aA.length u), (.slice h saN.length i)] := D
 refine Za rfl rfl (Zd rfl) (Za rfl rfl (Zd rfl) (Zf (Zb (H1 _ _ ?_))))
 refine Zg fun K3 H3 => ?_
 refine Zc (Za rfl rfl (Zh fa27_1 rfl) (Za rfl rfl (Zm D.at_ agg24 rfl rfl) (Za rfl rfl (Xa (by rw [el24]; rfl) rfl) (Za rfl rfl (Zd rfl) (Zf (Zb (H3 _ _ ?_)))))))
 refine Zg fun K4 H4 => ?_
 refine Zg fun K5 H5 => ?_
 refine Zc (Za rfl rfl (Zw D.at_ agg27 sz27 rfl) (Zk rfl rfl ?_))
 have F6 := (m.ch0 C2)
 have F7 := (g.ch0 C2)
 have F8 := (f.ch0 C2)
 refine Step.call (Zn (xs := [.tmp 12]) fk43 rfl) (Zac _ F6 F8 F7 ) fun az W9 U => ?_
 obtain ⟨rfl, C9⟩ := U
 have aU := C9.size
 have E := E.trans C9
 refine Za rfl rfl (Xu rfl) (Za rfl rfl (Ze rfl) ?_)
 refine Yn (d := 15) rfl (fun a => ?_) (fun a => ?_)
 ·have V := a
  have a := bf_t (Qb a)
  refine Zj rfl rfl (Zj rfl rfl (Zj rfl rfl (Zj rfl rfl (Zj rfl rfl (Za rfl rfl (Yi rfl rfl) (Za rfl rfl (Ze rfl) (Zj rfl rfl ?_)))))))
  refine Zj rfl rfl (Zj rfl rfl (Zj rfl rfl (Zj rfl rfl (Za rfl rfl (Yi rfl rfl) (Zf (Zb (H5 _ _ ?_)))))))
  refine Xp rfl ?_
  refine Zg fun aV aB => ?_
  refine Zc (Za rfl rfl (Zd rfl) (Za rfl rfl (Zd rfl) (Zf (Zb (aB _ _ ?_)))))
  refine Zr (Zl ?_)
  have J : Ol ics 3 1 W9 (.slice none 0 0) ((dwR aS aA aN s t).1) := by
   have hx := (Ol.nil (cs := ics) (e := 3) (k := 1) W9)
   first | (rw [Zdc a b c]; exact hx) | (rw [Xt (fun q => a q.1)]; simpa using hx) | (rw [Xt (fun q => b q.2.1)]; simpa using hx) | (rw [Xt (fun q => c q.2.2)]; simpa using hx)
  exact Zi [_, _] ⟨rfl, ⟨rfl, trivial⟩⟩ ⟨(.slice none 0 0), (congrArg (fun zq => (Value.tuple #[(.slice none 0 0), .bool zq])) (by first | rw [Zdc a b c] | rw [Xt (fun q => a q.1)] | rw [Xt (fun q => b q.2.1)] | rw [Xt (fun q => c q.2.2)])), J, (Lo.nil _), E⟩
 have V := a
 have a := bt_t (Qc a)
 refine Za rfl rfl (Ze rfl) (Za rfl rfl (Ze rfl) (Za rfl rfl (Zay (by omega) rfl rfl) (Zk rfl rfl ?_)))
 refine Step.call (Zn (xs := [.tmp 16, .const (Go.Value.int Go.IntKind.i64 0), .tmp 18]) fk44 rfl) (Zam _ _ _ ) fun aC aq X => ?_
 obtain ⟨rfl, F⟩ := X
 have aD := F.size
 have E := E.trans F
 refine Za rfl rfl (Xu rfl) (Za rfl rfl (Ym rfl rfl) (Za rfl rfl (Ze rfl) ?_))
 refine Yn (d := 22) rfl (fun b => ?_) (fun b => ?_)
 ·have Y := b
  have b := Ye (Qb b)
  refine Zj rfl rfl (Zj rfl rfl (Zj rfl rfl (Zj rfl rfl (Zj rfl rfl (Za rfl rfl (Yi rfl rfl) (Zf (Zb (H5 _ _ ?_))))))))
  refine Xp rfl ?_
  refine Zg fun aW aE => ?_
  refine Zc (Za rfl rfl (Zd rfl) (Za rfl rfl (Zd rfl) (Zf (Zb (aE _ _ ?_)))))
  refine Zr (Zl ?_)
  have K : Ol ics 3 1 aq (.slice none 0 0) ((dwR aS aA aN s t).1) := by
   have hx := (Ol.nil (cs := ics) (e := 3) (k := 1) aq)
   first | (rw [Zdc a b c]; exact hx) | (rw [Xt (fun q => a q.1)]; simpa using hx) | (rw [Xt (fun q => b q.2.1)]; simpa using hx) | (rw [Xt (fun q => c q.2.2)]; simpa using hx)
  exact Zi [_, _] ⟨rfl, ⟨rfl, trivial⟩⟩ ⟨(.slice none 0 0), (congrArg (fun zq => (Value.tuple #[(.slice none 0 0), .bool zq])) (by first | rw [Zdc a b c] | rw [Xt (fun q => a q.1)] | rw [Xt (fun q => b q.2.1)] | rw [Xt (fun q => c q.2.2)])), K, (Lo.nil _), E⟩
 have Y := b
 have b := Yf (Qc b)
 refine Za rfl rfl (Ze rfl) (Za rfl rfl (Ze rfl) (Za rfl rfl (Zay (by omega) rfl rfl) (Zk rfl rfl ?_)))
 refine Step.call (Zn (xs := [.tmp 23, .const (Go.Value.int Go.IntKind.i64 0), .tmp 25]) fk44 rfl) (Zam _ _ _ ) fun aF au Z => ?_
 obtain ⟨rfl, G⟩ := Z
 have aG := G.size
 have E := E.trans G
 refine Za rfl rfl (Xu rfl) (Za rfl rfl (Ym rfl rfl) (Zf (Zb (H5 _ _ ?_))))
 refine Zp rfl (fun c => ?_) (fun c => ?_)
 ·have aa := c
  have c := Ye (Qb c)
  refine Zg fun aX aH => ?_
  refine Zc (Za rfl rfl (Zd rfl) (Za rfl rfl (Zd rfl) (Zf (Zb (aH _ _ ?_)))))
  refine Zr (Zl ?_)
  have L : Ol ics 3 1 au (.slice none 0 0) ((dwR aS aA aN s t).1) := by
   have hx := (Ol.nil (cs := ics) (e := 3) (k := 1) au)
   first | (rw [Zdc a b c]; exact hx) | (rw [Xt (fun q => a q.1)]; simpa using hx) | (rw [Xt (fun q => b q.2.1)]; simpa using hx) | (rw [Xt (fun q => c q.2.2)]; simpa using hx)
  exact Zi [_, _] ⟨rfl, ⟨rfl, trivial⟩⟩ ⟨(.slice none 0 0), (congrArg (fun zq => (Value.tuple #[(.slice none 0 0), .bool zq])) (by first | rw [Zdc a b c] | rw [Xt (fun q => a q.1)] | rw [Xt (fun q => b q.2.1)] | rw [Xt (fun q => c q.2.2)])), L, (Lo.nil _), E⟩
 have aa := c
 have c := Yf (Qc c)
 refine Zq ?_
 refine Zb (H4 _ _ ?_)
 refine Zg fun aY aI => ?_
 refine Zc (Za rfl rfl (Ze rfl) (Za rfl rfl (Ze rfl) (Za rfl rfl (Yr (parts := [(0, .tmp 29), (1, .tmp 30)]) (cells := [(.int .i64 s), (.int .i64 t)]) zr69 pl69 rfl rfl) ?_)))
 have ab := (((D.ch0 C9).ch0 F).ch0 G)
 refine Za rfl rfl (Zw ab.at_ agg27 sz27 rfl) (Za rfl rfl (Zw ab.at_ agg27 sz27 rfl) (Zk rfl rfl ?_))
 have ac := (((F6.ch0 C9).ch0 F).ch0 G)
 have ad := (((F7.ch0 C9).ch0 F).ch0 G)
 have ae := (((F8.ch0 C9).ch0 F).ch0 G)
 refine Step.call (Zn (xs := [.tmp 32, .tmp 33]) fk46 rfl) (Zhq _ ac ae ad _ ac ae ad ) fun aJ av af => ?_
 obtain ⟨M, O, rfl, j, ag, l, ah, H⟩ := af
 have aK := H.size
 have E := E.trans H
 have ai := j.lt
 replace j : Blk av M 27 [(.int .i64 aS), (.slice r aA.length u), (.slice h saN.length i)] := j
 have aj := l.lt
 replace l : Blk av O 27 [(.int .i64 aS), (.slice r aA.length u), (.slice h saN.length i)] := l
 refine Za rfl rfl (Zfc (xs := []) (ys := [.tmp 3]) rfl rfl) (Zk rfl rfl ?_)
 have ak := (ac.ch0 H)
 have al := (ad.ch0 H)
 have am := (ae.ch0 H)
 have aL := (ab.ch0 H)
 refine Step.call (Zn (xs := [.tmp 31, .tmp 34, .tmp 35]) fk45 rfl) (Zho ⟨s, t⟩ _ ak am al j _ ak am al l _ ak am al aL a a ⟨Zfy b, Zfy c⟩ rfl rfl) fun aM aO an => ?_
 obtain ⟨aw, rfl, n, x, ax⟩ := an
 have aP := ax.size
 have E := E.trans ax
 obtain ⟨o, p, rfl, ao, P⟩ := n.opn
 refine Za rfl rfl (Xm rfl rfl) (Za rfl rfl (Xm rfl rfl) (Za rfl rfl (Zd rfl) (Za rfl rfl (Zd rfl) (Zf (Zb (aI _ _ ?_))))))
 refine Zr ?_
 have Q : Ol ics 3 1 aO (.slice o ((difR aA aN aA aN (⟨s, t⟩ : St2) false).1).length p) ((dwR aS aA aN s t).1) := by
  have hx := n
  first | (rw [Zdc a b c]; exact hx) | (rw [Xt (fun q => a q.1)]; simpa using hx) | (rw [Xt (fun q => b q.2.1)]; simpa using hx) | (rw [Xt (fun q => c q.2.2)]; simpa using hx)
 exact Zi [_, _] ⟨rfl, ⟨rfl, trivial⟩⟩ ⟨(.slice o ((difR aA aN aA aN (⟨s, t⟩ : St2) false).1).length p), (congrArg (fun zq => (Value.tuple #[(.slice o ((difR aA aN aA aN (⟨s, t⟩ : St2) false).1).length p), .bool zq])) (by first | rw [Zdc a b c] | rw [Xt (fun q => a q.1)] | rw [Xt (fun q => b q.2.1)] | rw [Xt (fun q => c q.2.2)])), Q, (Lo.down x (by omega)), E⟩

/-- slices.Clone[[]bool,bool] -/
theorem Zcn {w : World} {LL_s j : Nat} {b : Value} {s : List Bool} (a : Ls bcs 1 w LL_s j b s) (hb : s.length ≤ 1048576) :
 Ctr Try.prog 98 #[b] w (fun v w' => Ol bcs 4 1 w' v (s) ∧ Lo w.heap.size v ∧ Ch [] w w') := by
 obtain ⟨l, m, c⟩ := a.val
 subst c
 have x := a.len
 have a := a.here (by decide)
 have E := Ch.refl [] w
 refine Yc (N := 8) (vs0 := [(.slice l s.length m)]) Try.func98 rfl rfl rfl ?_
 refine Zg fun K1 H1 => ?_
 refine Zc (Za rfl rfl (Zd rfl) (Zf (Zb (H1 _ _ ?_))))
 refine Zg fun K2 H2 => ?_
 refine Zg fun K3 H3 => ?_
 refine Zc (Za rfl rfl (Ze rfl) (Za rfl rfl (Zug (by rw [el24]; rfl) rfl rfl) (Zf (Zb (H3 _ _ ?_)))))
 refine Zp rfl (fun d => ?_) (fun d => ?_)
 ·have y := d
  refine Zg fun K5 H5 => ?_
  refine Zc (Za rfl rfl (Zd rfl) (Zf (Zb (H5 _ _ ?_))))
  refine Zr (Zl ?_)
  have n : Ol bcs 4 1 w (.slice none 0 0) (s) := by
   have hx := (Ol.nil (cs := bcs) (e := 4) (k := 1) w)
   first | (have hn := Ls.none a d; subst hn; exact hx) | exact hx
  exact Zi [_] ⟨rfl, trivial⟩ ⟨n, Lo.nil _, E⟩
 have y := d
 refine Zq ?_
 refine Zb (H2 _ _ ?_)
 refine Zg fun K7 H7 => ?_
 refine Zc (Zk rfl rfl ?_)
 refine Xd (k := 1) bcs el24 sz4 fun H W8 r f C8 => ?_
 have I := C8.size
 have E := E.trans C8
 obtain ⟨z, A, rfl, B, t⟩ := r.opn
 refine Za rfl rfl (Ze rfl) (Zk rfl rfl ?_)
 have C := (a.ch0 C8)
 refine Yd (cs := bcs) el24 sz4 by4 zr4 rfl (by decide) Zbo r C rfl rfl (by first | omega | (simp only [List.length_append, List.length_nil, List.length_cons, List.length_replicate, List.length_set, List.length_reverse, List.length_map] at *; omega) | (simp at *; omega)) (by first | omega | (simp only [List.length_append, List.length_nil, List.length_cons, List.length_replicate, List.length_set, List.length_reverse, List.length_map] at *; omega) | (simp at *; omega)) f (by omega) fun D W9 h o F C9 => ?_
 have J := C9.size
 have E := E.step C9 (fun i hi => .inl (by have K := f _ hi; omega))
 replace h : Ol bcs 4 1 W9 D s := h
 obtain ⟨p, q, rfl, G, u⟩ := h.opn
 refine Za rfl rfl (Zd rfl) (Zf (Zb (H7 _ _ ?_)))
 refine Zr ?_
 have g : Ol bcs 4 1 W9 (.slice p (s).length q) (s) := by
  have hx := h
  first | (have hn := Ls.none a d; subst hn; exact hx) | exact hx
 exact Zi [_] ⟨rfl, trivial⟩ ⟨g, Lo.down o (by omega), E⟩

/-- impl.Automaton).live -/
theorem Zdt {w : World} (aS : Int) {LL_aA aO : Nat} {an : Value} {aA : List Bool} (J : Ls bcs 1 w LL_aA aO an aA) {LL_saN ax : Nat} {ab : Value} {saN : List Sv} (B : Ls Sv.cs 1 w LL_saN ax ab saN) {LR_aN BB_aN : Nat} {aN : List (List Int)} (G : Rd ics 1 w LR_aN BB_aN saN aN) (hv : Xe aS aA aN) :
 Ctr Try.prog 60 #[(.agg #[(.int .i64 aS), an, ab])] w (fun v w' => Ol bcs 4 1 w' v (Zy aA aN) ∧ Lo w.heap.size v ∧ Ch [] w w') := by
 obtain ⟨o, p, ay⟩ := J.val
 subst ay
 have bk := J.len
 have J := J.here (by decide)
 obtain ⟨m, n, ag⟩ := B.val
 subst ag
 have aZ := B.len
 have B := B.here (by decide)
 have G := G.here (by decide)
 have a0 := G.1
 have E := Ch.refl [] w
 have cg := hv.2.2.1; have ci := hv.1
 refine Yc (N := 48) (vs0 := [(.agg #[(.int .i64 aS), (.slice o aA.length p), (.slice m saN.length n)])]) Try.func60 rfl rfl rfl ?_
 refine Zg fun K1 H1 => ?_
 refine Zc (Zk rfl rfl ?_)
 refine Xz rfl fun ah W2 aP C2 cj => ?_
 have ck := C2.size
 have E := E.trans C2
 have cm := aP.lt
 replace aP : Blk W2 ah 27 [(.int .i64 aS), (.slice o aA.length p), (.slice m saN.length n)] := aP
 refine Za rfl rfl (Zd rfl) (Zf (Zb (H1 _ _ ?_)))
 refine Zg fun K3 H3 => ?_
 refine Zc (Za rfl rfl (Zh fa27_1 rfl) (Za rfl rfl (Zm aP.at_ agg24 rfl rfl) (Zk rfl rfl ?_)))
 have F4 := (J.ch0 C2)
 refine Step.call (Zn (xs := [.tmp 10]) fk98 rfl) (Zcn F4 (by omega)) fun bG W5 ai => ?_
 obtain ⟨ai, u, C5⟩ := ai
 have cn := C5.size
 have E := E.trans C5
 obtain ⟨b, c, rfl, bm, az⟩ := ai.opn
 refine Za rfl rfl (Zd rfl) (Zf (Zb (H3 _ _ ?_)))
 refine Zg fun K6 H6 => ?_
 refine Zg fun K7 H7 => ?_
 refine Zc (Za rfl rfl (Zd rfl) (Zf (Zb (H7 _ _ ?_))))
 refine Zx ?_
 have aQ : Ol bcs 4 1 W5 (.slice b (aA).length c) (aA) := by
  have hx := ai
  exact hx
 have F9 := (aP.ch0 C5)
 have bH := (F4.ch0 C5)
 refine Xf (σ := Bool × List Bool) (fun ⟨ao, Y⟩ => [(1, (.pointer (some ⟨ah, 0, none⟩))), (2, (.slice none 0 0)), (3, (.slice b (aA).length c)), (4, (.bool ao))]) (fun ⟨ao, Y⟩ wx => Ch [] w wx ∧ W5.heap.size ≤ wx.heap.size ∧ (Y.length = aA.length) ∧ (Zba (Zbe aA) (Zbi aN) Y) ∧ (∀ q, Zbe aA q → Y[q]? = some true) ∧ (ao = false → PUp aN Y aN.length) ∧ Blk wx ah 27 [(.int .i64 aS), (.slice o aA.length p), (.slice m saN.length n)] ∧ Ls bcs 1 wx LL_aA w.heap.size (.slice o aA.length p) aA ∧ Ol bcs 4 1 wx (.slice b (aA).length c) Y) (fun ⟨ao, Y⟩ => 2 * Y.count false + (if ao = true then 1 else 0)) (true, aA) (sC4 rfl rfl rfl rfl (Sub.nil _)) ⟨E, (Nat.le_refl _), rfl, (fun s h => .base h), (fun s h => h), (fun h => by cases h), F9, bH, aQ⟩ ?_
 rintro ⟨ao, Y⟩ a1 ⟨E, bI, bn, bp, bq, a2, ac, aR, ap⟩
 have a3 := E
 have br := a3.size
 have a4 := ac.lt
 refine Zg fun co bJ => ?_
 refine Zg fun cp bK => ?_
 refine Zc (Za rfl rfl (Ze rfl) (Zf (Zb (bK _ _ ?_))))
 refine Zp rfl (fun ad => ?_) (fun ad => ?_)
 ·have a5 := ad
  refine Zq ?_
  refine Zb (bJ _ _ ?_)
  refine Zx ?_
  refine Zg fun cq bL => ?_
  refine Zc (Za rfl rfl (Zd rfl) (Zf (Zb (bL _ _ ?_))))
  refine Zg fun cr bM => ?_
  refine Zc (Za rfl rfl (Zh fa27_2 rfl) (Za rfl rfl (Zm ac.at_ agg25 rfl rfl) (Za rfl rfl (Xa (by rw [el25]; rfl) rfl) (Za rfl rfl (Ze rfl) (Zf (Zb (bM _ _ ?_)))))))
  refine Zx ?_
  have aB : Ol bcs 4 1 a1 (.slice b (aA).length c) (Y) := by
   have hx := ap
   exact hx
  refine Xf (σ := Nat × Bool × List Bool) (fun ⟨s, aq, Z⟩ => [(1, (.pointer (some ⟨ah, 0, none⟩))), (2, (.slice none 0 0)), (3, (.slice b (aA).length c)), (4, (.bool aq)), (12, (.bool ao)), (13, (.pointer (some (Addr.add ⟨ah, 0, none⟩ 2)))), (14, (.slice m saN.length n)), (15, (.int .i64 ((saN.length : Nat) : Int))), (16, (.int .i64 ((s : Nat) : Int)))]) (fun ⟨s, aq, Z⟩ wx => Ch [] w wx ∧ a1.heap.size ≤ wx.heap.size ∧ (s ≤ aN.length) ∧ (Z.length = aA.length) ∧ (Zba (Zbe aA) (Zbi aN) Z) ∧ (∀ q, Zbe aA q → Z[q]? = some true) ∧ (aq = false → PUp aN Z s) ∧ (Z.count false + (if aq = true then 1 else 0) ≤ Y.count false) ∧ Blk wx ah 27 [(.int .i64 aS), (.slice o aA.length p), (.slice m saN.length n)] ∧ Ls bcs 1 wx LL_aA w.heap.size (.slice o aA.length p) aA ∧ Ol bcs 4 1 wx (.slice b (aA).length c) Z) (fun ⟨s, aq, Z⟩ => aN.length - s) (0, false, Y) (sC8 rfl rfl rfl rfl rfl rfl rfl rfl (sC1 rfl (Sub.nil _))) ⟨E, (Nat.le_refl _), (by omega), bn, bp, bq, (fun _ => Zrs), (by simp), ac, aR, aB⟩ ?_
  rintro ⟨s, aq, Z⟩ aT ⟨E, bN, hs, bs, bu, bv, bw, bz, ae, au, av⟩
  have aC := E
  have bA := aC.size
  have a6 := ae.lt
  refine Zg fun ct bO => ?_
  refine Zc (Za rfl rfl (Xi rfl rfl) (Zf (Zb (bO _ _ ?_))))
  refine Zg fun cu bP => ?_
  refine Zp rfl (fun P => ?_) (fun P => ?_)
  ·have a7 := P
   have P := Yf P
   refine Zq ?_
   refine Zb (bP _ _ ?_)
   refine Zg fun cv bQ => ?_
   refine Zx ?_
   refine Zg fun cw bR => ?_
   refine Zc (Za rfl rfl (Ze rfl) (Zk rfl rfl ?_))
   have bB := (B.ch0 aC)
   refine (Yo bB Sv.len el25 sz30 rfl rfl rfl (by omega) fun aD a8 aU aj => ?_)
   have bC := (G.ch0 aC)
   obtain ⟨f, a, K⟩ := bC.get aU
   obtain ⟨Q, bS, R⟩ := a8
   obtain rfl := K.eqn
   have bT := K.len
   replace K : Ls ics 1 aT LR_aN w.heap.size (.slice Q f.length R) f := K
   replace aj : At aT LL_saN w.heap.size aD ([(.slice Q f.length R)]) := aj
   have bU := (Xo hv.2 a).1
   refine Za rfl rfl (Yg aj agg30 rfl rfl) (Za rfl rfl (Zd rfl) (Za rfl rfl (Zd rfl) (Zf (Zb (bR _ _ ?_)))))
   refine Zg fun cx bV => ?_
   refine Zc (Za rfl rfl (Ze rfl) (Za rfl rfl (Xa (by rw [el30]; rfl) rfl) (Za rfl rfl (Ze rfl) (Zf (Zb (bV _ _ ?_))))))
   refine Zx ?_
   have aE : Ol bcs 4 1 aT (.slice b (aA).length c) (Z) := by
    have hx := av
    exact hx
   refine Xf (σ := Nat × Bool × List Bool) (fun ⟨k, af, A⟩ => [(1, (.pointer (some ⟨ah, 0, none⟩))), (2, (.slice none 0 0)), (3, (.slice b (aA).length c)), (4, (.bool af)), (5, (.int .i64 ((s : Nat) : Int))), (6, (.slice Q f.length R)), (12, (.bool ao)), (13, (.pointer (some (Addr.add ⟨ah, 0, none⟩ 2)))), (14, (.slice m saN.length n)), (15, (.int .i64 ((saN.length : Nat) : Int))), (16, (.int .i64 ((s : Nat) : Int))), (17, (.bool (decide (((s : Nat) : Int) < ((saN.length : Nat) : Int))))), (18, (.int .i64 ((s : Nat) : Int))), (19, (.pointer (some aD))), (20, (.slice Q f.length R)), (21, (.slice Q f.length R)), (22, (.int .i64 ((f.length : Nat) : Int))), (23, (.int .i64 ((k : Nat) : Int)))]) (fun ⟨k, af, A⟩ wx => Ch [] w wx ∧ aT.heap.size ≤ wx.heap.size ∧ (k ≤ f.length) ∧ (A.length = aA.length) ∧ (Zba (Zbe aA) (Zbi aN) A) ∧ (∀ q, Zbe aA q → A[q]? = some true) ∧ (af = false → PUp aN A s ∧ PRow aN A s k) ∧ (A.count false + (if af = true then 1 else 0) ≤ Y.count false) ∧ Blk wx ah 27 [(.int .i64 aS), (.slice o aA.length p), (.slice m saN.length n)] ∧ Ls bcs 1 wx LL_aA w.heap.size (.slice o aA.length p) aA ∧ Ls Sv.cs 1 wx LL_saN w.heap.size (.slice m saN.length n) saN ∧ Rd ics 1 wx LR_aN w.heap.size saN aN ∧ At wx LL_saN w.heap.size aD ([(.slice Q f.length R)]) ∧ Ls ics 1 wx LR_aN w.heap.size (.slice Q f.length R) f ∧ Ol bcs 4 1 wx (.slice b (aA).length c) A) (fun ⟨k, af, A⟩ => f.length - k) (0, aq, Z) (sC8 rfl rfl rfl rfl rfl rfl rfl rfl (sC8 rfl rfl rfl rfl rfl rfl rfl rfl (sC2 rfl rfl (Sub.nil _)))) ⟨E, (Nat.le_refl _), (by omega), bs, bu, bv, (fun e => ⟨bw e, Zpv⟩), bz, ae, au, bB, bC, aj, K, aE⟩ ?_
   rintro ⟨k, af, A⟩ aX ⟨E, bW, cy, ak, aa, al, I, am, F, L, U, V, X, M, x⟩
   have a9 := E
   have bD := a9.size
   have ba := F.lt
   refine Zg fun cz bX => ?_
   refine Zc (Za rfl rfl (Xi rfl rfl) (Zf (Zb (bX _ _ ?_))))
   refine Zg fun cA bY => ?_
   refine Zp rfl (fun S => ?_) (fun S => ?_)
   ·have bb := S
    have S := Yf S
    refine Zq ?_
    refine Zb (bY _ _ ?_)
    refine Zg fun cB aY => ?_
    refine Zx ?_
    refine Zg fun cC bZ => ?_
    refine Zc (Zk rfl rfl ?_)
    refine (Yo M Yh el30 sz3 rfl rfl rfl (by omega) fun b0 H g bc => ?_)
    have cD := Zag hv.2 a g
    refine Za rfl rfl (Yg bc agg3 rfl rfl) (Za rfl rfl (Zd rfl) (Zf (Zb (bZ _ _ ?_))))
    refine Zg fun cE bd => ?_
    refine Zc (Za rfl rfl (Ze rfl) (Za rfl rfl (Ziv rfl rfl) (Za rfl rfl (Ze rfl) ?_)))
    refine Yn (d := 29) rfl (fun T => ?_) (fun T => ?_)
    ·have be := T
     have T := Yf T
     refine Za rfl rfl (Ze rfl) (Za rfl rfl (Ze rfl) (Zk rfl rfl ?_))
     refine (Yo (j := H.toNat) x.ls Qq el24 sz4 rfl rfl (by omega) (by omega) fun b1 b2 y bf => ?_)
     refine Za rfl rfl (Yg bf agg4 rfl rfl) (Za rfl rfl (Yi rfl rfl) (Za rfl rfl (Ze rfl) ?_))
     refine Yn (d := 35) rfl (fun C => ?_) (fun C => ?_)
     ·have bg := C
      refine Za rfl rfl (Ze rfl) (Za rfl rfl (Ze rfl) (Zk rfl rfl ?_))
      refine (Yo x.ls Qq el24 sz4 rfl rfl rfl (by omega) fun b3 O z bh => ?_)
      refine Za rfl rfl (Yg bh agg4 rfl rfl) (Za rfl rfl (Xu rfl) (Za rfl rfl (Yi rfl rfl) (Zf (Zb (bd _ _ ?_)))))
      refine Zp rfl (fun D => ?_) (fun D => ?_)
      ·have bi := D
       refine Zg fun cF b4 => ?_
       refine Zc (Za rfl rfl (Ze rfl) (Za rfl rfl (Ze rfl) (Zk rfl rfl ?_)))
       refine Zen (j := s) x el24 sz4 rfl rfl rfl (by omega) fun b5 b6 bF bj => ?_
       refine Zk rfl rfl ?_
       refine Zep (j := s) true x bj Qq sz4 rfl rfl rfl rfl (by omega) fun b7 aV aw => ?_
       have b8 := aw.size
       have E := E.step aw (fun i hi => .inl (by have aF := u _ hi; omega))
       refine Zf (Zb (b4 _ _ (Zc (Za rfl rfl (Zd rfl) (Zf (Zv (Zb (aY _ _ (Zc ?_)))))))))
       refine Za rfl rfl (Yk (by omega) rfl rfl) (Za rfl rfl (Ze rfl) (Zf ?_))
       have aG : Ol bcs 4 1 b7 (.slice b (aA).length c) ((A.set s true)) := by
        have hx := aV
        exact hx
       have b9 := (F.ch aw (fun hm => by have aF := u _ hm; have cG := az _ hm; omega))
       have ca := (L.ch aw (fun i hi => by have aF := u _ hi; omega))
       have cb := (U.ch aw (fun i hi => by have aF := u _ hi; omega))
       have cc := (V.ch aw (fun i hi => by have aF := u _ hi; omega))
       have cd := (X.ch aw (fun i hi => by have aF := u _ hi; omega))
       have ce := (M.ch aw (fun i hi => by have aF := u _ hi; omega))
       exact Zb (Exists.intro ((k + 1), true, (A.set s true)) ⟨⟨E, (by omega), (by omega), (by first | exact ak | simpa using ak), (by first | exact aa | exact Zbp aa (.step (t := H.toNat) ⟨k, f, a, by rw [g, Int.toNat_of_nonneg (by omega)]⟩ (aa _ (by rw [y, C])))), (by first | exact al | exact fun q hq => Zct (al q hq)), (by first | exact (fun e => absurd e Bool.noConfusion) | exact (fun e => ⟨(I e).1, Zbd (I e).2 a g (fun t aH _ => by omega)⟩) | exact (fun e => ⟨(I e).1, Zbd (I e).2 a g (fun t aH q => by obtain rfl : t = H.toNat := (by omega); first | (rw [y, C] at q; cases q; done) | (rw [z, show O = true from (by simpa using D)]; done))⟩)), (by first | exact am | (have hq := Zdo (l := A) (s := s) (by rw [z, show O = false from (by simpa using D)]); simp only [if_true]; split at am <;> omega)), b9, ca, cb, cc, cd, ce, aG⟩, sC8 rfl rfl rfl rfl rfl rfl rfl rfl (sC8 rfl rfl rfl rfl rfl rfl rfl rfl (sC2 rfl rfl (Sub.nil _))), (by first | omega | (dsimp only; omega))⟩)
      have bi := D
      refine Zq ?_
      refine Zv (Zb (aY _ _ (Zc (Za rfl rfl (Yk (by omega) rfl rfl) (Za rfl rfl (Ze rfl) (Zf ?_))))))
      have aI : Ol bcs 4 1 aX (.slice b (aA).length c) (A) := by
       have hx := x
       exact hx
      exact Zb (Exists.intro ((k + 1), af, A) ⟨⟨E, (by omega), (by omega), (by first | exact ak | simpa using ak), (by first | exact aa | exact Zbp aa (.step (t := H.toNat) ⟨k, f, a, by rw [g, Int.toNat_of_nonneg (by omega)]⟩ (aa _ (by rw [y, C])))), (by first | exact al | exact fun q hq => Zct (al q hq)), (by first | exact (fun e => absurd e Bool.noConfusion) | exact (fun e => ⟨(I e).1, Zbd (I e).2 a g (fun t aH _ => by omega)⟩) | exact (fun e => ⟨(I e).1, Zbd (I e).2 a g (fun t aH q => by obtain rfl : t = H.toNat := (by omega); first | (rw [y, C] at q; cases q; done) | (rw [z, show O = true from (by simpa using D)]; done))⟩)), (by first | exact am | (have hq := Zdo (l := A) (s := s) (by rw [z, show O = false from (by simpa using D)]); simp only [if_true]; split at am <;> omega)), F, L, U, V, X, M, aI⟩, sC8 rfl rfl rfl rfl rfl rfl rfl rfl (sC8 rfl rfl rfl rfl rfl rfl rfl rfl (sC2 rfl rfl (Sub.nil _))), (by first | omega | (dsimp only; omega))⟩)
     have bg := C
     refine Zj rfl rfl (Zj rfl rfl (Zj rfl rfl (Zj rfl rfl (Zj rfl rfl (Za rfl rfl (Ym rfl rfl) (Zf (Zb (bd _ _ ?_))))))))
     refine Qw rfl ?_
     refine Zq ?_
     refine Zv (Zb (aY _ _ (Zc (Za rfl rfl (Yk (by omega) rfl rfl) (Za rfl rfl (Ze rfl) (Zf ?_))))))
     have aJ : Ol bcs 4 1 aX (.slice b (aA).length c) (A) := by
      have hx := x
      exact hx
     exact Zb (Exists.intro ((k + 1), af, A) ⟨⟨E, (by omega), (by omega), (by first | exact ak | simpa using ak), (by first | exact aa | exact Zbp aa (.step (t := H.toNat) ⟨k, f, a, by rw [g, Int.toNat_of_nonneg (by omega)]⟩ (aa _ (by rw [y, C])))), (by first | exact al | exact fun q hq => Zct (al q hq)), (by first | exact (fun e => absurd e Bool.noConfusion) | exact (fun e => ⟨(I e).1, Zbd (I e).2 a g (fun t aH _ => by omega)⟩) | exact (fun e => ⟨(I e).1, Zbd (I e).2 a g (fun t aH q => by obtain rfl : t = H.toNat := (by omega); first | (rw [y, C] at q; cases q; done) | (rw [z, show O = true from (by simpa using D)]; done))⟩)), (by first | exact am | (have hq := Zdo (l := A) (s := s) (by rw [z, show O = false from (by simpa using D)]); simp only [if_true]; split at am <;> omega)), F, L, U, V, X, M, aJ⟩, sC8 rfl rfl rfl rfl rfl rfl rfl rfl (sC8 rfl rfl rfl rfl rfl rfl rfl rfl (sC2 rfl rfl (Sub.nil _))), (by first | omega | (dsimp only; omega))⟩)
    have be := T
    have T := Ye T
    refine Zj rfl rfl (Zj rfl rfl (Zj rfl rfl (Zj rfl rfl (Za rfl rfl (Ym rfl rfl) (Za rfl rfl (Ze rfl) (Zj rfl rfl (Zj rfl rfl ?_)))))))
    refine Zj rfl rfl (Zj rfl rfl (Zj rfl rfl (Za rfl rfl (Ym rfl rfl) (Zf (Zb (bd _ _ ?_))))))
    refine Qw rfl ?_
    refine Zq ?_
    refine Zv (Zb (aY _ _ (Zc (Za rfl rfl (Yk (by omega) rfl rfl) (Za rfl rfl (Ze rfl) (Zf ?_))))))
    have aK : Ol bcs 4 1 aX (.slice b (aA).length c) (A) := by
     have hx := x
     exact hx
    exact Zb (Exists.intro ((k + 1), af, A) ⟨⟨E, (by omega), (by omega), (by first | exact ak | simpa using ak), (by first | exact aa | exact Zbp aa (.step (t := H.toNat) ⟨k, f, a, by rw [g, Int.toNat_of_nonneg (by omega)]⟩ (aa _ (by rw [y, C])))), (by first | exact al | exact fun q hq => Zct (al q hq)), (by first | exact (fun e => absurd e Bool.noConfusion) | exact (fun e => ⟨(I e).1, Zbd (I e).2 a g (fun t aH _ => by omega)⟩) | exact (fun e => ⟨(I e).1, Zbd (I e).2 a g (fun t aH q => by obtain rfl : t = H.toNat := (by omega); first | (rw [y, C] at q; cases q; done) | (rw [z, show O = true from (by simpa using D)]; done))⟩)), (by first | exact am | (have hq := Zdo (l := A) (s := s) (by rw [z, show O = false from (by simpa using D)]); simp only [if_true]; split at am <;> omega)), F, L, U, V, X, M, aK⟩, sC8 rfl rfl rfl rfl rfl rfl rfl rfl (sC8 rfl rfl rfl rfl rfl rfl rfl rfl (sC2 rfl rfl (Sub.nil _))), (by first | omega | (dsimp only; omega))⟩)
   have bb := S
   have S := Ye S
   refine Xc (Zs (Zs (Yu ?_)))
   refine Zv (Zb (bQ _ _ (Zc (Za rfl rfl (Yk (by omega) rfl rfl) (Za rfl rfl (Ze rfl) (Zf ?_))))))
   have aL : Ol bcs 4 1 aX (.slice b (aA).length c) (A) := by
    have hx := x
    exact hx
   exact Zb (Exists.intro ((s + 1), af, A) ⟨⟨E, (by omega), (by omega), ak, aa, al, (fun e => Ztr (I e).1 (I e).2 (fun r hr => by have aF := (Xo hv.2 hr).1; omega)), am, F, L, aL⟩, sC8 rfl rfl rfl rfl rfl rfl rfl rfl (sC1 rfl (Sub.nil _)), (by first | omega | (dsimp only; omega))⟩)
  have a7 := P
  have P := Ye P
  refine Xc (Zs (Zs (Yu ?_)))
  refine Zv ?_
  have aM : Ol bcs 4 1 aT (.slice b (aA).length c) (Z) := by
   have hx := av
   exact hx
  exact Zb (Exists.intro (aq, Z) ⟨⟨E, (by omega), bs, bu, bv, (fun e => (show s = aN.length by omega) ▸ bw e), ae, au, aM⟩, sC4 rfl rfl rfl rfl (Sub.nil _), (by have hf := bz; rw [ad] ; simp only [if_true]; split at hf <;> simp_all <;> omega)⟩)
 have a5 := ad
 refine Xc (Zs (Zs (Yu ?_)))
 refine Zb (H6 _ _ ?_)
 refine Zg fun cH cf => ?_
 refine Zc (Za rfl rfl (Ze rfl) (Za rfl rfl (Zd rfl) (Zf (Zb (cf _ _ ?_)))))
 refine Zr ?_
 have aW : Ol bcs 4 1 a1 (.slice b (aA).length c) (Zy aA aN) := by
  have hx := ap
  (rw [← Zib bn bp bq (a2 ad)]; exact hx)
 exact Zi [_] ⟨rfl, trivial⟩ ⟨aW, Lo.down u (by omega), E⟩

/-- slices.Equal[[]int,int] -/
theorem Zde {w : World} {LL_a y : Nat} {n : Value} {a : List Int} (g : Ls ics 1 w LL_a y n a) {LL_b z : Nat} {o : Value} {b : List Int} (h : Ls ics 1 w LL_b z o b) :
 Ctr Try.prog 123 #[n, o] w (fun v w' => v = .bool (decide (a = b)) ∧ Ch [] w w') := by
 obtain ⟨p, q, r⟩ := g.val
 subst r
 have I := g.len
 have g := g.here (by decide)
 obtain ⟨s, t, u⟩ := h.val
 subst u
 have J := h.len
 have h := h.here (by decide)
 have E := Ch.refl [] w
 refine Yc (N := 26) (vs0 := [(.slice p a.length q), (.slice s b.length t)]) Try.func123 rfl rfl rfl ?_
 refine Zg fun K1 H1 => ?_
 refine Zc (Za rfl rfl (Zd rfl) (Zf (Zb (H1 _ _ ?_))))
 refine Zg fun K2 H2 => ?_
 refine Zg fun K3 H3 => ?_
 refine Zc (Za rfl rfl (Ze rfl) (Za rfl rfl (Xa (by rw [el30]; rfl) rfl) (Za rfl rfl (Ze rfl) (Za rfl rfl (Xa (by rw [el30]; rfl) rfl) (Za rfl rfl (Qv rfl rfl) (Zf (Zb (H3 _ _ ?_))))))))
 refine Zp rfl (fun d => ?_) (fun d => ?_)
 ·have K := d
  have d := Ye (Qb d)
  refine Zg fun K5 H5 => ?_
  refine Zc (Za rfl rfl (Zd rfl) (Zf (Zb (H5 _ _ ?_))))
  refine Zr (Zl ?_)
  exact Zi [_] ⟨rfl, trivial⟩ ⟨congrArg Value.bool (decide_eq_false (fun e => d (by rw [e]))).symm, E⟩
 have K := d
 have d := Yf (Qc d)
 refine Zq ?_
 refine Zb (H2 _ _ ?_)
 refine Zg fun K6 H6 => ?_
 refine Zg fun K7 H7 => ?_
 refine Zc (Za rfl rfl (Ze rfl) (Za rfl rfl (Xa (by rw [el30]; rfl) rfl) (Za rfl rfl (Ze rfl) (Zf (Zb (H7 _ _ ?_))))))
 refine Zx ?_
 refine Xf (σ := Nat) (fun (k : Nat) => [(0, (.slice p a.length q)), (1, (.slice s b.length t)), (12, (.int .i64 ((a.length : Nat) : Int))), (13, (.int .i64 ((k : Nat) : Int)))]) (fun (k : Nat) wx => Ch [] w wx ∧ w.heap.size ≤ wx.heap.size ∧ (k ≤ a.length) ∧ (a.take k = b.take k)) (fun (k : Nat) => a.length - k) 0 (sC4 rfl rfl rfl rfl (Sub.nil _)) ⟨E, (Nat.le_refl _), (by omega), rfl⟩ ?_
 rintro k R8 ⟨E, L, aa, F⟩
 have m := E
 have G := m.size
 refine Zg fun K9 H9 => ?_
 refine Zc (Za rfl rfl (Xi rfl rfl) (Zf (Zb (H9 _ _ ?_))))
 refine Zg fun ab M => ?_
 refine Zp rfl (fun f => ?_) (fun f => ?_)
 ·have A := f
  have f := Yf f
  refine Zq ?_
  refine Zb (M _ _ ?_)
  refine Zg fun ac H => ?_
  refine Zx ?_
  refine Zg fun ad O => ?_
  refine Zc (Za rfl rfl (Ze rfl) (Za rfl rfl (Zd rfl) (Zf (Zb (O _ _ ?_)))))
  refine Zg fun ae P => ?_
  refine Xg [] 9 mixed rfl fun af x => ?_
  have Q := x.size
  have E := E.trans x
  refine dV 0 rfl rfl rfl (fun _ => Ze rfl) (dV 1 rfl rfl rfl (fun _ => Ze rfl) ?_)
  have R := ((g.ch0 m).ch0 x)
  refine dT 2 rfl rfl rfl (Qn R Yh el30 sz3 rfl rfl rfl (by omega) fun S T j B => ?_)
  refine dT 3 rfl rfl rfl (Ql B (fun i hi => absurd hi List.not_mem_nil) agg3 rfl rfl ?_)
  refine dV 4 rfl rfl rfl (fun _ => Ze rfl) (dV 5 rfl rfl rfl (fun _ => Ze rfl) ?_)
  have U := ((h.ch0 m).ch0 x)
  refine dT 6 rfl rfl rfl (Qn U Yh el30 sz3 rfl rfl rfl (by omega) fun V X l C => ?_)
  refine dT 7 rfl rfl rfl (Ql C (fun i hi => absurd hi List.not_mem_nil) agg3 rfl rfl ?_)
  refine dV 8 rfl rfl rfl (fun _ => Qv rfl rfl) ?_
  refine Yq (by kernel_rfl) ?_
  refine Zb (P _ _ ?_)
  refine Zp rfl (fun c => ?_) (fun c => ?_)
  ·have D := c
   have c := Ye (Qb c)
   refine Zg fun ag Y => ?_
   refine Zc (Za rfl rfl (Zd rfl) (Zf (Zb (Y _ _ ?_))))
   refine Zr (Ya (Zl (Zl (Ya (Zl ?_)))))
   clear H6 H
   exact Zi [_] ⟨rfl, trivial⟩ ⟨congrArg Value.bool (decide_eq_false (Zkx j l c)).symm, E⟩
  have D := c
  have c := Yf (Qc c)
  refine Zq ?_
  refine Zv (Zb (H _ _ (Zc (Za rfl rfl (Yk (by omega) rfl rfl) (Za rfl rfl (Ze rfl) (Zf ?_))))))
  exact Zb (Exists.intro (k + 1) ⟨⟨E, (by omega), (by omega), (Zdq F j l c)⟩, sC4 rfl rfl rfl rfl (Sub.nil _), (by first | omega | (dsimp only; omega))⟩)
 have A := f
 have f := Ye f
 refine Xc (Zs (Zs (Yu ?_)))
 refine Zb (H6 _ _ ?_)
 refine Zg fun ah Z => ?_
 refine Zc (Za rfl rfl (Zd rfl) (Zf (Zb (Z _ _ ?_))))
 refine Zr ?_
 exact Zi [_] ⟨rfl, trivial⟩ ⟨congrArg Value.bool (decide_eq_true (Zip F (by omega) (by omega))).symm, E⟩

/-- impl.Automaton).refine$1 -/
theorem Zcf {w : World} {LL_x h : Nat} {d : Value} {x : List Int} (a : Ls ics 1 w LL_x h d x) {LL_q i : Nat} {e : Value} {q : List Int} (b : Ls ics 1 w LL_q i e q) {b_q t_q : Nat} (c : Blk w b_q t_q [e]) :
 Ctr Try.prog 122 #[d, (.pointer (some ⟨b_q, 0, none⟩))] w (fun v w' => v = .bool (decide (x = q)) ∧ Ch [] w w') := by
 obtain ⟨j, k, f⟩ := a.val
 subst f
 have m := a.len
 have a := a.here (by decide)
 obtain ⟨n, o, g⟩ := b.val
 subst g
 have p := b.len
 have b := b.here (by decide)
 have l := c.lt
 have E := Ch.refl [] w
 refine Yc (N := 7) (vs0 := [(.slice j x.length k), (.pointer (some ⟨b_q, 0, none⟩))]) Try.func122 rfl rfl rfl ?_
 refine Zg fun K1 H1 => ?_
 refine Zc (Za rfl rfl (Zd rfl) (Zf (Zb (H1 _ _ ?_))))
 refine Zg fun K2 H2 => ?_
 refine Zc (Za rfl rfl (Ze rfl) (Za rfl rfl (Yg c.at_ agg30 rfl rfl) (Zk rfl rfl ?_)))
 refine Step.call (Zn (xs := [.tmp 4, .tmp 5]) fk123 rfl) (Zde a b ) fun s W3 r => ?_
 obtain ⟨rfl, C3⟩ := r
 have t := C3.size
 have E := E.trans C3
 refine Za rfl rfl (Zd rfl) (Zf (Zb (H2 _ _ ?_)))
 refine Zr ?_
 exact Zi [_] ⟨rfl, trivial⟩ ⟨congrArg Value.bool rfl, E⟩

/-- slices.IndexFunc[[][]int,[]int] -/
theorem Zbv {w : World} {LL_sK C : Nat} {p : Value} {sK : List Sv} (c : Ls Sv.cs 1 w LL_sK C p sK) {LR_K BB_K : Nat} {K : List (List Int)} (g : Rd ics 1 w LR_K BB_K sK K) {s t : Nat} {m : Value} {I : List Int} (a : Ls ics 1 w s t m I) {d D : Nat} (j : Blk w d D [m]) (hn : K.Nodup) :
 Ctr Try.prog 121 #[p, (.func (.func 122) #[] #[(.pointer (some ⟨d, 0, none⟩))])] w (fun v w' => v = .int .i64 (ixL K I) ∧ Ch [] w w') := by
 obtain ⟨q, r, u⟩ := c.val
 subst u
 have S := c.len
 have c := c.here (by decide)
 have g := g.here (by decide)
 have T := g.1
 obtain ⟨J, L, o⟩ := a.val
 subst o
 have M := a.len
 have a := a.here (by decide)
 have H := j.lt
 have E := Ch.refl [] w
 refine Yc (N := 19) (vs0 := [(.slice q sK.length r), (.func (.func 122) #[] #[(.pointer (some ⟨d, 0, none⟩))])]) Try.func121 rfl rfl rfl ?_
 refine Zg fun K1 H1 => ?_
 refine Zc (Za rfl rfl (Zd rfl) (Zf (Zb (H1 _ _ ?_))))
 refine Zg fun K2 H2 => ?_
 refine Zg fun K3 H3 => ?_
 refine Zc (Za rfl rfl (Ze rfl) (Za rfl rfl (Xa (by rw [el25]; rfl) rfl) (Za rfl rfl (Ze rfl) (Zf (Zb (H3 _ _ ?_))))))
 refine Zx ?_
 refine Xf (σ := Nat) (fun (k : Nat) => [(0, (.slice q sK.length r)), (1, (.func (.func 122) #[] #[(.pointer (some ⟨d, 0, none⟩))])), (7, (.int .i64 ((sK.length : Nat) : Int))), (8, (.int .i64 ((k : Nat) : Int)))]) (fun (k : Nat) wx => Ch [] w wx ∧ w.heap.size ≤ wx.heap.size ∧ (k ≤ K.length) ∧ (∀ i y, i < k → K[i]? = some y → y ≠ I)) (fun (k : Nat) => K.length - k) 0 (sC4 rfl rfl rfl rfl (Sub.nil _)) ⟨E, (Nat.le_refl _), (by omega), (fun _ _ h => absurd h (by omega))⟩ ?_
 rintro k R4 ⟨E, X, ak, F⟩
 have n := E
 have U := n.size
 refine Zg fun K5 H5 => ?_
 refine Zc (Za rfl rfl (Xi rfl rfl) (Zf (Zb (H5 _ _ ?_))))
 refine Zg fun K6 H6 => ?_
 refine Zp rfl (fun x => ?_) (fun x => ?_)
 ·have Y := x
  have x := Yf x
  refine Zq ?_
  refine Zb (H6 _ _ ?_)
  refine Zg fun K8 H8 => ?_
  refine Zx ?_
  refine Zg fun K9 H9 => ?_
  refine Zc (Za rfl rfl (Ze rfl) (Za rfl rfl (Zd rfl) (Zf (Zb (H9 _ _ ?_)))))
  refine Zg fun al Z => ?_
  refine Zc (Za rfl rfl (Ze rfl) (Za rfl rfl (Ze rfl) (Za rfl rfl (Ze rfl) (Zk rfl rfl ?_))))
  have aa := (c.ch0 n)
  refine (Yo aa Sv.len el25 sz30 rfl rfl rfl (by omega) fun O P G z => ?_)
  have ab := (g.ch0 n)
  obtain ⟨l, f, e⟩ := ab.get G
  obtain ⟨A, ac, B⟩ := P
  obtain rfl := e.eqn
  have ad := e.len
  replace e : Ls ics 1 R4 LR_K w.heap.size (.slice A l.length B) l := e
  replace z : At R4 LL_sK w.heap.size O ([(.slice A l.length B)]) := z
  refine Za rfl rfl (Yg z agg30 rfl rfl) (Zk rfl rfl ?_)
  have ae := (a.ch0 n)
  have af := (j.ch0 n)
  refine Step.call (Zmf (xs := [.tmp 15]) (as' := [(.slice A l.length B), (.pointer (some ⟨d, 0, none⟩))]) fk122 rfl rfl rfl) (Zcf e ae af ) fun ag am Q => ?_
  obtain ⟨rfl, V⟩ := Q
  have ah := V.size
  have E := E.trans V
  refine Zf (Zb (Z _ _ ?_))
  refine Zp rfl (fun b => ?_) (fun b => ?_)
  ·have R := b
   have b := Yf b
   refine Zg fun an ai => ?_
   refine Zc (Za rfl rfl (Ze rfl) (Za rfl rfl (Zd rfl) (Zf (Zb (ai _ _ ?_)))))
   refine Zr (Ya (Zl (Zl (Ya (Zl ?_)))))
   clear H2 H8
   exact Zi [_] ⟨rfl, trivial⟩ ⟨congrArg (Value.int .i64) (by first | exact Zlc F f b hn | exact Zmz F (by omega) hn), E⟩
  have R := b
  have b := Ye b
  refine Zq ?_
  refine Zv (Zb (H8 _ _ (Zc (Za rfl rfl (Yk (by omega) rfl rfl) (Za rfl rfl (Ze rfl) (Zf ?_))))))
  exact Zb (Exists.intro (k + 1) ⟨⟨E, (by omega), (by omega), (Zrq F f b)⟩, sC4 rfl rfl rfl rfl (Sub.nil _), (by first | omega | (dsimp only; omega))⟩)
 have Y := x
 have x := Ye x
 refine Xc (Zs (Zs (Yu ?_)))
 refine Zb (H2 _ _ ?_)
 refine Zg fun ao aj => ?_
 refine Zc (Za rfl rfl (Zd rfl) (Zf (Zb (aj _ _ ?_))))
 refine Zr ?_
 exact Zi [_] ⟨rfl, trivial⟩ ⟨congrArg (Value.int .i64) (by first | exact Zlc F f b hn | exact Zmz F (by omega) hn), E⟩

/-- impl.Automaton).refine -/
theorem Zcx {w : World} (aS : Int) {LL_aA bS : Nat} {a7 : Value} {aA : List Bool} (ac : Ls bcs 1 w LL_aA bS a7 aA) {LL_saN bp : Nat} {ap : Value} {saN : List Sv} (q : Ls Sv.cs 1 w LL_saN bp ap saN) {LR_aN BB_aN : Nat} {aN : List (List Int)} (F : Rd ics 1 w LR_aN BB_aN saN aN) {LL_cl bT : Nat} {a8 : Value} {cl : List Int} (H : Ls ics 1 w LL_cl bT a8 cl) (hv : Xe aS aA aN) (hl : cl.length = aA.length)  :
 Ctr Try.prog 93 #[(.agg #[(.int .i64 aS), a7, ap]), a8] w (fun v w' => ∃ (cn : Value), v = .tuple #[cn, .int .i64 (((rfn cl aN aA.length).1.length : Nat) : Int)] ∧ Ol ics 3 1 w' cn ((rfn cl aN aA.length).2) ∧ Lo w.heap.size cn ∧ Ch [] w w') := by
 obtain ⟨ad, ae, bq⟩ := ac.val
 subst bq
 have cX := ac.len
 have ac := ac.here (by decide)
 obtain ⟨r, t, aW⟩ := q.val
 subst aW
 have co := q.len
 have q := q.here (by decide)
 have F := F.here (by decide)
 have cp := F.1
 obtain ⟨A, B, br⟩ := H.val
 subst br
 have cY := H.len
 have H := H.here (by decide)
 have E := Ch.refl [] w
 have e1 := hv.2.2.1; have e2 := hv.1
 refine Yc (N := 70) (vs0 := [(.agg #[(.int .i64 aS), (.slice ad aA.length ae), (.slice r saN.length t)]), (.slice A cl.length B)]) Try.func93 rfl rfl rfl ?_
 refine Zg fun K1 H1 => ?_
 refine Zc (Zk rfl rfl ?_)
 refine Xz rfl fun bU W2 cm C2 e3 => ?_
 have e4 := C2.size
 have E := E.trans C2
 have e5 := cm.lt
 replace cm : Blk W2 bU 27 [(.int .i64 aS), (.slice ad aA.length ae), (.slice r saN.length t)] := cm
 refine Za rfl rfl (Zd rfl) (Za rfl rfl (Zd rfl) (Zf (Zb (H1 _ _ ?_))))
 refine Zg fun K3 H3 => ?_
 refine Zc (Zk rfl rfl ?_)
 refine Xd (k := 1) Sv.cs el25 sz30 fun dw W4 bV a9 C4 => ?_
 have e6 := C4.size
 have E := E.trans C4
 obtain ⟨ba, bb, rfl, cZ, bs⟩ := bV.opn
 refine Za rfl rfl (Zd rfl) (Zf (Zb (H3 _ _ ?_)))
 refine Zg fun K5 H5 => ?_
 refine Zc (Zk rfl rfl ?_)
 refine Xd (k := 1) ics el30 sz3 fun dx W6 bW bc C6 => ?_
 have e7 := C6.size
 have E := E.trans C6
 obtain ⟨bd, be, rfl, c0, bu⟩ := bW.opn
 refine Za rfl rfl (Zd rfl) (Zf (Zb (H5 _ _ ?_)))
 refine Zg fun K7 H7 => ?_
 refine Zg fun K8 H8 => ?_
 refine Zc (Za rfl rfl (Ze rfl) (Za rfl rfl (Xa (by rw [el30]; rfl) rfl) (Za rfl rfl (Ze rfl) (Zf (Zb (H8 _ _ ?_))))))
 refine Zx ?_
 have F9 := (bV.ch0 C6)
 have bv : Ol Sv.cs 30 1 W6 (.slice ba (([] : List Sv)).length bb) (([] : List Sv)) := by
  have hx := F9
  exact hx
 have bw : Ol ics 3 1 W6 (.slice bd (([] : List Int)).length be) ((rfn cl aN 0).2) := by
  have hx := bW
  exact hx
 have dy := ((cm.ch0 C4).ch0 C6)
 refine Xf (σ := Nat × List Sv × Value × Value) (fun ⟨i, vs, kv, ov⟩ => [(1, (.slice A cl.length B)), (2, (.pointer (some ⟨bU, 0, none⟩))), (4, (.slice none 0 0)), (5, (.int .i64 0)), (6, kv), (7, ov), (16, (.slice A cl.length B)), (17, (.int .i64 ((cl.length : Nat) : Int))), (18, (.int .i64 ((i : Nat) : Int)))]) (fun ⟨i, vs, kv, ov⟩ wx => Ch [] w wx ∧ W6.heap.size ≤ wx.heap.size ∧ (i ≤ aA.length) ∧ (vs.length = (rfn cl aN i).1.length) ∧ Blk wx bU 27 [(.int .i64 aS), (.slice ad aA.length ae), (.slice r saN.length t)] ∧ Ol Sv.cs 30 1 wx kv vs ∧ Lo W2.heap.size kv ∧ Ol ics 3 1 wx ov ((rfn cl aN i).2) ∧ Lo W4.heap.size ov ∧ Od ics 3 1 wx W6.heap.size wx.heap.size vs ((rfn cl aN i).1) ∧ (∀ g ∈ bl ov, g ∉ bl kv) ∧ (Sep kv vs) ∧ (Sep ov vs)) (fun ⟨i, vs, kv, ov⟩ => aA.length - i) (0, ([] : List Sv), (.slice ba (([] : List Sv)).length bb), (.slice bd (([] : List Int)).length be)) (sC8 rfl rfl rfl rfl rfl rfl rfl rfl (sC1 rfl (Sub.nil _))) ⟨E, (Nat.le_refl _), (by omega), rfl, dy, bv, a9, bw, bc, Od.nil, (fun g hm hg => by have h := bc _ hm; have G := bu _ hm; have ah := a9 _ hg; have ai := bs _ hg; omega), (fun u hu => by cases hu), (fun u hu => by cases hu)⟩ ?_
 rintro ⟨i, vs, kv, ov⟩ cq ⟨E, dz, hi, hvl, aq, au, d, af, b, od, e, p, l⟩
 have aX := E
 have c1 := aX.size
 have cr := aq.lt
 obtain ⟨Akv, Ckv, rfl, lkv, hikv⟩ := au.opn
 obtain ⟨Aov, Cov, rfl, lov, hiov⟩ := af.opn
 have e8 := Zdm cl aN i
 refine Zg fun e9 dA => ?_
 refine Zc (Za rfl rfl (Xi rfl rfl) (Zf (Zb (dA _ _ ?_))))
 refine Zg fun fa dB => ?_
 refine Zp rfl (fun S => ?_) (fun S => ?_)
 ·have ct := S
  have S := Yf S
  refine Zq ?_
  refine Zb (dB _ _ ?_)
  refine Zg fun fb cu => ?_
  refine Zx ?_
  refine Zg fun fc dC => ?_
  refine Zc (Za rfl rfl (Ze rfl) (Zk rfl rfl ?_))
  have c2 := (H.ch0 aX)
  refine (Yo c2 Yh el30 sz3 rfl rfl rfl (by omega) fun dD aj f cv => ?_)
  refine Za rfl rfl (Yg cv agg3 rfl rfl) (Za rfl rfl (Zd rfl) (Za rfl rfl (Zd rfl) (Zf (Zb (dC _ _ ?_)))))
  refine Zg fun fd dE => ?_
  refine Zg fun fe dF => ?_
  refine Zc (Za rfl rfl (Ze rfl) (Za rfl rfl (Xi rfl rfl) (Zf (Zb (dF _ _ ?_)))))
  refine Zp rfl (fun T => ?_) (fun T => ?_)
  ·have cw := T
   have T := Yf T
   refine Zg fun ff dG => ?_
   refine Zc (Za rfl rfl (Ze rfl) (Zk rfl rfl ?_))
   refine Zo (cs := ics) (parts := [(0, .const (Go.Value.int Go.IntKind.i64 (-1)))]) (0 : Int) [(-1)] el30 sz3 zr3 Yh (by decide) rfl rfl rfl (by decide) (by decide) rfl fun dH fg bX c3 bQ => ?_
   have dI := bQ.size
   have E := E.trans bQ
   obtain ⟨c4, c5, rfl, c6, cx⟩ := bX.opn
   refine Zk rfl rfl ?_
   have dJ := (af.ch0 bQ)
   refine Yd (cs := ics) el30 sz3 by3 zr3 rfl (by decide) Xn dJ bX.ls rfl rfl (by simp only [List.length_singleton]; omega) (by simp only [List.length_singleton]; omega) b (by omega) fun dL c7 bY bZ bf b0 => ?_
   have dM := b0.size
   have E := E.step b0 (fun i hi => .inl (by have h := b _ hi; omega))
   obtain ⟨bg, bh, rfl, c8, bz⟩ := bY.opn
   refine Za rfl rfl (Zd rfl) (Zf (Zb (dG _ _ ?_)))
   refine Xc (Zs (Yu ?_))
   refine Zb (cu _ _ (Zc (Za rfl rfl (Yk (by omega) rfl rfl) (Za rfl rfl (Ze rfl) (Zf ?_)))))
   have dN := ((au.ch0 bQ).ch b0 (fun g hg hm => by exact e _ hm hg))
   have bA : Ol Sv.cs 30 1 c7 (.slice Akv (vs).length Ckv) (vs) := by
    have hx := dN
    exact hx
   have bB : Ol ics 3 1 c7 (.slice bg (((rfn cl aN i).2 ++ [(-1)])).length bh) ((rfn cl aN (i + 1)).2) := by
    have hx := bY
    first | exact hx.eq (Zig f (by omega)) | exact hx.eq (Znj f (by omega) (Zak (k := k) c (by omega)) rfl (by omega)) | exact hx.eq (Zez f (by omega) (Zak (k := k) c (by omega)) rfl (by omega) hvl)
   have cy := ((od.ch0 bQ).chS b0 l)
   have dP := ((aq.ch0 bQ).ch b0 (fun hm => by have h := b _ hm; have G := hiov _ hm; omega))
   exact Zb (Exists.intro ((i + 1), vs, (.slice Akv (vs).length Ckv), (.slice bg (((rfn cl aN i).2 ++ [(-1)])).length bh)) ⟨⟨E, (by omega), (by omega), (by first | (rw [Zfs f (by omega)]; exact hvl) | (rw [Zkg f (by omega) (Zak (k := k) c (by omega)) rfl (by omega)]; exact hvl)), dP, bA, (Lo.down d (by omega)), bB, (Lo.down bZ (by omega)), (by first | (rw [Zfs f (by omega)]; exact cy.up (Nat.le_refl _) (by omega)) | (rw [Zkg f (by omega) (Zak (k := k) c (by omega)) rfl (by omega)]; exact cy.up (Nat.le_refl _) (by omega))), (fun g hm hg => by rcases bf with ea | ea; (rw [ea] at hm; exact e _ hm hg); (have b1 := bz _ hm; rw [ea] at hm; have U := List.mem_singleton.1 hm; have ah := d _ hg; have ai := hikv _ hg; omega)), (fun u hu g hg hm => by exact p _ hu _ hg hm), (fun u hu g hg hm => by rcases bf with ea | ea; (rw [ea] at hm; exact l _ hu _ hg hm); (rw [ea] at hm; have U := List.mem_singleton.1 hm; have bC := cy.rng hu hg; omega))⟩, sC8 rfl rfl rfl rfl rfl rfl rfl rfl (sC1 rfl (Sub.nil _)), (by first | omega | (dsimp only; omega))⟩)
  have cw := T
  have T := Ye T
  refine Zq ?_
  refine Zb (dE _ _ ?_)
  refine Zg fun fh dQ => ?_
  refine Zc (Za rfl rfl (Ze rfl) (Zk rfl rfl ?_))
  refine Zo (cs := ics) (parts := [(0, .tmp 28)]) (0 : Int) [aj] el30 sz3 zr3 Yh (by decide) rfl rfl rfl (by decide) (by decide) rfl fun dR fi b2 av aY => ?_
  have dU := aY.size
  have E := E.trans aY
  obtain ⟨aw, ax, rfl, c9, ay⟩ := b2.opn
  refine Zk rfl rfl ?_
  refine Yp zr30 fun V dW aZ aU dX => ?_
  have dY := aU.size
  have E := E.trans aU
  have dZ := aZ.lt
  replace aZ : Blk dW V 30 [(.slice none 0 0)] := aZ
  refine Zk rfl rfl ?_
  refine Yv (off := 0) aZ sz30 rfl rfl rfl rfl fun b3 az aV => ?_
  have d0 := aV.size
  have E := E.step aV (lS (by omega))
  replace az : Blk b3 V 30 [(.slice aw ([aj]).length ax)] := az
  refine Zf (Zb (dQ _ _ ?_))
  refine Zg fun fj d1 => ?_
  refine Zg fun fk d2 => ?_
  refine Zc (Za rfl rfl (Zh fa27_2 rfl) ?_)
  have da := (((aq.ch0 aY).ch0 aU).ch aV (nS (by omega)))
  refine Za rfl rfl (Zm da.at_ agg25 rfl rfl) (Za rfl rfl (Ze rfl) (Zk rfl rfl ?_))
  have db := ((((q.ch0 aX).ch0 aY).ch0 aU).ch aV (oS (by omega)))
  refine (Yo db Sv.len el25 sz30 rfl rfl rfl (by omega) fun cz cA b4 bD => ?_)
  have dc := ((((F.ch0 aX).ch0 aY).ch0 aU).ch aV (oS (by omega)))
  obtain ⟨n, c, I⟩ := dc.get b4
  obtain ⟨a0, d3, a1⟩ := cA
  obtain rfl := I.eqn
  have d4 := I.len
  replace I : Ls ics 1 b3 LR_aN w.heap.size (.slice a0 n.length a1) n := I
  replace bD : At b3 LL_saN w.heap.size cz ([(.slice a0 n.length a1)]) := bD
  have d5 := (Xo hv.2 c).1
  refine Za rfl rfl (Yg bD agg30 rfl rfl) (Za rfl rfl (Xa (by rw [el30]; rfl) rfl) (Za rfl rfl (Ze rfl) (Zf (Zb (d2 _ _ ?_)))))
  refine Zx ?_
  have d6 := ((b2.ch0 aU).ch aV (dS av ay (by omega)))
  have bF : Ol ics 3 1 b3 (.slice aw ([aj]).length ax) (Qy cl aN i 0) := by
   have hx := d6
   exact hx.eq (Zkw f)
  have d7 := (((c2.ch0 aY).ch0 aU).ch aV (oS (by omega)))
  have d8 := (((au.ch0 aY).ch0 aU).ch aV (dS d hikv (by omega)))
  have d9 := (((af.ch0 aY).ch0 aU).ch aV (dS b hiov (by omega)))
  have eb := (((od.ch0 aY).ch0 aU).ch aV (oS (by omega)))
  refine Xf (σ := Nat × Value) (fun ⟨k, rv⟩ => [(1, (.slice A cl.length B)), (2, (.pointer (some ⟨bU, 0, none⟩))), (4, (.slice none 0 0)), (5, (.int .i64 0)), (6, (.slice Akv (vs).length Ckv)), (7, (.slice Aov ((rfn cl aN i).2).length Cov)), (8, (.int .i64 ((i : Nat) : Int))), (9, (.int .i64 aj)), (10, (.pointer (some ⟨V, 0, none⟩))), (16, (.slice A cl.length B)), (17, (.int .i64 ((cl.length : Nat) : Int))), (18, (.int .i64 ((i : Nat) : Int))), (19, (.bool (decide (((i : Nat) : Int) < ((cl.length : Nat) : Int))))), (24, (.bool (decide (aj < 0)))), (34, (.slice a0 n.length a1)), (35, (.int .i64 ((n.length : Nat) : Int))), (36, (.int .i64 ((k : Nat) : Int)))]) (fun ⟨k, rv⟩ wx => Ch [] w wx ∧ b3.heap.size ≤ wx.heap.size ∧ (k ≤ n.length) ∧ Ls ics 1 wx LL_cl w.heap.size (.slice A cl.length B) cl ∧ Blk wx bU 27 [(.int .i64 aS), (.slice ad aA.length ae), (.slice r saN.length t)] ∧ Ls Sv.cs 1 wx LL_saN w.heap.size (.slice r saN.length t) saN ∧ Rd ics 1 wx LR_aN w.heap.size saN aN ∧ Ol Sv.cs 30 1 wx (.slice Akv (vs).length Ckv) vs ∧ Ol ics 3 1 wx (.slice Aov ((rfn cl aN i).2).length Cov) ((rfn cl aN i).2) ∧ Ls ics 1 wx LR_aN w.heap.size (.slice a0 n.length a1) n ∧ Od ics 3 1 wx W6.heap.size cq.heap.size vs ((rfn cl aN i).1) ∧ Ol ics 3 1 wx rv (Qy cl aN i k) ∧ Lo cq.heap.size rv ∧ Blk wx V 30 [rv] ∧ (V ∉ bl rv)) (fun ⟨k, rv⟩ => n.length - k) (0, (.slice aw ([aj]).length ax)) (sC8 rfl rfl rfl rfl rfl rfl rfl rfl (sC8 rfl rfl rfl rfl rfl rfl rfl rfl (sC1 rfl (Sub.nil _)))) ⟨E, (Nat.le_refl _), (by omega), d7, da, db, dc, d8, d9, I, eb, bF, av, az, (fun hm => by have h := av _ hm; have G := ay _ hm; omega)⟩ ?_
  rintro ⟨k, rv⟩ fl ⟨E, ec, fm, aB, J, bi, bj, K, ag, aC, L, x, a, o, m⟩
  have cB := E
  have dd := cB.size
  have cC := J.lt
  obtain ⟨Arv, Crv, rfl, lrv, hirv⟩ := x.opn
  refine Zg fun fn ed => ?_
  refine Zc (Za rfl rfl (Xi rfl rfl) (Zf (Zb (ed _ _ ?_))))
  refine Zg fun fo ee => ?_
  refine Zp rfl (fun X => ?_) (fun X => ?_)
  ·have cD := X
   have X := Yf X
   refine Zq ?_
   refine Zb (ee _ _ ?_)
   refine Zg fun fp de => ?_
   refine Zx ?_
   refine Zg fun fq ef => ?_
   refine Zc (Zk rfl rfl ?_)
   refine (Yo aC Yh el30 sz3 rfl rfl rfl (by omega) fun eg aD M cE => ?_)
   have fr := Zag hv.2 c M
   refine Za rfl rfl (Yg cE agg3 rfl rfl) (Za rfl rfl (Zd rfl) (Zf (Zb (ef _ _ ?_))))
   refine Zg fun fs df => ?_
   refine Zg fun ft eh => ?_
   refine Zc (Za rfl rfl (Ze rfl) (Za rfl rfl (Ziv rfl rfl) (Zf (Zb (eh _ _ ?_)))))
   refine Zp rfl (fun Y => ?_) (fun Y => ?_)
   ·have cF := Y
    have Y := Yf Y
    refine Zc (Za rfl rfl (Ze rfl) (Za rfl rfl (Ze rfl) (Zk rfl rfl ?_)))
    refine (Yo (j := aD.toNat) aB Yh el30 sz3 rfl rfl (by omega) (by omega) fun ei a2 bk cG => ?_)
    refine Za rfl rfl (Yg cG agg3 rfl rfl) (Za rfl rfl (Zd rfl) (Zf (Zb (df _ _ (Zc (Za rfl rfl (Yg o.at_ agg30 rfl rfl) (Za rfl rfl (Ze rfl) (Zk rfl rfl ?_))))))))
    refine Zo (cs := ics) (parts := [(0, .tmp 47)]) (0 : Int) [a2] el30 sz3 zr3 Yh (by decide) rfl rfl rfl (by decide) (by decide) rfl fun cH fu aE b5 am => ?_
    have ej := am.size
    have E := E.trans am
    obtain ⟨b6, b7, rfl, b8, bG⟩ := aE.opn
    refine Zk rfl rfl ?_
    have ek := (x.ch0 am)
    refine Yd (cs := ics) el30 sz3 by3 zr3 rfl (by decide) Xn ek aE.ls rfl rfl (by have bC := Zca (C := cl) (N := aN) (s := i) (k := k); simp only [List.length_singleton]; omega) (by have bC := Zca (C := cl) (N := aN) (s := i) (k := k); simp only [List.length_singleton]; omega) a (by omega) fun cI fv aF aG O aH => ?_
    have el := aH.size
    have E := E.step aH (fun i hi => .inl (by have h := a _ hi; omega))
    obtain ⟨y, z, rfl, b9, bH⟩ := aF.opn
    refine Zk rfl rfl ?_
    have em := ((o.ch0 am).ch aH (fun hm => by exact m (by first | exact hm | exact bI ▸ hm)))
    refine Yv (off := 0) em sz30 rfl rfl rfl rfl fun dg aI aJ => ?_
    have en := aJ.size
    have E := E.step aJ (lS (by omega))
    replace aI : Blk dg V 30 [(.slice y ((Qy cl aN i k ++ [a2])).length z)] := aI
    refine Zf (Zv (Zb (de _ _ (Zc (Za rfl rfl (Yk (by omega) rfl rfl) (Za rfl rfl (Ze rfl) (Zf ?_)))))))
    have eo := (aF.ch aJ (fun g hg hm => by have bI := List.mem_singleton.1 hm; rcases O with ea | ea; (rw [ea] at hg; exact m (by first | exact hg | exact bI ▸ hg)); (rw [ea] at hg; have U := List.mem_singleton.1 hg; omega)))
    have bJ : Ol ics 3 1 dg (.slice y ((Qy cl aN i k ++ [a2])).length z) (Qy cl aN i (k + 1)) := by
     have hx := eo
     first | exact hx.eq (Zse c M (by omega) (by omega)) | exact hx.eq (Zmk c M (by omega) bk)
    have ep := (((aB.ch0 am).ch aH (fun i hi => by have h := a _ hi; omega)).ch aJ (oS (by omega)))
    have er := (((J.ch0 am).ch aH (fun hm => by have h := a _ hm; have G := hirv _ hm; omega)).ch aJ (nS (by omega)))
    have es := (((bi.ch0 am).ch aH (fun i hi => by have h := a _ hi; omega)).ch aJ (oS (by omega)))
    have et := (((bj.ch0 am).ch aH (fun i hi => by have h := a _ hi; omega)).ch aJ (oS (by omega)))
    have eu := (((K.ch0 am).ch aH (fun g hg hm => by have h := a _ hm; have G := hirv _ hm; have ah := d _ hg; have ai := hikv _ hg; omega)).ch aJ (dS d hikv (by omega)))
    have ew := (((ag.ch0 am).ch aH (fun g hg hm => by have h := a _ hm; have G := hirv _ hm; have ah := b _ hg; have ai := hiov _ hg; omega)).ch aJ (dS b hiov (by omega)))
    have ex := (((aC.ch0 am).ch aH (fun i hi => by have h := a _ hi; omega)).ch aJ (oS (by omega)))
    have ey := (((L.ch0 am).ch aH (fun i hm => by have h := a _ hm; have G := hirv _ hm; omega)).ch aJ (oS (by omega)))
    exact Zb (Exists.intro ((k + 1), (.slice y ((Qy cl aN i k ++ [a2])).length z)) ⟨⟨E, (by omega), (by omega), ep, er, es, et, eu, ew, ex, ey, bJ, (Lo.down aG (by omega)), aI, (fun hm => by rcases O with ea | ea; (rw [ea] at hm; exact m (by first | exact hm | exact bI ▸ hm)); (rw [ea] at hm; have U := List.mem_singleton.1 hm; omega))⟩, sC8 rfl rfl rfl rfl rfl rfl rfl rfl (sC8 rfl rfl rfl rfl rfl rfl rfl rfl (sC1 rfl (Sub.nil _))), (by first | omega | (dsimp only; omega))⟩)
   have cF := Y
   have Y := Ye Y
   refine Zq ?_
   refine Zb (df _ _ (Zc (Za rfl rfl (Yg o.at_ agg30 rfl rfl) (Za rfl rfl (Ze rfl) (Zk rfl rfl ?_)))))
   refine Zo (cs := ics) (parts := [(0, .tmp 47)]) (0 : Int) [aD] el30 sz3 zr3 Yh (by decide) rfl rfl rfl (by decide) (by decide) rfl fun cH fw aE b5 an => ?_
   have ez := an.size
   have E := E.trans an
   obtain ⟨b6, b7, rfl, b8, bG⟩ := aE.opn
   refine Zk rfl rfl ?_
   have eA := (x.ch0 an)
   refine Yd (cs := ics) el30 sz3 by3 zr3 rfl (by decide) Xn eA aE.ls rfl rfl (by have bC := Zca (C := cl) (N := aN) (s := i) (k := k); simp only [List.length_singleton]; omega) (by have bC := Zca (C := cl) (N := aN) (s := i) (k := k); simp only [List.length_singleton]; omega) a (by omega) fun cI fx aF aG O aK => ?_
   have eB := aK.size
   have E := E.step aK (fun i hi => .inl (by have h := a _ hi; omega))
   obtain ⟨y, z, rfl, b9, bH⟩ := aF.opn
   refine Zk rfl rfl ?_
   have eC := ((o.ch0 an).ch aK (fun hm => by exact m (by first | exact hm | exact bI ▸ hm)))
   refine Yv (off := 0) eC sz30 rfl rfl rfl rfl fun dh aL aM => ?_
   have eD := aM.size
   have E := E.step aM (lS (by omega))
   replace aL : Blk dh V 30 [(.slice y ((Qy cl aN i k ++ [aD])).length z)] := aL
   refine Zf (Zv (Zb (de _ _ (Zc (Za rfl rfl (Yk (by omega) rfl rfl) (Za rfl rfl (Ze rfl) (Zf ?_)))))))
   have eE := (aF.ch aM (fun g hg hm => by have bI := List.mem_singleton.1 hm; rcases O with ea | ea; (rw [ea] at hg; exact m (by first | exact hg | exact bI ▸ hg)); (rw [ea] at hg; have U := List.mem_singleton.1 hg; omega)))
   have bK : Ol ics 3 1 dh (.slice y ((Qy cl aN i k ++ [aD])).length z) (Qy cl aN i (k + 1)) := by
    have hx := eE
    first | exact hx.eq (Zse c M (by omega) (by omega)) | exact hx.eq (Zmk c M (by omega) bk)
   have eF := (((aB.ch0 an).ch aK (fun i hi => by have h := a _ hi; omega)).ch aM (oS (by omega)))
   have eG := (((J.ch0 an).ch aK (fun hm => by have h := a _ hm; have G := hirv _ hm; omega)).ch aM (nS (by omega)))
   have eH := (((bi.ch0 an).ch aK (fun i hi => by have h := a _ hi; omega)).ch aM (oS (by omega)))
   have eI := (((bj.ch0 an).ch aK (fun i hi => by have h := a _ hi; omega)).ch aM (oS (by omega)))
   have eJ := (((K.ch0 an).ch aK (fun g hg hm => by have h := a _ hm; have G := hirv _ hm; have ah := d _ hg; have ai := hikv _ hg; omega)).ch aM (dS d hikv (by omega)))
   have eK := (((ag.ch0 an).ch aK (fun g hg hm => by have h := a _ hm; have G := hirv _ hm; have ah := b _ hg; have ai := hiov _ hg; omega)).ch aM (dS b hiov (by omega)))
   have eL := (((aC.ch0 an).ch aK (fun i hi => by have h := a _ hi; omega)).ch aM (oS (by omega)))
   have eM := (((L.ch0 an).ch aK (fun i hm => by have h := a _ hm; have G := hirv _ hm; omega)).ch aM (oS (by omega)))
   exact Zb (Exists.intro ((k + 1), (.slice y ((Qy cl aN i k ++ [aD])).length z)) ⟨⟨E, (by omega), (by omega), eF, eG, eH, eI, eJ, eK, eL, eM, bK, (Lo.down aG (by omega)), aL, (fun hm => by rcases O with ea | ea; (rw [ea] at hm; exact m (by first | exact hm | exact bI ▸ hm)); (rw [ea] at hm; have U := List.mem_singleton.1 hm; omega))⟩, sC8 rfl rfl rfl rfl rfl rfl rfl rfl (sC8 rfl rfl rfl rfl rfl rfl rfl rfl (sC1 rfl (Sub.nil _))), (by first | omega | (dsimp only; omega))⟩)
  have cD := X
  have X := Ye X
  refine Xc (Zs (Zs (Yu ?_)))
  refine Zb (d1 _ _ ?_)
  refine Zg fun fy eN => ?_
  refine Zc (Za rfl rfl (Ze rfl) (Za rfl rfl (Zfc (xs := []) (ys := [.tmp 10]) rfl rfl) (Zk rfl rfl ?_)))
  refine Step.call (Zn (xs := [.tmp 51, .tmp 52]) fk121 rfl) (Zbv K.ls L.rd x.ls o (Qk _ _ _)) fun eO fz cJ => ?_
  obtain ⟨rfl, ao⟩ := cJ
  have eP := ao.size
  have E := E.trans ao
  refine Za rfl rfl (Zd rfl) (Zf (Zb (eN _ _ ?_)))
  refine Zg fun fA di => ?_
  refine Zg fun fB eQ => ?_
  refine Zc (Za rfl rfl (Ze rfl) (Za rfl rfl (Xi rfl rfl) (Zf (Zb (eQ _ _ ?_)))))
  refine Zp rfl (fun Z => ?_) (fun Z => ?_)
  ·have cK := Z
   have Z := Yf Z
   refine Zg fun fC eR => ?_
   refine Zc (Za rfl rfl (Ze rfl) (Za rfl rfl (Xa (by rw [el25]; rfl) rfl) (Za rfl rfl (Zd rfl) (Zf (Zb (eR _ _ (Zc (Za rfl rfl (Ze rfl) ?_))))))))
   have eS := (o.ch0 ao)
   refine Za rfl rfl (Yg eS.at_ agg30 rfl rfl) (Zk rfl rfl ?_)
   refine Zo (cs := Sv.cs) (parts := [(0, .tmp 59)]) (⟨none, 0, 0⟩ : Sv) [(⟨Arv, (Qy cl aN i k).length, Crv⟩ : Sv)] el25 sz30 zr30 Sv.len (by decide) rfl rfl rfl (by decide) (by decide) rfl fun eT dj ca dk bL => ?_
   have eU := bL.size
   have E := E.trans bL
   obtain ⟨dl, dm, rfl, dn, cL⟩ := ca.opn
   have dp := ((x.ch0 ao).ch0 bL)
   have dq : Rd ics 1 dj 0 dj.heap.size ([(⟨Arv, (Qy cl aN i k).length, Crv⟩ : Sv)]) ([Qy cl aN i k]) := (Rd.cons (dp.ls.up (by omega) (by omega)) Rd.nil)
   refine Zk rfl rfl ?_
   have eV := ((K.ch0 ao).ch0 bL)
   refine Yd (cs := Sv.cs) el25 sz30 by30 zr30 rfl (by decide) Sv.one eV ca.ls rfl rfl (by simp only [List.length_singleton]; omega) (by simp only [List.length_singleton]; omega) d (by omega) fun eW fD cb cc P bR => ?_
   have eX := bR.size
   have E := E.step bR (fun i hi => .inl (by have h := d _ hi; omega))
   obtain ⟨bm, bn, rfl, dr, aO⟩ := cb.opn
   refine Za rfl rfl (Zd rfl) (Zf (Zb (di _ _ (Zc (Za rfl rfl (Ze rfl) (Za rfl rfl (Ze rfl) (Zk rfl rfl ?_)))))))
   refine Zo (cs := ics) (parts := [(0, .tmp 63)]) (0 : Int) [((vs.length : Nat) : Int)] el30 sz3 zr3 Yh (by decide) rfl rfl rfl (by decide) (by decide) rfl fun cM eY aP cd aa => ?_
   have ds := aa.size
   have E := E.trans aa
   obtain ⟨ce, cf, rfl, cg, bM⟩ := aP.opn
   refine Zk rfl rfl ?_
   have cN := ((((ag.ch0 ao).ch0 bL).ch bR (fun g hg hm => by exact e _ hg hm)).ch0 aa)
   refine Yd (cs := ics) el30 sz3 by3 zr3 rfl (by decide) Xn cN aP.ls rfl rfl (by simp only [List.length_singleton]; omega) (by simp only [List.length_singleton]; omega) b (by omega) fun cO ci aQ aR D ak => ?_
   have dt := ak.size
   have E := E.step ak (fun i hi => .inl (by have h := b _ hi; omega))
   obtain ⟨Q, R, rfl, cj, ab⟩ := aQ.opn
   refine Za rfl rfl (Zd rfl) (Zf (Zv (Zb (cu _ _ (Zc (Za rfl rfl (Yk (by omega) rfl rfl) (Za rfl rfl (Ze rfl) (Zf ?_))))))))
   have cP := ((cb.ch0 aa).ch ak (fun g hg hm => by rcases P with ea | ea; (rw [ea] at hg; exact e _ hm hg); (rw [ea] at hg; have U := List.mem_singleton.1 hg; have h := b _ hm; have G := hiov _ hm; omega)))
   have a3 : Ol Sv.cs 30 1 ci (.slice bm ((vs ++ [(⟨Arv, (Qy cl aN i k).length, Crv⟩ : Sv)])).length bn) ((vs ++ [(⟨Arv, (Qy cl aN i k).length, Crv⟩ : Sv)])) := by
    have hx := cP
    exact hx
   have a4 : Ol ics 3 1 ci (.slice Q (((rfn cl aN i).2 ++ [((vs.length : Nat) : Int)])).length R) ((rfn cl aN (i + 1)).2) := by
    have hx := aQ
    first | exact hx.eq (Zig f (by omega)) | exact hx.eq (Znj f (by omega) (Zak (k := k) c (by omega)) rfl (by omega)) | exact hx.eq (Zez f (by omega) (Zak (k := k) c (by omega)) rfl (by omega) hvl)
   have bN := (((((L.ch0 ao).ch0 bL).chS bR p).ch0 aa).chS ak l)
   have cQ := (((dp.ch bR (fun g hg hm => by have h := d _ hm; have G := hikv _ hm; have ah := a _ hg; have ai := hirv _ hg; omega)).ch0 aa).ch ak (fun g hg hm => by have h := b _ hm; have G := hiov _ hm; have ah := a _ hg; have ai := hirv _ hg; omega))
   have cR := (((((J.ch0 ao).ch0 bL).ch bR (fun hm => by have h := d _ hm; have G := hikv _ hm; omega)).ch0 aa).ch ak (fun hm => by have h := b _ hm; have G := hiov _ hm; omega))
   exact Zb (Exists.intro ((i + 1), (vs ++ [(⟨Arv, (Qy cl aN i k).length, Crv⟩ : Sv)]), (.slice bm ((vs ++ [(⟨Arv, (Qy cl aN i k).length, Crv⟩ : Sv)])).length bn), (.slice Q (((rfn cl aN i).2 ++ [((vs.length : Nat) : Int)])).length R)) ⟨⟨E, (by omega), (by omega), (by rw [Zjh f (by omega) (Zak (k := k) c (by omega)) rfl (by omega), List.length_append, List.length_append, hvl]; rfl), cR, a3, (Lo.down cc (by omega)), a4, (Lo.down aR (by omega)), (by rw [Zjh f (by omega) (Zak (k := k) c (by omega)) rfl (by omega)]; exact Od.snoc bN cQ (Lo.down a (by omega)) (fun g hg => by have h := hirv g hg; omega) (by omega) (by omega)), (fun g hm hg => by rcases D with ea | ea; (rw [ea] at hm; rcases P with ea | ea; (rw [ea] at hg; exact e _ hm hg); (have cS := aO _ hg; rw [ea] at hg; have U := List.mem_singleton.1 hg; have h := b _ hm; have G := hiov _ hm; omega)); (have b1 := ab _ hm; rw [ea] at hm; have U := List.mem_singleton.1 hm; rcases P with ea | ea; (rw [ea] at hg; have ah := d _ hg; have ai := hikv _ hg; omega); (have cS := aO _ hg; rw [ea] at hg; have U := List.mem_singleton.1 hg; omega))), (fun u hu g hg hm => by rcases List.mem_append.1 hu with hu | hu; (rcases P with ea | ea; (rw [ea] at hm; exact p _ hu _ hg hm); (rw [ea] at hm; have U := List.mem_singleton.1 hm; have bC := bN.rng hu hg; omega)); (rw [List.mem_singleton.1 hu] at hg; replace hg : g ∈ bl (.slice Arv (Qy cl aN i k).length Crv) := hg; rcases P with ea | ea; (rw [ea] at hm; have h := d _ hm; have G := hikv _ hm; have ah := a _ hg; have ai := hirv _ hg; omega); (rw [ea] at hm; have U := List.mem_singleton.1 hm; have ah := a _ hg; have ai := hirv _ hg; omega))), (fun u hu g hg hm => by rcases List.mem_append.1 hu with hu | hu; (rcases D with ea | ea; (rw [ea] at hm; exact l _ hu _ hg hm); (rw [ea] at hm; have U := List.mem_singleton.1 hm; have bC := bN.rng hu hg; omega)); (rw [List.mem_singleton.1 hu] at hg; replace hg : g ∈ bl (.slice Arv (Qy cl aN i k).length Crv) := hg; rcases D with ea | ea; (rw [ea] at hm; have h := b _ hm; have G := hiov _ hm; have ah := a _ hg; have ai := hirv _ hg; omega); (rw [ea] at hm; have U := List.mem_singleton.1 hm; have ah := a _ hg; have ai := hirv _ hg; omega)))⟩, sC8 rfl rfl rfl rfl rfl rfl rfl rfl (sC1 rfl (Sub.nil _)), (by first | omega | (dsimp only; omega))⟩)
  have cK := Z
  have Z := Ye Z
  refine Zq ?_
  refine Zb (di _ _ (Zc (Za rfl rfl (Ze rfl) (Za rfl rfl (Ze rfl) (Zk rfl rfl ?_)))))
  refine Zo (cs := ics) (parts := [(0, .tmp 63)]) (0 : Int) [ixL ((rfn cl aN i).1) (Qy cl aN i k)] el30 sz3 zr3 Yh (by decide) rfl rfl rfl (by decide) (by decide) rfl fun cM eZ aP cd al => ?_
  have du := al.size
  have E := E.trans al
  obtain ⟨ce, cf, rfl, cg, bM⟩ := aP.opn
  refine Zk rfl rfl ?_
  have cT := ((ag.ch0 ao).ch0 al)
  refine Yd (cs := ics) el30 sz3 by3 zr3 rfl (by decide) Xn cT aP.ls rfl rfl (by simp only [List.length_singleton]; omega) (by simp only [List.length_singleton]; omega) b (by omega) fun cO ck aQ aR D aT => ?_
  have dv := aT.size
  have E := E.step aT (fun i hi => .inl (by have h := b _ hi; omega))
  obtain ⟨Q, R, rfl, cj, ab⟩ := aQ.opn
  refine Za rfl rfl (Zd rfl) (Zf (Zv (Zb (cu _ _ (Zc (Za rfl rfl (Yk (by omega) rfl rfl) (Za rfl rfl (Ze rfl) (Zf ?_))))))))
  have cU := (((K.ch0 ao).ch0 al).ch aT (fun g hg hm => by exact e _ hm hg))
  have a5 : Ol Sv.cs 30 1 ck (.slice Akv (vs).length Ckv) (vs) := by
   have hx := cU
   exact hx
  have a6 : Ol ics 3 1 ck (.slice Q (((rfn cl aN i).2 ++ [ixL ((rfn cl aN i).1) (Qy cl aN i k)])).length R) ((rfn cl aN (i + 1)).2) := by
   have hx := aQ
   first | exact hx.eq (Zig f (by omega)) | exact hx.eq (Znj f (by omega) (Zak (k := k) c (by omega)) rfl (by omega)) | exact hx.eq (Zez f (by omega) (Zak (k := k) c (by omega)) rfl (by omega) hvl)
  have bO := (((L.ch0 ao).ch0 al).chS aT l)
  have cV := (((J.ch0 ao).ch0 al).ch aT (fun hm => by have h := b _ hm; have G := hiov _ hm; omega))
  exact Zb (Exists.intro ((i + 1), vs, (.slice Akv (vs).length Ckv), (.slice Q (((rfn cl aN i).2 ++ [ixL ((rfn cl aN i).1) (Qy cl aN i k)])).length R)) ⟨⟨E, (by omega), (by omega), (by first | (rw [Zfs f (by omega)]; exact hvl) | (rw [Zkg f (by omega) (Zak (k := k) c (by omega)) rfl (by omega)]; exact hvl)), cV, a5, (Lo.down d (by omega)), a6, (Lo.down aR (by omega)), (by first | (rw [Zfs f (by omega)]; exact bO.up (Nat.le_refl _) (by omega)) | (rw [Zkg f (by omega) (Zak (k := k) c (by omega)) rfl (by omega)]; exact bO.up (Nat.le_refl _) (by omega))), (fun g hm hg => by rcases D with ea | ea; (rw [ea] at hm; exact e _ hm hg); (have b1 := ab _ hm; rw [ea] at hm; have U := List.mem_singleton.1 hm; have ah := d _ hg; have ai := hikv _ hg; omega)), (fun u hu g hg hm => by exact p _ hu _ hg hm), (fun u hu g hg hm => by rcases D with ea | ea; (rw [ea] at hm; exact l _ hu _ hg hm); (rw [ea] at hm; have U := List.mem_singleton.1 hm; have bC := bO.rng hu hg; omega))⟩, sC8 rfl rfl rfl rfl rfl rfl rfl rfl (sC1 rfl (Sub.nil _)), (by first | omega | (dsimp only; omega))⟩)
 have ct := S
 have S := Ye S
 refine Xc (Zs (Zs (Yu ?_)))
 refine Zb (H7 _ _ ?_)
 refine Zg fun e0 cW => ?_
 refine Zc (Za rfl rfl (Ze rfl) (Za rfl rfl (Ze rfl) (Za rfl rfl (Xa (by rw [el25]; rfl) rfl) (Za rfl rfl (Zd rfl) (Za rfl rfl (Zd rfl) (Zf (Zb (cW _ _ ?_))))))))
 refine Zr ?_
 have bP : Ol ics 3 1 cq (.slice Aov ((rfn cl aN i).2).length Cov) ((rfn cl aN aA.length).2) := by
  have hx := af
  exact hx.eq (by rw [show i = aA.length by omega])
 exact Zi [_, _] ⟨rfl, ⟨rfl, trivial⟩⟩ ⟨(.slice Aov ((rfn cl aN i).2).length Cov), (congrArg (fun zq => (Value.tuple #[(.slice Aov ((rfn cl aN i).2).length Cov), .int .i64 zq])) (by rw [hvl, show i = aA.length by omega])), bP, (Lo.down b (by omega)), E⟩

/-- impl.Automaton).classes -/
theorem Zco {w : World} (aS : Int) {LL_aA aB : Nat} {P : Value} {aA : List Bool} (r : Ls bcs 1 w LL_aA aB P aA) {LL_saN ae : Nat} {G : Value} {saN : List Sv} (e : Ls Sv.cs 1 w LL_saN ae G saN) {LR_aN BB_aN : Nat} {aN : List (List Int)} (o : Rd ics 1 w LR_aN BB_aN saN aN) (hv : Xe aS aA aN)  :
 Ctr Try.prog 51 #[(.agg #[(.int .i64 aS), P, G])] w (fun v w' => Ol ics 3 1 w' v (clsF aN (Yt aA (Zy aA aN) aA.length) aA.length) ∧ Lo w.heap.size v ∧ Ch [] w w') := by
 obtain ⟨h, j, af⟩ := r.val
 subst af
 have bp := r.len
 have r := r.here (by decide)
 obtain ⟨c, d, M⟩ := e.val
 subst M
 have a0 := e.len
 have e := e.here (by decide)
 have o := o.here (by decide)
 have a1 := o.1
 have E := Ch.refl [] w
 have c0 := hv.2.2.1; have c1 := hv.1; have bU := Zkp aA aN
 refine Yc (N := 49) (vs0 := [(.agg #[(.int .i64 aS), (.slice h aA.length j), (.slice c saN.length d)])]) Try.func51 rfl rfl rfl ?_
 refine Zg fun K1 H1 => ?_
 refine Zc (Zk rfl rfl ?_)
 refine Xz rfl fun aC W2 aZ C2 c2 => ?_
 have c3 := C2.size
 have E := E.trans C2
 have a2 := aZ.lt
 replace aZ : Blk W2 aC 27 [(.int .i64 aS), (.slice h aA.length j), (.slice c saN.length d)] := aZ
 refine Za rfl rfl (Zd rfl) (Zf (Zb (H1 _ _ ?_)))
 refine Zg fun K3 H3 => ?_
 refine Zc (Zk rfl rfl ?_)
 refine Xd (k := 1) ics el30 sz3 fun c4 W4 bq aD C4 => ?_
 have c5 := C4.size
 have E := E.trans C4
 obtain ⟨aE, aF, rfl, bV, aG⟩ := bq.opn
 refine Za rfl rfl (Zd rfl) (Zf (Zb (H3 _ _ ?_)))
 refine Zg fun K5 H5 => ?_
 refine Zg fun K6 H6 => ?_
 refine Zc ?_
 have F7 := (aZ.ch0 C4)
 refine Za rfl rfl (Zw F7.at_ agg27 sz27 rfl) (Zk rfl rfl ?_)
 have F8 := ((r.ch0 C2).ch0 C4)
 have F9 := ((o.ch0 C2).ch0 C4)
 have br := ((e.ch0 C2).ch0 C4)
 refine Step.call (Zn (xs := [.tmp 10]) fk60 rfl) (Zdt _ F8 br F9 hv) fun bW bs O => ?_
 obtain ⟨O, B, ag⟩ := O
 have bX := ag.size
 have E := E.trans ag
 obtain ⟨H, I, rfl, bu, p⟩ := O.opn
 refine Za rfl rfl (Xa (by rw [el24]; rfl) rfl) (Za rfl rfl (Ze rfl) (Zf (Zb (H6 _ _ ?_))))
 refine Zx ?_
 have bY := (bq.ch0 ag)
 have ah : Ol ics 3 1 bs (.slice aE (([] : List Int)).length aF) (Yt aA (Zy aA aN) 0) := by
  have hx := bY
  exact hx
 have bZ := (F7.ch0 ag)
 have b0 := (F8.ch0 ag)
 have b1 := (br.ch0 ag)
 have b2 := (F9.ch0 ag)
 refine Xf (σ := Nat × Value) (fun ⟨q, iv⟩ => [(1, (.pointer (some ⟨aC, 0, none⟩))), (2, (.slice none 0 0)), (3, iv), (11, (.slice H (Zy aA aN).length I)), (12, (.int .i64 (((Zy aA aN).length : Nat) : Int))), (13, (.int .i64 ((q : Nat) : Int)))]) (fun ⟨q, iv⟩ wx => Ch [] w wx ∧ bs.heap.size ≤ wx.heap.size ∧ (q ≤ aA.length) ∧ Blk wx aC 27 [(.int .i64 aS), (.slice h aA.length j), (.slice c saN.length d)] ∧ Ls bcs 1 wx LL_aA w.heap.size (.slice h aA.length j) aA ∧ Ls Sv.cs 1 wx LL_saN w.heap.size (.slice c saN.length d) saN ∧ Rd ics 1 wx LR_aN w.heap.size saN aN ∧ Ol bcs 4 1 wx (.slice H (Zy aA aN).length I) (Zy aA aN) ∧ Ol ics 3 1 wx iv (Yt aA (Zy aA aN) q) ∧ Lo W2.heap.size iv ∧ (∀ g ∈ bl iv, g ∉ bl (.slice H (Zy aA aN).length I))) (fun ⟨q, iv⟩ => aA.length - q) (0, (.slice aE (([] : List Int)).length aF)) (sC4 rfl rfl rfl rfl (sC2 rfl rfl (Sub.nil _))) ⟨E, (Nat.le_refl _), (by omega), bZ, b0, b1, b2, O, ah, aD, (fun g hm hg => by have u := aD _ hm; have a3 := aG _ hm; have a4 := B _ hg; have a5 := p _ hg; omega)⟩ ?_
 rintro ⟨q, iv⟩ bv ⟨E, b3, hq, l, s, C, D, F, t, a, b⟩
 have a6 := E
 have bw := a6.size
 have a7 := l.lt
 obtain ⟨Aiv, Civ, rfl, liv, hiiv⟩ := t.opn
 refine Zg fun c6 b4 => ?_
 refine Zc (Za rfl rfl (Xi rfl rfl) (Zf (Zb (b4 _ _ ?_))))
 refine Zg fun c7 bz => ?_
 refine Zp rfl (fun x => ?_) (fun x => ?_)
 ·have a8 := x
  have x := Yf x
  refine Zq ?_
  refine Zb (bz _ _ ?_)
  refine Zg fun c8 a9 => ?_
  refine Zx ?_
  refine Zg fun c9 b5 => ?_
  refine Zc (Za rfl rfl (Ze rfl) (Zk rfl rfl ?_))
  refine (Yo F.ls Qq el24 sz4 rfl rfl rfl (by omega) fun b6 b7 J ba => ?_)
  refine Za rfl rfl (Yg ba agg4 rfl rfl) (Za rfl rfl (Zd rfl) (Za rfl rfl (Zd rfl) (Zf (Zb (b5 _ _ ?_)))))
  refine Zx ?_
  refine Zg fun da b8 => ?_
  refine Zc (Za rfl rfl (Ze rfl) (Za rfl rfl (Xu rfl) (Za rfl rfl (Zd rfl) (Zf (Zb (b8 _ _ ?_))))))
  refine Zp rfl (fun ai => ?_) (fun ai => ?_)
  ·have bb := ai
   refine Zc (Za rfl rfl (Ze rfl) (Zk rfl rfl ?_))
   refine Zo (cs := ics) (parts := [(0, .const (Go.Value.int Go.IntKind.i64 (-1)))]) (0 : Int) [(-1)] el30 sz3 zr3 Yh (by decide) rfl rfl rfl (by decide) (by decide) rfl fun b9 db aH bA Q => ?_
   have ca := Q.size
   have E := E.trans Q
   obtain ⟨bB, bC, rfl, bD, bc⟩ := aH.opn
   refine Zk rfl rfl ?_
   have cb := (t.ch0 Q)
   refine Yd (cs := ics) el30 sz3 by3 zr3 rfl (by decide) Xn cb aH.ls rfl rfl (by have aI := Qo aA (Zy aA aN) q; simp only [List.length_singleton]; omega) (by have aI := Qo aA (Zy aA aN) q; simp only [List.length_singleton]; omega) a (by omega) fun cc cd aJ aK aL aj => ?_
   have ce := aj.size
   have E := E.step aj (fun i hi => .inl (by have u := a _ hi; omega))
   obtain ⟨R, S, rfl, bF, ak⟩ := aJ.opn
   refine Za rfl rfl (Zd rfl) (Zf (Zv (Zv (Zb (a9 _ _ (Zc (Za rfl rfl (Yk (by omega) rfl rfl) (Za rfl rfl (Ze rfl) ?_))))))))
   refine Zf ?_
   have al : Ol ics 3 1 cd (.slice R ((Yt aA (Zy aA aN) q ++ [(-1)])).length S) (Yt aA (Zy aA aN) (q + 1)) := by
    have hx := aJ
    exact hx.eq (Zfd J (by first | (left; simp_all; done) | (right; exact ⟨by simp_all, _, K, by simp_all⟩)))
   have cf := ((l.ch0 Q).ch aj (fun hm => by have u := a _ hm; have a3 := hiiv _ hm; omega))
   have cg := ((s.ch0 Q).ch aj (fun i hi => by have u := a _ hi; omega))
   have ci := ((C.ch0 Q).ch aj (fun i hi => by have u := a _ hi; omega))
   have cj := ((D.ch0 Q).ch aj (fun i hi => by have u := a _ hi; omega))
   have ck := ((F.ch0 Q).ch aj (fun g hg hm => by exact b _ hm hg))
   exact Zb (Exists.intro ((q + 1), (.slice R ((Yt aA (Zy aA aN) q ++ [(-1)])).length S)) ⟨⟨E, (by omega), (by omega), cf, cg, ci, cj, ck, al, (Lo.down aK (by omega)), (fun g hm hg => by rcases aL with ea | ea; (rw [ea] at hm; exact b _ hm hg); (have aM := ak _ hm; rw [ea] at hm; have a2 := List.mem_singleton.1 hm; have a4 := B _ hg; have a5 := p _ hg; omega))⟩, sC4 rfl rfl rfl rfl (sC2 rfl rfl (Sub.nil _)), (by first | omega | (dsimp only; omega))⟩)
  have bb := ai
  refine Zg fun dc cm => ?_
  refine Zc (Za rfl rfl (Zh fa27_1 rfl) (Za rfl rfl (Zm l.at_ agg24 rfl rfl) (Za rfl rfl (Ze rfl) (Zk rfl rfl ?_))))
  refine (Yo s Qq el24 sz4 rfl rfl rfl (by omega) fun cn co K bd => ?_)
  refine Za rfl rfl (Yg bd agg4 rfl rfl) (Za rfl rfl (Zd rfl) (Zf (Zb (cm _ _ ?_))))
  refine Zp rfl (fun am => ?_) (fun am => ?_)
  ·have be := am
   refine Zc (Za rfl rfl (Ze rfl) (Zk rfl rfl ?_))
   refine Zo (cs := ics) (parts := [(0, .const (Go.Value.int Go.IntKind.i64 1))]) (0 : Int) [1] el30 sz3 zr3 Yh (by decide) rfl rfl rfl (by decide) (by decide) rfl fun cp dd aO bG T => ?_
   have cq := T.size
   have E := E.trans T
   obtain ⟨bH, bI, rfl, bJ, bf⟩ := aO.opn
   refine Zk rfl rfl ?_
   have cr := (t.ch0 T)
   refine Yd (cs := ics) el30 sz3 by3 zr3 rfl (by decide) Xn cr aO.ls rfl rfl (by have aI := Qo aA (Zy aA aN) q; simp only [List.length_singleton]; omega) (by have aI := Qo aA (Zy aA aN) q; simp only [List.length_singleton]; omega) a (by omega) fun ct cu aP aQ aR an => ?_
   have cw := an.size
   have E := E.step an (fun i hi => .inl (by have u := a _ hi; omega))
   obtain ⟨U, V, rfl, bK, ao⟩ := aP.opn
   refine Za rfl rfl (Zd rfl) (Zf (Zv (Zv (Zb (a9 _ _ (Zc (Za rfl rfl (Yk (by omega) rfl rfl) (Za rfl rfl (Ze rfl) ?_))))))))
   refine Zf ?_
   have ap : Ol ics 3 1 cu (.slice U ((Yt aA (Zy aA aN) q ++ [1])).length V) (Yt aA (Zy aA aN) (q + 1)) := by
    have hx := aP
    exact hx.eq (Zfd J (by first | (left; simp_all; done) | (right; exact ⟨by simp_all, _, K, by simp_all⟩)))
   have cx := ((l.ch0 T).ch an (fun hm => by have u := a _ hm; have a3 := hiiv _ hm; omega))
   have cy := ((s.ch0 T).ch an (fun i hi => by have u := a _ hi; omega))
   have cz := ((C.ch0 T).ch an (fun i hi => by have u := a _ hi; omega))
   have cA := ((D.ch0 T).ch an (fun i hi => by have u := a _ hi; omega))
   have cB := ((F.ch0 T).ch an (fun g hg hm => by exact b _ hm hg))
   exact Zb (Exists.intro ((q + 1), (.slice U ((Yt aA (Zy aA aN) q ++ [1])).length V)) ⟨⟨E, (by omega), (by omega), cx, cy, cz, cA, cB, ap, (Lo.down aQ (by omega)), (fun g hm hg => by rcases aR with ea | ea; (rw [ea] at hm; exact b _ hm hg); (have aM := ao _ hm; rw [ea] at hm; have a2 := List.mem_singleton.1 hm; have a4 := B _ hg; have a5 := p _ hg; omega))⟩, sC4 rfl rfl rfl rfl (sC2 rfl rfl (Sub.nil _)), (by first | omega | (dsimp only; omega))⟩)
  have be := am
  refine Zc (Za rfl rfl (Ze rfl) (Zk rfl rfl ?_))
  refine Zo (cs := ics) (parts := [(0, .const (Go.Value.int Go.IntKind.i64 0))]) (0 : Int) [0] el30 sz3 zr3 Yh (by decide) rfl rfl rfl (by decide) (by decide) rfl fun cC de aT bL X => ?_
  have cD := X.size
  have E := E.trans X
  obtain ⟨bM, bN, rfl, bO, bg⟩ := aT.opn
  refine Zk rfl rfl ?_
  have cE := (t.ch0 X)
  refine Yd (cs := ics) el30 sz3 by3 zr3 rfl (by decide) Xn cE aT.ls rfl rfl (by have aI := Qo aA (Zy aA aN) q; simp only [List.length_singleton]; omega) (by have aI := Qo aA (Zy aA aN) q; simp only [List.length_singleton]; omega) a (by omega) fun cF cG aU aV aW aq => ?_
  have cH := aq.size
  have E := E.step aq (fun i hi => .inl (by have u := a _ hi; omega))
  obtain ⟨Y, Z, rfl, bP, au⟩ := aU.opn
  refine Za rfl rfl (Zd rfl) (Zf (Zv (Zv (Zb (a9 _ _ (Zc (Za rfl rfl (Yk (by omega) rfl rfl) (Za rfl rfl (Ze rfl) ?_))))))))
  refine Zf ?_
  have av : Ol ics 3 1 cG (.slice Y ((Yt aA (Zy aA aN) q ++ [0])).length Z) (Yt aA (Zy aA aN) (q + 1)) := by
   have hx := aU
   exact hx.eq (Zfd J (by first | (left; simp_all; done) | (right; exact ⟨by simp_all, _, K, by simp_all⟩)))
  have cI := ((l.ch0 X).ch aq (fun hm => by have u := a _ hm; have a3 := hiiv _ hm; omega))
  have cJ := ((s.ch0 X).ch aq (fun i hi => by have u := a _ hi; omega))
  have cK := ((C.ch0 X).ch aq (fun i hi => by have u := a _ hi; omega))
  have cL := ((D.ch0 X).ch aq (fun i hi => by have u := a _ hi; omega))
  have cM := ((F.ch0 X).ch aq (fun g hg hm => by exact b _ hm hg))
  exact Zb (Exists.intro ((q + 1), (.slice Y ((Yt aA (Zy aA aN) q ++ [0])).length Z)) ⟨⟨E, (by omega), (by omega), cI, cJ, cK, cL, cM, av, (Lo.down aV (by omega)), (fun g hm hg => by rcases aW with ea | ea; (rw [ea] at hm; exact b _ hm hg); (have aM := au _ hm; rw [ea] at hm; have a2 := List.mem_singleton.1 hm; have a4 := B _ hg; have a5 := p _ hg; omega))⟩, sC4 rfl rfl rfl rfl (sC2 rfl rfl (Sub.nil _)), (by first | omega | (dsimp only; omega))⟩)
 have a8 := x
 have x := Ye x
 refine Xc (Zs (Zs (Yu ?_)))
 refine Zb (H5 _ _ ?_)
 refine Zg fun df cN => ?_
 refine Zc (Za rfl rfl (Zd rfl) (Zf (Zb (cN _ _ ?_))))
 refine Zx ?_
 have aw : Ol ics 3 1 bv (.slice Aiv (Yt aA (Zy aA aN) q).length Civ) (Yz aN (Yt aA (Zy aA aN) aA.length) aA.length 0) := by
  have hx := t
  exact hx.eq (by rw [show q = aA.length by omega]; rfl)
 refine Xf (σ := Nat × Int × Value) (fun ⟨j9, ay, cv⟩ => [(1, (.pointer (some ⟨aC, 0, none⟩))), (3, cv), (6, (.int .i64 ay))]) (fun ⟨j9, ay, cv⟩ wx => Ch [] w wx ∧ bv.heap.size ≤ wx.heap.size ∧ (ay = Zht aN (Yt aA (Zy aA aN) aA.length) aA.length j9) ∧ Blk wx aC 27 [(.int .i64 aS), (.slice h aA.length j), (.slice c saN.length d)] ∧ Ls bcs 1 wx LL_aA w.heap.size (.slice h aA.length j) aA ∧ Ls Sv.cs 1 wx LL_saN w.heap.size (.slice c saN.length d) saN ∧ Rd ics 1 wx LR_aN w.heap.size saN aN ∧ Ol ics 3 1 wx cv (Yz aN (Yt aA (Zy aA aN) aA.length) aA.length j9) ∧ Lo W2.heap.size cv) (fun ⟨j9, ay, cv⟩ => (aA.length + 1 - ay).toNat) (0, -1, (.slice Aiv (Yt aA (Zy aA aN) q).length Civ)) (sC2 rfl rfl (sC1 rfl (Sub.nil _))) ⟨E, (Nat.le_refl _), rfl, l, s, C, D, aw, a⟩ ?_
 rintro ⟨j9, ay, cv⟩ dg ⟨E, cO, cP, L, aa, ab, ac, ad, bh⟩
 have bi := E
 have bQ := bi.size
 have bj := L.lt
 obtain ⟨Acv, Ccv, rfl, lcv, hicv⟩ := ad.opn
 have d9 := Qo aA (Zy aA aN) aA.length
 have cQ := Zjl (N := aN) d9 j9
 have dh := Zpw aN (Yt aA (Zy aA aN) aA.length) aA.length j9
 have di := Zoi (N := aN) (D0 := (Yt aA (Zy aA aN) aA.length)) (n := aA.length) j9
 refine Zx ?_
 refine Zg fun dj cR => ?_
 refine Zc (Za rfl rfl (Zw L.at_ agg27 sz27 rfl) (Za rfl rfl (Ze rfl) (Zk rfl rfl ?_)))
 refine Step.call (Zn (xs := [.tmp 38, .tmp 39]) fk93 rfl) (Zcx _ aa ab ac ad.ls hv cQ) fun cS bR bk => ?_
 obtain ⟨bS, rfl, f, m, az⟩ := bk
 have cT := az.size
 have E := E.trans az
 obtain ⟨y, z, rfl, bm, aX⟩ := f.opn
 refine Za rfl rfl (Ze rfl) (Za rfl rfl (Xm rfl rfl) (Za rfl rfl (Xm rfl rfl) (Za rfl rfl (Zd rfl) (Za rfl rfl (Zd rfl) (Zf (Zb (cR _ _ ?_)))))))
 refine Zg fun dk bT => ?_
 refine Zg fun dl cU => ?_
 refine Zc (Za rfl rfl (Ze rfl) (Za rfl rfl (Ze rfl) (Za rfl rfl (Xj rfl rfl) (Zf (Zb (cU _ _ ?_))))))
 refine Zp rfl (fun A => ?_) (fun A => ?_)
 ·have bn := A
  have A := Yf A
  refine Zg fun dm cV => ?_
  refine Zc (Za rfl rfl (Ze rfl) (Za rfl rfl (Zd rfl) (Zf (Zb (cV _ _ ?_)))))
  refine Zr (Zl (Ya (Zl (Ya ?_))))
  clear bz bT
  have aY : Ol ics 3 1 bR (.slice y ((rfn (Yz aN (Yt aA (Zy aA aN) aA.length) aA.length j9) aN aA.length).2).length z) (clsF aN (Yt aA (Zy aA aN) aA.length) aA.length) := by
   have hx := f
   exact hx.eq (Ztz d9 cP (by assumption))
  exact Zi [_] ⟨rfl, trivial⟩ ⟨aY, Lo.down m (by omega), E⟩
 have bn := A
 have A := Ye A
 refine Zq ?_
 refine Zb (bT _ _ (Zc (Za rfl rfl (Ze rfl) (Za rfl rfl (Ze rfl) (Za rfl rfl (Zd rfl) (Za rfl rfl (Zd rfl) (Zf (Zv ?_))))))))
 have ax : Ol ics 3 1 bR (.slice y ((rfn (Yz aN (Yt aA (Zy aA aN) aA.length) aA.length j9) aN aA.length).2).length z) (Yz aN (Yt aA (Zy aA aN) aA.length) aA.length (j9 + 1)) := by
  have hx := f
  exact hx
 have cW := (L.ch0 az)
 have cX := (aa.ch0 az)
 have cY := (ab.ch0 az)
 have cZ := (ac.ch0 az)
 exact Zb (Exists.intro ((j9 + 1), (((rfn (Yz aN (Yt aA (Zy aA aN) aA.length) aA.length j9) aN aA.length).1.length : Nat) : Int), (.slice y ((rfn (Yz aN (Yt aA (Zy aA aN) aA.length) aA.length j9) aN aA.length).2).length z)) ⟨⟨E, (by omega), rfl, cW, cX, cY, cZ, ax, (Lo.down m (by omega))⟩, sC2 rfl rfl (sC1 rfl (Sub.nil _)), (by have dn : (rfn (Yz aN (Yt aA (Zy aA aN) aA.length) aA.length j9) aN aA.length).1.length = clsN aN (Yt aA (Zy aA aN) aA.length) aA.length j9 := rfl; dsimp only; omega)⟩)

/-- impl.StateClasses -/
theorem Zem {w : World} (aS : Int) {LL_aA p : Nat} {j : Value} {aA : List Bool} (c : Ls bcs 1 w LL_aA p j aA) {LL_saN n : Nat} {f : Value} {saN : List Sv} (a : Ls Sv.cs 1 w LL_saN n f saN) {LR_aN BB_aN : Nat} {aN : List (List Int)} (b : Rd ics 1 w LR_aN BB_aN saN aN) :
 Ctr Try.prog 11 #[(.agg #[(.int .i64 aS), j, f])] w (fun v w' => Ol ics 3 1 w' v (scR aS aA aN) ∧ Lo w.heap.size v ∧ Ch [] w w') := by
 obtain ⟨l, m, o⟩ := c.val
 subst o
 have B := c.len
 have c := c.here (by decide)
 obtain ⟨g, h, i⟩ := a.val
 subst i
 have u := a.len
 have a := a.here (by decide)
 have b := b.here (by decide)
 have x := b.1
 have E := Ch.refl [] w
 refine Yc (N := 8) (vs0 := [(.agg #[(.int .i64 aS), (.slice l aA.length m), (.slice g saN.length h)])]) Try.func11 rfl rfl rfl ?_
 refine Zg fun K1 H1 => ?_
 refine Zc (Zk rfl rfl ?_)
 refine Xz rfl fun F W2 q C2 S => ?_
 have T := C2.size
 have E := E.trans C2
 have U := q.lt
 replace q : Blk W2 F 27 [(.int .i64 aS), (.slice l aA.length m), (.slice g saN.length h)] := q
 refine Za rfl rfl (Zd rfl) (Zf (Zb (H1 _ _ ?_)))
 refine Zg fun K3 H3 => ?_
 refine Zg fun K4 H4 => ?_
 refine Zc (Za rfl rfl (Zw q.at_ agg27 sz27 rfl) (Zk rfl rfl ?_))
 have F5 := (c.ch0 C2)
 have F6 := (b.ch0 C2)
 have F7 := (a.ch0 C2)
 refine Step.call (Zn (xs := [.tmp 3]) fk43 rfl) (Zac _ F5 F7 F6 ) fun V W8 G => ?_
 obtain ⟨rfl, C8⟩ := G
 have X := C8.size
 have E := E.trans C8
 refine Za rfl rfl (Xu rfl) (Zf (Zb (H4 _ _ ?_)))
 refine Zp rfl (fun d => ?_) (fun d => ?_)
 ·have H := d
  have d := bf_t (Qb d)
  refine Zg fun Y I => ?_
  refine Zc (Za rfl rfl (Zd rfl) (Zf (Zb (I _ _ ?_))))
  refine Zr (Zl ?_)
  have r : Ol ics 3 1 W8 (.slice none 0 0) (scR aS aA aN) := by
   have hx := (Ol.nil (cs := ics) (e := 3) (k := 1) W8)
   first | exact hx.eq (Zqo d) | exact hx.eq (Zlm d)
  exact Zi [_] ⟨rfl, trivial⟩ ⟨r, Lo.nil _, E⟩
 have H := d
 have d := bt_t (Qc d)
 refine Zq ?_
 refine Zb (H3 _ _ ?_)
 refine Zg fun Z J => ?_
 refine Zc ?_
 have K := (q.ch0 C8)
 refine Za rfl rfl (Zw K.at_ agg27 sz27 rfl) (Zk rfl rfl ?_)
 have L := (F5.ch0 C8)
 have M := (F6.ch0 C8)
 have O := (F7.ch0 C8)
 refine Step.call (Zn (xs := [.tmp 6]) fk51 rfl) (Zco _ L O M d) fun aa P t => ?_
 obtain ⟨t, y, C⟩ := t
 have Q := C.size
 have E := E.trans C
 obtain ⟨z, A, rfl, R, D⟩ := t.opn
 refine Za rfl rfl (Zd rfl) (Zf (Zb (J _ _ ?_)))
 refine Zr ?_
 have s : Ol ics 3 1 P (.slice z (clsF aN (Yt aA (Zy aA aN) aA.length) aA.length).length A) (scR aS aA aN) := by
  have hx := t
  first | exact hx.eq (Zqo d) | exact hx.eq (Zlm d)
 exact Zi [_] ⟨rfl, trivial⟩ ⟨s, Lo.down y (by omega), E⟩

/-- laws.big -/
theorem Znu {w : World} {LL_code d : Nat} {b : Value} {code : List Int} (a : Ls ucs 1 w LL_code d b code) :
 Ctr Try.prog 6 #[b] w (fun v w' => v = .bool (decide (1048576 < (code.length : Int))) ∧ Ch [] w w') := by
 obtain ⟨e, f, c⟩ := a.val
 subst c
 have g := a.len
 have a := a.here (by decide)
 have E := Ch.refl [] w
 refine Yc (N := 6) (vs0 := [(.slice e code.length f)]) Try.func6 rfl rfl rfl ?_
 refine Zg fun K1 H1 => ?_
 refine Zc (Za rfl rfl (Zd rfl) (Zf (Zb (H1 _ _ ?_))))
 refine Zg fun K2 H2 => ?_
 refine Zc (Za rfl rfl (Ze rfl) (Za rfl rfl (Xa (by rw [el22]; rfl) rfl) (Za rfl rfl (Zeh rfl rfl) (Za rfl rfl (Zd rfl) (Zf (Zb (H2 _ _ ?_)))))))
 refine Zr ?_
 exact Zi [_] ⟨rfl, trivial⟩ ⟨congrArg Value.bool rfl, E⟩

/-- laws.sameInts -/
theorem Zdr {w : World} {LL_a y : Nat} {n : Value} {a : List Int} (g : Ls ics 1 w LL_a y n a) {LL_b z : Nat} {o : Value} {b : List Int} (h : Ls ics 1 w LL_b z o b) :
 Ctr Try.prog 10 #[n, o] w (fun v w' => v = .bool (decide (a = b)) ∧ Ch [] w w') := by
 obtain ⟨p, q, r⟩ := g.val
 subst r
 have I := g.len
 have g := g.here (by decide)
 obtain ⟨s, t, u⟩ := h.val
 subst u
 have J := h.len
 have h := h.here (by decide)
 have E := Ch.refl [] w
 refine Yc (N := 26) (vs0 := [(.slice p a.length q), (.slice s b.length t)]) Try.func10 rfl rfl rfl ?_
 refine Zg fun K1 H1 => ?_
 refine Zc (Za rfl rfl (Zd rfl) (Zf (Zb (H1 _ _ ?_))))
 refine Zg fun K2 H2 => ?_
 refine Zg fun K3 H3 => ?_
 refine Zc (Za rfl rfl (Ze rfl) (Za rfl rfl (Xa (by rw [el30]; rfl) rfl) (Za rfl rfl (Ze rfl) (Za rfl rfl (Xa (by rw [el30]; rfl) rfl) (Za rfl rfl (Qv rfl rfl) (Zf (Zb (H3 _ _ ?_))))))))
 refine Zp rfl (fun d => ?_) (fun d => ?_)
 ·have K := d
  have d := Ye (Qb d)
  refine Zg fun K5 H5 => ?_
  refine Zc (Za rfl rfl (Zd rfl) (Zf (Zb (H5 _ _ ?_))))
  refine Zr (Zl ?_)
  exact Zi [_] ⟨rfl, trivial⟩ ⟨congrArg Value.bool (decide_eq_false (fun e => d (by rw [e]))).symm, E⟩
 have K := d
 have d := Yf (Qc d)
 refine Zq ?_
 refine Zb (H2 _ _ ?_)
 refine Zg fun K6 H6 => ?_
 refine Zg fun K7 H7 => ?_
 refine Zc (Za rfl rfl (Zd rfl) (Zf (Zb (H7 _ _ ?_))))
 refine Zx ?_
 refine Xf (σ := Nat) (fun (k : Nat) => [(0, (.slice p a.length q)), (1, (.slice s b.length t)), (5, (.int .i64 ((k : Nat) : Int)))]) (fun (k : Nat) wx => Ch [] w wx ∧ w.heap.size ≤ wx.heap.size ∧ (k ≤ a.length) ∧ (a.take k = b.take k)) (fun (k : Nat) => a.length - k) 0 (sC2 rfl rfl (sC1 rfl (Sub.nil _))) ⟨E, (Nat.le_refl _), (by omega), rfl⟩ ?_
 rintro k R8 ⟨E, L, Z, F⟩
 have m := E
 have G := m.size
 refine Zg fun K9 H9 => ?_
 refine Zg fun aa M => ?_
 refine Zc (Za rfl rfl (Ze rfl) (Za rfl rfl (Ze rfl) (Za rfl rfl (Xa (by rw [el30]; rfl) rfl) (Za rfl rfl (Xi rfl rfl) (Zf (Zb (M _ _ ?_)))))))
 refine Zp rfl (fun f => ?_) (fun f => ?_)
 ·have A := f
  have f := Yf f
  refine Zq ?_
  refine Zb (H9 _ _ ?_)
  refine Zg fun ab H => ?_
  refine Zx ?_
  refine Zg fun ac O => ?_
  refine Xg [] 9 mixed rfl fun ad x => ?_
  have P := x.size
  have E := E.trans x
  refine dV 0 rfl rfl rfl (fun _ => Ze rfl) (dV 1 rfl rfl rfl (fun _ => Ze rfl) ?_)
  have Q := ((g.ch0 m).ch0 x)
  refine dT 2 rfl rfl rfl (Qn Q Yh el30 sz3 rfl rfl rfl (by omega) fun R S j B => ?_)
  refine dT 3 rfl rfl rfl (Ql B (fun i hi => absurd hi List.not_mem_nil) agg3 rfl rfl ?_)
  refine dV 4 rfl rfl rfl (fun _ => Ze rfl) (dV 5 rfl rfl rfl (fun _ => Ze rfl) ?_)
  have T := ((h.ch0 m).ch0 x)
  refine dT 6 rfl rfl rfl (Qn T Yh el30 sz3 rfl rfl rfl (by omega) fun U V l C => ?_)
  refine dT 7 rfl rfl rfl (Ql C (fun i hi => absurd hi List.not_mem_nil) agg3 rfl rfl ?_)
  refine dV 8 rfl rfl rfl (fun _ => Qv rfl rfl) ?_
  refine Yq (by kernel_rfl) ?_
  refine Zb (O _ _ ?_)
  refine Zp rfl (fun c => ?_) (fun c => ?_)
  ·have D := c
   have c := Ye (Qb c)
   refine Zg fun ae X => ?_
   refine Zc (Za rfl rfl (Zd rfl) (Zf (Zb (X _ _ ?_))))
   refine Zr (Ya (Zl (Zl (Ya (Zl ?_)))))
   clear H6 H
   exact Zi [_] ⟨rfl, trivial⟩ ⟨congrArg Value.bool (decide_eq_false (Zkx j l c)).symm, E⟩
  have D := c
  have c := Yf (Qc c)
  refine Zq ?_
  refine Zv (Zb (H _ _ (Zc (Za rfl rfl (Ze rfl) (Za rfl rfl (Yk (by omega) rfl rfl) (Za rfl rfl (Zd rfl) (Zf ?_)))))))
  exact Zb (Exists.intro (k + 1) ⟨⟨E, (by omega), (by omega), (Zdq F j l c)⟩, sC2 rfl rfl (sC1 rfl (Sub.nil _)), (by first | omega | (dsimp only; omega))⟩)
 have A := f
 have f := Ye f
 refine Xc (Zs (Zs (Yu ?_)))
 refine Zb (H6 _ _ ?_)
 refine Zg fun af Y => ?_
 refine Zc (Za rfl rfl (Zd rfl) (Zf (Zb (Y _ _ ?_))))
 refine Zr ?_
 exact Zi [_] ⟨rfl, trivial⟩ ⟨congrArg Value.bool (decide_eq_true (Zip F (by omega) (by omega))).symm, E⟩

/-- spec.l1In -/
theorem Zar {w : World} (n : Int) (a : Int) (b : Int) :
 Ctr Try.prog 49 #[(.int .i64 n), (.int .i64 a), (.int .i64 b)] w (fun v w' => v = .bool (decide (a ≤ n ∧ n ≤ b)) ∧ Ch [] w w') := by
 have E := Ch.refl [] w
 refine Yc (N := 15) (vs0 := [(.int .i64 n), (.int .i64 a), (.int .i64 b)]) Try.func49 rfl rfl rfl ?_
 refine Zg fun K1 H1 => ?_
 refine Zc (Za rfl rfl (Zd rfl) (Zf (Zb (H1 _ _ ?_))))
 refine Zg fun K2 H2 => ?_
 refine Zc (Za rfl rfl (Ze rfl) (Za rfl rfl (Ze rfl) (Za rfl rfl (Ziv rfl rfl) (Za rfl rfl (Ze rfl) ?_))))
 refine Yn (d := 10) rfl (fun c => ?_) (fun c => ?_)
 ·have e := c
  have c := Yf c
  refine Za rfl rfl (Ze rfl) (Za rfl rfl (Ze rfl) (Za rfl rfl (Zit rfl rfl) (Za rfl rfl (Yi rfl rfl) (Za rfl rfl (Zd rfl) (Zf (Zb (H2 _ _ ?_)))))))
  refine Zr ?_
  exact Zi [_] ⟨rfl, trivial⟩ ⟨congrArg Value.bool (by first | rfl | (rw [Bool.eq_iff_iff]; simp <;> omega) | (rw [Bool.eq_iff_iff]; simp_all; done) | simp_all), E⟩
 have e := c
 have c := Ye c
 refine Zj rfl rfl (Zj rfl rfl (Zj rfl rfl (Za rfl rfl (Ym rfl rfl) (Za rfl rfl (Zd rfl) (Zf (Zb (H2 _ _ ?_)))))))
 refine Zr ?_
 exact Zi [_] ⟨rfl, trivial⟩ ⟨congrArg Value.bool (by first | rfl | (rw [Bool.eq_iff_iff]; simp <;> omega) | (rw [Bool.eq_iff_iff]; simp_all; done) | simp_all), E⟩

/-- spec.l11Fits -/
theorem Zhy {w : World} (aS : Int) {LL_aA X : Nat} {J : Value} {aA : List Bool} (u : Ls bcs 1 w LL_aA X J aA) {LL_saN M : Nat} {A : Value} {saN : List Sv} (m : Ls Sv.cs 1 w LL_saN M A saN) {LR_aN BB_aN : Nat} {aN : List (List Int)} (o : Rd ics 1 w LR_aN BB_aN saN aN) :
 Ctr Try.prog 53 #[(.agg #[(.int .i64 aS), J, A])] w (fun v w' => v = .bool (tt (Zqi aS aA aN)) ∧ Ch [] w w') := by
 obtain ⟨x, y, O⟩ := u.val
 subst O
 have aB := u.len
 have u := u.here (by decide)
 obtain ⟨g, h, G⟩ := m.val
 subst G
 have ae := m.len
 have m := m.here (by decide)
 have o := o.here (by decide)
 have af := o.1
 have E := Ch.refl [] w
 refine Yc (N := 50) (vs0 := [(.agg #[(.int .i64 aS), (.slice x aA.length y), (.slice g saN.length h)])]) Try.func53 rfl rfl rfl ?_
 refine Zg fun K1 H1 => ?_
 refine Zc (Zk rfl rfl ?_)
 refine Xz rfl fun T W2 U C2 bf => ?_
 have bg := C2.size
 have E := E.trans C2
 have bh := U.lt
 replace U : Blk W2 T 27 [(.int .i64 aS), (.slice x aA.length y), (.slice g saN.length h)] := U
 refine Za rfl rfl (Zd rfl) (Zf (Zb (H1 _ _ ?_)))
 refine Zg fun K3 H3 => ?_
 refine Zc (Za rfl rfl (Zh fa27_1 rfl) (Za rfl rfl (Zm U.at_ agg24 rfl rfl) (Za rfl rfl (Xa (by rw [el24]; rfl) rfl) (Za rfl rfl (Zd rfl) (Zf (Zb (H3 _ _ ?_)))))))
 refine Zg fun K4 H4 => ?_
 refine Zg fun K5 H5 => ?_
 refine Zc (Za rfl rfl (Zh fa27_0 rfl) (Za rfl rfl (Zm U.at_ agg3 rfl rfl) (Za rfl rfl (Ze rfl) (Za rfl rfl (Zay (by omega) rfl rfl) (Zk rfl rfl ?_)))))
 refine Step.call (Zn (xs := [.tmp 10, .const (Go.Value.int Go.IntKind.i64 0), .tmp 12]) fk49 rfl) (Zar _ _ _ ) fun aJ W6 ag => ?_
 obtain ⟨rfl, C6⟩ := ag
 have bi := C6.size
 have E := E.trans C6
 refine Za rfl rfl (Xu rfl) (Za rfl rfl (Ze rfl) ?_)
 refine Yn (d := 15) rfl (fun a => ?_) (fun a => ?_)
 ·have aK := a
  have a := Ye (Qb a)
  refine Zj rfl rfl (Zj rfl rfl (Zj rfl rfl (Zj rfl rfl (Zj rfl rfl (Za rfl rfl (Yi rfl rfl) (Zf (Zb (H5 _ _ ?_))))))))
  refine Xp rfl ?_
  refine Zg fun K8 H8 => ?_
  refine Zc (Za rfl rfl (Zd rfl) (Zf (Zb (H8 _ _ ?_))))
  refine Zr (Zl ?_)
  exact Zi [_] ⟨rfl, trivial⟩ ⟨congrArg Value.bool (by first | exact Qx ⟨a, by omega, Zau V (by omega)⟩ | exact Yj (fun e => a e.1) | exact Yj (fun e => j (by have H := e.2.1; omega)) | exact Yj (fun e => i (Zag e f n)) | exact Yj (fun e => l (by have H := (Xo e b).1; omega))), E⟩
 have aK := a
 have a := Yf (Qc a)
 refine Za rfl rfl (Zh fa27_2 rfl) ?_
 have F9 := (U.ch0 C6)
 refine Za rfl rfl (Zm F9.at_ agg25 rfl rfl) (Za rfl rfl (Xa (by rw [el25]; rfl) rfl) (Za rfl rfl (Ze rfl) (Za rfl rfl (Qv rfl rfl) (Za rfl rfl (Ym rfl rfl) (Zf (Zb (H5 _ _ ?_)))))))
 refine Zp rfl (fun j => ?_) (fun j => ?_)
 ·have ah := j
  have j := Ye (Qb j)
  refine Zg fun bj aL => ?_
  refine Zc (Za rfl rfl (Zd rfl) (Zf (Zb (aL _ _ ?_))))
  refine Zr (Zl ?_)
  exact Zi [_] ⟨rfl, trivial⟩ ⟨congrArg Value.bool (by first | exact Qx ⟨a, by omega, Zau V (by omega)⟩ | exact Yj (fun e => a e.1) | exact Yj (fun e => j (by have H := e.2.1; omega)) | exact Yj (fun e => i (Zag e f n)) | exact Yj (fun e => l (by have H := (Xo e b).1; omega))), E⟩
 have ah := j
 have j := Yf (Qc j)
 refine Zq ?_
 refine Zb (H4 _ _ ?_)
 refine Zg fun bk ai => ?_
 refine Zg fun bm aM => ?_
 refine Zc (Za rfl rfl (Zd rfl) (Zf (Zb (aM _ _ ?_))))
 refine Zx ?_
 refine Xf (σ := Nat) (fun (s : Nat) => [(1, (.pointer (some ⟨T, 0, none⟩))), (3, (.int .i64 ((aA.length : Nat) : Int))), (4, (.int .i64 ((s : Nat) : Int)))]) (fun (s : Nat) wx => Ch [] w wx ∧ W6.heap.size ≤ wx.heap.size ∧ (s ≤ aN.length) ∧ (Zkf aA.length aN s) ∧ Blk wx T 27 [(.int .i64 aS), (.slice x aA.length y), (.slice g saN.length h)]) (fun (s : Nat) => aN.length - s) 0 (sC2 rfl rfl (sC1 rfl (Sub.nil _))) ⟨E, (Nat.le_refl _), (by omega), (Zla _ _), F9⟩ ?_
 rintro s aj ⟨E, aO, hs, V, B⟩
 have P := E
 have aC := P.size
 have ak := B.lt
 refine Zg fun bn aP => ?_
 refine Zg fun bp aQ => ?_
 refine Zc (Za rfl rfl (Ze rfl) (Za rfl rfl (Ze rfl) (Za rfl rfl (Xi rfl rfl) (Zf (Zb (aQ _ _ ?_))))))
 refine Zp rfl (fun r => ?_) (fun r => ?_)
 ·have al := r
  have r := Yf r
  refine Zq ?_
  refine Zb (aP _ _ ?_)
  refine Zg fun bq am => ?_
  refine Zx ?_
  refine Zg fun br aD => ?_
  refine Zg fun bs aR => ?_
  refine Zc (Za rfl rfl (Zh fa27_2 rfl) (Za rfl rfl (Zm B.at_ agg25 rfl rfl) (Za rfl rfl (Ze rfl) (Zk rfl rfl ?_))))
  have aE := (m.ch0 P)
  refine (Yo aE Sv.len el25 sz30 rfl rfl rfl (by omega) fun Q an Y I => ?_)
  have aF := (o.ch0 P)
  obtain ⟨c, b, p⟩ := aF.get Y
  obtain ⟨C, aT, D⟩ := an
  obtain rfl := p.eqn
  have aU := p.len
  replace p : Ls ics 1 aj LR_aN w.heap.size (.slice C c.length D) c := p
  replace I : At aj LL_saN w.heap.size Q ([(.slice C c.length D)]) := I
  refine Za rfl rfl (Yg I agg30 rfl rfl) (Za rfl rfl (Xa (by rw [el30]; rfl) rfl) (Za rfl rfl (Qv rfl rfl) (Zf (Zb (aR _ _ ?_)))))
  refine Zp rfl (fun l => ?_) (fun l => ?_)
  ·have ao := l
   have l := Ye (Qb l)
   refine Zg fun bu aV => ?_
   refine Zc (Za rfl rfl (Zd rfl) (Zf (Zb (aV _ _ ?_))))
   refine Zr (Zl (Ya (Zl (Zl (Ya (Zl ?_))))))
   clear ai am aD
   exact Zi [_] ⟨rfl, trivial⟩ ⟨congrArg Value.bool (by first | exact Qx ⟨a, by omega, Zau V (by omega)⟩ | exact Yj (fun e => a e.1) | exact Yj (fun e => j (by have H := e.2.1; omega)) | exact Yj (fun e => i (Zag e f n)) | exact Yj (fun e => l (by have H := (Xo e b).1; omega))), E⟩
  have ao := l
  have l := Yf (Qc l)
  refine Zq ?_
  refine Zb (aD _ _ ?_)
  refine Zg fun bv aW => ?_
  refine Zc (Za rfl rfl (Zd rfl) (Zf (Zb (aW _ _ ?_))))
  refine Zx ?_
  refine Xf (σ := Nat) (fun (k : Nat) => [(1, (.pointer (some ⟨T, 0, none⟩))), (3, (.int .i64 ((aA.length : Nat) : Int))), (4, (.int .i64 ((s : Nat) : Int))), (5, (.int .i64 ((k : Nat) : Int))), (22, (.int .i64 ((s : Nat) : Int))), (23, (.int .i64 ((aA.length : Nat) : Int))), (24, (.bool (decide (((s : Nat) : Int) < ((aA.length : Nat) : Int))))), (27, (.pointer (some (Addr.add ⟨T, 0, none⟩ 2)))), (28, (.slice g saN.length h)), (29, (.int .i64 ((s : Nat) : Int))), (30, (.pointer (some Q))), (31, (.slice C c.length D)), (32, (.int .i64 ((c.length : Nat) : Int))), (33, (.bool (!decide (((c.length : Nat) : Int) = 9))))]) (fun (k : Nat) wx => Ch [] w wx ∧ aj.heap.size ≤ wx.heap.size ∧ (k ≤ 9) ∧ (RowP aA.length c k) ∧ Blk wx T 27 [(.int .i64 aS), (.slice x aA.length y), (.slice g saN.length h)] ∧ Ls Sv.cs 1 wx LL_saN w.heap.size (.slice g saN.length h) saN ∧ Rd ics 1 wx LR_aN w.heap.size saN aN ∧ At wx LL_saN w.heap.size Q ([(.slice C c.length D)]) ∧ Ls ics 1 wx LR_aN w.heap.size (.slice C c.length D) c) (fun (k : Nat) => 9 - k) 0 (sC8 rfl rfl rfl rfl rfl rfl rfl rfl (sC4 rfl rfl rfl rfl (sC2 rfl rfl (Sub.nil _)))) ⟨E, (Nat.le_refl _), (by omega), (Zko _ _), B, aE, aF, I, p⟩ ?_
  rintro k aG ⟨E, aX, bw, hp, z, K, L, Z, aa⟩
  have ap := E
  have aH := ap.size
  have aq := z.lt
  refine Zg fun bz aY => ?_
  refine Zg fun bA aZ => ?_
  refine Zc (Za rfl rfl (Ze rfl) (Za rfl rfl (Xi rfl rfl) (Zf (Zb (aZ _ _ ?_)))))
  refine Zp rfl (fun t => ?_) (fun t => ?_)
  ·have au := t
   have t := Yf t
   refine Zq ?_
   refine Zb (aY _ _ ?_)
   refine Zg fun bB aI => ?_
   refine Zx ?_
   refine Zg fun bC a0 => ?_
   refine Zc (Za rfl rfl (Zh fa27_2 rfl) (Za rfl rfl (Zm z.at_ agg25 rfl rfl) (Za rfl rfl (Ze rfl) (Zk rfl rfl ?_))))
   refine (Yo K Sv.len el25 sz30 rfl rfl rfl (by omega) fun av aw ab R => ?_)
   obtain ⟨F, f, q⟩ := L.get ab
   obtain ⟨ac, a1, ad⟩ := aw
   obtain rfl := q.eqn
   have a2 := q.len
   replace q : Ls ics 1 aG LR_aN w.heap.size (.slice ac F.length ad) F := q
   replace R : At aG LL_saN w.heap.size av ([(.slice ac F.length ad)]) := R
   have a3 := congrArg List.length (Qg b f)
   refine Za rfl rfl (Yg R agg30 rfl rfl) (Za rfl rfl (Ze rfl) (Zk rfl rfl ?_))
   refine (Yo q Yh el30 sz3 rfl rfl rfl (by omega) fun a4 a5 n ax => ?_)
   refine Za rfl rfl (Yg ax agg3 rfl rfl) (Za rfl rfl (Ze rfl) (Za rfl rfl (Zay (by omega) rfl rfl) (Zk rfl rfl ?_)))
   refine Step.call (Zn (xs := [.tmp 45, .const (Go.Value.int Go.IntKind.i64 (-1)), .tmp 47]) fk49 rfl) (Zar _ _ _ ) fun a6 bD ay => ?_
   obtain ⟨rfl, S⟩ := ay
   have a7 := S.size
   have E := E.trans S
   refine Za rfl rfl (Xu rfl) (Zf (Zb (a0 _ _ ?_)))
   refine Zp rfl (fun i => ?_) (fun i => ?_)
   ·have az := i
    have i := Ye (Qb i)
    refine Zg fun bF a8 => ?_
    refine Zc (Za rfl rfl (Zd rfl) (Zf (Zb (a8 _ _ ?_))))
    refine Zr (Ya (Zl (Zl (Ya (Ya (Zl (Zl (Ya (Zl ?_)))))))))
    clear ai am aI
    exact Zi [_] ⟨rfl, trivial⟩ ⟨congrArg Value.bool (by first | exact Qx ⟨a, by omega, Zau V (by omega)⟩ | exact Yj (fun e => a e.1) | exact Yj (fun e => j (by have H := e.2.1; omega)) | exact Yj (fun e => i (Zag e f n)) | exact Yj (fun e => l (by have H := (Xo e b).1; omega))), E⟩
   have az := i
   have i := Yf (Qc i)
   refine Zq ?_
   refine Zv (Zb (aI _ _ (Zc (Za rfl rfl (Ze rfl) (Za rfl rfl (Yk (by omega) rfl rfl) (Za rfl rfl (Zd rfl) (Zf ?_)))))))
   have a9 := (z.ch0 S)
   have ba := (K.ch0 S)
   have bb := (L.ch0 S)
   have bc := (Z.ch0 S)
   have bd := (aa.ch0 S)
   exact Zb (Exists.intro (k + 1) ⟨⟨E, (by omega), (by omega), (Zku hp (Qg f b ▸ n) i), a9, ba, bb, bc, bd⟩, sC8 rfl rfl rfl rfl rfl rfl rfl rfl (sC4 rfl rfl rfl rfl (sC2 rfl rfl (Sub.nil _))), (by first | omega | (dsimp only; omega))⟩)
  have au := t
  have t := Ye t
  refine Xc (Zs (Zs (Yu ?_)))
  refine Zv (Zb (am _ _ (Zc (Za rfl rfl (Ze rfl) (Za rfl rfl (Yk (by omega) rfl rfl) (Za rfl rfl (Zd rfl) (Zf ?_)))))))
  exact Zb (Exists.intro (s + 1) ⟨⟨E, (by omega), (by omega), (Zle V b ⟨by omega, Zmr hp (by omega)⟩), z⟩, sC2 rfl rfl (sC1 rfl (Sub.nil _)), (by first | omega | (dsimp only; omega))⟩)
 have al := r
 have r := Ye r
 refine Xc (Zs (Zs (Yu ?_)))
 refine Zb (ai _ _ ?_)
 refine Zg fun bG be => ?_
 refine Zc (Za rfl rfl (Zd rfl) (Zf (Zb (be _ _ ?_))))
 refine Zr ?_
 exact Zi [_] ⟨rfl, trivial⟩ ⟨congrArg Value.bool (by first | exact Qx ⟨a, by omega, Zau V (by omega)⟩ | exact Yj (fun e => a e.1) | exact Yj (fun e => j (by have H := e.2.1; omega)) | exact Yj (fun e => i (Zag e f n)) | exact Yj (fun e => l (by have H := (Xo e b).1; omega))), E⟩

/-- spec.IsValidAutomaton -/
theorem Zab {w : World} (aS : Int) {LL_aA p : Nat} {k : Value} {aA : List Bool} (c : Ls bcs 1 w LL_aA p k aA) {LL_saN n : Nat} {f : Value} {saN : List Sv} (a : Ls Sv.cs 1 w LL_saN n f saN) {LR_aN BB_aN : Nat} {aN : List (List Int)} (b : Rd ics 1 w LR_aN BB_aN saN aN) :
 Ctr Try.prog 13 #[(.agg #[(.int .i64 aS), k, f])] w (fun v w' => v = .bool (tt (Xe aS aA aN)) ∧ Ch [] w w') := by
 obtain ⟨l, m, o⟩ := c.val
 subst o
 have t := c.len
 have c := c.here (by decide)
 obtain ⟨g, h, i⟩ := a.val
 subst i
 have r := a.len
 have a := a.here (by decide)
 have b := b.here (by decide)
 have s := b.1
 have E := Ch.refl [] w
 refine Yc (N := 11) (vs0 := [(.agg #[(.int .i64 aS), (.slice l aA.length m), (.slice g saN.length h)])]) Try.func13 rfl rfl rfl ?_
 refine Zg fun K1 H1 => ?_
 refine Zc (Zk rfl rfl ?_)
 refine Xz rfl fun u W2 q C2 A => ?_
 have B := C2.size
 have E := E.trans C2
 have C := q.lt
 replace q : Blk W2 u 27 [(.int .i64 aS), (.slice l aA.length m), (.slice g saN.length h)] := q
 refine Za rfl rfl (Zd rfl) (Zf (Zb (H1 _ _ ?_)))
 refine Zg fun K3 H3 => ?_
 refine Zc (Za rfl rfl (Zh fa27_1 rfl) (Za rfl rfl (Zm q.at_ agg24 rfl rfl) (Za rfl rfl (Xa (by rw [el24]; rfl) rfl) (Za rfl rfl (Zit rfl rfl) (Za rfl rfl (Ze rfl) ?_)))))
 refine Yn (d := 7) rfl (fun j => ?_) (fun j => ?_)
 ·have x := j
  have j := Yf j
  refine Za rfl rfl (Zw q.at_ agg27 sz27 rfl) (Zk rfl rfl ?_)
  have F5 := (c.ch0 C2)
  have F6 := (b.ch0 C2)
  have F7 := (a.ch0 C2)
  refine Step.call (Zn (xs := [.tmp 8]) fk53 rfl) (Zhy _ F5 F7 F6 ) fun D W8 y => ?_
  obtain ⟨rfl, C8⟩ := y
  have F := C8.size
  have E := E.trans C8
  refine Za rfl rfl (Yi rfl rfl) (Za rfl rfl (Zd rfl) (Zf (Zb (H3 _ _ ?_))))
  refine Zr ?_
  exact Zi [_] ⟨rfl, trivial⟩ ⟨congrArg Value.bool (by first | exact Zur ⟨fun e => ⟨by omega, e⟩, fun e => e.2⟩ | exact Yj (fun e => j (by have z := e.1; omega))), E⟩
 have x := j
 have j := Ye j
 refine Zj rfl rfl (Zj rfl rfl (Za rfl rfl (Ym rfl rfl) (Za rfl rfl (Zd rfl) (Zf (Zb (H3 _ _ ?_))))))
 refine Zr ?_
 exact Zi [_] ⟨rfl, trivial⟩ ⟨congrArg Value.bool (by first | exact Zur ⟨fun e => ⟨by omega, e⟩, fun e => e.2⟩ | exact Yj (fun e => j (by have z := e.1; omega))), E⟩

/-- spec.l10Has -/
theorem Zcu {w : World} {LL_l A : Nat} {p : Value} {l : List GNode} (j : Ls GNode.cs 5 w LL_l A p l) (x : GNode) :
 Ctr Try.prog 92 #[p, (.agg #[(.int .i64 x.a), (.int .i64 x.b), (.bool x.apart), (.int .i64 x.frm), (.int .i64 x.by_)])] w (fun v w' => v = .bool (tt (hasN l x l.length)) ∧ Ch [] w w') := by
 obtain ⟨q, r, s⟩ := j.val
 subst s
 have Q := j.len
 have j := j.here (by decide)
 have E := Ch.refl [] w
 refine Yc (N := 40) (vs0 := [(.slice q l.length r), (.agg #[(.int .i64 x.a), (.int .i64 x.b), (.bool x.apart), (.int .i64 x.frm), (.int .i64 x.by_)])]) Try.func92 rfl rfl rfl ?_
 refine Zg fun K1 H1 => ?_
 refine Zc (Zk rfl rfl ?_)
 refine Xz rfl fun B W2 y C2 ad => ?_
 have ae := C2.size
 have E := E.trans C2
 have af := y.lt
 replace y : Blk W2 B 110 [(.int .i64 x.a), (.int .i64 x.b), (.bool x.apart), (.int .i64 x.frm), (.int .i64 x.by_)] := y
 refine Za rfl rfl (Zd rfl) (Zf (Zb (H1 _ _ ?_)))
 refine Zg fun K3 H3 => ?_
 refine Zg fun K4 H4 => ?_
 refine Zc (Za rfl rfl (Zd rfl) (Zf (Zb (H4 _ _ ?_))))
 refine Zx ?_
 refine Xf (σ := Nat) (fun (k : Nat) => [(0, (.slice q l.length r)), (3, (.pointer (some ⟨B, 0, none⟩))), (5, (.int .i64 ((k : Nat) : Int)))]) (fun (k : Nat) wx => Ch [] w wx ∧ W2.heap.size ≤ wx.heap.size ∧ (k ≤ l.length) ∧ (¬ hasN l x k) ∧ Blk wx B 110 [(.int .i64 x.a), (.int .i64 x.b), (.bool x.apart), (.int .i64 x.frm), (.int .i64 x.by_)]) (fun (k : Nat) => l.length - k) 0 (sC2 rfl rfl (sC1 rfl (Sub.nil _))) ⟨E, (Nat.le_refl _), (by omega), Zqx, y⟩ ?_
 rintro k R5 ⟨E, R, ag, t, m⟩
 have u := E
 have M := u.size
 have C := m.lt
 refine Zg fun K6 H6 => ?_
 refine Zg fun K7 H7 => ?_
 refine Zc (Za rfl rfl (Ze rfl) (Za rfl rfl (Ze rfl) (Za rfl rfl (Xa (by rw [el111]; rfl) rfl) (Za rfl rfl (Xi rfl rfl) (Zf (Zb (H7 _ _ ?_)))))))
 refine Zp rfl (fun n => ?_) (fun n => ?_)
 ·have S := n
  have n := Yf n
  refine Zq ?_
  refine Zb (H6 _ _ ?_)
  refine Zg fun K9 H9 => ?_
  refine Zx ?_
  refine Zg fun ah D => ?_
  refine Xg [] 28 mixed rfl fun ai z => ?_
  have T := z.size
  have E := E.trans z
  refine dV 0 rfl rfl rfl (fun _ => Ze rfl) (dV 1 rfl rfl rfl (fun _ => Ze rfl) ?_)
  have F := ((j.ch0 u).ch0 z)
  refine dT 2 rfl rfl rfl (Qn F GNode.len el111 sz110 rfl rfl rfl (by omega) fun U V e G => ?_)
  refine dV 3 rfl rfl rfl (fun _ => Zh fa110_0 rfl) ?_
  refine dT 4 rfl rfl rfl (Yw G (fun i hi => absurd hi List.not_mem_nil) agg3 rfl rfl ?_)
  refine dV 5 rfl rfl rfl (fun _ => Zh fa110_0 rfl) ?_
  have o := (m.ch0 z)
  refine dT 6 rfl rfl rfl (Yw o.at_ (fun i hi => absurd hi List.not_mem_nil) agg3 rfl rfl ?_)
  refine dV 7 rfl rfl rfl (fun _ => Xj rfl rfl) (dV 8 rfl rfl rfl (fun _ => Ze rfl) ?_)
  refine Zgq (d := 20) rfl (fun f => ?_) (fun f => ?_)
  ·have H := f
   have f := Yf f
   refine dV 9 rfl rfl rfl (fun _ => Ze rfl) (dV 10 rfl rfl rfl (fun _ => Ze rfl) ?_)
   refine dT 11 rfl rfl rfl (Qn F GNode.len el111 sz110 rfl rfl rfl (by omega) fun X Y O I => ?_)
   refine dV 12 rfl rfl rfl (fun _ => Zh fa110_1 rfl) ?_
   refine dT 13 rfl rfl rfl (Yw I (fun i hi => absurd hi List.not_mem_nil) agg3 rfl rfl ?_)
   refine dV 14 rfl rfl rfl (fun _ => Zh fa110_1 rfl) ?_
   refine dT 15 rfl rfl rfl (Yw o.at_ (fun i hi => absurd hi List.not_mem_nil) agg3 rfl rfl ?_)
   refine dV 16 rfl rfl rfl (fun _ => Xj rfl rfl) (dV 17 rfl rfl rfl (fun _ => Yi rfl rfl) (dV 18 rfl rfl rfl (fun _ => Ze rfl) ?_))
   refine Zgq (d := 30) rfl (fun g => ?_) (fun g => ?_)
   ·have J := g
    have g := Yf g
    refine dV 19 rfl rfl rfl (fun _ => Ze rfl) (dV 20 rfl rfl rfl (fun _ => Ze rfl) ?_)
    refine dT 21 rfl rfl rfl (Qn F GNode.len el111 sz110 rfl rfl rfl (by omega) fun Z aa P K => ?_)
    refine dV 22 rfl rfl rfl (fun _ => Zh fa110_2 rfl) ?_
    refine dT 23 rfl rfl rfl (Yw K (fun i hi => absurd hi List.not_mem_nil) agg4 rfl rfl ?_)
    refine dV 24 rfl rfl rfl (fun _ => Zh fa110_2 rfl) ?_
    refine dT 25 rfl rfl rfl (Yw o.at_ (fun i hi => absurd hi List.not_mem_nil) agg4 rfl rfl ?_)
    refine dV 26 rfl rfl rfl (fun _ => Zvj un4 rfl rfl) (dV 27 rfl rfl rfl (fun _ => Yi rfl rfl) ?_)
    refine Yq (by kernel_rfl) ?_
    refine Zb (D _ _ ?_)
    refine Zp rfl (fun h => ?_) (fun h => ?_)
    ·have L := h
     have h := bt_e h
     refine Zg fun aj ab => ?_
     refine Zc (Za rfl rfl (Zd rfl) (Zf (Zb (ab _ _ ?_))))
     refine Zr (Ya (Zl (Zl (Ya (Zl ?_)))))
     clear H3 H9
     exact Zi [_] ⟨rfl, trivial⟩ ⟨congrArg Value.bool (by first | exact Qx (Zpg e (by simp_all) (by simp_all) (by simp_all)) | exact Yj (Zou t (by omega))), E⟩
    have L := h
    have h := bf_e h
    refine Zq ?_
    refine Zv (Zb (H9 _ _ (Zc (Za rfl rfl (Ze rfl) (Za rfl rfl (Yk (by omega) rfl rfl) (Za rfl rfl (Zd rfl) (Zf ?_)))))))
    exact Zb (Exists.intro (k + 1) ⟨⟨E, (by omega), (by omega), (Zjq t e (fun c => by simp_all)), o⟩, sC2 rfl rfl (sC1 rfl (Sub.nil _)), (by first | omega | (dsimp only; omega))⟩)
   have J := g
   have g := Ye g
   refine dK 19 rfl rfl rfl (dK 20 rfl rfl rfl (dK 21 rfl rfl rfl (dK 22 rfl rfl rfl (dK 23 rfl rfl rfl (dK 24 rfl rfl rfl (dK 25 rfl rfl rfl (dK 26 rfl rfl rfl ?_)))))))
   refine dV 27 rfl rfl rfl (fun _ => Ym rfl rfl) ?_
   refine Yq (by kernel_rfl) ?_
   refine Zb (D _ _ ?_)
   refine Qw rfl ?_
   refine Zq ?_
   refine Zv (Zb (H9 _ _ (Zc (Za rfl rfl (Ze rfl) (Za rfl rfl (Yk (by omega) rfl rfl) (Za rfl rfl (Zd rfl) (Zf ?_)))))))
   exact Zb (Exists.intro (k + 1) ⟨⟨E, (by omega), (by omega), (Zjq t e (fun c => by simp_all)), o⟩, sC2 rfl rfl (sC1 rfl (Sub.nil _)), (by first | omega | (dsimp only; omega))⟩)
  have H := f
  have f := Ye f
  refine dK 9 rfl rfl rfl (dK 10 rfl rfl rfl (dK 11 rfl rfl rfl (dK 12 rfl rfl rfl (dK 13 rfl rfl rfl (dK 14 rfl rfl rfl (dK 15 rfl rfl rfl (dK 16 rfl rfl rfl ?_)))))))
  refine dV 17 rfl rfl rfl (fun _ => Ym rfl rfl) (dV 18 rfl rfl rfl (fun _ => Ze rfl) (dK 19 rfl rfl rfl (dK 20 rfl rfl rfl (dK 21 rfl rfl rfl (dK 22 rfl rfl rfl (dK 23 rfl rfl rfl (dK 24 rfl rfl rfl ?_)))))))
  refine dK 25 rfl rfl rfl (dK 26 rfl rfl rfl (dV 27 rfl rfl rfl (fun _ => Ym rfl rfl) ?_))
  refine Yq (by kernel_rfl) ?_
  refine Zb (D _ _ ?_)
  refine Qw rfl ?_
  refine Zq ?_
  refine Zv (Zb (H9 _ _ (Zc (Za rfl rfl (Ze rfl) (Za rfl rfl (Yk (by omega) rfl rfl) (Za rfl rfl (Zd rfl) (Zf ?_)))))))
  exact Zb (Exists.intro (k + 1) ⟨⟨E, (by omega), (by omega), (Zjq t e (fun c => by simp_all)), o⟩, sC2 rfl rfl (sC1 rfl (Sub.nil _)), (by first | omega | (dsimp only; omega))⟩)
 have S := n
 have n := Ye n
 refine Xc (Zs (Zs (Yu ?_)))
 refine Zb (H3 _ _ ?_)
 refine Zg fun ak ac => ?_
 refine Zc (Za rfl rfl (Zd rfl) (Zf (Zb (ac _ _ ?_))))
 refine Zr ?_
 exact Zi [_] ⟨rfl, trivial⟩ ⟨congrArg Value.bool (by first | exact Qx (Zpg e (by simp_all) (by simp_all) (by simp_all)) | exact Yj (Zou t (by omega))), E⟩

/-- spec.l10Word -/
theorem Zeg {w : World} {LL_l J : Nat} {s : Value} {l : List GNode} (c : Ls GNode.cs 5 w LL_l J s l) (k : Int) (EE : List (St2 × List Int)) (hn : NdR l EE) (ad : 0 ≤ k ∧ k < l.length) (hW : ∀ x ∈ EE, x.2.length ≤ 1000) :
 Ctr Try.prog 90 #[s, (.int .i64 k)] w (fun v w' => Ol ics 3 1 w' v (ndw EE k) ∧ Lo w.heap.size v ∧ Ch [] w w') := by
 obtain ⟨t, u, y⟩ := c.val
 subst y
 have ae := c.len
 have c := c.here (by decide)
 have E := Ch.refl [] w
 refine Yc (N := 23) (vs0 := [(.slice t l.length u), (.int .i64 k)]) Try.func90 rfl rfl rfl ?_
 refine Zg fun K1 H1 => ?_
 refine Zc (Za rfl rfl (Zd rfl) (Zf (Zb (H1 _ _ ?_))))
 refine Zg fun K2 H2 => ?_
 refine Zc (Zk rfl rfl ?_)
 refine Xd (k := 1) ics el30 sz3 fun ax W3 S K C3 => ?_
 have ay := C3.size
 have E := E.trans C3
 obtain ⟨z, A, rfl, af, T⟩ := S.opn
 refine Za rfl rfl (Zd rfl) (Zf (Zb (H2 _ _ ?_)))
 refine Zg fun K4 H4 => ?_
 refine Zx ?_
 have B : Ol ics 3 1 W3 (.slice z (([] : List Int)).length A) (([] : List Int)) := by
  have hx := S
  exact hx
 refine Xf (σ := Int × List Int × Value) (fun ⟨q, o, kv⟩ => [(0, (.slice t l.length u)), (1, (.int .i64 q)), (4, (.slice none 0 0)), (5, kv)]) (fun ⟨q, o, kv⟩ wx => Ch [] w wx ∧ W3.heap.size ≤ wx.heap.size ∧ (0 ≤ q ∧ q < l.length) ∧ (ndw EE q ++ o = ndw EE k) ∧ (o.length ≤ 1000) ∧ Ol ics 3 1 wx kv o ∧ Lo w.heap.size kv) (fun ⟨q, o, kv⟩ => q.toNat) (k, ([] : List Int), (.slice z (([] : List Int)).length A)) (sC4 rfl rfl rfl rfl (Sub.nil _)) ⟨E, (Nat.le_refl _), ad, (by simp), (by simp), B, K⟩ ?_
 rintro ⟨q, o, kv⟩ R6 ⟨E, ag, hq, ho, hb, d, m⟩
 have C := E
 have U := C.size
 obtain ⟨Akv, Ckv, rfl, lkv, hikv⟩ := d.opn
 refine Zg fun K7 H7 => ?_
 refine Zg fun K8 H8 => ?_
 refine Zc (Za rfl rfl (Ze rfl) (Za rfl rfl (Zeh rfl rfl) (Zf (Zb (H8 _ _ ?_)))))
 refine Zp rfl (fun n => ?_) (fun n => ?_)
 ·have ah := n
  have n := Yf n
  refine Zq ?_
  refine Zb (H7 _ _ ?_)
  refine Zx ?_
  refine Zg fun az ai => ?_
  refine Zc (Za rfl rfl (Ze rfl) (Za rfl rfl (Ze rfl) (Zk rfl rfl ?_)))
  have V := (c.ch0 C)
  refine (Yo (j := q.toNat) V GNode.len el111 sz110 rfl rfl (by omega) (by omega) fun aj e a L => ?_)
  have nd := Zrj hn (by omega) a
  have X := congrArg List.length ho
  have aA := Zud (k := k) hW
  rw [nd.1] at X
  simp only [List.length_append, List.length_singleton] at X
  refine Za rfl rfl (Zh fa110_4 rfl) (Za rfl rfl (Zm L agg3 rfl rfl) (Zk rfl rfl ?_))
  refine Zo (cs := ics) (parts := [(0, .tmp 13)]) (0 : Int) [e.by_] el30 sz3 zr3 Yh (by decide) rfl rfl rfl (by decide) (by decide) rfl fun ak aB D f I => ?_
  have al := I.size
  have E := E.trans I
  obtain ⟨Y, Z, rfl, aa, M⟩ := D.opn
  refine Za rfl rfl (Ze rfl) (Zk rfl rfl ?_)
  have am := (d.ch0 I)
  refine Yd (cs := ics) el30 sz3 by3 zr3 rfl (by decide) Xn D am.ls rfl rfl (by first | omega | (simp only [List.length_singleton]; omega)) (by first | omega | (simp only [List.length_singleton]; omega)) f (by omega) fun an ao F G ab O => ?_
  have ap := O.size
  have E := E.step O (fun i hi => .inl (by have aq := f _ hi; omega))
  obtain ⟨g, h, rfl, ac, P⟩ := F.opn
  refine Za rfl rfl (Zd rfl) (Zf (Zb (ai _ _ (Zc (Za rfl rfl (Ze rfl) (Za rfl rfl (Ze rfl) (Zk rfl rfl ?_)))))))
  have au := ((V.ch0 I).ch O (fun i hi => by have aq := f _ hi; omega))
  refine (Yo (j := q.toNat) au GNode.len el111 sz110 rfl rfl (by omega) (by omega) fun av Q b R => ?_)
  refine Za rfl rfl (Zh fa110_3 rfl) (Za rfl rfl (Zm R agg3 rfl rfl) (Za rfl rfl (Zd rfl) (Zf (Zv ?_))))
  have p : Ol ics 3 1 ao (.slice g (([e.by_] ++ o)).length h) (([e.by_] ++ o)) := by
   have hx := F
   exact hx
  exact Zb (Exists.intro (Q.frm, ([e.by_] ++ o), (.slice g (([e.by_] ++ o)).length h)) ⟨⟨E, (by omega), (by have r := Qg a b; rw [← r]; omega), (by have r := Qg a b; rw [← ho, nd.1, ← r]; simp), (by have r := Qg a b; simp only [List.length_append, List.length_singleton]; omega), p, (Lo.down G (by omega))⟩, sC4 rfl rfl rfl rfl (Sub.nil _), (by have r := Qg a b; rw [← r]; dsimp only; omega)⟩)
 have ah := n
 have n := Ye n
 refine Xc (Zs (Zs (Yu ?_)))
 refine Zb (H4 _ _ ?_)
 refine Zg fun aC aw => ?_
 refine Zc (Za rfl rfl (Ze rfl) (Za rfl rfl (Zd rfl) (Zf (Zb (aw _ _ ?_)))))
 refine Zr ?_
 have H : Ol ics 3 1 R6 (.slice Akv (o).length Ckv) (ndw EE k) := by
  have hx := d
  rw [← ho, Zre hn (by omega) (by omega)]; simpa using hx
 exact Zi [_] ⟨rfl, trivial⟩ ⟨H, Lo.down m (by omega), E⟩

/-- spec.l12Accept -/
theorem Zda {w : World} (aS : Int) {LL_aA q : Nat} {i : Value} {aA : List Bool} (b : Ls bcs 1 w LL_aA q i aA) {LL_saN n : Nat} {e : Value} {saN : List Sv} (a : Ls Sv.cs 1 w LL_saN n e saN) {LR_aN BB_aN : Nat} {aN : List (List Int)} (c : Rd ics 1 w LR_aN BB_aN saN aN) (s : Int) (hs : s ≤ (aA.length : Int) - 1) :
 Ctr Try.prog 89 #[(.agg #[(.int .i64 aS), i, e]), (.int .i64 s)] w (fun v w' => v = .bool (Qd aA s) ∧ Ch [] w w') := by
 obtain ⟨k, l, o⟩ := b.val
 subst o
 have y := b.len
 have b := b.here (by decide)
 obtain ⟨f, g, h⟩ := a.val
 subst h
 have t := a.len
 have a := a.here (by decide)
 have c := c.here (by decide)
 have u := c.1
 have E := Ch.refl [] w
 refine Yc (N := 14) (vs0 := [(.agg #[(.int .i64 aS), (.slice k aA.length l), (.slice f saN.length g)]), (.int .i64 s)]) Try.func89 rfl rfl rfl ?_
 refine Zg fun K1 H1 => ?_
 refine Zc (Zk rfl rfl ?_)
 refine Xz rfl fun z W2 r C2 D => ?_
 have F := C2.size
 have E := E.trans C2
 have G := r.lt
 replace r : Blk W2 z 27 [(.int .i64 aS), (.slice k aA.length l), (.slice f saN.length g)] := r
 refine Za rfl rfl (Zd rfl) (Zf (Zb (H1 _ _ ?_)))
 refine Zg fun K3 H3 => ?_
 refine Zc (Za rfl rfl (Ze rfl) (Za rfl rfl (Ziv rfl rfl) (Za rfl rfl (Ze rfl) ?_)))
 refine Yn (d := 7) rfl (fun p => ?_) (fun p => ?_)
 ·have A := p
  have p := Yf p
  refine Za rfl rfl (Zh fa27_1 rfl) (Za rfl rfl (Zm r.at_ agg24 rfl rfl) (Za rfl rfl (Ze rfl) (Zk rfl rfl ?_)))
  have F5 := (b.ch0 C2)
  refine (Yo (j := s.toNat) F5 Qq el24 sz4 rfl rfl (by omega) (by omega) fun B C m x => ?_)
  refine Za rfl rfl (Yg x agg4 rfl rfl) (Za rfl rfl (Yi rfl rfl) (Za rfl rfl (Zd rfl) (Zf (Zb (H3 _ _ ?_)))))
  refine Zr ?_
  exact Zi [_] ⟨rfl, trivial⟩ ⟨congrArg Value.bool (by first | exact Zml (by omega) m | exact Zkn (by omega)), E⟩
 have A := p
 have p := Ye p
 refine Zj rfl rfl (Zj rfl rfl (Zj rfl rfl (Zj rfl rfl (Zj rfl rfl (Za rfl rfl (Ym rfl rfl) (Za rfl rfl (Zd rfl) (Zf ?_)))))))
 refine Zb (H3 _ _ ?_)
 refine Zr ?_
 exact Zi [_] ⟨rfl, trivial⟩ ⟨congrArg Value.bool (by first | exact Zml (by omega) m | exact Zkn (by omega)), E⟩

/-- spec.l12Next -/
theorem Xh {w : World} (aS : Int) {LL_aA u : Nat} {l : Value} {aA : List Bool} (e : Ls bcs 1 w LL_aA u l aA) {LL_saN p : Nat} {f : Value} {saN : List Sv} (a : Ls Sv.cs 1 w LL_saN p f saN) {LR_aN BB_aN : Nat} {aN : List (List Int)} (b : Rd ics 1 w LR_aN BB_aN saN aN) (s : Int) (x : Int) (hv : Xe aS aA aN) (hs : -1 ≤ s ∧ s ≤ (aA.length : Int) - 1) (hx : 0 ≤ x ∧ x ≤ 8) :
 Ctr Try.prog 91 #[(.agg #[(.int .i64 aS), l, f]), (.int .i64 s), (.int .i64 x)] w (fun v w' => v = .int .i64 (Zz aN s x) ∧ Ch [] w w') := by
 obtain ⟨m, n, q⟩ := e.val
 subst q
 have I := e.len
 have e := e.here (by decide)
 obtain ⟨g, h, k⟩ := a.val
 subst k
 have C := a.len
 have a := a.here (by decide)
 have b := b.here (by decide)
 have D := b.1
 have E := Ch.refl [] w
 have R := hv.2.2.1
 refine Yc (N := 17) (vs0 := [(.agg #[(.int .i64 aS), (.slice m aA.length n), (.slice g saN.length h)]), (.int .i64 s), (.int .i64 x)]) Try.func91 rfl rfl rfl ?_
 refine Zg fun K1 H1 => ?_
 refine Zc (Zk rfl rfl ?_)
 refine Xz rfl fun J W2 B C2 S => ?_
 have T := C2.size
 have E := E.trans C2
 have U := B.lt
 replace B : Blk W2 J 27 [(.int .i64 aS), (.slice m aA.length n), (.slice g saN.length h)] := B
 refine Za rfl rfl (Zd rfl) (Zf (Zb (H1 _ _ ?_)))
 refine Zg fun K3 H3 => ?_
 refine Zg fun K4 H4 => ?_
 refine Zc (Za rfl rfl (Ze rfl) (Za rfl rfl (Xi rfl rfl) (Zf (Zb (H4 _ _ ?_)))))
 refine Zp rfl (fun r => ?_) (fun r => ?_)
 ·have K := r
  have r := Yf r
  refine Zg fun K6 H6 => ?_
  refine Zc (Za rfl rfl (Zd rfl) (Zf (Zb (H6 _ _ ?_))))
  refine Zr (Zl ?_)
  exact Zi [_] ⟨rfl, trivial⟩ ⟨congrArg (Value.int .i64) (by first | exact Zkj (by omega) hx d o | exact Zdg (.inl (by omega))), E⟩
 have K := r
 have r := Ye r
 refine Zq ?_
 refine Zb (H3 _ _ ?_)
 refine Zg fun K7 H7 => ?_
 refine Zc (Za rfl rfl (Zh fa27_2 rfl) (Za rfl rfl (Zm B.at_ agg25 rfl rfl) (Za rfl rfl (Ze rfl) (Zk rfl rfl ?_))))
 have F8 := (a.ch0 C2)
 refine (Yo (j := s.toNat) F8 Sv.len el25 sz30 rfl rfl (by omega) (by omega) fun F G y t => ?_)
 have F9 := (b.ch0 C2)
 obtain ⟨i, d, c⟩ := F9.get y
 obtain ⟨z, L, A⟩ := G
 obtain rfl := c.eqn
 have M := c.len
 replace c : Ls ics 1 W2 LR_aN w.heap.size (.slice z i.length A) i := c
 replace t : At W2 LL_saN w.heap.size F ([(.slice z i.length A)]) := t
 have O := (Xo hv.2 d).1
 refine Za rfl rfl (Yg t agg30 rfl rfl) (Za rfl rfl (Ze rfl) (Zk rfl rfl ?_))
 refine (Yo (j := x.toNat) c Yh el30 sz3 rfl rfl (by omega) (by omega) fun P Q o H => ?_)
 refine Za rfl rfl (Yg H agg3 rfl rfl) (Za rfl rfl (Zd rfl) (Zf (Zb (H7 _ _ ?_))))
 refine Zr ?_
 exact Zi [_] ⟨rfl, trivial⟩ ⟨congrArg (Value.int .i64) (by first | exact Zkj (by omega) hx d o | exact Zdg (.inl (by omega))), E⟩

end Go.Proofs.Ytgnlfnkgkcmdjaa
