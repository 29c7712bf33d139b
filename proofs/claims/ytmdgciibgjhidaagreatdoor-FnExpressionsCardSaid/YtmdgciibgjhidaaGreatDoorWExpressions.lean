/- Walks of functions that FnExpressions reaches: what each returns, and that it leaves the memory that was there alone. -/
import Derived.Test.YtmdgciibgjhidaaGreatDoorLibA
import Derived.Test.YtmdgciibgjhidaaGreatDoorLibB
import Derived.Test.YtmdgciibgjhidaaGreatDoorProg
namespace Go.Proofs.YtmdgciibgjhidaaGreatDoor
open Go.KLib Go.Shelf
set_option maxHeartbeats 1000000
set_option maxRecDepth 20000
set_option linter.unusedVariables false
set_option linter.unusedSimpArgs false
namespace TExpressions
theorem agg22 : Yp Tryz.prog 22 = some false := by kernel_rfl
theorem agg24 : Yp Tryz.prog 24 = some false := by kernel_rfl
theorem agg26 : Yp Tryz.prog 26 = some true := by kernel_rfl
theorem agg3 : Yp Tryz.prog 3 = some false := by kernel_rfl
theorem agg39 : Yp Tryz.prog 39 = some false := by kernel_rfl
theorem agg42 : Yp Tryz.prog 42 = some true := by kernel_rfl
theorem agg43 : Yp Tryz.prog 43 = some false := by kernel_rfl
theorem agg5 : Yp Tryz.prog 5 = some false := by kernel_rfl
theorem agg9 : Yp Tryz.prog 9 = some false := by kernel_rfl
theorem by39 : Qz Tryz.prog 39 = some 8 := by kernel_rfl
theorem by42 : Qz Tryz.prog 42 = some 32 := by kernel_rfl
theorem by9 : Qz Tryz.prog 9 = some 16 := by kernel_rfl
theorem el22 : elB Tryz.prog 22 = some 5 := by kernel_rfl
theorem el24 : elB Tryz.prog 24 = some 42 := by kernel_rfl
theorem el43 : elB Tryz.prog 43 = some 39 := by kernel_rfl
theorem el52 : elB Tryz.prog 52 = some 9 := by kernel_rfl
theorem fa26_0 : faB Tryz.prog 26 0 = some 0 := by kernel_rfl
theorem fa42_0 : faB Tryz.prog 42 0 = some 0 := by kernel_rfl
theorem fa42_1 : faB Tryz.prog 42 1 = some 1 := by kernel_rfl
theorem fa42_2 : faB Tryz.prog 42 2 = some 2 := by kernel_rfl
theorem fa42_3 : faB Tryz.prog 42 3 = some 3 := by kernel_rfl
theorem fa45_0 : faB Tryz.prog 45 0 = some 0 := by kernel_rfl
theorem fa45_1 : faB Tryz.prog 45 1 = some 4 := by kernel_rfl
theorem fa60_0 : faB Tryz.prog 60 0 = some 0 := by kernel_rfl
theorem fa60_1 : faB Tryz.prog 60 1 = some 1 := by kernel_rfl
theorem fa60_2 : faB Tryz.prog 60 2 = some 2 := by kernel_rfl
theorem fk10 : fnB Tryz.prog 10 = true := by kernel_rfl
theorem fk11 : fnB Tryz.prog 11 = true := by kernel_rfl
theorem fk14 : fnB Tryz.prog 14 = true := by kernel_rfl
theorem fk18 : fnB Tryz.prog 18 = true := by kernel_rfl
theorem fk19 : fnB Tryz.prog 19 = true := by kernel_rfl
theorem fk20 : fnB Tryz.prog 20 = true := by kernel_rfl
theorem fk23 : fnB Tryz.prog 23 = true := by kernel_rfl
theorem fk24 : fnB Tryz.prog 24 = true := by kernel_rfl
theorem fk25 : fnB Tryz.prog 25 = true := by kernel_rfl
theorem fk26 : fnB Tryz.prog 26 = true := by kernel_rfl
theorem fk27 : fnB Tryz.prog 27 = true := by kernel_rfl
theorem fk28 : fnB Tryz.prog 28 = true := by kernel_rfl
theorem fk30 : fnB Tryz.prog 30 = true := by kernel_rfl
theorem fk32 : fnB Tryz.prog 32 = true := by kernel_rfl
theorem fk33 : fnB Tryz.prog 33 = true := by kernel_rfl
theorem fk34 : fnB Tryz.prog 34 = true := by kernel_rfl
theorem fk35 : fnB Tryz.prog 35 = true := by kernel_rfl
theorem fk36 : fnB Tryz.prog 36 = true := by kernel_rfl
theorem fk37 : fnB Tryz.prog 37 = true := by kernel_rfl
theorem fk38 : fnB Tryz.prog 38 = true := by kernel_rfl
theorem fk39 : fnB Tryz.prog 39 = true := by kernel_rfl
theorem fk40 : fnB Tryz.prog 40 = true := by kernel_rfl
theorem fk45 : fnB Tryz.prog 45 = true := by kernel_rfl
theorem fk46 : fnB Tryz.prog 46 = true := by kernel_rfl
theorem fk47 : fnB Tryz.prog 47 = true := by kernel_rfl
theorem fk48 : fnB Tryz.prog 48 = true := by kernel_rfl
theorem fk51 : fnB Tryz.prog 51 = true := by kernel_rfl
theorem fk52 : fnB Tryz.prog 52 = true := by kernel_rfl
theorem fk53 : fnB Tryz.prog 53 = true := by kernel_rfl
theorem fk54 : fnB Tryz.prog 54 = true := by kernel_rfl
theorem fk55 : fnB Tryz.prog 55 = true := by kernel_rfl
theorem fk69 : fnB Tryz.prog 69 = true := by kernel_rfl
theorem fk9 : fnB Tryz.prog 9 = true := by kernel_rfl
theorem ifc75 : ifB Tryz.prog 75 = true := by kernel_rfl
theorem ist42 : Zah Tryz.prog 42 4 = true := by kernel_rfl
theorem mixed : Tryz.prog.follows .mixedOrders = true := by kernel_rfl
theorem pl26 : Xb Tryz.prog 26 = some [(0, 1)] := by kernel_rfl
theorem pl42 : Xb Tryz.prog 42 = some [(0, 1), (1, 1), (2, 1), (3, 1)] := by kernel_rfl
theorem pl45 : Xb Tryz.prog 45 = some [(0, 4), (4, 1)] := by kernel_rfl
theorem pl60 : Xb Tryz.prog 60 = some [(0, 1), (1, 1), (2, 1)] := by kernel_rfl
theorem ptr39 : ptrB Tryz.prog 39 = true := by kernel_rfl
theorem sz24 : Zw Tryz.prog 24 = some 1 := by kernel_rfl
theorem sz26 : Zw Tryz.prog 26 = some 1 := by kernel_rfl
theorem sz3 : Zw Tryz.prog 3 = some 1 := by kernel_rfl
theorem sz39 : Zw Tryz.prog 39 = some 1 := by kernel_rfl
theorem sz42 : Zw Tryz.prog 42 = some 4 := by kernel_rfl
theorem sz43 : Zw Tryz.prog 43 = some 1 := by kernel_rfl
theorem sz5 : Zw Tryz.prog 5 = some 1 := by kernel_rfl
theorem sz9 : Zw Tryz.prog 9 = some 1 := by kernel_rfl
theorem un3 : Tryz.prog.underlying 3 = some (.int .i64) := by kernel_rfl
theorem un5 : Tryz.prog.underlying 5 = some (.int .u8) := by kernel_rfl
theorem un9 : Tryz.prog.underlying 9 = some (.string) := by kernel_rfl
theorem zr26 : Yr Tryz.prog 26 = some (.agg #[.slice none 0 0]) := by kernel_rfl
theorem zr39 : Yr Tryz.prog 39 = some (.pointer none) := by kernel_rfl
theorem zr42 : Yr Tryz.prog 42 = some (.agg #[.int .i64 0, .int .i64 0, .int .i64 0, .int .i64 0]) := by kernel_rfl
theorem zr45 : Yr Tryz.prog 45 = some (.agg #[.int .i64 0, .int .i64 0, .int .i64 0, .int .i64 0, .slice none 0 0]) := by kernel_rfl
theorem zr60 : Yr Tryz.prog 60 = some (.agg #[.slice none 0 0, .int .i64 0, .int .i64 0]) := by kernel_rfl
theorem zr9 : Yr Tryz.prog 9 = some (.string ⟨#[]⟩) := by kernel_rfl
end TExpressions
open TExpressions

/-- slices.Equal[[]impl.Token,impl.Token] -/
theorem Qp {w : World} {LL_a A : Nat} {p : Value} {a : List Token} (g : Ls Token.cs 4 w LL_a A p a) {LL_b B : Nat} {q : Value} {b : List Token} (h : Ls Token.cs 4 w LL_b B q b) :
 Ctr Tryz.prog 23 #[p, q] w (fun v w' => v = .bool (decide (a = b)) ∧ Ch [] w w') := by
 obtain ⟨r, s, t⟩ := g.val
 subst t
 have K := g.len
 have g := g.here (by decide)
 obtain ⟨u, x, y⟩ := h.val
 subst y
 have L := h.len
 have h := h.here (by decide)
 have E := Ch.refl [] w
 refine Zv (N := 26) (vs0 := [(.slice r a.length s), (.slice u b.length x)]) Tryz.func23 rfl rfl rfl ?_
 refine Zf fun K1 H1 => ?_
 refine Zc (Za rfl rfl (Ze rfl) (Zd (Zb (H1 _ _ ?_))))
 refine Zf fun K2 H2 => ?_
 refine Zf fun K3 H3 => ?_
 refine Zc (Za rfl rfl (Zg rfl) (Za rfl rfl (Xk (by rw [el24]; rfl) rfl) (Za rfl rfl (Zg rfl) (Za rfl rfl (Xk (by rw [el24]; rfl) rfl) (Za rfl rfl (Ql rfl rfl) (Zd (Zb (H3 _ _ ?_))))))))
 refine Zs rfl (fun d => ?_) (fun d => ?_)
 ·have M := d
  have d := Yc (Xv d)
  refine Zf fun K5 H5 => ?_
  refine Zc (Za rfl rfl (Ze rfl) (Zd (Zb (H5 _ _ ?_))))
  refine Zp (Zk ?_)
  exact Zh [_] ⟨rfl, trivial⟩ ⟨congrArg Value.bool (decide_eq_false (fun e => d (by rw [e]))).symm, E⟩
 have M := d
 have d := Yb (Xw d)
 refine Zu ?_
 refine Zb (H2 _ _ ?_)
 refine Zf fun K6 H6 => ?_
 refine Zf fun K7 H7 => ?_
 refine Zc (Za rfl rfl (Zg rfl) (Za rfl rfl (Xk (by rw [el24]; rfl) rfl) (Za rfl rfl (Zg rfl) (Zd (Zb (H7 _ _ ?_))))))
 refine Yj ?_
 refine Qf (σ := Nat) (fun (k : Nat) => [(0, (.slice r a.length s)), (1, (.slice u b.length x)), (12, (.int .i64 ((a.length : Nat) : Int))), (13, (.int .i64 ((k : Nat) : Int)))]) (fun (k : Nat) wx => Ch [] w wx ∧ w.heap.size ≤ wx.heap.size ∧ (k ≤ a.length) ∧ (a.take k = b.take k)) (fun (k : Nat) => a.length - k) 0 (sC4 rfl rfl rfl rfl (Sub.nil _)) ⟨E, (Nat.le_refl _), om, rfl⟩ ?_
 rintro k R8 ⟨E, O, aa, H⟩
 have o := E
 have I := o.size
 refine Zf fun K9 H9 => ?_
 refine Zc (Za rfl rfl (Qv rfl rfl) (Zd (Zb (H9 _ _ ?_))))
 refine Zf fun ab P => ?_
 refine Zs rfl (fun f => ?_) (fun f => ?_)
 ·have C := f
  have f := Yb f
  refine Zu ?_
  refine Zb (P _ _ ?_)
  refine Zf fun ac J => ?_
  refine Yj ?_
  refine Zf fun ad Q => ?_
  refine Zc (Za rfl rfl (Zg rfl) (Za rfl rfl (Ze rfl) (Zd (Zb (Q _ _ ?_)))))
  refine Zf fun ae R => ?_
  refine Xm [] 9 mixed rfl fun af z => ?_
  have S := z.size
  have E := E.trans z
  refine dV 0 rfl rfl rfl (fun _ => Zg rfl) (dV 1 rfl rfl rfl (fun _ => Zg rfl) ?_)
  have T := (g.ch0 o).ch0 z
  refine dT 2 rfl rfl rfl (Zcx T Token.len el24 sz42 rfl rfl rfl om fun U j m D => ?_)
  refine dT 3 rfl rfl rfl (Xj D (fun i hi => absurd hi List.not_mem_nil) agg42 sz42 rfl ?_)
  refine dV 4 rfl rfl rfl (fun _ => Zg rfl) (dV 5 rfl rfl rfl (fun _ => Zg rfl) ?_)
  have V := (h.ch0 o).ch0 z
  refine dT 6 rfl rfl rfl (Zcx V Token.len el24 sz42 rfl rfl rfl om fun X l n F => ?_)
  refine dT 7 rfl rfl rfl (Xj F (fun i hi => absurd hi List.not_mem_nil) agg42 sz42 rfl ?_)
  refine dV 8 rfl rfl rfl (fun _ => Zpa [j.kind, j.letter, j.low, j.high] [l.kind, l.letter, l.low, l.high] ist42 rfl rfl rfl) ?_
  refine Yo (by kernel_rfl) ?_
  refine Zb (R _ _ ?_)
  refine Zs rfl (fun c => ?_) (fun c => ?_)
  ·have G := c
   have c := Yc (Xv c)
   refine Zf fun ag Y => ?_
   refine Zc (Za rfl rfl (Ze rfl) (Zd (Zb (Y _ _ ?_))))
   refine Zp (Zt (Zk (Zk (Zt (Zk ?_)))))
   clear H6 J
   exact Zh [_] ⟨rfl, trivial⟩ ⟨congrArg Value.bool (decide_eq_false (Zke m n (fun e => c (by rw [e])))).symm, E⟩
  have G := c
  have c := Yb (Xw c)
  refine Zu ?_
  refine Yd (Zb (J _ _ (Zc (Za rfl rfl (Yy om rfl rfl) (Za rfl rfl (Zg rfl) (Zd ?_))))))
  exact Zb (Exists.intro (k + 1) ⟨⟨E, om, om, (Zgt H m n (Token.inj c))⟩, sC4 rfl rfl rfl rfl (Sub.nil _), (by first | omega | (dsimp only; omega))⟩)
 have C := f
 have f := Yc f
 refine Xu (Yh (Yh (Xd ?_)))
 refine Zb (H6 _ _ ?_)
 refine Zf fun ah Z => ?_
 refine Zc (Za rfl rfl (Ze rfl) (Zd (Zb (Z _ _ ?_))))
 refine Zp ?_
 exact Zh [_] ⟨rfl, trivial⟩ ⟨congrArg Value.bool (decide_eq_true (Zif H om om)).symm, E⟩

/-- impl.EqualExprs -/
theorem Xq {w : World} {LL_a o : Nat} {e : Value} {a : List Token} (c : Ls Token.cs 4 w LL_a o e a) {LL_b p : Nat} {f : Value} {b : List Token} (d : Ls Token.cs 4 w LL_b p f b) :
 Ctr Tryz.prog 8 #[(.agg #[e]), (.agg #[f])] w (fun v w' => v = .bool (decide (a = b)) ∧ Ch [] w w') := by
 obtain ⟨g, h, i⟩ := c.val
 subst i
 have q := c.len
 have c := c.here (by decide)
 obtain ⟨j, k, l⟩ := d.val
 subst l
 have r := d.len
 have d := d.here (by decide)
 have E := Ch.refl [] w
 refine Zv (N := 10) (vs0 := [(.agg #[(.slice g a.length h)]), (.agg #[(.slice j b.length k)])]) Tryz.func8 rfl rfl rfl ?_
 refine Zf fun K1 H1 => ?_
 refine Zc (Zl rfl rfl ?_)
 refine Qm rfl fun s W2 m C2 x => ?_
 have y := C2.size
 have E := E.trans C2
 have z := m.lt
 replace m : Blk W2 s 26 [(.slice g a.length h)] := m
 refine Zl rfl rfl ?_
 refine Qm rfl fun t W3 n C3 A => ?_
 have B := C3.size
 have E := E.trans C3
 have C := n.lt
 replace n : Blk W3 t 26 [(.slice j b.length k)] := n
 refine Za rfl rfl (Ze rfl) (Zd (Zb (H1 _ _ ?_)))
 refine Zf fun K4 H4 => ?_
 refine Zc (Za rfl rfl (Zi fa26_0 rfl) ?_)
 have F5 := m.ch0 C3
 refine Za rfl rfl (Zo F5.at_ agg24 rfl rfl) (Za rfl rfl (Zi fa26_0 rfl) (Za rfl rfl (Zo n.at_ agg24 rfl rfl) (Zl rfl rfl ?_)))
 have F6 := (c.ch0 C2).ch0 C3
 have F7 := (d.ch0 C2).ch0 C3
 refine Step.call (Zm (xs := [.tmp 6, .tmp 8]) fk23 rfl) (Qp F6 F7 ) fun D W8 u => ?_
 obtain ⟨rfl, C8⟩ := u
 have F := C8.size
 have E := E.trans C8
 refine Za rfl rfl (Ze rfl) (Zd (Zb (H4 _ _ ?_)))
 refine Zp ?_
 exact Zh [_] ⟨rfl, trivial⟩ ⟨congrArg Value.bool rfl, E⟩

/-- impl.within -/
theorem Qw {w : World} (n : Int) (a : Int) (b : Int) :
 Ctr Tryz.prog 53 #[(.int .i64 n), (.int .i64 a), (.int .i64 b)] w (fun v w' => v = .bool (decide (a ≤ n ∧ n ≤ b)) ∧ Ch [] w w') := by
 have E := Ch.refl [] w
 refine Zv (N := 15) (vs0 := [(.int .i64 n), (.int .i64 a), (.int .i64 b)]) Tryz.func53 rfl rfl rfl ?_
 refine Zf fun K1 H1 => ?_
 refine Zc (Za rfl rfl (Ze rfl) (Zd (Zb (H1 _ _ ?_))))
 refine Zf fun K2 H2 => ?_
 refine Zc (Za rfl rfl (Zg rfl) (Za rfl rfl (Zg rfl) (Za rfl rfl (Zom rfl rfl) (Za rfl rfl (Zg rfl) ?_))))
 refine Yi (d := 10) rfl (fun c => ?_) (fun c => ?_)
 ·have e := c
  have c := Yb c
  refine Za rfl rfl (Zg rfl) (Za rfl rfl (Zg rfl) (Za rfl rfl (Zfv rfl rfl) (Za rfl rfl (Ye rfl rfl) (Za rfl rfl (Ze rfl) (Zd (Zb (H2 _ _ ?_)))))))
  refine Zp ?_
  exact Zh [_] ⟨rfl, trivial⟩ ⟨congrArg Value.bool (by first | rfl | (rw [Bool.eq_iff_iff]; simp <;> omega) | (rw [Bool.eq_iff_iff]; simp_all; done) | simp_all), E⟩
 have e := c
 have c := Yc c
 refine Zj rfl rfl (Zj rfl rfl (Zj rfl rfl (Za rfl rfl (Ya rfl rfl) (Za rfl rfl (Ze rfl) (Zd (Zb (H2 _ _ ?_)))))))
 refine Zp ?_
 exact Zh [_] ⟨rfl, trivial⟩ ⟨congrArg Value.bool (by first | rfl | (rw [Bool.eq_iff_iff]; simp <;> omega) | (rw [Bool.eq_iff_iff]; simp_all; done) | simp_all), E⟩

/-- impl.isLetter -/
theorem Zbq {w : World} (n : Int) :
 Ctr Tryz.prog 52 #[(.int .i64 n)] w (fun v w' => v = .bool (decide (0 ≤ n ∧ n ≤ 8)) ∧ Ch [] w w') := by
 have E := Ch.refl [] w
 refine Zv (N := 5) (vs0 := [(.int .i64 n)]) Tryz.func52 rfl rfl rfl ?_
 refine Zf fun K1 H1 => ?_
 refine Zc (Za rfl rfl (Ze rfl) (Zd (Zb (H1 _ _ ?_))))
 refine Zf fun K2 H2 => ?_
 refine Zc (Za rfl rfl (Zg rfl) (Zl rfl rfl ?_))
 refine Step.call (Zm (xs := [.tmp 3, .const (Go.Value.int Go.IntKind.i64 0), .const (Go.Value.int Go.IntKind.i64 8)]) fk53 rfl) (Qw _ _ _ ) fun b W3 a => ?_
 obtain ⟨rfl, C3⟩ := a
 have c := C3.size
 have E := E.trans C3
 refine Za rfl rfl (Ze rfl) (Zd (Zb (H2 _ _ ?_)))
 refine Zp ?_
 exact Zh [_] ⟨rfl, trivial⟩ ⟨congrArg Value.bool rfl, E⟩

/-- impl.tokenOk -/
theorem Zew {w : World} (t : Token) :
 Ctr Tryz.prog 32 #[(.agg #[(.int .i64 t.kind), (.int .i64 t.letter), (.int .i64 t.low), (.int .i64 t.high)])] w (fun v w' => v = .bool (Zce t) ∧ Ch [] w w') := by
 have E := Ch.refl [] w
 refine Zv (N := 48) (vs0 := [(.agg #[(.int .i64 t.kind), (.int .i64 t.letter), (.int .i64 t.low), (.int .i64 t.high)])]) Tryz.func32 rfl rfl rfl ?_
 refine Zf fun K1 H1 => ?_
 refine Zc (Zl rfl rfl ?_)
 refine Qm rfl fun C W2 b C2 Z => ?_
 have aa := C2.size
 have E := E.trans C2
 have ab := b.lt
 replace b : Blk W2 C 42 [(.int .i64 t.kind), (.int .i64 t.letter), (.int .i64 t.low), (.int .i64 t.high)] := b
 refine Za rfl rfl (Ze rfl) (Zd (Zb (H1 _ _ ?_)))
 refine Zf fun K3 H3 => ?_
 refine Zf fun K4 H4 => ?_
 refine Zc (Za rfl rfl (Zi fa42_0 rfl) (Za rfl rfl (Zo b.at_ agg3 rfl rfl) (Zd (Zb (H4 _ _ ?_)))))
 refine Yj ?_
 refine Zf fun K5 H5 => ?_
 refine Zc (Za rfl rfl (Yn rfl rfl) (Za rfl rfl (Ze rfl) (Zd (Zb (H5 _ _ ?_)))))
 refine Zs rfl (fun i => ?_) (fun i => ?_)
 ·have D := i
  have i := Yb i
  refine Zf fun K7 H7 => ?_
  refine Zc (Za rfl rfl (Zi fa42_1 rfl) (Za rfl rfl (Zo b.at_ agg3 rfl rfl) (Zl rfl rfl ?_)))
  refine Step.call (Zm (xs := [.tmp 8]) fk52 rfl) (Zbq _ ) fun ac W8 F => ?_
  obtain ⟨rfl, C8⟩ := F
  have ad := C8.size
  have E := E.trans C8
  refine Za rfl rfl (Zg rfl) ?_
  refine Yi (d := 10) rfl (fun c => ?_) (fun c => ?_)
  ·have G := c
   have c := Yb c
   refine Za rfl rfl (Zi fa42_2 rfl) ?_
   have A := b.ch0 C8
   refine Za rfl rfl (Zo A.at_ agg3 rfl rfl) (Za rfl rfl (Yn rfl rfl) (Za rfl rfl (Ye rfl rfl) (Za rfl rfl (Zg rfl) ?_)))
   refine Yi (d := 15) rfl (fun e => ?_) (fun e => ?_)
   ·have o := e
    have e := Yb e
    refine Za rfl rfl (Zi fa42_3 rfl) (Za rfl rfl (Zo A.at_ agg3 rfl rfl) (Za rfl rfl (Yn rfl rfl) (Za rfl rfl (Ye rfl rfl) (Za rfl rfl (Ze rfl) (Zd (Zb (H7 _ _ ?_)))))))
    refine Zp (Zt (Zk ?_))
    exact Zh [_] ⟨rfl, trivial⟩ ⟨congrArg Value.bool (by rw [Bool.eq_iff_iff]; simp only [Zce, decide_eq_true_eq, Bool.false_eq_true, false_iff, true_iff, Bool.and_eq_true, List.cons.injEq, and_true, true_and, Int.not_le]; unfold arT; (repeat' split) <;> omega), E⟩
   have o := e
   have e := Yc e
   refine Zj rfl rfl (Zj rfl rfl (Zj rfl rfl (Za rfl rfl (Ya rfl rfl) (Za rfl rfl (Ze rfl) (Zd (Zb (H7 _ _ ?_)))))))
   refine Zp (Zt (Zk ?_))
   exact Zh [_] ⟨rfl, trivial⟩ ⟨congrArg Value.bool (by rw [Bool.eq_iff_iff]; simp only [Zce, decide_eq_true_eq, Bool.false_eq_true, false_iff, true_iff, Bool.and_eq_true, List.cons.injEq, and_true, true_and, Int.not_le]; unfold arT; (repeat' split) <;> omega), E⟩
  have G := c
  have c := Yc c
  refine Zj rfl rfl (Zj rfl rfl (Zj rfl rfl (Za rfl rfl (Ya rfl rfl) (Za rfl rfl (Zg rfl) (Zj rfl rfl (Zj rfl rfl (Zj rfl rfl ?_)))))))
  refine Za rfl rfl (Ya rfl rfl) (Za rfl rfl (Ze rfl) (Zd (Zb (H7 _ _ ?_))))
  refine Zp (Zt (Zk ?_))
  exact Zh [_] ⟨rfl, trivial⟩ ⟨congrArg Value.bool (by rw [Bool.eq_iff_iff]; simp only [Zce, decide_eq_true_eq, Bool.false_eq_true, false_iff, true_iff, Bool.and_eq_true, List.cons.injEq, and_true, true_and, Int.not_le]; unfold arT; (repeat' split) <;> omega), E⟩
 have D := i
 have i := Yc i
 refine Zf fun ae H => ?_
 refine Zc (Za rfl rfl (Yn rfl rfl) (Za rfl rfl (Ze rfl) (Zd (Zb (H _ _ ?_)))))
 refine Zs rfl (fun f => ?_) (fun f => ?_)
 ·have p := f
  have f := Yb f
  refine Zf fun af q => ?_
  refine Zc (Za rfl rfl (Zi fa42_1 rfl) (Za rfl rfl (Zo b.at_ agg3 rfl rfl) (Za rfl rfl (Yn rfl rfl) (Za rfl rfl (Zg rfl) ?_))))
  refine Yi (d := 25) rfl (fun g => ?_) (fun g => ?_)
  ·have r := g
   have g := Yb g
   refine Za rfl rfl (Zi fa42_2 rfl) (Za rfl rfl (Zo b.at_ agg3 rfl rfl) (Za rfl rfl (Zi fa42_3 rfl) (Za rfl rfl (Zo b.at_ agg3 rfl rfl) (Zl rfl rfl ?_))))
   refine Step.call (Zm (xs := [.tmp 27, .const (Go.Value.int Go.IntKind.i64 0), .tmp 29]) fk53 rfl) (Qw _ _ _ ) fun I ag s => ?_
   obtain ⟨rfl, u⟩ := s
   have J := u.size
   have E := E.trans u
   refine Za rfl rfl (Ye rfl rfl) (Za rfl rfl (Zg rfl) ?_)
   refine Yi (d := 32) rfl (fun h => ?_) (fun h => ?_)
   ·have x := h
    have h := Yb h
    refine Za rfl rfl (Zi fa42_3 rfl) ?_
    have K := b.ch0 u
    refine Za rfl rfl (Zo K.at_ agg3 rfl rfl) (Zl rfl rfl ?_)
    refine Step.call (Zm (xs := [.tmp 34, .const (Go.Value.int Go.IntKind.i64 1), .const (Go.Value.int Go.IntKind.i64 3)]) fk53 rfl) (Qw _ _ _ ) fun L ah y => ?_
    obtain ⟨rfl, B⟩ := y
    have M := B.size
    have E := E.trans B
    refine Za rfl rfl (Ye rfl rfl) (Za rfl rfl (Ze rfl) (Zd (Zb (q _ _ ?_))))
    refine Zp (Zt (Zk ?_))
    exact Zh [_] ⟨rfl, trivial⟩ ⟨congrArg Value.bool (by rw [Bool.eq_iff_iff]; simp only [Zce, decide_eq_true_eq, Bool.false_eq_true, false_iff, true_iff, Bool.and_eq_true, List.cons.injEq, and_true, true_and, Int.not_le]; unfold arT; (repeat' split) <;> omega), E⟩
   have x := h
   have h := Yc h
   refine Zj rfl rfl (Zj rfl rfl (Zj rfl rfl (Za rfl rfl (Ya rfl rfl) (Za rfl rfl (Ze rfl) (Zd (Zb (q _ _ ?_)))))))
   refine Zp (Zt (Zk ?_))
   exact Zh [_] ⟨rfl, trivial⟩ ⟨congrArg Value.bool (by rw [Bool.eq_iff_iff]; simp only [Zce, decide_eq_true_eq, Bool.false_eq_true, false_iff, true_iff, Bool.and_eq_true, List.cons.injEq, and_true, true_and, Int.not_le]; unfold arT; (repeat' split) <;> omega), E⟩
  have r := g
  have g := Yc g
  refine Zj rfl rfl (Zj rfl rfl (Zj rfl rfl (Zj rfl rfl (Zj rfl rfl (Za rfl rfl (Ya rfl rfl) (Za rfl rfl (Zg rfl) (Zj rfl rfl ?_)))))))
  refine Zj rfl rfl (Zj rfl rfl (Za rfl rfl (Ya rfl rfl) (Za rfl rfl (Ze rfl) (Zd (Zb (q _ _ ?_))))))
  refine Zp (Zt (Zk ?_))
  exact Zh [_] ⟨rfl, trivial⟩ ⟨congrArg Value.bool (by rw [Bool.eq_iff_iff]; simp only [Zce, decide_eq_true_eq, Bool.false_eq_true, false_iff, true_iff, Bool.and_eq_true, List.cons.injEq, and_true, true_and, Int.not_le]; unfold arT; (repeat' split) <;> omega), E⟩
 have p := f
 have f := Yc f
 refine Zf fun ai j => ?_
 refine Zf fun aj O => ?_
 refine Zc (Za rfl rfl (Yn rfl rfl) (Za rfl rfl (Ze rfl) (Zd (Zb (O _ _ ?_)))))
 refine Zs rfl (fun a => ?_) (fun a => ?_)
 ·have k := a
  have a := Yb a
  refine Zu ?_
  refine Zb (j _ _ ?_)
  refine Qr rfl k ?_
  refine Zf fun ak P => ?_
  refine Zc (Za rfl rfl (Zr b.at_ agg42 sz42 rfl) (Za rfl rfl (Zi fa42_0 rfl) (Za rfl rfl (Zo b.at_ agg3 rfl rfl) (Za rfl rfl (Zz (parts := [(0, .tmp 45)]) (cells := [(.int .i64 t.kind), (.int .i64 0), (.int .i64 0), (.int .i64 0)]) zr42 pl42 rfl rfl) (Za rfl rfl (Zgf [t.kind, t.letter, t.low, t.high] [t.kind, 0, 0, 0] ist42 rfl rfl rfl) (Za rfl rfl (Ze rfl) (Zd ?_)))))))
  refine Zb (P _ _ ?_)
  refine Zp (Zt (Zk ?_))
  exact Zh [_] ⟨rfl, trivial⟩ ⟨congrArg Value.bool (by rw [Bool.eq_iff_iff]; simp only [Zce, decide_eq_true_eq, Bool.false_eq_true, false_iff, true_iff, Bool.and_eq_true, List.cons.injEq, and_true, true_and, Int.not_le]; unfold arT; (repeat' split) <;> omega), E⟩
 have k := a
 have a := Yc a
 refine Zf fun al Q => ?_
 refine Zc (Za rfl rfl (Yn rfl rfl) (Za rfl rfl (Ze rfl) (Zd (Zb (Q _ _ ?_)))))
 refine Zs rfl (fun a => ?_) (fun a => ?_)
 ·have l := a
  have a := Yb a
  refine Zu ?_
  refine Zb (j _ _ ?_)
  refine Qr rfl l ?_
  refine Zf fun am R => ?_
  refine Zc (Za rfl rfl (Zr b.at_ agg42 sz42 rfl) (Za rfl rfl (Zi fa42_0 rfl) (Za rfl rfl (Zo b.at_ agg3 rfl rfl) (Za rfl rfl (Zz (parts := [(0, .tmp 45)]) (cells := [(.int .i64 t.kind), (.int .i64 0), (.int .i64 0), (.int .i64 0)]) zr42 pl42 rfl rfl) (Za rfl rfl (Zgf [t.kind, t.letter, t.low, t.high] [t.kind, 0, 0, 0] ist42 rfl rfl rfl) (Za rfl rfl (Ze rfl) (Zd ?_)))))))
  refine Zb (R _ _ ?_)
  refine Zp (Zt (Zk ?_))
  exact Zh [_] ⟨rfl, trivial⟩ ⟨congrArg Value.bool (by rw [Bool.eq_iff_iff]; simp only [Zce, decide_eq_true_eq, Bool.false_eq_true, false_iff, true_iff, Bool.and_eq_true, List.cons.injEq, and_true, true_and, Int.not_le]; unfold arT; (repeat' split) <;> omega), E⟩
 have l := a
 have a := Yc a
 refine Zf fun an S => ?_
 refine Zc (Za rfl rfl (Yn rfl rfl) (Za rfl rfl (Ze rfl) (Zd (Zb (S _ _ ?_)))))
 refine Zs rfl (fun a => ?_) (fun a => ?_)
 ·have m := a
  have a := Yb a
  refine Zu ?_
  refine Zb (j _ _ ?_)
  refine Qr rfl m ?_
  refine Zf fun ao T => ?_
  refine Zc (Za rfl rfl (Zr b.at_ agg42 sz42 rfl) (Za rfl rfl (Zi fa42_0 rfl) (Za rfl rfl (Zo b.at_ agg3 rfl rfl) (Za rfl rfl (Zz (parts := [(0, .tmp 45)]) (cells := [(.int .i64 t.kind), (.int .i64 0), (.int .i64 0), (.int .i64 0)]) zr42 pl42 rfl rfl) (Za rfl rfl (Zgf [t.kind, t.letter, t.low, t.high] [t.kind, 0, 0, 0] ist42 rfl rfl rfl) (Za rfl rfl (Ze rfl) (Zd ?_)))))))
  refine Zb (T _ _ ?_)
  refine Zp (Zt (Zk ?_))
  exact Zh [_] ⟨rfl, trivial⟩ ⟨congrArg Value.bool (by rw [Bool.eq_iff_iff]; simp only [Zce, decide_eq_true_eq, Bool.false_eq_true, false_iff, true_iff, Bool.and_eq_true, List.cons.injEq, and_true, true_and, Int.not_le]; unfold arT; (repeat' split) <;> omega), E⟩
 have m := a
 have a := Yc a
 refine Zf fun ap U => ?_
 refine Zc (Za rfl rfl (Yn rfl rfl) (Za rfl rfl (Ze rfl) (Zd (Zb (U _ _ ?_)))))
 refine Zs rfl (fun a => ?_) (fun a => ?_)
 ·have n := a
  have a := Yb a
  refine Zu ?_
  refine Zb (j _ _ ?_)
  refine Qr rfl n ?_
  refine Zf fun aq V => ?_
  refine Zc (Za rfl rfl (Zr b.at_ agg42 sz42 rfl) (Za rfl rfl (Zi fa42_0 rfl) (Za rfl rfl (Zo b.at_ agg3 rfl rfl) (Za rfl rfl (Zz (parts := [(0, .tmp 45)]) (cells := [(.int .i64 t.kind), (.int .i64 0), (.int .i64 0), (.int .i64 0)]) zr42 pl42 rfl rfl) (Za rfl rfl (Zgf [t.kind, t.letter, t.low, t.high] [t.kind, 0, 0, 0] ist42 rfl rfl rfl) (Za rfl rfl (Ze rfl) (Zd ?_)))))))
  refine Zb (V _ _ ?_)
  refine Zp (Zt (Zk ?_))
  exact Zh [_] ⟨rfl, trivial⟩ ⟨congrArg Value.bool (by rw [Bool.eq_iff_iff]; simp only [Zce, decide_eq_true_eq, Bool.false_eq_true, false_iff, true_iff, Bool.and_eq_true, List.cons.injEq, and_true, true_and, Int.not_le]; unfold arT; (repeat' split) <;> omega), E⟩
 have n := a
 have a := Yc a
 refine Zc (Za rfl rfl (Yn rfl rfl) (Za rfl rfl (Ze rfl) (Zd (Zb (j _ _ ?_)))))
 refine Zs rfl (fun a => ?_) (fun a => ?_)
 ·have z := a
  have a := Yb a
  refine Zf fun au X => ?_
  refine Zc (Za rfl rfl (Zr b.at_ agg42 sz42 rfl) (Za rfl rfl (Zi fa42_0 rfl) (Za rfl rfl (Zo b.at_ agg3 rfl rfl) (Za rfl rfl (Zz (parts := [(0, .tmp 45)]) (cells := [(.int .i64 t.kind), (.int .i64 0), (.int .i64 0), (.int .i64 0)]) zr42 pl42 rfl rfl) (Za rfl rfl (Zgf [t.kind, t.letter, t.low, t.high] [t.kind, 0, 0, 0] ist42 rfl rfl rfl) (Za rfl rfl (Ze rfl) (Zd ?_)))))))
  refine Zb (X _ _ ?_)
  refine Zp (Zt (Zk ?_))
  exact Zh [_] ⟨rfl, trivial⟩ ⟨congrArg Value.bool (by rw [Bool.eq_iff_iff]; simp only [Zce, decide_eq_true_eq, Bool.false_eq_true, false_iff, true_iff, Bool.and_eq_true, List.cons.injEq, and_true, true_and, Int.not_le]; unfold arT; (repeat' split) <;> omega), E⟩
 have z := a
 have a := Yc a
 refine Zu ?_
 refine Yd (Zb (H3 _ _ ?_))
 refine Zf fun av Y => ?_
 refine Zc (Za rfl rfl (Ze rfl) (Zd (Zb (Y _ _ ?_))))
 refine Zp ?_
 exact Zh [_] ⟨rfl, trivial⟩ ⟨congrArg Value.bool (by rw [Bool.eq_iff_iff]; simp only [Zce, decide_eq_true_eq, Bool.false_eq_true, false_iff, true_iff, Bool.and_eq_true, List.cons.injEq, and_true, true_and, Int.not_le]; unfold arT; (repeat' split) <;> omega), E⟩

/-- slices.Clone[[]*impl.tree,*impl.tree] -/
theorem Qy {w : World} {LL_s j : Nat} {b : Value} {s : List Addr} (a : Ls acs 1 w LL_s j b s) (hb : s.length ≤ 1048576) :
 Ctr Tryz.prog 33 #[b] w (fun v w' => Ol acs 39 1 w' v (s) ∧ Lo w.heap.size v ∧ Ch [] w w') := by
 obtain ⟨l, m, c⟩ := a.val
 subst c
 have x := a.len
 have a := a.here (by decide)
 have E := Ch.refl [] w
 refine Zv (N := 8) (vs0 := [(.slice l s.length m)]) Tryz.func33 rfl rfl rfl ?_
 refine Zf fun K1 H1 => ?_
 refine Zc (Za rfl rfl (Ze rfl) (Zd (Zb (H1 _ _ ?_))))
 refine Zf fun K2 H2 => ?_
 refine Zf fun K3 H3 => ?_
 refine Zc (Za rfl rfl (Zg rfl) (Za rfl rfl (Zno (by rw [el43]; rfl) rfl rfl) (Zd (Zb (H3 _ _ ?_)))))
 refine Zs rfl (fun d => ?_) (fun d => ?_)
 ·have y := d
  refine Zf fun K5 H5 => ?_
  refine Zc (Za rfl rfl (Ze rfl) (Zd (Zb (H5 _ _ ?_))))
  refine Zp (Zk ?_)
  have n : Ol acs 39 1 w (.slice none 0 0) (s) := by
   have hx := Ol.nil (cs := acs) (e := 39) (k := 1) w
   first | (have hn := Ls.none a d; subst hn; exact hx) | exact hx
  exact Zh [_] ⟨rfl, trivial⟩ ⟨n, Lo.nil _, E⟩
 have y := d
 refine Zu ?_
 refine Zb (H2 _ _ ?_)
 refine Zf fun K7 H7 => ?_
 refine Zc (Zl rfl rfl ?_)
 refine Qq (k := 1) acs el43 sz39 fun H W8 r f C8 => ?_
 have I := C8.size
 have E := E.trans C8
 obtain ⟨z, A, rfl, B, t⟩ := r.opn
 refine Za rfl rfl (Zg rfl) (Zl rfl rfl ?_)
 have C := a.ch0 C8
 refine Yt (cs := acs) el43 sz39 by39 zr39 rfl (by decide) Zbl r C rfl rfl bd bd f om fun D W9 h o F C9 => ?_
 have J := C9.size
 have E := E.step C9 (fun i hi => .inl (by have K := f _ hi; omega))
 replace h : Ol acs 39 1 W9 D s := h
 obtain ⟨p, q, rfl, G, u⟩ := h.opn
 refine Za rfl rfl (Ze rfl) (Zd (Zb (H7 _ _ ?_)))
 refine Zp ?_
 have g : Ol acs 39 1 W9 (.slice p (s).length q) (s) := by
  have hx := h
  first | (have hn := Ls.none a d; subst hn; exact hx) | exact hx
 exact Zh [_] ⟨rfl, trivial⟩ ⟨g, Lo.down o om, E⟩

/-- impl.treeOf -/
theorem Zba {w : World} {LL_e ao : Nat} {O : Value} {e : List Token} (u : Ls Token.cs 4 w LL_e ao O e) (hb : e.length ≤ 1048576) :
 Ctr Tryz.prog 18 #[(.agg #[O])] w (fun v w' => ((Xf e) = none ∧ v = .pointer none ∨ ∃ t p, (Xf e) = some t ∧ v = .pointer (some p) ∧ TrAt w' w.heap.size w'.heap.size p t) ∧ Ch [] w w') := by
 obtain ⟨z, A, P⟩ := u.val
 subst P
 have a6 := u.len
 have u := u.here (by decide)
 have E := Ch.refl [] w
 refine Zv (N := 56) (vs0 := [(.agg #[(.slice z e.length A)])]) Tryz.func18 rfl rfl rfl ?_
 refine Zf fun K1 H1 => ?_
 refine Zc (Zl rfl rfl ?_)
 refine Qm rfl fun a7 W2 ak C2 b4 => ?_
 have b5 := C2.size
 have E := E.trans C2
 have b6 := ak.lt
 replace ak : Blk W2 a7 26 [(.slice z e.length A)] := ak
 refine Za rfl rfl (Ze rfl) (Zd (Zb (H1 _ _ ?_)))
 refine Zf fun K3 H3 => ?_
 refine Zc (Zl rfl rfl ?_)
 refine Qq (k := 1) acs el43 sz39 fun b7 W4 aL ap C4 => ?_
 have b8 := C4.size
 have E := E.trans C4
 obtain ⟨Q, R, rfl, a8, aM⟩ := aL.opn
 refine Za rfl rfl (Ze rfl) (Zd (Zb (H3 _ _ ?_)))
 refine Zf fun K5 H5 => ?_
 refine Zf fun K6 H6 => ?_
 refine Zc (Za rfl rfl (Zi fa26_0 rfl) ?_)
 have F7 := ak.ch0 C4
 refine Za rfl rfl (Zo F7.at_ agg24 rfl rfl) (Za rfl rfl (Xk (by rw [el24]; rfl) rfl) (Za rfl rfl (Zg rfl) (Zd (Zb (H6 _ _ ?_)))))
 refine Yj ?_
 have S : Ol acs 39 1 W4 (.slice Q (([] : List Addr)).length R) (([] : List Addr)) := by
  have hx := aL
  exact hx
 refine Qf (σ := Nat × List Addr × List Tr × Value) (fun ⟨i, ps, st, sv⟩ => [(3, sv), (11, (.slice z e.length A)), (12, (.int .i64 ((e.length : Nat) : Int))), (13, (.int .i64 ((i : Nat) : Int)))]) (fun ⟨i, ps, st, sv⟩ wx => Ch [] w wx ∧ W4.heap.size ≤ wx.heap.size ∧ (i ≤ e.length) ∧ (ps.length = st.length) ∧ (st.length ≤ i) ∧ (prs [] (e.take i) = some st) ∧ Ol acs 39 1 wx sv ps ∧ Lo W2.heap.size sv ∧ Tks wx w.heap.size sv ps st) (fun ⟨i, ps, st, sv⟩ => e.length - i) (0, ([] : List Addr), ([] : List Tr), (.slice Q (([] : List Addr)).length R)) (sC4 rfl rfl rfl rfl (Sub.nil _)) ⟨E, (Nat.le_refl _), om, rfl, (Nat.le_refl _), rfl, S, ap, (Tks.nil _ _ _)⟩ ?_
 rintro ⟨i, ps, st, sv⟩ R9 ⟨E, a9, hi, hl, hs, hp, x, m, tks⟩
 have T := E
 have aN := T.size
 obtain ⟨Asv, Csv, rfl, lsv, hisv⟩ := x.opn
 refine Zf fun b9 ba => ?_
 refine Zc (Za rfl rfl (Qv rfl rfl) (Zd (Zb (ba _ _ ?_))))
 refine Zf fun ca aO => ?_
 refine Zs rfl (fun n => ?_) (fun n => ?_)
 ·have aq := n
  have n := Yb n
  refine Zu ?_
  refine Zb (aO _ _ ?_)
  refine Zf fun cb au => ?_
  refine Yj ?_
  refine Zf fun cc bb => ?_
  refine Zc (Zl rfl rfl ?_)
  have bc := u.ch0 T
  refine (Xc bc Token.len el24 sz42 rfl rfl rfl om fun av a r aw => ?_)
  have cd := Znz a.kind
  refine Za rfl rfl (Zr aw agg42 sz42 rfl) (Zl rfl rfl ?_)
  refine Yl zr42 fun ax be al am ce => ?_
  have bf := am.size
  have E := E.trans am
  have cf := al.lt
  replace al : Blk be ax 42 [(.int .i64 0), (.int .i64 0), (.int .i64 0), (.int .i64 0)] := al
  refine Zl rfl rfl ?_
  refine Zq (off := 0) 4 al sz42 rfl (us := [(.int .i64 a.kind), (.int .i64 a.letter), (.int .i64 a.low), (.int .i64 a.high)]) rfl rfl rfl rfl fun aP h an => ?_
  have bg := an.size
  have E := E.step an (lS om)
  replace h : Blk aP ax 42 [(.int .i64 a.kind), (.int .i64 a.letter), (.int .i64 a.low), (.int .i64 a.high)] := h
  refine Zd (Zb (bb _ _ ?_))
  refine Zf fun cg bh => ?_
  refine Zc (Za rfl rfl (Ze rfl) (Zd (Zb (bh _ _ ?_))))
  refine Zf fun bi bj => ?_
  have l : ∀ (lj : KL), Go.KLib.Sub [(3, (.slice Asv (ps).length Csv)), (5, (.pointer (some ⟨ax, 0, none⟩))), (6, (.int .i64 (arK a.kind))), (11, (.slice z e.length A)), (12, (.int .i64 ((e.length : Nat) : Int))), (13, (.int .i64 ((i : Nat) : Int))), (14, (.bool (decide (((i : Nat) : Int) < ((e.length : Nat) : Int))))), (15, (.pointer (some av))), (16, (.agg #[(.int .i64 a.kind), (.int .i64 a.letter), (.int .i64 a.low), (.int .i64 a.high)]))] lj → bi lj aP := by
   intro lj U
   refine bj _ _ (Zoh U ?_)
   refine Zf fun ci bk => ?_
   refine Zc (Za rfl rfl (Zg rfl) (Za rfl rfl (Xk (by rw [el43]; rfl) rfl) (Za rfl rfl (Zg rfl) (Za rfl rfl (Qg om rfl rfl) (Za rfl rfl (Ze rfl) (Zd (Zb (bk _ _ ?_))))))))
   refine Zf fun cj ay => ?_
   refine Zf fun ck aQ => ?_
   refine Zc (Za rfl rfl (Zr h.at_ agg42 sz42 rfl) (Zl rfl rfl ?_))
   refine Step.call (Zm (xs := [.tmp 29]) fk32 rfl) (Zew a ) fun bm cl az => ?_
   obtain ⟨rfl, V⟩ := az
   have bn := V.size
   have E := E.trans V
   refine Za rfl rfl (Zav rfl) (Za rfl rfl (Zg rfl) ?_)
   refine Yi (d := 32) rfl (fun f => ?_) (fun f => ?_)
   ·have aA := f
    have f := Xv f
    refine Zj rfl rfl (Zj rfl rfl (Za rfl rfl (Ye rfl rfl) (Zd (Zb (aQ _ _ ?_)))))
    refine Yz rfl ?_
    refine Zf fun cm bp => ?_
    refine Zc (Za rfl rfl (Ze rfl) (Zd (Zb (bp _ _ ?_))))
    refine Zp (Zk (Zt (Zk (Zk (Zt (Zk ?_))))))
    clear H5 au ay
    exact Zh [_] ⟨rfl, trivial⟩ ⟨.inl ⟨(by first | exact Zda hp om om | exact Zey hp r (Zfg (by first | exact .inl f | (right; omega)))), rfl⟩, E⟩
   have aA := f
   have f := Xw f
   refine Za rfl rfl (Zg rfl) (Za rfl rfl (Qv rfl rfl) (Za rfl rfl (Ya rfl rfl) (Zd (Zb (aQ _ _ ?_)))))
   refine Zs rfl (fun o => ?_) (fun o => ?_)
   ·have aB := o
    have o := Yb o
    refine Zf fun cn bq => ?_
    refine Zc (Za rfl rfl (Ze rfl) (Zd (Zb (bq _ _ ?_))))
    refine Zp (Zk (Zt (Zk (Zk (Zt (Zk ?_))))))
    clear H5 au ay
    exact Zh [_] ⟨rfl, trivial⟩ ⟨.inl ⟨(by first | exact Zda hp om om | exact Zey hp r (Zfg (by first | exact .inl f | (right; omega)))), rfl⟩, E⟩
   have aB := o
   have o := Yc o
   refine Zu ?_
   refine Zb (ay _ _ ?_)
   refine Zf fun co br => ?_
   refine Xm [] 8 mixed rfl fun aR X => ?_
   have bs := X.size
   have E := E.trans X
   have bu := (h.ch0 V).ch0 X
   refine dT 0 rfl rfl rfl (Xj bu.at_ (fun i hi => absurd hi List.not_mem_nil) agg42 sz42 rfl ?_)
   refine dV 1 rfl rfl rfl (fun _ => Zg rfl) (dV 2 rfl rfl rfl (fun _ => Zg rfl) ?_)
   have aS := (((x.ch0 am).ch an (dS m hisv om)).ch0 V).ch0 X
   refine dT 3 rfl rfl rfl (Zpk (ys := (ps.drop ((((ps.length : Nat) : Int) - (arK a.kind)).toNat))) ((((ps.length : Nat) : Int) - (arK a.kind)).toNat) ps.length aS Yw el43 sz39 rfl ⟨_, _, rfl, by omega⟩ rfl om om (Zji _ _) fun bv Y aT aU => ?_)
   obtain ⟨bw, bx, rfl, bz, bA⟩ := Y.opn
   refine dO 4 (Yf rfl rfl rfl ?_)
   refine Step.call (Zm (xs := [.tmp 39]) fk33 rfl) (Qy Y.ls om) fun bB bC B => ?_
   obtain ⟨B, Z, aa⟩ := B
   have bD := aa.size
   have E := E.trans aa
   obtain ⟨D, F, rfl, aV, aC⟩ := B.opn
   have G : Ch [] aR bC := ((Ch.refl _ _).trans aa)
   refine ⟨G, ?_⟩
   refine dV 5 rfl rfl rfl (fun _ => Zz (parts := [(0, .tmp 36), (1, .tmp 40)]) (cells := [(.int .i64 a.kind), (.int .i64 a.letter), (.int .i64 a.low), (.int .i64 a.high), (.slice D ((ps.drop ((((ps.length : Nat) : Int) - (arK a.kind)).toNat))).length F)]) zr45 pl45 rfl rfl) (dO 6 (Yf rfl rfl rfl ?_))
   refine Qm rfl fun s aW C L bE => ?_
   have bF := L.size
   have E := E.trans L
   have bG := C.lt
   replace C : Blk aW s 45 [(.int .i64 a.kind), (.int .i64 a.letter), (.int .i64 a.low), (.int .i64 a.high), (.slice D ((ps.drop ((((ps.length : Nat) : Int) - (arK a.kind)).toNat))).length F)] := C
   have ab : Ch [] aR aW := (G.trans L)
   refine ⟨ab, ?_⟩
   refine dV 7 rfl rfl rfl (fun _ => Ze rfl) ?_
   refine Yo (by kernel_rfl) ?_
   refine Zb (br _ _ (Zc (Za rfl rfl (Zg rfl) (Za rfl rfl (Zg rfl) (Zl rfl rfl ?_)))))
   have bH := (aS.ch0 aa).ch0 L
   refine (Zmm (ys := (ps.take ((((ps.length : Nat) : Int) - (arK a.kind)).toNat))) 0 ((((ps.length : Nat) : Int) - (arK a.kind)).toNat) bH Yw el43 sz39 rfl rfl ⟨_, _, rfl, by omega⟩ om om rfl fun bI ac y aX => ?_)
   obtain ⟨bJ, bK, rfl, bL, bM⟩ := ac.opn
   refine Za rfl rfl (Zg rfl) (Zl rfl rfl ?_)
   refine Xs (parts := [(0, .tmp 46)]) [(⟨s, 0, none⟩ : Addr)] el43 sz39 zr39 rfl rfl (by decide) (by decide) rfl fun bN cp ad aY M => ?_
   have bO := M.size
   have E := E.trans M
   obtain ⟨aZ, a0, rfl, a1, aD⟩ := ad.opn
   refine Zl rfl rfl ?_
   have bP := ac.ch0 M
   refine Yt (cs := acs) el43 sz39 by39 zr39 rfl (by decide) Zbl bP ad.ls rfl rfl bd bd (fun g hg => m g (y ▸ hg)) om fun bQ bR ae af ag aE => ?_
   have bS := aE.size
   have E := E.step aE (fun i hi => .inl (by have bT := (fun g hg => m g (y ▸ hg)) _ hi; omega))
   obtain ⟨H, I, rfl, a2, aF⟩ := ae.opn
   refine Za rfl rfl (Ze rfl) (Zd (Yd (Zb (au _ _ (Zc (Za rfl rfl (Yy om rfl rfl) (Za rfl rfl (Zg rfl) (Zd ?_))))))))
   have bU := C.ch0 M
   have bV := (B.ch0 L).ch0 M
   obtain ⟨s2, bW, k2, j2⟩ := Tks.push (tok := a) tks om hisv ((((((((Ch.refl [] R9).trans am).step an (lS om)).trans V).trans X).trans aa).trans L).trans M) bU om bV (fun g hg => by have bT := Z g hg; omega) y aE ag (Yb f) om
   have J : Ol acs 39 1 bR (.slice H (((ps.take ((((ps.length : Nat) : Int) - (arK a.kind)).toNat)) ++ [(⟨s, 0, none⟩ : Addr)])).length I) (((ps.take ((((ps.length : Nat) : Int) - (arK a.kind)).toNat)) ++ [(⟨s, 0, none⟩ : Addr)])) := by
    have hx := ae
    exact hx
   exact Zb (Exists.intro ((i + 1), ((ps.take ((((ps.length : Nat) : Int) - (arK a.kind)).toNat)) ++ [(⟨s, 0, none⟩ : Addr)]), s2, (.slice H (((ps.take ((((ps.length : Nat) : Int) - (arK a.kind)).toNat)) ++ [(⟨s, 0, none⟩ : Addr)])).length I)) ⟨⟨E, om, om, (by simp only [List.length_append, List.length_take, List.length_singleton]; omega), om, ((Zfi hp r).trans bW), J, (Lo.down af om), k2⟩, sC4 rfl rfl rfl rfl (Sub.nil _), (by first | omega | (dsimp only; omega))⟩)
  refine Zf fun cq bX => ?_
  refine Zc (Za rfl rfl (Zi fa42_0 rfl) (Za rfl rfl (Zo h.at_ agg3 rfl rfl) (Zd (Zb (bX _ _ ?_)))))
  refine Yj ?_
  refine Zf fun cr a3 => ?_
  refine Zf fun ct bY => ?_
  refine Zc (Za rfl rfl (Yn rfl rfl) (Za rfl rfl (Ze rfl) (Zd (Zb (bY _ _ ?_)))))
  refine Zs rfl (fun b => ?_) (fun b => ?_)
  ·have ah := b
   have b := Yb b
   refine Zu ?_
   refine Zb (a3 _ _ ?_)
   refine Qr rfl ah ?_
   refine Zc (Za rfl rfl (Ze rfl) (Zd (Yd (Zb ?_))))
   exact l _ (Sub.cons rfl (Sub.cons rfl (Sub.cons (by unfold arK; first | rfl | (repeat (first | rw [if_pos om] | rw [if_neg om])) <;> rfl) (sC4 rfl rfl rfl rfl (sC2 rfl rfl (Sub.nil _))))))
  have ah := b
  have b := Yc b
  refine Zc (Za rfl rfl (Yn rfl rfl) (Za rfl rfl (Ze rfl) (Zd (Zb (a3 _ _ ?_)))))
  refine Zs rfl (fun b => ?_) (fun b => ?_)
  ·have aG := b
   have b := Yb b
   refine Zc (Za rfl rfl (Ze rfl) (Zd (Yd (Zb ?_))))
   exact l _ (Sub.cons rfl (Sub.cons rfl (Sub.cons (by unfold arK; first | rfl | (repeat (first | rw [if_pos om] | rw [if_neg om])) <;> rfl) (sC4 rfl rfl rfl rfl (sC2 rfl rfl (Sub.nil _))))))
  have aG := b
  have b := Yc b
  refine Zf fun cu a4 => ?_
  refine Zf fun cv bZ => ?_
  refine Zc (Za rfl rfl (Yn rfl rfl) (Za rfl rfl (Ze rfl) (Zd (Zb (bZ _ _ ?_)))))
  refine Zs rfl (fun c => ?_) (fun c => ?_)
  ·have ai := c
   have c := Yb c
   refine Zu ?_
   refine Zb (a4 _ _ ?_)
   refine Qr rfl ai ?_
   refine Zc (Za rfl rfl (Ze rfl) (Zd (Yd (Zb ?_))))
   exact l _ (Sub.cons rfl (Sub.cons rfl (Sub.cons (by unfold arK; first | rfl | (repeat (first | rw [if_pos om] | rw [if_neg om])) <;> rfl) (sC4 rfl rfl rfl rfl (sC2 rfl rfl (Sub.nil _))))))
  have ai := c
  have c := Yc c
  refine Zc (Za rfl rfl (Yn rfl rfl) (Za rfl rfl (Ze rfl) (Zd (Zb (a4 _ _ ?_)))))
  refine Zs rfl (fun c => ?_) (fun c => ?_)
  ·have aH := c
   have c := Yb c
   refine Zc (Za rfl rfl (Ze rfl) (Zd (Yd (Zb ?_))))
   exact l _ (Sub.cons rfl (Sub.cons rfl (Sub.cons (by unfold arK; first | rfl | (repeat (first | rw [if_pos om] | rw [if_neg om])) <;> rfl) (sC4 rfl rfl rfl rfl (sC2 rfl rfl (Sub.nil _))))))
  have aH := c
  have c := Yc c
  refine Zu ?_
  refine Yd (Zb ?_)
  exact l _ (Sub.cons rfl (Sub.cons rfl (Sub.cons (by unfold arK; first | rfl | (repeat (first | rw [if_pos om] | rw [if_neg om])) <;> rfl) (sC4 rfl rfl rfl rfl (sC2 rfl rfl (Sub.nil _))))))
 have aq := n
 have n := Yc n
 refine Xu (Yh (Yh (Xd ?_)))
 refine Zb (H5 _ _ ?_)
 refine Zf fun cw a5 => ?_
 refine Zf fun cx b0 => ?_
 refine Zc (Za rfl rfl (Zg rfl) (Za rfl rfl (Xk (by rw [el43]; rfl) rfl) (Za rfl rfl (Ql rfl rfl) (Zd (Zb (b0 _ _ ?_))))))
 refine Zs rfl (fun q => ?_) (fun q => ?_)
 ·have aI := q
  have q := Yc (Xv q)
  refine Zf fun cy b1 => ?_
  refine Zc (Za rfl rfl (Ze rfl) (Zd (Zb (b1 _ _ ?_))))
  refine Zp (Zk ?_)
  clear aO a5
  exact Zh [_] ⟨rfl, trivial⟩ ⟨.inl ⟨(by first | exact Zda hp om om | exact Zey hp r (Zfg (by first | exact .inl f | (right; omega)))), rfl⟩, E⟩
 have aI := q
 have q := Yb (Xw q)
 refine Zu ?_
 refine Zb (a5 _ _ ?_)
 refine Zf fun cz b2 => ?_
 refine Zc (Za rfl rfl (Zg rfl) (Zl rfl rfl ?_))
 refine (Xc (j := 0) x.ls Yw el43 sz39 rfl rfl rfl om fun aJ aK aj K => ?_)
 replace K : At R9 0 R9.heap.size aJ ([(.pointer (some aK))]) := K
 obtain ⟨cA, b3, k9⟩ := tks.one om aj
 subst b3
 refine Za rfl rfl (Ym K agg39 rfl rfl) (Za rfl rfl (Ze rfl) (Zd (Zb (b2 _ _ ?_))))
 refine Zp ?_
 exact Zh [_] ⟨rfl, trivial⟩ ⟨.inr ⟨_, _, (Zii hp om), rfl, k9⟩, E⟩

/-- impl.IsExpr -/
theorem Qu {w : World} {LL_e k : Nat} {c : Value} {e : List Token} (a : Ls Token.cs 4 w LL_e k c e) (hb : e.length ≤ 1048576) :
 Ctr Tryz.prog 9 #[(.agg #[c])] w (fun v w' => v = .bool (isE e) ∧ Ch [] w w') := by
 obtain ⟨d, f, g⟩ := a.val
 subst g
 have q := a.len
 have a := a.here (by decide)
 have E := Ch.refl [] w
 refine Zv (N := 6) (vs0 := [(.agg #[(.slice d e.length f)])]) Tryz.func9 rfl rfl rfl ?_
 refine Zf fun K1 H1 => ?_
 refine Zc (Zl rfl rfl ?_)
 refine Qm rfl fun r W2 j C2 y => ?_
 have z := C2.size
 have E := E.trans C2
 have A := j.lt
 replace j : Blk W2 r 26 [(.slice d e.length f)] := j
 refine Za rfl rfl (Ze rfl) (Zd (Zb (H1 _ _ ?_)))
 refine Zf fun K3 H3 => ?_
 refine Zc (Za rfl rfl (Zr j.at_ agg26 sz26 rfl) (Zl rfl rfl ?_))
 have F4 := a.ch0 C2
 refine Step.call (Zm (xs := [.tmp 3]) fk18 rfl) (Zba F4 om) fun B W5 l => ?_
 obtain ⟨l, C5⟩ := l
 have C := C5.size
 have E := E.trans C5
 rcases l with ⟨h, rfl⟩ | ⟨s, t, h, rfl, b⟩
 ·refine Za rfl rfl (Zlr ptr39 rfl rfl) ?_
  refine Za rfl rfl (Ze rfl) (Zd (Zb (H3 _ _ ?_)))
  refine Zp ?_
  exact Zh [_] ⟨rfl, trivial⟩ ⟨congrArg Value.bool (by first | exact Zhx h | exact Zcl h), E⟩
 replace b : TrAt W5 W2.heap.size W5.heap.size t s := b
 obtain ⟨u, x, m, n, o, i⟩ := b.open
 have p := i.1
 refine Za rfl rfl (Zlr ptr39 rfl rfl) (Za rfl rfl (Ze rfl) (Zd (Zb (H3 _ _ ?_))))
 refine Zp ?_
 exact Zh [_] ⟨rfl, trivial⟩ ⟨congrArg Value.bool (by first | exact Zhx h | exact Zcl h), E⟩

/-- impl.IsValidExpr -/
theorem Zap {w : World} {LL_e j : Nat} {c : Value} {e : List Token} (a : Ls Token.cs 4 w LL_e j c e) (hb : e.length ≤ 2097152) :
 Ctr Tryz.prog 11 #[(.agg #[c])] w (fun v w' => v = .bool (ivE e) ∧ Ch [] w w') := by
 obtain ⟨f, g, h⟩ := a.val
 subst h
 have k := a.len
 have a := a.here (by decide)
 have E := Ch.refl [] w
 refine Zv (N := 11) (vs0 := [(.agg #[(.slice f e.length g)])]) Tryz.func11 rfl rfl rfl ?_
 refine Zf fun K1 H1 => ?_
 refine Zc (Zl rfl rfl ?_)
 refine Qm rfl fun l W2 i C2 o => ?_
 have p := C2.size
 have E := E.trans C2
 have q := i.lt
 replace i : Blk W2 l 26 [(.slice f e.length g)] := i
 refine Za rfl rfl (Ze rfl) (Zd (Zb (H1 _ _ ?_)))
 refine Zf fun K3 H3 => ?_
 refine Zc (Za rfl rfl (Zi fa26_0 rfl) (Za rfl rfl (Zo i.at_ agg24 rfl rfl) (Za rfl rfl (Xk (by rw [el24]; rfl) rfl) (Za rfl rfl (Zfv rfl rfl) (Za rfl rfl (Zg rfl) ?_)))))
 refine Yi (d := 7) rfl (fun b => ?_) (fun b => ?_)
 ·have m := b
  have b := Yb b
  refine Za rfl rfl (Zr i.at_ agg26 sz26 rfl) (Zl rfl rfl ?_)
  have F5 := a.ch0 C2
  refine Step.call (Zm (xs := [.tmp 8]) fk9 rfl) (Qu F5 om) fun r W6 n => ?_
  obtain ⟨rfl, C6⟩ := n
  have s := C6.size
  have E := E.trans C6
  refine Za rfl rfl (Ye rfl rfl) (Za rfl rfl (Ze rfl) (Zd (Zb (H3 _ _ ?_))))
  refine Zp ?_
  exact Zh [_] ⟨rfl, trivial⟩ ⟨congrArg Value.bool (by unfold ivE; first | (rw [decide_eq_true om]; rfl) | (rw [decide_eq_false om]; rfl)), E⟩
 have m := b
 have b := Yc b
 refine Zj rfl rfl (Zj rfl rfl (Za rfl rfl (Ya rfl rfl) (Za rfl rfl (Ze rfl) (Zd (Zb (H3 _ _ ?_))))))
 refine Zp ?_
 exact Zh [_] ⟨rfl, trivial⟩ ⟨congrArg Value.bool (by unfold ivE; first | (rw [decide_eq_true om]; rfl) | (rw [decide_eq_false om]; rfl)), E⟩

shelf_lay Lays.n171 Nm 171 at Tryz as lay_171_55
/-- strconv.Itoa -/
theorem Zer {w : World} (n : Int) (h : 0 ≤ n ∧ n < 100) :
 Ctr Tryz.prog 55 #[(.int .i64 n)] w (fun v w' => v = bst (fmtI n) ∧ Ch [] w w') := by
 exact Zkr lay_171_55 h

/-- impl.FormatInt -/
theorem Zbe {w : World} (n : Int) (h : 0 ≤ n ∧ n < 100) :
 Ctr Tryz.prog 40 #[(.int .i64 n)] w (fun v w' => v = bst (fmtI n) ∧ Ch [] w w') := by
 have E := Ch.refl [] w
 refine Zv (N := 5) (vs0 := [(.int .i64 n)]) Tryz.func40 rfl rfl rfl ?_
 refine Zf fun K1 H1 => ?_
 refine Zc (Za rfl rfl (Ze rfl) (Zd (Zb (H1 _ _ ?_))))
 refine Zf fun K2 H2 => ?_
 refine Zc (Za rfl rfl (Zg rfl) (Zl rfl rfl ?_))
 refine Step.call (Zm (xs := [.tmp 3]) fk55 rfl) (Zer _ h) fun b W3 a => ?_
 obtain ⟨rfl, C3⟩ := a
 have c := C3.size
 have E := E.trans C3
 refine Za rfl rfl (Ze rfl) (Zd (Zb (H2 _ _ ?_)))
 refine Zp ?_
 exact Zh [_] ⟨rfl, trivial⟩ ⟨congrArg bst (by first | rfl | simp_all), E⟩

/-- impl.FormatLetter -/
theorem Zal {w : World} (n : Int) :
 Ctr Tryz.prog 39 #[(.int .i64 n)] w (fun v w' => v = bst (fmtL n) ∧ Ch [] w w') := by
 have E := Ch.refl [] w
 refine Zv (N := 10) (vs0 := [(.int .i64 n)]) Tryz.func39 rfl rfl rfl ?_
 refine Zf fun K1 H1 => ?_
 refine Zc (Za rfl rfl (Ze rfl) (Zd (Zb (H1 _ _ ?_))))
 refine Zf fun K2 H2 => ?_
 refine Zf fun K3 H3 => ?_
 refine Zc (Za rfl rfl (Zg rfl) (Zl rfl rfl ?_))
 refine Step.call (Zm (xs := [.tmp 3]) fk52 rfl) (Zbq _ ) fun m W4 e => ?_
 obtain ⟨rfl, C4⟩ := e
 have o := C4.size
 have E := E.trans C4
 refine Za rfl rfl (Zav rfl) (Zd (Zb (H3 _ _ ?_)))
 refine Zs rfl (fun a => ?_) (fun a => ?_)
 ·have f := a
  have a := Yc (Xv a)
  refine Zf fun K6 H6 => ?_
  refine Zc (Za rfl rfl (Ze rfl) (Zd (Zb (H6 _ _ ?_))))
  refine Zp (Zk ?_)
  exact Zh [_] ⟨rfl, trivial⟩ ⟨congrArg bst (Zmb om), E⟩
 have f := a
 have a := Yb (Xw a)
 refine Zu ?_
 refine Zb (H2 _ _ ?_)
 refine Zf fun K7 H7 => ?_
 refine Zc (Zl rfl rfl ?_)
 refine Yg (cs := scs) (parts := [(0, .const (Go.Value.string { data := #[97] })), (1, .const (Go.Value.string { data := #[97, 45] })), (2, .const (Go.Value.string { data := #[98] })), (3, .const (Go.Value.string { data := #[98, 45] })), (4, .const (Go.Value.string { data := #[99] })), (5, .const (Go.Value.string { data := #[99, 45] })), (6, .const (Go.Value.string { data := #[48] })), (7, .const (Go.Value.string { data := #[49] })), (8, .const (Go.Value.string { data := #[50] }))]) ([] : List UInt8) [[97], [97, 45], [98], [98, 45], [99], [99, 45], [48], [49], [50]] el52 sz9 zr9 Zaj (by decide) rfl rfl rfl (by decide) (by decide) rfl fun p W8 c g C8 => ?_
 have q := C8.size
 have E := E.trans C8
 obtain ⟨h, i, rfl, k, d⟩ := c.opn
 refine Za rfl rfl (Zg rfl) (Zl rfl rfl ?_)
 refine (Xc (j := n.toNat) c.ls Zaj el52 sz9 rfl rfl om (by first | omega | (simp; omega)) fun r s b l => ?_)
 refine Za rfl rfl (Ym l agg9 rfl rfl) (Za rfl rfl (Ze rfl) (Zd (Zb (H7 _ _ ?_))))
 refine Zp ?_
 exact Zh [_] ⟨rfl, trivial⟩ ⟨congrArg bst (Zme om b), E⟩

/-- impl.tokenText -/
theorem Zdu {w : World} (t : Token) (hl : 0 ≤ t.low ∧ t.low < 100) (hh : 0 ≤ t.high ∧ t.high < 100) :
 Ctr Tryz.prog 25 #[(.agg #[(.int .i64 t.kind), (.int .i64 t.letter), (.int .i64 t.low), (.int .i64 t.high)])] w (fun v w' => v = bst (Qc t) ∧ Ch [] w w') := by
 have E := Ch.refl [] w
 have Z := Zbw t.low; have aa := Zbw t.high
 refine Zv (N := 30) (vs0 := [(.agg #[(.int .i64 t.kind), (.int .i64 t.letter), (.int .i64 t.low), (.int .i64 t.high)])]) Tryz.func25 rfl rfl rfl ?_
 refine Zf fun K1 H1 => ?_
 refine Zc (Zl rfl rfl ?_)
 refine Qm rfl fun A W2 h C2 ab => ?_
 have ac := C2.size
 have E := E.trans C2
 have ad := h.lt
 replace h : Blk W2 A 42 [(.int .i64 t.kind), (.int .i64 t.letter), (.int .i64 t.low), (.int .i64 t.high)] := h
 refine Za rfl rfl (Ze rfl) (Zd (Zb (H1 _ _ ?_)))
 refine Zf fun K3 H3 => ?_
 refine Zf fun K4 H4 => ?_
 refine Zc (Za rfl rfl (Zi fa42_0 rfl) (Za rfl rfl (Zo h.at_ agg3 rfl rfl) (Zd (Zb (H4 _ _ ?_)))))
 refine Yj ?_
 refine Zf fun K5 H5 => ?_
 refine Zc (Za rfl rfl (Yn rfl rfl) (Za rfl rfl (Ze rfl) (Zd (Zb (H5 _ _ ?_)))))
 refine Zs rfl (fun d => ?_) (fun d => ?_)
 ·have B := d
  have d := Yb d
  refine Zf fun K7 H7 => ?_
  refine Zc (Za rfl rfl (Ze rfl) (Zd (Zb (H7 _ _ ?_))))
  refine Zp (Zt (Zk ?_))
  exact Zh [_] ⟨rfl, trivial⟩ ⟨congrArg bst (by unfold Qc; rw [if_pos d]), E⟩
 have B := d
 have d := Yc d
 refine Zf fun K8 H8 => ?_
 refine Zc (Za rfl rfl (Yn rfl rfl) (Za rfl rfl (Ze rfl) (Zd (Zb (H8 _ _ ?_)))))
 refine Zs rfl (fun e => ?_) (fun e => ?_)
 ·have C := e
  have e := Yb e
  refine Zf fun ae D => ?_
  refine Zc (Za rfl rfl (Ze rfl) (Zd (Zb (D _ _ ?_))))
  refine Zp (Zt (Zk ?_))
  exact Zh [_] ⟨rfl, trivial⟩ ⟨congrArg bst (by unfold Qc; rw [if_neg d, if_pos e]), E⟩
 have C := e
 have e := Yc e
 refine Zf fun af F => ?_
 refine Zc (Za rfl rfl (Yn rfl rfl) (Za rfl rfl (Ze rfl) (Zd (Zb (F _ _ ?_)))))
 refine Zs rfl (fun f => ?_) (fun f => ?_)
 ·have k := f
  have f := Yb f
  refine Zf fun ag G => ?_
  refine Zc (Za rfl rfl (Zi fa42_1 rfl) (Za rfl rfl (Zo h.at_ agg3 rfl rfl) (Zl rfl rfl ?_)))
  refine Step.call (Zm (xs := [.tmp 12]) fk39 rfl) (Zal _ ) fun H ah l => ?_
  obtain ⟨rfl, x⟩ := l
  have I := x.size
  have E := E.trans x
  refine Za rfl rfl (Ze rfl) (Zd (Zb (G _ _ ?_)))
  refine Zp (Zt (Zk ?_))
  exact Zh [_] ⟨rfl, trivial⟩ ⟨congrArg bst (by unfold Qc; rw [if_neg d, if_neg e, if_pos f]), E⟩
 have k := f
 have f := Yc f
 refine Zf fun ai J => ?_
 refine Zc (Za rfl rfl (Yn rfl rfl) (Za rfl rfl (Ze rfl) (Zd (Zb (J _ _ ?_)))))
 refine Zs rfl (fun a => ?_) (fun a => ?_)
 ·have m := a
  have a := Yb a
  refine Zf fun aj K => ?_
  refine Zc (Za rfl rfl (Ze rfl) (Zd (Zb (K _ _ ?_))))
  refine Zp (Zt (Zk ?_))
  exact Zh [_] ⟨rfl, trivial⟩ ⟨congrArg bst (by unfold Qc; rw [if_neg d, if_neg e, if_neg f, if_pos a]), E⟩
 have m := a
 have a := Yc a
 refine Zf fun ak L => ?_
 refine Zc (Za rfl rfl (Yn rfl rfl) (Za rfl rfl (Ze rfl) (Zd (Zb (L _ _ ?_)))))
 refine Zs rfl (fun b => ?_) (fun b => ?_)
 ·have n := b
  have b := Yb b
  refine Zf fun al M => ?_
  refine Zc (Za rfl rfl (Ze rfl) (Zd (Zb (M _ _ ?_))))
  refine Zp (Zt (Zk ?_))
  exact Zh [_] ⟨rfl, trivial⟩ ⟨congrArg bst (by unfold Qc; rw [if_neg d, if_neg e, if_neg f, if_neg a, if_pos b]), E⟩
 have n := b
 have b := Yc b
 refine Zf fun am O => ?_
 refine Zc (Za rfl rfl (Yn rfl rfl) (Za rfl rfl (Ze rfl) (Zd (Zb (O _ _ ?_)))))
 refine Zs rfl (fun c => ?_) (fun c => ?_)
 ·have o := c
  have c := Yb c
  refine Zf fun an P => ?_
  refine Zc (Za rfl rfl (Ze rfl) (Zd (Zb (P _ _ ?_))))
  refine Zp (Zt (Zk ?_))
  exact Zh [_] ⟨rfl, trivial⟩ ⟨congrArg bst (by unfold Qc; rw [if_neg d, if_neg e, if_neg f, if_neg a, if_neg b, if_pos c]), E⟩
 have o := c
 have c := Yc c
 refine Zu ?_
 refine Yd (Zb (H3 _ _ ?_))
 refine Zf fun ao Q => ?_
 refine Xm [] 11 mixed rfl fun y p => ?_
 have R := p.size
 have E := E.trans p
 refine dV 0 rfl rfl rfl (fun _ => Zi fa42_2 rfl) ?_
 have z := h.ch0 p
 refine dT 1 rfl rfl rfl (Xl z.at_ (fun i hi => absurd hi List.not_mem_nil) agg3 rfl rfl ?_)
 refine dV 5 rfl rfl rfl (fun _ => Zi fa42_3 rfl) ?_
 refine dT 6 rfl rfl rfl (Xl z.at_ (fun i hi => absurd hi List.not_mem_nil) agg3 rfl rfl ?_)
 refine dO 2 (Yf rfl rfl rfl ?_)
 refine Step.call (Zm (xs := [.tmp 21]) fk40 rfl) (Zbe _ om) fun S T q => ?_
 obtain ⟨rfl, r⟩ := q
 have U := r.size
 have E := E.trans r
 have g : Ch [] y T := ((Ch.refl _ _).trans r)
 refine ⟨g, ?_⟩
 refine dV 3 rfl rfl rfl (fun _ => Zbh (by (simp only [List.length_append, List.length_cons, List.length_nil]; omega)) rfl rfl) (dV 4 rfl rfl rfl (fun _ => Zbh (by (simp only [List.length_append, List.length_cons, List.length_nil]; omega)) rfl rfl) (dO 7 (Yf rfl rfl rfl ?_)))
 refine Step.call (Zm (xs := [.tmp 26]) fk40 rfl) (Zbe _ om) fun V X s => ?_
 obtain ⟨rfl, u⟩ := s
 have Y := u.size
 have E := E.trans u
 have j : Ch [] y X := (g.trans u)
 refine ⟨j, ?_⟩
 refine dV 8 rfl rfl rfl (fun _ => Zbh (by (simp only [List.length_append, List.length_cons, List.length_nil]; omega)) rfl rfl) (dV 9 rfl rfl rfl (fun _ => Zbh (by (simp only [List.length_append, List.length_cons, List.length_nil]; omega)) rfl rfl) (dV 10 rfl rfl rfl (fun _ => Ze rfl) ?_))
 refine Yo (by kernel_rfl) ?_
 refine Zb (Q _ _ ?_)
 refine Zp ?_
 exact Zh [_] ⟨rfl, trivial⟩ ⟨congrArg bst (by unfold Qc; rw [if_neg d, if_neg e, if_neg f, if_neg a, if_neg b, if_neg c]), E⟩

shelf_lay Lays.n156 Nm 156 at Tryz as lay_156_26
theorem Zpz : Builder.Extra Tryz.prog lay_156_26_ren := ⟨⟨by kernel_rfl, by kernel_rfl⟩, Tryz.underlying5, Tryz.isAgg5, Tryz.sizeOf5, Tryz.zeroValue5, by kernel_rfl, by kernel_rfl, by kernel_rfl, by decide⟩
/-- strings.Join -/
theorem Zeu {w : World} {e_xs : Nat} {a : Value} {xs : List (List UInt8)} (b : Ol scs e_xs 1 w a xs) (sep : List UInt8) (hN : xs.length ≤ 4194304) (hlen : (jnS sep xs).length ≤ 140737488355328) :
 Ctr Tryz.prog 26 #[a, (bst sep)] w (fun v w' => v = bst (jnS sep xs) ∧ Ch [] w w') := by
 exact Zlg lay_156_26 Zpz b hN hlen

/-- impl.FormatExpr -/
theorem Zab {w : World} {LL_e K : Nat} {t : Value} {e : List Token} (d : Ls Token.cs 4 w LL_e K t e) (hb : e.length ≤ 2097152) :
 Ctr Tryz.prog 14 #[(.agg #[t])] w (fun v w' => v = bst (exR e) ∧ Ch [] w w') := by
 obtain ⟨j, l, u⟩ := d.val
 subst u
 have aj := d.len
 have d := d.here (by decide)
 have E := Ch.refl [] w
 refine Zv (N := 25) (vs0 := [(.agg #[(.slice j e.length l)])]) Tryz.func14 rfl rfl rfl ?_
 refine Zf fun K1 H1 => ?_
 refine Zc (Zl rfl rfl ?_)
 refine Qm rfl fun ak W2 x C2 aT => ?_
 have aU := C2.size
 have E := E.trans C2
 have aV := x.lt
 replace x : Blk W2 ak 26 [(.slice j e.length l)] := x
 refine Za rfl rfl (Ze rfl) (Zd (Zb (H1 _ _ ?_)))
 refine Zf fun K3 H3 => ?_
 refine Zf fun K4 H4 => ?_
 refine Zc (Za rfl rfl (Zr x.at_ agg26 sz26 rfl) (Zl rfl rfl ?_))
 have F5 := d.ch0 C2
 refine Step.call (Zm (xs := [.tmp 6]) fk11 rfl) (Zap F5 om) fun aW W6 al => ?_
 obtain ⟨rfl, C6⟩ := al
 have aX := C6.size
 have E := E.trans C6
 refine Za rfl rfl (Zav rfl) (Zd (Zb (H4 _ _ ?_)))
 refine Zs rfl (fun h => ?_) (fun h => ?_)
 ·have am := h
  have h := Xv h
  refine Zf fun K8 H8 => ?_
  refine Zc (Za rfl rfl (Ze rfl) (Zd (Zb (H8 _ _ ?_))))
  refine Zp (Zk ?_)
  exact Zh [_] ⟨rfl, trivial⟩ ⟨congrArg bst (Zmu (by simpa using h)), E⟩
 have am := h
 have h := Xw h
 refine Zu ?_
 refine Zb (H3 _ _ ?_)
 refine Zf fun K9 H9 => ?_
 refine Zc (Zl rfl rfl ?_)
 refine Qq (k := 1) scs el52 sz9 fun aY V X L D => ?_
 have an := D.size
 have E := E.trans D
 obtain ⟨y, z, rfl, ao, Y⟩ := X.opn
 refine Za rfl rfl (Ze rfl) (Zd (Zb (H9 _ _ ?_)))
 refine Zf fun aZ ap => ?_
 refine Zf fun a0 aq => ?_
 refine Zc (Za rfl rfl (Zi fa26_0 rfl) ?_)
 have au := (x.ch0 C6).ch0 D
 refine Za rfl rfl (Zo au.at_ agg24 rfl rfl) (Za rfl rfl (Xk (by rw [el24]; rfl) rfl) (Za rfl rfl (Zg rfl) (Zd (Zb (aq _ _ ?_)))))
 refine Yj ?_
 have r : Ol scs 9 1 V (.slice y (([] : List (List UInt8))).length z) ((e.take 0).map Qc) := by
  have hx := X
  exact hx
 have av := (F5.ch0 C6).ch0 D
 refine Qf (σ := Nat × Value) (fun ⟨k, ov⟩ => [(2, (bst ([] : List UInt8))), (3, ov), (11, (.slice j e.length l)), (12, (.int .i64 ((e.length : Nat) : Int))), (13, (.int .i64 ((k : Nat) : Int)))]) (fun ⟨k, ov⟩ wx => Ch [] w wx ∧ V.heap.size ≤ wx.heap.size ∧ (k ≤ e.length) ∧ Ls Token.cs 4 wx LL_e w.heap.size (.slice j e.length l) e ∧ Ol scs 9 1 wx ov ((e.take k).map Qc) ∧ Lo W6.heap.size ov) (fun ⟨k, ov⟩ => e.length - k) (0, (.slice y (([] : List (List UInt8))).length z)) (sC4 rfl rfl rfl rfl (sC1 rfl (Sub.nil _))) ⟨E, (Nat.le_refl _), om, av, r, L⟩ ?_
 rintro ⟨k, ov⟩ a1 ⟨E, aw, a2, m, f, b⟩
 have M := E
 have Z := M.size
 obtain ⟨Aov, Cov, rfl, lov, hiov⟩ := f.opn
 refine Zf fun a3 ax => ?_
 refine Zc (Za rfl rfl (Qv rfl rfl) (Zd (Zb (ax _ _ ?_))))
 refine Zf fun a4 ay => ?_
 refine Zs rfl (fun c => ?_) (fun c => ?_)
 ·have O := c
  have c := Yb c
  refine Zu ?_
  refine Zb (ay _ _ ?_)
  refine Zf fun a5 az => ?_
  refine Yj ?_
  refine Zf fun a6 aA => ?_
  refine Zc (Zl rfl rfl ?_)
  refine (Xc m Token.len el24 sz42 rfl rfl rfl om fun aB a n P => ?_)
  have aa := Zpp h n
  refine Za rfl rfl (Zr P agg42 sz42 rfl) (Zl rfl rfl ?_)
  refine Yl zr42 fun ab aC F G a7 => ?_
  have aD := G.size
  have E := E.trans G
  have a8 := F.lt
  replace F : Blk aC ab 42 [(.int .i64 0), (.int .i64 0), (.int .i64 0), (.int .i64 0)] := F
  refine Zl rfl rfl ?_
  refine Zq (off := 0) 4 F sz42 rfl (us := [(.int .i64 a.kind), (.int .i64 a.letter), (.int .i64 a.low), (.int .i64 a.high)]) rfl rfl rfl rfl fun aE g H => ?_
  have aF := H.size
  have E := E.step H (lS om)
  replace g : Blk aE ab 42 [(.int .i64 a.kind), (.int .i64 a.letter), (.int .i64 a.low), (.int .i64 a.high)] := g
  refine Zd (Zb (aA _ _ (Zc (Za rfl rfl (Zg rfl) (Za rfl rfl (Zr g.at_ agg42 sz42 rfl) (Zl rfl rfl ?_))))))
  refine Step.call (Zm (xs := [.tmp 18]) fk25 rfl) (Zdu a om om) fun aG a9 Q => ?_
  obtain ⟨rfl, I⟩ := Q
  have aH := I.size
  have E := E.trans I
  refine Zl rfl rfl ?_
  refine Yg (cs := scs) (parts := [(0, .tmp 19)]) ([] : List UInt8) [(Qc a)] el52 sz9 zr9 Zaj (by decide) rfl rfl rfl (by decide) (by decide) rfl fun aI ba A ac J => ?_
  have aJ := J.size
  have E := E.trans J
  obtain ⟨ad, ae, rfl, af, R⟩ := A.opn
  refine Zl rfl rfl ?_
  have aK := (((f.ch0 G).ch H (dS b hiov om)).ch0 I).ch0 J
  refine Yt (cs := scs) el52 sz9 by9 zr9 rfl (by decide) Zhm aK A.ls rfl rfl (by simp only [List.length_map, List.length_take, List.length_singleton]; omega) (by simp only [List.length_map, List.length_take, List.length_singleton]; omega) b om fun aL aM B C ag S => ?_
  have aN := S.size
  have E := E.step S (fun i hi => .inl (by have aO := b _ hi; omega))
  obtain ⟨o, p, rfl, ah, T⟩ := B.opn
  refine Za rfl rfl (Ze rfl) (Zd (Yd (Zb (az _ _ (Zc (Za rfl rfl (Yy om rfl rfl) (Za rfl rfl (Zg rfl) (Zd ?_))))))))
  have s : Ol scs 9 1 aM (.slice o (((e.take k).map Qc ++ [(Qc a)])).length p) ((e.take (k + 1)).map Qc) := by
   have hx := B
   exact hx.eq (Xr n)
  have aP := ((((m.ch0 G).ch H (oS om)).ch0 I).ch0 J).ch S (fun i hi => by have aO := b _ hi; omega)
  exact Zb (Exists.intro ((k + 1), (.slice o (((e.take k).map Qc ++ [(Qc a)])).length p)) ⟨⟨E, om, om, aP, s, (Lo.down C om)⟩, sC4 rfl rfl rfl rfl (sC1 rfl (Sub.nil _)), (by first | omega | (dsimp only; omega))⟩)
 have O := c
 have c := Yc c
 refine Xu (Yh (Yh (Xd ?_)))
 refine Zb (ap _ _ ?_)
 refine Zf fun bb aQ => ?_
 refine Zc (Za rfl rfl (Zg rfl) (Zl rfl rfl ?_))
 refine Step.call (Zm (xs := [.tmp 23, .const (Go.Value.string { data := #[32] })]) fk26 rfl) (Zeu f ([32]) (by rw [List.length_map, List.length_take]; omega) (by have q := Zkz e k; unfold exS at q; omega)) fun aR bc U => ?_
 obtain ⟨rfl, ai⟩ := U
 have aS := ai.size
 have E := E.trans ai
 refine Za rfl rfl (Ze rfl) (Zd (Zb (aQ _ _ ?_)))
 refine Zp ?_
 exact Zh [_] ⟨rfl, trivial⟩ ⟨congrArg bst (by rw [List.take_of_length_le om]; exact Zio h), E⟩

shelf_lay LaysC.n172 Nm 172 at Tryz as lay_c172_69
shelf_lay Lays.n172 Nm 172 at Tryz as lay_172_69
/-- strconv.Atoi -/
theorem Zet {w : World} (s : List UInt8) (hG : GS Tryz.prog 0 w) (hb : s.length ≤ 18) :
 Ctr Tryz.prog 69 #[(bst s)] w (fun v w' => ∃ e, v = .tuple #[.int .i64 (aiN s), e] ∧ ErrB e (Lib.atoi s).isNone ∧ Ch [] w w') := by
 exact Zpg lay_c172_69 lay_172_69 hG hb

shelf_lay LaysM.n171 Nm 171 at Tryz as lay_m171_55
/-- strconv.Itoa@all -/
theorem Zcv {w : World} (n : Int) (hG : GS Tryz.prog 0 w) (hn : -9223372036854775808 ≤ n ∧ n ≤ 9223372036854775807) :
 Ctr Tryz.prog 55 #[(.int .i64 n)] w (fun v w' => v = bst (Lib.itoa n) ∧ Ch [] w w') := by
 exact Zpc lay_m171_55 hG hn

/-- impl.ParseInt -/
theorem Zbo {w : World} (s : List UInt8) (hG : GS Tryz.prog 0 w) :
 Ctr Tryz.prog 48 #[(bst s)] w (fun v w' => v = .tuple #[.int .i64 ((piR s).1), .bool ((piR s).2)] ∧ Ch [] w w') := by
 have E := Ch.refl [] w
 refine Zv (N := 28) (vs0 := [(bst s)]) Tryz.func48 rfl rfl rfl ?_
 refine Zf fun K1 H1 => ?_
 refine Zc (Za rfl rfl (Ze rfl) (Za rfl rfl (Ze rfl) (Zd (Zb (H1 _ _ ?_)))))
 refine Zf fun K2 H2 => ?_
 refine Zf fun K3 H3 => ?_
 refine Zc (Za rfl rfl (Zg rfl) (Za rfl rfl (Ziv un9 rfl) (Za rfl rfl (Zfx rfl rfl) (Zd (Zb (H3 _ _ ?_))))))
 refine Zs rfl (fun e => ?_) (fun e => ?_)
 ·have o := e
  have e := Yb e
  refine Zf fun K5 H5 => ?_
  refine Zc (Za rfl rfl (Ze rfl) (Za rfl rfl (Ze rfl) (Zd (Zb (H5 _ _ ?_)))))
  refine Zp (Zk ?_)
  exact Zh [_, _] ⟨rfl, ⟨rfl, trivial⟩⟩ ⟨((congrArg (fun zq => (Value.tuple #[.int .i64 zq, .bool false])) (by first | exact congrArg Prod.fst (Zaq om) | exact congrArg Prod.fst (Zar om a) | exact congrArg Prod.fst (Qa om a (fun q => b q.1)) | exact congrArg Prod.fst (Qa om a (fun q => c q.2)) | exact congrArg Prod.fst (pi_y om a ⟨b, c⟩))).trans (congrArg (fun zq => (Value.tuple #[.int .i64 ((piR s).1), .bool zq])) (by first | exact congrArg Prod.snd (Zaq om) | exact congrArg Prod.snd (Zar om a) | exact congrArg Prod.snd (Qa om a (fun q => b q.1)) | exact congrArg Prod.snd (Qa om a (fun q => c q.2)) | exact congrArg Prod.snd (pi_y om a ⟨b, c⟩)))), E⟩
 have o := e
 have e := Yc e
 refine Zu ?_
 refine Zb (H2 _ _ ?_)
 refine Zf fun K6 H6 => ?_
 refine Zc (Za rfl rfl (Zg rfl) (Zl rfl rfl ?_))
 refine Step.call (Zm (xs := [.tmp 10]) fk69 rfl) (Zet s (hG.ch E) om) fun p W7 f => ?_
 obtain ⟨r, rfl, g, C7⟩ := f
 have F := C7.size
 have E := E.trans C7
 have t := Zpd (s := s) om
 refine Za rfl rfl (Zg rfl) (Za rfl rfl (Yk rfl rfl) (Za rfl rfl (Yk rfl rfl) (Za rfl rfl (Ze rfl) (Za rfl rfl (Ze rfl) (Zd (Zb (H6 _ _ ?_)))))))
 refine Zf fun K8 H8 => ?_
 refine Zf fun K9 H9 => ?_
 refine Zc (Za rfl rfl (Zg rfl) (Za rfl rfl (Zqg ifc75 g rfl) (Za rfl rfl (Zg rfl) ?_)))
 refine Yi (d := 16) rfl (fun a => ?_) (fun a => ?_)
 ·have h := a
  refine Zj rfl rfl (Zj rfl rfl (Zj rfl rfl (Zj rfl rfl (Za rfl rfl (Ye rfl rfl) (Za rfl rfl (Zg rfl) (Zj rfl rfl (Zj rfl rfl ?_)))))))
  refine Zj rfl rfl (Za rfl rfl (Ye rfl rfl) (Zd (Zb (H9 _ _ ?_))))
  refine Yz rfl ?_
  refine Zf fun G u => ?_
  refine Zc (Za rfl rfl (Ze rfl) (Za rfl rfl (Ze rfl) (Zd (Zb (u _ _ ?_)))))
  refine Zp (Zk ?_)
  exact Zh [_, _] ⟨rfl, ⟨rfl, trivial⟩⟩ ⟨((congrArg (fun zq => (Value.tuple #[.int .i64 zq, .bool false])) (by first | exact congrArg Prod.fst (Zaq om) | exact congrArg Prod.fst (Zar om a) | exact congrArg Prod.fst (Qa om a (fun q => b q.1)) | exact congrArg Prod.fst (Qa om a (fun q => c q.2)) | exact congrArg Prod.fst (pi_y om a ⟨b, c⟩))).trans (congrArg (fun zq => (Value.tuple #[.int .i64 ((piR s).1), .bool zq])) (by first | exact congrArg Prod.snd (Zaq om) | exact congrArg Prod.snd (Zar om a) | exact congrArg Prod.snd (Qa om a (fun q => b q.1)) | exact congrArg Prod.snd (Qa om a (fun q => c q.2)) | exact congrArg Prod.snd (pi_y om a ⟨b, c⟩)))), E⟩
 have h := a
 refine Za rfl rfl (Zg rfl) (Zl rfl rfl ?_)
 refine Step.call (Zm (xs := [.tmp 17]) fk55 rfl) (Zcv _ (hG.ch E) om) fun x H i => ?_
 obtain ⟨rfl, m⟩ := i
 have y := m.size
 have E := E.trans m
 refine Za rfl rfl (Zg rfl) (Za rfl rfl (Zmj rfl rfl) (Za rfl rfl (Ya rfl rfl) (Za rfl rfl (Zg rfl) ?_)))
 refine Yi (d := 22) rfl (fun b => ?_) (fun b => ?_)
 ·have j := b
  have b := Yc (Xv b)
  refine Zj rfl rfl (Zj rfl rfl (Zj rfl rfl (Za rfl rfl (Ye rfl rfl) (Zd (Zb (H9 _ _ ?_))))))
  refine Yz rfl ?_
  refine Zf fun I z => ?_
  refine Zc (Za rfl rfl (Ze rfl) (Za rfl rfl (Ze rfl) (Zd (Zb (z _ _ ?_)))))
  refine Zp (Zk ?_)
  exact Zh [_, _] ⟨rfl, ⟨rfl, trivial⟩⟩ ⟨((congrArg (fun zq => (Value.tuple #[.int .i64 zq, .bool false])) (by first | exact congrArg Prod.fst (Zaq om) | exact congrArg Prod.fst (Zar om a) | exact congrArg Prod.fst (Qa om a (fun q => b q.1)) | exact congrArg Prod.fst (Qa om a (fun q => c q.2)) | exact congrArg Prod.fst (pi_y om a ⟨b, c⟩))).trans (congrArg (fun zq => (Value.tuple #[.int .i64 ((piR s).1), .bool zq])) (by first | exact congrArg Prod.snd (Zaq om) | exact congrArg Prod.snd (Zar om a) | exact congrArg Prod.snd (Qa om a (fun q => b q.1)) | exact congrArg Prod.snd (Qa om a (fun q => c q.2)) | exact congrArg Prod.snd (pi_y om a ⟨b, c⟩)))), E⟩
 have j := b
 have b := Yb (Xw b)
 refine Za rfl rfl (Zg rfl) (Zl rfl rfl ?_)
 refine Step.call (Zm (xs := [.tmp 23, .const (Go.Value.int Go.IntKind.i64 (-999999999)), .const (Go.Value.int Go.IntKind.i64 999999999)]) fk53 rfl) (Qw _ _ _ ) fun A J k => ?_
 obtain ⟨rfl, n⟩ := k
 have B := n.size
 have E := E.trans n
 refine Za rfl rfl (Zav rfl) (Za rfl rfl (Ya rfl rfl) (Zd (Zb (H9 _ _ ?_))))
 refine Zs rfl (fun c => ?_) (fun c => ?_)
 ·have l := c
  have c := Yc (Xv c)
  refine Zf fun K C => ?_
  refine Zc (Za rfl rfl (Ze rfl) (Za rfl rfl (Ze rfl) (Zd (Zb (C _ _ ?_)))))
  refine Zp (Zk ?_)
  exact Zh [_, _] ⟨rfl, ⟨rfl, trivial⟩⟩ ⟨((congrArg (fun zq => (Value.tuple #[.int .i64 zq, .bool false])) (by first | exact congrArg Prod.fst (Zaq om) | exact congrArg Prod.fst (Zar om a) | exact congrArg Prod.fst (Qa om a (fun q => b q.1)) | exact congrArg Prod.fst (Qa om a (fun q => c q.2)) | exact congrArg Prod.fst (pi_y om a ⟨b, c⟩))).trans (congrArg (fun zq => (Value.tuple #[.int .i64 ((piR s).1), .bool zq])) (by first | exact congrArg Prod.snd (Zaq om) | exact congrArg Prod.snd (Zar om a) | exact congrArg Prod.snd (Qa om a (fun q => b q.1)) | exact congrArg Prod.snd (Qa om a (fun q => c q.2)) | exact congrArg Prod.snd (pi_y om a ⟨b, c⟩)))), E⟩
 have l := c
 have c := Yb (Xw c)
 refine Zu ?_
 refine Zb (H8 _ _ ?_)
 refine Zf fun L D => ?_
 refine Zc (Za rfl rfl (Zg rfl) (Za rfl rfl (Ze rfl) (Za rfl rfl (Ze rfl) (Zd (Zb (D _ _ ?_))))))
 refine Zp ?_
 exact Zh [_, _] ⟨rfl, ⟨rfl, trivial⟩⟩ ⟨((congrArg (fun zq => (Value.tuple #[.int .i64 zq, .bool true])) (by first | exact congrArg Prod.fst (Zaq om) | exact congrArg Prod.fst (Zar om a) | exact congrArg Prod.fst (Qa om a (fun q => b q.1)) | exact congrArg Prod.fst (Qa om a (fun q => c q.2)) | exact congrArg Prod.fst (pi_y om a ⟨b, c⟩))).trans (congrArg (fun zq => (Value.tuple #[.int .i64 ((piR s).1), .bool zq])) (by first | exact congrArg Prod.snd (Zaq om) | exact congrArg Prod.snd (Zar om a) | exact congrArg Prod.snd (Qa om a (fun q => b q.1)) | exact congrArg Prod.snd (Qa om a (fun q => c q.2)) | exact congrArg Prod.snd (pi_y om a ⟨b, c⟩)))), E⟩

/-- impl.ParseLetter -/
theorem Zcs {w : World} (s : List UInt8) :
 Ctr Tryz.prog 45 #[(bst s)] w (fun v w' => v = .tuple #[.int .i64 ((plR s).1), .bool ((plR s).2)] ∧ Ch [] w w') := by
 have E := Ch.refl [] w
 refine Zv (N := 14) (vs0 := [(bst s)]) Tryz.func45 rfl rfl rfl ?_
 refine Zf fun K1 H1 => ?_
 refine Zc (Za rfl rfl (Ze rfl) (Za rfl rfl (Ze rfl) (Zd (Zb (H1 _ _ ?_)))))
 refine Zf fun K2 H2 => ?_
 refine Zf fun K3 H3 => ?_
 refine Zc (Za rfl rfl (Ze rfl) (Zd (Zb (H3 _ _ ?_))))
 refine Yj ?_
 refine Qf (σ := Nat) (fun (k : Nat) => [(0, (bst s)), (4, (.int .i64 ((k : Nat) : Int)))]) (fun (k : Nat) wx => Ch [] w wx ∧ w.heap.size ≤ wx.heap.size ∧ (k ≤ 9) ∧ (ltrI s k = none)) (fun (k : Nat) => 9 - k) 0 (sC2 rfl rfl (Sub.nil _)) ⟨E, (Nat.le_refl _), om, Zgi⟩ ?_
 rintro k R4 ⟨E, h, o, hn⟩
 have c := E
 have f := c.size
 refine Zf fun K5 H5 => ?_
 refine Zf fun K6 H6 => ?_
 refine Zc (Za rfl rfl (Zg rfl) (Za rfl rfl (Qv rfl rfl) (Zd (Zb (H6 _ _ ?_)))))
 refine Zs rfl (fun b => ?_) (fun b => ?_)
 ·have i := b
  have b := Yb b
  refine Zu ?_
  refine Zb (H5 _ _ ?_)
  refine Zf fun K8 H8 => ?_
  refine Yj ?_
  refine Zf fun K9 H9 => ?_
  refine Zc (Za rfl rfl (Zg rfl) (Zl rfl rfl ?_))
  refine Step.call (Zm (xs := [.tmp 9]) fk39 rfl) (Zal _ ) fun j p d => ?_
  obtain ⟨rfl, g⟩ := d
  have l := g.size
  have E := E.trans g
  refine Za rfl rfl (Zg rfl) (Za rfl rfl (Zck rfl rfl) (Zd (Zb (H9 _ _ ?_))))
  refine Zs rfl (fun a => ?_) (fun a => ?_)
  ·have e := a
   have a := Yb a
   refine Zf fun q m => ?_
   refine Zc (Za rfl rfl (Zg rfl) (Za rfl rfl (Ze rfl) (Za rfl rfl (Ze rfl) (Zd (Zb (m _ _ ?_))))))
   refine Zp (Zt (Zk (Zk (Zt (Zk ?_)))))
   clear H2 H8
   exact Zh [_, _] ⟨rfl, ⟨rfl, trivial⟩⟩ ⟨((congrArg (fun zq => (Value.tuple #[.int .i64 zq, .bool true])) (by first | exact congrArg Prod.fst (Zfy hn om a) | exact congrArg Prod.fst (Zgc hn om om))).trans (congrArg (fun zq => (Value.tuple #[.int .i64 ((plR s).1), .bool zq])) (by first | exact congrArg Prod.snd (Zfy hn om a) | exact congrArg Prod.snd (Zgc hn om om)))), E⟩
  have e := a
  have a := Yc a
  refine Zu ?_
  refine Yd (Zb (H8 _ _ (Zc (Za rfl rfl (Zg rfl) (Za rfl rfl (Yy om rfl rfl) (Za rfl rfl (Ze rfl) (Zd ?_)))))))
  exact Zb (Exists.intro (k + 1) ⟨⟨E, om, om, (Zlv hn om a)⟩, sC2 rfl rfl (Sub.nil _), (by first | omega | (dsimp only; omega))⟩)
 have i := b
 have b := Yc b
 refine Xu (Yh (Yh (Xd ?_)))
 refine Zb (H2 _ _ ?_)
 refine Zf fun r n => ?_
 refine Zc (Za rfl rfl (Ze rfl) (Za rfl rfl (Ze rfl) (Zd (Zb (n _ _ ?_)))))
 refine Zp ?_
 exact Zh [_, _] ⟨rfl, ⟨rfl, trivial⟩⟩ ⟨((congrArg (fun zq => (Value.tuple #[.int .i64 zq, .bool false])) (by first | exact congrArg Prod.fst (Zfy hn om a) | exact congrArg Prod.fst (Zgc hn om om))).trans (congrArg (fun zq => (Value.tuple #[.int .i64 ((plR s).1), .bool zq])) (by first | exact congrArg Prod.snd (Zfy hn om a) | exact congrArg Prod.snd (Zgc hn om om)))), E⟩

shelf_lay Lays.n145 Nm 145 at Tryz as lay_145_46
/-- strings.Cut -/
theorem Zfp {w : World} (s : List UInt8) (sep : List UInt8) (hG : GS Tryz.prog 0 w) (hb : s.length ≤ 4194304) :
 Ctr Tryz.prog 46 #[(bst s), (bst sep)] w (fun v w' => v = .tuple #[.string (bys ((Lib.cut s sep).1)), .string (bys ((Lib.cut s sep).2.1)), .bool ((Lib.cut s sep).2.2)] ∧ Ch [] w w') := by
 exact Zpt lay_145_46 hG hb

shelf_lay Lays.n160 Nm 160 at Tryz as lay_160_47
/-- strings.Trim -/
theorem Zex {w : World} (s : List UInt8) (sep : List UInt8) (hsep : sep = [123, 125]) (hb : s.length ≤ 4194304) :
 Ctr Tryz.prog 47 #[(bst s), (bst sep)] w (fun v w' => v = bst (Lib.trimS s sep) ∧ Ch [] w w') := by
 subst hsep; exact Zpn lay_160_47 (by kernel_rfl) hb

/-- impl.tokenOf -/
theorem Zcd {w : World} (s : List UInt8) (hG : GS Tryz.prog 0 w) (hb : s.length ≤ 4194304) :
 Ctr Tryz.prog 28 #[(bst s)] w (fun v w' => v = .agg (Token.cs (tkR s)).toArray ∧ Ch [] w w') := by
 have E := Ch.refl [] w
 refine Zv (N := 54) (vs0 := [(bst s)]) Tryz.func28 rfl rfl rfl ?_
 refine Zf fun K1 H1 => ?_
 refine Zc (Zl rfl rfl ?_)
 refine Yl zr42 fun r W2 q C2 a5 => ?_
 have a6 := C2.size
 have E := E.trans C2
 have a7 := q.lt
 replace q : Blk W2 r 42 [(.int .i64 0), (.int .i64 0), (.int .i64 0), (.int .i64 0)] := q
 refine Zd (Zb (H1 _ _ ?_))
 refine Zf fun K3 H3 => ?_
 refine Zf fun K4 H4 => ?_
 refine Zc (Za rfl rfl (Zg rfl) (Zd (Zb (H4 _ _ ?_))))
 refine Yj ?_
 refine Zf fun K5 H5 => ?_
 refine Zc (Za rfl rfl (Zck rfl rfl) (Za rfl rfl (Ze rfl) (Zd (Zb (H5 _ _ ?_)))))
 refine Zs rfl (fun a => ?_) (fun a => ?_)
 ·have ab := a
  have a := Yb a
  refine Zf fun K7 H7 => ?_
  refine Zc (Za rfl rfl (Zz (parts := [(0, .const (Go.Value.int Go.IntKind.i64 1))]) (cells := [(.int .i64 1), (.int .i64 0), (.int .i64 0), (.int .i64 0)]) zr42 pl42 rfl rfl) (Zl rfl rfl ?_))
  refine Zq (off := 0) 4 q sz42 rfl (us := [(.int .i64 1), (.int .i64 0), (.int .i64 0), (.int .i64 0)]) rfl rfl rfl rfl fun W8 t C8 => ?_
  have a8 := C8.size
  have E := E.step C8 (lS om)
  replace t : Blk W8 r 42 [(.int .i64 1), (.int .i64 0), (.int .i64 0), (.int .i64 0)] := t
  refine Zd (Zb (H7 _ _ ?_))
  refine Zp (Zt (Zk ?_))
  exact Zh [_] (Zn t rfl agg42 sz42 trivial) ⟨(by have key : ∀ z : Token, z = tkR s → Value.agg (Token.cs z).toArray = Value.agg (Token.cs (tkR s)).toArray := (fun z h => by rw [h]); first | exact key _ (tk_1 a) | exact key _ (tk_2 a b) | exact key _ (tk_4 a b c) | exact key _ (tk_5 a b c d) | exact key _ (tk_6 a b c d e) | exact key _ (tk_3 a b c d e f) | exact key _ (tk_7 a b c d e f)), E⟩
 have ab := a
 have a := Yc a
 refine Zf fun a9 ac => ?_
 refine Zc (Za rfl rfl (Zck rfl rfl) (Za rfl rfl (Ze rfl) (Zd (Zb (ac _ _ ?_)))))
 refine Zs rfl (fun b => ?_) (fun b => ?_)
 ·have C := b
  have b := Yb b
  refine Zf fun ba ad => ?_
  refine Zc (Za rfl rfl (Zz (parts := [(0, .const (Go.Value.int Go.IntKind.i64 2))]) (cells := [(.int .i64 2), (.int .i64 0), (.int .i64 0), (.int .i64 0)]) zr42 pl42 rfl rfl) (Zl rfl rfl ?_))
  refine Zq (off := 0) 4 q sz42 rfl (us := [(.int .i64 2), (.int .i64 0), (.int .i64 0), (.int .i64 0)]) rfl rfl rfl rfl fun ae g U => ?_
  have af := U.size
  have E := E.step U (lS om)
  replace g : Blk ae r 42 [(.int .i64 2), (.int .i64 0), (.int .i64 0), (.int .i64 0)] := g
  refine Zd (Zb (ad _ _ ?_))
  refine Zp (Zt (Zk ?_))
  exact Zh [_] (Zn g rfl agg42 sz42 trivial) ⟨(by have key : ∀ z : Token, z = tkR s → Value.agg (Token.cs z).toArray = Value.agg (Token.cs (tkR s)).toArray := (fun z h => by rw [h]); first | exact key _ (tk_1 a) | exact key _ (tk_2 a b) | exact key _ (tk_4 a b c) | exact key _ (tk_5 a b c d) | exact key _ (tk_6 a b c d e) | exact key _ (tk_3 a b c d e f) | exact key _ (tk_7 a b c d e f)), E⟩
 have C := b
 have b := Yc b
 refine Zf fun bb ag => ?_
 refine Zc (Za rfl rfl (Zck rfl rfl) (Za rfl rfl (Ze rfl) (Zd (Zb (ag _ _ ?_)))))
 refine Zs rfl (fun c => ?_) (fun c => ?_)
 ·have D := c
  have c := Yb c
  refine Zf fun bc ah => ?_
  refine Zc (Za rfl rfl (Zz (parts := [(0, .const (Go.Value.int Go.IntKind.i64 4))]) (cells := [(.int .i64 4), (.int .i64 0), (.int .i64 0), (.int .i64 0)]) zr42 pl42 rfl rfl) (Zl rfl rfl ?_))
  refine Zq (off := 0) 4 q sz42 rfl (us := [(.int .i64 4), (.int .i64 0), (.int .i64 0), (.int .i64 0)]) rfl rfl rfl rfl fun ai i V => ?_
  have aj := V.size
  have E := E.step V (lS om)
  replace i : Blk ai r 42 [(.int .i64 4), (.int .i64 0), (.int .i64 0), (.int .i64 0)] := i
  refine Zd (Zb (ah _ _ ?_))
  refine Zp (Zt (Zk ?_))
  exact Zh [_] (Zn i rfl agg42 sz42 trivial) ⟨(by have key : ∀ z : Token, z = tkR s → Value.agg (Token.cs z).toArray = Value.agg (Token.cs (tkR s)).toArray := (fun z h => by rw [h]); first | exact key _ (tk_1 a) | exact key _ (tk_2 a b) | exact key _ (tk_4 a b c) | exact key _ (tk_5 a b c d) | exact key _ (tk_6 a b c d e) | exact key _ (tk_3 a b c d e f) | exact key _ (tk_7 a b c d e f)), E⟩
 have D := c
 have c := Yc c
 refine Zf fun be ak => ?_
 refine Zc (Za rfl rfl (Zck rfl rfl) (Za rfl rfl (Ze rfl) (Zd (Zb (ak _ _ ?_)))))
 refine Zs rfl (fun d => ?_) (fun d => ?_)
 ·have F := d
  have d := Yb d
  refine Zf fun bf al => ?_
  refine Zc (Za rfl rfl (Zz (parts := [(0, .const (Go.Value.int Go.IntKind.i64 5))]) (cells := [(.int .i64 5), (.int .i64 0), (.int .i64 0), (.int .i64 0)]) zr42 pl42 rfl rfl) (Zl rfl rfl ?_))
  refine Zq (off := 0) 4 q sz42 rfl (us := [(.int .i64 5), (.int .i64 0), (.int .i64 0), (.int .i64 0)]) rfl rfl rfl rfl fun am j X => ?_
  have an := X.size
  have E := E.step X (lS om)
  replace j : Blk am r 42 [(.int .i64 5), (.int .i64 0), (.int .i64 0), (.int .i64 0)] := j
  refine Zd (Zb (al _ _ ?_))
  refine Zp (Zt (Zk ?_))
  exact Zh [_] (Zn j rfl agg42 sz42 trivial) ⟨(by have key : ∀ z : Token, z = tkR s → Value.agg (Token.cs z).toArray = Value.agg (Token.cs (tkR s)).toArray := (fun z h => by rw [h]); first | exact key _ (tk_1 a) | exact key _ (tk_2 a b) | exact key _ (tk_4 a b c) | exact key _ (tk_5 a b c d) | exact key _ (tk_6 a b c d e) | exact key _ (tk_3 a b c d e f) | exact key _ (tk_7 a b c d e f)), E⟩
 have F := d
 have d := Yc d
 refine Zf fun bg ao => ?_
 refine Zc (Za rfl rfl (Zck rfl rfl) (Za rfl rfl (Ze rfl) (Zd (Zb (ao _ _ ?_)))))
 refine Zs rfl (fun e => ?_) (fun e => ?_)
 ·have G := e
  have e := Yb e
  refine Zf fun bh ap => ?_
  refine Zc (Za rfl rfl (Zz (parts := [(0, .const (Go.Value.int Go.IntKind.i64 6))]) (cells := [(.int .i64 6), (.int .i64 0), (.int .i64 0), (.int .i64 0)]) zr42 pl42 rfl rfl) (Zl rfl rfl ?_))
  refine Zq (off := 0) 4 q sz42 rfl (us := [(.int .i64 6), (.int .i64 0), (.int .i64 0), (.int .i64 0)]) rfl rfl rfl rfl fun aq k Y => ?_
  have au := Y.size
  have E := E.step Y (lS om)
  replace k : Blk aq r 42 [(.int .i64 6), (.int .i64 0), (.int .i64 0), (.int .i64 0)] := k
  refine Zd (Zb (ap _ _ ?_))
  refine Zp (Zt (Zk ?_))
  exact Zh [_] (Zn k rfl agg42 sz42 trivial) ⟨(by have key : ∀ z : Token, z = tkR s → Value.agg (Token.cs z).toArray = Value.agg (Token.cs (tkR s)).toArray := (fun z h => by rw [h]); first | exact key _ (tk_1 a) | exact key _ (tk_2 a b) | exact key _ (tk_4 a b c) | exact key _ (tk_5 a b c d) | exact key _ (tk_6 a b c d e) | exact key _ (tk_3 a b c d e f) | exact key _ (tk_7 a b c d e f)), E⟩
 have G := e
 have e := Yc e
 refine Zu ?_
 refine Yd (Zb (H3 _ _ ?_))
 refine Zf fun bi av => ?_
 refine Zf fun bj aw => ?_
 refine Zc (Za rfl rfl (Zg rfl) (Zl rfl rfl ?_))
 refine Step.call (Zm (xs := [.tmp 26]) fk45 rfl) (Zcs s ) fun ax bk H => ?_
 obtain ⟨rfl, u⟩ := H
 have ay := u.size
 have E := E.trans u
 refine Za rfl rfl (Zg rfl) (Za rfl rfl (Yk rfl rfl) (Za rfl rfl (Yk rfl rfl) (Za rfl rfl (Ze rfl) (Za rfl rfl (Ze rfl) (Zd (Zb (aw _ _ ?_)))))))
 refine Zf fun bm az => ?_
 refine Zc (Za rfl rfl (Zg rfl) (Zd (Zb (az _ _ ?_))))
 refine Zs rfl (fun f => ?_) (fun f => ?_)
 ·have I := f
  refine Zf fun bn aA => ?_
  refine Zc (Za rfl rfl (Zg rfl) (Za rfl rfl (Zz (parts := [(0, .const (Go.Value.int Go.IntKind.i64 3)), (1, .tmp 31)]) (cells := [(.int .i64 3), (.int .i64 ((plR s).1)), (.int .i64 0), (.int .i64 0)]) zr42 pl42 rfl rfl) (Zl rfl rfl ?_)))
  have aB := q.ch0 u
  refine Zq (off := 0) 4 aB sz42 rfl (us := [(.int .i64 3), (.int .i64 ((plR s).1)), (.int .i64 0), (.int .i64 0)]) rfl rfl rfl rfl fun aC l Z => ?_
  have aD := Z.size
  have E := E.step Z (lS om)
  replace l : Blk aC r 42 [(.int .i64 3), (.int .i64 ((plR s).1)), (.int .i64 0), (.int .i64 0)] := l
  refine Zd (Zb (aA _ _ ?_))
  refine Zp (Zk ?_)
  exact Zh [_] (Zn l rfl agg42 sz42 trivial) ⟨(by have key : ∀ z : Token, z = tkR s → Value.agg (Token.cs z).toArray = Value.agg (Token.cs (tkR s)).toArray := (fun z h => by rw [h]); first | exact key _ (tk_1 a) | exact key _ (tk_2 a b) | exact key _ (tk_4 a b c) | exact key _ (tk_5 a b c d) | exact key _ (tk_6 a b c d e) | exact key _ (tk_3 a b c d e f) | exact key _ (tk_7 a b c d e f)), E⟩
 have I := f
 refine Zu ?_
 refine Zb (av _ _ ?_)
 refine Zf fun bp aE => ?_
 refine Zc (Za rfl rfl (Zg rfl) (Zl rfl rfl ?_))
 refine Step.call (Zm (xs := [.tmp 34, .const (Go.Value.string { data := #[123, 125] })]) fk47 rfl) (Zex s ([123, 125]) rfl om) fun aF bq J => ?_
 obtain ⟨rfl, K⟩ := J
 have aG := K.size
 have E := E.trans K
 have aH := Zkc s [123, 125]
 refine Zl rfl rfl ?_
 refine Step.call (Zm (xs := [.tmp 35, .const (Go.Value.string { data := #[44] })]) fk46 rfl) (Zfp (Lib.trimS s ([123, 125])) ([44]) (hG.ch E) om) fun aI br L => ?_
 obtain ⟨rfl, M⟩ := L
 have aJ := M.size
 have E := E.trans M
 refine Za rfl rfl (Zg rfl) (Za rfl rfl (Yk rfl rfl) (Za rfl rfl (Yk rfl rfl) (Za rfl rfl (Yk rfl rfl) (Za rfl rfl (Ze rfl) (Za rfl rfl (Ze rfl) (Za rfl rfl (Ze rfl) (Zd ?_)))))))
 refine Zb (aE _ _ ?_)
 refine Zf fun bs aK => ?_
 refine Zc (Za rfl rfl (Zz (parts := [(0, .const (Go.Value.int Go.IntKind.i64 7))]) (cells := [(.int .i64 7), (.int .i64 0), (.int .i64 0), (.int .i64 0)]) zr42 pl42 rfl rfl) (Zl rfl rfl ?_))
 refine Yl zr42 fun x aL y O bu => ?_
 have aM := O.size
 have E := E.trans O
 have bv := y.lt
 replace y : Blk aL x 42 [(.int .i64 0), (.int .i64 0), (.int .i64 0), (.int .i64 0)] := y
 refine Zl rfl rfl ?_
 refine Zq (off := 0) 4 y sz42 rfl (us := [(.int .i64 7), (.int .i64 0), (.int .i64 0), (.int .i64 0)]) rfl rfl rfl rfl fun aN m P => ?_
 have aO := P.size
 have E := E.step P (lS om)
 replace m : Blk aN x 42 [(.int .i64 7), (.int .i64 0), (.int .i64 0), (.int .i64 0)] := m
 refine Zd (Zb (aK _ _ ?_))
 refine Zf fun bw aP => ?_
 refine Zc (Za rfl rfl (Zg rfl) (Zl rfl rfl ?_))
 refine Step.call (Zm (xs := [.tmp 42]) fk48 rfl) (Zbo ((Lib.cut (Lib.trimS s ([123, 125])) ([44])).1) (hG.ch E) ) fun aQ bx Q => ?_
 obtain ⟨rfl, A⟩ := Q
 have aR := A.size
 have E := E.trans A
 refine Za rfl rfl (Zg rfl) (Za rfl rfl (Yk rfl rfl) (Za rfl rfl (Yk rfl rfl) (Za rfl rfl (Zi fa42_2 rfl) (Zl rfl rfl ?_))))
 have aS := m.ch0 A
 refine Ys (off := 2) aS sz3 rfl rfl rfl rfl fun aT n R => ?_
 have aU := R.size
 have E := E.step R (lS om)
 replace n : Blk aT x 42 [(.int .i64 7), (.int .i64 0), (.int .i64 ((piR ((Lib.cut (Lib.trimS s ([123, 125])) ([44])).1)).1)), (.int .i64 0)] := n
 refine Zd (Zb (aP _ _ ?_))
 refine Zf fun bz aV => ?_
 refine Zc (Za rfl rfl (Zg rfl) (Zl rfl rfl ?_))
 refine Step.call (Zm (xs := [.tmp 48]) fk48 rfl) (Zbo ((Lib.cut (Lib.trimS s ([123, 125])) ([44])).2.1) (hG.ch E) ) fun aW bA S => ?_
 obtain ⟨rfl, B⟩ := S
 have aX := B.size
 have E := E.trans B
 refine Za rfl rfl (Zg rfl) (Za rfl rfl (Yk rfl rfl) (Za rfl rfl (Yk rfl rfl) (Za rfl rfl (Zi fa42_3 rfl) (Zl rfl rfl ?_))))
 have aY := n.ch0 B
 refine Ys (off := 3) aY sz3 rfl rfl rfl rfl fun aZ o T => ?_
 have a0 := T.size
 have E := E.step T (lS om)
 replace o : Blk aZ x 42 [(.int .i64 7), (.int .i64 0), (.int .i64 ((piR ((Lib.cut (Lib.trimS s ([123, 125])) ([44])).1)).1)), (.int .i64 ((piR ((Lib.cut (Lib.trimS s ([123, 125])) ([44])).2.1)).1))] := o
 refine Zd (Zb (aV _ _ ?_))
 refine Zf fun bB a1 => ?_
 refine Zc (Za rfl rfl (Zr o.at_ agg42 sz42 rfl) (Zl rfl rfl ?_))
 have a2 := ((((((((q.ch0 u).ch0 K).ch0 M).ch0 O).ch P (nS om)).ch0 A).ch R (nS om)).ch0 B).ch T (nS om)
 refine Zq (off := 0) 4 a2 sz42 rfl (us := [(.int .i64 7), (.int .i64 0), (.int .i64 ((piR ((Lib.cut (Lib.trimS s ([123, 125])) ([44])).1)).1)), (.int .i64 ((piR ((Lib.cut (Lib.trimS s ([123, 125])) ([44])).2.1)).1))]) rfl rfl rfl rfl fun a3 p aa => ?_
 have a4 := aa.size
 have E := E.step aa (lS om)
 replace p : Blk a3 r 42 [(.int .i64 7), (.int .i64 0), (.int .i64 ((piR ((Lib.cut (Lib.trimS s ([123, 125])) ([44])).1)).1)), (.int .i64 ((piR ((Lib.cut (Lib.trimS s ([123, 125])) ([44])).2.1)).1))] := p
 refine Zd (Zb (a1 _ _ ?_))
 refine Zp ?_
 exact Zh [_] (Zn p rfl agg42 sz42 trivial) ⟨(by have key : ∀ z : Token, z = tkR s → Value.agg (Token.cs z).toArray = Value.agg (Token.cs (tkR s)).toArray := (fun z h => by rw [h]); first | exact key _ (tk_1 a) | exact key _ (tk_2 a b) | exact key _ (tk_4 a b c) | exact key _ (tk_5 a b c d) | exact key _ (tk_6 a b c d e) | exact key _ (tk_3 a b c d e f) | exact key _ (tk_7 a b c d e f)), E⟩

shelf_lay LaysM.n146 Nm 146 at Tryz as lay_146_27
/-- strings.Split@g -/
theorem Zdh {w : World} (s : List UInt8) (sep : List UInt8) (hG : GS Tryz.prog 0 w) (hsep : sep = [32]) (hb : s.length ≤ 4194304) :
 Ctr Tryz.prog 27 #[(bst s), (bst sep)] w (fun v w' => Ol scs 9 1 w' v (Zx s 32 []) ∧ Lo w.heap.size v ∧ Ch [] w w') := by
 subst hsep; exact Znw lay_146_27 hG hb

/-- impl.ParseExpr -/
theorem Zbd {w : World} (s : List UInt8) (hG : GS Tryz.prog 0 w) (hb : s.length ≤ 1048576) :
 Ctr Tryz.prog 15 #[(bst s)] w (fun v w' => ∃ (ai : Value), v = .tuple #[.agg #[ai], .bool ((Xp s).2)] ∧ Ol Token.cs 42 4 w' ai ((Xp s).1) ∧ Lo w.heap.size ai ∧ Ch [] w w') := by
 have E := Ch.refl [] w
 have cl := Zbu s 32 []
 refine Zv (N := 33) (vs0 := [(bst s)]) Tryz.func15 rfl rfl rfl ?_
 refine Zf fun K1 H1 => ?_
 refine Zc (Zl rfl rfl ?_)
 refine Yl zr26 fun ay W2 aQ C2 cm => ?_
 have cn := C2.size
 have E := E.trans C2
 have co := aQ.lt
 replace aQ : Blk W2 ay 26 [(.slice none 0 0)] := aQ
 refine Za rfl rfl (Ze rfl) (Zd (Zb (H1 _ _ ?_)))
 refine Zf fun K3 H3 => ?_
 refine Zc (Za rfl rfl (Zz (parts := []) (cells := [(.slice none 0 0)]) zr26 pl26 rfl rfl) (Zl rfl rfl ?_))
 refine Yl zr26 fun q W4 aR C4 cp => ?_
 have cq := C4.size
 have E := E.trans C4
 have cr := aR.lt
 replace aR : Blk W4 q 26 [(.slice none 0 0)] := aR
 refine Zl rfl rfl ?_
 refine Zq (off := 0) 1 aR sz26 rfl (us := [(.slice none 0 0)]) rfl rfl rfl rfl fun W5 aj C5 => ?_
 have ct := C5.size
 have E := E.step C5 (lS om)
 replace aj : Blk W5 q 26 [(.slice none 0 0)] := aj
 refine Zd (Zb (H3 _ _ ?_))
 refine Zf fun K7 H7 => ?_
 refine Zf fun K8 H8 => ?_
 refine Zc (Za rfl rfl (Zg rfl) (Zl rfl rfl ?_))
 refine Step.call (Zm (xs := [.tmp 8, .const (Go.Value.string { data := #[32] })]) fk27 rfl) (Zdh s ([32]) (hG.ch E) rfl om) fun cu W9 aS => ?_
 obtain ⟨aS, I, C9⟩ := aS
 have cv := C9.size
 have E := E.trans C9
 obtain ⟨ak, al, rfl, bn, r⟩ := aS.opn
 refine Za rfl rfl (Xk (by rw [el52]; rfl) rfl) (Za rfl rfl (Zg rfl) (Zd (Zb (H8 _ _ ?_))))
 refine Yj ?_
 have am : Ol Token.cs 42 4 W9 (.slice none 0 0) (((Zx s 32 []).take 0).map tkR) := by
  have hx := Ol.nil (cs := Token.cs) (e := 42) (k := 4) W9
  simpa using hx
 have bp := aj.ch0 C9
 have bq := ((aQ.ch0 C4).ch C5 (nS om)).ch0 C9
 refine Qf (σ := Nat × Value) (fun ⟨i, tv⟩ => [(0, (bst s)), (2, (.pointer (some ⟨ay, 0, none⟩))), (3, (.bool false)), (4, (.pointer (some ⟨q, 0, none⟩))), (9, (.slice ak (Zx s 32 []).length al)), (10, (.int .i64 (((Zx s 32 []).length : Nat) : Int))), (11, (.int .i64 ((i : Nat) : Int)))]) (fun ⟨i, tv⟩ wx => Ch [] w wx ∧ W9.heap.size ≤ wx.heap.size ∧ (i ≤ (Zx s 32 []).length) ∧ Blk wx ay 26 [(.slice none 0 0)] ∧ Ol scs 9 1 wx (.slice ak (Zx s 32 []).length al) (Zx s 32 []) ∧ Ol Token.cs 42 4 wx tv (((Zx s 32 []).take i).map tkR) ∧ Lo W9.heap.size tv ∧ Blk wx q 26 [tv] ∧ (∀ g ∈ bl tv, g ∉ bl (.slice ak (Zx s 32 []).length al)) ∧ (q ∉ bl tv)) (fun ⟨i, tv⟩ => (Zx s 32 []).length - i) (0, (.slice none 0 0)) (sC4 rfl rfl rfl rfl (sC2 rfl rfl (sC1 rfl (Sub.nil _)))) ⟨E, (Nat.le_refl _), om, bq, aS, am, (Lo.nil _), bp, (fun g hm hg => by cases hm), (fun hm => by cases hm)⟩ ?_
 rintro ⟨i, tv⟩ cw ⟨E, br, hi, p, C, t, b, u, a, f⟩
 have aT := E
 have ba := aT.size
 have aU := p.lt
 obtain ⟨Atv, Ctv, rfl, ltv, D⟩ := t.opn
 refine Zf fun cx bs => ?_
 refine Zc (Za rfl rfl (Qv rfl rfl) (Zd (Zb (bs _ _ ?_))))
 refine Zf fun cy aV => ?_
 refine Zs rfl (fun B => ?_) (fun B => ?_)
 ·have aW := B
  have B := Yb B
  refine Zu ?_
  refine Zb (aV _ _ ?_)
  refine Zf fun cz aX => ?_
  refine Yj ?_
  refine Zf fun cA bu => ?_
  refine Zc (Zl rfl rfl ?_)
  refine (Xc C.ls Zaj el52 sz9 rfl rfl rfl om fun bv o F aY => ?_)
  have bw := Zdd s 32 [] o (Zaa F)
  have bx : ([] : List UInt8).length = 0 := rfl
  refine Za rfl rfl (Ym aY agg9 rfl rfl) (Za rfl rfl (Ze rfl) (Zd (Zb (bu _ _ ?_))))
  refine Xm ((bl (.slice Atv (((Zx s 32 []).take i).map tkR).length Ctv)) ++ [q]) 8 mixed rfl fun J G => ?_
  have bz := G.size
  have E := E.trans G
  refine dV 0 rfl rfl rfl (fun _ => Zi fa26_0 rfl) (dV 2 rfl rfl rfl (fun _ => Zg rfl) ?_)
  refine Zam 1 3 (by kernel_rfl) ?_ ?_
  ·refine Yf rfl rfl rfl ?_
   have bb := u.ch0 G
   refine s_v (Zo bb.at_ agg24 rfl rfl) ?_
   refine ⟨(Ch.refl _ _), ?_⟩
   refine dO 3 (Yf rfl rfl rfl ?_)
   refine Step.call (Zm (xs := [.tmp 17]) fk28 rfl) (Zcd o (hG.ch E) om) fun aZ bA an => ?_
   obtain ⟨rfl, ao⟩ := an
   have bB := ao.size
   have E := E.trans ao
   have V : Ch ((bl (.slice Atv (((Zx s 32 []).take i).map tkR).length Ctv)) ++ [q]) J bA := ((Ch.refl _ _).trans ao.of_nil)
   refine ⟨V, ?_⟩
   refine dO 4 (Yf rfl rfl rfl ?_)
   refine Yg (cs := Token.cs) (parts := [(0, .tmp 18)]) (⟨0, 0, 0, 0⟩ : Token) [(tkR o)] el24 sz42 zr42 Token.len (by decide) rfl rfl rfl (by decide) (by decide) rfl fun aG bC x X ap => ?_
   have bD := ap.size
   have E := E.trans ap
   obtain ⟨Y, Z, rfl, aa, K⟩ := x.opn
   have ab : Ch ((bl (.slice Atv (((Zx s 32 []).take i).map tkR).length Ctv)) ++ [q]) J bC := (V.trans ap.of_nil)
   refine ⟨ab, ?_⟩
   refine dO 5 (Yf rfl rfl rfl ?_)
   have bE := ((t.ch0 G).ch0 ao).ch0 ap
   refine Yt (cs := Token.cs) el24 sz42 by42 zr42 rfl (by decide) Token.one bE x.ls rfl rfl bd bd b om fun aH bF y z l az => ?_
   have bG := az.size
   have E := E.step az (fun i hi => .inl (by have aI := b _ hi; omega))
   obtain ⟨m, n, rfl, ac, c⟩ := y.opn
   have ad : Ch ((bl (.slice Atv (((Zx s 32 []).take i).map tkR).length Ctv)) ++ [q]) J bF := (ab.step az (fun i hm => by exact .inr (List.mem_append_left _ hm)))
   refine ⟨ad, ?_⟩
   refine dV 6 rfl rfl rfl (fun _ => Zi fa26_0 rfl) (dO 7 (Yf rfl rfl rfl ?_))
   have bH := ((bb.ch0 ao).ch0 ap).ch az (fun hm => by exact f (by first | exact hm | exact A ▸ hm))
   refine Ys (off := 0) bH sz24 rfl rfl rfl rfl fun a0 L aA => ?_
   have bI := aA.size
   have E := E.step aA (lS om)
   replace L : Blk a0 q 26 [(.slice m ((((Zx s 32 []).take i).map tkR ++ [(tkR o)])).length n)] := L
   have aJ : Ch ((bl (.slice Atv (((Zx s 32 []).take i).map tkR).length Ctv)) ++ [q]) J a0 := (ad.step aA (fun i hm => by have A := List.mem_singleton.1 hm; exact .inr (by rw [A]; exact (List.mem_append_right _ (List.mem_singleton.2 rfl)))))
   refine ⟨aJ, ?_⟩
   refine Yo (by kernel_rfl) ?_
   refine Yd (Zb (aX _ _ (Zc (Za rfl rfl (Yy om rfl rfl) (Za rfl rfl (Zg rfl) (Zd ?_))))))
   have bJ := y.ch aA (fun g hg hm => by have A := List.mem_singleton.1 hm; rcases l with ea | ea; (rw [ea] at hg; exact f (by first | exact hg | exact A ▸ hg)); (have aK := c _ hg; rw [ea] at hg; have ae := List.mem_singleton.1 hg; omega))
   have aq : Ol Token.cs 42 4 a0 (.slice m ((((Zx s 32 []).take i).map tkR ++ [(tkR o)])).length n) (((Zx s 32 []).take (i + 1)).map tkR) := by
    have hx := bJ
    exact hx.eq (Xr F)
   have bK := ((((p.ch0 G).ch0 ao).ch0 ap).ch az (fun hm => by have aI := b _ hm; have bc := D _ hm; omega)).ch aA (nS om)
   have bL := ((((C.ch0 G).ch0 ao).ch0 ap).ch az (fun g hg hm => by exact a _ hm hg)).ch aA (dS I r om)
   exact Zb (Exists.intro ((i + 1), (.slice m ((((Zx s 32 []).take i).map tkR ++ [(tkR o)])).length n)) ⟨⟨E, om, om, bK, bL, aq, (Lo.down z om), L, (fun g hm hg => by rcases l with ea | ea; (rw [ea] at hm; exact a _ hm hg); (have M := c _ hm; rw [ea] at hm; have ae := List.mem_singleton.1 hm; have be := I _ hg; have bf := r _ hg; omega)), (fun hm => by rcases l with ea | ea; (rw [ea] at hm; exact f (by first | exact hm | exact A ▸ hm)); (have M := c _ hm; rw [ea] at hm; have ae := List.mem_singleton.1 hm; omega))⟩, sC4 rfl rfl rfl rfl (sC2 rfl rfl (sC1 rfl (Sub.nil _))), (by first | omega | (dsimp only; omega))⟩)
  refine Yf rfl rfl rfl ?_
  refine Step.call (Zm (xs := [.tmp 17]) fk28 rfl) (Zcd o (hG.ch E) om) fun aZ bM an => ?_
  obtain ⟨rfl, O⟩ := an
  have bN := O.size
  have E := E.trans O
  have H : Ch ((bl (.slice Atv (((Zx s 32 []).take i).map tkR).length Ctv)) ++ [q]) J bM := ((Ch.refl _ _).trans O.of_nil)
  refine ⟨H, ?_⟩
  refine Zam 1 4 (by kernel_rfl) ?_ ?_
  ·refine Yf rfl rfl rfl ?_
   have bg := (u.ch0 G).ch0 O
   refine s_v (Zo bg.at_ agg24 rfl rfl) ?_
   refine ⟨H, ?_⟩
   refine dO 4 (Yf rfl rfl rfl ?_)
   refine Yg (cs := Token.cs) (parts := [(0, .tmp 18)]) (⟨0, 0, 0, 0⟩ : Token) [(tkR o)] el24 sz42 zr42 Token.len (by decide) rfl rfl rfl (by decide) (by decide) rfl fun aG bO x X au => ?_
   have bP := au.size
   have E := E.trans au
   obtain ⟨Y, Z, rfl, aa, K⟩ := x.opn
   have af : Ch ((bl (.slice Atv (((Zx s 32 []).take i).map tkR).length Ctv)) ++ [q]) J bO := (H.trans au.of_nil)
   refine ⟨af, ?_⟩
   refine dO 5 (Yf rfl rfl rfl ?_)
   have bQ := ((t.ch0 G).ch0 O).ch0 au
   refine Yt (cs := Token.cs) el24 sz42 by42 zr42 rfl (by decide) Token.one bQ x.ls rfl rfl bd bd b om fun aH bR y z l aB => ?_
   have bS := aB.size
   have E := E.step aB (fun i hi => .inl (by have aI := b _ hi; omega))
   obtain ⟨m, n, rfl, ac, c⟩ := y.opn
   have ag : Ch ((bl (.slice Atv (((Zx s 32 []).take i).map tkR).length Ctv)) ++ [q]) J bR := (af.step aB (fun i hm => by exact .inr (List.mem_append_left _ hm)))
   refine ⟨ag, ?_⟩
   refine dV 6 rfl rfl rfl (fun _ => Zi fa26_0 rfl) (dO 7 (Yf rfl rfl rfl ?_))
   have bT := (bg.ch0 au).ch aB (fun hm => by exact f (by first | exact hm | exact A ▸ hm))
   refine Ys (off := 0) bT sz24 rfl rfl rfl rfl fun a1 P aC => ?_
   have bU := aC.size
   have E := E.step aC (lS om)
   replace P : Blk a1 q 26 [(.slice m ((((Zx s 32 []).take i).map tkR ++ [(tkR o)])).length n)] := P
   have aL : Ch ((bl (.slice Atv (((Zx s 32 []).take i).map tkR).length Ctv)) ++ [q]) J a1 := (ag.step aC (fun i hm => by have A := List.mem_singleton.1 hm; exact .inr (by rw [A]; exact (List.mem_append_right _ (List.mem_singleton.2 rfl)))))
   refine ⟨aL, ?_⟩
   refine Yo (by kernel_rfl) ?_
   refine Yd (Zb (aX _ _ (Zc (Za rfl rfl (Yy om rfl rfl) (Za rfl rfl (Zg rfl) (Zd ?_))))))
   have bV := y.ch aC (fun g hg hm => by have A := List.mem_singleton.1 hm; rcases l with ea | ea; (rw [ea] at hg; exact f (by first | exact hg | exact A ▸ hg)); (have aK := c _ hg; rw [ea] at hg; have ae := List.mem_singleton.1 hg; omega))
   have av : Ol Token.cs 42 4 a1 (.slice m ((((Zx s 32 []).take i).map tkR ++ [(tkR o)])).length n) (((Zx s 32 []).take (i + 1)).map tkR) := by
    have hx := bV
    exact hx.eq (Xr F)
   have bW := ((((p.ch0 G).ch0 O).ch0 au).ch aB (fun hm => by have aI := b _ hm; have bc := D _ hm; omega)).ch aC (nS om)
   have bX := ((((C.ch0 G).ch0 O).ch0 au).ch aB (fun g hg hm => by exact a _ hm hg)).ch aC (dS I r om)
   exact Zb (Exists.intro ((i + 1), (.slice m ((((Zx s 32 []).take i).map tkR ++ [(tkR o)])).length n)) ⟨⟨E, om, om, bW, bX, av, (Lo.down z om), P, (fun g hm hg => by rcases l with ea | ea; (rw [ea] at hm; exact a _ hm hg); (have M := c _ hm; rw [ea] at hm; have ae := List.mem_singleton.1 hm; have be := I _ hg; have bf := r _ hg; omega)), (fun hm => by rcases l with ea | ea; (rw [ea] at hm; exact f (by first | exact hm | exact A ▸ hm)); (have M := c _ hm; rw [ea] at hm; have ae := List.mem_singleton.1 hm; omega))⟩, sC4 rfl rfl rfl rfl (sC2 rfl rfl (sC1 rfl (Sub.nil _))), (by first | omega | (dsimp only; omega))⟩)
  refine Yf rfl rfl rfl ?_
  refine Yg (cs := Token.cs) (parts := [(0, .tmp 18)]) (⟨0, 0, 0, 0⟩ : Token) [(tkR o)] el24 sz42 zr42 Token.len (by decide) rfl rfl rfl (by decide) (by decide) rfl fun aG bY x X aw => ?_
  have bZ := aw.size
  have E := E.trans aw
  obtain ⟨Y, Z, rfl, aa, K⟩ := x.opn
  have Q : Ch ((bl (.slice Atv (((Zx s 32 []).take i).map tkR).length Ctv)) ++ [q]) J bY := (H.trans aw.of_nil)
  refine ⟨Q, ?_⟩
  refine dO 1 (Yf rfl rfl rfl ?_)
  have bh := ((u.ch0 G).ch0 O).ch0 aw
  refine s_v (Zo bh.at_ agg24 rfl rfl) ?_
  refine ⟨Q, ?_⟩
  refine dO 5 (Yf rfl rfl rfl ?_)
  have b0 := ((t.ch0 G).ch0 O).ch0 aw
  refine Yt (cs := Token.cs) el24 sz42 by42 zr42 rfl (by decide) Token.one b0 x.ls rfl rfl bd bd b om fun aH b1 y z l aD => ?_
  have b2 := aD.size
  have E := E.step aD (fun i hi => .inl (by have aI := b _ hi; omega))
  obtain ⟨m, n, rfl, ac, c⟩ := y.opn
  have ah : Ch ((bl (.slice Atv (((Zx s 32 []).take i).map tkR).length Ctv)) ++ [q]) J b1 := (Q.step aD (fun i hm => by exact .inr (List.mem_append_left _ hm)))
  refine ⟨ah, ?_⟩
  refine dV 6 rfl rfl rfl (fun _ => Zi fa26_0 rfl) (dO 7 (Yf rfl rfl rfl ?_))
  have b3 := bh.ch aD (fun hm => by exact f (by first | exact hm | exact A ▸ hm))
  refine Ys (off := 0) b3 sz24 rfl rfl rfl rfl fun a2 R aE => ?_
  have b4 := aE.size
  have E := E.step aE (lS om)
  replace R : Blk a2 q 26 [(.slice m ((((Zx s 32 []).take i).map tkR ++ [(tkR o)])).length n)] := R
  have aM : Ch ((bl (.slice Atv (((Zx s 32 []).take i).map tkR).length Ctv)) ++ [q]) J a2 := (ah.step aE (fun i hm => by have A := List.mem_singleton.1 hm; exact .inr (by rw [A]; exact (List.mem_append_right _ (List.mem_singleton.2 rfl)))))
  refine ⟨aM, ?_⟩
  refine Yo (by kernel_rfl) ?_
  refine Yd (Zb (aX _ _ (Zc (Za rfl rfl (Yy om rfl rfl) (Za rfl rfl (Zg rfl) (Zd ?_))))))
  have b5 := y.ch aE (fun g hg hm => by have A := List.mem_singleton.1 hm; rcases l with ea | ea; (rw [ea] at hg; exact f (by first | exact hg | exact A ▸ hg)); (have aK := c _ hg; rw [ea] at hg; have ae := List.mem_singleton.1 hg; omega))
  have ax : Ol Token.cs 42 4 a2 (.slice m ((((Zx s 32 []).take i).map tkR ++ [(tkR o)])).length n) (((Zx s 32 []).take (i + 1)).map tkR) := by
   have hx := b5
   exact hx.eq (Xr F)
  have b6 := ((((p.ch0 G).ch0 O).ch0 aw).ch aD (fun hm => by have aI := b _ hm; have bc := D _ hm; omega)).ch aE (nS om)
  have b7 := ((((C.ch0 G).ch0 O).ch0 aw).ch aD (fun g hg hm => by exact a _ hm hg)).ch aE (dS I r om)
  exact Zb (Exists.intro ((i + 1), (.slice m ((((Zx s 32 []).take i).map tkR ++ [(tkR o)])).length n)) ⟨⟨E, om, om, b6, b7, ax, (Lo.down z om), R, (fun g hm hg => by rcases l with ea | ea; (rw [ea] at hm; exact a _ hm hg); (have M := c _ hm; rw [ea] at hm; have ae := List.mem_singleton.1 hm; have be := I _ hg; have bf := r _ hg; omega)), (fun hm => by rcases l with ea | ea; (rw [ea] at hm; exact f (by first | exact hm | exact A ▸ hm)); (have M := c _ hm; rw [ea] at hm; have ae := List.mem_singleton.1 hm; omega))⟩, sC4 rfl rfl rfl rfl (sC2 rfl rfl (sC1 rfl (Sub.nil _))), (by first | omega | (dsimp only; omega))⟩)
 have aW := B
 have B := Yc B
 refine Xu (Yh (Yh (Xd ?_)))
 refine Zb (H7 _ _ ?_)
 refine Zf fun cB a3 => ?_
 refine Zf fun cC bi => ?_
 refine Zc (Za rfl rfl (Zg rfl) (Za rfl rfl (Zck rfl rfl) (Za rfl rfl (Zg rfl) ?_)))
 refine Yi (d := 25) rfl (fun h => ?_) (fun h => ?_)
 ·have a4 := h
  have h := Yb h
  refine Zj rfl rfl (Zj rfl rfl (Zj rfl rfl (Zj rfl rfl (Za rfl rfl (Ye rfl rfl) (Zd (Zb (bi _ _ ?_)))))))
  refine Yz rfl ?_
  refine Zf fun cD b8 => ?_
  refine Zc (Za rfl rfl (Zz (parts := []) (cells := [(.slice none 0 0)]) zr26 pl26 rfl rfl) (Zl rfl rfl ?_))
  refine Zq (off := 0) 1 p sz26 rfl (us := [(.slice none 0 0)]) rfl rfl rfl rfl fun a5 S bj => ?_
  have b9 := bj.size
  have E := E.step bj (lS om)
  replace S : Blk a5 ay 26 [(.slice none 0 0)] := S
  refine Za rfl rfl (Ze rfl) (Zd (Zb (b8 _ _ ?_)))
  refine Zp (Zk ?_)
  clear aV a3
  have aN : Ol Token.cs 42 4 a5 (.slice none 0 0) ((Xp s).1) := by
   have hx := Ol.nil (cs := Token.cs) (e := 42) (k := 4) a5
   first | (rw [pe_n (s := s) (ts := ((Zx s 32 []).take i).map tkR) (by rw [List.take_of_length_le om]) (.inl h)]; exact hx) | (rw [pe_n (s := s) (ts := ((Zx s 32 []).take i).map tkR) (by rw [List.take_of_length_le om]) (.inr j)]; exact hx) | (rw [pe_y (s := s) (ts := ((Zx s 32 []).take i).map tkR) (by rw [List.take_of_length_le om]) j h]; exact hx)
  exact Zh [_, _] (Zn S rfl agg26 sz26 ⟨rfl, trivial⟩) ⟨(.slice none 0 0), (congrArg (fun zq => (Value.tuple #[.agg #[(.slice none 0 0)], .bool zq])) (by first | rw [pe_n (s := s) (ts := ((Zx s 32 []).take i).map tkR) (by rw [List.take_of_length_le om]) (.inl h)] | rw [pe_n (s := s) (ts := ((Zx s 32 []).take i).map tkR) (by rw [List.take_of_length_le om]) (.inr j)] | rw [pe_y (s := s) (ts := ((Zx s 32 []).take i).map tkR) (by rw [List.take_of_length_le om]) j h])), aN, (Lo.nil _), E⟩
 have a4 := h
 have h := Yc h
 refine Za rfl rfl (Zr u.at_ agg26 sz26 rfl) (Zl rfl rfl ?_)
 refine Step.call (Zm (xs := [.tmp 26]) fk14 rfl) (Zab t.ls (by rw [List.length_map, List.length_take]; omega)) fun ca cE a6 => ?_
 obtain ⟨rfl, aF⟩ := a6
 have cb := aF.size
 have E := E.trans aF
 refine Za rfl rfl (Zg rfl) (Za rfl rfl (Zmj rfl rfl) (Za rfl rfl (Ya rfl rfl) (Zd (Zb (bi _ _ ?_)))))
 refine Zs rfl (fun j => ?_) (fun j => ?_)
 ·have a7 := j
  have j := Yc (Xv j)
  refine Zf fun cF cc => ?_
  refine Zc (Za rfl rfl (Zz (parts := []) (cells := [(.slice none 0 0)]) zr26 pl26 rfl rfl) (Zl rfl rfl ?_))
  have cd := p.ch0 aF
  refine Zq (off := 0) 1 cd sz26 rfl (us := [(.slice none 0 0)]) rfl rfl rfl rfl fun a8 T bk => ?_
  have ce := bk.size
  have E := E.step bk (lS om)
  replace T : Blk a8 ay 26 [(.slice none 0 0)] := T
  refine Za rfl rfl (Ze rfl) (Zd (Zb (cc _ _ ?_)))
  refine Zp (Zk ?_)
  clear aV a3
  have aO : Ol Token.cs 42 4 a8 (.slice none 0 0) ((Xp s).1) := by
   have hx := Ol.nil (cs := Token.cs) (e := 42) (k := 4) a8
   first | (rw [pe_n (s := s) (ts := ((Zx s 32 []).take i).map tkR) (by rw [List.take_of_length_le om]) (.inl h)]; exact hx) | (rw [pe_n (s := s) (ts := ((Zx s 32 []).take i).map tkR) (by rw [List.take_of_length_le om]) (.inr j)]; exact hx) | (rw [pe_y (s := s) (ts := ((Zx s 32 []).take i).map tkR) (by rw [List.take_of_length_le om]) j h]; exact hx)
  exact Zh [_, _] (Zn T rfl agg26 sz26 ⟨rfl, trivial⟩) ⟨(.slice none 0 0), (congrArg (fun zq => (Value.tuple #[.agg #[(.slice none 0 0)], .bool zq])) (by first | rw [pe_n (s := s) (ts := ((Zx s 32 []).take i).map tkR) (by rw [List.take_of_length_le om]) (.inl h)] | rw [pe_n (s := s) (ts := ((Zx s 32 []).take i).map tkR) (by rw [List.take_of_length_le om]) (.inr j)] | rw [pe_y (s := s) (ts := ((Zx s 32 []).take i).map tkR) (by rw [List.take_of_length_le om]) j h])), aO, (Lo.nil _), E⟩
 have a7 := j
 have j := Yb (Xw j)
 refine Zu ?_
 refine Zb (a3 _ _ ?_)
 refine Zf fun cG cf => ?_
 refine Zc ?_
 have cg := u.ch0 aF
 refine Za rfl rfl (Zr cg.at_ agg26 sz26 rfl) (Zl rfl rfl ?_)
 have ci := p.ch0 aF
 refine Zq (off := 0) 1 ci sz26 rfl (us := [(.slice Atv (((Zx s 32 []).take i).map tkR).length Ctv)]) rfl rfl rfl rfl fun bm U a9 => ?_
 have cj := a9.size
 have E := E.step a9 (lS om)
 replace U : Blk bm ay 26 [(.slice Atv (((Zx s 32 []).take i).map tkR).length Ctv)] := U
 refine Za rfl rfl (Ze rfl) (Zd (Zb (cf _ _ ?_)))
 refine Zp ?_
 have ck := (t.ch0 aF).ch a9 (dS b D om)
 have aP : Ol Token.cs 42 4 bm (.slice Atv (((Zx s 32 []).take i).map tkR).length Ctv) ((Xp s).1) := by
  have hx := ck
  first | (rw [pe_n (s := s) (ts := ((Zx s 32 []).take i).map tkR) (by rw [List.take_of_length_le om]) (.inl h)]; exact hx) | (rw [pe_n (s := s) (ts := ((Zx s 32 []).take i).map tkR) (by rw [List.take_of_length_le om]) (.inr j)]; exact hx) | (rw [pe_y (s := s) (ts := ((Zx s 32 []).take i).map tkR) (by rw [List.take_of_length_le om]) j h]; exact hx)
 exact Zh [_, _] (Zn U rfl agg26 sz26 ⟨rfl, trivial⟩) ⟨(.slice Atv (((Zx s 32 []).take i).map tkR).length Ctv), (congrArg (fun zq => (Value.tuple #[.agg #[(.slice Atv (((Zx s 32 []).take i).map tkR).length Ctv)], .bool zq])) (by first | rw [pe_n (s := s) (ts := ((Zx s 32 []).take i).map tkR) (by rw [List.take_of_length_le om]) (.inl h)] | rw [pe_n (s := s) (ts := ((Zx s 32 []).take i).map tkR) (by rw [List.take_of_length_le om]) (.inr j)] | rw [pe_y (s := s) (ts := ((Zx s 32 []).take i).map tkR) (by rw [List.take_of_length_le om]) j h])), aP, (Lo.down b om), E⟩

/-- impl.tree).collect -/
theorem Zbs : ∀ (n : Nat) {w : World} {LT_x L_out : Nat} {p_x : Addr} {x : Tr} (aj : TrAt w LT_x L_out p_x x) {b_out t_out : Nat} {c : Value} {a : List Token} (m_out : Blk w b_out t_out [c]) (P : L_out ≤ b_out) (y : Ol Token.cs 42 4 w c a) (z : b_out ∉ bl c) (f : Lo L_out c) (hb : a.length + x.sz ≤ 4194304) (hsz : x.sz < n),
 Ctr Tryz.prog 34 #[(.pointer (some p_x)), (.pointer (some ⟨b_out, 0, none⟩))] w (fun v w' => ∃ (C : Value), v = .tuple #[] ∧ Blk w' b_out t_out [C] ∧ Ol Token.cs 42 4 w' C (a ++ x.flat) ∧ (∀ g ∈ bl C, w.heap.size ≤ g ∨ g ∈ (b_out :: bl c)) ∧ b_out ∉ bl C ∧ Ch (b_out :: bl c) w w') := by
 intro n
 induction n with
 | zero => intros; omega
 | succ n ih =>
 intro w LT_x L_out p_x x aj b_out t_out c a m_out P y z f hb hsz
 obtain ⟨aK, aL, S, T, ak, U⟩ := aj.open
 have a0 := U.1
 obtain ⟨d, e, rfl, aD, j⟩ := y.opn
 have aE := m_out.lt
 have E := Ch.refl (b_out :: bl (.slice d a.length e)) w
 have k2 := x.kids_le
 refine Zv (N := 32) (vs0 := [(.pointer (some p_x)), (.pointer (some ⟨b_out, 0, none⟩))]) Tryz.func34 rfl rfl rfl ?_
 refine Zf fun K1 H1 => ?_
 refine Zf fun K2 H2 => ?_
 refine Zc (Za rfl rfl (Zg rfl) (Za rfl rfl (Zy rfl) (Za rfl rfl (Zi fa45_1 rfl) (Za rfl rfl (Zo T agg43 rfl rfl) (Za rfl rfl (Xk (by rw [el43]; rfl) rfl) (Za rfl rfl (Zg rfl) (Zd ?_)))))))
 refine Zb (H2 _ _ ?_)
 refine Yj ?_
 have al : Ol Token.cs 42 4 w (.slice d a.length e) (a ++ Yv (x.kids.take 0)) := by
  have hx := y
  simpa [Yv] using hx
 refine Qf (σ := Nat × Value) (fun ⟨i, sv⟩ => [(0, (.pointer (some p_x))), (1, (.pointer (some ⟨b_out, 0, none⟩))), (9, (.slice aK S.length aL)), (10, (.int .i64 ((S.length : Nat) : Int))), (11, (.int .i64 ((i : Nat) : Int)))]) (fun ⟨i, sv⟩ wx => Ch (b_out :: bl (.slice d a.length e)) w wx ∧ w.heap.size ≤ wx.heap.size ∧ (i ≤ x.kids.length) ∧ Ol Token.cs 42 4 wx sv (a ++ Yv (x.kids.take i)) ∧ Lo L_out sv ∧ Blk wx b_out t_out [sv] ∧ (∀ g ∈ bl sv, w.heap.size ≤ g ∨ g ∈ (b_out :: bl (.slice d a.length e))) ∧ (b_out ∉ bl sv)) (fun ⟨i, sv⟩ => x.kids.length - i) (0, (.slice d a.length e)) (sC4 rfl rfl rfl rfl (sC1 rfl (Sub.nil _))) ⟨E, (Nat.le_refl _), om, al, f, m_out, (fun g hm => by exact (.inr (List.mem_cons_of_mem _ hm))), (fun hm => by exact z (by first | exact hm | exact k ▸ hm))⟩ ?_
 rintro ⟨i, sv⟩ R4 ⟨E, a8, hi, D, l, G, b, h⟩
 have Q := E
 have a1 := Q.size
 obtain ⟨Asv, Csv, rfl, lsv, hisv⟩ := D.opn
 refine Zf fun K5 H5 => ?_
 refine Zc (Za rfl rfl (Qv rfl rfl) (Zd (Zb (H5 _ _ ?_))))
 refine Zf fun K6 H6 => ?_
 refine Zs rfl (fun B => ?_) (fun B => ?_)
 ·have a9 := B
  have B := Yb B
  refine Zu ?_
  refine Zb (H6 _ _ ?_)
  refine Zf fun K8 H8 => ?_
  refine Yj ?_
  refine Zf fun K9 H9 => ?_
  refine Zc (Zl rfl rfl ?_)
  have ba := ak.ch Q (fun i hm => by rcases List.mem_cons.1 hm with k | hm; (omega); (have R := f _ hm; have aM := j _ hm; omega))
  refine (Xc ba Yw el43 sz39 rfl rfl rfl om fun aN aO am aa => ?_)
  have bb := U.ch Q (fun i hm => by rcases List.mem_cons.1 hm with k | hm; (omega); (have R := f _ hm; have aM := j _ hm; omega))
  obtain ⟨H, ab, V⟩ := bb.get am
  obtain ⟨a2, a3, aP, aQ, aR, ac⟩ := V.open
  have aS := ac.1
  replace aa : At R4 LT_x L_out aN ([(.pointer (some aO))]) := aa
  refine Za rfl rfl (Ym aa agg39 rfl rfl) (Za rfl rfl (Ze rfl) (Zd (Zb (H9 _ _ (Zc (Za rfl rfl (Zg rfl) (Za rfl rfl (Zg rfl) (Zl rfl rfl ?_))))))))
  refine Step.call (Zm (xs := [.tmp 15, .tmp 16]) fk34 rfl) (ih V G om D (fun hm => by exact h (by first | exact hm | exact k ▸ hm)) (Lo.down l om) (by have R := Zlh ab; simp only [List.length_append]; omega) (by have := Tr.kid_sz ab; omega)) fun bc a4 aT => ?_
  obtain ⟨aU, rfl, ad, F, A, o, a5⟩ := aT
  have be := a5.size
  have E := E.step a5 (fun i hm => by rcases List.mem_cons.1 hm with k | hm; (right; exact k ▸ List.mem_cons_self ..); (exact b _ hm))
  obtain ⟨p, q, rfl, aV, aF⟩ := F.opn
  have I : Lo L_out (.slice p ((a ++ Yv (x.kids.take i)) ++ H.flat).length q) := Zok A o om l
  have u : ∀ g ∈ bl (.slice p ((a ++ Yv (x.kids.take i)) ++ H.flat).length q), w.heap.size ≤ g ∨ g ∈ (b_out :: bl (.slice d a.length e)) := Zpv (m := w.heap.size) (W := (b_out :: bl (.slice d a.length e))) A o om (fun g hm => b _ hm)
  replace ad : Blk a4 b_out t_out [(.slice p ((a ++ Yv (x.kids.take i)) ++ H.flat).length q)] := ad
  refine Zd (Yd (Zb (H8 _ _ (Zc (Za rfl rfl (Yy om rfl rfl) (Za rfl rfl (Zg rfl) (Zd ?_)))))))
  have ae : Ol Token.cs 42 4 a4 (.slice p ((a ++ Yv (x.kids.take i)) ++ H.flat).length q) (a ++ Yv (x.kids.take (i + 1))) := by
   have hx := F
   exact hx.eq (by rw [List.append_assoc, ← Zig ab])
  exact Zb (Exists.intro ((i + 1), (.slice p ((a ++ Yv (x.kids.take i)) ++ H.flat).length q)) ⟨⟨E, om, om, ae, (Lo.down I om), ad, (fun g hm => by exact (u _ hm)), (fun hm => by exact o (by first | exact hm | exact k ▸ hm))⟩, sC4 rfl rfl rfl rfl (sC1 rfl (Sub.nil _)), (by first | omega | (dsimp only; omega))⟩)
 have a9 := B
 have B := Yc B
 refine Xu (Yh (Yh (Xd ?_)))
 refine Zb (H1 _ _ ?_)
 refine Xm ((bl (.slice Asv (a ++ Yv (x.kids.take i)).length Csv)) ++ [b_out]) 14 mixed rfl fun ai af => ?_
 have bf := af.size
 have E := E.trans af.of_nil
 refine dV 0 rfl rfl rfl (fun _ => Zg rfl) (dV 1 rfl rfl rfl (fun _ => Zg rfl) (dV 2 rfl rfl rfl (fun _ => Zy rfl) (dV 3 rfl rfl rfl (fun _ => Zi fa26_0 rfl) (dV 5 rfl rfl rfl (fun _ => Zg rfl) (dV 6 rfl rfl rfl (fun _ => Zy rfl) (dV 7 rfl rfl rfl (fun _ => Zi fa45_0 rfl) ?_))))))
 have bg := (T.ch Q (fun i hm => by rcases List.mem_cons.1 hm with k | hm; (omega); (have R := f _ hm; have aM := j _ hm; omega))).ch0 af
 refine dT 8 rfl rfl rfl (Zjx 4 bg (fun i hm => by rcases List.mem_append.1 hm with hm | hm; (have R := l _ hm; have aM := hisv _ hm; omega); (have R := List.mem_singleton.1 hm; omega)) agg42 sz42 rfl rfl ?_)
 refine Zam 4 9 (by kernel_rfl) ?_ ?_
 ·refine Yf rfl rfl rfl ?_
  have a6 := G.ch0 af
  refine s_v (Zo a6.at_ agg24 rfl rfl) ?_
  refine ⟨(Ch.refl _ _), ?_⟩
  refine dO 9 (Yf rfl rfl rfl ?_)
  refine Yg (cs := Token.cs) (parts := [(0, .tmp 27)]) (⟨0, 0, 0, 0⟩ : Token) [x.tok] el24 sz42 zr42 Token.len (by decide) rfl rfl rfl (by decide) (by decide) rfl fun aW bh J an ao => ?_
  have bi := ao.size
  have E := E.trans ao.of_nil
  obtain ⟨ap, aq, rfl, au, ag⟩ := J.opn
  have X : Ch ((bl (.slice Asv (a ++ Yv (x.kids.take i)).length Csv)) ++ [b_out]) ai bh := ((Ch.refl _ _).trans ao.of_nil)
  refine ⟨X, ?_⟩
  refine dO 10 (Yf rfl rfl rfl ?_)
  have bj := (D.ch0 af).ch0 ao
  refine Yt (cs := Token.cs) el24 sz42 by42 zr42 rfl (by decide) Token.one bj J.ls rfl rfl (by have R := Zcp x i; simp only [List.length_append, List.length_singleton]; omega) (by have R := Zcp x i; simp only [List.length_append, List.length_singleton]; omega) l om fun aX bk K av r aG => ?_
  have bm := aG.size
  have E := E.step aG (fun i hm => by exact b _ hm)
  obtain ⟨s, t, rfl, aw, ah⟩ := K.opn
  have Y : Ch ((bl (.slice Asv (a ++ Yv (x.kids.take i)).length Csv)) ++ [b_out]) ai bk := (X.step aG (fun i hm => by exact .inr (List.mem_append_left _ hm)))
  refine ⟨Y, ?_⟩
  refine dV 11 rfl rfl rfl (fun _ => Zy rfl) (dV 12 rfl rfl rfl (fun _ => Zi fa26_0 rfl) (dO 13 (Yf rfl rfl rfl ?_)))
  have bn := (a6.ch0 ao).ch aG (fun hm => by exact h (by first | exact hm | exact k ▸ hm))
  refine Ys (off := 0) bn sz24 rfl rfl rfl rfl fun aY L aH => ?_
  have bp := aH.size
  have E := E.step aH (fun i hm => by have k := List.mem_singleton.1 hm; right; exact k ▸ List.mem_cons_self ..)
  replace L : Blk aY b_out t_out [(.slice s ((a ++ Yv (x.kids.take i) ++ [x.tok])).length t)] := L
  have ax : Ch ((bl (.slice Asv (a ++ Yv (x.kids.take i)).length Csv)) ++ [b_out]) ai aY := (Y.step aH (fun i hm => by have k := List.mem_singleton.1 hm; exact .inr (by rw [k]; exact (List.mem_append_right _ (List.mem_singleton.2 rfl)))))
  refine ⟨ax, ?_⟩
  refine Yo (by kernel_rfl) ?_
  have bq := K.ch aH (fun g hg hm => by have k := List.mem_singleton.1 hm; rcases r with ea | ea; (rw [ea] at hg; exact h (by first | exact hg | exact k ▸ hg)); (rw [ea] at hg; have ay := List.mem_singleton.1 hg; omega))
  have az : Ol Token.cs 42 4 aY (.slice s ((a ++ Yv (x.kids.take i) ++ [x.tok])).length t) (a ++ x.flat) := by
   have hx := bq
   exact hx.eq (by rw [List.append_assoc, Zgk om])
  exact Zef [] trivial ⟨(.slice s ((a ++ Yv (x.kids.take i) ++ [x.tok])).length t), rfl, L, az, (fun g hm => by rcases r with ea | ea; (rw [ea] at hm; exact b _ hm); (rw [ea] at hm; have ay := List.mem_singleton.1 hm; left; omega)), (fun hm => by rcases r with ea | ea; (rw [ea] at hm; exact h (by first | exact hm | exact k ▸ hm)); (rw [ea] at hm; have ay := List.mem_singleton.1 hm; omega)), E⟩
 refine Yf rfl rfl rfl ?_
 refine Yg (cs := Token.cs) (parts := [(0, .tmp 27)]) (⟨0, 0, 0, 0⟩ : Token) [x.tok] el24 sz42 zr42 Token.len (by decide) rfl rfl rfl (by decide) (by decide) rfl fun aW br J an aA => ?_
 have bs := aA.size
 have E := E.trans aA.of_nil
 obtain ⟨ap, aq, rfl, au, ag⟩ := J.opn
 have M : Ch ((bl (.slice Asv (a ++ Yv (x.kids.take i)).length Csv)) ++ [b_out]) ai br := ((Ch.refl _ _).trans aA.of_nil)
 refine ⟨M, ?_⟩
 refine dO 4 (Yf rfl rfl rfl ?_)
 have a7 := (G.ch0 af).ch0 aA
 refine s_v (Zo a7.at_ agg24 rfl rfl) ?_
 refine ⟨M, ?_⟩
 refine dO 10 (Yf rfl rfl rfl ?_)
 have bu := (D.ch0 af).ch0 aA
 refine Yt (cs := Token.cs) el24 sz42 by42 zr42 rfl (by decide) Token.one bu J.ls rfl rfl (by have R := Zcp x i; simp only [List.length_append, List.length_singleton]; omega) (by have R := Zcp x i; simp only [List.length_append, List.length_singleton]; omega) l om fun aX bv K av r aI => ?_
 have bw := aI.size
 have E := E.step aI (fun i hm => by exact b _ hm)
 obtain ⟨s, t, rfl, aw, ah⟩ := K.opn
 have Z : Ch ((bl (.slice Asv (a ++ Yv (x.kids.take i)).length Csv)) ++ [b_out]) ai bv := (M.step aI (fun i hm => by exact .inr (List.mem_append_left _ hm)))
 refine ⟨Z, ?_⟩
 refine dV 11 rfl rfl rfl (fun _ => Zy rfl) (dV 12 rfl rfl rfl (fun _ => Zi fa26_0 rfl) (dO 13 (Yf rfl rfl rfl ?_)))
 have bx := a7.ch aI (fun hm => by exact h (by first | exact hm | exact k ▸ hm))
 refine Ys (off := 0) bx sz24 rfl rfl rfl rfl fun aZ O aJ => ?_
 have bz := aJ.size
 have E := E.step aJ (fun i hm => by have k := List.mem_singleton.1 hm; right; exact k ▸ List.mem_cons_self ..)
 replace O : Blk aZ b_out t_out [(.slice s ((a ++ Yv (x.kids.take i) ++ [x.tok])).length t)] := O
 have aB : Ch ((bl (.slice Asv (a ++ Yv (x.kids.take i)).length Csv)) ++ [b_out]) ai aZ := (Z.step aJ (fun i hm => by have k := List.mem_singleton.1 hm; exact .inr (by rw [k]; exact (List.mem_append_right _ (List.mem_singleton.2 rfl)))))
 refine ⟨aB, ?_⟩
 refine Yo (by kernel_rfl) ?_
 have bA := K.ch aJ (fun g hg hm => by have k := List.mem_singleton.1 hm; rcases r with ea | ea; (rw [ea] at hg; exact h (by first | exact hg | exact k ▸ hg)); (rw [ea] at hg; have ay := List.mem_singleton.1 hg; omega))
 have aC : Ol Token.cs 42 4 aZ (.slice s ((a ++ Yv (x.kids.take i) ++ [x.tok])).length t) (a ++ x.flat) := by
  have hx := bA
  exact hx.eq (by rw [List.append_assoc, Zgk om])
 exact Zef [] trivial ⟨(.slice s ((a ++ Yv (x.kids.take i) ++ [x.tok])).length t), rfl, O, aC, (fun g hm => by rcases r with ea | ea; (rw [ea] at hm; exact b _ hm); (rw [ea] at hm; have ay := List.mem_singleton.1 hm; left; omega)), (fun hm => by rcases r with ea | ea; (rw [ea] at hm; exact h (by first | exact hm | exact k ▸ hm)); (rw [ea] at hm; have ay := List.mem_singleton.1 hm; omega)), E⟩
theorem Zcg {w : World} {LT_x L_out : Nat} {p_x : Addr} {x : Tr} (i : TrAt w LT_x L_out p_x x) {b_out t_out : Nat} {a : Value} {h : List Token} (m_out : Blk w b_out t_out [a]) (e : L_out ≤ b_out) (f : Ol Token.cs 42 4 w a h) (c : b_out ∉ bl a) (d : Lo L_out a) (hb : h.length + x.sz ≤ 4194304) :
 Ctr Tryz.prog 34 #[(.pointer (some p_x)), (.pointer (some ⟨b_out, 0, none⟩))] w (fun v w' => ∃ (b : Value), v = .tuple #[] ∧ Blk w' b_out t_out [b] ∧ Ol Token.cs 42 4 w' b (h ++ x.flat) ∧ (∀ g ∈ bl b, w.heap.size ≤ g ∨ g ∈ (b_out :: bl a)) ∧ b_out ∉ bl b ∧ Ch (b_out :: bl a) w w') := Zbs _ i m_out e f c d hb (Nat.lt_succ_self _)

/-- impl.tree).expr -/
theorem Qj {w : World} {LT_x s : Nat} {p_x : Addr} {x : Tr} (l : TrAt w LT_x s p_x x) (hb : x.sz ≤ 4194304) :
 Ctr Tryz.prog 19 #[(.pointer (some p_x))] w (fun v w' => ∃ u, v = .agg #[u] ∧ Ol Token.cs 42 4 w' u (x.flat) ∧ Lo w.heap.size u ∧ Ch [] w w') := by
 have l := l.here
 obtain ⟨L, M, D, F, G, o⟩ := l.open
 have H := o.1
 have E := Ch.refl [] w
 refine Zv (N := 8) (vs0 := [(.pointer (some p_x))]) Tryz.func19 rfl rfl rfl ?_
 refine Zf fun K1 H1 => ?_
 refine Zc (Zl rfl rfl ?_)
 refine Yl zr26 fun t W2 q C2 T => ?_
 have U := C2.size
 have E := E.trans C2
 have V := q.lt
 replace q : Blk W2 t 26 [(.slice none 0 0)] := q
 refine Zd (Zb (H1 _ _ ?_))
 refine Zf fun K3 H3 => ?_
 refine Zc (Za rfl rfl (Zz (parts := []) (cells := [(.slice none 0 0)]) zr26 pl26 rfl rfl) (Zl rfl rfl ?_))
 refine Yl zr26 fun y W4 r C4 X => ?_
 have Y := C4.size
 have E := E.trans C4
 have Z := r.lt
 replace r : Blk W4 y 26 [(.slice none 0 0)] := r
 refine Zl rfl rfl ?_
 refine Zq (off := 0) 1 r sz26 rfl (us := [(.slice none 0 0)]) rfl rfl rfl rfl fun W5 n C5 => ?_
 have aa := C5.size
 have E := E.step C5 (lS om)
 replace n : Blk W5 y 26 [(.slice none 0 0)] := n
 refine Zd (Zb (H3 _ _ ?_))
 refine Zf fun K7 H7 => ?_
 refine Zc (Za rfl rfl (Zg rfl) (Zl rfl rfl ?_))
 have F8 := ((l.ch0 C2).ch0 C4).ch C5 (oS om)
 refine Step.call (Zm (xs := [.tmp 5, .tmp 3]) fk34 rfl) (Zcg F8 n om (Ol.nil (cs := Token.cs) (e := 42) (k := 4) W5) (fun hm => by cases hm) (Lo.nil _) (by simp only [List.length_nil]; omega)) fun ab W9 O => ?_
 obtain ⟨I, rfl, z, h, d, f, C9⟩ := O
 have ac := C9.size
 have E := E.step C9 (fun i hm => .inl (by rcases List.mem_cons.1 hm with A | hm; (omega); (cases hm)))
 obtain ⟨b, c, rfl, J, B⟩ := h.opn
 have m : Lo W5.heap.size (.slice b ([] ++ x.flat).length c) := Zok d f om (fun g hm => by cases hm)
 have a := Zpw d f (show t < _ by omega) (fun hm => by cases hm)
 replace z : Blk W9 y 26 [(.slice b ([] ++ x.flat).length c)] := z
 refine Zd (Zb (H7 _ _ ?_))
 refine Zf fun ad P => ?_
 refine Zc (Za rfl rfl (Zr z.at_ agg26 sz26 rfl) (Zl rfl rfl ?_))
 have Q := ((q.ch0 C4).ch C5 (nS om)).ch C9 (fun hm => by rcases List.mem_cons.1 hm with A | hm; (omega); (cases hm))
 refine Zq (off := 0) 1 Q sz26 rfl (us := [(.slice b ([] ++ x.flat).length c)]) rfl rfl rfl rfl fun K j C => ?_
 have R := C.size
 have E := E.step C (lS om)
 replace j : Blk K t 26 [(.slice b ([] ++ x.flat).length c)] := j
 refine Zd (Zb (P _ _ ?_))
 refine Zp ?_
 have S := h.ch C (fun g hg hm => by have A := List.mem_singleton.1 hm; exact a (by first | exact hg | exact A ▸ hg))
 have p : Ol Token.cs 42 4 K (.slice b ([] ++ x.flat).length c) (x.flat) := by
  have hx := S
  simpa using hx
 exact Zh [_] (Zn j rfl agg26 sz26 trivial) ⟨_, rfl, p, Lo.down m om, E⟩

/-- impl.IsMove -/
theorem Zfs {w : World} (n : Int) :
 Ctr Tryz.prog 54 #[(.int .i64 n)] w (fun v w' => v = .bool (decide (0 ≤ n ∧ n ≤ 5)) ∧ Ch [] w w') := by
 have E := Ch.refl [] w
 refine Zv (N := 5) (vs0 := [(.int .i64 n)]) Tryz.func54 rfl rfl rfl ?_
 refine Zf fun K1 H1 => ?_
 refine Zc (Za rfl rfl (Ze rfl) (Zd (Zb (H1 _ _ ?_))))
 refine Zf fun K2 H2 => ?_
 refine Zc (Za rfl rfl (Zg rfl) (Zl rfl rfl ?_))
 refine Step.call (Zm (xs := [.tmp 3, .const (Go.Value.int Go.IntKind.i64 0), .const (Go.Value.int Go.IntKind.i64 5)]) fk53 rfl) (Qw _ _ _ ) fun b W3 a => ?_
 obtain ⟨rfl, C3⟩ := a
 have c := C3.size
 have E := E.trans C3
 refine Za rfl rfl (Ze rfl) (Zd (Zb (H2 _ _ ?_)))
 refine Zp ?_
 exact Zh [_] ⟨rfl, trivial⟩ ⟨congrArg Value.bool rfl, E⟩

/-- impl.InverseLetter -/
theorem Zca {w : World} (n : Int) :
 Ctr Tryz.prog 37 #[(.int .i64 n)] w (fun v w' => v = .int .i64 (invL n) ∧ Ch [] w w') := by
 have E := Ch.refl [] w
 refine Zv (N := 9) (vs0 := [(.int .i64 n)]) Tryz.func37 rfl rfl rfl ?_
 refine Zf fun K1 H1 => ?_
 refine Zc (Za rfl rfl (Ze rfl) (Zd (Zb (H1 _ _ ?_))))
 refine Zf fun K2 H2 => ?_
 refine Zf fun K3 H3 => ?_
 refine Zc (Za rfl rfl (Zg rfl) (Zl rfl rfl ?_))
 refine Step.call (Zm (xs := [.tmp 3]) fk54 rfl) (Zfs _ ) fun d W4 b => ?_
 obtain ⟨rfl, C4⟩ := b
 have e := C4.size
 have E := E.trans C4
 refine Za rfl rfl (Zav rfl) (Zd (Zb (H3 _ _ ?_)))
 refine Zs rfl (fun a => ?_) (fun a => ?_)
 ·have c := a
  have a := Yc (Xv a)
  refine Zf fun K6 H6 => ?_
  refine Zc (Za rfl rfl (Zg rfl) (Za rfl rfl (Ze rfl) (Zd (Zb (H6 _ _ ?_)))))
  refine Zp (Zk ?_)
  exact Zh [_] ⟨rfl, trivial⟩ ⟨congrArg (Value.int .i64) (by unfold invL; first | rw [if_pos om] | rw [if_neg om]), E⟩
 have c := a
 have a := Yb (Xw a)
 refine Zu ?_
 refine Zb (H2 _ _ ?_)
 refine Zf fun K7 H7 => ?_
 refine Zc (Za rfl rfl (Zg rfl) (Za rfl rfl (Zos rfl rfl) (Za rfl rfl (Ze rfl) (Zd (Zb (H7 _ _ ?_))))))
 refine Zp ?_
 exact Zh [_] ⟨rfl, trivial⟩ ⟨congrArg (Value.int .i64) (by unfold invL; first | rw [if_pos om] | rw [if_neg om]), E⟩

/-- slices.Reverse[[]*impl.tree,*impl.tree] -/
theorem Xg {w : World} {e_s : Nat} {H : Value} {s : List Addr} (Y : Ol acs e_s 1 w H s) :
 Ctr Tryz.prog 38 #[H] w (fun v w' => v = .tuple #[] ∧ Ol acs e_s 1 w' H (s.reverse) ∧ Ch (bl H) w w') := by
 obtain ⟨a, b, rfl, aL, aD⟩ := Y.opn
 have E := Ch.refl (bl (.slice a s.length b)) w
 refine Zv (N := 28) (vs0 := [(.slice a s.length b)]) Tryz.func38 rfl rfl rfl ?_
 refine Zf fun K1 H1 => ?_
 refine Zc (Za rfl rfl (Zg rfl) (Za rfl rfl (Xk (by rw [el43]; rfl) rfl) (Za rfl rfl (Qg om rfl rfl) (Za rfl rfl (Ze rfl) (Za rfl rfl (Ze rfl) (Zd (Zb (H1 _ _ ?_))))))))
 refine Yj ?_
 have Z : Ol acs e_s 1 w (.slice a s.length b) (s) := by
  have hx := Y
  exact hx
 refine Qf (σ := Nat × Int × List Addr) (fun ⟨i, j, zs⟩ => [(0, (.slice a s.length b)), (2, (.int .i64 ((i : Nat) : Int))), (3, (.int .i64 j))]) (fun ⟨i, j, zs⟩ wx => Ch (bl (.slice a s.length b)) w wx ∧ w.heap.size ≤ wx.heap.size ∧ ((i : Int) + j + 1 = s.length) ∧ (i ≤ s.length) ∧ (Zil s i zs) ∧ Ol acs e_s 1 wx (.slice a s.length b) zs) (fun ⟨i, j, zs⟩ => s.length - i) (0, ((s.length : Int) - 1), s) (sC2 rfl rfl (sC1 rfl (Sub.nil _))) ⟨E, (Nat.le_refl _), om, om, (Zka _), Z⟩ ?_
 rintro ⟨i, j, zs⟩ R3 ⟨E, aM, hi, a6, e, q⟩
 have an := E
 have aE := an.size
 have a7 := e.1
 refine Zf fun K4 H4 => ?_
 refine Zf fun K5 H5 => ?_
 refine Zc (Za rfl rfl (Zg rfl) (Za rfl rfl (Zg rfl) (Za rfl rfl (Qv rfl rfl) (Zd (Zb (H5 _ _ ?_))))))
 refine Zs rfl (fun Q => ?_) (fun Q => ?_)
 ·have aN := Q
  have Q := Yb Q
  refine Zu ?_
  refine Zb (H4 _ _ ?_)
  refine Zf fun K7 H7 => ?_
  refine Yj ?_
  refine Xm (bl (.slice a s.length b)) 16 mixed rfl fun W8 C8 => ?_
  have a8 := C8.size
  have E := E.trans C8.of_nil
  refine dV 0 rfl rfl rfl (fun _ => Zg rfl) (dV 1 rfl rfl rfl (fun _ => Zg rfl) (dV 2 rfl rfl rfl (fun _ => Zg rfl) (dV 3 rfl rfl rfl (fun _ => Zg rfl) (dV 4 rfl rfl rfl (fun _ => Zg rfl) (dV 5 rfl rfl rfl (fun _ => Zg rfl) (dV 8 rfl rfl rfl (fun _ => Zg rfl) (dV 9 rfl rfl rfl (fun _ => Zg rfl) ?_)))))))
  refine Zam 6 10 (by kernel_rfl) ?_ ?_
  ·refine Yf rfl rfl rfl ?_
   have F9 := q.ch0 C8
   refine (Xc (j := j.toNat) F9.ls Yw el43 sz39 rfl rfl om om fun r c h f => ?_)
   replace f : At W8 0 W8.heap.size r ([(.pointer (some c))]) := f
   refine ⟨(Ch.refl _ _), ?_⟩
   refine Zam 7 10 (by kernel_rfl) ?_ ?_
   ·refine Yf rfl rfl rfl ?_
    refine s_v (Ym f agg39 rfl rfl) ?_
    refine ⟨(Ch.refl _ _), ?_⟩
    refine dO 10 (Yf rfl rfl rfl ?_)
    refine (Xc F9.ls Yw el43 sz39 rfl rfl rfl om fun t d k g => ?_)
    replace g : At W8 0 W8.heap.size t ([(.pointer (some d))]) := g
    refine ⟨(Ch.refl _ _), ?_⟩
    refine dO 11 (Yf rfl rfl rfl ?_)
    refine s_v (Ym g agg39 rfl rfl) ?_
    refine ⟨(Ch.refl _ _), ?_⟩
    refine dO 12 (Yf rfl rfl rfl ?_)
    refine Xx (j := i) F9 el43 sz39 rfl rfl rfl (by have l := e.1; first | omega | (simp only [List.length_set]; omega)) fun u x o m => ?_
    refine ⟨(Ch.refl _ _), ?_⟩
    refine dO 13 (Yf rfl rfl rfl ?_)
    refine Qb (j := i) c F9 m Yw sz39 rfl rfl rfl rfl (by have l := e.1; first | omega | (simp only [List.length_set]; omega)) fun aO J ao => ?_
    have aP := ao.size
    have E := E.trans ao
    have y : Ch (bl (.slice a s.length b)) W8 aO := ((Ch.refl _ _).step ao (fun i hm => by exact .inr hm))
    refine ⟨y, ?_⟩
    refine dO 14 (Yf rfl rfl rfl ?_)
    refine Xx (j := j.toNat) J el43 sz39 rfl rfl om (by have l := e.1; first | omega | (simp only [List.length_set]; omega)) fun z A p n => ?_
    refine ⟨y, ?_⟩
    refine dO 15 (Yf rfl rfl rfl ?_)
    refine Qb (j := j.toNat) d J n Yw sz39 rfl rfl rfl rfl (by have l := e.1; first | omega | (simp only [List.length_set]; omega)) fun aF aa ap => ?_
    have aQ := ap.size
    have E := E.trans ap
    have ab : Ch (bl (.slice a s.length b)) W8 aF := (y.step ap (fun i hm => by exact .inr hm))
    refine ⟨ab, ?_⟩
    refine Yo (by kernel_rfl) ?_
    refine Yd (Zb (H7 _ _ (Zc (Za rfl rfl (Zg rfl) (Za rfl rfl (Yy om rfl rfl) (Za rfl rfl (Zg rfl) (Za rfl rfl (Qg om rfl rfl) (Za rfl rfl (Ze rfl) ?_))))))))
    refine Za rfl rfl (Ze rfl) (Zd ?_)
    have R : Ol acs e_s 1 aF (.slice a s.length b) (((zs.set i c).set j.toNat d)) := by
     have hx := aa
     exact hx
    exact Zb (Exists.intro ((i + 1), (j - 1), ((zs.set i c).set j.toNat d)) ⟨⟨E, om, om, om, (Zaw e om om h k), R⟩, sC2 rfl rfl (sC1 rfl (Sub.nil _)), (by first | omega | (dsimp only; omega))⟩)
   refine Yf rfl rfl rfl ?_
   refine (Xc F9.ls Yw el43 sz39 rfl rfl rfl om fun t d k g => ?_)
   replace g : At W8 0 W8.heap.size t ([(.pointer (some d))]) := g
   refine ⟨(Ch.refl _ _), ?_⟩
   refine Zam 7 11 (by kernel_rfl) ?_ ?_
   ·refine Yf rfl rfl rfl ?_
    refine s_v (Ym f agg39 rfl rfl) ?_
    refine ⟨(Ch.refl _ _), ?_⟩
    refine dO 11 (Yf rfl rfl rfl ?_)
    refine s_v (Ym g agg39 rfl rfl) ?_
    refine ⟨(Ch.refl _ _), ?_⟩
    refine dO 12 (Yf rfl rfl rfl ?_)
    refine Xx (j := i) F9 el43 sz39 rfl rfl rfl (by have l := e.1; first | omega | (simp only [List.length_set]; omega)) fun u x o m => ?_
    refine ⟨(Ch.refl _ _), ?_⟩
    refine dO 13 (Yf rfl rfl rfl ?_)
    refine Qb (j := i) c F9 m Yw sz39 rfl rfl rfl rfl (by have l := e.1; first | omega | (simp only [List.length_set]; omega)) fun aR K aq => ?_
    have aS := aq.size
    have E := E.trans aq
    have B : Ch (bl (.slice a s.length b)) W8 aR := ((Ch.refl _ _).step aq (fun i hm => by exact .inr hm))
    refine ⟨B, ?_⟩
    refine dO 14 (Yf rfl rfl rfl ?_)
    refine Xx (j := j.toNat) K el43 sz39 rfl rfl om (by have l := e.1; first | omega | (simp only [List.length_set]; omega)) fun z A p n => ?_
    refine ⟨B, ?_⟩
    refine dO 15 (Yf rfl rfl rfl ?_)
    refine Qb (j := j.toNat) d K n Yw sz39 rfl rfl rfl rfl (by have l := e.1; first | omega | (simp only [List.length_set]; omega)) fun aG ac au => ?_
    have aT := au.size
    have E := E.trans au
    have ad : Ch (bl (.slice a s.length b)) W8 aG := (B.step au (fun i hm => by exact .inr hm))
    refine ⟨ad, ?_⟩
    refine Yo (by kernel_rfl) ?_
    refine Yd (Zb (H7 _ _ (Zc (Za rfl rfl (Zg rfl) (Za rfl rfl (Yy om rfl rfl) (Za rfl rfl (Zg rfl) (Za rfl rfl (Qg om rfl rfl) (Za rfl rfl (Ze rfl) ?_))))))))
    refine Za rfl rfl (Ze rfl) (Zd ?_)
    have S : Ol acs e_s 1 aG (.slice a s.length b) (((zs.set i c).set j.toNat d)) := by
     have hx := ac
     exact hx
    exact Zb (Exists.intro ((i + 1), (j - 1), ((zs.set i c).set j.toNat d)) ⟨⟨E, om, om, om, (Zaw e om om h k), S⟩, sC2 rfl rfl (sC1 rfl (Sub.nil _)), (by first | omega | (dsimp only; omega))⟩)
   refine Yf rfl rfl rfl ?_
   refine s_v (Ym g agg39 rfl rfl) ?_
   refine ⟨(Ch.refl _ _), ?_⟩
   refine dO 7 (Yf rfl rfl rfl ?_)
   refine s_v (Ym f agg39 rfl rfl) ?_
   refine ⟨(Ch.refl _ _), ?_⟩
   refine dO 12 (Yf rfl rfl rfl ?_)
   refine Xx (j := i) F9 el43 sz39 rfl rfl rfl (by have l := e.1; first | omega | (simp only [List.length_set]; omega)) fun u x o m => ?_
   refine ⟨(Ch.refl _ _), ?_⟩
   refine dO 13 (Yf rfl rfl rfl ?_)
   refine Qb (j := i) c F9 m Yw sz39 rfl rfl rfl rfl (by have l := e.1; first | omega | (simp only [List.length_set]; omega)) fun aU L av => ?_
   have aV := av.size
   have E := E.trans av
   have C : Ch (bl (.slice a s.length b)) W8 aU := ((Ch.refl _ _).step av (fun i hm => by exact .inr hm))
   refine ⟨C, ?_⟩
   refine dO 14 (Yf rfl rfl rfl ?_)
   refine Xx (j := j.toNat) L el43 sz39 rfl rfl om (by have l := e.1; first | omega | (simp only [List.length_set]; omega)) fun z A p n => ?_
   refine ⟨C, ?_⟩
   refine dO 15 (Yf rfl rfl rfl ?_)
   refine Qb (j := j.toNat) d L n Yw sz39 rfl rfl rfl rfl (by have l := e.1; first | omega | (simp only [List.length_set]; omega)) fun aH ae aw => ?_
   have aW := aw.size
   have E := E.trans aw
   have af : Ch (bl (.slice a s.length b)) W8 aH := (C.step aw (fun i hm => by exact .inr hm))
   refine ⟨af, ?_⟩
   refine Yo (by kernel_rfl) ?_
   refine Yd (Zb (H7 _ _ (Zc (Za rfl rfl (Zg rfl) (Za rfl rfl (Yy om rfl rfl) (Za rfl rfl (Zg rfl) (Za rfl rfl (Qg om rfl rfl) (Za rfl rfl (Ze rfl) ?_))))))))
   refine Za rfl rfl (Ze rfl) (Zd ?_)
   have T : Ol acs e_s 1 aH (.slice a s.length b) (((zs.set i c).set j.toNat d)) := by
    have hx := ae
    exact hx
   exact Zb (Exists.intro ((i + 1), (j - 1), ((zs.set i c).set j.toNat d)) ⟨⟨E, om, om, om, (Zaw e om om h k), T⟩, sC2 rfl rfl (sC1 rfl (Sub.nil _)), (by first | omega | (dsimp only; omega))⟩)
  refine Yf rfl rfl rfl ?_
  have I := q.ch0 C8
  refine (Xc I.ls Yw el43 sz39 rfl rfl rfl om fun t d k g => ?_)
  replace g : At W8 0 W8.heap.size t ([(.pointer (some d))]) := g
  refine ⟨(Ch.refl _ _), ?_⟩
  refine Zam 6 11 (by kernel_rfl) ?_ ?_
  ·refine Yf rfl rfl rfl ?_
   refine (Xc (j := j.toNat) I.ls Yw el43 sz39 rfl rfl om om fun r c h f => ?_)
   replace f : At W8 0 W8.heap.size r ([(.pointer (some c))]) := f
   refine ⟨(Ch.refl _ _), ?_⟩
   refine Zam 7 11 (by kernel_rfl) ?_ ?_
   ·refine Yf rfl rfl rfl ?_
    refine s_v (Ym f agg39 rfl rfl) ?_
    refine ⟨(Ch.refl _ _), ?_⟩
    refine dO 11 (Yf rfl rfl rfl ?_)
    refine s_v (Ym g agg39 rfl rfl) ?_
    refine ⟨(Ch.refl _ _), ?_⟩
    refine dO 12 (Yf rfl rfl rfl ?_)
    refine Xx (j := i) I el43 sz39 rfl rfl rfl (by have l := e.1; first | omega | (simp only [List.length_set]; omega)) fun u x o m => ?_
    refine ⟨(Ch.refl _ _), ?_⟩
    refine dO 13 (Yf rfl rfl rfl ?_)
    refine Qb (j := i) c I m Yw sz39 rfl rfl rfl rfl (by have l := e.1; first | omega | (simp only [List.length_set]; omega)) fun aX M ax => ?_
    have aY := ax.size
    have E := E.trans ax
    have D : Ch (bl (.slice a s.length b)) W8 aX := ((Ch.refl _ _).step ax (fun i hm => by exact .inr hm))
    refine ⟨D, ?_⟩
    refine dO 14 (Yf rfl rfl rfl ?_)
    refine Xx (j := j.toNat) M el43 sz39 rfl rfl om (by have l := e.1; first | omega | (simp only [List.length_set]; omega)) fun z A p n => ?_
    refine ⟨D, ?_⟩
    refine dO 15 (Yf rfl rfl rfl ?_)
    refine Qb (j := j.toNat) d M n Yw sz39 rfl rfl rfl rfl (by have l := e.1; first | omega | (simp only [List.length_set]; omega)) fun aI ag ay => ?_
    have aZ := ay.size
    have E := E.trans ay
    have ah : Ch (bl (.slice a s.length b)) W8 aI := (D.step ay (fun i hm => by exact .inr hm))
    refine ⟨ah, ?_⟩
    refine Yo (by kernel_rfl) ?_
    refine Yd (Zb (H7 _ _ (Zc (Za rfl rfl (Zg rfl) (Za rfl rfl (Yy om rfl rfl) (Za rfl rfl (Zg rfl) (Za rfl rfl (Qg om rfl rfl) (Za rfl rfl (Ze rfl) ?_))))))))
    refine Za rfl rfl (Ze rfl) (Zd ?_)
    have U : Ol acs e_s 1 aI (.slice a s.length b) (((zs.set i c).set j.toNat d)) := by
     have hx := ag
     exact hx
    exact Zb (Exists.intro ((i + 1), (j - 1), ((zs.set i c).set j.toNat d)) ⟨⟨E, om, om, om, (Zaw e om om h k), U⟩, sC2 rfl rfl (sC1 rfl (Sub.nil _)), (by first | omega | (dsimp only; omega))⟩)
   refine Yf rfl rfl rfl ?_
   refine s_v (Ym g agg39 rfl rfl) ?_
   refine ⟨(Ch.refl _ _), ?_⟩
   refine dO 7 (Yf rfl rfl rfl ?_)
   refine s_v (Ym f agg39 rfl rfl) ?_
   refine ⟨(Ch.refl _ _), ?_⟩
   refine dO 12 (Yf rfl rfl rfl ?_)
   refine Xx (j := i) I el43 sz39 rfl rfl rfl (by have l := e.1; first | omega | (simp only [List.length_set]; omega)) fun u x o m => ?_
   refine ⟨(Ch.refl _ _), ?_⟩
   refine dO 13 (Yf rfl rfl rfl ?_)
   refine Qb (j := i) c I m Yw sz39 rfl rfl rfl rfl (by have l := e.1; first | omega | (simp only [List.length_set]; omega)) fun a0 O az => ?_
   have a1 := az.size
   have E := E.trans az
   have F : Ch (bl (.slice a s.length b)) W8 a0 := ((Ch.refl _ _).step az (fun i hm => by exact .inr hm))
   refine ⟨F, ?_⟩
   refine dO 14 (Yf rfl rfl rfl ?_)
   refine Xx (j := j.toNat) O el43 sz39 rfl rfl om (by have l := e.1; first | omega | (simp only [List.length_set]; omega)) fun z A p n => ?_
   refine ⟨F, ?_⟩
   refine dO 15 (Yf rfl rfl rfl ?_)
   refine Qb (j := j.toNat) d O n Yw sz39 rfl rfl rfl rfl (by have l := e.1; first | omega | (simp only [List.length_set]; omega)) fun aJ ai aA => ?_
   have a2 := aA.size
   have E := E.trans aA
   have aj : Ch (bl (.slice a s.length b)) W8 aJ := (F.step aA (fun i hm => by exact .inr hm))
   refine ⟨aj, ?_⟩
   refine Yo (by kernel_rfl) ?_
   refine Yd (Zb (H7 _ _ (Zc (Za rfl rfl (Zg rfl) (Za rfl rfl (Yy om rfl rfl) (Za rfl rfl (Zg rfl) (Za rfl rfl (Qg om rfl rfl) (Za rfl rfl (Ze rfl) ?_))))))))
   refine Za rfl rfl (Ze rfl) (Zd ?_)
   have V : Ol acs e_s 1 aJ (.slice a s.length b) (((zs.set i c).set j.toNat d)) := by
    have hx := ai
    exact hx
   exact Zb (Exists.intro ((i + 1), (j - 1), ((zs.set i c).set j.toNat d)) ⟨⟨E, om, om, om, (Zaw e om om h k), V⟩, sC2 rfl rfl (sC1 rfl (Sub.nil _)), (by first | omega | (dsimp only; omega))⟩)
  refine Yf rfl rfl rfl ?_
  refine s_v (Ym g agg39 rfl rfl) ?_
  refine ⟨(Ch.refl _ _), ?_⟩
  refine dO 6 (Yf rfl rfl rfl ?_)
  refine (Xc (j := j.toNat) I.ls Yw el43 sz39 rfl rfl om om fun r c h f => ?_)
  replace f : At W8 0 W8.heap.size r ([(.pointer (some c))]) := f
  refine ⟨(Ch.refl _ _), ?_⟩
  refine dO 7 (Yf rfl rfl rfl ?_)
  refine s_v (Ym f agg39 rfl rfl) ?_
  refine ⟨(Ch.refl _ _), ?_⟩
  refine dO 12 (Yf rfl rfl rfl ?_)
  refine Xx (j := i) I el43 sz39 rfl rfl rfl (by have l := e.1; first | omega | (simp only [List.length_set]; omega)) fun u x o m => ?_
  refine ⟨(Ch.refl _ _), ?_⟩
  refine dO 13 (Yf rfl rfl rfl ?_)
  refine Qb (j := i) c I m Yw sz39 rfl rfl rfl rfl (by have l := e.1; first | omega | (simp only [List.length_set]; omega)) fun a3 P aB => ?_
  have a4 := aB.size
  have E := E.trans aB
  have G : Ch (bl (.slice a s.length b)) W8 a3 := ((Ch.refl _ _).step aB (fun i hm => by exact .inr hm))
  refine ⟨G, ?_⟩
  refine dO 14 (Yf rfl rfl rfl ?_)
  refine Xx (j := j.toNat) P el43 sz39 rfl rfl om (by have l := e.1; first | omega | (simp only [List.length_set]; omega)) fun z A p n => ?_
  refine ⟨G, ?_⟩
  refine dO 15 (Yf rfl rfl rfl ?_)
  refine Qb (j := j.toNat) d P n Yw sz39 rfl rfl rfl rfl (by have l := e.1; first | omega | (simp only [List.length_set]; omega)) fun aK ak aC => ?_
  have a5 := aC.size
  have E := E.trans aC
  have al : Ch (bl (.slice a s.length b)) W8 aK := (G.step aC (fun i hm => by exact .inr hm))
  refine ⟨al, ?_⟩
  refine Yo (by kernel_rfl) ?_
  refine Yd (Zb (H7 _ _ (Zc (Za rfl rfl (Zg rfl) (Za rfl rfl (Yy om rfl rfl) (Za rfl rfl (Zg rfl) (Za rfl rfl (Qg om rfl rfl) (Za rfl rfl (Ze rfl) ?_))))))))
  refine Za rfl rfl (Ze rfl) (Zd ?_)
  have X : Ol acs e_s 1 aK (.slice a s.length b) (((zs.set i c).set j.toNat d)) := by
   have hx := ak
   exact hx
  exact Zb (Exists.intro ((i + 1), (j - 1), ((zs.set i c).set j.toNat d)) ⟨⟨E, om, om, om, (Zaw e om om h k), X⟩, sC2 rfl rfl (sC1 rfl (Sub.nil _)), (by first | omega | (dsimp only; omega))⟩)
 have aN := Q
 have Q := Yc Q
 refine Xu (Yh (Yh (Xd ?_)))
 have am : Ol acs e_s 1 R3 (.slice a s.length b) (s.reverse) := by
  have hx := q
  exact hx.eq (Zkn e om om)
 exact Zef [] trivial ⟨rfl, am, E⟩

/-- impl.tree).reverse -/
theorem Zbr : ∀ (n : Nat) {w : World} {LT_x bG : Nat} {p_x : Addr} {x : Tr} (aO : TrAt w LT_x bG p_x x) (hok : Okd x) (hsz : x.sz < n),
 Ctr Tryz.prog 24 #[(.pointer (some p_x))] w (fun v w' => ∃ p, v = .pointer (some p) ∧ TrAt w' w.heap.size w'.heap.size p (Xh x) ∧ Ch [] w w') := by
 intro n
 induction n with
 | zero => intros; omega
 | succ n ih =>
 intro w LT_x bG p_x x aO hok hsz
 have aO := aO.here
 obtain ⟨aP, aQ, I, aV, aW, av⟩ := aO.open
 have cz := av.1
 have E := Ch.refl [] w
 have k2 := x.kids_le
 refine Zv (N := 61) (vs0 := [(.pointer (some p_x))]) Tryz.func24 rfl rfl rfl ?_
 refine Zf fun K1 H1 => ?_
 refine Zc (Za rfl rfl (Ze rfl) (Zd (Zb (H1 _ _ ?_))))
 refine Zf fun K2 H2 => ?_
 refine Zc (Za rfl rfl (Zg rfl) (Za rfl rfl (Zy rfl) (Za rfl rfl (Zi fa45_0 rfl) (Za rfl rfl (Zgr 4 aV agg42 sz42 rfl rfl) (Za rfl rfl (Zz (parts := [(0, .tmp 9)]) (cells := [(.int .i64 x.tok.kind), (.int .i64 x.tok.letter), (.int .i64 x.tok.low), (.int .i64 x.tok.high), (.slice none 0 0)]) zr45 pl45 rfl rfl) (Zl rfl rfl ?_))))))
 refine Qm rfl fun d W3 aw C3 cP => ?_
 have d5 := C3.size
 have E := E.trans C3
 have cQ := aw.lt
 replace aw : Blk W3 d 45 [(.int .i64 x.tok.kind), (.int .i64 x.tok.letter), (.int .i64 x.tok.low), (.int .i64 x.tok.high), (.slice none 0 0)] := aw
 refine Za rfl rfl (Ze rfl) (Zd (Zb (H2 _ _ ?_)))
 refine Zf fun K4 H4 => ?_
 refine Zf fun K5 H5 => ?_
 refine Zc (Za rfl rfl (Zg rfl) (Za rfl rfl (Zy rfl) (Za rfl rfl (Zi fa45_0 rfl) (Za rfl rfl (Zac (n := 0) fa42_0 rfl rfl) ?_))))
 have F6 := aV.ch0 C3
 refine Za rfl rfl (Zo F6 agg3 rfl rfl) (Za rfl rfl (Yn rfl rfl) (Zd (Zb (H5 _ _ ?_))))
 refine Zs rfl (fun U => ?_) (fun U => ?_)
 ·have cR := U
  have U := Yb U
  refine Zc (Za rfl rfl (Zg rfl) (Za rfl rfl (Zg rfl) (Za rfl rfl (Zy rfl) (Za rfl rfl (Zi fa45_0 rfl) (Za rfl rfl (Zac (n := 1) fa42_1 rfl rfl) (Za rfl rfl (Zo F6 agg3 rfl rfl) (Zl rfl rfl ?_)))))))
  refine Step.call (Zm (xs := [.tmp 23]) fk37 rfl) (Zca _ ) fun cS W8 bV => ?_
  obtain ⟨rfl, C8⟩ := bV
  have d6 := C8.size
  have E := E.trans C8
  refine Za rfl rfl (Zy rfl) (Za rfl rfl (Zi fa45_0 rfl) (Za rfl rfl (Zac (n := 1) fa42_1 rfl rfl) (Zl rfl rfl ?_)))
  have F9 := aw.ch0 C8
  refine Ys (off := 1) F9 sz3 rfl rfl rfl rfl fun bH ax bW => ?_
  have cT := bW.size
  have E := E.step bW (lS om)
  replace ax : Blk bH d 45 [(.int .i64 x.tok.kind), (.int .i64 (invL x.tok.letter)), (.int .i64 x.tok.low), (.int .i64 x.tok.high), (.slice none 0 0)] := ax
  refine Zd (Zb (H4 _ _ ?_))
  refine Zf fun d7 cU => ?_
  refine Zf fun d8 cV => ?_
  refine Zc (Za rfl rfl (Zg rfl) (Za rfl rfl (Zy rfl) (Za rfl rfl (Zi fa45_1 rfl) ?_)))
  have cA := (F6.ch0 C8).ch bW (oS om)
  refine Za rfl rfl (Zo cA agg43 rfl rfl) (Za rfl rfl (Xk (by rw [el43]; rfl) rfl) (Za rfl rfl (Zg rfl) (Zd (Zb (cV _ _ ?_)))))
  refine Yj ?_
  have a9 : Ol acs 39 1 bH (.slice none 0 0) (([] : List Addr)) := by
   have hx := Ol.nil (cs := acs) (e := 39) (k := 1) bH
   exact hx
  refine Qf (σ := Nat × List Addr × Value) (fun ⟨i, ps, sv⟩ => [(0, (.pointer (some p_x))), (2, (.pointer none)), (3, (.pointer (some ⟨d, 0, none⟩))), (31, (.slice aP I.length aQ)), (32, (.int .i64 ((I.length : Nat) : Int))), (33, (.int .i64 ((i : Nat) : Int)))]) (fun ⟨i, ps, sv⟩ wx => Ch [] w wx ∧ bH.heap.size ≤ wx.heap.size ∧ (i ≤ x.kids.length) ∧ At wx LT_x w.heap.size p_x ([.int .i64 x.tok.kind, .int .i64 x.tok.letter, .int .i64 x.tok.low, .int .i64 x.tok.high, (.slice aP I.length aQ)]) ∧ Ol acs 39 1 wx sv ps ∧ Lo bH.heap.size sv ∧ KdN wx w.heap.size d sv ps ((x.kids.take i).map Xh) ∧ Blk wx d 45 [(.int .i64 x.tok.kind), (.int .i64 (invL x.tok.letter)), (.int .i64 x.tok.low), (.int .i64 x.tok.high), sv] ∧ (d ∉ bl sv)) (fun ⟨i, ps, sv⟩ => x.kids.length - i) (0, ([] : List Addr), (.slice none 0 0)) (sC4 rfl rfl rfl rfl (sC2 rfl rfl (Sub.nil _))) ⟨E, (Nat.le_refl _), om, cA, a9, (Lo.nil _), (by simpa using KdN.nil _ _ _ _), ax, (fun hm => by cases hm)⟩ ?_
  rintro ⟨i, ps, sv⟩ bS ⟨E, bX, hi, B, m, b, kds, o, a⟩
  have V := E
  have bI := V.size
  obtain ⟨Asv, Csv, rfl, lsv, hisv⟩ := m.opn
  refine Zf fun d9 cW => ?_
  refine Zc (Za rfl rfl (Qv rfl rfl) (Zd (Zb (cW _ _ ?_))))
  refine Zf fun eb cX => ?_
  refine Zs rfl (fun u => ?_) (fun u => ?_)
  ·have bY := u
   have u := Yb u
   refine Zu ?_
   refine Zb (cX _ _ ?_)
   refine Zf fun ec bZ => ?_
   refine Yj ?_
   refine Zf fun ed cY => ?_
   refine Zc (Zl rfl rfl ?_)
   have cZ := aW.ch0 V
   refine (Xc cZ Yw el43 sz39 rfl rfl rfl om fun ba bb ay X => ?_)
   have c0 := av.ch0 V
   obtain ⟨az, y, C⟩ := c0.get ay
   obtain ⟨bJ, bK, bc, be, bf, Y⟩ := C.open
   have bg := Y.1
   replace X : At bS LT_x w.heap.size ba ([(.pointer (some bb))]) := X
   refine Za rfl rfl (Ym X agg39 rfl rfl) (Za rfl rfl (Ze rfl) (Zd (Zb (cY _ _ ?_))))
   refine Xm ((bl (.slice Asv (ps).length Csv)) ++ [d]) 12 mixed rfl fun ak S => ?_
   have c1 := S.size
   have E := E.trans S
   refine dV 0 rfl rfl rfl (fun _ => Zg rfl) (dV 1 rfl rfl rfl (fun _ => Zg rfl) (dV 2 rfl rfl rfl (fun _ => Zy rfl) (dV 3 rfl rfl rfl (fun _ => Zi fa45_1 rfl) (dV 5 rfl rfl rfl (fun _ => Zg rfl) ?_))))
   refine Zam 4 6 (by kernel_rfl) ?_ ?_
   ·refine Yf rfl rfl rfl ?_
    have cB := o.ch0 S
    refine s_v (Zo cB.at_ agg43 rfl rfl) ?_
    refine ⟨(Ch.refl _ _), ?_⟩
    refine dO 6 (Yf rfl rfl rfl ?_)
    have c2 := C.ch0 S
    refine Step.call (Zm (xs := [.tmp 42]) fk24 rfl) (ih c2 (hok.kid y) (by have := Tr.kid_sz y; omega)) fun bh b0 Z => ?_
    obtain ⟨c, rfl, l, bi⟩ := Z
    have c3 := bi.size
    have E := E.trans bi
    replace l : TrAt b0 ak.heap.size b0.heap.size c (Xh az) := l
    obtain ⟨aA, aB, aa, ab, ac, z⟩ := l.open
    have ad := z.1
    have aX : Ch ((bl (.slice Asv (ps).length Csv)) ++ [d]) ak b0 := ((Ch.refl _ _).trans bi.of_nil)
    refine ⟨aX, ?_⟩
    refine dO 7 (Yf rfl rfl rfl ?_)
    refine Xs (parts := [(0, .tmp 43)]) [(c : Addr)] el43 sz39 zr39 rfl rfl (by decide) (by decide) rfl fun aC c4 r K aY => ?_
    have c5 := aY.size
    have E := E.trans aY
    obtain ⟨L, M, rfl, O, D⟩ := r.opn
    have aZ : Ch ((bl (.slice Asv (ps).length Csv)) ++ [d]) ak c4 := (aX.trans aY.of_nil)
    refine ⟨aZ, ?_⟩
    refine dO 8 (Yf rfl rfl rfl ?_)
    have c6 := ((m.ch0 S).ch0 bi).ch0 aY
    refine Yt (cs := acs) el43 sz39 by39 zr39 rfl (by decide) Zbl c6 r.ls rfl rfl (by have F := kds.1; simp only [List.length_map, List.length_take] at F; simp only [List.length_singleton]; omega) (by have F := kds.1; simp only [List.length_map, List.length_take] at F; simp only [List.length_singleton]; omega) b om fun aD c7 s t f bz => ?_
    have c8 := bz.size
    have E := E.step bz (fun i hi => .inl (by have al := b _ hi; omega))
    obtain ⟨h, j, rfl, P, G⟩ := s.opn
    have a0 : Ch ((bl (.slice Asv (ps).length Csv)) ++ [d]) ak c7 := (aZ.step bz (fun i hm => by exact .inr (List.mem_append_left _ hm)))
    refine ⟨a0, ?_⟩
    refine dV 9 rfl rfl rfl (fun _ => Zy rfl) (dV 10 rfl rfl rfl (fun _ => Zi fa45_1 rfl) (dO 11 (Yf rfl rfl rfl ?_)))
    have c9 := ((cB.ch0 bi).ch0 aY).ch bz (fun hm => by exact a (by first | exact hm | exact q ▸ hm))
    refine Ys (off := 4) c9 sz43 rfl rfl rfl rfl fun b1 aE bA => ?_
    have da := bA.size
    have E := E.step bA (lS om)
    replace aE : Blk b1 d 45 [(.int .i64 x.tok.kind), (.int .i64 (invL x.tok.letter)), (.int .i64 x.tok.low), (.int .i64 x.tok.high), (.slice h ((ps ++ [(c : Addr)])).length j)] := aE
    have bL : Ch ((bl (.slice Asv (ps).length Csv)) ++ [d]) ak b1 := (a0.step bA (fun i hm => by have q := List.mem_singleton.1 hm; exact .inr (by rw [q]; exact (List.mem_append_right _ (List.mem_singleton.2 rfl)))))
    refine ⟨bL, ?_⟩
    refine Yo (by kernel_rfl) ?_
    refine Yd (Zb (bZ _ _ (Zc (Za rfl rfl (Yy om rfl rfl) (Za rfl rfl (Zg rfl) (Zd ?_))))))
    have db := l.ch0 aY
    have k9 := (KdN.grow kds om hisv om ((((Ch.refl [] bS).trans S).trans bi).trans aY) db om om bz f).bo bA
    have dc := s.ch bA (fun g hg hm => by have q := List.mem_singleton.1 hm; rcases f with ea | ea; (rw [ea] at hg; exact a (by first | exact hg | exact q ▸ hg)); (rw [ea] at hg; have aF := List.mem_singleton.1 hg; omega))
    have bj : Ol acs 39 1 b1 (.slice h ((ps ++ [(c : Addr)])).length j) ((ps ++ [(c : Addr)])) := by
     have hx := dc
     exact hx
    have dd := ((((B.ch0 S).ch0 bi).ch0 aY).ch bz (fun i hi => by have al := b _ hi; omega)).ch bA (oS om)
    exact Zb (Exists.intro ((i + 1), (ps ++ [(c : Addr)]), (.slice h ((ps ++ [(c : Addr)])).length j)) ⟨⟨E, om, om, dd, bj, (Lo.down t om), (by rw [Xz y, List.map_append]; exact k9), aE, (fun hm => by rcases f with ea | ea; (rw [ea] at hm; exact a (by first | exact hm | exact q ▸ hm)); (rw [ea] at hm; have aF := List.mem_singleton.1 hm; omega))⟩, sC4 rfl rfl rfl rfl (sC2 rfl rfl (Sub.nil _)), (by first | omega | (dsimp only; omega))⟩)
   refine Yf rfl rfl rfl ?_
   have de := C.ch0 S
   refine Step.call (Zm (xs := [.tmp 42]) fk24 rfl) (ih de (hok.kid y) (by have := Tr.kid_sz y; omega)) fun bh b2 Z => ?_
   obtain ⟨c, rfl, l, aG⟩ := Z
   have df := aG.size
   have E := E.trans aG
   replace l : TrAt b2 ak.heap.size b2.heap.size c (Xh az) := l
   obtain ⟨aA, aB, aa, ab, ac, z⟩ := l.open
   have ad := z.1
   have aj : Ch ((bl (.slice Asv (ps).length Csv)) ++ [d]) ak b2 := ((Ch.refl _ _).trans aG.of_nil)
   refine ⟨aj, ?_⟩
   refine Zam 4 7 (by kernel_rfl) ?_ ?_
   ·refine Yf rfl rfl rfl ?_
    have cC := (o.ch0 S).ch0 aG
    refine s_v (Zo cC.at_ agg43 rfl rfl) ?_
    refine ⟨aj, ?_⟩
    refine dO 7 (Yf rfl rfl rfl ?_)
    refine Xs (parts := [(0, .tmp 43)]) [(c : Addr)] el43 sz39 zr39 rfl rfl (by decide) (by decide) rfl fun aC dg r K a1 => ?_
    have dh := a1.size
    have E := E.trans a1
    obtain ⟨L, M, rfl, O, D⟩ := r.opn
    have a2 : Ch ((bl (.slice Asv (ps).length Csv)) ++ [d]) ak dg := (aj.trans a1.of_nil)
    refine ⟨a2, ?_⟩
    refine dO 8 (Yf rfl rfl rfl ?_)
    have di := ((m.ch0 S).ch0 aG).ch0 a1
    refine Yt (cs := acs) el43 sz39 by39 zr39 rfl (by decide) Zbl di r.ls rfl rfl (by have F := kds.1; simp only [List.length_map, List.length_take] at F; simp only [List.length_singleton]; omega) (by have F := kds.1; simp only [List.length_map, List.length_take] at F; simp only [List.length_singleton]; omega) b om fun aD dj s t f bB => ?_
    have dk := bB.size
    have E := E.step bB (fun i hi => .inl (by have al := b _ hi; omega))
    obtain ⟨h, j, rfl, P, G⟩ := s.opn
    have a3 : Ch ((bl (.slice Asv (ps).length Csv)) ++ [d]) ak dj := (a2.step bB (fun i hm => by exact .inr (List.mem_append_left _ hm)))
    refine ⟨a3, ?_⟩
    refine dV 9 rfl rfl rfl (fun _ => Zy rfl) (dV 10 rfl rfl rfl (fun _ => Zi fa45_1 rfl) (dO 11 (Yf rfl rfl rfl ?_)))
    have dl := (cC.ch0 a1).ch bB (fun hm => by exact a (by first | exact hm | exact q ▸ hm))
    refine Ys (off := 4) dl sz43 rfl rfl rfl rfl fun b3 aH bC => ?_
    have dm := bC.size
    have E := E.step bC (lS om)
    replace aH : Blk b3 d 45 [(.int .i64 x.tok.kind), (.int .i64 (invL x.tok.letter)), (.int .i64 x.tok.low), (.int .i64 x.tok.high), (.slice h ((ps ++ [(c : Addr)])).length j)] := aH
    have bM : Ch ((bl (.slice Asv (ps).length Csv)) ++ [d]) ak b3 := (a3.step bC (fun i hm => by have q := List.mem_singleton.1 hm; exact .inr (by rw [q]; exact (List.mem_append_right _ (List.mem_singleton.2 rfl)))))
    refine ⟨bM, ?_⟩
    refine Yo (by kernel_rfl) ?_
    refine Yd (Zb (bZ _ _ (Zc (Za rfl rfl (Yy om rfl rfl) (Za rfl rfl (Zg rfl) (Zd ?_))))))
    have dn := l.ch0 a1
    have k9 := (KdN.grow kds om hisv om ((((Ch.refl [] bS).trans S).trans aG).trans a1) dn om om bB f).bo bC
    have dp := s.ch bC (fun g hg hm => by have q := List.mem_singleton.1 hm; rcases f with ea | ea; (rw [ea] at hg; exact a (by first | exact hg | exact q ▸ hg)); (rw [ea] at hg; have aF := List.mem_singleton.1 hg; omega))
    have bk : Ol acs 39 1 b3 (.slice h ((ps ++ [(c : Addr)])).length j) ((ps ++ [(c : Addr)])) := by
     have hx := dp
     exact hx
    have dq := ((((B.ch0 S).ch0 aG).ch0 a1).ch bB (fun i hi => by have al := b _ hi; omega)).ch bC (oS om)
    exact Zb (Exists.intro ((i + 1), (ps ++ [(c : Addr)]), (.slice h ((ps ++ [(c : Addr)])).length j)) ⟨⟨E, om, om, dq, bk, (Lo.down t om), (by rw [Xz y, List.map_append]; exact k9), aH, (fun hm => by rcases f with ea | ea; (rw [ea] at hm; exact a (by first | exact hm | exact q ▸ hm)); (rw [ea] at hm; have aF := List.mem_singleton.1 hm; omega))⟩, sC4 rfl rfl rfl rfl (sC2 rfl rfl (Sub.nil _)), (by first | omega | (dsimp only; omega))⟩)
   refine Yf rfl rfl rfl ?_
   refine Xs (parts := [(0, .tmp 43)]) [(c : Addr)] el43 sz39 zr39 rfl rfl (by decide) (by decide) rfl fun aC dr r K a4 => ?_
   have ds := a4.size
   have E := E.trans a4
   obtain ⟨L, M, rfl, O, D⟩ := r.opn
   have aI : Ch ((bl (.slice Asv (ps).length Csv)) ++ [d]) ak dr := (aj.trans a4.of_nil)
   refine ⟨aI, ?_⟩
   refine dO 4 (Yf rfl rfl rfl ?_)
   have cD := ((o.ch0 S).ch0 aG).ch0 a4
   refine s_v (Zo cD.at_ agg43 rfl rfl) ?_
   refine ⟨aI, ?_⟩
   refine dO 8 (Yf rfl rfl rfl ?_)
   have dt := ((m.ch0 S).ch0 aG).ch0 a4
   refine Yt (cs := acs) el43 sz39 by39 zr39 rfl (by decide) Zbl dt r.ls rfl rfl (by have F := kds.1; simp only [List.length_map, List.length_take] at F; simp only [List.length_singleton]; omega) (by have F := kds.1; simp only [List.length_map, List.length_take] at F; simp only [List.length_singleton]; omega) b om fun aD du s t f bD => ?_
   have dv := bD.size
   have E := E.step bD (fun i hi => .inl (by have al := b _ hi; omega))
   obtain ⟨h, j, rfl, P, G⟩ := s.opn
   have a5 : Ch ((bl (.slice Asv (ps).length Csv)) ++ [d]) ak du := (aI.step bD (fun i hm => by exact .inr (List.mem_append_left _ hm)))
   refine ⟨a5, ?_⟩
   refine dV 9 rfl rfl rfl (fun _ => Zy rfl) (dV 10 rfl rfl rfl (fun _ => Zi fa45_1 rfl) (dO 11 (Yf rfl rfl rfl ?_)))
   have dw := cD.ch bD (fun hm => by exact a (by first | exact hm | exact q ▸ hm))
   refine Ys (off := 4) dw sz43 rfl rfl rfl rfl fun b4 aJ bE => ?_
   have dx := bE.size
   have E := E.step bE (lS om)
   replace aJ : Blk b4 d 45 [(.int .i64 x.tok.kind), (.int .i64 (invL x.tok.letter)), (.int .i64 x.tok.low), (.int .i64 x.tok.high), (.slice h ((ps ++ [(c : Addr)])).length j)] := aJ
   have bN : Ch ((bl (.slice Asv (ps).length Csv)) ++ [d]) ak b4 := (a5.step bE (fun i hm => by have q := List.mem_singleton.1 hm; exact .inr (by rw [q]; exact (List.mem_append_right _ (List.mem_singleton.2 rfl)))))
   refine ⟨bN, ?_⟩
   refine Yo (by kernel_rfl) ?_
   refine Yd (Zb (bZ _ _ (Zc (Za rfl rfl (Yy om rfl rfl) (Za rfl rfl (Zg rfl) (Zd ?_))))))
   have dy := l.ch0 a4
   have k9 := (KdN.grow kds om hisv om ((((Ch.refl [] bS).trans S).trans aG).trans a4) dy om om bD f).bo bE
   have dz := s.ch bE (fun g hg hm => by have q := List.mem_singleton.1 hm; rcases f with ea | ea; (rw [ea] at hg; exact a (by first | exact hg | exact q ▸ hg)); (rw [ea] at hg; have aF := List.mem_singleton.1 hg; omega))
   have bm : Ol acs 39 1 b4 (.slice h ((ps ++ [(c : Addr)])).length j) ((ps ++ [(c : Addr)])) := by
    have hx := dz
    exact hx
   have dA := ((((B.ch0 S).ch0 aG).ch0 a4).ch bD (fun i hi => by have al := b _ hi; omega)).ch bE (oS om)
   exact Zb (Exists.intro ((i + 1), (ps ++ [(c : Addr)]), (.slice h ((ps ++ [(c : Addr)])).length j)) ⟨⟨E, om, om, dA, bm, (Lo.down t om), (by rw [Xz y, List.map_append]; exact k9), aJ, (fun hm => by rcases f with ea | ea; (rw [ea] at hm; exact a (by first | exact hm | exact q ▸ hm)); (rw [ea] at hm; have aF := List.mem_singleton.1 hm; omega))⟩, sC4 rfl rfl rfl rfl (sC2 rfl rfl (Sub.nil _)), (by first | omega | (dsimp only; omega))⟩)
  have bY := u
  have u := Yc u
  refine Xu (Yh (Yh (Xd ?_)))
  refine Zb (cU _ _ ?_)
  refine Zf fun ee cE => ?_
  refine Zf fun ef dB => ?_
  refine Zc (Za rfl rfl (Zg rfl) (Za rfl rfl (Zy rfl) (Za rfl rfl (Zi fa45_0 rfl) (Za rfl rfl (Zac (n := 0) fa42_0 rfl rfl) (Za rfl rfl (Zo B agg3 rfl rfl) (Za rfl rfl (Yn rfl rfl) (Zd ?_)))))))
  refine Zb (dB _ _ ?_)
  refine Zs rfl (fun A => ?_) (fun A => ?_)
  ·have b5 := A
   have A := Yb A
   refine Zc (Za rfl rfl (Zg rfl) (Za rfl rfl (Zy rfl) (Za rfl rfl (Zi fa45_1 rfl) (Za rfl rfl (Zo o.at_ agg43 rfl rfl) (Zl rfl rfl ?_)))))
   refine Step.call (Zm (xs := [.tmp 58]) fk38 rfl) (Xg m ) fun b6 eg ae => ?_
   obtain ⟨rfl, ae, bT⟩ := ae
   have dC := bT.size
   have E := E.step bT (fun i hi => .inl (by have al := b _ hi; omega))
   refine Zd (Zb (cE _ _ ?_))
   refine Zf fun eh dD => ?_
   refine Zc (Za rfl rfl (Zg rfl) (Za rfl rfl (Ze rfl) (Zd (Zb (dD _ _ ?_)))))
   refine Zp ?_
   have dE := o.ch bT (fun hm => by exact a (by first | exact hm | exact q ▸ hm))
   exact Zh [_] ⟨rfl, trivial⟩ ⟨_, rfl, (Zdw (k := ⟨x.tok.kind, invL x.tok.letter, x.tok.low, x.tok.high⟩) (KdF.rev (KdN.row kds bT)) dE om ae (Lo.down b om) om hok (by unfold revK; first | (rw [if_pos om]; done) | (rw [if_neg om]; done)) (by rw [List.take_of_length_le om]; first | (rw [if_pos om]; done) | (rw [if_neg om]; done))), E⟩
  have b5 := A
  have A := Yc A
  refine Zu ?_
  refine Zb (cE _ _ ?_)
  refine Zf fun ei dF => ?_
  refine Zc (Za rfl rfl (Zg rfl) (Za rfl rfl (Ze rfl) (Zd (Zb (dF _ _ ?_)))))
  refine Zp ?_
  exact Zh [_] ⟨rfl, trivial⟩ ⟨_, rfl, (Zdw (k := ⟨x.tok.kind, invL x.tok.letter, x.tok.low, x.tok.high⟩) kds o om m (Lo.down b om) om hok (by unfold revK; first | (rw [if_pos om]; done) | (rw [if_neg om]; done)) (by rw [List.take_of_length_le om]; first | (rw [if_pos om]; done) | (rw [if_neg om]; done))), E⟩
 have cR := U
 have U := Yc U
 refine Zu ?_
 refine Zb (H4 _ _ ?_)
 refine Zf fun ej dG => ?_
 refine Zf fun ek dH => ?_
 refine Zc (Za rfl rfl (Zg rfl) (Za rfl rfl (Zy rfl) (Za rfl rfl (Zi fa45_1 rfl) (Za rfl rfl (Zo F6 agg43 rfl rfl) (Za rfl rfl (Xk (by rw [el43]; rfl) rfl) (Za rfl rfl (Zg rfl) (Zd ?_)))))))
 refine Zb (dH _ _ ?_)
 refine Yj ?_
 have bn : Ol acs 39 1 W3 (.slice none 0 0) (([] : List Addr)) := by
  have hx := Ol.nil (cs := acs) (e := 39) (k := 1) W3
  exact hx
 refine Qf (σ := Nat × List Addr × Value) (fun ⟨i, ps, sv⟩ => [(0, (.pointer (some p_x))), (2, (.pointer none)), (3, (.pointer (some ⟨d, 0, none⟩))), (31, (.slice aP I.length aQ)), (32, (.int .i64 ((I.length : Nat) : Int))), (33, (.int .i64 ((i : Nat) : Int)))]) (fun ⟨i, ps, sv⟩ wx => Ch [] w wx ∧ W3.heap.size ≤ wx.heap.size ∧ (i ≤ x.kids.length) ∧ At wx LT_x w.heap.size p_x ([.int .i64 x.tok.kind, .int .i64 x.tok.letter, .int .i64 x.tok.low, .int .i64 x.tok.high, (.slice aP I.length aQ)]) ∧ Ol acs 39 1 wx sv ps ∧ Lo W3.heap.size sv ∧ KdN wx w.heap.size d sv ps ((x.kids.take i).map Xh) ∧ Blk wx d 45 [(.int .i64 x.tok.kind), (.int .i64 x.tok.letter), (.int .i64 x.tok.low), (.int .i64 x.tok.high), sv] ∧ (d ∉ bl sv)) (fun ⟨i, ps, sv⟩ => x.kids.length - i) (0, ([] : List Addr), (.slice none 0 0)) (sC4 rfl rfl rfl rfl (sC2 rfl rfl (Sub.nil _))) ⟨E, (Nat.le_refl _), om, F6, bn, (Lo.nil _), (by simpa using KdN.nil _ _ _ _), aw, (fun hm => by cases hm)⟩ ?_
 rintro ⟨i, ps, sv⟩ bU ⟨E, bX, hi, B, m, b, kds, o, a⟩
 have V := E
 have bI := V.size
 obtain ⟨Asv, Csv, rfl, lsv, hisv⟩ := m.opn
 refine Zf fun el dI => ?_
 refine Zc (Za rfl rfl (Qv rfl rfl) (Zd (Zb (dI _ _ ?_))))
 refine Zf fun em dJ => ?_
 refine Zs rfl (fun u => ?_) (fun u => ?_)
 ·have b7 := u
  have u := Yb u
  refine Zu ?_
  refine Zb (dJ _ _ ?_)
  refine Zf fun en b8 => ?_
  refine Yj ?_
  refine Zf fun eo dL => ?_
  refine Zc (Zl rfl rfl ?_)
  have dM := aW.ch0 V
  refine (Xc dM Yw el43 sz39 rfl rfl rfl om fun ba bb ay X => ?_)
  have dN := av.ch0 V
  obtain ⟨az, y, C⟩ := dN.get ay
  obtain ⟨bJ, bK, bc, be, bf, Y⟩ := C.open
  have bg := Y.1
  replace X : At bU LT_x w.heap.size ba ([(.pointer (some bb))]) := X
  refine Za rfl rfl (Ym X agg39 rfl rfl) (Za rfl rfl (Ze rfl) (Zd (Zb (dL _ _ ?_))))
  refine Xm ((bl (.slice Asv (ps).length Csv)) ++ [d]) 12 mixed rfl fun am T => ?_
  have dP := T.size
  have E := E.trans T
  refine dV 0 rfl rfl rfl (fun _ => Zg rfl) (dV 1 rfl rfl rfl (fun _ => Zg rfl) (dV 2 rfl rfl rfl (fun _ => Zy rfl) (dV 3 rfl rfl rfl (fun _ => Zi fa45_1 rfl) (dV 5 rfl rfl rfl (fun _ => Zg rfl) ?_))))
  refine Zam 4 6 (by kernel_rfl) ?_ ?_
  ·refine Yf rfl rfl rfl ?_
   have cF := o.ch0 T
   refine s_v (Zo cF.at_ agg43 rfl rfl) ?_
   refine ⟨(Ch.refl _ _), ?_⟩
   refine dO 6 (Yf rfl rfl rfl ?_)
   have dQ := C.ch0 T
   refine Step.call (Zm (xs := [.tmp 42]) fk24 rfl) (ih dQ (hok.kid y) (by have := Tr.kid_sz y; omega)) fun bh b9 Z => ?_
   obtain ⟨c, rfl, l, bp⟩ := Z
   have dR := bp.size
   have E := E.trans bp
   replace l : TrAt b9 am.heap.size b9.heap.size c (Xh az) := l
   obtain ⟨aA, aB, aa, ab, ac, z⟩ := l.open
   have ad := z.1
   have a6 : Ch ((bl (.slice Asv (ps).length Csv)) ++ [d]) am b9 := ((Ch.refl _ _).trans bp.of_nil)
   refine ⟨a6, ?_⟩
   refine dO 7 (Yf rfl rfl rfl ?_)
   refine Xs (parts := [(0, .tmp 43)]) [(c : Addr)] el43 sz39 zr39 rfl rfl (by decide) (by decide) rfl fun aC dU r K a7 => ?_
   have dW := a7.size
   have E := E.trans a7
   obtain ⟨L, M, rfl, O, D⟩ := r.opn
   have a8 : Ch ((bl (.slice Asv (ps).length Csv)) ++ [d]) am dU := (a6.trans a7.of_nil)
   refine ⟨a8, ?_⟩
   refine dO 8 (Yf rfl rfl rfl ?_)
   have dX := ((m.ch0 T).ch0 bp).ch0 a7
   refine Yt (cs := acs) el43 sz39 by39 zr39 rfl (by decide) Zbl dX r.ls rfl rfl (by have F := kds.1; simp only [List.length_map, List.length_take] at F; simp only [List.length_singleton]; omega) (by have F := kds.1; simp only [List.length_map, List.length_take] at F; simp only [List.length_singleton]; omega) b om fun aD dY s t f bF => ?_
   have dZ := bF.size
   have E := E.step bF (fun i hi => .inl (by have al := b _ hi; omega))
   obtain ⟨h, j, rfl, P, G⟩ := s.opn
   have aK : Ch ((bl (.slice Asv (ps).length Csv)) ++ [d]) am dY := (a8.step bF (fun i hm => by exact .inr (List.mem_append_left _ hm)))
   refine ⟨aK, ?_⟩
   refine dV 9 rfl rfl rfl (fun _ => Zy rfl) (dV 10 rfl rfl rfl (fun _ => Zi fa45_1 rfl) (dO 11 (Yf rfl rfl rfl ?_)))
   have ca := ((cF.ch0 bp).ch0 a7).ch bF (fun hm => by exact a (by first | exact hm | exact q ▸ hm))
   refine Ys (off := 4) ca sz43 rfl rfl rfl rfl fun bq af an => ?_
   have cG := an.size
   have E := E.step an (lS om)
   replace af : Blk bq d 45 [(.int .i64 x.tok.kind), (.int .i64 x.tok.letter), (.int .i64 x.tok.low), (.int .i64 x.tok.high), (.slice h ((ps ++ [(c : Addr)])).length j)] := af
   have br : Ch ((bl (.slice Asv (ps).length Csv)) ++ [d]) am bq := (aK.step an (fun i hm => by have q := List.mem_singleton.1 hm; exact .inr (by rw [q]; exact (List.mem_append_right _ (List.mem_singleton.2 rfl)))))
   refine ⟨br, ?_⟩
   refine Yo (by kernel_rfl) ?_
   refine Yd (Zb (b8 _ _ (Zc (Za rfl rfl (Yy om rfl rfl) (Za rfl rfl (Zg rfl) (Zd ?_))))))
   have cb := l.ch0 a7
   have k9 := (KdN.grow kds om hisv om ((((Ch.refl [] bU).trans T).trans bp).trans a7) cb om om bF f).bo an
   have cc := s.ch an (fun g hg hm => by have q := List.mem_singleton.1 hm; rcases f with ea | ea; (rw [ea] at hg; exact a (by first | exact hg | exact q ▸ hg)); (rw [ea] at hg; have aF := List.mem_singleton.1 hg; omega))
   have aR : Ol acs 39 1 bq (.slice h ((ps ++ [(c : Addr)])).length j) ((ps ++ [(c : Addr)])) := by
    have hx := cc
    exact hx
   have cd := ((((B.ch0 T).ch0 bp).ch0 a7).ch bF (fun i hi => by have al := b _ hi; omega)).ch an (oS om)
   exact Zb (Exists.intro ((i + 1), (ps ++ [(c : Addr)]), (.slice h ((ps ++ [(c : Addr)])).length j)) ⟨⟨E, om, om, cd, aR, (Lo.down t om), (by rw [Xz y, List.map_append]; exact k9), af, (fun hm => by rcases f with ea | ea; (rw [ea] at hm; exact a (by first | exact hm | exact q ▸ hm)); (rw [ea] at hm; have aF := List.mem_singleton.1 hm; omega))⟩, sC4 rfl rfl rfl rfl (sC2 rfl rfl (Sub.nil _)), (by first | omega | (dsimp only; omega))⟩)
  refine Yf rfl rfl rfl ?_
  have ce := C.ch0 T
  refine Step.call (Zm (xs := [.tmp 42]) fk24 rfl) (ih ce (hok.kid y) (by have := Tr.kid_sz y; omega)) fun bh bs Z => ?_
  obtain ⟨c, rfl, l, H⟩ := Z
  have cH := H.size
  have E := E.trans H
  replace l : TrAt bs am.heap.size bs.heap.size c (Xh az) := l
  obtain ⟨aA, aB, aa, ab, ac, z⟩ := l.open
  have ad := z.1
  have J : Ch ((bl (.slice Asv (ps).length Csv)) ++ [d]) am bs := ((Ch.refl _ _).trans H.of_nil)
  refine ⟨J, ?_⟩
  refine Zam 4 7 (by kernel_rfl) ?_ ?_
  ·refine Yf rfl rfl rfl ?_
   have bO := (o.ch0 T).ch0 H
   refine s_v (Zo bO.at_ agg43 rfl rfl) ?_
   refine ⟨J, ?_⟩
   refine dO 7 (Yf rfl rfl rfl ?_)
   refine Xs (parts := [(0, .tmp 43)]) [(c : Addr)] el43 sz39 zr39 rfl rfl (by decide) (by decide) rfl fun aC cf r K Q => ?_
   have cI := Q.size
   have E := E.trans Q
   obtain ⟨L, M, rfl, O, D⟩ := r.opn
   have aL : Ch ((bl (.slice Asv (ps).length Csv)) ++ [d]) am cf := (J.trans Q.of_nil)
   refine ⟨aL, ?_⟩
   refine dO 8 (Yf rfl rfl rfl ?_)
   have cg := ((m.ch0 T).ch0 H).ch0 Q
   refine Yt (cs := acs) el43 sz39 by39 zr39 rfl (by decide) Zbl cg r.ls rfl rfl (by have F := kds.1; simp only [List.length_map, List.length_take] at F; simp only [List.length_singleton]; omega) (by have F := kds.1; simp only [List.length_map, List.length_take] at F; simp only [List.length_singleton]; omega) b om fun aD ci s t f ao => ?_
   have cJ := ao.size
   have E := E.step ao (fun i hi => .inl (by have al := b _ hi; omega))
   obtain ⟨h, j, rfl, P, G⟩ := s.opn
   have aM : Ch ((bl (.slice Asv (ps).length Csv)) ++ [d]) am ci := (aL.step ao (fun i hm => by exact .inr (List.mem_append_left _ hm)))
   refine ⟨aM, ?_⟩
   refine dV 9 rfl rfl rfl (fun _ => Zy rfl) (dV 10 rfl rfl rfl (fun _ => Zi fa45_1 rfl) (dO 11 (Yf rfl rfl rfl ?_)))
   have cj := (bO.ch0 Q).ch ao (fun hm => by exact a (by first | exact hm | exact q ▸ hm))
   refine Ys (off := 4) cj sz43 rfl rfl rfl rfl fun bu ag ap => ?_
   have cK := ap.size
   have E := E.step ap (lS om)
   replace ag : Blk bu d 45 [(.int .i64 x.tok.kind), (.int .i64 x.tok.letter), (.int .i64 x.tok.low), (.int .i64 x.tok.high), (.slice h ((ps ++ [(c : Addr)])).length j)] := ag
   have bv : Ch ((bl (.slice Asv (ps).length Csv)) ++ [d]) am bu := (aM.step ap (fun i hm => by have q := List.mem_singleton.1 hm; exact .inr (by rw [q]; exact (List.mem_append_right _ (List.mem_singleton.2 rfl)))))
   refine ⟨bv, ?_⟩
   refine Yo (by kernel_rfl) ?_
   refine Yd (Zb (b8 _ _ (Zc (Za rfl rfl (Yy om rfl rfl) (Za rfl rfl (Zg rfl) (Zd ?_))))))
   have ck := l.ch0 Q
   have k9 := (KdN.grow kds om hisv om ((((Ch.refl [] bU).trans T).trans H).trans Q) ck om om ao f).bo ap
   have cl := s.ch ap (fun g hg hm => by have q := List.mem_singleton.1 hm; rcases f with ea | ea; (rw [ea] at hg; exact a (by first | exact hg | exact q ▸ hg)); (rw [ea] at hg; have aF := List.mem_singleton.1 hg; omega))
   have aS : Ol acs 39 1 bu (.slice h ((ps ++ [(c : Addr)])).length j) ((ps ++ [(c : Addr)])) := by
    have hx := cl
    exact hx
   have cm := ((((B.ch0 T).ch0 H).ch0 Q).ch ao (fun i hi => by have al := b _ hi; omega)).ch ap (oS om)
   exact Zb (Exists.intro ((i + 1), (ps ++ [(c : Addr)]), (.slice h ((ps ++ [(c : Addr)])).length j)) ⟨⟨E, om, om, cm, aS, (Lo.down t om), (by rw [Xz y, List.map_append]; exact k9), ag, (fun hm => by rcases f with ea | ea; (rw [ea] at hm; exact a (by first | exact hm | exact q ▸ hm)); (rw [ea] at hm; have aF := List.mem_singleton.1 hm; omega))⟩, sC4 rfl rfl rfl rfl (sC2 rfl rfl (Sub.nil _)), (by first | omega | (dsimp only; omega))⟩)
  refine Yf rfl rfl rfl ?_
  refine Xs (parts := [(0, .tmp 43)]) [(c : Addr)] el43 sz39 zr39 rfl rfl (by decide) (by decide) rfl fun aC cn r K R => ?_
  have cL := R.size
  have E := E.trans R
  obtain ⟨L, M, rfl, O, D⟩ := r.opn
  have ah : Ch ((bl (.slice Asv (ps).length Csv)) ++ [d]) am cn := (J.trans R.of_nil)
  refine ⟨ah, ?_⟩
  refine dO 4 (Yf rfl rfl rfl ?_)
  have bP := ((o.ch0 T).ch0 H).ch0 R
  refine s_v (Zo bP.at_ agg43 rfl rfl) ?_
  refine ⟨ah, ?_⟩
  refine dO 8 (Yf rfl rfl rfl ?_)
  have co := ((m.ch0 T).ch0 H).ch0 R
  refine Yt (cs := acs) el43 sz39 by39 zr39 rfl (by decide) Zbl co r.ls rfl rfl (by have F := kds.1; simp only [List.length_map, List.length_take] at F; simp only [List.length_singleton]; omega) (by have F := kds.1; simp only [List.length_map, List.length_take] at F; simp only [List.length_singleton]; omega) b om fun aD cp s t f aq => ?_
  have cM := aq.size
  have E := E.step aq (fun i hi => .inl (by have al := b _ hi; omega))
  obtain ⟨h, j, rfl, P, G⟩ := s.opn
  have aN : Ch ((bl (.slice Asv (ps).length Csv)) ++ [d]) am cp := (ah.step aq (fun i hm => by exact .inr (List.mem_append_left _ hm)))
  refine ⟨aN, ?_⟩
  refine dV 9 rfl rfl rfl (fun _ => Zy rfl) (dV 10 rfl rfl rfl (fun _ => Zi fa45_1 rfl) (dO 11 (Yf rfl rfl rfl ?_)))
  have cq := bP.ch aq (fun hm => by exact a (by first | exact hm | exact q ▸ hm))
  refine Ys (off := 4) cq sz43 rfl rfl rfl rfl fun bw ai au => ?_
  have cN := au.size
  have E := E.step au (lS om)
  replace ai : Blk bw d 45 [(.int .i64 x.tok.kind), (.int .i64 x.tok.letter), (.int .i64 x.tok.low), (.int .i64 x.tok.high), (.slice h ((ps ++ [(c : Addr)])).length j)] := ai
  have bx : Ch ((bl (.slice Asv (ps).length Csv)) ++ [d]) am bw := (aN.step au (fun i hm => by have q := List.mem_singleton.1 hm; exact .inr (by rw [q]; exact (List.mem_append_right _ (List.mem_singleton.2 rfl)))))
  refine ⟨bx, ?_⟩
  refine Yo (by kernel_rfl) ?_
  refine Yd (Zb (b8 _ _ (Zc (Za rfl rfl (Yy om rfl rfl) (Za rfl rfl (Zg rfl) (Zd ?_))))))
  have cr := l.ch0 R
  have k9 := (KdN.grow kds om hisv om ((((Ch.refl [] bU).trans T).trans H).trans R) cr om om aq f).bo au
  have ct := s.ch au (fun g hg hm => by have q := List.mem_singleton.1 hm; rcases f with ea | ea; (rw [ea] at hg; exact a (by first | exact hg | exact q ▸ hg)); (rw [ea] at hg; have aF := List.mem_singleton.1 hg; omega))
  have aT : Ol acs 39 1 bw (.slice h ((ps ++ [(c : Addr)])).length j) ((ps ++ [(c : Addr)])) := by
   have hx := ct
   exact hx
  have cu := ((((B.ch0 T).ch0 H).ch0 R).ch aq (fun i hi => by have al := b _ hi; omega)).ch au (oS om)
  exact Zb (Exists.intro ((i + 1), (ps ++ [(c : Addr)]), (.slice h ((ps ++ [(c : Addr)])).length j)) ⟨⟨E, om, om, cu, aT, (Lo.down t om), (by rw [Xz y, List.map_append]; exact k9), ai, (fun hm => by rcases f with ea | ea; (rw [ea] at hm; exact a (by first | exact hm | exact q ▸ hm)); (rw [ea] at hm; have aF := List.mem_singleton.1 hm; omega))⟩, sC4 rfl rfl rfl rfl (sC2 rfl rfl (Sub.nil _)), (by first | omega | (dsimp only; omega))⟩)
 have b7 := u
 have u := Yc u
 refine Xu (Yh (Yh (Xd ?_)))
 refine Zb (dG _ _ ?_)
 refine Zf fun d0 bQ => ?_
 refine Zf fun d1 cv => ?_
 refine Zc (Za rfl rfl (Zg rfl) (Za rfl rfl (Zy rfl) (Za rfl rfl (Zi fa45_0 rfl) (Za rfl rfl (Zac (n := 0) fa42_0 rfl rfl) (Za rfl rfl (Zo B agg3 rfl rfl) (Za rfl rfl (Yn rfl rfl) (Zd ?_)))))))
 refine Zb (cv _ _ ?_)
 refine Zs rfl (fun A => ?_) (fun A => ?_)
 ·have bR := A
  have A := Yb A
  refine Zc (Za rfl rfl (Zg rfl) (Za rfl rfl (Zy rfl) (Za rfl rfl (Zi fa45_1 rfl) (Za rfl rfl (Zo o.at_ agg43 rfl rfl) (Zl rfl rfl ?_)))))
  refine Step.call (Zm (xs := [.tmp 58]) fk38 rfl) (Xg m ) fun b6 d2 ae => ?_
  obtain ⟨rfl, ae, aU⟩ := ae
  have cO := aU.size
  have E := E.step aU (fun i hi => .inl (by have al := b _ hi; omega))
  refine Zd (Zb (bQ _ _ ?_))
  refine Zf fun d3 cw => ?_
  refine Zc (Za rfl rfl (Zg rfl) (Za rfl rfl (Ze rfl) (Zd (Zb (cw _ _ ?_)))))
  refine Zp ?_
  have cx := o.ch aU (fun hm => by exact a (by first | exact hm | exact q ▸ hm))
  exact Zh [_] ⟨rfl, trivial⟩ ⟨_, rfl, (Zdw (k := ⟨x.tok.kind, x.tok.letter, x.tok.low, x.tok.high⟩) (KdF.rev (KdN.row kds aU)) cx om ae (Lo.down b om) om hok (by unfold revK; first | (rw [if_pos om]; done) | (rw [if_neg om]; done)) (by rw [List.take_of_length_le om]; first | (rw [if_pos om]; done) | (rw [if_neg om]; done))), E⟩
 have bR := A
 have A := Yc A
 refine Zu ?_
 refine Zb (bQ _ _ ?_)
 refine Zf fun d4 cy => ?_
 refine Zc (Za rfl rfl (Zg rfl) (Za rfl rfl (Ze rfl) (Zd (Zb (cy _ _ ?_)))))
 refine Zp ?_
 exact Zh [_] ⟨rfl, trivial⟩ ⟨_, rfl, (Zdw (k := ⟨x.tok.kind, x.tok.letter, x.tok.low, x.tok.high⟩) kds o om m (Lo.down b om) om hok (by unfold revK; first | (rw [if_pos om]; done) | (rw [if_neg om]; done)) (by rw [List.take_of_length_le om]; first | (rw [if_pos om]; done) | (rw [if_neg om]; done))), E⟩
theorem Zch {w : World} {LT_x a : Nat} {p_x : Addr} {x : Tr} (b : TrAt w LT_x a p_x x) (hok : Okd x) :
 Ctr Tryz.prog 24 #[(.pointer (some p_x))] w (fun v w' => ∃ p, v = .pointer (some p) ∧ TrAt w' w.heap.size w'.heap.size p (Xh x) ∧ Ch [] w w') := Zbr _ b hok (Nat.lt_succ_self _)

/-- impl.ReverseExpr -/
theorem Zao {w : World} {LL_e B : Nat} {q : Value} {e : List Token} (f : Ls Token.cs 4 w LL_e B q e) (hb : e.length ≤ 1048576) :
 Ctr Tryz.prog 13 #[(.agg #[q])] w (fun v w' => ∃ (n : Value), v = .tuple #[.agg #[n], .bool ((revE e).2)] ∧ Ol Token.cs 42 4 w' n ((revE e).1) ∧ Lo w.heap.size n ∧ Ch [] w w') := by
 obtain ⟨r, s, t⟩ := f.val
 subst t
 have ab := f.len
 have f := f.here (by decide)
 have E := Ch.refl [] w
 refine Zv (N := 13) (vs0 := [(.agg #[(.slice r e.length s)])]) Tryz.func13 rfl rfl rfl ?_
 refine Zf fun K1 H1 => ?_
 refine Zc (Zl rfl rfl ?_)
 refine Qm rfl fun ac W2 A C2 ay => ?_
 have az := C2.size
 have E := E.trans C2
 have aA := A.lt
 replace A : Blk W2 ac 26 [(.slice r e.length s)] := A
 refine Zl rfl rfl ?_
 refine Yl zr26 fun C W3 u C3 aB => ?_
 have aC := C3.size
 have E := E.trans C3
 have aD := u.lt
 replace u : Blk W3 C 26 [(.slice none 0 0)] := u
 refine Za rfl rfl (Ze rfl) (Zd (Zb (H1 _ _ ?_)))
 refine Zf fun K4 H4 => ?_
 refine Zc ?_
 have F5 := A.ch0 C3
 refine Za rfl rfl (Zr F5.at_ agg26 sz26 rfl) (Zl rfl rfl ?_)
 have F6 := (f.ch0 C2).ch0 C3
 refine Step.call (Zm (xs := [.tmp 5]) fk18 rfl) (Zba F6 om) fun aE W7 D => ?_
 obtain ⟨D, C7⟩ := D
 have aF := C7.size
 have E := E.trans C7
 rcases D with ⟨d, rfl⟩ | ⟨i, ad, d, rfl, j⟩
 ·first | have ae := Zbv d | skip
  first | have r6 := Zcw i | skip
  refine Za rfl rfl (Ze rfl) (Zd (Zb (H4 _ _ ?_)))
  refine Zf fun K8 H8 => ?_
  refine Zf fun K9 H9 => ?_
  refine Zc (Za rfl rfl (Zg rfl) (Za rfl rfl (Zhr ptr39 rfl rfl) (Zd (Zb (H9 _ _ ?_)))))
  refine Yz rfl ?_
  refine Zf fun aG af => ?_
  refine Zc (Za rfl rfl (Zz (parts := []) (cells := [(.slice none 0 0)]) zr26 pl26 rfl rfl) (Zl rfl rfl ?_))
  have ag := u.ch0 C7
  refine Zq (off := 0) 1 ag sz26 rfl (us := [(.slice none 0 0)]) rfl rfl rfl rfl fun F g Q => ?_
  have ah := Q.size
  have E := E.step Q (lS om)
  replace g : Blk F C 26 [(.slice none 0 0)] := g
  refine Za rfl rfl (Ze rfl) (Zd (Zb (af _ _ ?_)))
  refine Zp (Zk ?_)
  have x : Ol Token.cs 42 4 F (.slice none 0 0) ((revE e).1) := by
   have hx := Ol.nil (cs := Token.cs) (e := 42) (k := 4) F
   first | (rw [Zge d]; exact hx) | (rw [Zeb d]; exact hx)
  exact Zh [_, _] (Zn g rfl agg26 sz26 ⟨rfl, trivial⟩) ⟨(.slice none 0 0), (congrArg (fun zq => (Value.tuple #[.agg #[(.slice none 0 0)], .bool zq])) (by first | (rw [Zge d]; done) | (rw [Zeb d]; done))), x, (Lo.nil _), E⟩
 replace j : TrAt W7 W3.heap.size W7.heap.size ad i := j
 obtain ⟨ai, aj, R, S, T, y⟩ := j.open
 have U := y.1
 first | have ae := Zbv d | skip
 first | have r6 := Zcw i | skip
 refine Za rfl rfl (Ze rfl) (Zd (Zb (H4 _ _ ?_)))
 refine Zf fun aH ak => ?_
 refine Zf fun aI al => ?_
 refine Zc (Za rfl rfl (Zg rfl) (Za rfl rfl (Zhr ptr39 rfl rfl) (Zd (Zb (al _ _ ?_)))))
 refine Zat rfl ?_
 refine Zu ?_
 refine Zb (ak _ _ ?_)
 refine Zf fun aJ am => ?_
 refine Zc (Za rfl rfl (Zg rfl) (Zl rfl rfl ?_))
 refine Step.call (Zm (xs := [.tmp 10]) fk24 rfl) (Zch j (Zcm d).1) fun an V G => ?_
 obtain ⟨H, rfl, c, I⟩ := G
 have ao := I.size
 have E := E.trans I
 replace c : TrAt V W7.heap.size V.heap.size H (Xh i) := c
 obtain ⟨X, Y, J, K, L, o⟩ := c.open
 have M := o.1
 refine Zl rfl rfl ?_
 refine Step.call (Zm (xs := [.tmp 11]) fk19 rfl) (Qj c om) fun ap aK l => ?_
 obtain ⟨aq, rfl, l, m, O⟩ := l
 have au := O.size
 have E := E.trans O
 obtain ⟨a, b, rfl, Z, p⟩ := l.opn
 refine Zl rfl rfl ?_
 have av := ((u.ch0 C7).ch0 I).ch0 O
 refine Zq (off := 0) 1 av sz26 rfl (us := [(.slice a ((Xh i).flat).length b)]) rfl rfl rfl rfl fun aa h P => ?_
 have aw := P.size
 have E := E.step P (lS om)
 replace h : Blk aa C 26 [(.slice a ((Xh i).flat).length b)] := h
 refine Za rfl rfl (Ze rfl) (Zd (Zb (am _ _ ?_)))
 refine Zp ?_
 have ax := l.ch P (dS m p om)
 have z : Ol Token.cs 42 4 aa (.slice a ((Xh i).flat).length b) ((revE e).1) := by
  have hx := ax
  first | (rw [Zge d]; exact hx) | (rw [Zeb d]; exact hx)
 exact Zh [_, _] (Zn h rfl agg26 sz26 ⟨rfl, trivial⟩) ⟨(.slice a ((Xh i).flat).length b), (congrArg (fun zq => (Value.tuple #[.agg #[(.slice a ((Xh i).flat).length b)], .bool zq])) (by first | (rw [Zge d]; done) | (rw [Zeb d]; done))), z, (Lo.down m om), E⟩

/-- impl.SplitExpr -/
theorem Zdr {w : World} {LL_e aV : Nat} {ax : Value} {e : List Token} (y : Ls Token.cs 4 w LL_e aV ax e) (hb : e.length ≤ 1048576) :
 Ctr Tryz.prog 6 #[(.agg #[ax])] w (fun v w' => ∃ (P : Value) (Q : Value), v = .tuple #[.agg #[P], .agg #[Q]] ∧ Ol Token.cs 42 4 w' P ((Xt e).1) ∧ Lo w.heap.size P ∧ Ol Token.cs 42 4 w' Q ((Xt e).2) ∧ Lo w.heap.size Q ∧ (∀ g ∈ bl P, g ∉ bl Q) ∧ Ch [] w w') := by
 obtain ⟨ay, az, aA⟩ := y.val
 subst aA
 have bH := y.len
 have y := y.here (by decide)
 have E := Ch.refl [] w
 refine Zv (N := 47) (vs0 := [(.agg #[(.slice ay e.length az)])]) Tryz.func6 rfl rfl rfl ?_
 refine Zf fun K1 H1 => ?_
 refine Zc (Zl rfl rfl ?_)
 refine Qm rfl fun bI W2 aP C2 cB => ?_
 have cC := C2.size
 have E := E.trans C2
 have cD := aP.lt
 replace aP : Blk W2 bI 26 [(.slice ay e.length az)] := aP
 refine Zl rfl rfl ?_
 refine Yl zr26 fun M W3 af C3 cE => ?_
 have cF := C3.size
 have E := E.trans C3
 have cG := af.lt
 replace af : Blk W3 M 26 [(.slice none 0 0)] := af
 refine Zl rfl rfl ?_
 refine Yl zr26 fun O W4 ag C4 cH => ?_
 have cI := C4.size
 have E := E.trans C4
 have cJ := ag.lt
 replace ag : Blk W4 O 26 [(.slice none 0 0)] := ag
 refine Zd (Zb (H1 _ _ ?_))
 refine Zf fun K5 H5 => ?_
 refine Zc ?_
 have F6 := (aP.ch0 C3).ch0 C4
 refine Za rfl rfl (Zr F6.at_ agg26 sz26 rfl) (Zl rfl rfl ?_)
 have F7 := ((y.ch0 C2).ch0 C3).ch0 C4
 refine Step.call (Zm (xs := [.tmp 5]) fk18 rfl) (Zba F7 om) fun cK W8 aW => ?_
 obtain ⟨aW, C8⟩ := aW
 have cL := C8.size
 have E := E.trans C8
 rcases aW with ⟨a, rfl⟩ | ⟨aX, bJ, a, rfl, ah⟩
 ·first | have bK := Zbv a | skip
  first | have w6 := Tr.kids_le aX | skip
  refine Za rfl rfl (Ze rfl) (Zd (Zb (H5 _ _ ?_)))
  refine Zf fun K9 H9 => ?_
  refine Zf fun cM bL => ?_
  refine Zc (Za rfl rfl (Zg rfl) (Za rfl rfl (Zhr ptr39 rfl rfl) (Za rfl rfl (Zg rfl) (Zj rfl rfl (Zj rfl rfl (Zj rfl rfl (Zj rfl rfl ?_)))))))
  refine Zj rfl rfl (Zj rfl rfl (Za rfl rfl (Ye rfl rfl) (Zd (Zb (bL _ _ ?_)))))
  refine Yz rfl ?_
  refine Zf fun cN bM => ?_
  refine Zc (Za rfl rfl (Zz (parts := []) (cells := [(.slice none 0 0)]) zr26 pl26 rfl rfl) (Za rfl rfl (Zz (parts := []) (cells := [(.slice none 0 0)]) zr26 pl26 rfl rfl) (Zl rfl rfl ?_)))
  have bN := (af.ch0 C4).ch0 C8
  refine Zq (off := 0) 1 bN sz26 rfl (us := [(.slice none 0 0)]) rfl rfl rfl rfl fun bO z aY => ?_
  have bP := aY.size
  have E := E.step aY (lS om)
  replace z : Blk bO M 26 [(.slice none 0 0)] := z
  refine Zl rfl rfl ?_
  have bQ := (ag.ch0 C8).ch aY (nS om)
  refine Zq (off := 0) 1 bQ sz26 rfl (us := [(.slice none 0 0)]) rfl rfl rfl rfl fun aB A aZ => ?_
  have bR := aZ.size
  have E := E.step aZ (lS om)
  replace A : Blk aB O 26 [(.slice none 0 0)] := A
  refine Zd (Zb (bM _ _ ?_))
  refine Zp (Zk ?_)
  have bS := z.ch aZ (nS om)
  have aC : Ol Token.cs 42 4 aB (.slice none 0 0) ((Xt e).1) := by
   have hx := Ol.nil (cs := Token.cs) (e := 42) (k := 4) aB
   first | (rw [Qh a]; exact hx) | (rw [Yq a, spl0 om]; exact hx) | (rw [Yq a, spl1 om b]; exact hx) | (rw [Yq a, spl2 c d]; exact hx)
  have aD : Ol Token.cs 42 4 aB (.slice none 0 0) ((Xt e).2) := by
   have hx := Ol.nil (cs := Token.cs) (e := 42) (k := 4) aB
   first | (rw [Qh a]; exact hx) | (rw [Yq a, spl0 om]; exact hx) | (rw [Yq a, spl1 om b]; exact hx) | (rw [Yq a, spl2 c d]; exact hx)
  exact Zh [_, _] (Zn bS rfl agg26 sz26 (Zn A rfl agg26 sz26 trivial)) ⟨(.slice none 0 0), (.slice none 0 0), rfl, aC, (Lo.nil _), aD, (Lo.nil _), (fun g hm hg => by cases hm), E⟩
 replace ah : TrAt W8 W4.heap.size W8.heap.size bJ aX := ah
 obtain ⟨bT, bU, bq, n, Y, B⟩ := ah.open
 have br := B.1
 first | have bK := Zbv a | skip
 first | have w6 := Tr.kids_le aX | skip
 refine Za rfl rfl (Ze rfl) (Zd (Zb (H5 _ _ ?_)))
 refine Zf fun cO bV => ?_
 refine Zf fun cP bW => ?_
 refine Zc (Za rfl rfl (Zg rfl) (Za rfl rfl (Zhr ptr39 rfl rfl) (Za rfl rfl (Zg rfl) (Za rfl rfl (Zg rfl) (Za rfl rfl (Zy rfl) (Za rfl rfl (Zi fa45_1 rfl) (Za rfl rfl (Zo n agg43 rfl rfl) ?_)))))))
 refine Za rfl rfl (Xk (by rw [el43]; rfl) rfl) (Za rfl rfl (Yn rfl rfl) (Za rfl rfl (Ya rfl rfl) (Zd (Zb (bW _ _ ?_)))))
 refine Zs rfl (fun f => ?_) (fun f => ?_)
 ·have a0 := f
  have f := Yb f
  refine Zf fun cQ bX => ?_
  refine Zc (Za rfl rfl (Zz (parts := []) (cells := [(.slice none 0 0)]) zr26 pl26 rfl rfl) (Za rfl rfl (Zz (parts := []) (cells := [(.slice none 0 0)]) zr26 pl26 rfl rfl) (Zl rfl rfl ?_)))
  have bY := (af.ch0 C4).ch0 C8
  refine Zq (off := 0) 1 bY sz26 rfl (us := [(.slice none 0 0)]) rfl rfl rfl rfl fun bZ C a1 => ?_
  have b0 := a1.size
  have E := E.step a1 (lS om)
  replace C : Blk bZ M 26 [(.slice none 0 0)] := C
  refine Zl rfl rfl ?_
  have b1 := (ag.ch0 C8).ch a1 (nS om)
  refine Zq (off := 0) 1 b1 sz26 rfl (us := [(.slice none 0 0)]) rfl rfl rfl rfl fun aE D a2 => ?_
  have b2 := a2.size
  have E := E.step a2 (lS om)
  replace D : Blk aE O 26 [(.slice none 0 0)] := D
  refine Zd (Zb (bX _ _ ?_))
  refine Zp (Zk ?_)
  have b3 := C.ch a2 (nS om)
  have aF : Ol Token.cs 42 4 aE (.slice none 0 0) ((Xt e).1) := by
   have hx := Ol.nil (cs := Token.cs) (e := 42) (k := 4) aE
   first | (rw [Qh a]; exact hx) | (rw [Yq a, spl0 om]; exact hx) | (rw [Yq a, spl1 om b]; exact hx) | (rw [Yq a, spl2 c d]; exact hx)
  have aG : Ol Token.cs 42 4 aE (.slice none 0 0) ((Xt e).2) := by
   have hx := Ol.nil (cs := Token.cs) (e := 42) (k := 4) aE
   first | (rw [Qh a]; exact hx) | (rw [Yq a, spl0 om]; exact hx) | (rw [Yq a, spl1 om b]; exact hx) | (rw [Yq a, spl2 c d]; exact hx)
  exact Zh [_, _] (Zn b3 rfl agg26 sz26 (Zn D rfl agg26 sz26 trivial)) ⟨(.slice none 0 0), (.slice none 0 0), rfl, aF, (Lo.nil _), aG, (Lo.nil _), (fun g hm hg => by cases hm), E⟩
 have a0 := f
 have f := Yc f
 refine Zu ?_
 refine Zb (bV _ _ ?_)
 refine Zf fun cR b4 => ?_
 refine Zf fun cS b5 => ?_
 refine Zc (Za rfl rfl (Zg rfl) (Za rfl rfl (Zy rfl) (Za rfl rfl (Zi fa45_1 rfl) (Za rfl rfl (Zo n agg43 rfl rfl) (Za rfl rfl (Xk (by rw [el43]; rfl) rfl) (Za rfl rfl (Yn rfl rfl) (Zd ?_)))))))
 refine Zb (b5 _ _ ?_)
 refine Zs rfl (fun h => ?_) (fun h => ?_)
 ·have a3 := h
  have h := Yb h
  refine Zf fun cT b6 => ?_
  refine Zc (Za rfl rfl (Zg rfl) (Za rfl rfl (Zy rfl) (Za rfl rfl (Zi fa45_1 rfl) (Za rfl rfl (Zo n agg43 rfl rfl) (Zl rfl rfl ?_)))))
  refine (Xc (j := 0) Y Yw el43 sz39 rfl rfl rfl om fun a4 a5 aH ai => ?_)
  obtain ⟨R, b, Z⟩ := B.get aH
  obtain ⟨bs, bu, a6, a7, a8, aj⟩ := Z.open
  have a9 := aj.1
  replace ai : At W8 W4.heap.size W8.heap.size a4 ([(.pointer (some a5))]) := ai
  refine Za rfl rfl (Ym ai agg39 rfl rfl) (Zl rfl rfl ?_)
  refine Step.call (Zm (xs := [.tmp 30]) fk19 rfl) (Qj Z (by have F := Tr.kid_sz b; omega)) fun b7 cU S => ?_
  obtain ⟨b8, rfl, S, G, aQ⟩ := S
  have b9 := aQ.size
  have E := E.trans aQ
  obtain ⟨o, p, rfl, bv, H⟩ := S.opn
  refine Za rfl rfl (Zz (parts := []) (cells := [(.slice none 0 0)]) zr26 pl26 rfl rfl) (Zl rfl rfl ?_)
  have ca := ((af.ch0 C4).ch0 C8).ch0 aQ
  refine Zq (off := 0) 1 ca sz26 rfl (us := [(.slice o (R.flat).length p)]) rfl rfl rfl rfl fun cb I aR => ?_
  have cc := aR.size
  have E := E.step aR (lS om)
  replace I : Blk cb M 26 [(.slice o (R.flat).length p)] := I
  refine Zl rfl rfl ?_
  have cd := ((ag.ch0 C8).ch0 aQ).ch aR (nS om)
  refine Zq (off := 0) 1 cd sz26 rfl (us := [(.slice none 0 0)]) rfl rfl rfl rfl fun aS J aT => ?_
  have ce := aT.size
  have E := E.step aT (lS om)
  replace J : Blk aS O 26 [(.slice none 0 0)] := J
  refine Zd (Zb (b6 _ _ ?_))
  refine Zp (Zk ?_)
  have cf := I.ch aT (nS om)
  have cg := (S.ch aR (dS G H om)).ch aT (dS G H om)
  have aI : Ol Token.cs 42 4 aS (.slice o (R.flat).length p) ((Xt e).1) := by
   have hx := cg
   first | (rw [Qh a]; exact hx) | (rw [Yq a, spl0 om]; exact hx) | (rw [Yq a, spl1 om b]; exact hx) | (rw [Yq a, spl2 c d]; exact hx)
  have aJ : Ol Token.cs 42 4 aS (.slice none 0 0) ((Xt e).2) := by
   have hx := Ol.nil (cs := Token.cs) (e := 42) (k := 4) aS
   first | (rw [Qh a]; exact hx) | (rw [Yq a, spl0 om]; exact hx) | (rw [Yq a, spl1 om b]; exact hx) | (rw [Yq a, spl2 c d]; exact hx)
  exact Zh [_, _] (Zn cf rfl agg26 sz26 (Zn J rfl agg26 sz26 trivial)) ⟨(.slice o (R.flat).length p), (.slice none 0 0), rfl, aI, (Lo.down G om), aJ, (Lo.nil _), (fun g hm hg => by cases hg), E⟩
 have a3 := h
 have h := Yc h
 refine Zu ?_
 refine Zb (b4 _ _ ?_)
 refine Zf fun cV ci => ?_
 refine Xm ([M] ++ [O]) 16 mixed rfl fun ap ak => ?_
 have cj := ak.size
 have E := E.trans ak
 refine dV 0 rfl rfl rfl (fun _ => Zg rfl) (dV 1 rfl rfl rfl (fun _ => Zy rfl) (dV 2 rfl rfl rfl (fun _ => Zi fa45_1 rfl) ?_))
 have bw := n.ch0 ak
 refine dT 3 rfl rfl rfl (Xl bw (fun i hm => by rcases List.mem_append.1 hm with hm | hm; (have F := List.mem_singleton.1 hm; omega); (have F := List.mem_singleton.1 hm; omega)) agg43 rfl rfl ?_)
 have bx := Y.ch0 ak
 have bz := B.ch0 ak
 refine dT 4 rfl rfl rfl (Zcx (j := 0) bx Yw el43 sz39 rfl rfl rfl om fun ba bb aK al => ?_)
 obtain ⟨T, c, aa⟩ := bz.get aK
 obtain ⟨bA, bB, bc, be, bf, am⟩ := aa.open
 have bg := am.1
 replace al : At ap W4.heap.size W8.heap.size ba ([(.pointer (some bb))]) := al
 refine dT 5 rfl rfl rfl (Zcq al (fun i hm => by rcases List.mem_append.1 hm with hm | hm; (have F := List.mem_singleton.1 hm; omega); (have F := List.mem_singleton.1 hm; omega)) agg39 rfl rfl ?_)
 refine dV 7 rfl rfl rfl (fun _ => Zg rfl) (dV 8 rfl rfl rfl (fun _ => Zy rfl) (dV 9 rfl rfl rfl (fun _ => Zi fa45_1 rfl) ?_))
 refine dT 10 rfl rfl rfl (Xl bw (fun i hm => by rcases List.mem_append.1 hm with hm | hm; (have F := List.mem_singleton.1 hm; omega); (have F := List.mem_singleton.1 hm; omega)) agg43 rfl rfl ?_)
 refine dT 11 rfl rfl rfl (Zcx (j := 1) bx Yw el43 sz39 rfl rfl rfl om fun bh bi aL an => ?_)
 obtain ⟨U, d, ab⟩ := bz.get aL
 obtain ⟨bC, bD, bj, bk, bm, ao⟩ := ab.open
 have bn := ao.1
 replace an : At ap W4.heap.size W8.heap.size bh ([(.pointer (some bi))]) := an
 refine dT 12 rfl rfl rfl (Zcq an (fun i hm => by rcases List.mem_append.1 hm with hm | hm; (have F := List.mem_singleton.1 hm; omega); (have F := List.mem_singleton.1 hm; omega)) agg39 rfl rfl ?_)
 refine dO 6 (Yf rfl rfl rfl ?_)
 refine Step.call (Zm (xs := [.tmp 38]) fk19 rfl) (Qj aa (by have F := Tr.kid_sz c; omega)) fun ck cl V => ?_
 obtain ⟨cm, rfl, V, q, aq⟩ := V
 have cn := aq.size
 have E := E.trans aq
 obtain ⟨r, s, rfl, bE, l⟩ := V.opn
 have ac : Ch ([M] ++ [O]) ap cl := ((Ch.refl _ _).trans aq.of_nil)
 refine ⟨ac, ?_⟩
 refine dO 13 (Yf rfl rfl rfl ?_)
 have co := ab.ch0 aq
 refine Step.call (Zm (xs := [.tmp 45]) fk19 rfl) (Qj co (by have F := Tr.kid_sz d; omega)) fun cp cq X => ?_
 obtain ⟨cr, rfl, X, t, au⟩ := X
 have ct := au.size
 have E := E.trans au
 obtain ⟨u, x, rfl, bF, m⟩ := X.opn
 have ad : Ch ([M] ++ [O]) ap cq := (ac.trans au.of_nil)
 refine ⟨ad, ?_⟩
 refine dO 14 (Yf rfl rfl rfl ?_)
 have cu := ((((af.ch0 C4).ch0 C8).ch0 ak).ch0 aq).ch0 au
 refine Zq (off := 0) 1 cu sz26 rfl (us := [(.slice r (T.flat).length s)]) rfl rfl rfl rfl fun bG K av => ?_
 have cv := av.size
 have E := E.step av (lS om)
 replace K : Blk bG M 26 [(.slice r (T.flat).length s)] := K
 have ae : Ch ([M] ++ [O]) ap bG := (ad.step av (fun i hm => by have bp := List.mem_singleton.1 hm; exact .inr (by rw [bp]; exact (List.mem_append_left _ (List.mem_singleton.2 rfl)))))
 refine ⟨ae, ?_⟩
 refine dO 15 (Yf rfl rfl rfl ?_)
 have cw := ((((ag.ch0 C8).ch0 ak).ch0 aq).ch0 au).ch av (nS om)
 refine Zq (off := 0) 1 cw sz26 rfl (us := [(.slice u (U.flat).length x)]) rfl rfl rfl rfl fun aU L aw => ?_
 have cx := aw.size
 have E := E.step aw (lS om)
 replace L : Blk aU O 26 [(.slice u (U.flat).length x)] := L
 have aM : Ch ([M] ++ [O]) ap aU := (ae.step aw (fun i hm => by have bp := List.mem_singleton.1 hm; exact .inr (by rw [bp]; exact (List.mem_append_right _ (List.mem_singleton.2 rfl)))))
 refine ⟨aM, ?_⟩
 refine Yo (by kernel_rfl) ?_
 refine Zb (ci _ _ ?_)
 refine Zp ?_
 have cy := K.ch aw (nS om)
 have cz := ((V.ch0 au).ch av (dS q l om)).ch aw (dS q l om)
 have aN : Ol Token.cs 42 4 aU (.slice r (T.flat).length s) ((Xt e).1) := by
  have hx := cz
  first | (rw [Qh a]; exact hx) | (rw [Yq a, spl0 om]; exact hx) | (rw [Yq a, spl1 om b]; exact hx) | (rw [Yq a, spl2 c d]; exact hx)
 have cA := (X.ch av (dS t m om)).ch aw (dS t m om)
 have aO : Ol Token.cs 42 4 aU (.slice u (U.flat).length x) ((Xt e).2) := by
  have hx := cA
  first | (rw [Qh a]; exact hx) | (rw [Yq a, spl0 om]; exact hx) | (rw [Yq a, spl1 om b]; exact hx) | (rw [Yq a, spl2 c d]; exact hx)
 exact Zh [_, _] (Zn cy rfl agg26 sz26 (Zn L rfl agg26 sz26 trivial)) ⟨(.slice r (T.flat).length s), (.slice u (U.flat).length x), rfl, aN, (Lo.down q om), aO, (Lo.down t om), (fun g hm hg => by have F := q _ hm; have cW := l _ hm; have cX := t _ hg; have cY := m _ hg; omega), E⟩

/-- laws.big -/
theorem Zih {w : World} {LL_code d : Nat} {b : Value} {code : List Int} (a : Ls ucs 1 w LL_code d b code) :
 Ctr Tryz.prog 4 #[b] w (fun v w' => v = .bool (decide (1048576 < (code.length : Int))) ∧ Ch [] w w') := by
 obtain ⟨e, f, c⟩ := a.val
 subst c
 have g := a.len
 have a := a.here (by decide)
 have E := Ch.refl [] w
 refine Zv (N := 6) (vs0 := [(.slice e code.length f)]) Tryz.func4 rfl rfl rfl ?_
 refine Zf fun K1 H1 => ?_
 refine Zc (Za rfl rfl (Ze rfl) (Zd (Zb (H1 _ _ ?_))))
 refine Zf fun K2 H2 => ?_
 refine Zc (Za rfl rfl (Zg rfl) (Za rfl rfl (Xk (by rw [el22]; rfl) rfl) (Za rfl rfl (Zfx rfl rfl) (Za rfl rfl (Ze rfl) (Zd (Zb (H2 _ _ ?_)))))))
 refine Zp ?_
 exact Zh [_] ⟨rfl, trivial⟩ ⟨congrArg Value.bool rfl, E⟩

/-- spec.l1New -/
theorem Zgw {w : World} {LL_code m : Nat} {k : Value} {code : List Int} (a : Ls ucs 1 w LL_code m k code) (hb : code.length ≤ 4194304) :
 Ctr Tryz.prog 17 #[k] w (fun v w' => ∃ b, v = .pointer (some ⟨b, 0, none⟩) ∧ Cu w' b ∧ w.heap.size ≤ b ∧ Ch [] w w') := by
 obtain ⟨c, e, l⟩ := a.val
 subst l
 have p := a.len
 have a := a.here (by decide)
 have E := Ch.refl [] w
 refine Zv (N := 32) (vs0 := [(.slice c code.length e)]) Tryz.func17 rfl rfl rfl ?_
 refine Zf fun K1 H1 => ?_
 refine Zc (Za rfl rfl (Ze rfl) (Zd (Zb (H1 _ _ ?_))))
 refine Zf fun K2 H2 => ?_
 refine Zc (Za rfl rfl (Zg rfl) (Za rfl rfl (Xk (by rw [el22]; rfl) rfl) (Za rfl rfl (Yy om rfl rfl) (Za rfl rfl (Ze rfl) (Zd (Zb (H2 _ _ ?_)))))))
 refine Zf fun K3 H3 => ?_
 refine Zf fun K4 H4 => ?_
 refine Zc (Za rfl rfl (Ze rfl) (Zd (Zb (H4 _ _ ?_))))
 refine Yj ?_
 refine Qf (σ := Nat × Int) (fun ⟨i, h⟩ => [(0, (.slice c code.length e)), (2, (.pointer none)), (3, (.int .i64 h)), (4, (.int .i64 ((i : Nat) : Int)))]) (fun ⟨i, h⟩ wx => Ch [] w wx ∧ w.heap.size ≤ wx.heap.size ∧ (i ≤ code.length)) (fun ⟨i, h⟩ => code.length - i) (0, (10101 + ((code.length : Nat) : Int))) (sC4 rfl rfl rfl rfl (Sub.nil _)) ⟨E, (Nat.le_refl _), om⟩ ?_
 rintro ⟨i, h⟩ R5 ⟨E, A, hi⟩
 have n := E
 have y := n.size
 refine Zf fun K6 H6 => ?_
 refine Zf fun K7 H7 => ?_
 refine Zc (Za rfl rfl (Zg rfl) (Za rfl rfl (Zg rfl) (Za rfl rfl (Xk (by rw [el22]; rfl) rfl) (Za rfl rfl (Qv rfl rfl) (Za rfl rfl (Zg rfl) ?_)))))
 refine Yi (d := 12) rfl (fun g => ?_) (fun g => ?_)
 ·have B := g
  have g := Yb g
  refine Za rfl rfl (Zg rfl) (Za rfl rfl (Qv rfl rfl) (Za rfl rfl (Ye rfl rfl) (Zd (Zb (H7 _ _ ?_)))))
  refine Zs rfl (fun j => ?_) (fun j => ?_)
  ·have C := j
   have j := Yb j
   refine Zu ?_
   refine Zb (H6 _ _ ?_)
   refine Zf fun Q D => ?_
   refine Yj ?_
   refine Zc (Za rfl rfl (Zg rfl) (Za rfl rfl (Zjm rfl rfl) (Za rfl rfl (Zg rfl) (Za rfl rfl (Zg rfl) (Zl rfl rfl ?_)))))
   have F := a.ch0 n
   refine (Xc F Zed el22 sz5 rfl rfl rfl om fun G q z r => ?_)
   refine Za rfl rfl (Ym r agg5 rfl rfl) (Za rfl rfl (Zbm (by rw [un5]; rfl) un3 rfl) (Za rfl rfl (Zff rfl rfl) (Za rfl rfl (Zff rfl rfl) (Za rfl rfl (Zmo rfl rfl) (Za rfl rfl (Ze rfl) (Zd (Yd ?_)))))))
   refine Zb (D _ _ (Zc (Za rfl rfl (Zg rfl) (Za rfl rfl (Yy om rfl rfl) (Za rfl rfl (Ze rfl) (Zd ?_))))))
   exact Zb (Exists.intro ((i + 1), (iand (w64 ((w64 ((w64 (h * 131)) + (w64 q))) + 7)) 1073741823)) ⟨⟨E, om, om⟩, sC4 rfl rfl rfl rfl (Sub.nil _), (by first | omega | (dsimp only; omega))⟩)
  have C := j
  have j := Yc j
  refine Xu (Yh (Yh (Xd ?_)))
  refine Zb (H3 _ _ ?_)
  refine Zf fun R H => ?_
  refine Zc (Za rfl rfl (Zg rfl) (Za rfl rfl (Zg rfl) (Za rfl rfl (Zz (parts := [(0, .tmp 28), (2, .tmp 29)]) (cells := [(.slice c code.length e), (.int .i64 0), (.int .i64 h)]) zr60 pl60 rfl rfl) (Zl rfl rfl ?_))))
  refine Qm rfl fun o I f s t => ?_
  have J := s.size
  have E := E.trans s
  have u := f.lt
  replace f : Blk I o 60 [(.slice c code.length e), (.int .i64 0), (.int .i64 h)] := f
  refine Za rfl rfl (Ze rfl) (Zd (Zb (H _ _ ?_)))
  refine Zp ?_
  have K := (a.ch0 n).ch0 s
  exact Zh [_] ⟨rfl, trivial⟩ ⟨_, rfl, ⟨_, _, _, _, _, f, K.up om om, om, om⟩, om, E⟩
 have B := g
 have g := Yc g
 refine Zj rfl rfl (Zj rfl rfl (Za rfl rfl (Ya rfl rfl) (Zd (Zb (H7 _ _ ?_)))))
 refine Zat rfl ?_
 refine Xu (Yh (Yh (Xd ?_)))
 refine Zb (H3 _ _ ?_)
 refine Zf fun S L => ?_
 refine Zc (Za rfl rfl (Zg rfl) (Za rfl rfl (Zg rfl) (Za rfl rfl (Zz (parts := [(0, .tmp 28), (2, .tmp 29)]) (cells := [(.slice c code.length e), (.int .i64 0), (.int .i64 h)]) zr60 pl60 rfl rfl) (Zl rfl rfl ?_))))
 refine Qm rfl fun o M f x t => ?_
 have O := x.size
 have E := E.trans x
 have u := f.lt
 replace f : Blk M o 60 [(.slice c code.length e), (.int .i64 0), (.int .i64 h)] := f
 refine Za rfl rfl (Ze rfl) (Zd (Zb (L _ _ ?_)))
 refine Zp ?_
 have P := (a.ch0 n).ch0 x
 exact Zh [_] ⟨rfl, trivial⟩ ⟨_, rfl, ⟨_, _, _, _, _, f, P.up om om, om, om⟩, om, E⟩

/-- spec.l1Byte -/
theorem Qx {w : World} {b_c : Nat} (n : Cu w b_c) :
 Ctr Tryz.prog 51 #[(.pointer (some ⟨b_c, 0, none⟩))] w (fun v w' => ∃ (o : Int) , v = .int .i64 o ∧ (0 ≤ o ∧ o ≤ 255) ∧ Cu w' b_c ∧ Ch [b_c] w w') := by
 obtain ⟨y, x_c, t_c, i_c, k_c, m_c, c, z, A⟩ := n
 obtain ⟨e, f, g⟩ := c.val
 subst g
 have B := c.len
 have t := m_c.lt
 have E := Ch.refl [b_c] w
 refine Zv (N := 58) (vs0 := [(.pointer (some ⟨b_c, 0, none⟩))]) Tryz.func51 rfl rfl rfl ?_
 refine Zf fun K1 H1 => ?_
 refine Zc (Za rfl rfl (Ze rfl) (Zd (Zb (H1 _ _ ?_))))
 refine Zf fun K2 H2 => ?_
 refine Zc (Za rfl rfl (Zg rfl) (Za rfl rfl (Zg rfl) (Za rfl rfl (Zy rfl) (Za rfl rfl (Zi fa60_2 rfl) (Za rfl rfl (Zo m_c.at_ agg3 rfl rfl) (Za rfl rfl (Zjm rfl rfl) (Za rfl rfl (Zff rfl rfl) ?_)))))))
 refine Za rfl rfl (Zy rfl) (Za rfl rfl (Zi fa60_2 rfl) (Zl rfl rfl ?_))
 refine Ys (off := 2) m_c sz3 rfl rfl rfl rfl fun W3 d C3 => ?_
 have O := C3.size
 have E := E.trans C3
 replace d : Blk W3 b_c t_c [(.slice e x_c.length f), (.int .i64 i_c), (.int .i64 (w64 ((w64 (k_c * 6364136223846793005)) + 1442695040888963407)))] := d
 refine Zd (Zb (H2 _ _ ?_))
 refine Zf fun K5 H5 => ?_
 refine Xm [] 13 mixed rfl fun W6 C6 => ?_
 have P := C6.size
 have E := E.trans C6.of_nil
 refine dV 0 rfl rfl rfl (fun _ => Zg rfl) (dV 1 rfl rfl rfl (fun _ => Zy rfl) (dV 2 rfl rfl rfl (fun _ => Zi fa60_2 rfl) ?_))
 have F7 := d.ch0 C6
 refine dT 3 rfl rfl rfl (Xl F7.at_ (fun i hi => absurd hi List.not_mem_nil) agg3 rfl rfl ?_)
 refine dV 4 rfl rfl rfl (fun _ => Zon om rfl rfl) (dV 5 rfl rfl rfl (fun _ => Zg rfl) (dV 6 rfl rfl rfl (fun _ => Zy rfl) (dV 7 rfl rfl rfl (fun _ => Zi fa60_2 rfl) ?_)))
 refine dT 8 rfl rfl rfl (Xl F7.at_ (fun i hi => absurd hi List.not_mem_nil) agg3 rfl rfl ?_)
 refine dV 9 rfl rfl rfl (fun _ => Zon om rfl rfl) (dV 10 rfl rfl rfl (fun _ => Zos rfl rfl) (dV 11 rfl rfl rfl (fun _ => Zmo rfl rfl) (dV 12 rfl rfl rfl (fun _ => Ze rfl) ?_)))
 refine Yo (by kernel_rfl) ?_
 refine Zb (H5 _ _ ?_)
 refine Zf fun K8 H8 => ?_
 refine Zf fun K9 H9 => ?_
 refine Xm [] 10 mixed rfl fun Q h => ?_
 have C := h.size
 have E := E.trans h.of_nil
 refine dV 0 rfl rfl rfl (fun _ => Zg rfl) (dV 1 rfl rfl rfl (fun _ => Zy rfl) (dV 2 rfl rfl rfl (fun _ => Zi fa60_1 rfl) ?_))
 have k := F7.ch0 h
 refine dT 3 rfl rfl rfl (Xl k.at_ (fun i hi => absurd hi List.not_mem_nil) agg3 rfl rfl ?_)
 refine dV 4 rfl rfl rfl (fun _ => Zg rfl) (dV 5 rfl rfl rfl (fun _ => Zy rfl) (dV 6 rfl rfl rfl (fun _ => Zi fa60_0 rfl) ?_))
 refine dT 7 rfl rfl rfl (Xl k.at_ (fun i hi => absurd hi List.not_mem_nil) agg22 rfl rfl ?_)
 refine dV 8 rfl rfl rfl (fun _ => Xk (by rw [el22]; rfl) rfl) (dV 9 rfl rfl rfl (fun _ => Qv rfl rfl) ?_)
 refine Yo (by kernel_rfl) ?_
 refine Zb (H9 _ _ ?_)
 refine Zs rfl (fun a => ?_) (fun a => ?_)
 ·have p := a
  have a := Yb a
  refine Zf fun R D => ?_
  refine Xm [] 15 mixed rfl fun S l => ?_
  have F := l.size
  have E := E.trans l.of_nil
  refine dV 0 rfl rfl rfl (fun _ => Zg rfl) (dV 1 rfl rfl rfl (fun _ => Zg rfl) (dV 2 rfl rfl rfl (fun _ => Zy rfl) (dV 3 rfl rfl rfl (fun _ => Zi fa60_0 rfl) ?_)))
  have m := k.ch0 l
  refine dT 4 rfl rfl rfl (Xl m.at_ (fun i hi => absurd hi List.not_mem_nil) agg22 rfl rfl ?_)
  refine dV 5 rfl rfl rfl (fun _ => Zg rfl) (dV 6 rfl rfl rfl (fun _ => Zy rfl) (dV 7 rfl rfl rfl (fun _ => Zi fa60_1 rfl) ?_))
  refine dT 8 rfl rfl rfl (Xl m.at_ (fun i hi => absurd hi List.not_mem_nil) agg3 rfl rfl ?_)
  have u := (((c.ch C3 (oS om)).ch0 C6).ch0 h).ch0 l
  refine dT 9 rfl rfl rfl (Zcx (j := i_c.toNat) u Zed el22 sz5 rfl rfl om om fun G q x r => ?_)
  refine dT 10 rfl rfl rfl (Zcq r (fun i hi => absurd hi List.not_mem_nil) agg5 rfl rfl ?_)
  refine dV 11 rfl rfl rfl (fun _ => Zbm (by rw [un5]; rfl) un3 rfl) (dV 12 rfl rfl rfl (fun _ => Zff rfl rfl) (dV 13 rfl rfl rfl (fun _ => Zmo rfl rfl) (dV 14 rfl rfl rfl (fun _ => Ze rfl) ?_)))
  refine Yo (by kernel_rfl) ?_
  refine Zb (D _ _ (Zc (Za rfl rfl (Zg rfl) (Za rfl rfl (Zg rfl) (Za rfl rfl (Zy rfl) (Za rfl rfl (Zi fa60_1 rfl) (Za rfl rfl (Zo m.at_ agg3 rfl rfl) (Za rfl rfl (Yy om rfl rfl) ?_))))))))
  refine Za rfl rfl (Zy rfl) (Za rfl rfl (Zi fa60_1 rfl) (Zl rfl rfl ?_))
  refine Ys (off := 1) m sz3 rfl rfl rfl rfl fun H b s => ?_
  have I := s.size
  have E := E.trans s
  replace b : Blk H b_c t_c [(.slice e x_c.length f), (.int .i64 (i_c + 1)), (.int .i64 (w64 ((w64 (k_c * 6364136223846793005)) + 1442695040888963407)))] := b
  refine Zd (Zb (H8 _ _ ?_))
  refine Zf fun T J => ?_
  refine Zc (Za rfl rfl (Zg rfl) (Za rfl rfl (Ze rfl) (Zd (Zb (J _ _ ?_)))))
  refine Zp ?_
  have K := u.ch s (oS om)
  exact Zh [_] ⟨rfl, trivial⟩ ⟨(iand (w64 ((iand (ixor (ishr (w64 ((w64 (k_c * 6364136223846793005)) + 1442695040888963407)) 33) (ishr (w64 ((w64 (k_c * 6364136223846793005)) + 1442695040888963407)) 45)) 255) + (w64 q))) 255), (congrArg (fun zq => (Value.int .i64 zq)) (by first | rfl | simp_all)), (Zjn _), ⟨_, _, _, _, _, b, K, om, om⟩, E⟩
 have p := a
 have a := Yc a
 refine Zu ?_
 refine Zb (H8 _ _ ?_)
 refine Zf fun U L => ?_
 refine Zc (Za rfl rfl (Zg rfl) (Za rfl rfl (Ze rfl) (Zd (Zb (L _ _ ?_)))))
 refine Zp ?_
 have M := ((c.ch C3 (oS om)).ch0 C6).ch0 h
 exact Zh [_] ⟨rfl, trivial⟩ ⟨(iand (ixor (ishr (w64 ((w64 (k_c * 6364136223846793005)) + 1442695040888963407)) 33) (ishr (w64 ((w64 (k_c * 6364136223846793005)) + 1442695040888963407)) 45)) 255), (congrArg (fun zq => (Value.int .i64 zq)) (by first | rfl | simp_all)), (Zjn _), ⟨_, _, _, _, _, k, M, om, om⟩, E⟩

/-- spec.l1Below -/
theorem Yu {w : World} {b_c : Nat} (c : Cu w b_c) (n : Int) (hn : 0 < n) :
 Ctr Tryz.prog 30 #[(.pointer (some ⟨b_c, 0, none⟩)), (.int .i64 n)] w (fun v w' => ∃ (i : Int) , v = .int .i64 i ∧ (0 ≤ i ∧ i < n) ∧ Cu w' b_c ∧ Ch [b_c] w w') := by
 have B := c.lt
 have E := Ch.refl [b_c] w
 refine Zv (N := 37) (vs0 := [(.pointer (some ⟨b_c, 0, none⟩)), (.int .i64 n)]) Tryz.func30 rfl rfl rfl ?_
 refine Zf fun K1 H1 => ?_
 refine Zc (Za rfl rfl (Ze rfl) (Zd (Zb (H1 _ _ ?_))))
 refine Zf fun K2 H2 => ?_
 refine Zf fun K3 H3 => ?_
 refine Zc (Za rfl rfl (Zg rfl) (Za rfl rfl (Zfv rfl rfl) (Zd (Zb (H3 _ _ ?_)))))
 refine Zs rfl (fun a => ?_) (fun a => ?_)
 ·have I := a
  have a := Yb a
  refine Zf fun K5 H5 => ?_
  refine Zc (Za rfl rfl (Ze rfl) (Zd (Zb (H5 _ _ ?_))))
  refine Zp (Zk ?_)
  exact Zh [_] ⟨rfl, trivial⟩ ⟨0, (congrArg (fun zq => (Value.int .i64 zq)) (by first | rfl | simp_all)), (by first | exact Zfj om om | omega), c, E⟩
 have I := a
 have a := Yc a
 refine Zu ?_
 refine Zb (H2 _ _ ?_)
 refine Zf fun K6 H6 => ?_
 refine Zf fun K7 H7 => ?_
 refine Zc (Za rfl rfl (Zg rfl) (Za rfl rfl (Zfv rfl rfl) (Zd (Zb (H7 _ _ ?_)))))
 refine Zs rfl (fun b => ?_) (fun b => ?_)
 ·have J := b
  have b := Yb b
  refine Zf fun K9 H9 => ?_
  refine Zc (Za rfl rfl (Zg rfl) (Zl rfl rfl ?_))
  refine Step.call (Zm (xs := [.tmp 13]) fk51 rfl) (Qx c ) fun K ab j => ?_
  obtain ⟨d, rfl, k, l, C⟩ := j
  have L := C.size
  have E := E.trans C
  refine Za rfl rfl (Zg rfl) (Za rfl rfl (Zmq om rfl rfl) (Za rfl rfl (Ze rfl) (Zd (Zb (H9 _ _ ?_)))))
  refine Zp (Zk ?_)
  exact Zh [_] ⟨rfl, trivial⟩ ⟨(d.tmod n), (congrArg (fun zq => (Value.int .i64 zq)) (by first | rfl | simp_all)), (by first | exact Zfj om om | omega), l, E⟩
 have J := b
 have b := Yc b
 refine Zu ?_
 refine Zb (H6 _ _ ?_)
 refine Zf fun ac M => ?_
 refine Zc (Za rfl rfl (Zg rfl) (Zl rfl rfl ?_))
 refine Step.call (Zm (xs := [.tmp 17]) fk51 rfl) (Qx c ) fun O ad m => ?_
 obtain ⟨e, rfl, o, p, D⟩ := m
 have P := D.size
 have E := E.trans D
 refine Za rfl rfl (Ze rfl) (Zd (Zb (M _ _ ?_)))
 refine Zf fun ae Q => ?_
 refine Zc (Za rfl rfl (Zg rfl) (Zl rfl rfl ?_))
 refine Step.call (Zm (xs := [.tmp 19]) fk51 rfl) (Qx p ) fun R af q => ?_
 obtain ⟨f, rfl, r, s, F⟩ := q
 have S := F.size
 have E := E.trans F
 refine Za rfl rfl (Ze rfl) (Zd (Zb (Q _ _ ?_)))
 refine Zf fun ag T => ?_
 refine Zc (Za rfl rfl (Zg rfl) (Zl rfl rfl ?_))
 refine Step.call (Zm (xs := [.tmp 21]) fk51 rfl) (Qx s ) fun U ah t => ?_
 obtain ⟨g, rfl, u, x, G⟩ := t
 have V := G.size
 have E := E.trans G
 refine Za rfl rfl (Ze rfl) (Zd (Zb (T _ _ ?_)))
 refine Zf fun ai X => ?_
 refine Zc (Za rfl rfl (Zg rfl) (Zl rfl rfl ?_))
 refine Step.call (Zm (xs := [.tmp 23]) fk51 rfl) (Qx x ) fun Y aj y => ?_
 obtain ⟨h, rfl, z, A, H⟩ := y
 have Z := H.size
 have E := E.trans H
 refine Za rfl rfl (Ze rfl) (Zd (Zb (X _ _ ?_)))
 refine Zf fun ak aa => ?_
 refine Zc (Za rfl rfl (Zg rfl) (Za rfl rfl (Zmr om rfl rfl) (Za rfl rfl (Zg rfl) (Za rfl rfl (Zmr om rfl rfl) (Za rfl rfl (Yy om rfl rfl) (Za rfl rfl (Zg rfl) (Za rfl rfl (Zmr om rfl rfl) ?_)))))))
 refine Za rfl rfl (Yy om rfl rfl) (Za rfl rfl (Zg rfl) (Za rfl rfl (Yy om rfl rfl) (Za rfl rfl (Zg rfl) (Za rfl rfl (Zmq om rfl rfl) (Za rfl rfl (Ze rfl) (Zd (Zb (aa _ _ ?_))))))))
 refine Zp ?_
 exact Zh [_] ⟨rfl, trivial⟩ ⟨(((((e * 16777216) + (f * 65536)) + (g * 256)) + h).tmod n), (congrArg (fun zq => (Value.int .i64 zq)) (by first | rfl | simp_all)), (by first | exact Zfj om om | omega), A, E⟩

/-- spec.l1Once -/
theorem Zae {w : World} {b_c : Nat} (a : Cu w b_c) (n : Int) (hn : 0 < n) :
 Ctr Tryz.prog 31 #[(.pointer (some ⟨b_c, 0, none⟩)), (.int .i64 n)] w (fun v w' => ∃ (e : Bool) , v = .bool e ∧ Cu w' b_c ∧ Ch [b_c] w w') := by
 have c := a.lt
 have E := Ch.refl [b_c] w
 refine Zv (N := 9) (vs0 := [(.pointer (some ⟨b_c, 0, none⟩)), (.int .i64 n)]) Tryz.func31 rfl rfl rfl ?_
 refine Zf fun K1 H1 => ?_
 refine Zc (Za rfl rfl (Ze rfl) (Zd (Zb (H1 _ _ ?_))))
 refine Zf fun K2 H2 => ?_
 refine Zc (Za rfl rfl (Zg rfl) (Za rfl rfl (Zg rfl) (Zl rfl rfl ?_)))
 refine Step.call (Zm (xs := [.tmp 5, .tmp 6]) fk30 rfl) (Yu a _ om) fun h W3 f => ?_
 obtain ⟨b, rfl, d, g, C3⟩ := f
 have i := C3.size
 have E := E.trans C3
 refine Za rfl rfl (Yn rfl rfl) (Za rfl rfl (Ze rfl) (Zd (Zb (H2 _ _ ?_))))
 refine Zp ?_
 exact Zh [_] ⟨rfl, trivial⟩ ⟨(decide (b = 0)), (congrArg (fun zq => (Value.bool zq)) (by first | rfl | simp_all)), g, E⟩

/-- spec.l1In -/
theorem Zcf {w : World} (n : Int) (a : Int) (b : Int) :
 Ctr Tryz.prog 36 #[(.int .i64 n), (.int .i64 a), (.int .i64 b)] w (fun v w' => v = .bool (decide (a ≤ n ∧ n ≤ b)) ∧ Ch [] w w') := by
 have E := Ch.refl [] w
 refine Zv (N := 15) (vs0 := [(.int .i64 n), (.int .i64 a), (.int .i64 b)]) Tryz.func36 rfl rfl rfl ?_
 refine Zf fun K1 H1 => ?_
 refine Zc (Za rfl rfl (Ze rfl) (Zd (Zb (H1 _ _ ?_))))
 refine Zf fun K2 H2 => ?_
 refine Zc (Za rfl rfl (Zg rfl) (Za rfl rfl (Zg rfl) (Za rfl rfl (Zom rfl rfl) (Za rfl rfl (Zg rfl) ?_))))
 refine Yi (d := 10) rfl (fun c => ?_) (fun c => ?_)
 ·have e := c
  have c := Yb c
  refine Za rfl rfl (Zg rfl) (Za rfl rfl (Zg rfl) (Za rfl rfl (Zfv rfl rfl) (Za rfl rfl (Ye rfl rfl) (Za rfl rfl (Ze rfl) (Zd (Zb (H2 _ _ ?_)))))))
  refine Zp ?_
  exact Zh [_] ⟨rfl, trivial⟩ ⟨congrArg Value.bool (by first | rfl | (rw [Bool.eq_iff_iff]; simp <;> omega) | (rw [Bool.eq_iff_iff]; simp_all; done) | simp_all), E⟩
 have e := c
 have c := Yc c
 refine Zj rfl rfl (Zj rfl rfl (Zj rfl rfl (Za rfl rfl (Ya rfl rfl) (Za rfl rfl (Ze rfl) (Zd (Zb (H2 _ _ ?_)))))))
 refine Zp ?_
 exact Zh [_] ⟨rfl, trivial⟩ ⟨congrArg Value.bool (by first | rfl | (rw [Bool.eq_iff_iff]; simp <;> omega) | (rw [Bool.eq_iff_iff]; simp_all; done) | simp_all), E⟩

/-- spec.l2Letter -/
theorem Zbp {w : World} (n : Int) :
 Ctr Tryz.prog 35 #[(.int .i64 n)] w (fun v w' => v = .bool (decide (0 ≤ n ∧ n ≤ 8)) ∧ Ch [] w w') := by
 have E := Ch.refl [] w
 refine Zv (N := 5) (vs0 := [(.int .i64 n)]) Tryz.func35 rfl rfl rfl ?_
 refine Zf fun K1 H1 => ?_
 refine Zc (Za rfl rfl (Ze rfl) (Zd (Zb (H1 _ _ ?_))))
 refine Zf fun K2 H2 => ?_
 refine Zc (Za rfl rfl (Zg rfl) (Zl rfl rfl ?_))
 refine Step.call (Zm (xs := [.tmp 3, .const (Go.Value.int Go.IntKind.i64 0), .const (Go.Value.int Go.IntKind.i64 8)]) fk36 rfl) (Zcf _ _ _ ) fun b W3 a => ?_
 obtain ⟨rfl, C3⟩ := a
 have c := C3.size
 have E := E.trans C3
 refine Za rfl rfl (Ze rfl) (Zd (Zb (H2 _ _ ?_)))
 refine Zp ?_
 exact Zh [_] ⟨rfl, trivial⟩ ⟨congrArg Value.bool rfl, E⟩

/-- spec.l8Arity -/
theorem Zau {w : World} (t : Token) :
 Ctr Tryz.prog 20 #[(.agg #[(.int .i64 t.kind), (.int .i64 t.letter), (.int .i64 t.low), (.int .i64 t.high)])] w (fun v w' => v = .int .i64 (arT t) ∧ Ch [] w w') := by
 have E := Ch.refl [] w
 refine Zv (N := 87) (vs0 := [(.agg #[(.int .i64 t.kind), (.int .i64 t.letter), (.int .i64 t.low), (.int .i64 t.high)])]) Tryz.func20 rfl rfl rfl ?_
 refine Zf fun K1 H1 => ?_
 refine Zc (Zl rfl rfl ?_)
 refine Qm rfl fun aC W2 i C2 bh => ?_
 have bi := C2.size
 have E := E.trans C2
 have bj := i.lt
 replace i : Blk W2 aC 42 [(.int .i64 t.kind), (.int .i64 t.letter), (.int .i64 t.low), (.int .i64 t.high)] := i
 refine Za rfl rfl (Ze rfl) (Zd (Zb (H1 _ _ ?_)))
 refine Zf fun K3 H3 => ?_
 refine Zf fun K4 H4 => ?_
 refine Zc (Za rfl rfl (Zi fa42_0 rfl) (Za rfl rfl (Zo i.at_ agg3 rfl rfl) (Zd (Zb (H4 _ _ ?_)))))
 refine Yj ?_
 refine Zf fun K5 H5 => ?_
 refine Zf fun K6 H6 => ?_
 refine Zc (Za rfl rfl (Yn rfl rfl) (Za rfl rfl (Ze rfl) (Zd (Zb (H6 _ _ ?_)))))
 refine Zs rfl (fun j => ?_) (fun j => ?_)
 ·have ax := j
  have j := Yb j
  refine Zu ?_
  refine Zb (H5 _ _ ?_)
  refine Qr rfl ax ?_
  refine Zf fun K8 H8 => ?_
  refine Zf fun K9 H9 => ?_
  refine Zc (Za rfl rfl (Zi fa42_1 rfl) (Za rfl rfl (Zo i.at_ agg3 rfl rfl) (Za rfl rfl (Ql rfl rfl) (Za rfl rfl (Zg rfl) ?_))))
  refine Yi (d := 11) rfl (fun a => ?_) (fun a => ?_)
  ·have H := a
   have a := Yc (Xv a)
   refine Zj rfl rfl (Zj rfl rfl (Zj rfl rfl (Za rfl rfl (Ye rfl rfl) (Za rfl rfl (Zg rfl) (Zj rfl rfl (Zj rfl rfl (Zj rfl rfl ?_)))))))
   refine Za rfl rfl (Ye rfl rfl) (Zd (Zb (H9 _ _ ?_)))
   refine Yz rfl ?_
   refine Zf fun bk aD => ?_
   refine Zc (Za rfl rfl (Ze rfl) (Zd (Zb (aD _ _ ?_))))
   refine Zp (Zk (Zt (Zk ?_)))
   clear H3 H8
   exact Zh [_] ⟨rfl, trivial⟩ ⟨congrArg (Value.int .i64) (by unfold arT; repeat (first | rw [if_pos om] | rw [if_neg om])), E⟩
  have H := a
  have a := Yb (Xw a)
  refine Za rfl rfl (Zi fa42_2 rfl) (Za rfl rfl (Zo i.at_ agg3 rfl rfl) (Za rfl rfl (Ql rfl rfl) (Za rfl rfl (Ya rfl rfl) (Za rfl rfl (Zg rfl) ?_))))
  refine Yi (d := 16) rfl (fun b => ?_) (fun b => ?_)
  ·have I := b
   have b := Yc (Xv b)
   refine Zj rfl rfl (Zj rfl rfl (Zj rfl rfl (Za rfl rfl (Ye rfl rfl) (Zd (Zb (H9 _ _ ?_))))))
   refine Yz rfl ?_
   refine Zf fun bm aE => ?_
   refine Zc (Za rfl rfl (Ze rfl) (Zd (Zb (aE _ _ ?_))))
   refine Zp (Zk (Zt (Zk ?_)))
   clear H3 H8
   exact Zh [_] ⟨rfl, trivial⟩ ⟨congrArg (Value.int .i64) (by unfold arT; repeat (first | rw [if_pos om] | rw [if_neg om])), E⟩
  have I := b
  have b := Yb (Xw b)
  refine Za rfl rfl (Zi fa42_3 rfl) (Za rfl rfl (Zo i.at_ agg3 rfl rfl) (Za rfl rfl (Ql rfl rfl) (Za rfl rfl (Ya rfl rfl) (Zd (Zb (H9 _ _ ?_))))))
  refine Zs rfl (fun c => ?_) (fun c => ?_)
  ·have J := c
   have c := Yc (Xv c)
   refine Zf fun bn aF => ?_
   refine Zc (Za rfl rfl (Ze rfl) (Zd (Zb (aF _ _ ?_))))
   refine Zp (Zk (Zt (Zk ?_)))
   clear H3 H8
   exact Zh [_] ⟨rfl, trivial⟩ ⟨congrArg (Value.int .i64) (by unfold arT; repeat (first | rw [if_pos om] | rw [if_neg om])), E⟩
  have J := c
  have c := Yb (Xw c)
  refine Zu ?_
  refine Zb (H8 _ _ ?_)
  refine Zf fun bp aG => ?_
  refine Zc (Za rfl rfl (Ze rfl) (Zd (Zb (aG _ _ ?_))))
  refine Zp (Zt (Zk ?_))
  exact Zh [_] ⟨rfl, trivial⟩ ⟨congrArg (Value.int .i64) (by unfold arT; repeat (first | rw [if_pos om] | rw [if_neg om])), E⟩
 have ax := j
 have j := Yc j
 refine Zc (Za rfl rfl (Yn rfl rfl) (Za rfl rfl (Ze rfl) (Zd (Zb (H5 _ _ ?_)))))
 refine Zs rfl (fun j => ?_) (fun j => ?_)
 ·have K := j
  have j := Yb j
  refine Zf fun bq A => ?_
  refine Zf fun br L => ?_
  refine Zc (Za rfl rfl (Zi fa42_1 rfl) (Za rfl rfl (Zo i.at_ agg3 rfl rfl) (Za rfl rfl (Ql rfl rfl) (Za rfl rfl (Zg rfl) ?_))))
  refine Yi (d := 11) rfl (fun a => ?_) (fun a => ?_)
  ·have M := a
   have a := Yc (Xv a)
   refine Zj rfl rfl (Zj rfl rfl (Zj rfl rfl (Za rfl rfl (Ye rfl rfl) (Za rfl rfl (Zg rfl) (Zj rfl rfl (Zj rfl rfl (Zj rfl rfl ?_)))))))
   refine Za rfl rfl (Ye rfl rfl) (Zd (Zb (L _ _ ?_)))
   refine Yz rfl ?_
   refine Zf fun bs aH => ?_
   refine Zc (Za rfl rfl (Ze rfl) (Zd (Zb (aH _ _ ?_))))
   refine Zp (Zk (Zt (Zk ?_)))
   clear H3 A
   exact Zh [_] ⟨rfl, trivial⟩ ⟨congrArg (Value.int .i64) (by unfold arT; repeat (first | rw [if_pos om] | rw [if_neg om])), E⟩
  have M := a
  have a := Yb (Xw a)
  refine Za rfl rfl (Zi fa42_2 rfl) (Za rfl rfl (Zo i.at_ agg3 rfl rfl) (Za rfl rfl (Ql rfl rfl) (Za rfl rfl (Ya rfl rfl) (Za rfl rfl (Zg rfl) ?_))))
  refine Yi (d := 16) rfl (fun b => ?_) (fun b => ?_)
  ·have O := b
   have b := Yc (Xv b)
   refine Zj rfl rfl (Zj rfl rfl (Zj rfl rfl (Za rfl rfl (Ye rfl rfl) (Zd (Zb (L _ _ ?_))))))
   refine Yz rfl ?_
   refine Zf fun bu aI => ?_
   refine Zc (Za rfl rfl (Ze rfl) (Zd (Zb (aI _ _ ?_))))
   refine Zp (Zk (Zt (Zk ?_)))
   clear H3 A
   exact Zh [_] ⟨rfl, trivial⟩ ⟨congrArg (Value.int .i64) (by unfold arT; repeat (first | rw [if_pos om] | rw [if_neg om])), E⟩
  have O := b
  have b := Yb (Xw b)
  refine Za rfl rfl (Zi fa42_3 rfl) (Za rfl rfl (Zo i.at_ agg3 rfl rfl) (Za rfl rfl (Ql rfl rfl) (Za rfl rfl (Ya rfl rfl) (Zd (Zb (L _ _ ?_))))))
  refine Zs rfl (fun c => ?_) (fun c => ?_)
  ·have P := c
   have c := Yc (Xv c)
   refine Zf fun bv aJ => ?_
   refine Zc (Za rfl rfl (Ze rfl) (Zd (Zb (aJ _ _ ?_))))
   refine Zp (Zk (Zt (Zk ?_)))
   clear H3 A
   exact Zh [_] ⟨rfl, trivial⟩ ⟨congrArg (Value.int .i64) (by unfold arT; repeat (first | rw [if_pos om] | rw [if_neg om])), E⟩
  have P := c
  have c := Yb (Xw c)
  refine Zu ?_
  refine Zb (A _ _ ?_)
  refine Zf fun bw aK => ?_
  refine Zc (Za rfl rfl (Ze rfl) (Zd (Zb (aK _ _ ?_))))
  refine Zp (Zt (Zk ?_))
  exact Zh [_] ⟨rfl, trivial⟩ ⟨congrArg (Value.int .i64) (by unfold arT; repeat (first | rw [if_pos om] | rw [if_neg om])), E⟩
 have K := j
 have j := Yc j
 refine Zf fun bx aL => ?_
 refine Zc (Za rfl rfl (Yn rfl rfl) (Za rfl rfl (Ze rfl) (Zd (Zb (aL _ _ ?_)))))
 refine Zs rfl (fun k => ?_) (fun k => ?_)
 ·have Q := k
  have k := Yb k
  refine Zf fun bz B => ?_
  refine Zf fun bA R => ?_
  refine Zc (Za rfl rfl (Zi fa42_1 rfl) (Za rfl rfl (Zo i.at_ agg3 rfl rfl) (Zl rfl rfl ?_)))
  refine Step.call (Zm (xs := [.tmp 24]) fk35 rfl) (Zbp _ ) fun aM bB S => ?_
  obtain ⟨rfl, T⟩ := S
  have aN := T.size
  have E := E.trans T
  refine Za rfl rfl (Zav rfl) (Za rfl rfl (Zg rfl) ?_)
  refine Yi (d := 27) rfl (fun l => ?_) (fun l => ?_)
  ·have U := l
   have l := Yc (Xv l)
   refine Zj rfl rfl (Zj rfl rfl (Zj rfl rfl (Za rfl rfl (Ye rfl rfl) (Za rfl rfl (Zg rfl) (Zj rfl rfl (Zj rfl rfl (Zj rfl rfl ?_)))))))
   refine Za rfl rfl (Ye rfl rfl) (Zd (Zb (R _ _ ?_)))
   refine Yz rfl ?_
   refine Zf fun bC aO => ?_
   refine Zc (Za rfl rfl (Ze rfl) (Zd (Zb (aO _ _ ?_))))
   refine Zp (Zk (Zt (Zk ?_)))
   clear H3 B
   exact Zh [_] ⟨rfl, trivial⟩ ⟨congrArg (Value.int .i64) (by unfold arT; repeat (first | rw [if_pos om] | rw [if_neg om])), E⟩
  have U := l
  have l := Yb (Xw l)
  refine Za rfl rfl (Zi fa42_2 rfl) ?_
  have ay := i.ch0 T
  refine Za rfl rfl (Zo ay.at_ agg3 rfl rfl) (Za rfl rfl (Ql rfl rfl) (Za rfl rfl (Ya rfl rfl) (Za rfl rfl (Zg rfl) ?_)))
  refine Yi (d := 32) rfl (fun m => ?_) (fun m => ?_)
  ·have V := m
   have m := Yc (Xv m)
   refine Zj rfl rfl (Zj rfl rfl (Zj rfl rfl (Za rfl rfl (Ye rfl rfl) (Zd (Zb (R _ _ ?_))))))
   refine Yz rfl ?_
   refine Zf fun bD aP => ?_
   refine Zc (Za rfl rfl (Ze rfl) (Zd (Zb (aP _ _ ?_))))
   refine Zp (Zk (Zt (Zk ?_)))
   clear H3 B
   exact Zh [_] ⟨rfl, trivial⟩ ⟨congrArg (Value.int .i64) (by unfold arT; repeat (first | rw [if_pos om] | rw [if_neg om])), E⟩
  have V := m
  have m := Yb (Xw m)
  refine Za rfl rfl (Zi fa42_3 rfl) (Za rfl rfl (Zo ay.at_ agg3 rfl rfl) (Za rfl rfl (Ql rfl rfl) (Za rfl rfl (Ya rfl rfl) (Zd (Zb (R _ _ ?_))))))
  refine Zs rfl (fun n => ?_) (fun n => ?_)
  ·have X := n
   have n := Yc (Xv n)
   refine Zf fun bE aQ => ?_
   refine Zc (Za rfl rfl (Ze rfl) (Zd (Zb (aQ _ _ ?_))))
   refine Zp (Zk (Zt (Zk ?_)))
   clear H3 B
   exact Zh [_] ⟨rfl, trivial⟩ ⟨congrArg (Value.int .i64) (by unfold arT; repeat (first | rw [if_pos om] | rw [if_neg om])), E⟩
  have X := n
  have n := Yb (Xw n)
  refine Zu ?_
  refine Zb (B _ _ ?_)
  refine Zf fun bF aR => ?_
  refine Zc (Za rfl rfl (Ze rfl) (Zd (Zb (aR _ _ ?_))))
  refine Zp (Zt (Zk ?_))
  exact Zh [_] ⟨rfl, trivial⟩ ⟨congrArg (Value.int .i64) (by unfold arT; repeat (first | rw [if_pos om] | rw [if_neg om])), E⟩
 have Q := k
 have k := Yc k
 refine Zf fun bG az => ?_
 refine Zf fun bH aS => ?_
 refine Zc (Za rfl rfl (Yn rfl rfl) (Za rfl rfl (Ze rfl) (Zd (Zb (aS _ _ ?_)))))
 refine Zs rfl (fun e => ?_) (fun e => ?_)
 ·have z := e
  have e := Yb e
  refine Zu ?_
  refine Zb (az _ _ ?_)
  refine Qr rfl z ?_
  refine Zf fun bI C => ?_
  refine Zf fun bJ Y => ?_
  refine Zc (Za rfl rfl (Zi fa42_1 rfl) (Za rfl rfl (Zo i.at_ agg3 rfl rfl) (Za rfl rfl (Ql rfl rfl) (Za rfl rfl (Zg rfl) ?_))))
  refine Yi (d := 43) rfl (fun f => ?_) (fun f => ?_)
  ·have Z := f
   have f := Yc (Xv f)
   refine Zj rfl rfl (Zj rfl rfl (Zj rfl rfl (Za rfl rfl (Ye rfl rfl) (Za rfl rfl (Zg rfl) (Zj rfl rfl (Zj rfl rfl (Zj rfl rfl ?_)))))))
   refine Za rfl rfl (Ye rfl rfl) (Zd (Zb (Y _ _ ?_)))
   refine Yz rfl ?_
   refine Zf fun bK aT => ?_
   refine Zc (Za rfl rfl (Ze rfl) (Zd (Zb (aT _ _ ?_))))
   refine Zp (Zk (Zt (Zk ?_)))
   clear H3 C
   exact Zh [_] ⟨rfl, trivial⟩ ⟨congrArg (Value.int .i64) (by unfold arT; repeat (first | rw [if_pos om] | rw [if_neg om])), E⟩
  have Z := f
  have f := Yb (Xw f)
  refine Za rfl rfl (Zi fa42_2 rfl) (Za rfl rfl (Zo i.at_ agg3 rfl rfl) (Za rfl rfl (Ql rfl rfl) (Za rfl rfl (Ya rfl rfl) (Za rfl rfl (Zg rfl) ?_))))
  refine Yi (d := 48) rfl (fun g => ?_) (fun g => ?_)
  ·have aa := g
   have g := Yc (Xv g)
   refine Zj rfl rfl (Zj rfl rfl (Zj rfl rfl (Za rfl rfl (Ye rfl rfl) (Zd (Zb (Y _ _ ?_))))))
   refine Yz rfl ?_
   refine Zf fun bL aU => ?_
   refine Zc (Za rfl rfl (Ze rfl) (Zd (Zb (aU _ _ ?_))))
   refine Zp (Zk (Zt (Zk ?_)))
   clear H3 C
   exact Zh [_] ⟨rfl, trivial⟩ ⟨congrArg (Value.int .i64) (by unfold arT; repeat (first | rw [if_pos om] | rw [if_neg om])), E⟩
  have aa := g
  have g := Yb (Xw g)
  refine Za rfl rfl (Zi fa42_3 rfl) (Za rfl rfl (Zo i.at_ agg3 rfl rfl) (Za rfl rfl (Ql rfl rfl) (Za rfl rfl (Ya rfl rfl) (Zd (Zb (Y _ _ ?_))))))
  refine Zs rfl (fun h => ?_) (fun h => ?_)
  ·have ab := h
   have h := Yc (Xv h)
   refine Zf fun bM aV => ?_
   refine Zc (Za rfl rfl (Ze rfl) (Zd (Zb (aV _ _ ?_))))
   refine Zp (Zk (Zt (Zk ?_)))
   clear H3 C
   exact Zh [_] ⟨rfl, trivial⟩ ⟨congrArg (Value.int .i64) (by unfold arT; repeat (first | rw [if_pos om] | rw [if_neg om])), E⟩
  have ab := h
  have h := Yb (Xw h)
  refine Zu ?_
  refine Zb (C _ _ ?_)
  refine Zf fun bN aW => ?_
  refine Zc (Za rfl rfl (Ze rfl) (Zd (Zb (aW _ _ ?_))))
  refine Zp (Zt (Zk ?_))
  exact Zh [_] ⟨rfl, trivial⟩ ⟨congrArg (Value.int .i64) (by unfold arT; repeat (first | rw [if_pos om] | rw [if_neg om])), E⟩
 have z := e
 have e := Yc e
 refine Zc (Za rfl rfl (Yn rfl rfl) (Za rfl rfl (Ze rfl) (Zd (Zb (az _ _ ?_)))))
 refine Zs rfl (fun e => ?_) (fun e => ?_)
 ·have ac := e
  have e := Yb e
  refine Zf fun bO D => ?_
  refine Zf fun bP ad => ?_
  refine Zc (Za rfl rfl (Zi fa42_1 rfl) (Za rfl rfl (Zo i.at_ agg3 rfl rfl) (Za rfl rfl (Ql rfl rfl) (Za rfl rfl (Zg rfl) ?_))))
  refine Yi (d := 43) rfl (fun f => ?_) (fun f => ?_)
  ·have ae := f
   have f := Yc (Xv f)
   refine Zj rfl rfl (Zj rfl rfl (Zj rfl rfl (Za rfl rfl (Ye rfl rfl) (Za rfl rfl (Zg rfl) (Zj rfl rfl (Zj rfl rfl (Zj rfl rfl ?_)))))))
   refine Za rfl rfl (Ye rfl rfl) (Zd (Zb (ad _ _ ?_)))
   refine Yz rfl ?_
   refine Zf fun bQ aX => ?_
   refine Zc (Za rfl rfl (Ze rfl) (Zd (Zb (aX _ _ ?_))))
   refine Zp (Zk (Zt (Zk ?_)))
   clear H3 D
   exact Zh [_] ⟨rfl, trivial⟩ ⟨congrArg (Value.int .i64) (by unfold arT; repeat (first | rw [if_pos om] | rw [if_neg om])), E⟩
  have ae := f
  have f := Yb (Xw f)
  refine Za rfl rfl (Zi fa42_2 rfl) (Za rfl rfl (Zo i.at_ agg3 rfl rfl) (Za rfl rfl (Ql rfl rfl) (Za rfl rfl (Ya rfl rfl) (Za rfl rfl (Zg rfl) ?_))))
  refine Yi (d := 48) rfl (fun g => ?_) (fun g => ?_)
  ·have af := g
   have g := Yc (Xv g)
   refine Zj rfl rfl (Zj rfl rfl (Zj rfl rfl (Za rfl rfl (Ye rfl rfl) (Zd (Zb (ad _ _ ?_))))))
   refine Yz rfl ?_
   refine Zf fun bR aY => ?_
   refine Zc (Za rfl rfl (Ze rfl) (Zd (Zb (aY _ _ ?_))))
   refine Zp (Zk (Zt (Zk ?_)))
   clear H3 D
   exact Zh [_] ⟨rfl, trivial⟩ ⟨congrArg (Value.int .i64) (by unfold arT; repeat (first | rw [if_pos om] | rw [if_neg om])), E⟩
  have af := g
  have g := Yb (Xw g)
  refine Za rfl rfl (Zi fa42_3 rfl) (Za rfl rfl (Zo i.at_ agg3 rfl rfl) (Za rfl rfl (Ql rfl rfl) (Za rfl rfl (Ya rfl rfl) (Zd (Zb (ad _ _ ?_))))))
  refine Zs rfl (fun h => ?_) (fun h => ?_)
  ·have ag := h
   have h := Yc (Xv h)
   refine Zf fun bS aZ => ?_
   refine Zc (Za rfl rfl (Ze rfl) (Zd (Zb (aZ _ _ ?_))))
   refine Zp (Zk (Zt (Zk ?_)))
   clear H3 D
   exact Zh [_] ⟨rfl, trivial⟩ ⟨congrArg (Value.int .i64) (by unfold arT; repeat (first | rw [if_pos om] | rw [if_neg om])), E⟩
  have ag := h
  have h := Yb (Xw h)
  refine Zu ?_
  refine Zb (D _ _ ?_)
  refine Zf fun bT a0 => ?_
  refine Zc (Za rfl rfl (Ze rfl) (Zd (Zb (a0 _ _ ?_))))
  refine Zp (Zt (Zk ?_))
  exact Zh [_] ⟨rfl, trivial⟩ ⟨congrArg (Value.int .i64) (by unfold arT; repeat (first | rw [if_pos om] | rw [if_neg om])), E⟩
 have ac := e
 have e := Yc e
 refine Zf fun bU a1 => ?_
 refine Zc (Za rfl rfl (Yn rfl rfl) (Za rfl rfl (Ze rfl) (Zd (Zb (a1 _ _ ?_)))))
 refine Zs rfl (fun o => ?_) (fun o => ?_)
 ·have ah := o
  have o := Yb o
  refine Zf fun bV F => ?_
  refine Zf fun bW ai => ?_
  refine Zc (Za rfl rfl (Zi fa42_1 rfl) (Za rfl rfl (Zo i.at_ agg3 rfl rfl) (Za rfl rfl (Ql rfl rfl) (Za rfl rfl (Zg rfl) ?_))))
  refine Yi (d := 58) rfl (fun p => ?_) (fun p => ?_)
  ·have aj := p
   have p := Yc (Xv p)
   refine Zj rfl rfl (Zj rfl rfl (Zj rfl rfl (Za rfl rfl (Ye rfl rfl) (Za rfl rfl (Zg rfl) (Zj rfl rfl (Zj rfl rfl (Zj rfl rfl ?_)))))))
   refine Za rfl rfl (Ye rfl rfl) (Zd (Zb (ai _ _ ?_)))
   refine Yz rfl ?_
   refine Zf fun bX a2 => ?_
   refine Zc (Za rfl rfl (Ze rfl) (Zd (Zb (a2 _ _ ?_))))
   refine Zp (Zk (Zt (Zk ?_)))
   clear H3 F
   exact Zh [_] ⟨rfl, trivial⟩ ⟨congrArg (Value.int .i64) (by unfold arT; repeat (first | rw [if_pos om] | rw [if_neg om])), E⟩
  have aj := p
  have p := Yb (Xw p)
  refine Za rfl rfl (Zi fa42_2 rfl) (Za rfl rfl (Zo i.at_ agg3 rfl rfl) (Za rfl rfl (Ql rfl rfl) (Za rfl rfl (Ya rfl rfl) (Za rfl rfl (Zg rfl) ?_))))
  refine Yi (d := 63) rfl (fun q => ?_) (fun q => ?_)
  ·have ak := q
   have q := Yc (Xv q)
   refine Zj rfl rfl (Zj rfl rfl (Zj rfl rfl (Za rfl rfl (Ye rfl rfl) (Zd (Zb (ai _ _ ?_))))))
   refine Yz rfl ?_
   refine Zf fun bY a3 => ?_
   refine Zc (Za rfl rfl (Ze rfl) (Zd (Zb (a3 _ _ ?_))))
   refine Zp (Zk (Zt (Zk ?_)))
   clear H3 F
   exact Zh [_] ⟨rfl, trivial⟩ ⟨congrArg (Value.int .i64) (by unfold arT; repeat (first | rw [if_pos om] | rw [if_neg om])), E⟩
  have ak := q
  have q := Yb (Xw q)
  refine Za rfl rfl (Zi fa42_3 rfl) (Za rfl rfl (Zo i.at_ agg3 rfl rfl) (Za rfl rfl (Ql rfl rfl) (Za rfl rfl (Ya rfl rfl) (Zd (Zb (ai _ _ ?_))))))
  refine Zs rfl (fun r => ?_) (fun r => ?_)
  ·have al := r
   have r := Yc (Xv r)
   refine Zf fun bZ a4 => ?_
   refine Zc (Za rfl rfl (Ze rfl) (Zd (Zb (a4 _ _ ?_))))
   refine Zp (Zk (Zt (Zk ?_)))
   clear H3 F
   exact Zh [_] ⟨rfl, trivial⟩ ⟨congrArg (Value.int .i64) (by unfold arT; repeat (first | rw [if_pos om] | rw [if_neg om])), E⟩
  have al := r
  have r := Yb (Xw r)
  refine Zu ?_
  refine Zb (F _ _ ?_)
  refine Zf fun b0 a5 => ?_
  refine Zc (Za rfl rfl (Ze rfl) (Zd (Zb (a5 _ _ ?_))))
  refine Zp (Zt (Zk ?_))
  exact Zh [_] ⟨rfl, trivial⟩ ⟨congrArg (Value.int .i64) (by unfold arT; repeat (first | rw [if_pos om] | rw [if_neg om])), E⟩
 have ah := o
 have o := Yc o
 refine Zf fun b1 a6 => ?_
 refine Zc (Za rfl rfl (Yn rfl rfl) (Za rfl rfl (Ze rfl) (Zd (Zb (a6 _ _ ?_)))))
 refine Zs rfl (fun s => ?_) (fun s => ?_)
 ·have am := s
  have s := Yb s
  refine Zf fun b2 G => ?_
  refine Zf fun b3 an => ?_
  refine Zc (Za rfl rfl (Zi fa42_1 rfl) (Za rfl rfl (Zo i.at_ agg3 rfl rfl) (Za rfl rfl (Ql rfl rfl) (Za rfl rfl (Zg rfl) ?_))))
  refine Yi (d := 73) rfl (fun u => ?_) (fun u => ?_)
  ·have ao := u
   have u := Yc (Xv u)
   refine Zj rfl rfl (Zj rfl rfl (Zj rfl rfl (Zj rfl rfl (Za rfl rfl (Ye rfl rfl) (Za rfl rfl (Zg rfl) (Zj rfl rfl (Zj rfl rfl ?_)))))))
   refine Zj rfl rfl (Zj rfl rfl (Zj rfl rfl (Zj rfl rfl (Za rfl rfl (Ye rfl rfl) (Zd (Zb (an _ _ ?_)))))))
   refine Yz rfl ?_
   refine Zf fun b4 a7 => ?_
   refine Zc (Za rfl rfl (Ze rfl) (Zd (Zb (a7 _ _ ?_))))
   refine Zp (Zk (Zt (Zk ?_)))
   clear H3 G
   exact Zh [_] ⟨rfl, trivial⟩ ⟨congrArg (Value.int .i64) (by unfold arT; repeat (first | rw [if_pos om] | rw [if_neg om])), E⟩
  have ao := u
  have u := Yb (Xw u)
  refine Za rfl rfl (Zi fa42_3 rfl) (Za rfl rfl (Zo i.at_ agg3 rfl rfl) (Zl rfl rfl ?_))
  refine Step.call (Zm (xs := [.tmp 75, .const (Go.Value.int Go.IntKind.i64 1), .const (Go.Value.int Go.IntKind.i64 3)]) fk36 rfl) (Zcf _ _ _ ) fun a8 b5 ap => ?_
  obtain ⟨rfl, aq⟩ := ap
  have a9 := aq.size
  have E := E.trans aq
  refine Za rfl rfl (Zav rfl) (Za rfl rfl (Ya rfl rfl) (Za rfl rfl (Zg rfl) ?_))
  refine Yi (d := 79) rfl (fun x => ?_) (fun x => ?_)
  ·have au := x
   have x := Yc (Xv x)
   refine Zj rfl rfl (Zj rfl rfl (Zj rfl rfl (Zj rfl rfl (Zj rfl rfl (Zj rfl rfl (Za rfl rfl (Ye rfl rfl) (Zd ?_)))))))
   refine Zb (an _ _ ?_)
   refine Yz rfl ?_
   refine Zf fun b6 ba => ?_
   refine Zc (Za rfl rfl (Ze rfl) (Zd (Zb (ba _ _ ?_))))
   refine Zp (Zk (Zt (Zk ?_)))
   clear H3 G
   exact Zh [_] ⟨rfl, trivial⟩ ⟨congrArg (Value.int .i64) (by unfold arT; repeat (first | rw [if_pos om] | rw [if_neg om])), E⟩
  have au := x
  have x := Yb (Xw x)
  refine Za rfl rfl (Zi fa42_2 rfl) ?_
  have aA := i.ch0 aq
  refine Za rfl rfl (Zo aA.at_ agg3 rfl rfl) (Za rfl rfl (Zi fa42_3 rfl) (Za rfl rfl (Zo aA.at_ agg3 rfl rfl) (Zl rfl rfl ?_)))
  refine Step.call (Zm (xs := [.tmp 81, .const (Go.Value.int Go.IntKind.i64 0), .tmp 83]) fk36 rfl) (Zcf _ _ _ ) fun bb b7 av => ?_
  obtain ⟨rfl, aB⟩ := av
  have bc := aB.size
  have E := E.trans aB
  refine Za rfl rfl (Zav rfl) (Za rfl rfl (Ya rfl rfl) (Zd (Zb (an _ _ ?_))))
  refine Zs rfl (fun y => ?_) (fun y => ?_)
  ·have aw := y
   have y := Yc (Xv y)
   refine Zf fun b8 be => ?_
   refine Zc (Za rfl rfl (Ze rfl) (Zd (Zb (be _ _ ?_))))
   refine Zp (Zk (Zt (Zk ?_)))
   clear H3 G
   exact Zh [_] ⟨rfl, trivial⟩ ⟨congrArg (Value.int .i64) (by unfold arT; repeat (first | rw [if_pos om] | rw [if_neg om])), E⟩
  have aw := y
  have y := Yb (Xw y)
  refine Zu ?_
  refine Zb (G _ _ ?_)
  refine Zf fun b9 bf => ?_
  refine Zc (Za rfl rfl (Ze rfl) (Zd (Zb (bf _ _ ?_))))
  refine Zp (Zt (Zk ?_))
  exact Zh [_] ⟨rfl, trivial⟩ ⟨congrArg (Value.int .i64) (by unfold arT; repeat (first | rw [if_pos om] | rw [if_neg om])), E⟩
 have am := s
 have s := Yc s
 refine Zu ?_
 refine Yd (Zb (H3 _ _ ?_))
 refine Zf fun ca bg => ?_
 refine Zc (Za rfl rfl (Ze rfl) (Zd (Zb (bg _ _ ?_))))
 refine Zp ?_
 exact Zh [_] ⟨rfl, trivial⟩ ⟨congrArg (Value.int .i64) (by unfold arT; repeat (first | rw [if_pos om] | rw [if_neg om])), E⟩

/-- spec.IsExpr -/
theorem Zag {w : World} {LL_e q : Nat} {m : Value} {e : List Token} (h : Ls Token.cs 4 w LL_e q m e) :
 Ctr Tryz.prog 10 #[(.agg #[m])] w (fun v w' => v = .bool (isE e) ∧ Ch [] w w') := by
 obtain ⟨k, l, n⟩ := h.val
 subst n
 have G := h.len
 have h := h.here (by decide)
 have E := Ch.refl [] w
 refine Zv (N := 32) (vs0 := [(.agg #[(.slice k e.length l)])]) Tryz.func10 rfl rfl rfl ?_
 refine Zf fun K1 H1 => ?_
 refine Zc (Zl rfl rfl ?_)
 refine Qm rfl fun r W2 p C2 V => ?_
 have X := C2.size
 have E := E.trans C2
 have Y := p.lt
 replace p : Blk W2 r 26 [(.slice k e.length l)] := p
 refine Za rfl rfl (Ze rfl) (Zd (Zb (H1 _ _ ?_)))
 refine Zf fun K3 H3 => ?_
 refine Zc (Za rfl rfl (Ze rfl) (Zd (Zb (H3 _ _ ?_))))
 refine Zf fun K4 H4 => ?_
 refine Zf fun K5 H5 => ?_
 refine Zc (Za rfl rfl (Ze rfl) (Zd (Zb (H5 _ _ ?_))))
 refine Yj ?_
 refine Qf (σ := Nat × Int × List Tr) (fun ⟨i, d, st⟩ => [(1, (.pointer (some ⟨r, 0, none⟩))), (3, (.int .i64 d)), (4, (.int .i64 ((i : Nat) : Int)))]) (fun ⟨i, d, st⟩ wx => Ch [] w wx ∧ W2.heap.size ≤ wx.heap.size ∧ (i ≤ e.length) ∧ (d = st.length) ∧ (st.length ≤ i) ∧ (prs [] (e.take i) = some st) ∧ Blk wx r 26 [(.slice k e.length l)]) (fun ⟨i, d, st⟩ => e.length - i) (0, 0, ([] : List Tr)) (sC2 rfl rfl (sC1 rfl (Sub.nil _))) ⟨E, (Nat.le_refl _), om, rfl, (Nat.le_refl _), rfl, p⟩ ?_
 rintro ⟨i, d, st⟩ R6 ⟨E, H, hi, hd, hs, hp, f⟩
 have o := E
 have D := o.size
 have s := f.lt
 refine Zf fun K7 H7 => ?_
 refine Zf fun K8 H8 => ?_
 refine Zc (Za rfl rfl (Zg rfl) (Za rfl rfl (Zi fa26_0 rfl) (Za rfl rfl (Zo f.at_ agg24 rfl rfl) (Za rfl rfl (Xk (by rw [el24]; rfl) rfl) (Za rfl rfl (Qv rfl rfl) (Zd (Zb (H8 _ _ ?_))))))))
 refine Zs rfl (fun a => ?_) (fun a => ?_)
 ·have I := a
  have a := Yb a
  refine Zu ?_
  refine Zb (H7 _ _ ?_)
  refine Zf fun Z u => ?_
  refine Yj ?_
  refine Zf fun aa J => ?_
  refine Zc (Za rfl rfl (Zi fa26_0 rfl) (Za rfl rfl (Zo f.at_ agg24 rfl rfl) (Za rfl rfl (Zg rfl) (Zl rfl rfl ?_))))
  have K := h.ch0 o
  refine (Xc K Token.len el24 sz42 rfl rfl rfl om fun L j g x => ?_)
  refine Za rfl rfl (Zr x agg42 sz42 rfl) (Zl rfl rfl ?_)
  refine Step.call (Zm (xs := [.tmp 17]) fk20 rfl) (Zau j ) fun M ab y => ?_
  obtain ⟨rfl, z⟩ := y
  have O := z.size
  have E := E.trans z
  have P := Qk j
  refine Za rfl rfl (Ze rfl) (Zd (Zb (J _ _ ?_)))
  refine Zf fun ac A => ?_
  refine Zf fun ad F => ?_
  refine Zc (Za rfl rfl (Zg rfl) (Za rfl rfl (Qv rfl rfl) (Za rfl rfl (Zg rfl) ?_)))
  refine Yi (d := 21) rfl (fun b => ?_) (fun b => ?_)
  ·have B := b
   have b := Yb b
   refine Zj rfl rfl (Zj rfl rfl (Zj rfl rfl (Za rfl rfl (Ye rfl rfl) (Zd (Zb (F _ _ ?_))))))
   refine Yz rfl ?_
   refine Zf fun ae Q => ?_
   refine Zc (Za rfl rfl (Ze rfl) (Zd (Zb (Q _ _ ?_))))
   refine Zp (Zk (Zt (Zk (Zk (Zt (Zk ?_))))))
   clear H4 u A
   exact Zh [_] ⟨rfl, trivial⟩ ⟨congrArg Value.bool (by first | (rw [Zhe hp om, hd]; done) | exact Zcl (Zey hp g (Zfe om))), E⟩
  have B := b
  have b := Yc b
  refine Za rfl rfl (Zg rfl) (Za rfl rfl (Zg rfl) (Za rfl rfl (Zfx rfl rfl) (Za rfl rfl (Ya rfl rfl) (Zd (Zb (F _ _ ?_))))))
  refine Zs rfl (fun c => ?_) (fun c => ?_)
  ·have C := c
   have c := Yb c
   refine Zf fun af R => ?_
   refine Zc (Za rfl rfl (Ze rfl) (Zd (Zb (R _ _ ?_))))
   refine Zp (Zk (Zt (Zk (Zk (Zt (Zk ?_))))))
   clear H4 u A
   exact Zh [_] ⟨rfl, trivial⟩ ⟨congrArg Value.bool (by first | (rw [Zhe hp om, hd]; done) | exact Zcl (Zey hp g (Zfe om))), E⟩
  have C := c
  have c := Yc c
  refine Zu ?_
  refine Zb (A _ _ (Zc (Za rfl rfl (Zg rfl) (Za rfl rfl (Zg rfl) (Za rfl rfl (Qg om rfl rfl) (Za rfl rfl (Yy om rfl rfl) (Za rfl rfl (Ze rfl) (Zd ?_))))))))
  refine Yd (Zb (u _ _ (Zc (Za rfl rfl (Zg rfl) (Za rfl rfl (Yy om rfl rfl) (Za rfl rfl (Ze rfl) (Zd ?_)))))))
  obtain ⟨s2, S, ag⟩ := Zku (t := j) (st := st) om om
  have T := f.ch0 z
  exact Zb (Exists.intro ((i + 1), ((d - arT j) + 1), s2) ⟨⟨E, om, om, om, om, ((Zfi hp g).trans S), T⟩, sC2 rfl rfl (sC1 rfl (Sub.nil _)), (by first | omega | (dsimp only; omega))⟩)
 have I := a
 have a := Yc a
 refine Xu (Yh (Yh (Xd ?_)))
 refine Zb (H4 _ _ ?_)
 refine Zf fun ah U => ?_
 refine Zc (Za rfl rfl (Zg rfl) (Za rfl rfl (Yn rfl rfl) (Za rfl rfl (Ze rfl) (Zd (Zb (U _ _ ?_))))))
 refine Zp ?_
 exact Zh [_] ⟨rfl, trivial⟩ ⟨congrArg Value.bool (by first | (rw [Zhe hp om, hd]; done) | exact Zcl (Zey hp g (Zfe om))), E⟩

/-- spec.IsValidExpr -/
theorem Xi {w : World} {LL_e j : Nat} {c : Value} {e : List Token} (a : Ls Token.cs 4 w LL_e j c e) :
 Ctr Tryz.prog 12 #[(.agg #[c])] w (fun v w' => v = .bool (ivE e) ∧ Ch [] w w') := by
 obtain ⟨f, g, h⟩ := a.val
 subst h
 have k := a.len
 have a := a.here (by decide)
 have E := Ch.refl [] w
 refine Zv (N := 11) (vs0 := [(.agg #[(.slice f e.length g)])]) Tryz.func12 rfl rfl rfl ?_
 refine Zf fun K1 H1 => ?_
 refine Zc (Zl rfl rfl ?_)
 refine Qm rfl fun l W2 i C2 o => ?_
 have p := C2.size
 have E := E.trans C2
 have q := i.lt
 replace i : Blk W2 l 26 [(.slice f e.length g)] := i
 refine Za rfl rfl (Ze rfl) (Zd (Zb (H1 _ _ ?_)))
 refine Zf fun K3 H3 => ?_
 refine Zc (Za rfl rfl (Zi fa26_0 rfl) (Za rfl rfl (Zo i.at_ agg24 rfl rfl) (Za rfl rfl (Xk (by rw [el24]; rfl) rfl) (Za rfl rfl (Zfv rfl rfl) (Za rfl rfl (Zg rfl) ?_)))))
 refine Yi (d := 7) rfl (fun b => ?_) (fun b => ?_)
 ·have m := b
  have b := Yb b
  refine Za rfl rfl (Zr i.at_ agg26 sz26 rfl) (Zl rfl rfl ?_)
  have F5 := a.ch0 C2
  refine Step.call (Zm (xs := [.tmp 8]) fk10 rfl) (Zag F5 ) fun r W6 n => ?_
  obtain ⟨rfl, C6⟩ := n
  have s := C6.size
  have E := E.trans C6
  refine Za rfl rfl (Ye rfl rfl) (Za rfl rfl (Ze rfl) (Zd (Zb (H3 _ _ ?_))))
  refine Zp ?_
  exact Zh [_] ⟨rfl, trivial⟩ ⟨congrArg Value.bool (by unfold ivE; first | (rw [decide_eq_true om]; rfl) | (rw [decide_eq_false om]; rfl)), E⟩
 have m := b
 have b := Yc b
 refine Zj rfl rfl (Zj rfl rfl (Za rfl rfl (Ya rfl rfl) (Za rfl rfl (Ze rfl) (Zd (Zb (H3 _ _ ?_))))))
 refine Zp ?_
 exact Zh [_] ⟨rfl, trivial⟩ ⟨congrArg Value.bool (by unfold ivE; first | (rw [decide_eq_true om]; rfl) | (rw [decide_eq_false om]; rfl)), E⟩

/-- spec.l2Cut -/
theorem Zgv {w : World} (s : List UInt8) (sep : Int) (hb : s.length ≤ 4194304) :
 Ctr Tryz.prog 88 #[(bst s), (.int .u8 sep)] w (fun v w' => Ol scs 9 1 w' v (Zx s sep []) ∧ Lo w.heap.size v ∧ Ch [] w w') := by
 have E := Ch.refl [] w
 refine Zv (N := 35) (vs0 := [(bst s), (.int .u8 sep)]) Tryz.func88 rfl rfl rfl ?_
 refine Zf fun K1 H1 => ?_
 refine Zc (Za rfl rfl (Ze rfl) (Zd (Zb (H1 _ _ ?_))))
 refine Zf fun K2 H2 => ?_
 refine Zc (Zl rfl rfl ?_)
 refine Qq (k := 1) scs el52 sz9 fun aC W3 L A C3 => ?_
 have aD := C3.size
 have E := E.trans C3
 obtain ⟨l, m, rfl, af, M⟩ := L.opn
 refine Za rfl rfl (Ze rfl) (Zd (Zb (H2 _ _ ?_)))
 refine Zf fun K4 H4 => ?_
 refine Zc (Za rfl rfl (Ze rfl) (Zd (Zb (H4 _ _ ?_))))
 refine Zf fun K5 H5 => ?_
 refine Zf fun K6 H6 => ?_
 refine Zc (Za rfl rfl (Ze rfl) (Zd (Zb (H6 _ _ ?_))))
 refine Yj ?_
 have n : Ol scs 9 1 W3 (.slice l (([] : List (List UInt8))).length m) (([] : List (List UInt8))) := by
  have hx := L
  exact hx
 refine Qf (σ := Nat × Nat × List (List UInt8) × Value) (fun ⟨i, f, out, ov⟩ => [(0, (bst s)), (1, (.int .u8 sep)), (4, (.slice none 0 0)), (5, ov), (6, (.int .i64 ((f : Nat) : Int))), (7, (.int .i64 ((i : Nat) : Int)))]) (fun ⟨i, f, out, ov⟩ wx => Ch [] w wx ∧ W3.heap.size ≤ wx.heap.size ∧ (f ≤ i ∧ i ≤ s.length) ∧ (out ++ Zx (s.drop i) sep ((s.drop f).take (i - f)) = Zx s sep []) ∧ Ol scs 9 1 wx ov out ∧ Lo w.heap.size ov) (fun ⟨i, f, out, ov⟩ => s.length - i) (0, 0, ([] : List (List UInt8)), (.slice l (([] : List (List UInt8))).length m)) (sC4 rfl rfl rfl rfl (sC2 rfl rfl (Sub.nil _))) ⟨E, (Nat.le_refl _), om, Zlj, n, A⟩ ?_
 rintro ⟨i, f, out, ov⟩ R8 ⟨E, ag, hi, hc, d, a⟩
 have B := E
 have O := B.size
 obtain ⟨Aov, Cov, rfl, lov, hiov⟩ := d.opn
 have ah := congrArg List.length hc
 have aE := Zbu s sep []
 rw [List.length_append] at ah
 refine Zf fun K9 H9 => ?_
 refine Zf fun aF ai => ?_
 refine Zc (Za rfl rfl (Zg rfl) (Za rfl rfl (Zg rfl) (Za rfl rfl (Ziv un9 rfl) (Za rfl rfl (Qv rfl rfl) (Zd (Zb (ai _ _ ?_)))))))
 refine Zs rfl (fun c => ?_) (fun c => ?_)
 ·have C := c
  have c := Yb c
  refine Zu ?_
  refine Zb (H9 _ _ ?_)
  refine Zf fun aG P => ?_
  refine Yj ?_
  refine Zf fun aH aj => ?_
  refine Zc (Za rfl rfl (Zg rfl) (Za rfl rfl (Zg rfl) (Za rfl rfl (Zbt om un9 rfl rfl) (Za rfl rfl (Zg rfl) (Za rfl rfl (Yn rfl rfl) (Zd (Zb (aj _ _ ?_))))))))
  refine Zs rfl (fun b => ?_) (fun b => ?_)
  ·have D := b
   have b := Yb b
   refine Zf fun aI ak => ?_
   refine Zc (Za rfl rfl (Zg rfl) (Za rfl rfl (Zg rfl) (Za rfl rfl (Zg rfl) (Za rfl rfl (Zg rfl) (Za rfl rfl (Zpo om un9 rfl rfl rfl) (Zl rfl rfl ?_))))))
   refine Yg (cs := scs) (parts := [(0, .tmp 24)]) ([] : List UInt8) [((s.drop f).take (i - f))] el52 sz9 zr9 Zaj (by decide) rfl rfl rfl (by decide) (by decide) rfl fun al aJ o Q F => ?_
   have am := F.size
   have E := E.trans F
   obtain ⟨R, S, rfl, T, G⟩ := o.opn
   refine Zl rfl rfl ?_
   have an := d.ch0 F
   refine Yt (cs := scs) el52 sz9 by9 zr9 rfl (by decide) Zhm an o.ls rfl rfl bd bd a om fun ao ap p q U V => ?_
   have aq := V.size
   have E := E.step V (fun i hi => .inl (by have au := a _ hi; omega))
   obtain ⟨e, g, rfl, X, H⟩ := p.opn
   refine Za rfl rfl (Ze rfl) (Zd (Zb (ak _ _ (Zc (Za rfl rfl (Zg rfl) (Za rfl rfl (Yy om rfl rfl) (Za rfl rfl (Ze rfl) (Zd ?_))))))))
   refine Yd (Zb (P _ _ (Zc (Za rfl rfl (Zg rfl) (Za rfl rfl (Yy om rfl rfl) (Za rfl rfl (Ze rfl) (Zd ?_)))))))
   have h : Ol scs 9 1 ap (.slice e ((out ++ [((s.drop f).take (i - f))])).length g) ((out ++ [((s.drop f).take (i - f))])) := by
    have hx := p
    exact hx
   exact Zb (Exists.intro ((i + 1), (i + 1), (out ++ [((s.drop f).take (i - f))]), (.slice e ((out ++ [((s.drop f).take (i - f))])).length g)) ⟨⟨E, om, om, (by first | exact Zje hc om b | exact Zhw hc om om b), h, (Lo.down q om)⟩, sC4 rfl rfl rfl rfl (sC2 rfl rfl (Sub.nil _)), (by first | omega | (dsimp only; omega))⟩)
  have D := b
  have b := Yc b
  refine Zu ?_
  refine Yd (Zb (P _ _ (Zc (Za rfl rfl (Zg rfl) (Za rfl rfl (Yy om rfl rfl) (Za rfl rfl (Ze rfl) (Zd ?_)))))))
  have j : Ol scs 9 1 R8 (.slice Aov (out).length Cov) (out) := by
   have hx := d
   exact hx
  exact Zb (Exists.intro ((i + 1), f, out, (.slice Aov (out).length Cov)) ⟨⟨E, om, om, (by first | exact Zje hc om b | exact Zhw hc om om b), j, (Lo.down a om)⟩, sC4 rfl rfl rfl rfl (sC2 rfl rfl (Sub.nil _)), (by first | omega | (dsimp only; omega))⟩)
 have C := c
 have c := Yc c
 refine Xu (Yh (Yh (Xd ?_)))
 refine Zb (H5 _ _ ?_)
 refine Zf fun aK av => ?_
 refine Zc (Za rfl rfl (Zg rfl) (Za rfl rfl (Zg rfl) (Za rfl rfl (Zg rfl) (Za rfl rfl (Zny om un9 rfl rfl) (Zl rfl rfl ?_)))))
 refine Yg (cs := scs) (parts := [(0, .tmp 32)]) ([] : List UInt8) [(s.drop f)] el52 sz9 zr9 Zaj (by decide) rfl rfl rfl (by decide) (by decide) rfl fun aw aL r Y I => ?_
 have ax := I.size
 have E := E.trans I
 obtain ⟨Z, aa, rfl, ab, J⟩ := r.opn
 refine Zl rfl rfl ?_
 have ay := d.ch0 I
 refine Yt (cs := scs) el52 sz9 by9 zr9 rfl (by decide) Zhm ay r.ls rfl rfl bd bd a om fun az aA t u ac ad => ?_
 have aB := ad.size
 have E := E.step ad (fun i hi => .inl (by have au := a _ hi; omega))
 obtain ⟨x, y, rfl, ae, K⟩ := t.opn
 refine Za rfl rfl (Ze rfl) (Zd (Zb (av _ _ ?_)))
 refine Zp ?_
 have z : Ol scs 9 1 aA (.slice x ((out ++ [(s.drop f)])).length y) (Zx s sep []) := by
  have hx := t
  exact hx.eq (Znt hc om)
 exact Zh [_] ⟨rfl, trivial⟩ ⟨z, Lo.down u om, E⟩

/-- spec.FormatLetter -/
theorem Zak {w : World} (n : Int) :
 Ctr Tryz.prog 116 #[(.int .i64 n)] w (fun v w' => v = bst (fmtL n) ∧ Ch [] w w') := by
 have E := Ch.refl [] w
 refine Zv (N := 10) (vs0 := [(.int .i64 n)]) Tryz.func116 rfl rfl rfl ?_
 refine Zf fun K1 H1 => ?_
 refine Zc (Za rfl rfl (Ze rfl) (Zd (Zb (H1 _ _ ?_))))
 refine Zf fun K2 H2 => ?_
 refine Zf fun K3 H3 => ?_
 refine Zc (Za rfl rfl (Zg rfl) (Zl rfl rfl ?_))
 refine Step.call (Zm (xs := [.tmp 3]) fk35 rfl) (Zbp _ ) fun m W4 e => ?_
 obtain ⟨rfl, C4⟩ := e
 have o := C4.size
 have E := E.trans C4
 refine Za rfl rfl (Zav rfl) (Zd (Zb (H3 _ _ ?_)))
 refine Zs rfl (fun a => ?_) (fun a => ?_)
 ·have f := a
  have a := Yc (Xv a)
  refine Zf fun K6 H6 => ?_
  refine Zc (Za rfl rfl (Ze rfl) (Zd (Zb (H6 _ _ ?_))))
  refine Zp (Zk ?_)
  exact Zh [_] ⟨rfl, trivial⟩ ⟨congrArg bst (Zmb om), E⟩
 have f := a
 have a := Yb (Xw a)
 refine Zu ?_
 refine Zb (H2 _ _ ?_)
 refine Zf fun K7 H7 => ?_
 refine Zc (Zl rfl rfl ?_)
 refine Yg (cs := scs) (parts := [(0, .const (Go.Value.string { data := #[97] })), (1, .const (Go.Value.string { data := #[97, 45] })), (2, .const (Go.Value.string { data := #[98] })), (3, .const (Go.Value.string { data := #[98, 45] })), (4, .const (Go.Value.string { data := #[99] })), (5, .const (Go.Value.string { data := #[99, 45] })), (6, .const (Go.Value.string { data := #[48] })), (7, .const (Go.Value.string { data := #[49] })), (8, .const (Go.Value.string { data := #[50] }))]) ([] : List UInt8) [[97], [97, 45], [98], [98, 45], [99], [99, 45], [48], [49], [50]] el52 sz9 zr9 Zaj (by decide) rfl rfl rfl (by decide) (by decide) rfl fun p W8 c g C8 => ?_
 have q := C8.size
 have E := E.trans C8
 obtain ⟨h, i, rfl, k, d⟩ := c.opn
 refine Za rfl rfl (Zg rfl) (Zl rfl rfl ?_)
 refine (Xc (j := n.toNat) c.ls Zaj el52 sz9 rfl rfl om (by first | omega | (simp; omega)) fun r s b l => ?_)
 refine Za rfl rfl (Ym l agg9 rfl rfl) (Za rfl rfl (Ze rfl) (Zd (Zb (H7 _ _ ?_))))
 refine Zp ?_
 exact Zh [_] ⟨rfl, trivial⟩ ⟨congrArg bst (Zme om b), E⟩

end Go.Proofs.YtmdgciibgjhidaaGreatDoor
