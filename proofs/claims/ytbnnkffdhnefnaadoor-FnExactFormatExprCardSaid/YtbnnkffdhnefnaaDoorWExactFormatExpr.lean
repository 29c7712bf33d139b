/- Walks of functions that FnExactFormatExpr reaches: what each returns, and that it leaves the memory that was there alone. -/
import Derived.Test.YtbnnkffdhnefnaaDoorLibA
import Derived.Test.YtbnnkffdhnefnaaDoorProg
namespace Go.Proofs.YtbnnkffdhnefnaaDoor
open Go.KLib Go.Shelf
set_option maxHeartbeats 1000000
set_option maxRecDepth 20000
set_option linter.unusedVariables false
set_option linter.unusedSimpArgs false
namespace TExactFormatExpr
theorem agg105 : Yd Tryd.prog 105 = some false := by kernel_rfl
theorem agg3 : Yd Tryd.prog 3 = some false := by kernel_rfl
theorem agg43 : Yd Tryd.prog 43 = some false := by kernel_rfl
theorem agg45 : Yd Tryd.prog 45 = some true := by kernel_rfl
theorem agg48 : Yd Tryd.prog 48 = some false := by kernel_rfl
theorem agg50 : Yd Tryd.prog 50 = some true := by kernel_rfl
theorem agg77 : Yd Tryd.prog 77 = some true := by kernel_rfl
theorem agg9 : Yd Tryd.prog 9 = some false := by kernel_rfl
theorem agg98 : Yd Tryd.prog 98 = some true := by kernel_rfl
theorem by105 : Xs Tryd.prog 105 = some 8 := by kernel_rfl
theorem by77 : Xs Tryd.prog 77 = some 32 := by kernel_rfl
theorem by9 : Xs Tryd.prog 9 = some 16 := by kernel_rfl
theorem el115 : elB Tryd.prog 115 = some 105 := by kernel_rfl
theorem el43 : elB Tryd.prog 43 = some 98 := by kernel_rfl
theorem el48 : elB Tryd.prog 48 = some 77 := by kernel_rfl
theorem el60 : elB Tryd.prog 60 = some 9 := by kernel_rfl
theorem el81 : elB Tryd.prog 81 = some 5 := by kernel_rfl
theorem fa45_0 : faB Tryd.prog 45 0 = some 0 := by kernel_rfl
theorem fa50_0 : faB Tryd.prog 50 0 = some 0 := by kernel_rfl
theorem fa77_0 : faB Tryd.prog 77 0 = some 0 := by kernel_rfl
theorem fa77_1 : faB Tryd.prog 77 1 = some 1 := by kernel_rfl
theorem fa77_2 : faB Tryd.prog 77 2 = some 2 := by kernel_rfl
theorem fa77_3 : faB Tryd.prog 77 3 = some 3 := by kernel_rfl
theorem fa98_0 : faB Tryd.prog 98 0 = some 0 := by kernel_rfl
theorem fa98_1 : faB Tryd.prog 98 1 = some 1 := by kernel_rfl
theorem fa98_2 : faB Tryd.prog 98 2 = some 2 := by kernel_rfl
theorem fa98_3 : faB Tryd.prog 98 3 = some 3 := by kernel_rfl
theorem fk21 : fnB Tryd.prog 21 = true := by kernel_rfl
theorem fk22 : fnB Tryd.prog 22 = true := by kernel_rfl
theorem fk23 : fnB Tryd.prog 23 = true := by kernel_rfl
theorem fk24 : fnB Tryd.prog 24 = true := by kernel_rfl
theorem fk25 : fnB Tryd.prog 25 = true := by kernel_rfl
theorem fk27 : fnB Tryd.prog 27 = true := by kernel_rfl
theorem fk30 : fnB Tryd.prog 30 = true := by kernel_rfl
theorem fk31 : fnB Tryd.prog 31 = true := by kernel_rfl
theorem fk38 : fnB Tryd.prog 38 = true := by kernel_rfl
theorem fk42 : fnB Tryd.prog 42 = true := by kernel_rfl
theorem fk45 : fnB Tryd.prog 45 = true := by kernel_rfl
theorem fk46 : fnB Tryd.prog 46 = true := by kernel_rfl
theorem fk47 : fnB Tryd.prog 47 = true := by kernel_rfl
theorem fk48 : fnB Tryd.prog 48 = true := by kernel_rfl
theorem fk49 : fnB Tryd.prog 49 = true := by kernel_rfl
theorem fk50 : fnB Tryd.prog 50 = true := by kernel_rfl
theorem fk51 : fnB Tryd.prog 51 = true := by kernel_rfl
theorem fk52 : fnB Tryd.prog 52 = true := by kernel_rfl
theorem fk54 : fnB Tryd.prog 54 = true := by kernel_rfl
theorem fk56 : fnB Tryd.prog 56 = true := by kernel_rfl
theorem fk63 : fnB Tryd.prog 63 = true := by kernel_rfl
theorem fk65 : fnB Tryd.prog 65 = true := by kernel_rfl
theorem fk67 : fnB Tryd.prog 67 = true := by kernel_rfl
theorem fk68 : fnB Tryd.prog 68 = true := by kernel_rfl
theorem fk69 : fnB Tryd.prog 69 = true := by kernel_rfl
theorem fk70 : fnB Tryd.prog 70 = true := by kernel_rfl
theorem fk78 : fnB Tryd.prog 78 = true := by kernel_rfl
theorem fk79 : fnB Tryd.prog 79 = true := by kernel_rfl
theorem fk87 : fnB Tryd.prog 87 = true := by kernel_rfl
theorem fk88 : fnB Tryd.prog 88 = true := by kernel_rfl
theorem ist77 : Xx Tryd.prog 77 4 = true := by kernel_rfl
theorem mixed : Tryd.prog.follows .mixedOrders = true := by kernel_rfl
theorem pl119 : Zbs Tryd.prog 119 = some [(0, 4), (4, 1)] := by kernel_rfl
theorem pl77 : Zbs Tryd.prog 77 = some [(0, 1), (1, 1), (2, 1), (3, 1)] := by kernel_rfl
theorem ptr105 : ptrB Tryd.prog 105 = true := by kernel_rfl
theorem sz105 : Zs Tryd.prog 105 = some 1 := by kernel_rfl
theorem sz3 : Zs Tryd.prog 3 = some 1 := by kernel_rfl
theorem sz45 : Zs Tryd.prog 45 = some 1 := by kernel_rfl
theorem sz48 : Zs Tryd.prog 48 = some 1 := by kernel_rfl
theorem sz5 : Zs Tryd.prog 5 = some 1 := by kernel_rfl
theorem sz50 : Zs Tryd.prog 50 = some 1 := by kernel_rfl
theorem sz77 : Zs Tryd.prog 77 = some 4 := by kernel_rfl
theorem sz9 : Zs Tryd.prog 9 = some 1 := by kernel_rfl
theorem sz98 : Zs Tryd.prog 98 = some 4 := by kernel_rfl
theorem un3 : Tryd.prog.underlying 3 = some (.int .i64) := by kernel_rfl
theorem un5 : Tryd.prog.underlying 5 = some (.int .u8) := by kernel_rfl
theorem un9 : Tryd.prog.underlying 9 = some (.string) := by kernel_rfl
theorem zr105 : Yk Tryd.prog 105 = some (.pointer none) := by kernel_rfl
theorem zr119 : Yk Tryd.prog 119 = some (.agg #[.int .i64 0, .int .i64 0, .int .i64 0, .int .i64 0, .slice none 0 0]) := by kernel_rfl
theorem zr5 : Yk Tryd.prog 5 = some (.int .u8 0) := by kernel_rfl
theorem zr50 : Yk Tryd.prog 50 = some (.agg #[.slice none 0 0]) := by kernel_rfl
theorem zr77 : Yk Tryd.prog 77 = some (.agg #[.int .i64 0, .int .i64 0, .int .i64 0, .int .i64 0]) := by kernel_rfl
theorem zr9 : Yk Tryd.prog 9 = some (.string ⟨#[]⟩) := by kernel_rfl
end TExactFormatExpr
open TExactFormatExpr

/-- impl.within -/
theorem Xk {w : World} (n : Int) (a : Int) (b : Int) :
 Ctr Tryd.prog 54 #[(.int .i64 n), (.int .i64 a), (.int .i64 b)] w (fun v w' => v = .bool (decide (a ≤ n ∧ n ≤ b)) ∧ Ch [] w w') := by
 have E := Ch.refl [] w
 refine Zu (N := 15) (vs0 := [(.int .i64 n), (.int .i64 a), (.int .i64 b)]) Tryd.func54 rfl rfl rfl ?_
 refine Zf fun K1 H1 => ?_
 refine Zc (Za rfl rfl (Zd rfl) (Ze (Zb (H1 _ _ ?_))))
 refine Zf fun K2 H2 => ?_
 refine Zc (Za rfl rfl (Zk rfl) (Za rfl rfl (Zk rfl) (Za rfl rfl (Zhq rfl rfl) (Za rfl rfl (Zk rfl) ?_))))
 refine Zy (d := 10) rfl (fun c => ?_) (fun c => ?_)
 ·have e := c
  have c := Zt c
  refine Za rfl rfl (Zk rfl) (Za rfl rfl (Zk rfl) (Za rfl rfl (Zfc rfl rfl) (Za rfl rfl (Zx rfl rfl) (Za rfl rfl (Zd rfl) (Ze (Zb (H2 _ _ ?_)))))))
  refine Zm ?_
  exact Zg [_] ⟨rfl, trivial⟩ ⟨congrArg Value.bool (by first | rfl | (rw [Bool.eq_iff_iff]; simp <;> omega) | (rw [Bool.eq_iff_iff]; simp_all; done) | simp_all), E⟩
 have e := c
 have c := Zv c
 refine Zj rfl rfl (Zj rfl rfl (Zj rfl rfl (Za rfl rfl (Zz rfl rfl) (Za rfl rfl (Zd rfl) (Ze (Zb (H2 _ _ ?_)))))))
 refine Zm ?_
 exact Zg [_] ⟨rfl, trivial⟩ ⟨congrArg Value.bool (by first | rfl | (rw [Bool.eq_iff_iff]; simp <;> omega) | (rw [Bool.eq_iff_iff]; simp_all; done) | simp_all), E⟩

/-- impl.isLetter -/
theorem Qc {w : World} (n : Int) :
 Ctr Tryd.prog 65 #[(.int .i64 n)] w (fun v w' => v = .bool (decide (0 ≤ n ∧ n ≤ 8)) ∧ Ch [] w w') := by
 have E := Ch.refl [] w
 refine Zu (N := 5) (vs0 := [(.int .i64 n)]) Tryd.func65 rfl rfl rfl ?_
 refine Zf fun K1 H1 => ?_
 refine Zc (Za rfl rfl (Zd rfl) (Ze (Zb (H1 _ _ ?_))))
 refine Zf fun K2 H2 => ?_
 refine Zc (Za rfl rfl (Zk rfl) (Zr rfl rfl ?_))
 refine Step.call (Zw (xs := [.tmp 3, .const (Go.Value.int Go.IntKind.i64 0), .const (Go.Value.int Go.IntKind.i64 8)]) fk54 rfl) (Xk _ _ _ ) fun b W3 a => ?_
 obtain ⟨rfl, C3⟩ := a
 have c := C3.size
 have E := E.trans C3
 refine Za rfl rfl (Zd rfl) (Ze (Zb (H2 _ _ ?_)))
 refine Zm ?_
 exact Zg [_] ⟨rfl, trivial⟩ ⟨congrArg Value.bool rfl, E⟩

/-- impl.tokenOk -/
theorem Zbh {w : World} (t : Token) :
 Ctr Tryd.prog 87 #[(.agg #[(.int .i64 t.kind), (.int .i64 t.letter), (.int .i64 t.low), (.int .i64 t.high)])] w (fun v w' => v = .bool (Xd t) ∧ Ch [] w w') := by
 have E := Ch.refl [] w
 refine Zu (N := 48) (vs0 := [(.agg #[(.int .i64 t.kind), (.int .i64 t.letter), (.int .i64 t.low), (.int .i64 t.high)])]) Tryd.func87 rfl rfl rfl ?_
 refine Zf fun K1 H1 => ?_
 refine Zc (Zr rfl rfl ?_)
 refine Yu rfl fun C W2 b C2 Z => ?_
 have aa := C2.size
 have E := E.trans C2
 have ab := b.lt
 replace b : Blk W2 C 77 [(.int .i64 t.kind), (.int .i64 t.letter), (.int .i64 t.low), (.int .i64 t.high)] := b
 refine Za rfl rfl (Zd rfl) (Ze (Zb (H1 _ _ ?_)))
 refine Zf fun K3 H3 => ?_
 refine Zf fun K4 H4 => ?_
 refine Zc (Za rfl rfl (Zh fa77_0 rfl) (Za rfl rfl (Zl b.at_ agg3 rfl rfl) (Ze (Zb (H4 _ _ ?_)))))
 refine Yb ?_
 refine Zf fun K5 H5 => ?_
 refine Zc (Za rfl rfl (Ya rfl rfl) (Za rfl rfl (Zd rfl) (Ze (Zb (H5 _ _ ?_)))))
 refine Zo rfl (fun i => ?_) (fun i => ?_)
 ·have D := i
  have i := Zt i
  refine Zf fun K7 H7 => ?_
  refine Zc (Za rfl rfl (Zh fa77_1 rfl) (Za rfl rfl (Zl b.at_ agg3 rfl rfl) (Zr rfl rfl ?_)))
  refine Step.call (Zw (xs := [.tmp 8]) fk65 rfl) (Qc _ ) fun ac W8 F => ?_
  obtain ⟨rfl, C8⟩ := F
  have ad := C8.size
  have E := E.trans C8
  refine Za rfl rfl (Zk rfl) ?_
  refine Zy (d := 10) rfl (fun c => ?_) (fun c => ?_)
  ·have G := c
   have c := Zt c
   refine Za rfl rfl (Zh fa77_2 rfl) ?_
   have A := b.ch0 C8
   refine Za rfl rfl (Zl A.at_ agg3 rfl rfl) (Za rfl rfl (Ya rfl rfl) (Za rfl rfl (Zx rfl rfl) (Za rfl rfl (Zk rfl) ?_)))
   refine Zy (d := 15) rfl (fun e => ?_) (fun e => ?_)
   ·have o := e
    have e := Zt e
    refine Za rfl rfl (Zh fa77_3 rfl) (Za rfl rfl (Zl A.at_ agg3 rfl rfl) (Za rfl rfl (Ya rfl rfl) (Za rfl rfl (Zx rfl rfl) (Za rfl rfl (Zd rfl) (Ze (Zb (H7 _ _ ?_)))))))
    refine Zm (Zn (Zi ?_))
    exact Zg [_] ⟨rfl, trivial⟩ ⟨congrArg Value.bool (by rw [Bool.eq_iff_iff]; simp only [Xd, decide_eq_true_eq, Bool.false_eq_true, false_iff, true_iff, Bool.and_eq_true, List.cons.injEq, and_true, true_and, Int.not_le]; unfold arT; (repeat' split) <;> omega), E⟩
   have o := e
   have e := Zv e
   refine Zj rfl rfl (Zj rfl rfl (Zj rfl rfl (Za rfl rfl (Zz rfl rfl) (Za rfl rfl (Zd rfl) (Ze (Zb (H7 _ _ ?_)))))))
   refine Zm (Zn (Zi ?_))
   exact Zg [_] ⟨rfl, trivial⟩ ⟨congrArg Value.bool (by rw [Bool.eq_iff_iff]; simp only [Xd, decide_eq_true_eq, Bool.false_eq_true, false_iff, true_iff, Bool.and_eq_true, List.cons.injEq, and_true, true_and, Int.not_le]; unfold arT; (repeat' split) <;> omega), E⟩
  have G := c
  have c := Zv c
  refine Zj rfl rfl (Zj rfl rfl (Zj rfl rfl (Za rfl rfl (Zz rfl rfl) (Za rfl rfl (Zk rfl) (Zj rfl rfl (Zj rfl rfl (Zj rfl rfl ?_)))))))
  refine Za rfl rfl (Zz rfl rfl) (Za rfl rfl (Zd rfl) (Ze (Zb (H7 _ _ ?_))))
  refine Zm (Zn (Zi ?_))
  exact Zg [_] ⟨rfl, trivial⟩ ⟨congrArg Value.bool (by rw [Bool.eq_iff_iff]; simp only [Xd, decide_eq_true_eq, Bool.false_eq_true, false_iff, true_iff, Bool.and_eq_true, List.cons.injEq, and_true, true_and, Int.not_le]; unfold arT; (repeat' split) <;> omega), E⟩
 have D := i
 have i := Zv i
 refine Zf fun ae H => ?_
 refine Zc (Za rfl rfl (Ya rfl rfl) (Za rfl rfl (Zd rfl) (Ze (Zb (H _ _ ?_)))))
 refine Zo rfl (fun f => ?_) (fun f => ?_)
 ·have p := f
  have f := Zt f
  refine Zf fun af q => ?_
  refine Zc (Za rfl rfl (Zh fa77_1 rfl) (Za rfl rfl (Zl b.at_ agg3 rfl rfl) (Za rfl rfl (Ya rfl rfl) (Za rfl rfl (Zk rfl) ?_))))
  refine Zy (d := 25) rfl (fun g => ?_) (fun g => ?_)
  ·have r := g
   have g := Zt g
   refine Za rfl rfl (Zh fa77_2 rfl) (Za rfl rfl (Zl b.at_ agg3 rfl rfl) (Za rfl rfl (Zh fa77_3 rfl) (Za rfl rfl (Zl b.at_ agg3 rfl rfl) (Zr rfl rfl ?_))))
   refine Step.call (Zw (xs := [.tmp 27, .const (Go.Value.int Go.IntKind.i64 0), .tmp 29]) fk54 rfl) (Xk _ _ _ ) fun I ag s => ?_
   obtain ⟨rfl, u⟩ := s
   have J := u.size
   have E := E.trans u
   refine Za rfl rfl (Zx rfl rfl) (Za rfl rfl (Zk rfl) ?_)
   refine Zy (d := 32) rfl (fun h => ?_) (fun h => ?_)
   ·have x := h
    have h := Zt h
    refine Za rfl rfl (Zh fa77_3 rfl) ?_
    have K := b.ch0 u
    refine Za rfl rfl (Zl K.at_ agg3 rfl rfl) (Zr rfl rfl ?_)
    refine Step.call (Zw (xs := [.tmp 34, .const (Go.Value.int Go.IntKind.i64 1), .const (Go.Value.int Go.IntKind.i64 3)]) fk54 rfl) (Xk _ _ _ ) fun L ah y => ?_
    obtain ⟨rfl, B⟩ := y
    have M := B.size
    have E := E.trans B
    refine Za rfl rfl (Zx rfl rfl) (Za rfl rfl (Zd rfl) (Ze (Zb (q _ _ ?_))))
    refine Zm (Zn (Zi ?_))
    exact Zg [_] ⟨rfl, trivial⟩ ⟨congrArg Value.bool (by rw [Bool.eq_iff_iff]; simp only [Xd, decide_eq_true_eq, Bool.false_eq_true, false_iff, true_iff, Bool.and_eq_true, List.cons.injEq, and_true, true_and, Int.not_le]; unfold arT; (repeat' split) <;> omega), E⟩
   have x := h
   have h := Zv h
   refine Zj rfl rfl (Zj rfl rfl (Zj rfl rfl (Za rfl rfl (Zz rfl rfl) (Za rfl rfl (Zd rfl) (Ze (Zb (q _ _ ?_)))))))
   refine Zm (Zn (Zi ?_))
   exact Zg [_] ⟨rfl, trivial⟩ ⟨congrArg Value.bool (by rw [Bool.eq_iff_iff]; simp only [Xd, decide_eq_true_eq, Bool.false_eq_true, false_iff, true_iff, Bool.and_eq_true, List.cons.injEq, and_true, true_and, Int.not_le]; unfold arT; (repeat' split) <;> omega), E⟩
  have r := g
  have g := Zv g
  refine Zj rfl rfl (Zj rfl rfl (Zj rfl rfl (Zj rfl rfl (Zj rfl rfl (Za rfl rfl (Zz rfl rfl) (Za rfl rfl (Zk rfl) (Zj rfl rfl ?_)))))))
  refine Zj rfl rfl (Zj rfl rfl (Za rfl rfl (Zz rfl rfl) (Za rfl rfl (Zd rfl) (Ze (Zb (q _ _ ?_))))))
  refine Zm (Zn (Zi ?_))
  exact Zg [_] ⟨rfl, trivial⟩ ⟨congrArg Value.bool (by rw [Bool.eq_iff_iff]; simp only [Xd, decide_eq_true_eq, Bool.false_eq_true, false_iff, true_iff, Bool.and_eq_true, List.cons.injEq, and_true, true_and, Int.not_le]; unfold arT; (repeat' split) <;> omega), E⟩
 have p := f
 have f := Zv f
 refine Zf fun ai j => ?_
 refine Zf fun aj O => ?_
 refine Zc (Za rfl rfl (Ya rfl rfl) (Za rfl rfl (Zd rfl) (Ze (Zb (O _ _ ?_)))))
 refine Zo rfl (fun a => ?_) (fun a => ?_)
 ·have k := a
  have a := Zt a
  refine Zq ?_
  refine Zb (j _ _ ?_)
  refine Yx rfl k ?_
  refine Zf fun ak P => ?_
  refine Zc (Za rfl rfl (Zp b.at_ agg77 sz77 rfl) (Za rfl rfl (Zh fa77_0 rfl) (Za rfl rfl (Zl b.at_ agg3 rfl rfl) (Za rfl rfl (Qu (parts := [(0, .tmp 45)]) (cells := [(.int .i64 t.kind), (.int .i64 0), (.int .i64 0), (.int .i64 0)]) zr77 pl77 rfl rfl) (Za rfl rfl (Zcm [t.kind, t.letter, t.low, t.high] [t.kind, 0, 0, 0] ist77 rfl rfl rfl) (Za rfl rfl (Zd rfl) (Ze ?_)))))))
  refine Zb (P _ _ ?_)
  refine Zm (Zn (Zi ?_))
  exact Zg [_] ⟨rfl, trivial⟩ ⟨congrArg Value.bool (by rw [Bool.eq_iff_iff]; simp only [Xd, decide_eq_true_eq, Bool.false_eq_true, false_iff, true_iff, Bool.and_eq_true, List.cons.injEq, and_true, true_and, Int.not_le]; unfold arT; (repeat' split) <;> omega), E⟩
 have k := a
 have a := Zv a
 refine Zf fun al Q => ?_
 refine Zc (Za rfl rfl (Ya rfl rfl) (Za rfl rfl (Zd rfl) (Ze (Zb (Q _ _ ?_)))))
 refine Zo rfl (fun a => ?_) (fun a => ?_)
 ·have l := a
  have a := Zt a
  refine Zq ?_
  refine Zb (j _ _ ?_)
  refine Yx rfl l ?_
  refine Zf fun am R => ?_
  refine Zc (Za rfl rfl (Zp b.at_ agg77 sz77 rfl) (Za rfl rfl (Zh fa77_0 rfl) (Za rfl rfl (Zl b.at_ agg3 rfl rfl) (Za rfl rfl (Qu (parts := [(0, .tmp 45)]) (cells := [(.int .i64 t.kind), (.int .i64 0), (.int .i64 0), (.int .i64 0)]) zr77 pl77 rfl rfl) (Za rfl rfl (Zcm [t.kind, t.letter, t.low, t.high] [t.kind, 0, 0, 0] ist77 rfl rfl rfl) (Za rfl rfl (Zd rfl) (Ze ?_)))))))
  refine Zb (R _ _ ?_)
  refine Zm (Zn (Zi ?_))
  exact Zg [_] ⟨rfl, trivial⟩ ⟨congrArg Value.bool (by rw [Bool.eq_iff_iff]; simp only [Xd, decide_eq_true_eq, Bool.false_eq_true, false_iff, true_iff, Bool.and_eq_true, List.cons.injEq, and_true, true_and, Int.not_le]; unfold arT; (repeat' split) <;> omega), E⟩
 have l := a
 have a := Zv a
 refine Zf fun an S => ?_
 refine Zc (Za rfl rfl (Ya rfl rfl) (Za rfl rfl (Zd rfl) (Ze (Zb (S _ _ ?_)))))
 refine Zo rfl (fun a => ?_) (fun a => ?_)
 ·have m := a
  have a := Zt a
  refine Zq ?_
  refine Zb (j _ _ ?_)
  refine Yx rfl m ?_
  refine Zf fun ao T => ?_
  refine Zc (Za rfl rfl (Zp b.at_ agg77 sz77 rfl) (Za rfl rfl (Zh fa77_0 rfl) (Za rfl rfl (Zl b.at_ agg3 rfl rfl) (Za rfl rfl (Qu (parts := [(0, .tmp 45)]) (cells := [(.int .i64 t.kind), (.int .i64 0), (.int .i64 0), (.int .i64 0)]) zr77 pl77 rfl rfl) (Za rfl rfl (Zcm [t.kind, t.letter, t.low, t.high] [t.kind, 0, 0, 0] ist77 rfl rfl rfl) (Za rfl rfl (Zd rfl) (Ze ?_)))))))
  refine Zb (T _ _ ?_)
  refine Zm (Zn (Zi ?_))
  exact Zg [_] ⟨rfl, trivial⟩ ⟨congrArg Value.bool (by rw [Bool.eq_iff_iff]; simp only [Xd, decide_eq_true_eq, Bool.false_eq_true, false_iff, true_iff, Bool.and_eq_true, List.cons.injEq, and_true, true_and, Int.not_le]; unfold arT; (repeat' split) <;> omega), E⟩
 have m := a
 have a := Zv a
 refine Zf fun ap U => ?_
 refine Zc (Za rfl rfl (Ya rfl rfl) (Za rfl rfl (Zd rfl) (Ze (Zb (U _ _ ?_)))))
 refine Zo rfl (fun a => ?_) (fun a => ?_)
 ·have n := a
  have a := Zt a
  refine Zq ?_
  refine Zb (j _ _ ?_)
  refine Yx rfl n ?_
  refine Zf fun aq V => ?_
  refine Zc (Za rfl rfl (Zp b.at_ agg77 sz77 rfl) (Za rfl rfl (Zh fa77_0 rfl) (Za rfl rfl (Zl b.at_ agg3 rfl rfl) (Za rfl rfl (Qu (parts := [(0, .tmp 45)]) (cells := [(.int .i64 t.kind), (.int .i64 0), (.int .i64 0), (.int .i64 0)]) zr77 pl77 rfl rfl) (Za rfl rfl (Zcm [t.kind, t.letter, t.low, t.high] [t.kind, 0, 0, 0] ist77 rfl rfl rfl) (Za rfl rfl (Zd rfl) (Ze ?_)))))))
  refine Zb (V _ _ ?_)
  refine Zm (Zn (Zi ?_))
  exact Zg [_] ⟨rfl, trivial⟩ ⟨congrArg Value.bool (by rw [Bool.eq_iff_iff]; simp only [Xd, decide_eq_true_eq, Bool.false_eq_true, false_iff, true_iff, Bool.and_eq_true, List.cons.injEq, and_true, true_and, Int.not_le]; unfold arT; (repeat' split) <;> omega), E⟩
 have n := a
 have a := Zv a
 refine Zc (Za rfl rfl (Ya rfl rfl) (Za rfl rfl (Zd rfl) (Ze (Zb (j _ _ ?_)))))
 refine Zo rfl (fun a => ?_) (fun a => ?_)
 ·have z := a
  have a := Zt a
  refine Zf fun au X => ?_
  refine Zc (Za rfl rfl (Zp b.at_ agg77 sz77 rfl) (Za rfl rfl (Zh fa77_0 rfl) (Za rfl rfl (Zl b.at_ agg3 rfl rfl) (Za rfl rfl (Qu (parts := [(0, .tmp 45)]) (cells := [(.int .i64 t.kind), (.int .i64 0), (.int .i64 0), (.int .i64 0)]) zr77 pl77 rfl rfl) (Za rfl rfl (Zcm [t.kind, t.letter, t.low, t.high] [t.kind, 0, 0, 0] ist77 rfl rfl rfl) (Za rfl rfl (Zd rfl) (Ze ?_)))))))
  refine Zb (X _ _ ?_)
  refine Zm (Zn (Zi ?_))
  exact Zg [_] ⟨rfl, trivial⟩ ⟨congrArg Value.bool (by rw [Bool.eq_iff_iff]; simp only [Xd, decide_eq_true_eq, Bool.false_eq_true, false_iff, true_iff, Bool.and_eq_true, List.cons.injEq, and_true, true_and, Int.not_le]; unfold arT; (repeat' split) <;> omega), E⟩
 have z := a
 have a := Zv a
 refine Zq ?_
 refine Yc (Zb (H3 _ _ ?_))
 refine Zf fun av Y => ?_
 refine Zc (Za rfl rfl (Zd rfl) (Ze (Zb (Y _ _ ?_))))
 refine Zm ?_
 exact Zg [_] ⟨rfl, trivial⟩ ⟨congrArg Value.bool (by rw [Bool.eq_iff_iff]; simp only [Xd, decide_eq_true_eq, Bool.false_eq_true, false_iff, true_iff, Bool.and_eq_true, List.cons.injEq, and_true, true_and, Int.not_le]; unfold arT; (repeat' split) <;> omega), E⟩

/-- slices.Clone[[]*impl.tree,*impl.tree] -/
theorem Ys {w : World} {LL_s j : Nat} {b : Value} {s : List Addr} (a : Ls acs 1 w LL_s j b s) (hb : s.length ≤ 1048576) :
 Ctr Tryd.prog 88 #[b] w (fun v w' => Ol acs 105 1 w' v (s) ∧ Lo w.heap.size v ∧ Ch [] w w') := by
 obtain ⟨l, m, c⟩ := a.val
 subst c
 have x := a.len
 have a := a.here (by decide)
 have E := Ch.refl [] w
 refine Zu (N := 8) (vs0 := [(.slice l s.length m)]) Tryd.func88 rfl rfl rfl ?_
 refine Zf fun K1 H1 => ?_
 refine Zc (Za rfl rfl (Zd rfl) (Ze (Zb (H1 _ _ ?_))))
 refine Zf fun K2 H2 => ?_
 refine Zf fun K3 H3 => ?_
 refine Zc (Za rfl rfl (Zk rfl) (Za rfl rfl (Zgq (by rw [el115]; rfl) rfl rfl) (Ze (Zb (H3 _ _ ?_)))))
 refine Zo rfl (fun d => ?_) (fun d => ?_)
 ·have y := d
  refine Zf fun K5 H5 => ?_
  refine Zc (Za rfl rfl (Zd rfl) (Ze (Zb (H5 _ _ ?_))))
  refine Zm (Zi ?_)
  have n : Ol acs 105 1 w (.slice none 0 0) (s) := by
   have hx := Ol.nil (cs := acs) (e := 105) (k := 1) w
   first | (have hn := Ls.none a d; subst hn; exact hx) | exact hx
  exact Zg [_] ⟨rfl, trivial⟩ ⟨n, Lo.nil _, E⟩
 have y := d
 refine Zq ?_
 refine Zb (H2 _ _ ?_)
 refine Zf fun K7 H7 => ?_
 refine Zc (Zr rfl rfl ?_)
 refine Xj (k := 1) acs el115 sz105 fun H W8 r f C8 => ?_
 have I := C8.size
 have E := E.trans C8
 obtain ⟨z, A, rfl, B, t⟩ := r.opn
 refine Za rfl rfl (Zk rfl) (Zr rfl rfl ?_)
 have C := a.ch0 C8
 refine Zbu (cs := acs) el115 sz105 by105 zr105 rfl (by decide) Zei r C rfl rfl bd bd f om fun D W9 h o F C9 => ?_
 have J := C9.size
 have E := E.step C9 (fun i hi => .inl (by have K := f _ hi; omega))
 replace h : Ol acs 105 1 W9 D s := h
 obtain ⟨p, q, rfl, G, u⟩ := h.opn
 refine Za rfl rfl (Zd rfl) (Ze (Zb (H7 _ _ ?_)))
 refine Zm ?_
 have g : Ol acs 105 1 W9 (.slice p (s).length q) (s) := by
  have hx := h
  first | (have hn := Ls.none a d; subst hn; exact hx) | exact hx
 exact Zg [_] ⟨rfl, trivial⟩ ⟨g, Lo.down o om, E⟩

/-- impl.treeOf -/
theorem Zcb {w : World} {LL_e ao : Nat} {O : Value} {e : List Token} (u : Ls Token.cs 4 w LL_e ao O e) (hb : e.length ≤ 1048576) :
 Ctr Tryd.prog 79 #[(.agg #[O])] w (fun v w' => ((Yw e) = none ∧ v = .pointer none ∨ ∃ t p, (Yw e) = some t ∧ v = .pointer (some p) ∧ TrAt w' w.heap.size w'.heap.size p t) ∧ Ch [] w w') := by
 obtain ⟨z, A, P⟩ := u.val
 subst P
 have a6 := u.len
 have u := u.here (by decide)
 have E := Ch.refl [] w
 refine Zu (N := 56) (vs0 := [(.agg #[(.slice z e.length A)])]) Tryd.func79 rfl rfl rfl ?_
 refine Zf fun K1 H1 => ?_
 refine Zc (Zr rfl rfl ?_)
 refine Yu rfl fun a7 W2 ak C2 b4 => ?_
 have b5 := C2.size
 have E := E.trans C2
 have b6 := ak.lt
 replace ak : Blk W2 a7 50 [(.slice z e.length A)] := ak
 refine Za rfl rfl (Zd rfl) (Ze (Zb (H1 _ _ ?_)))
 refine Zf fun K3 H3 => ?_
 refine Zc (Zr rfl rfl ?_)
 refine Xj (k := 1) acs el115 sz105 fun b7 W4 aL ap C4 => ?_
 have b8 := C4.size
 have E := E.trans C4
 obtain ⟨Q, R, rfl, a8, aM⟩ := aL.opn
 refine Za rfl rfl (Zd rfl) (Ze (Zb (H3 _ _ ?_)))
 refine Zf fun K5 H5 => ?_
 refine Zf fun K6 H6 => ?_
 refine Zc (Za rfl rfl (Zh fa50_0 rfl) ?_)
 have F7 := ak.ch0 C4
 refine Za rfl rfl (Zl F7.at_ agg48 rfl rfl) (Za rfl rfl (Xg (by rw [el48]; rfl) rfl) (Za rfl rfl (Zk rfl) (Ze (Zb (H6 _ _ ?_)))))
 refine Yb ?_
 have S : Ol acs 105 1 W4 (.slice Q (([] : List Addr)).length R) (([] : List Addr)) := by
  have hx := aL
  exact hx
 refine Zaq (σ := Nat × List Addr × List Tr × Value) (fun ⟨i, ps, st, sv⟩ => [(3, sv), (11, (.slice z e.length A)), (12, (.int .i64 ((e.length : Nat) : Int))), (13, (.int .i64 ((i : Nat) : Int)))]) (fun ⟨i, ps, st, sv⟩ wx => Ch [] w wx ∧ W4.heap.size ≤ wx.heap.size ∧ (i ≤ e.length) ∧ (ps.length = st.length) ∧ (st.length ≤ i) ∧ (prs [] (e.take i) = some st) ∧ Ol acs 105 1 wx sv ps ∧ Lo W2.heap.size sv ∧ Tks wx w.heap.size sv ps st) (fun ⟨i, ps, st, sv⟩ => e.length - i) (0, ([] : List Addr), ([] : List Tr), (.slice Q (([] : List Addr)).length R)) (sC4 rfl rfl rfl rfl (Sub.nil _)) ⟨E, (Nat.le_refl _), om, rfl, (Nat.le_refl _), rfl, S, ap, (Tks.nil _ _ _)⟩ ?_
 rintro ⟨i, ps, st, sv⟩ R9 ⟨E, a9, hi, hl, hs, hp, x, m, tks⟩
 have T := E
 have aN := T.size
 obtain ⟨Asv, Csv, rfl, lsv, hisv⟩ := x.opn
 refine Zf fun b9 ba => ?_
 refine Zc (Za rfl rfl (Xo rfl rfl) (Ze (Zb (ba _ _ ?_))))
 refine Zf fun ca aO => ?_
 refine Zo rfl (fun n => ?_) (fun n => ?_)
 ·have aq := n
  have n := Zt n
  refine Zq ?_
  refine Zb (aO _ _ ?_)
  refine Zf fun cb au => ?_
  refine Yb ?_
  refine Zf fun cc bb => ?_
  refine Zc (Zr rfl rfl ?_)
  have bc := u.ch0 T
  refine (Yz bc Token.len el48 sz77 rfl rfl rfl om fun av a r aw => ?_)
  have cd := Zhf a.kind
  refine Za rfl rfl (Zp aw agg77 sz77 rfl) (Zr rfl rfl ?_)
  refine Xv zr77 fun ax be al am ce => ?_
  have bf := am.size
  have E := E.trans am
  have cf := al.lt
  replace al : Blk be ax 77 [(.int .i64 0), (.int .i64 0), (.int .i64 0), (.int .i64 0)] := al
  refine Zr rfl rfl ?_
  refine Qk (off := 0) 4 al sz77 rfl (us := [(.int .i64 a.kind), (.int .i64 a.letter), (.int .i64 a.low), (.int .i64 a.high)]) rfl rfl rfl rfl fun aP h an => ?_
  have bg := an.size
  have E := E.step an (lS om)
  replace h : Blk aP ax 77 [(.int .i64 a.kind), (.int .i64 a.letter), (.int .i64 a.low), (.int .i64 a.high)] := h
  refine Ze (Zb (bb _ _ ?_))
  refine Zf fun cg bh => ?_
  refine Zc (Za rfl rfl (Zd rfl) (Ze (Zb (bh _ _ ?_))))
  refine Zf fun bi bj => ?_
  have l : ∀ (lj : KL), Go.KLib.Sub [(3, (.slice Asv (ps).length Csv)), (5, (.pointer (some ⟨ax, 0, none⟩))), (6, (.int .i64 (arK a.kind))), (11, (.slice z e.length A)), (12, (.int .i64 ((e.length : Nat) : Int))), (13, (.int .i64 ((i : Nat) : Int))), (14, (.bool (decide (((i : Nat) : Int) < ((e.length : Nat) : Int))))), (15, (.pointer (some av))), (16, (.agg #[(.int .i64 a.kind), (.int .i64 a.letter), (.int .i64 a.low), (.int .i64 a.high)]))] lj → bi lj aP := by
   intro lj U
   refine bj _ _ (Ziy U ?_)
   refine Zf fun ci bk => ?_
   refine Zc (Za rfl rfl (Zk rfl) (Za rfl rfl (Xg (by rw [el115]; rfl) rfl) (Za rfl rfl (Zk rfl) (Za rfl rfl (Zgl om rfl rfl) (Za rfl rfl (Zd rfl) (Ze (Zb (bk _ _ ?_))))))))
   refine Zf fun cj ay => ?_
   refine Zf fun ck aQ => ?_
   refine Zc (Za rfl rfl (Zp h.at_ agg77 sz77 rfl) (Zr rfl rfl ?_))
   refine Step.call (Zw (xs := [.tmp 29]) fk87 rfl) (Zbh a ) fun bm cl az => ?_
   obtain ⟨rfl, V⟩ := az
   have bn := V.size
   have E := E.trans V
   refine Za rfl rfl (Qf rfl) (Za rfl rfl (Zk rfl) ?_)
   refine Zy (d := 32) rfl (fun f => ?_) (fun f => ?_)
   ·have aA := f
    have f := Yo f
    refine Zj rfl rfl (Zj rfl rfl (Za rfl rfl (Zx rfl rfl) (Ze (Zb (aQ _ _ ?_)))))
    refine Yg rfl ?_
    refine Zf fun cm bp => ?_
    refine Zc (Za rfl rfl (Zd rfl) (Ze (Zb (bp _ _ ?_))))
    refine Zm (Zi (Zn (Zi (Zi (Zn (Zi ?_))))))
    clear H5 au ay
    exact Zg [_] ⟨rfl, trivial⟩ ⟨.inl ⟨(by first | exact Zac hp om om | exact Zbn hp r (Zbv (by first | exact .inl f | (right; omega)))), rfl⟩, E⟩
   have aA := f
   have f := Yn f
   refine Za rfl rfl (Zk rfl) (Za rfl rfl (Xo rfl rfl) (Za rfl rfl (Zz rfl rfl) (Ze (Zb (aQ _ _ ?_)))))
   refine Zo rfl (fun o => ?_) (fun o => ?_)
   ·have aB := o
    have o := Zt o
    refine Zf fun cn bq => ?_
    refine Zc (Za rfl rfl (Zd rfl) (Ze (Zb (bq _ _ ?_))))
    refine Zm (Zi (Zn (Zi (Zi (Zn (Zi ?_))))))
    clear H5 au ay
    exact Zg [_] ⟨rfl, trivial⟩ ⟨.inl ⟨(by first | exact Zac hp om om | exact Zbn hp r (Zbv (by first | exact .inl f | (right; omega)))), rfl⟩, E⟩
   have aB := o
   have o := Zv o
   refine Zq ?_
   refine Zb (ay _ _ ?_)
   refine Zf fun co br => ?_
   refine Zat [] 8 mixed rfl fun aR X => ?_
   have bs := X.size
   have E := E.trans X
   have bu := (h.ch0 V).ch0 X
   refine dT 0 rfl rfl rfl (Xe bu.at_ (fun i hi => absurd hi List.not_mem_nil) agg77 sz77 rfl ?_)
   refine dV 1 rfl rfl rfl (fun _ => Zk rfl) (dV 2 rfl rfl rfl (fun _ => Zk rfl) ?_)
   have aS := (((x.ch0 am).ch an (dS m hisv om)).ch0 V).ch0 X
   refine dT 3 rfl rfl rfl (Zii (ys := (ps.drop ((((ps.length : Nat) : Int) - (arK a.kind)).toNat))) ((((ps.length : Nat) : Int) - (arK a.kind)).toNat) ps.length aS Zcw el115 sz105 rfl ⟨_, _, rfl, by omega⟩ rfl om om (Zgr _ _) fun bv Y aT aU => ?_)
   obtain ⟨bw, bx, rfl, bz, bA⟩ := Y.opn
   refine dO 4 (DO_s rfl rfl rfl ?_)
   refine Step.call (Zw (xs := [.tmp 39]) fk88 rfl) (Ys Y.ls om) fun bB bC B => ?_
   obtain ⟨B, Z, aa⟩ := B
   have bD := aa.size
   have E := E.trans aa
   obtain ⟨D, F, rfl, aV, aC⟩ := B.opn
   have G : Ch [] aR bC := ((Ch.refl _ _).trans aa)
   refine ⟨G, ?_⟩
   refine dV 5 rfl rfl rfl (fun _ => Qu (parts := [(0, .tmp 36), (1, .tmp 40)]) (cells := [(.int .i64 a.kind), (.int .i64 a.letter), (.int .i64 a.low), (.int .i64 a.high), (.slice D ((ps.drop ((((ps.length : Nat) : Int) - (arK a.kind)).toNat))).length F)]) zr119 pl119 rfl rfl) (dO 6 (DO_s rfl rfl rfl ?_))
   refine Yu rfl fun s aW C L bE => ?_
   have bF := L.size
   have E := E.trans L
   have bG := C.lt
   replace C : Blk aW s 119 [(.int .i64 a.kind), (.int .i64 a.letter), (.int .i64 a.low), (.int .i64 a.high), (.slice D ((ps.drop ((((ps.length : Nat) : Int) - (arK a.kind)).toNat))).length F)] := C
   have ab : Ch [] aR aW := (G.trans L)
   refine ⟨ab, ?_⟩
   refine dV 7 rfl rfl rfl (fun _ => Zd rfl) ?_
   refine Zar (by kernel_rfl) ?_
   refine Zb (br _ _ (Zc (Za rfl rfl (Zk rfl) (Za rfl rfl (Zk rfl) (Zr rfl rfl ?_)))))
   have bH := (aS.ch0 aa).ch0 L
   refine (Zif (ys := (ps.take ((((ps.length : Nat) : Int) - (arK a.kind)).toNat))) 0 ((((ps.length : Nat) : Int) - (arK a.kind)).toNat) bH Zcw el115 sz105 rfl rfl ⟨_, _, rfl, by omega⟩ om om rfl fun bI ac y aX => ?_)
   obtain ⟨bJ, bK, rfl, bL, bM⟩ := ac.opn
   refine Za rfl rfl (Zk rfl) (Zr rfl rfl ?_)
   refine Zch (parts := [(0, .tmp 46)]) [(⟨s, 0, none⟩ : Addr)] el115 sz105 zr105 rfl rfl (by decide) (by decide) rfl fun bN cp ad aY M => ?_
   have bO := M.size
   have E := E.trans M
   obtain ⟨aZ, a0, rfl, a1, aD⟩ := ad.opn
   refine Zr rfl rfl ?_
   have bP := ac.ch0 M
   refine Zbu (cs := acs) el115 sz105 by105 zr105 rfl (by decide) Zei bP ad.ls rfl rfl bd bd (fun g hg => m g (y ▸ hg)) om fun bQ bR ae af ag aE => ?_
   have bS := aE.size
   have E := E.step aE (fun i hi => .inl (by have bT := (fun g hg => m g (y ▸ hg)) _ hi; omega))
   obtain ⟨H, I, rfl, a2, aF⟩ := ae.opn
   refine Za rfl rfl (Zd rfl) (Ze (Yc (Zb (au _ _ (Zc (Za rfl rfl (Zbg om rfl rfl) (Za rfl rfl (Zk rfl) (Ze ?_))))))))
   have bU := C.ch0 M
   have bV := (B.ch0 L).ch0 M
   obtain ⟨s2, bW, k2, j2⟩ := Tks.push (tok := a) tks om hisv ((((((((Ch.refl [] R9).trans am).step an (lS om)).trans V).trans X).trans aa).trans L).trans M) bU om bV (fun g hg => by have bT := Z g hg; omega) y aE ag (Zt f) om
   have J : Ol acs 105 1 bR (.slice H (((ps.take ((((ps.length : Nat) : Int) - (arK a.kind)).toNat)) ++ [(⟨s, 0, none⟩ : Addr)])).length I) (((ps.take ((((ps.length : Nat) : Int) - (arK a.kind)).toNat)) ++ [(⟨s, 0, none⟩ : Addr)])) := by
    have hx := ae
    exact hx
   exact Zb (Exists.intro ((i + 1), ((ps.take ((((ps.length : Nat) : Int) - (arK a.kind)).toNat)) ++ [(⟨s, 0, none⟩ : Addr)]), s2, (.slice H (((ps.take ((((ps.length : Nat) : Int) - (arK a.kind)).toNat)) ++ [(⟨s, 0, none⟩ : Addr)])).length I)) ⟨⟨E, om, om, (by simp only [List.length_append, List.length_take, List.length_singleton]; omega), om, ((Zbz hp r).trans bW), J, (Lo.down af om), k2⟩, sC4 rfl rfl rfl rfl (Sub.nil _), (by first | omega | (dsimp only; omega))⟩)
  refine Zf fun cq bX => ?_
  refine Zc (Za rfl rfl (Zh fa77_0 rfl) (Za rfl rfl (Zl h.at_ agg3 rfl rfl) (Ze (Zb (bX _ _ ?_)))))
  refine Yb ?_
  refine Zf fun cr a3 => ?_
  refine Zf fun ct bY => ?_
  refine Zc (Za rfl rfl (Ya rfl rfl) (Za rfl rfl (Zd rfl) (Ze (Zb (bY _ _ ?_)))))
  refine Zo rfl (fun b => ?_) (fun b => ?_)
  ·have ah := b
   have b := Zt b
   refine Zq ?_
   refine Zb (a3 _ _ ?_)
   refine Yx rfl ah ?_
   refine Zc (Za rfl rfl (Zd rfl) (Ze (Yc (Zb ?_))))
   exact l _ (Sub.cons rfl (Sub.cons rfl (Sub.cons (by unfold arK; first | rfl | (repeat (first | rw [if_pos om] | rw [if_neg om])) <;> rfl) (sC4 rfl rfl rfl rfl (sC2 rfl rfl (Sub.nil _))))))
  have ah := b
  have b := Zv b
  refine Zc (Za rfl rfl (Ya rfl rfl) (Za rfl rfl (Zd rfl) (Ze (Zb (a3 _ _ ?_)))))
  refine Zo rfl (fun b => ?_) (fun b => ?_)
  ·have aG := b
   have b := Zt b
   refine Zc (Za rfl rfl (Zd rfl) (Ze (Yc (Zb ?_))))
   exact l _ (Sub.cons rfl (Sub.cons rfl (Sub.cons (by unfold arK; first | rfl | (repeat (first | rw [if_pos om] | rw [if_neg om])) <;> rfl) (sC4 rfl rfl rfl rfl (sC2 rfl rfl (Sub.nil _))))))
  have aG := b
  have b := Zv b
  refine Zf fun cu a4 => ?_
  refine Zf fun cv bZ => ?_
  refine Zc (Za rfl rfl (Ya rfl rfl) (Za rfl rfl (Zd rfl) (Ze (Zb (bZ _ _ ?_)))))
  refine Zo rfl (fun c => ?_) (fun c => ?_)
  ·have ai := c
   have c := Zt c
   refine Zq ?_
   refine Zb (a4 _ _ ?_)
   refine Yx rfl ai ?_
   refine Zc (Za rfl rfl (Zd rfl) (Ze (Yc (Zb ?_))))
   exact l _ (Sub.cons rfl (Sub.cons rfl (Sub.cons (by unfold arK; first | rfl | (repeat (first | rw [if_pos om] | rw [if_neg om])) <;> rfl) (sC4 rfl rfl rfl rfl (sC2 rfl rfl (Sub.nil _))))))
  have ai := c
  have c := Zv c
  refine Zc (Za rfl rfl (Ya rfl rfl) (Za rfl rfl (Zd rfl) (Ze (Zb (a4 _ _ ?_)))))
  refine Zo rfl (fun c => ?_) (fun c => ?_)
  ·have aH := c
   have c := Zt c
   refine Zc (Za rfl rfl (Zd rfl) (Ze (Yc (Zb ?_))))
   exact l _ (Sub.cons rfl (Sub.cons rfl (Sub.cons (by unfold arK; first | rfl | (repeat (first | rw [if_pos om] | rw [if_neg om])) <;> rfl) (sC4 rfl rfl rfl rfl (sC2 rfl rfl (Sub.nil _))))))
  have aH := c
  have c := Zv c
  refine Zq ?_
  refine Yc (Zb ?_)
  exact l _ (Sub.cons rfl (Sub.cons rfl (Sub.cons (by unfold arK; first | rfl | (repeat (first | rw [if_pos om] | rw [if_neg om])) <;> rfl) (sC4 rfl rfl rfl rfl (sC2 rfl rfl (Sub.nil _))))))
 have aq := n
 have n := Zv n
 refine Zap (Yh (Yh (Xu ?_)))
 refine Zb (H5 _ _ ?_)
 refine Zf fun cw a5 => ?_
 refine Zf fun cx b0 => ?_
 refine Zc (Za rfl rfl (Zk rfl) (Za rfl rfl (Xg (by rw [el115]; rfl) rfl) (Za rfl rfl (Ym rfl rfl) (Ze (Zb (b0 _ _ ?_))))))
 refine Zo rfl (fun q => ?_) (fun q => ?_)
 ·have aI := q
  have q := Zv (Yo q)
  refine Zf fun cy b1 => ?_
  refine Zc (Za rfl rfl (Zd rfl) (Ze (Zb (b1 _ _ ?_))))
  refine Zm (Zi ?_)
  clear aO a5
  exact Zg [_] ⟨rfl, trivial⟩ ⟨.inl ⟨(by first | exact Zac hp om om | exact Zbn hp r (Zbv (by first | exact .inl f | (right; omega)))), rfl⟩, E⟩
 have aI := q
 have q := Zt (Yn q)
 refine Zq ?_
 refine Zb (a5 _ _ ?_)
 refine Zf fun cz b2 => ?_
 refine Zc (Za rfl rfl (Zk rfl) (Zr rfl rfl ?_))
 refine (Yz (j := 0) x.ls Zcw el115 sz105 rfl rfl rfl om fun aJ aK aj K => ?_)
 replace K : At R9 0 R9.heap.size aJ ([(.pointer (some aK))]) := K
 obtain ⟨cA, b3, k9⟩ := tks.one om aj
 subst b3
 refine Za rfl rfl (Zav K agg105 rfl rfl) (Za rfl rfl (Zd rfl) (Ze (Zb (b2 _ _ ?_))))
 refine Zm ?_
 exact Zg [_] ⟨rfl, trivial⟩ ⟨.inr ⟨_, _, (Zdm hp om), rfl, k9⟩, E⟩

/-- impl.IsExpr -/
theorem Zca {w : World} {LL_e k : Nat} {c : Value} {e : List Token} (a : Ls Token.cs 4 w LL_e k c e) (hb : e.length ≤ 1048576) :
 Ctr Tryd.prog 69 #[(.agg #[c])] w (fun v w' => v = .bool (isE e) ∧ Ch [] w w') := by
 obtain ⟨d, f, g⟩ := a.val
 subst g
 have q := a.len
 have a := a.here (by decide)
 have E := Ch.refl [] w
 refine Zu (N := 6) (vs0 := [(.agg #[(.slice d e.length f)])]) Tryd.func69 rfl rfl rfl ?_
 refine Zf fun K1 H1 => ?_
 refine Zc (Zr rfl rfl ?_)
 refine Yu rfl fun r W2 j C2 y => ?_
 have z := C2.size
 have E := E.trans C2
 have A := j.lt
 replace j : Blk W2 r 50 [(.slice d e.length f)] := j
 refine Za rfl rfl (Zd rfl) (Ze (Zb (H1 _ _ ?_)))
 refine Zf fun K3 H3 => ?_
 refine Zc (Za rfl rfl (Zp j.at_ agg50 sz50 rfl) (Zr rfl rfl ?_))
 have F4 := a.ch0 C2
 refine Step.call (Zw (xs := [.tmp 3]) fk79 rfl) (Zcb F4 om) fun B W5 l => ?_
 obtain ⟨l, C5⟩ := l
 have C := C5.size
 have E := E.trans C5
 rcases l with ⟨h, rfl⟩ | ⟨s, t, h, rfl, b⟩
 ·refine Za rfl rfl (Zgd ptr105 rfl rfl) ?_
  refine Za rfl rfl (Zd rfl) (Ze (Zb (H3 _ _ ?_)))
  refine Zm ?_
  exact Zg [_] ⟨rfl, trivial⟩ ⟨congrArg Value.bool (by first | exact Zdi h | exact Qg h), E⟩
 replace b : TrAt W5 W2.heap.size W5.heap.size t s := b
 obtain ⟨u, x, m, n, o, i⟩ := b.open
 have p := i.1
 refine Za rfl rfl (Zgd ptr105 rfl rfl) (Za rfl rfl (Zd rfl) (Ze (Zb (H3 _ _ ?_))))
 refine Zm ?_
 exact Zg [_] ⟨rfl, trivial⟩ ⟨congrArg Value.bool (by first | exact Zdi h | exact Qg h), E⟩

/-- impl.IsValidExpr -/
theorem Zaa {w : World} {LL_e j : Nat} {c : Value} {e : List Token} (a : Ls Token.cs 4 w LL_e j c e) (hb : e.length ≤ 1048576) :
 Ctr Tryd.prog 49 #[(.agg #[c])] w (fun v w' => v = .bool (ivE e) ∧ Ch [] w w') := by
 obtain ⟨f, g, h⟩ := a.val
 subst h
 have k := a.len
 have a := a.here (by decide)
 have E := Ch.refl [] w
 refine Zu (N := 11) (vs0 := [(.agg #[(.slice f e.length g)])]) Tryd.func49 rfl rfl rfl ?_
 refine Zf fun K1 H1 => ?_
 refine Zc (Zr rfl rfl ?_)
 refine Yu rfl fun l W2 i C2 o => ?_
 have p := C2.size
 have E := E.trans C2
 have q := i.lt
 replace i : Blk W2 l 50 [(.slice f e.length g)] := i
 refine Za rfl rfl (Zd rfl) (Ze (Zb (H1 _ _ ?_)))
 refine Zf fun K3 H3 => ?_
 refine Zc (Za rfl rfl (Zh fa50_0 rfl) (Za rfl rfl (Zl i.at_ agg48 rfl rfl) (Za rfl rfl (Xg (by rw [el48]; rfl) rfl) (Za rfl rfl (Zfc rfl rfl) (Za rfl rfl (Zk rfl) ?_)))))
 refine Zy (d := 7) rfl (fun b => ?_) (fun b => ?_)
 ·have m := b
  have b := Zt b
  refine Za rfl rfl (Zp i.at_ agg50 sz50 rfl) (Zr rfl rfl ?_)
  have F5 := a.ch0 C2
  refine Step.call (Zw (xs := [.tmp 8]) fk69 rfl) (Zca F5 om) fun r W6 n => ?_
  obtain ⟨rfl, C6⟩ := n
  have s := C6.size
  have E := E.trans C6
  refine Za rfl rfl (Zx rfl rfl) (Za rfl rfl (Zd rfl) (Ze (Zb (H3 _ _ ?_))))
  refine Zm ?_
  exact Zg [_] ⟨rfl, trivial⟩ ⟨congrArg Value.bool (by unfold ivE; first | (rw [decide_eq_true om]; rfl) | (rw [decide_eq_false om]; rfl)), E⟩
 have m := b
 have b := Zv b
 refine Zj rfl rfl (Zj rfl rfl (Za rfl rfl (Zz rfl rfl) (Za rfl rfl (Zd rfl) (Ze (Zb (H3 _ _ ?_))))))
 refine Zm ?_
 exact Zg [_] ⟨rfl, trivial⟩ ⟨congrArg Value.bool (by unfold ivE; first | (rw [decide_eq_true om]; rfl) | (rw [decide_eq_false om]; rfl)), E⟩

shelf_lay Lays.n171 Nm 171 at Tryd as lay_171_56
/-- strconv.Itoa -/
theorem Zbl {w : World} (n : Int) (h : 0 ≤ n ∧ n < 100) :
 Ctr Tryd.prog 56 #[(.int .i64 n)] w (fun v w' => v = bst (Ql n) ∧ Ch [] w w') := by
 exact Zfj lay_171_56 h

/-- impl.FormatInt -/
theorem Xn {w : World} (n : Int) (h : 0 ≤ n ∧ n < 100) :
 Ctr Tryd.prog 30 #[(.int .i64 n)] w (fun v w' => v = bst (Ql n) ∧ Ch [] w w') := by
 have E := Ch.refl [] w
 refine Zu (N := 5) (vs0 := [(.int .i64 n)]) Tryd.func30 rfl rfl rfl ?_
 refine Zf fun K1 H1 => ?_
 refine Zc (Za rfl rfl (Zd rfl) (Ze (Zb (H1 _ _ ?_))))
 refine Zf fun K2 H2 => ?_
 refine Zc (Za rfl rfl (Zk rfl) (Zr rfl rfl ?_))
 refine Step.call (Zw (xs := [.tmp 3]) fk56 rfl) (Zbl _ h) fun b W3 a => ?_
 obtain ⟨rfl, C3⟩ := a
 have c := C3.size
 have E := E.trans C3
 refine Za rfl rfl (Zd rfl) (Ze (Zb (H2 _ _ ?_)))
 refine Zm ?_
 exact Zg [_] ⟨rfl, trivial⟩ ⟨congrArg bst (by first | rfl | simp_all), E⟩

/-- impl.FormatLetter -/
theorem Qz {w : World} (n : Int) :
 Ctr Tryd.prog 42 #[(.int .i64 n)] w (fun v w' => v = bst (fmtL n) ∧ Ch [] w w') := by
 have E := Ch.refl [] w
 refine Zu (N := 10) (vs0 := [(.int .i64 n)]) Tryd.func42 rfl rfl rfl ?_
 refine Zf fun K1 H1 => ?_
 refine Zc (Za rfl rfl (Zd rfl) (Ze (Zb (H1 _ _ ?_))))
 refine Zf fun K2 H2 => ?_
 refine Zf fun K3 H3 => ?_
 refine Zc (Za rfl rfl (Zk rfl) (Zr rfl rfl ?_))
 refine Step.call (Zw (xs := [.tmp 3]) fk65 rfl) (Qc _ ) fun m W4 e => ?_
 obtain ⟨rfl, C4⟩ := e
 have o := C4.size
 have E := E.trans C4
 refine Za rfl rfl (Qf rfl) (Ze (Zb (H3 _ _ ?_)))
 refine Zo rfl (fun a => ?_) (fun a => ?_)
 ·have f := a
  have a := Zv (Yo a)
  refine Zf fun K6 H6 => ?_
  refine Zc (Za rfl rfl (Zd rfl) (Ze (Zb (H6 _ _ ?_))))
  refine Zm (Zi ?_)
  exact Zg [_] ⟨rfl, trivial⟩ ⟨congrArg bst (Zga om), E⟩
 have f := a
 have a := Zt (Yn a)
 refine Zq ?_
 refine Zb (H2 _ _ ?_)
 refine Zf fun K7 H7 => ?_
 refine Zc (Zr rfl rfl ?_)
 refine Yp (cs := scs) (parts := [(0, .const (Go.Value.string { data := #[97] })), (1, .const (Go.Value.string { data := #[97, 45] })), (2, .const (Go.Value.string { data := #[98] })), (3, .const (Go.Value.string { data := #[98, 45] })), (4, .const (Go.Value.string { data := #[99] })), (5, .const (Go.Value.string { data := #[99, 45] })), (6, .const (Go.Value.string { data := #[48] })), (7, .const (Go.Value.string { data := #[49] })), (8, .const (Go.Value.string { data := #[50] }))]) ([] : List UInt8) [[97], [97, 45], [98], [98, 45], [99], [99, 45], [48], [49], [50]] el60 sz9 zr9 Zas (by decide) rfl rfl rfl (by decide) (by decide) rfl fun p W8 c g C8 => ?_
 have q := C8.size
 have E := E.trans C8
 obtain ⟨h, i, rfl, k, d⟩ := c.opn
 refine Za rfl rfl (Zk rfl) (Zr rfl rfl ?_)
 refine (Yz (j := n.toNat) c.ls Zas el60 sz9 rfl rfl om (by first | omega | (simp; omega)) fun r s b l => ?_)
 refine Za rfl rfl (Zav l agg9 rfl rfl) (Za rfl rfl (Zd rfl) (Ze (Zb (H7 _ _ ?_))))
 refine Zm ?_
 exact Zg [_] ⟨rfl, trivial⟩ ⟨congrArg bst (Zgf om b), E⟩

/-- impl.tokenText -/
theorem Zaj {w : World} (t : Token) (hl : 0 ≤ t.low ∧ t.low < 100) (hh : 0 ≤ t.high ∧ t.high < 100) :
 Ctr Tryd.prog 50 #[(.agg #[(.int .i64 t.kind), (.int .i64 t.letter), (.int .i64 t.low), (.int .i64 t.high)])] w (fun v w' => v = bst (Yq t) ∧ Ch [] w w') := by
 have E := Ch.refl [] w
 have Z := Xp t.low; have aa := Xp t.high
 refine Zu (N := 30) (vs0 := [(.agg #[(.int .i64 t.kind), (.int .i64 t.letter), (.int .i64 t.low), (.int .i64 t.high)])]) Tryd.func50 rfl rfl rfl ?_
 refine Zf fun K1 H1 => ?_
 refine Zc (Zr rfl rfl ?_)
 refine Yu rfl fun A W2 h C2 ab => ?_
 have ac := C2.size
 have E := E.trans C2
 have ad := h.lt
 replace h : Blk W2 A 77 [(.int .i64 t.kind), (.int .i64 t.letter), (.int .i64 t.low), (.int .i64 t.high)] := h
 refine Za rfl rfl (Zd rfl) (Ze (Zb (H1 _ _ ?_)))
 refine Zf fun K3 H3 => ?_
 refine Zf fun K4 H4 => ?_
 refine Zc (Za rfl rfl (Zh fa77_0 rfl) (Za rfl rfl (Zl h.at_ agg3 rfl rfl) (Ze (Zb (H4 _ _ ?_)))))
 refine Yb ?_
 refine Zf fun K5 H5 => ?_
 refine Zc (Za rfl rfl (Ya rfl rfl) (Za rfl rfl (Zd rfl) (Ze (Zb (H5 _ _ ?_)))))
 refine Zo rfl (fun d => ?_) (fun d => ?_)
 ·have B := d
  have d := Zt d
  refine Zf fun K7 H7 => ?_
  refine Zc (Za rfl rfl (Zd rfl) (Ze (Zb (H7 _ _ ?_))))
  refine Zm (Zn (Zi ?_))
  exact Zg [_] ⟨rfl, trivial⟩ ⟨congrArg bst (by unfold Yq; rw [if_pos d]), E⟩
 have B := d
 have d := Zv d
 refine Zf fun K8 H8 => ?_
 refine Zc (Za rfl rfl (Ya rfl rfl) (Za rfl rfl (Zd rfl) (Ze (Zb (H8 _ _ ?_)))))
 refine Zo rfl (fun e => ?_) (fun e => ?_)
 ·have C := e
  have e := Zt e
  refine Zf fun ae D => ?_
  refine Zc (Za rfl rfl (Zd rfl) (Ze (Zb (D _ _ ?_))))
  refine Zm (Zn (Zi ?_))
  exact Zg [_] ⟨rfl, trivial⟩ ⟨congrArg bst (by unfold Yq; rw [if_neg d, if_pos e]), E⟩
 have C := e
 have e := Zv e
 refine Zf fun af F => ?_
 refine Zc (Za rfl rfl (Ya rfl rfl) (Za rfl rfl (Zd rfl) (Ze (Zb (F _ _ ?_)))))
 refine Zo rfl (fun f => ?_) (fun f => ?_)
 ·have k := f
  have f := Zt f
  refine Zf fun ag G => ?_
  refine Zc (Za rfl rfl (Zh fa77_1 rfl) (Za rfl rfl (Zl h.at_ agg3 rfl rfl) (Zr rfl rfl ?_)))
  refine Step.call (Zw (xs := [.tmp 12]) fk42 rfl) (Qz _ ) fun H ah l => ?_
  obtain ⟨rfl, x⟩ := l
  have I := x.size
  have E := E.trans x
  refine Za rfl rfl (Zd rfl) (Ze (Zb (G _ _ ?_)))
  refine Zm (Zn (Zi ?_))
  exact Zg [_] ⟨rfl, trivial⟩ ⟨congrArg bst (by unfold Yq; rw [if_neg d, if_neg e, if_pos f]), E⟩
 have k := f
 have f := Zv f
 refine Zf fun ai J => ?_
 refine Zc (Za rfl rfl (Ya rfl rfl) (Za rfl rfl (Zd rfl) (Ze (Zb (J _ _ ?_)))))
 refine Zo rfl (fun a => ?_) (fun a => ?_)
 ·have m := a
  have a := Zt a
  refine Zf fun aj K => ?_
  refine Zc (Za rfl rfl (Zd rfl) (Ze (Zb (K _ _ ?_))))
  refine Zm (Zn (Zi ?_))
  exact Zg [_] ⟨rfl, trivial⟩ ⟨congrArg bst (by unfold Yq; rw [if_neg d, if_neg e, if_neg f, if_pos a]), E⟩
 have m := a
 have a := Zv a
 refine Zf fun ak L => ?_
 refine Zc (Za rfl rfl (Ya rfl rfl) (Za rfl rfl (Zd rfl) (Ze (Zb (L _ _ ?_)))))
 refine Zo rfl (fun b => ?_) (fun b => ?_)
 ·have n := b
  have b := Zt b
  refine Zf fun al M => ?_
  refine Zc (Za rfl rfl (Zd rfl) (Ze (Zb (M _ _ ?_))))
  refine Zm (Zn (Zi ?_))
  exact Zg [_] ⟨rfl, trivial⟩ ⟨congrArg bst (by unfold Yq; rw [if_neg d, if_neg e, if_neg f, if_neg a, if_pos b]), E⟩
 have n := b
 have b := Zv b
 refine Zf fun am O => ?_
 refine Zc (Za rfl rfl (Ya rfl rfl) (Za rfl rfl (Zd rfl) (Ze (Zb (O _ _ ?_)))))
 refine Zo rfl (fun c => ?_) (fun c => ?_)
 ·have o := c
  have c := Zt c
  refine Zf fun an P => ?_
  refine Zc (Za rfl rfl (Zd rfl) (Ze (Zb (P _ _ ?_))))
  refine Zm (Zn (Zi ?_))
  exact Zg [_] ⟨rfl, trivial⟩ ⟨congrArg bst (by unfold Yq; rw [if_neg d, if_neg e, if_neg f, if_neg a, if_neg b, if_pos c]), E⟩
 have o := c
 have c := Zv c
 refine Zq ?_
 refine Yc (Zb (H3 _ _ ?_))
 refine Zf fun ao Q => ?_
 refine Zat [] 11 mixed rfl fun y p => ?_
 have R := p.size
 have E := E.trans p
 refine dV 0 rfl rfl rfl (fun _ => Zh fa77_2 rfl) ?_
 have z := h.ch0 p
 refine dT 1 rfl rfl rfl (Zan z.at_ (fun i hi => absurd hi List.not_mem_nil) agg3 rfl rfl ?_)
 refine dV 5 rfl rfl rfl (fun _ => Zh fa77_3 rfl) ?_
 refine dT 6 rfl rfl rfl (Zan z.at_ (fun i hi => absurd hi List.not_mem_nil) agg3 rfl rfl ?_)
 refine dO 2 (DO_s rfl rfl rfl ?_)
 refine Step.call (Zw (xs := [.tmp 21]) fk30 rfl) (Xn _ om) fun S T q => ?_
 obtain ⟨rfl, r⟩ := q
 have U := r.size
 have E := E.trans r
 have g : Ch [] y T := ((Ch.refl _ _).trans r)
 refine ⟨g, ?_⟩
 refine dV 3 rfl rfl rfl (fun _ => Yv (by (simp only [List.length_append, List.length_cons, List.length_nil]; omega)) rfl rfl) (dV 4 rfl rfl rfl (fun _ => Yv (by (simp only [List.length_append, List.length_cons, List.length_nil]; omega)) rfl rfl) (dO 7 (DO_s rfl rfl rfl ?_)))
 refine Step.call (Zw (xs := [.tmp 26]) fk30 rfl) (Xn _ om) fun V X s => ?_
 obtain ⟨rfl, u⟩ := s
 have Y := u.size
 have E := E.trans u
 have j : Ch [] y X := (g.trans u)
 refine ⟨j, ?_⟩
 refine dV 8 rfl rfl rfl (fun _ => Yv (by (simp only [List.length_append, List.length_cons, List.length_nil]; omega)) rfl rfl) (dV 9 rfl rfl rfl (fun _ => Yv (by (simp only [List.length_append, List.length_cons, List.length_nil]; omega)) rfl rfl) (dV 10 rfl rfl rfl (fun _ => Zd rfl) ?_))
 refine Zar (by kernel_rfl) ?_
 refine Zb (Q _ _ ?_)
 refine Zm ?_
 exact Zg [_] ⟨rfl, trivial⟩ ⟨congrArg bst (by unfold Yq; rw [if_neg d, if_neg e, if_neg f, if_neg a, if_neg b, if_neg c]), E⟩

shelf_lay Lays.n156 Nm 156 at Tryd as lay_156_31
theorem Zim : Builder.Extra Tryd.prog lay_156_31_ren := ⟨⟨by kernel_rfl, by kernel_rfl⟩, Tryd.underlying5, Tryd.isAgg5, Tryd.sizeOf5, Tryd.zeroValue5, by kernel_rfl, by kernel_rfl, by kernel_rfl, by decide⟩
/-- strings.Join -/
theorem Zbm {w : World} {e_xs : Nat} {a : Value} {xs : List (List UInt8)} (b : Ol scs e_xs 1 w a xs) (sep : List UInt8) (hN : xs.length ≤ 4194304) (hlen : (jnS sep xs).length ≤ 140737488355328) :
 Ctr Tryd.prog 31 #[a, (bst sep)] w (fun v w' => v = bst (jnS sep xs) ∧ Ch [] w w') := by
 exact Zfx lay_156_31 Zim b hN hlen

/-- impl.FormatExpr -/
theorem Zag {w : World} {LL_e K : Nat} {t : Value} {e : List Token} (d : Ls Token.cs 4 w LL_e K t e) (hb : e.length ≤ 1048576) :
 Ctr Tryd.prog 24 #[(.agg #[t])] w (fun v w' => v = bst (exR e) ∧ Ch [] w w') := by
 obtain ⟨j, l, u⟩ := d.val
 subst u
 have aj := d.len
 have d := d.here (by decide)
 have E := Ch.refl [] w
 refine Zu (N := 25) (vs0 := [(.agg #[(.slice j e.length l)])]) Tryd.func24 rfl rfl rfl ?_
 refine Zf fun K1 H1 => ?_
 refine Zc (Zr rfl rfl ?_)
 refine Yu rfl fun ak W2 x C2 aT => ?_
 have aU := C2.size
 have E := E.trans C2
 have aV := x.lt
 replace x : Blk W2 ak 50 [(.slice j e.length l)] := x
 refine Za rfl rfl (Zd rfl) (Ze (Zb (H1 _ _ ?_)))
 refine Zf fun K3 H3 => ?_
 refine Zf fun K4 H4 => ?_
 refine Zc (Za rfl rfl (Zp x.at_ agg50 sz50 rfl) (Zr rfl rfl ?_))
 have F5 := d.ch0 C2
 refine Step.call (Zw (xs := [.tmp 6]) fk49 rfl) (Zaa F5 om) fun aW W6 al => ?_
 obtain ⟨rfl, C6⟩ := al
 have aX := C6.size
 have E := E.trans C6
 refine Za rfl rfl (Qf rfl) (Ze (Zb (H4 _ _ ?_)))
 refine Zo rfl (fun h => ?_) (fun h => ?_)
 ·have am := h
  have h := Yo h
  refine Zf fun K8 H8 => ?_
  refine Zc (Za rfl rfl (Zd rfl) (Ze (Zb (H8 _ _ ?_))))
  refine Zm (Zi ?_)
  exact Zg [_] ⟨rfl, trivial⟩ ⟨congrArg bst (Zhu (by simpa using h)), E⟩
 have am := h
 have h := Yn h
 refine Zq ?_
 refine Zb (H3 _ _ ?_)
 refine Zf fun K9 H9 => ?_
 refine Zc (Zr rfl rfl ?_)
 refine Xj (k := 1) scs el60 sz9 fun aY V X L D => ?_
 have an := D.size
 have E := E.trans D
 obtain ⟨y, z, rfl, ao, Y⟩ := X.opn
 refine Za rfl rfl (Zd rfl) (Ze (Zb (H9 _ _ ?_)))
 refine Zf fun aZ ap => ?_
 refine Zf fun a0 aq => ?_
 refine Zc (Za rfl rfl (Zh fa50_0 rfl) ?_)
 have au := (x.ch0 C6).ch0 D
 refine Za rfl rfl (Zl au.at_ agg48 rfl rfl) (Za rfl rfl (Xg (by rw [el48]; rfl) rfl) (Za rfl rfl (Zk rfl) (Ze (Zb (aq _ _ ?_)))))
 refine Yb ?_
 have r : Ol scs 9 1 V (.slice y (([] : List (List UInt8))).length z) ((e.take 0).map Yq) := by
  have hx := X
  exact hx
 have av := (F5.ch0 C6).ch0 D
 refine Zaq (σ := Nat × Value) (fun ⟨k, ov⟩ => [(2, (bst ([] : List UInt8))), (3, ov), (11, (.slice j e.length l)), (12, (.int .i64 ((e.length : Nat) : Int))), (13, (.int .i64 ((k : Nat) : Int)))]) (fun ⟨k, ov⟩ wx => Ch [] w wx ∧ V.heap.size ≤ wx.heap.size ∧ (k ≤ e.length) ∧ Ls Token.cs 4 wx LL_e w.heap.size (.slice j e.length l) e ∧ Ol scs 9 1 wx ov ((e.take k).map Yq) ∧ Lo W6.heap.size ov) (fun ⟨k, ov⟩ => e.length - k) (0, (.slice y (([] : List (List UInt8))).length z)) (sC4 rfl rfl rfl rfl (sC1 rfl (Sub.nil _))) ⟨E, (Nat.le_refl _), om, av, r, L⟩ ?_
 rintro ⟨k, ov⟩ a1 ⟨E, aw, a2, m, f, b⟩
 have M := E
 have Z := M.size
 obtain ⟨Aov, Cov, rfl, lov, hiov⟩ := f.opn
 refine Zf fun a3 ax => ?_
 refine Zc (Za rfl rfl (Xo rfl rfl) (Ze (Zb (ax _ _ ?_))))
 refine Zf fun a4 ay => ?_
 refine Zo rfl (fun c => ?_) (fun c => ?_)
 ·have O := c
  have c := Zt c
  refine Zq ?_
  refine Zb (ay _ _ ?_)
  refine Zf fun a5 az => ?_
  refine Yb ?_
  refine Zf fun a6 aA => ?_
  refine Zc (Zr rfl rfl ?_)
  refine (Yz m Token.len el48 sz77 rfl rfl rfl om fun aB a n P => ?_)
  have aa := Zdy h n
  refine Za rfl rfl (Zp P agg77 sz77 rfl) (Zr rfl rfl ?_)
  refine Xv zr77 fun ab aC F G a7 => ?_
  have aD := G.size
  have E := E.trans G
  have a8 := F.lt
  replace F : Blk aC ab 77 [(.int .i64 0), (.int .i64 0), (.int .i64 0), (.int .i64 0)] := F
  refine Zr rfl rfl ?_
  refine Qk (off := 0) 4 F sz77 rfl (us := [(.int .i64 a.kind), (.int .i64 a.letter), (.int .i64 a.low), (.int .i64 a.high)]) rfl rfl rfl rfl fun aE g H => ?_
  have aF := H.size
  have E := E.step H (lS om)
  replace g : Blk aE ab 77 [(.int .i64 a.kind), (.int .i64 a.letter), (.int .i64 a.low), (.int .i64 a.high)] := g
  refine Ze (Zb (aA _ _ (Zc (Za rfl rfl (Zk rfl) (Za rfl rfl (Zp g.at_ agg77 sz77 rfl) (Zr rfl rfl ?_))))))
  refine Step.call (Zw (xs := [.tmp 18]) fk50 rfl) (Zaj a om om) fun aG a9 Q => ?_
  obtain ⟨rfl, I⟩ := Q
  have aH := I.size
  have E := E.trans I
  refine Zr rfl rfl ?_
  refine Yp (cs := scs) (parts := [(0, .tmp 19)]) ([] : List UInt8) [(Yq a)] el60 sz9 zr9 Zas (by decide) rfl rfl rfl (by decide) (by decide) rfl fun aI ba A ac J => ?_
  have aJ := J.size
  have E := E.trans J
  obtain ⟨ad, ae, rfl, af, R⟩ := A.opn
  refine Zr rfl rfl ?_
  have aK := (((f.ch0 G).ch H (dS b hiov om)).ch0 I).ch0 J
  refine Zbu (cs := scs) el60 sz9 by9 zr9 rfl (by decide) Zgn aK A.ls rfl rfl (by simp only [List.length_map, List.length_take, List.length_singleton]; omega) (by simp only [List.length_map, List.length_take, List.length_singleton]; omega) b om fun aL aM B C ag S => ?_
  have aN := S.size
  have E := E.step S (fun i hi => .inl (by have aO := b _ hi; omega))
  obtain ⟨o, p, rfl, ah, T⟩ := B.opn
  refine Za rfl rfl (Zd rfl) (Ze (Yc (Zb (az _ _ (Zc (Za rfl rfl (Zbg om rfl rfl) (Za rfl rfl (Zk rfl) (Ze ?_))))))))
  have s : Ol scs 9 1 aM (.slice o (((e.take k).map Yq ++ [(Yq a)])).length p) ((e.take (k + 1)).map Yq) := by
   have hx := B
   exact hx.eq (Zcc n)
  have aP := ((((m.ch0 G).ch H (oS om)).ch0 I).ch0 J).ch S (fun i hi => by have aO := b _ hi; omega)
  exact Zb (Exists.intro ((k + 1), (.slice o (((e.take k).map Yq ++ [(Yq a)])).length p)) ⟨⟨E, om, om, aP, s, (Lo.down C om)⟩, sC4 rfl rfl rfl rfl (sC1 rfl (Sub.nil _)), (by first | omega | (dsimp only; omega))⟩)
 have O := c
 have c := Zv c
 refine Zap (Yh (Yh (Xu ?_)))
 refine Zb (ap _ _ ?_)
 refine Zf fun bb aQ => ?_
 refine Zc (Za rfl rfl (Zk rfl) (Zr rfl rfl ?_))
 refine Step.call (Zw (xs := [.tmp 23, .const (Go.Value.string { data := #[32] })]) fk31 rfl) (Zbm f ([32]) (by rw [List.length_map, List.length_take]; omega) (by have q := Zdh e k; unfold exS at q; omega)) fun aR bc U => ?_
 obtain ⟨rfl, ai⟩ := U
 have aS := ai.size
 have E := E.trans ai
 refine Za rfl rfl (Zd rfl) (Ze (Zb (aQ _ _ ?_)))
 refine Zm ?_
 exact Zg [_] ⟨rfl, trivial⟩ ⟨congrArg bst (by rw [List.take_of_length_le om]; exact Zhl h), E⟩

/-- laws.eqToken -/
theorem Zbk {w : World} (a : Token) (b : Token) :
 Ctr Tryd.prog 70 #[(.agg #[(.int .i64 a.kind), (.int .i64 a.letter), (.int .i64 a.low), (.int .i64 a.high)]), (.agg #[(.int .i64 b.kind), (.int .i64 b.letter), (.int .i64 b.low), (.int .i64 b.high)])] w (fun v w' => v = .bool (decide (a = b)) ∧ Ch [] w w') := by
 have E := Ch.refl [] w
 refine Zu (N := 25) (vs0 := [(.agg #[(.int .i64 a.kind), (.int .i64 a.letter), (.int .i64 a.low), (.int .i64 a.high)]), (.agg #[(.int .i64 b.kind), (.int .i64 b.letter), (.int .i64 b.low), (.int .i64 b.high)])]) Tryd.func70 rfl rfl rfl ?_
 refine Zf fun K1 H1 => ?_
 refine Zc (Zr rfl rfl ?_)
 refine Yu rfl fun m W2 i C2 A => ?_
 have B := C2.size
 have E := E.trans C2
 have C := i.lt
 replace i : Blk W2 m 77 [(.int .i64 a.kind), (.int .i64 a.letter), (.int .i64 a.low), (.int .i64 a.high)] := i
 refine Zr rfl rfl ?_
 refine Yu rfl fun n W3 h C3 D => ?_
 have F := C3.size
 have E := E.trans C3
 have G := h.lt
 replace h : Blk W3 n 77 [(.int .i64 b.kind), (.int .i64 b.letter), (.int .i64 b.low), (.int .i64 b.high)] := h
 refine Za rfl rfl (Zd rfl) (Ze (Zb (H1 _ _ ?_)))
 refine Zf fun K4 H4 => ?_
 refine Zf fun K5 H5 => ?_
 refine Zc (Za rfl rfl (Zh fa77_0 rfl) ?_)
 have F6 := i.ch0 C3
 refine Za rfl rfl (Zl F6.at_ agg3 rfl rfl) (Za rfl rfl (Zh fa77_0 rfl) (Za rfl rfl (Zl h.at_ agg3 rfl rfl) (Za rfl rfl (Ym rfl rfl) (Ze (Zb (H5 _ _ ?_))))))
 refine Zo rfl (fun g => ?_) (fun g => ?_)
 ·have o := g
  have g := Zv (Yo g)
  refine Zf fun K8 H8 => ?_
  refine Zc (Za rfl rfl (Zd rfl) (Ze (Zb (H8 _ _ ?_))))
  refine Zm (Zi ?_)
  exact Zg [_] ⟨rfl, trivial⟩ ⟨congrArg Value.bool (decide_eq_false (fun e => g (by rw [e]))).symm, E⟩
 have o := g
 have g := Zt (Yn g)
 refine Zq ?_
 refine Zb (H4 _ _ ?_)
 refine Zf fun K9 H9 => ?_
 refine Zf fun H p => ?_
 refine Zc (Za rfl rfl (Zh fa77_1 rfl) (Za rfl rfl (Zl F6.at_ agg3 rfl rfl) (Za rfl rfl (Zh fa77_1 rfl) (Za rfl rfl (Zl h.at_ agg3 rfl rfl) (Za rfl rfl (Ym rfl rfl) (Ze (Zb (p _ _ ?_))))))))
 refine Zo rfl (fun c => ?_) (fun c => ?_)
 ·have j := c
  have c := Zv (Yo c)
  refine Zf fun I q => ?_
  refine Zc (Za rfl rfl (Zd rfl) (Ze (Zb (q _ _ ?_))))
  refine Zm (Zi ?_)
  exact Zg [_] ⟨rfl, trivial⟩ ⟨congrArg Value.bool (decide_eq_false (fun e => c (by rw [e]))).symm, E⟩
 have j := c
 have c := Zt (Yn c)
 refine Zq ?_
 refine Zb (H9 _ _ ?_)
 refine Zf fun J r => ?_
 refine Zf fun K s => ?_
 refine Zc (Za rfl rfl (Zh fa77_2 rfl) (Za rfl rfl (Zl F6.at_ agg3 rfl rfl) (Za rfl rfl (Zh fa77_2 rfl) (Za rfl rfl (Zl h.at_ agg3 rfl rfl) (Za rfl rfl (Ym rfl rfl) (Ze (Zb (s _ _ ?_))))))))
 refine Zo rfl (fun d => ?_) (fun d => ?_)
 ·have k := d
  have d := Zv (Yo d)
  refine Zf fun L t => ?_
  refine Zc (Za rfl rfl (Zd rfl) (Ze (Zb (t _ _ ?_))))
  refine Zm (Zi ?_)
  exact Zg [_] ⟨rfl, trivial⟩ ⟨congrArg Value.bool (decide_eq_false (fun e => d (by rw [e]))).symm, E⟩
 have k := d
 have d := Zt (Yn d)
 refine Zq ?_
 refine Zb (r _ _ ?_)
 refine Zf fun M u => ?_
 refine Zf fun O x => ?_
 refine Zc (Za rfl rfl (Zh fa77_3 rfl) (Za rfl rfl (Zl F6.at_ agg3 rfl rfl) (Za rfl rfl (Zh fa77_3 rfl) (Za rfl rfl (Zl h.at_ agg3 rfl rfl) (Za rfl rfl (Ym rfl rfl) (Ze (Zb (x _ _ ?_))))))))
 refine Zo rfl (fun f => ?_) (fun f => ?_)
 ·have l := f
  have f := Zv (Yo f)
  refine Zf fun P y => ?_
  refine Zc (Za rfl rfl (Zd rfl) (Ze (Zb (y _ _ ?_))))
  refine Zm (Zi ?_)
  exact Zg [_] ⟨rfl, trivial⟩ ⟨congrArg Value.bool (decide_eq_false (fun e => f (by rw [e]))).symm, E⟩
 have l := f
 have f := Zt (Yn f)
 refine Zq ?_
 refine Zb (u _ _ ?_)
 refine Zf fun Q z => ?_
 refine Zc (Za rfl rfl (Zd rfl) (Ze (Zb (z _ _ ?_))))
 refine Zm ?_
 exact Zg [_] ⟨rfl, trivial⟩ ⟨congrArg Value.bool (decide_eq_true (Token.inj (by rw [g, c, d, f]))).symm, E⟩

/-- laws.eqTokenS -/
theorem Zbb {w : World} {LL_a z : Nat} {n : Value} {a : List Token} (g : Ls Token.cs 4 w LL_a z n a) {LL_b A : Nat} {o : Value} {b : List Token} (h : Ls Token.cs 4 w LL_b A o b) :
 Ctr Tryd.prog 51 #[n, o] w (fun v w' => v = .bool (decide (a = b)) ∧ Ch [] w w') := by
 obtain ⟨p, q, r⟩ := g.val
 subst r
 have O := g.len
 have g := g.here (by decide)
 obtain ⟨s, t, u⟩ := h.val
 subst u
 have P := h.len
 have h := h.here (by decide)
 have E := Ch.refl [] w
 refine Zu (N := 27) (vs0 := [(.slice p a.length q), (.slice s b.length t)]) Tryd.func51 rfl rfl rfl ?_
 refine Zf fun K1 H1 => ?_
 refine Zc (Za rfl rfl (Zd rfl) (Ze (Zb (H1 _ _ ?_))))
 refine Zf fun K2 H2 => ?_
 refine Zf fun K3 H3 => ?_
 refine Zc (Za rfl rfl (Zk rfl) (Za rfl rfl (Xg (by rw [el48]; rfl) rfl) (Za rfl rfl (Zk rfl) (Za rfl rfl (Xg (by rw [el48]; rfl) rfl) (Za rfl rfl (Ym rfl rfl) (Ze (Zb (H3 _ _ ?_))))))))
 refine Zo rfl (fun d => ?_) (fun d => ?_)
 ·have Q := d
  have d := Zv (Yo d)
  refine Zf fun K5 H5 => ?_
  refine Zc (Za rfl rfl (Zd rfl) (Ze (Zb (H5 _ _ ?_))))
  refine Zm (Zi ?_)
  exact Zg [_] ⟨rfl, trivial⟩ ⟨congrArg Value.bool (decide_eq_false (fun e => d (by rw [e]))).symm, E⟩
 have Q := d
 have d := Zt (Yn d)
 refine Zq ?_
 refine Zb (H2 _ _ ?_)
 refine Zf fun K6 H6 => ?_
 refine Zf fun K7 H7 => ?_
 refine Zc (Za rfl rfl (Zd rfl) (Ze (Zb (H7 _ _ ?_))))
 refine Yb ?_
 refine Zaq (σ := Nat) (fun (k : Nat) => [(0, (.slice p a.length q)), (1, (.slice s b.length t)), (5, (.int .i64 ((k : Nat) : Int)))]) (fun (k : Nat) wx => Ch [] w wx ∧ w.heap.size ≤ wx.heap.size ∧ (k ≤ a.length) ∧ (a.take k = b.take k)) (fun (k : Nat) => a.length - k) 0 (sC2 rfl rfl (sC1 rfl (Sub.nil _))) ⟨E, (Nat.le_refl _), om, rfl⟩ ?_
 rintro k R8 ⟨E, R, ag, K⟩
 have m := E
 have L := m.size
 refine Zf fun K9 H9 => ?_
 refine Zf fun ah S => ?_
 refine Zc (Za rfl rfl (Zk rfl) (Za rfl rfl (Zk rfl) (Za rfl rfl (Xg (by rw [el48]; rfl) rfl) (Za rfl rfl (Xo rfl rfl) (Ze (Zb (S _ _ ?_)))))))
 refine Zo rfl (fun f => ?_) (fun f => ?_)
 ·have B := f
  have f := Zt f
  refine Zq ?_
  refine Zb (H9 _ _ ?_)
  refine Zf fun ai M => ?_
  refine Yb ?_
  refine Zf fun aj T => ?_
  refine Zat [] 10 mixed rfl fun U y => ?_
  have V := y.size
  have E := E.trans y
  refine dV 0 rfl rfl rfl (fun _ => Zk rfl) (dV 1 rfl rfl rfl (fun _ => Zk rfl) ?_)
  have X := (g.ch0 m).ch0 y
  refine dT 2 rfl rfl rfl (Zej X Token.len el48 sz77 rfl rfl rfl om fun Y C j D => ?_)
  refine dT 3 rfl rfl rfl (Xe D (fun i hi => absurd hi List.not_mem_nil) agg77 sz77 rfl ?_)
  refine dV 4 rfl rfl rfl (fun _ => Zk rfl) (dV 5 rfl rfl rfl (fun _ => Zk rfl) ?_)
  have Z := (h.ch0 m).ch0 y
  refine dT 6 rfl rfl rfl (Zej Z Token.len el48 sz77 rfl rfl rfl om fun aa F l G => ?_)
  refine dT 7 rfl rfl rfl (Xe G (fun i hi => absurd hi List.not_mem_nil) agg77 sz77 rfl ?_)
  refine dO 8 (DO_s rfl rfl rfl ?_)
  refine Step.call (Zw (xs := [.tmp 20, .tmp 24]) fk70 rfl) (Zbk C F ) fun ab ac H => ?_
  obtain ⟨rfl, I⟩ := H
  have ad := I.size
  have E := E.trans I
  have x : Ch [] U ac := ((Ch.refl _ _).trans I)
  refine ⟨x, ?_⟩
  refine dV 9 rfl rfl rfl (fun _ => Qf rfl) ?_
  refine Zar (by kernel_rfl) ?_
  refine Zb (T _ _ ?_)
  refine Zo rfl (fun c => ?_) (fun c => ?_)
  ·have J := c
   have c := Zv (Yo c)
   refine Zf fun ak ae => ?_
   refine Zc (Za rfl rfl (Zd rfl) (Ze (Zb (ae _ _ ?_))))
   refine Zm (Zn (Zi (Zi (Zn (Zi ?_)))))
   clear H6 M
   exact Zg [_] ⟨rfl, trivial⟩ ⟨congrArg Value.bool (decide_eq_false (Zew j l c)).symm, E⟩
  have J := c
  have c := Zt (Yn c)
  refine Zq ?_
  refine Yc (Zb (M _ _ (Zc (Za rfl rfl (Zk rfl) (Za rfl rfl (Zbg om rfl rfl) (Za rfl rfl (Zd rfl) (Ze ?_)))))))
  exact Zb (Exists.intro (k + 1) ⟨⟨E, om, om, (Zcr K j l c)⟩, sC2 rfl rfl (sC1 rfl (Sub.nil _)), (by first | omega | (dsimp only; omega))⟩)
 have B := f
 have f := Zv f
 refine Zap (Yh (Yh (Xu ?_)))
 refine Zb (H6 _ _ ?_)
 refine Zf fun al af => ?_
 refine Zc (Za rfl rfl (Zd rfl) (Ze (Zb (af _ _ ?_))))
 refine Zm ?_
 exact Zg [_] ⟨rfl, trivial⟩ ⟨congrArg Value.bool (decide_eq_true (Zds K om om)).symm, E⟩

/-- laws.eqExpr -/
theorem Zce {w : World} {LL_a p : Nat} {f : Value} {a : List Token} (d : Ls Token.cs 4 w LL_a p f a) {LL_b q : Nat} {g : Value} {b : List Token} (e : Ls Token.cs 4 w LL_b q g b) :
 Ctr Tryd.prog 25 #[(.agg #[f]), (.agg #[g])] w (fun v w' => v = .bool (decide (a = b)) ∧ Ch [] w w') := by
 obtain ⟨h, i, j⟩ := d.val
 subst j
 have s := d.len
 have d := d.here (by decide)
 obtain ⟨k, l, m⟩ := e.val
 subst m
 have t := e.len
 have e := e.here (by decide)
 have E := Ch.refl [] w
 refine Zu (N := 11) (vs0 := [(.agg #[(.slice h a.length i)]), (.agg #[(.slice k b.length l)])]) Tryd.func25 rfl rfl rfl ?_
 refine Zf fun K1 H1 => ?_
 refine Zc (Zr rfl rfl ?_)
 refine Yu rfl fun u W2 n C2 B => ?_
 have C := C2.size
 have E := E.trans C2
 have D := n.lt
 replace n : Blk W2 u 50 [(.slice h a.length i)] := n
 refine Zr rfl rfl ?_
 refine Yu rfl fun x W3 o C3 F => ?_
 have G := C3.size
 have E := E.trans C3
 have H := o.lt
 replace o : Blk W3 x 50 [(.slice k b.length l)] := o
 refine Za rfl rfl (Zd rfl) (Ze (Zb (H1 _ _ ?_)))
 refine Zf fun K4 H4 => ?_
 refine Zf fun K5 H5 => ?_
 refine Zc (Za rfl rfl (Zh fa50_0 rfl) ?_)
 have F6 := n.ch0 C3
 refine Za rfl rfl (Zl F6.at_ agg48 rfl rfl) (Za rfl rfl (Zh fa50_0 rfl) (Za rfl rfl (Zl o.at_ agg48 rfl rfl) (Zr rfl rfl ?_)))
 have F7 := (d.ch0 C2).ch0 C3
 have F8 := (e.ch0 C2).ch0 C3
 refine Step.call (Zw (xs := [.tmp 6, .tmp 8]) fk51 rfl) (Zbb F7 F8 ) fun I W9 y => ?_
 obtain ⟨rfl, C9⟩ := y
 have J := C9.size
 have E := E.trans C9
 refine Za rfl rfl (Qf rfl) (Ze (Zb (H5 _ _ ?_)))
 refine Zo rfl (fun c => ?_) (fun c => ?_)
 ·have r := c
  have c := Zv (Yo c)
  refine Zf fun K z => ?_
  refine Zc (Za rfl rfl (Zd rfl) (Ze (Zb (z _ _ ?_))))
  refine Zm (Zi ?_)
  exact Zg [_] ⟨rfl, trivial⟩ ⟨congrArg Value.bool (by simp_all), E⟩
 have r := c
 have c := Zt (Yn c)
 refine Zq ?_
 refine Zb (H4 _ _ ?_)
 refine Zf fun L A => ?_
 refine Zc (Za rfl rfl (Zd rfl) (Ze (Zb (A _ _ ?_))))
 refine Zm ?_
 exact Zg [_] ⟨rfl, trivial⟩ ⟨congrArg Value.bool (by simp_all), E⟩

/-- laws.szTokenS -/
theorem Zbd {w : World} {LL_a f : Nat} {d : Value} {a : List Token} (c : Ls Token.cs 4 w LL_a f d a) (left : Int) (hl : left ≤ 1048576) (k : 0 ≤ left) :
 Ctr Tryd.prog 45 #[d, (.int .i64 left)] w (fun v w' => v = .int .i64 (if left < a.length then -1 else left - a.length) ∧ Ch [] w w') := by
 obtain ⟨g, h, e⟩ := c.val
 subst e
 have i := c.len
 have c := c.here (by decide)
 have E := Ch.refl [] w
 refine Zu (N := 12) (vs0 := [(.slice g a.length h), (.int .i64 left)]) Tryd.func45 rfl rfl rfl ?_
 refine Zf fun K1 H1 => ?_
 refine Zc (Za rfl rfl (Zd rfl) (Ze (Zb (H1 _ _ ?_))))
 refine Zf fun K2 H2 => ?_
 refine Zc (Za rfl rfl (Zk rfl) (Za rfl rfl (Zk rfl) (Za rfl rfl (Xg (by rw [el43]; rfl) rfl) (Za rfl rfl (Zgl om rfl rfl) (Za rfl rfl (Zd rfl) (Ze (Zb (H2 _ _ ?_))))))))
 refine Zf fun K3 H3 => ?_
 refine Zf fun K4 H4 => ?_
 refine Zc (Za rfl rfl (Zk rfl) (Za rfl rfl (Xo rfl rfl) (Ze (Zb (H4 _ _ ?_)))))
 refine Zo rfl (fun b => ?_) (fun b => ?_)
 ·have j := b
  have b := Zt b
  refine Zf fun K6 H6 => ?_
  refine Zc (Za rfl rfl (Zd rfl) (Ze (Zb (H6 _ _ ?_))))
  refine Zm (Zi ?_)
  exact Zg [_] ⟨rfl, trivial⟩ ⟨congrArg (Value.int .i64) (if_pos om).symm, E⟩
 have j := b
 have b := Zv b
 refine Zq ?_
 refine Zb (H3 _ _ ?_)
 refine Zf fun K7 H7 => ?_
 refine Zc (Za rfl rfl (Zk rfl) (Za rfl rfl (Zd rfl) (Ze (Zb (H7 _ _ ?_)))))
 refine Zm ?_
 exact Zg [_] ⟨rfl, trivial⟩ ⟨congrArg (Value.int .i64) (if_neg om).symm, E⟩

/-- laws.szExpr -/
theorem Zcg {w : World} {LL_a i : Nat} {d : Value} {a : List Token} (c : Ls Token.cs 4 w LL_a i d a) (left : Int) (hl : left ≤ 1048576) (o : 0 ≤ left) :
 Ctr Tryd.prog 21 #[(.agg #[d]), (.int .i64 left)] w (fun v w' => v = .int .i64 (if left < a.length then -1 else left - a.length) ∧ Ch [] w w') := by
 obtain ⟨e, f, g⟩ := c.val
 subst g
 have j := c.len
 have c := c.here (by decide)
 have E := Ch.refl [] w
 refine Zu (N := 12) (vs0 := [(.agg #[(.slice e a.length f)]), (.int .i64 left)]) Tryd.func21 rfl rfl rfl ?_
 refine Zf fun K1 H1 => ?_
 refine Zc (Zr rfl rfl ?_)
 refine Yu rfl fun k W2 h C2 p => ?_
 have q := C2.size
 have E := E.trans C2
 have r := h.lt
 replace h : Blk W2 k 45 [(.slice e a.length f)] := h
 refine Za rfl rfl (Zd rfl) (Ze (Zb (H1 _ _ ?_)))
 refine Zf fun K3 H3 => ?_
 refine Zc (Za rfl rfl (Zh fa45_0 rfl) (Za rfl rfl (Zl h.at_ agg43 rfl rfl) (Za rfl rfl (Zk rfl) (Zr rfl rfl ?_))))
 have F4 := c.ch0 C2
 refine Step.call (Zw (xs := [.tmp 6, .tmp 7]) fk45 rfl) (Zbd F4 _ om om) fun s W5 l => ?_
 obtain ⟨rfl, C5⟩ := l
 have t := C5.size
 have E := E.trans C5
 refine Za rfl rfl (Zd rfl) (Ze (Zb (H3 _ _ ?_)))
 refine Zf fun K6 H6 => ?_
 refine Zf fun K7 H7 => ?_
 refine Zc (Za rfl rfl (Zk rfl) (Za rfl rfl (Xo rfl rfl) (Ze (Zb (H7 _ _ ?_)))))
 refine Zo rfl (fun b => ?_) (fun b => ?_)
 ·have m := b
  have b := Zt b
  refine Zf fun K9 H9 => ?_
  refine Zc (Za rfl rfl (Zd rfl) (Ze (Zb (H9 _ _ ?_))))
  refine Zm (Zi ?_)
  exact Zg [_] ⟨rfl, trivial⟩ ⟨congrArg (Value.int .i64) (by split <;> omega), E⟩
 have m := b
 have b := Zv b
 refine Zq ?_
 refine Zb (H6 _ _ ?_)
 refine Zf fun u n => ?_
 refine Zc (Za rfl rfl (Zk rfl) (Za rfl rfl (Zd rfl) (Ze (Zb (n _ _ ?_)))))
 refine Zm ?_
 exact Zg [_] ⟨rfl, trivial⟩ ⟨congrArg (Value.int .i64) (by split <;> omega), E⟩

/-- laws.toToken -/
theorem Zbj {w : World} (a : Token) :
 Ctr Tryd.prog 68 #[(.agg #[(.int .i64 a.kind), (.int .i64 a.letter), (.int .i64 a.low), (.int .i64 a.high)])] w (fun v w' => v = .agg (Token.cs (a)).toArray ∧ Ch [] w w') := by
 have E := Ch.refl [] w
 refine Zu (N := 17) (vs0 := [(.agg #[(.int .i64 a.kind), (.int .i64 a.letter), (.int .i64 a.low), (.int .i64 a.high)])]) Tryd.func68 rfl rfl rfl ?_
 refine Zf fun K1 H1 => ?_
 refine Zc (Zr rfl rfl ?_)
 refine Yu rfl fun r W2 h C2 J => ?_
 have K := C2.size
 have E := E.trans C2
 have L := h.lt
 replace h : Blk W2 r 98 [(.int .i64 a.kind), (.int .i64 a.letter), (.int .i64 a.low), (.int .i64 a.high)] := h
 refine Zr rfl rfl ?_
 refine Xv zr77 fun n W3 i C3 M => ?_
 have O := C3.size
 have E := E.trans C3
 have P := i.lt
 replace i : Blk W3 n 77 [(.int .i64 0), (.int .i64 0), (.int .i64 0), (.int .i64 0)] := i
 refine Ze (Zb (H1 _ _ ?_))
 refine Zf fun K4 H4 => ?_
 refine Zc (Zr rfl rfl ?_)
 refine Xv zr77 fun g W5 j C5 Q => ?_
 have R := C5.size
 have E := E.trans C5
 have S := j.lt
 replace j : Blk W5 g 77 [(.int .i64 0), (.int .i64 0), (.int .i64 0), (.int .i64 0)] := j
 refine Ze (Zb (H4 _ _ ?_))
 refine Zf fun K6 H6 => ?_
 refine Zc (Za rfl rfl (Zh fa98_0 rfl) ?_)
 have F7 := (h.ch0 C3).ch0 C5
 refine Za rfl rfl (Zl F7.at_ agg3 rfl rfl) (Za rfl rfl (Zh fa77_0 rfl) (Zr rfl rfl ?_))
 refine Qp (off := 0) j sz3 rfl rfl rfl rfl fun W8 f C8 => ?_
 have T := C8.size
 have E := E.step C8 (lS om)
 replace f : Blk W8 g 77 [(.int .i64 a.kind), (.int .i64 0), (.int .i64 0), (.int .i64 0)] := f
 refine Ze (Zb (H6 _ _ ?_))
 refine Zf fun U s => ?_
 refine Zc (Za rfl rfl (Zh fa98_1 rfl) ?_)
 have o := F7.ch C8 (nS om)
 refine Za rfl rfl (Zl o.at_ agg3 rfl rfl) (Za rfl rfl (Zh fa77_1 rfl) (Zr rfl rfl ?_))
 refine Qp (off := 1) f sz3 rfl rfl rfl rfl fun t b k => ?_
 have u := k.size
 have E := E.step k (lS om)
 replace b : Blk t g 77 [(.int .i64 a.kind), (.int .i64 a.letter), (.int .i64 0), (.int .i64 0)] := b
 refine Ze (Zb (s _ _ ?_))
 refine Zf fun V x => ?_
 refine Zc (Za rfl rfl (Zh fa98_2 rfl) ?_)
 have p := o.ch k (nS om)
 refine Za rfl rfl (Zl p.at_ agg3 rfl rfl) (Za rfl rfl (Zh fa77_2 rfl) (Zr rfl rfl ?_))
 refine Qp (off := 2) b sz3 rfl rfl rfl rfl fun y c l => ?_
 have z := l.size
 have E := E.step l (lS om)
 replace c : Blk y g 77 [(.int .i64 a.kind), (.int .i64 a.letter), (.int .i64 a.low), (.int .i64 0)] := c
 refine Ze (Zb (x _ _ ?_))
 refine Zf fun X A => ?_
 refine Zc (Za rfl rfl (Zh fa98_3 rfl) ?_)
 have B := p.ch l (nS om)
 refine Za rfl rfl (Zl B.at_ agg3 rfl rfl) (Za rfl rfl (Zh fa77_3 rfl) (Zr rfl rfl ?_))
 refine Qp (off := 3) c sz3 rfl rfl rfl rfl fun C d m => ?_
 have D := m.size
 have E := E.step m (lS om)
 replace d : Blk C g 77 [(.int .i64 a.kind), (.int .i64 a.letter), (.int .i64 a.low), (.int .i64 a.high)] := d
 refine Ze (Zb (A _ _ ?_))
 refine Zf fun Y F => ?_
 refine Zc (Za rfl rfl (Zp d.at_ agg77 sz77 rfl) (Zr rfl rfl ?_))
 have G := ((((i.ch0 C5).ch C8 (nS om)).ch k (nS om)).ch l (nS om)).ch m (nS om)
 refine Qk (off := 0) 4 G sz77 rfl (us := [(.int .i64 a.kind), (.int .i64 a.letter), (.int .i64 a.low), (.int .i64 a.high)]) rfl rfl rfl rfl fun H e q => ?_
 have I := q.size
 have E := E.step q (lS om)
 replace e : Blk H n 77 [(.int .i64 a.kind), (.int .i64 a.letter), (.int .i64 a.low), (.int .i64 a.high)] := e
 refine Ze (Zb (F _ _ ?_))
 refine Zm ?_
 exact Zg [_] (Zba e rfl agg77 sz77 trivial) ⟨by simp [Zao, Token.cs], E⟩

/-- laws.toTokenS -/
theorem Zbc {w : World} {LL_a x : Nat} {h : Value} {a : List Token} (c : Ls Token.cs 4 w LL_a x h a) (hb : a.length ≤ 1048576) :
 Ctr Tryd.prog 48 #[h] w (fun v w' => Ol Token.cs 77 4 w' v (a) ∧ Lo w.heap.size v ∧ Ch [] w w') := by
 obtain ⟨l, m, n⟩ := c.val
 subst n
 have K := c.len
 have c := c.here (by decide)
 have E := Ch.refl [] w
 refine Zu (N := 23) (vs0 := [(.slice l a.length m)]) Tryd.func48 rfl rfl rfl ?_
 refine Zf fun K1 H1 => ?_
 refine Zc (Za rfl rfl (Zd rfl) (Ze (Zb (H1 _ _ ?_))))
 refine Zf fun K2 H2 => ?_
 refine Zc (Za rfl rfl (Zk rfl) (Za rfl rfl (Xg (by rw [el43]; rfl) rfl) (Zr rfl rfl ?_)))
 refine Zhy (cs := Token.cs) (⟨0, 0, 0, 0⟩ : Token) el48 sz77 by77 zr77 Token.len (by decide) rfl rfl om om fun Z W3 D o C3 => ?_
 have aa := C3.size
 have E := E.trans C3
 obtain ⟨d, e, rfl, L, F⟩ := D.opn
 refine Za rfl rfl (Zd rfl) (Ze (Zb (H2 _ _ ?_)))
 refine Zf fun K4 H4 => ?_
 refine Zf fun K5 H5 => ?_
 refine Zc (Za rfl rfl (Zd rfl) (Ze (Zb (H5 _ _ ?_))))
 refine Yb ?_
 have p : Ol Token.cs 77 4 W3 (.slice d ((List.replicate a.length (⟨0, 0, 0, 0⟩ : Token))).length e) (a.take 0 ++ List.replicate (a.length - 0) (⟨0, 0, 0, 0⟩ : Token)) := by
  have hx := D
  simpa using hx
 refine Zaq (σ := Nat) (fun (k : Nat) => [(0, (.slice l a.length m)), (2, (.slice none 0 0)), (3, (.slice d ((List.replicate a.length (⟨0, 0, 0, 0⟩ : Token))).length e)), (4, (.int .i64 ((k : Nat) : Int)))]) (fun (k : Nat) wx => Ch [] w wx ∧ W3.heap.size ≤ wx.heap.size ∧ (k ≤ a.length) ∧ Ol Token.cs 77 4 wx (.slice d ((List.replicate a.length (⟨0, 0, 0, 0⟩ : Token))).length e) (a.take k ++ List.replicate (a.length - k) (⟨0, 0, 0, 0⟩ : Token))) (fun (k : Nat) => a.length - k) 0 (sC4 rfl rfl rfl rfl (Sub.nil _)) ⟨E, (Nat.le_refl _), om, p⟩ ?_
 rintro k R7 ⟨E, M, ab, f⟩
 have q := E
 have G := q.size
 refine Zf fun K8 H8 => ?_
 refine Zf fun K9 H9 => ?_
 refine Zc (Za rfl rfl (Zk rfl) (Za rfl rfl (Zk rfl) (Za rfl rfl (Xg (by rw [el43]; rfl) rfl) (Za rfl rfl (Xo rfl rfl) (Ze (Zb (H9 _ _ ?_)))))))
 refine Zo rfl (fun b => ?_) (fun b => ?_)
 ·have y := b
  have b := Zt b
  refine Zq ?_
  refine Zb (H8 _ _ ?_)
  refine Zf fun ac O => ?_
  refine Yb ?_
  refine Zc (Za rfl rfl (Zk rfl) (Za rfl rfl (Zk rfl) (Za rfl rfl (Zk rfl) (Za rfl rfl (Zk rfl) (Zr rfl rfl ?_)))))
  have P := c.ch0 q
  refine (Yz P Token.len el43 sz98 rfl rfl rfl om fun Q r s z => ?_)
  refine Za rfl rfl (Zp z agg98 sz98 rfl) (Zr rfl rfl ?_)
  refine Step.call (Zw (xs := [.tmp 19]) fk68 rfl) (Zbj r ) fun R ad A => ?_
  obtain ⟨rfl, B⟩ := A
  have S := B.size
  have E := E.trans B
  refine Zr rfl rfl ?_
  have H := f.ch0 B
  refine Zfz (j := k) H el48 sz77 rfl rfl rfl (by simp; omega) fun T U I C => ?_
  refine Zr rfl rfl ?_
  refine Zfl (j := k) r H C Token.len sz77 rfl rfl rfl rfl (by simp; omega) fun V t J => ?_
  have X := J.size
  have E := E.step J (fun i hi => .inl (by have ae := o _ hi; omega))
  refine Ze (Yc (Zb (O _ _ (Zc (Za rfl rfl (Zk rfl) (Za rfl rfl (Zbg om rfl rfl) (Za rfl rfl (Zd rfl) (Ze ?_))))))))
  have g : Ol Token.cs 77 4 V (.slice d ((List.replicate a.length (⟨0, 0, 0, 0⟩ : Token))).length e) (a.take (k + 1) ++ List.replicate (a.length - (k + 1)) (⟨0, 0, 0, 0⟩ : Token)) := by
   have hx := t
   rwa [Zey a (⟨0, 0, 0, 0⟩ : Token) s] at hx
  exact Zb (Exists.intro (k + 1) ⟨⟨E, om, om, g⟩, sC4 rfl rfl rfl rfl (Sub.nil _), (by first | omega | (dsimp only; omega))⟩)
 have y := b
 have b := Zv b
 refine Zap (Yh (Yh (Xu ?_)))
 refine Zb (H4 _ _ ?_)
 refine Zf fun af Y => ?_
 refine Zc (Za rfl rfl (Zk rfl) (Za rfl rfl (Zd rfl) (Ze (Zb (Y _ _ ?_)))))
 refine Zm ?_
 have u : Ol Token.cs 77 4 R7 (.slice d ((List.replicate a.length (⟨0, 0, 0, 0⟩ : Token))).length e) (a) := by
  have hx := f
  simpa [List.take_of_length_le (show a.length ≤ k by omega), show a.length - k = 0 by omega] using hx
 exact Zg [_] ⟨rfl, trivial⟩ ⟨u, Lo.down o om, E⟩

/-- laws.toExpr -/
theorem Xh {w : World} {LL_a s : Nat} {i : Value} {a : List Token} (b : Ls Token.cs 4 w LL_a s i a) (hb : a.length ≤ 1048576) :
 Ctr Tryd.prog 23 #[(.agg #[i])] w (fun v w' => ∃ u, v = .agg #[u] ∧ Ol Token.cs 77 4 w' u (a) ∧ Lo w.heap.size u ∧ Ch [] w w') := by
 obtain ⟨j, k, l⟩ := b.val
 subst l
 have A := b.len
 have b := b.here (by decide)
 have E := Ch.refl [] w
 refine Zu (N := 9) (vs0 := [(.agg #[(.slice j a.length k)])]) Tryd.func23 rfl rfl rfl ?_
 refine Zf fun K1 H1 => ?_
 refine Zc (Zr rfl rfl ?_)
 refine Yu rfl fun B W2 n C2 L => ?_
 have M := C2.size
 have E := E.trans C2
 have O := n.lt
 replace n : Blk W2 B 45 [(.slice j a.length k)] := n
 refine Zr rfl rfl ?_
 refine Xv zr50 fun x W3 o C3 P => ?_
 have Q := C3.size
 have E := E.trans C3
 have R := o.lt
 replace o : Blk W3 x 50 [(.slice none 0 0)] := o
 refine Ze (Zb (H1 _ _ ?_))
 refine Zf fun K4 H4 => ?_
 refine Zc (Zr rfl rfl ?_)
 refine Xv zr50 fun y W5 p C5 S => ?_
 have T := C5.size
 have E := E.trans C5
 have U := p.lt
 replace p : Blk W5 y 50 [(.slice none 0 0)] := p
 refine Ze (Zb (H4 _ _ ?_))
 refine Zf fun K6 H6 => ?_
 refine Zc (Za rfl rfl (Zh fa45_0 rfl) ?_)
 have F7 := (n.ch0 C3).ch0 C5
 refine Za rfl rfl (Zl F7.at_ agg43 rfl rfl) (Zr rfl rfl ?_)
 have F8 := ((b.ch0 C2).ch0 C3).ch0 C5
 refine Step.call (Zw (xs := [.tmp 5]) fk48 rfl) (Zbc F8 om) fun V W9 q => ?_
 obtain ⟨q, h, C9⟩ := q
 have X := C9.size
 have E := E.trans C9
 obtain ⟨e, f, rfl, C, g⟩ := q.opn
 refine Za rfl rfl (Zh fa50_0 rfl) (Zr rfl rfl ?_)
 have D := p.ch0 C9
 refine Qp (off := 0) D sz48 rfl rfl rfl rfl fun F c r => ?_
 have G := r.size
 have E := E.step r (lS om)
 replace c : Blk F y 50 [(.slice e (a).length f)] := c
 refine Ze (Zb (H6 _ _ ?_))
 refine Zf fun Y H => ?_
 refine Zc (Za rfl rfl (Zp c.at_ agg50 sz50 rfl) (Zr rfl rfl ?_))
 have I := ((o.ch0 C5).ch0 C9).ch r (nS om)
 refine Qk (off := 0) 1 I sz50 rfl (us := [(.slice e (a).length f)]) rfl rfl rfl rfl fun z d t => ?_
 have J := t.size
 have E := E.step t (lS om)
 replace d : Blk z x 50 [(.slice e (a).length f)] := d
 refine Ze (Zb (H _ _ ?_))
 refine Zm ?_
 have K := (q.ch r (dS h g om)).ch t (dS h g om)
 have m : Ol Token.cs 77 4 z (.slice e (a).length f) (a) := by
  have hx := K
  first | exact hx | simpa using hx
 exact Zg [_] (Zba d rfl agg50 sz50 trivial) ⟨_, rfl, m, Lo.down h om, E⟩

/-- spec.l1In -/
theorem Qh {w : World} (n : Int) (a : Int) (b : Int) :
 Ctr Tryd.prog 52 #[(.int .i64 n), (.int .i64 a), (.int .i64 b)] w (fun v w' => v = .bool (decide (a ≤ n ∧ n ≤ b)) ∧ Ch [] w w') := by
 have E := Ch.refl [] w
 refine Zu (N := 15) (vs0 := [(.int .i64 n), (.int .i64 a), (.int .i64 b)]) Tryd.func52 rfl rfl rfl ?_
 refine Zf fun K1 H1 => ?_
 refine Zc (Za rfl rfl (Zd rfl) (Ze (Zb (H1 _ _ ?_))))
 refine Zf fun K2 H2 => ?_
 refine Zc (Za rfl rfl (Zk rfl) (Za rfl rfl (Zk rfl) (Za rfl rfl (Zhq rfl rfl) (Za rfl rfl (Zk rfl) ?_))))
 refine Zy (d := 10) rfl (fun c => ?_) (fun c => ?_)
 ·have e := c
  have c := Zt c
  refine Za rfl rfl (Zk rfl) (Za rfl rfl (Zk rfl) (Za rfl rfl (Zfc rfl rfl) (Za rfl rfl (Zx rfl rfl) (Za rfl rfl (Zd rfl) (Ze (Zb (H2 _ _ ?_)))))))
  refine Zm ?_
  exact Zg [_] ⟨rfl, trivial⟩ ⟨congrArg Value.bool (by first | rfl | (rw [Bool.eq_iff_iff]; simp <;> omega) | (rw [Bool.eq_iff_iff]; simp_all; done) | simp_all), E⟩
 have e := c
 have c := Zv c
 refine Zj rfl rfl (Zj rfl rfl (Zj rfl rfl (Za rfl rfl (Zz rfl rfl) (Za rfl rfl (Zd rfl) (Ze (Zb (H2 _ _ ?_)))))))
 refine Zm ?_
 exact Zg [_] ⟨rfl, trivial⟩ ⟨congrArg Value.bool (by first | rfl | (rw [Bool.eq_iff_iff]; simp <;> omega) | (rw [Bool.eq_iff_iff]; simp_all; done) | simp_all), E⟩

/-- spec.l2Letter -/
theorem Qb {w : World} (n : Int) :
 Ctr Tryd.prog 63 #[(.int .i64 n)] w (fun v w' => v = .bool (decide (0 ≤ n ∧ n ≤ 8)) ∧ Ch [] w w') := by
 have E := Ch.refl [] w
 refine Zu (N := 5) (vs0 := [(.int .i64 n)]) Tryd.func63 rfl rfl rfl ?_
 refine Zf fun K1 H1 => ?_
 refine Zc (Za rfl rfl (Zd rfl) (Ze (Zb (H1 _ _ ?_))))
 refine Zf fun K2 H2 => ?_
 refine Zc (Za rfl rfl (Zk rfl) (Zr rfl rfl ?_))
 refine Step.call (Zw (xs := [.tmp 3, .const (Go.Value.int Go.IntKind.i64 0), .const (Go.Value.int Go.IntKind.i64 8)]) fk52 rfl) (Qh _ _ _ ) fun b W3 a => ?_
 obtain ⟨rfl, C3⟩ := a
 have c := C3.size
 have E := E.trans C3
 refine Za rfl rfl (Zd rfl) (Ze (Zb (H2 _ _ ?_)))
 refine Zm ?_
 exact Zg [_] ⟨rfl, trivial⟩ ⟨congrArg Value.bool rfl, E⟩

/-- spec.l8Arity -/
theorem Zbi {w : World} (t : Token) :
 Ctr Tryd.prog 78 #[(.agg #[(.int .i64 t.kind), (.int .i64 t.letter), (.int .i64 t.low), (.int .i64 t.high)])] w (fun v w' => v = .int .i64 (arT t) ∧ Ch [] w w') := by
 have E := Ch.refl [] w
 refine Zu (N := 87) (vs0 := [(.agg #[(.int .i64 t.kind), (.int .i64 t.letter), (.int .i64 t.low), (.int .i64 t.high)])]) Tryd.func78 rfl rfl rfl ?_
 refine Zf fun K1 H1 => ?_
 refine Zc (Zr rfl rfl ?_)
 refine Yu rfl fun aC W2 i C2 bh => ?_
 have bi := C2.size
 have E := E.trans C2
 have bj := i.lt
 replace i : Blk W2 aC 77 [(.int .i64 t.kind), (.int .i64 t.letter), (.int .i64 t.low), (.int .i64 t.high)] := i
 refine Za rfl rfl (Zd rfl) (Ze (Zb (H1 _ _ ?_)))
 refine Zf fun K3 H3 => ?_
 refine Zf fun K4 H4 => ?_
 refine Zc (Za rfl rfl (Zh fa77_0 rfl) (Za rfl rfl (Zl i.at_ agg3 rfl rfl) (Ze (Zb (H4 _ _ ?_)))))
 refine Yb ?_
 refine Zf fun K5 H5 => ?_
 refine Zf fun K6 H6 => ?_
 refine Zc (Za rfl rfl (Ya rfl rfl) (Za rfl rfl (Zd rfl) (Ze (Zb (H6 _ _ ?_)))))
 refine Zo rfl (fun j => ?_) (fun j => ?_)
 ·have ax := j
  have j := Zt j
  refine Zq ?_
  refine Zb (H5 _ _ ?_)
  refine Yx rfl ax ?_
  refine Zf fun K8 H8 => ?_
  refine Zf fun K9 H9 => ?_
  refine Zc (Za rfl rfl (Zh fa77_1 rfl) (Za rfl rfl (Zl i.at_ agg3 rfl rfl) (Za rfl rfl (Ym rfl rfl) (Za rfl rfl (Zk rfl) ?_))))
  refine Zy (d := 11) rfl (fun a => ?_) (fun a => ?_)
  ·have H := a
   have a := Zv (Yo a)
   refine Zj rfl rfl (Zj rfl rfl (Zj rfl rfl (Za rfl rfl (Zx rfl rfl) (Za rfl rfl (Zk rfl) (Zj rfl rfl (Zj rfl rfl (Zj rfl rfl ?_)))))))
   refine Za rfl rfl (Zx rfl rfl) (Ze (Zb (H9 _ _ ?_)))
   refine Yg rfl ?_
   refine Zf fun bk aD => ?_
   refine Zc (Za rfl rfl (Zd rfl) (Ze (Zb (aD _ _ ?_))))
   refine Zm (Zi (Zn (Zi ?_)))
   clear H3 H8
   exact Zg [_] ⟨rfl, trivial⟩ ⟨congrArg (Value.int .i64) (by unfold arT; repeat (first | rw [if_pos om] | rw [if_neg om])), E⟩
  have H := a
  have a := Zt (Yn a)
  refine Za rfl rfl (Zh fa77_2 rfl) (Za rfl rfl (Zl i.at_ agg3 rfl rfl) (Za rfl rfl (Ym rfl rfl) (Za rfl rfl (Zz rfl rfl) (Za rfl rfl (Zk rfl) ?_))))
  refine Zy (d := 16) rfl (fun b => ?_) (fun b => ?_)
  ·have I := b
   have b := Zv (Yo b)
   refine Zj rfl rfl (Zj rfl rfl (Zj rfl rfl (Za rfl rfl (Zx rfl rfl) (Ze (Zb (H9 _ _ ?_))))))
   refine Yg rfl ?_
   refine Zf fun bm aE => ?_
   refine Zc (Za rfl rfl (Zd rfl) (Ze (Zb (aE _ _ ?_))))
   refine Zm (Zi (Zn (Zi ?_)))
   clear H3 H8
   exact Zg [_] ⟨rfl, trivial⟩ ⟨congrArg (Value.int .i64) (by unfold arT; repeat (first | rw [if_pos om] | rw [if_neg om])), E⟩
  have I := b
  have b := Zt (Yn b)
  refine Za rfl rfl (Zh fa77_3 rfl) (Za rfl rfl (Zl i.at_ agg3 rfl rfl) (Za rfl rfl (Ym rfl rfl) (Za rfl rfl (Zz rfl rfl) (Ze (Zb (H9 _ _ ?_))))))
  refine Zo rfl (fun c => ?_) (fun c => ?_)
  ·have J := c
   have c := Zv (Yo c)
   refine Zf fun bn aF => ?_
   refine Zc (Za rfl rfl (Zd rfl) (Ze (Zb (aF _ _ ?_))))
   refine Zm (Zi (Zn (Zi ?_)))
   clear H3 H8
   exact Zg [_] ⟨rfl, trivial⟩ ⟨congrArg (Value.int .i64) (by unfold arT; repeat (first | rw [if_pos om] | rw [if_neg om])), E⟩
  have J := c
  have c := Zt (Yn c)
  refine Zq ?_
  refine Zb (H8 _ _ ?_)
  refine Zf fun bp aG => ?_
  refine Zc (Za rfl rfl (Zd rfl) (Ze (Zb (aG _ _ ?_))))
  refine Zm (Zn (Zi ?_))
  exact Zg [_] ⟨rfl, trivial⟩ ⟨congrArg (Value.int .i64) (by unfold arT; repeat (first | rw [if_pos om] | rw [if_neg om])), E⟩
 have ax := j
 have j := Zv j
 refine Zc (Za rfl rfl (Ya rfl rfl) (Za rfl rfl (Zd rfl) (Ze (Zb (H5 _ _ ?_)))))
 refine Zo rfl (fun j => ?_) (fun j => ?_)
 ·have K := j
  have j := Zt j
  refine Zf fun bq A => ?_
  refine Zf fun br L => ?_
  refine Zc (Za rfl rfl (Zh fa77_1 rfl) (Za rfl rfl (Zl i.at_ agg3 rfl rfl) (Za rfl rfl (Ym rfl rfl) (Za rfl rfl (Zk rfl) ?_))))
  refine Zy (d := 11) rfl (fun a => ?_) (fun a => ?_)
  ·have M := a
   have a := Zv (Yo a)
   refine Zj rfl rfl (Zj rfl rfl (Zj rfl rfl (Za rfl rfl (Zx rfl rfl) (Za rfl rfl (Zk rfl) (Zj rfl rfl (Zj rfl rfl (Zj rfl rfl ?_)))))))
   refine Za rfl rfl (Zx rfl rfl) (Ze (Zb (L _ _ ?_)))
   refine Yg rfl ?_
   refine Zf fun bs aH => ?_
   refine Zc (Za rfl rfl (Zd rfl) (Ze (Zb (aH _ _ ?_))))
   refine Zm (Zi (Zn (Zi ?_)))
   clear H3 A
   exact Zg [_] ⟨rfl, trivial⟩ ⟨congrArg (Value.int .i64) (by unfold arT; repeat (first | rw [if_pos om] | rw [if_neg om])), E⟩
  have M := a
  have a := Zt (Yn a)
  refine Za rfl rfl (Zh fa77_2 rfl) (Za rfl rfl (Zl i.at_ agg3 rfl rfl) (Za rfl rfl (Ym rfl rfl) (Za rfl rfl (Zz rfl rfl) (Za rfl rfl (Zk rfl) ?_))))
  refine Zy (d := 16) rfl (fun b => ?_) (fun b => ?_)
  ·have O := b
   have b := Zv (Yo b)
   refine Zj rfl rfl (Zj rfl rfl (Zj rfl rfl (Za rfl rfl (Zx rfl rfl) (Ze (Zb (L _ _ ?_))))))
   refine Yg rfl ?_
   refine Zf fun bu aI => ?_
   refine Zc (Za rfl rfl (Zd rfl) (Ze (Zb (aI _ _ ?_))))
   refine Zm (Zi (Zn (Zi ?_)))
   clear H3 A
   exact Zg [_] ⟨rfl, trivial⟩ ⟨congrArg (Value.int .i64) (by unfold arT; repeat (first | rw [if_pos om] | rw [if_neg om])), E⟩
  have O := b
  have b := Zt (Yn b)
  refine Za rfl rfl (Zh fa77_3 rfl) (Za rfl rfl (Zl i.at_ agg3 rfl rfl) (Za rfl rfl (Ym rfl rfl) (Za rfl rfl (Zz rfl rfl) (Ze (Zb (L _ _ ?_))))))
  refine Zo rfl (fun c => ?_) (fun c => ?_)
  ·have P := c
   have c := Zv (Yo c)
   refine Zf fun bv aJ => ?_
   refine Zc (Za rfl rfl (Zd rfl) (Ze (Zb (aJ _ _ ?_))))
   refine Zm (Zi (Zn (Zi ?_)))
   clear H3 A
   exact Zg [_] ⟨rfl, trivial⟩ ⟨congrArg (Value.int .i64) (by unfold arT; repeat (first | rw [if_pos om] | rw [if_neg om])), E⟩
  have P := c
  have c := Zt (Yn c)
  refine Zq ?_
  refine Zb (A _ _ ?_)
  refine Zf fun bw aK => ?_
  refine Zc (Za rfl rfl (Zd rfl) (Ze (Zb (aK _ _ ?_))))
  refine Zm (Zn (Zi ?_))
  exact Zg [_] ⟨rfl, trivial⟩ ⟨congrArg (Value.int .i64) (by unfold arT; repeat (first | rw [if_pos om] | rw [if_neg om])), E⟩
 have K := j
 have j := Zv j
 refine Zf fun bx aL => ?_
 refine Zc (Za rfl rfl (Ya rfl rfl) (Za rfl rfl (Zd rfl) (Ze (Zb (aL _ _ ?_)))))
 refine Zo rfl (fun k => ?_) (fun k => ?_)
 ·have Q := k
  have k := Zt k
  refine Zf fun bz B => ?_
  refine Zf fun bA R => ?_
  refine Zc (Za rfl rfl (Zh fa77_1 rfl) (Za rfl rfl (Zl i.at_ agg3 rfl rfl) (Zr rfl rfl ?_)))
  refine Step.call (Zw (xs := [.tmp 24]) fk63 rfl) (Qb _ ) fun aM bB S => ?_
  obtain ⟨rfl, T⟩ := S
  have aN := T.size
  have E := E.trans T
  refine Za rfl rfl (Qf rfl) (Za rfl rfl (Zk rfl) ?_)
  refine Zy (d := 27) rfl (fun l => ?_) (fun l => ?_)
  ·have U := l
   have l := Zv (Yo l)
   refine Zj rfl rfl (Zj rfl rfl (Zj rfl rfl (Za rfl rfl (Zx rfl rfl) (Za rfl rfl (Zk rfl) (Zj rfl rfl (Zj rfl rfl (Zj rfl rfl ?_)))))))
   refine Za rfl rfl (Zx rfl rfl) (Ze (Zb (R _ _ ?_)))
   refine Yg rfl ?_
   refine Zf fun bC aO => ?_
   refine Zc (Za rfl rfl (Zd rfl) (Ze (Zb (aO _ _ ?_))))
   refine Zm (Zi (Zn (Zi ?_)))
   clear H3 B
   exact Zg [_] ⟨rfl, trivial⟩ ⟨congrArg (Value.int .i64) (by unfold arT; repeat (first | rw [if_pos om] | rw [if_neg om])), E⟩
  have U := l
  have l := Zt (Yn l)
  refine Za rfl rfl (Zh fa77_2 rfl) ?_
  have ay := i.ch0 T
  refine Za rfl rfl (Zl ay.at_ agg3 rfl rfl) (Za rfl rfl (Ym rfl rfl) (Za rfl rfl (Zz rfl rfl) (Za rfl rfl (Zk rfl) ?_)))
  refine Zy (d := 32) rfl (fun m => ?_) (fun m => ?_)
  ·have V := m
   have m := Zv (Yo m)
   refine Zj rfl rfl (Zj rfl rfl (Zj rfl rfl (Za rfl rfl (Zx rfl rfl) (Ze (Zb (R _ _ ?_))))))
   refine Yg rfl ?_
   refine Zf fun bD aP => ?_
   refine Zc (Za rfl rfl (Zd rfl) (Ze (Zb (aP _ _ ?_))))
   refine Zm (Zi (Zn (Zi ?_)))
   clear H3 B
   exact Zg [_] ⟨rfl, trivial⟩ ⟨congrArg (Value.int .i64) (by unfold arT; repeat (first | rw [if_pos om] | rw [if_neg om])), E⟩
  have V := m
  have m := Zt (Yn m)
  refine Za rfl rfl (Zh fa77_3 rfl) (Za rfl rfl (Zl ay.at_ agg3 rfl rfl) (Za rfl rfl (Ym rfl rfl) (Za rfl rfl (Zz rfl rfl) (Ze (Zb (R _ _ ?_))))))
  refine Zo rfl (fun n => ?_) (fun n => ?_)
  ·have X := n
   have n := Zv (Yo n)
   refine Zf fun bE aQ => ?_
   refine Zc (Za rfl rfl (Zd rfl) (Ze (Zb (aQ _ _ ?_))))
   refine Zm (Zi (Zn (Zi ?_)))
   clear H3 B
   exact Zg [_] ⟨rfl, trivial⟩ ⟨congrArg (Value.int .i64) (by unfold arT; repeat (first | rw [if_pos om] | rw [if_neg om])), E⟩
  have X := n
  have n := Zt (Yn n)
  refine Zq ?_
  refine Zb (B _ _ ?_)
  refine Zf fun bF aR => ?_
  refine Zc (Za rfl rfl (Zd rfl) (Ze (Zb (aR _ _ ?_))))
  refine Zm (Zn (Zi ?_))
  exact Zg [_] ⟨rfl, trivial⟩ ⟨congrArg (Value.int .i64) (by unfold arT; repeat (first | rw [if_pos om] | rw [if_neg om])), E⟩
 have Q := k
 have k := Zv k
 refine Zf fun bG az => ?_
 refine Zf fun bH aS => ?_
 refine Zc (Za rfl rfl (Ya rfl rfl) (Za rfl rfl (Zd rfl) (Ze (Zb (aS _ _ ?_)))))
 refine Zo rfl (fun e => ?_) (fun e => ?_)
 ·have z := e
  have e := Zt e
  refine Zq ?_
  refine Zb (az _ _ ?_)
  refine Yx rfl z ?_
  refine Zf fun bI C => ?_
  refine Zf fun bJ Y => ?_
  refine Zc (Za rfl rfl (Zh fa77_1 rfl) (Za rfl rfl (Zl i.at_ agg3 rfl rfl) (Za rfl rfl (Ym rfl rfl) (Za rfl rfl (Zk rfl) ?_))))
  refine Zy (d := 43) rfl (fun f => ?_) (fun f => ?_)
  ·have Z := f
   have f := Zv (Yo f)
   refine Zj rfl rfl (Zj rfl rfl (Zj rfl rfl (Za rfl rfl (Zx rfl rfl) (Za rfl rfl (Zk rfl) (Zj rfl rfl (Zj rfl rfl (Zj rfl rfl ?_)))))))
   refine Za rfl rfl (Zx rfl rfl) (Ze (Zb (Y _ _ ?_)))
   refine Yg rfl ?_
   refine Zf fun bK aT => ?_
   refine Zc (Za rfl rfl (Zd rfl) (Ze (Zb (aT _ _ ?_))))
   refine Zm (Zi (Zn (Zi ?_)))
   clear H3 C
   exact Zg [_] ⟨rfl, trivial⟩ ⟨congrArg (Value.int .i64) (by unfold arT; repeat (first | rw [if_pos om] | rw [if_neg om])), E⟩
  have Z := f
  have f := Zt (Yn f)
  refine Za rfl rfl (Zh fa77_2 rfl) (Za rfl rfl (Zl i.at_ agg3 rfl rfl) (Za rfl rfl (Ym rfl rfl) (Za rfl rfl (Zz rfl rfl) (Za rfl rfl (Zk rfl) ?_))))
  refine Zy (d := 48) rfl (fun g => ?_) (fun g => ?_)
  ·have aa := g
   have g := Zv (Yo g)
   refine Zj rfl rfl (Zj rfl rfl (Zj rfl rfl (Za rfl rfl (Zx rfl rfl) (Ze (Zb (Y _ _ ?_))))))
   refine Yg rfl ?_
   refine Zf fun bL aU => ?_
   refine Zc (Za rfl rfl (Zd rfl) (Ze (Zb (aU _ _ ?_))))
   refine Zm (Zi (Zn (Zi ?_)))
   clear H3 C
   exact Zg [_] ⟨rfl, trivial⟩ ⟨congrArg (Value.int .i64) (by unfold arT; repeat (first | rw [if_pos om] | rw [if_neg om])), E⟩
  have aa := g
  have g := Zt (Yn g)
  refine Za rfl rfl (Zh fa77_3 rfl) (Za rfl rfl (Zl i.at_ agg3 rfl rfl) (Za rfl rfl (Ym rfl rfl) (Za rfl rfl (Zz rfl rfl) (Ze (Zb (Y _ _ ?_))))))
  refine Zo rfl (fun h => ?_) (fun h => ?_)
  ·have ab := h
   have h := Zv (Yo h)
   refine Zf fun bM aV => ?_
   refine Zc (Za rfl rfl (Zd rfl) (Ze (Zb (aV _ _ ?_))))
   refine Zm (Zi (Zn (Zi ?_)))
   clear H3 C
   exact Zg [_] ⟨rfl, trivial⟩ ⟨congrArg (Value.int .i64) (by unfold arT; repeat (first | rw [if_pos om] | rw [if_neg om])), E⟩
  have ab := h
  have h := Zt (Yn h)
  refine Zq ?_
  refine Zb (C _ _ ?_)
  refine Zf fun bN aW => ?_
  refine Zc (Za rfl rfl (Zd rfl) (Ze (Zb (aW _ _ ?_))))
  refine Zm (Zn (Zi ?_))
  exact Zg [_] ⟨rfl, trivial⟩ ⟨congrArg (Value.int .i64) (by unfold arT; repeat (first | rw [if_pos om] | rw [if_neg om])), E⟩
 have z := e
 have e := Zv e
 refine Zc (Za rfl rfl (Ya rfl rfl) (Za rfl rfl (Zd rfl) (Ze (Zb (az _ _ ?_)))))
 refine Zo rfl (fun e => ?_) (fun e => ?_)
 ·have ac := e
  have e := Zt e
  refine Zf fun bO D => ?_
  refine Zf fun bP ad => ?_
  refine Zc (Za rfl rfl (Zh fa77_1 rfl) (Za rfl rfl (Zl i.at_ agg3 rfl rfl) (Za rfl rfl (Ym rfl rfl) (Za rfl rfl (Zk rfl) ?_))))
  refine Zy (d := 43) rfl (fun f => ?_) (fun f => ?_)
  ·have ae := f
   have f := Zv (Yo f)
   refine Zj rfl rfl (Zj rfl rfl (Zj rfl rfl (Za rfl rfl (Zx rfl rfl) (Za rfl rfl (Zk rfl) (Zj rfl rfl (Zj rfl rfl (Zj rfl rfl ?_)))))))
   refine Za rfl rfl (Zx rfl rfl) (Ze (Zb (ad _ _ ?_)))
   refine Yg rfl ?_
   refine Zf fun bQ aX => ?_
   refine Zc (Za rfl rfl (Zd rfl) (Ze (Zb (aX _ _ ?_))))
   refine Zm (Zi (Zn (Zi ?_)))
   clear H3 D
   exact Zg [_] ⟨rfl, trivial⟩ ⟨congrArg (Value.int .i64) (by unfold arT; repeat (first | rw [if_pos om] | rw [if_neg om])), E⟩
  have ae := f
  have f := Zt (Yn f)
  refine Za rfl rfl (Zh fa77_2 rfl) (Za rfl rfl (Zl i.at_ agg3 rfl rfl) (Za rfl rfl (Ym rfl rfl) (Za rfl rfl (Zz rfl rfl) (Za rfl rfl (Zk rfl) ?_))))
  refine Zy (d := 48) rfl (fun g => ?_) (fun g => ?_)
  ·have af := g
   have g := Zv (Yo g)
   refine Zj rfl rfl (Zj rfl rfl (Zj rfl rfl (Za rfl rfl (Zx rfl rfl) (Ze (Zb (ad _ _ ?_))))))
   refine Yg rfl ?_
   refine Zf fun bR aY => ?_
   refine Zc (Za rfl rfl (Zd rfl) (Ze (Zb (aY _ _ ?_))))
   refine Zm (Zi (Zn (Zi ?_)))
   clear H3 D
   exact Zg [_] ⟨rfl, trivial⟩ ⟨congrArg (Value.int .i64) (by unfold arT; repeat (first | rw [if_pos om] | rw [if_neg om])), E⟩
  have af := g
  have g := Zt (Yn g)
  refine Za rfl rfl (Zh fa77_3 rfl) (Za rfl rfl (Zl i.at_ agg3 rfl rfl) (Za rfl rfl (Ym rfl rfl) (Za rfl rfl (Zz rfl rfl) (Ze (Zb (ad _ _ ?_))))))
  refine Zo rfl (fun h => ?_) (fun h => ?_)
  ·have ag := h
   have h := Zv (Yo h)
   refine Zf fun bS aZ => ?_
   refine Zc (Za rfl rfl (Zd rfl) (Ze (Zb (aZ _ _ ?_))))
   refine Zm (Zi (Zn (Zi ?_)))
   clear H3 D
   exact Zg [_] ⟨rfl, trivial⟩ ⟨congrArg (Value.int .i64) (by unfold arT; repeat (first | rw [if_pos om] | rw [if_neg om])), E⟩
  have ag := h
  have h := Zt (Yn h)
  refine Zq ?_
  refine Zb (D _ _ ?_)
  refine Zf fun bT a0 => ?_
  refine Zc (Za rfl rfl (Zd rfl) (Ze (Zb (a0 _ _ ?_))))
  refine Zm (Zn (Zi ?_))
  exact Zg [_] ⟨rfl, trivial⟩ ⟨congrArg (Value.int .i64) (by unfold arT; repeat (first | rw [if_pos om] | rw [if_neg om])), E⟩
 have ac := e
 have e := Zv e
 refine Zf fun bU a1 => ?_
 refine Zc (Za rfl rfl (Ya rfl rfl) (Za rfl rfl (Zd rfl) (Ze (Zb (a1 _ _ ?_)))))
 refine Zo rfl (fun o => ?_) (fun o => ?_)
 ·have ah := o
  have o := Zt o
  refine Zf fun bV F => ?_
  refine Zf fun bW ai => ?_
  refine Zc (Za rfl rfl (Zh fa77_1 rfl) (Za rfl rfl (Zl i.at_ agg3 rfl rfl) (Za rfl rfl (Ym rfl rfl) (Za rfl rfl (Zk rfl) ?_))))
  refine Zy (d := 58) rfl (fun p => ?_) (fun p => ?_)
  ·have aj := p
   have p := Zv (Yo p)
   refine Zj rfl rfl (Zj rfl rfl (Zj rfl rfl (Za rfl rfl (Zx rfl rfl) (Za rfl rfl (Zk rfl) (Zj rfl rfl (Zj rfl rfl (Zj rfl rfl ?_)))))))
   refine Za rfl rfl (Zx rfl rfl) (Ze (Zb (ai _ _ ?_)))
   refine Yg rfl ?_
   refine Zf fun bX a2 => ?_
   refine Zc (Za rfl rfl (Zd rfl) (Ze (Zb (a2 _ _ ?_))))
   refine Zm (Zi (Zn (Zi ?_)))
   clear H3 F
   exact Zg [_] ⟨rfl, trivial⟩ ⟨congrArg (Value.int .i64) (by unfold arT; repeat (first | rw [if_pos om] | rw [if_neg om])), E⟩
  have aj := p
  have p := Zt (Yn p)
  refine Za rfl rfl (Zh fa77_2 rfl) (Za rfl rfl (Zl i.at_ agg3 rfl rfl) (Za rfl rfl (Ym rfl rfl) (Za rfl rfl (Zz rfl rfl) (Za rfl rfl (Zk rfl) ?_))))
  refine Zy (d := 63) rfl (fun q => ?_) (fun q => ?_)
  ·have ak := q
   have q := Zv (Yo q)
   refine Zj rfl rfl (Zj rfl rfl (Zj rfl rfl (Za rfl rfl (Zx rfl rfl) (Ze (Zb (ai _ _ ?_))))))
   refine Yg rfl ?_
   refine Zf fun bY a3 => ?_
   refine Zc (Za rfl rfl (Zd rfl) (Ze (Zb (a3 _ _ ?_))))
   refine Zm (Zi (Zn (Zi ?_)))
   clear H3 F
   exact Zg [_] ⟨rfl, trivial⟩ ⟨congrArg (Value.int .i64) (by unfold arT; repeat (first | rw [if_pos om] | rw [if_neg om])), E⟩
  have ak := q
  have q := Zt (Yn q)
  refine Za rfl rfl (Zh fa77_3 rfl) (Za rfl rfl (Zl i.at_ agg3 rfl rfl) (Za rfl rfl (Ym rfl rfl) (Za rfl rfl (Zz rfl rfl) (Ze (Zb (ai _ _ ?_))))))
  refine Zo rfl (fun r => ?_) (fun r => ?_)
  ·have al := r
   have r := Zv (Yo r)
   refine Zf fun bZ a4 => ?_
   refine Zc (Za rfl rfl (Zd rfl) (Ze (Zb (a4 _ _ ?_))))
   refine Zm (Zi (Zn (Zi ?_)))
   clear H3 F
   exact Zg [_] ⟨rfl, trivial⟩ ⟨congrArg (Value.int .i64) (by unfold arT; repeat (first | rw [if_pos om] | rw [if_neg om])), E⟩
  have al := r
  have r := Zt (Yn r)
  refine Zq ?_
  refine Zb (F _ _ ?_)
  refine Zf fun b0 a5 => ?_
  refine Zc (Za rfl rfl (Zd rfl) (Ze (Zb (a5 _ _ ?_))))
  refine Zm (Zn (Zi ?_))
  exact Zg [_] ⟨rfl, trivial⟩ ⟨congrArg (Value.int .i64) (by unfold arT; repeat (first | rw [if_pos om] | rw [if_neg om])), E⟩
 have ah := o
 have o := Zv o
 refine Zf fun b1 a6 => ?_
 refine Zc (Za rfl rfl (Ya rfl rfl) (Za rfl rfl (Zd rfl) (Ze (Zb (a6 _ _ ?_)))))
 refine Zo rfl (fun s => ?_) (fun s => ?_)
 ·have am := s
  have s := Zt s
  refine Zf fun b2 G => ?_
  refine Zf fun b3 an => ?_
  refine Zc (Za rfl rfl (Zh fa77_1 rfl) (Za rfl rfl (Zl i.at_ agg3 rfl rfl) (Za rfl rfl (Ym rfl rfl) (Za rfl rfl (Zk rfl) ?_))))
  refine Zy (d := 73) rfl (fun u => ?_) (fun u => ?_)
  ·have ao := u
   have u := Zv (Yo u)
   refine Zj rfl rfl (Zj rfl rfl (Zj rfl rfl (Zj rfl rfl (Za rfl rfl (Zx rfl rfl) (Za rfl rfl (Zk rfl) (Zj rfl rfl (Zj rfl rfl ?_)))))))
   refine Zj rfl rfl (Zj rfl rfl (Zj rfl rfl (Zj rfl rfl (Za rfl rfl (Zx rfl rfl) (Ze (Zb (an _ _ ?_)))))))
   refine Yg rfl ?_
   refine Zf fun b4 a7 => ?_
   refine Zc (Za rfl rfl (Zd rfl) (Ze (Zb (a7 _ _ ?_))))
   refine Zm (Zi (Zn (Zi ?_)))
   clear H3 G
   exact Zg [_] ⟨rfl, trivial⟩ ⟨congrArg (Value.int .i64) (by unfold arT; repeat (first | rw [if_pos om] | rw [if_neg om])), E⟩
  have ao := u
  have u := Zt (Yn u)
  refine Za rfl rfl (Zh fa77_3 rfl) (Za rfl rfl (Zl i.at_ agg3 rfl rfl) (Zr rfl rfl ?_))
  refine Step.call (Zw (xs := [.tmp 75, .const (Go.Value.int Go.IntKind.i64 1), .const (Go.Value.int Go.IntKind.i64 3)]) fk52 rfl) (Qh _ _ _ ) fun a8 b5 ap => ?_
  obtain ⟨rfl, aq⟩ := ap
  have a9 := aq.size
  have E := E.trans aq
  refine Za rfl rfl (Qf rfl) (Za rfl rfl (Zz rfl rfl) (Za rfl rfl (Zk rfl) ?_))
  refine Zy (d := 79) rfl (fun x => ?_) (fun x => ?_)
  ·have au := x
   have x := Zv (Yo x)
   refine Zj rfl rfl (Zj rfl rfl (Zj rfl rfl (Zj rfl rfl (Zj rfl rfl (Zj rfl rfl (Za rfl rfl (Zx rfl rfl) (Ze ?_)))))))
   refine Zb (an _ _ ?_)
   refine Yg rfl ?_
   refine Zf fun b6 ba => ?_
   refine Zc (Za rfl rfl (Zd rfl) (Ze (Zb (ba _ _ ?_))))
   refine Zm (Zi (Zn (Zi ?_)))
   clear H3 G
   exact Zg [_] ⟨rfl, trivial⟩ ⟨congrArg (Value.int .i64) (by unfold arT; repeat (first | rw [if_pos om] | rw [if_neg om])), E⟩
  have au := x
  have x := Zt (Yn x)
  refine Za rfl rfl (Zh fa77_2 rfl) ?_
  have aA := i.ch0 aq
  refine Za rfl rfl (Zl aA.at_ agg3 rfl rfl) (Za rfl rfl (Zh fa77_3 rfl) (Za rfl rfl (Zl aA.at_ agg3 rfl rfl) (Zr rfl rfl ?_)))
  refine Step.call (Zw (xs := [.tmp 81, .const (Go.Value.int Go.IntKind.i64 0), .tmp 83]) fk52 rfl) (Qh _ _ _ ) fun bb b7 av => ?_
  obtain ⟨rfl, aB⟩ := av
  have bc := aB.size
  have E := E.trans aB
  refine Za rfl rfl (Qf rfl) (Za rfl rfl (Zz rfl rfl) (Ze (Zb (an _ _ ?_))))
  refine Zo rfl (fun y => ?_) (fun y => ?_)
  ·have aw := y
   have y := Zv (Yo y)
   refine Zf fun b8 be => ?_
   refine Zc (Za rfl rfl (Zd rfl) (Ze (Zb (be _ _ ?_))))
   refine Zm (Zi (Zn (Zi ?_)))
   clear H3 G
   exact Zg [_] ⟨rfl, trivial⟩ ⟨congrArg (Value.int .i64) (by unfold arT; repeat (first | rw [if_pos om] | rw [if_neg om])), E⟩
  have aw := y
  have y := Zt (Yn y)
  refine Zq ?_
  refine Zb (G _ _ ?_)
  refine Zf fun b9 bf => ?_
  refine Zc (Za rfl rfl (Zd rfl) (Ze (Zb (bf _ _ ?_))))
  refine Zm (Zn (Zi ?_))
  exact Zg [_] ⟨rfl, trivial⟩ ⟨congrArg (Value.int .i64) (by unfold arT; repeat (first | rw [if_pos om] | rw [if_neg om])), E⟩
 have am := s
 have s := Zv s
 refine Zq ?_
 refine Yc (Zb (H3 _ _ ?_))
 refine Zf fun ca bg => ?_
 refine Zc (Za rfl rfl (Zd rfl) (Ze (Zb (bg _ _ ?_))))
 refine Zm ?_
 exact Zg [_] ⟨rfl, trivial⟩ ⟨congrArg (Value.int .i64) (by unfold arT; repeat (first | rw [if_pos om] | rw [if_neg om])), E⟩

/-- spec.IsExpr -/
theorem Zcf {w : World} {LL_e q : Nat} {m : Value} {e : List Token} (h : Ls Token.cs 4 w LL_e q m e) :
 Ctr Tryd.prog 67 #[(.agg #[m])] w (fun v w' => v = .bool (isE e) ∧ Ch [] w w') := by
 obtain ⟨k, l, n⟩ := h.val
 subst n
 have G := h.len
 have h := h.here (by decide)
 have E := Ch.refl [] w
 refine Zu (N := 32) (vs0 := [(.agg #[(.slice k e.length l)])]) Tryd.func67 rfl rfl rfl ?_
 refine Zf fun K1 H1 => ?_
 refine Zc (Zr rfl rfl ?_)
 refine Yu rfl fun r W2 p C2 V => ?_
 have X := C2.size
 have E := E.trans C2
 have Y := p.lt
 replace p : Blk W2 r 50 [(.slice k e.length l)] := p
 refine Za rfl rfl (Zd rfl) (Ze (Zb (H1 _ _ ?_)))
 refine Zf fun K3 H3 => ?_
 refine Zc (Za rfl rfl (Zd rfl) (Ze (Zb (H3 _ _ ?_))))
 refine Zf fun K4 H4 => ?_
 refine Zf fun K5 H5 => ?_
 refine Zc (Za rfl rfl (Zd rfl) (Ze (Zb (H5 _ _ ?_))))
 refine Yb ?_
 refine Zaq (σ := Nat × Int × List Tr) (fun ⟨i, d, st⟩ => [(1, (.pointer (some ⟨r, 0, none⟩))), (3, (.int .i64 d)), (4, (.int .i64 ((i : Nat) : Int)))]) (fun ⟨i, d, st⟩ wx => Ch [] w wx ∧ W2.heap.size ≤ wx.heap.size ∧ (i ≤ e.length) ∧ (d = st.length) ∧ (st.length ≤ i) ∧ (prs [] (e.take i) = some st) ∧ Blk wx r 50 [(.slice k e.length l)]) (fun ⟨i, d, st⟩ => e.length - i) (0, 0, ([] : List Tr)) (sC2 rfl rfl (sC1 rfl (Sub.nil _))) ⟨E, (Nat.le_refl _), om, rfl, (Nat.le_refl _), rfl, p⟩ ?_
 rintro ⟨i, d, st⟩ R6 ⟨E, H, hi, hd, hs, hp, f⟩
 have o := E
 have D := o.size
 have s := f.lt
 refine Zf fun K7 H7 => ?_
 refine Zf fun K8 H8 => ?_
 refine Zc (Za rfl rfl (Zk rfl) (Za rfl rfl (Zh fa50_0 rfl) (Za rfl rfl (Zl f.at_ agg48 rfl rfl) (Za rfl rfl (Xg (by rw [el48]; rfl) rfl) (Za rfl rfl (Xo rfl rfl) (Ze (Zb (H8 _ _ ?_))))))))
 refine Zo rfl (fun a => ?_) (fun a => ?_)
 ·have I := a
  have a := Zt a
  refine Zq ?_
  refine Zb (H7 _ _ ?_)
  refine Zf fun Z u => ?_
  refine Yb ?_
  refine Zf fun aa J => ?_
  refine Zc (Za rfl rfl (Zh fa50_0 rfl) (Za rfl rfl (Zl f.at_ agg48 rfl rfl) (Za rfl rfl (Zk rfl) (Zr rfl rfl ?_))))
  have K := h.ch0 o
  refine (Yz K Token.len el48 sz77 rfl rfl rfl om fun L j g x => ?_)
  refine Za rfl rfl (Zp x agg77 sz77 rfl) (Zr rfl rfl ?_)
  refine Step.call (Zw (xs := [.tmp 17]) fk78 rfl) (Zbi j ) fun M ab y => ?_
  obtain ⟨rfl, z⟩ := y
  have O := z.size
  have E := E.trans z
  have P := Yt j
  refine Za rfl rfl (Zd rfl) (Ze (Zb (J _ _ ?_)))
  refine Zf fun ac A => ?_
  refine Zf fun ad F => ?_
  refine Zc (Za rfl rfl (Zk rfl) (Za rfl rfl (Xo rfl rfl) (Za rfl rfl (Zk rfl) ?_)))
  refine Zy (d := 21) rfl (fun b => ?_) (fun b => ?_)
  ·have B := b
   have b := Zt b
   refine Zj rfl rfl (Zj rfl rfl (Zj rfl rfl (Za rfl rfl (Zx rfl rfl) (Ze (Zb (F _ _ ?_))))))
   refine Yg rfl ?_
   refine Zf fun ae Q => ?_
   refine Zc (Za rfl rfl (Zd rfl) (Ze (Zb (Q _ _ ?_))))
   refine Zm (Zi (Zn (Zi (Zi (Zn (Zi ?_))))))
   clear H4 u A
   exact Zg [_] ⟨rfl, trivial⟩ ⟨congrArg Value.bool (by first | (rw [Zcx hp om, hd]; done) | exact Qg (Zbn hp g (Zbq om))), E⟩
  have B := b
  have b := Zv b
  refine Za rfl rfl (Zk rfl) (Za rfl rfl (Zk rfl) (Za rfl rfl (Zhr rfl rfl) (Za rfl rfl (Zz rfl rfl) (Ze (Zb (F _ _ ?_))))))
  refine Zo rfl (fun c => ?_) (fun c => ?_)
  ·have C := c
   have c := Zt c
   refine Zf fun af R => ?_
   refine Zc (Za rfl rfl (Zd rfl) (Ze (Zb (R _ _ ?_))))
   refine Zm (Zi (Zn (Zi (Zi (Zn (Zi ?_))))))
   clear H4 u A
   exact Zg [_] ⟨rfl, trivial⟩ ⟨congrArg Value.bool (by first | (rw [Zcx hp om, hd]; done) | exact Qg (Zbn hp g (Zbq om))), E⟩
  have C := c
  have c := Zv c
  refine Zq ?_
  refine Zb (A _ _ (Zc (Za rfl rfl (Zk rfl) (Za rfl rfl (Zk rfl) (Za rfl rfl (Zgl om rfl rfl) (Za rfl rfl (Zbg om rfl rfl) (Za rfl rfl (Zd rfl) (Ze ?_))))))))
  refine Yc (Zb (u _ _ (Zc (Za rfl rfl (Zk rfl) (Za rfl rfl (Zbg om rfl rfl) (Za rfl rfl (Zd rfl) (Ze ?_)))))))
  obtain ⟨s2, S, ag⟩ := Zfn (t := j) (st := st) om om
  have T := f.ch0 z
  exact Zb (Exists.intro ((i + 1), ((d - arT j) + 1), s2) ⟨⟨E, om, om, om, om, ((Zbz hp g).trans S), T⟩, sC2 rfl rfl (sC1 rfl (Sub.nil _)), (by first | omega | (dsimp only; omega))⟩)
 have I := a
 have a := Zv a
 refine Zap (Yh (Yh (Xu ?_)))
 refine Zb (H4 _ _ ?_)
 refine Zf fun ah U => ?_
 refine Zc (Za rfl rfl (Zk rfl) (Za rfl rfl (Ya rfl rfl) (Za rfl rfl (Zd rfl) (Ze (Zb (U _ _ ?_))))))
 refine Zm ?_
 exact Zg [_] ⟨rfl, trivial⟩ ⟨congrArg Value.bool (by first | (rw [Zcx hp om, hd]; done) | exact Qg (Zbn hp g (Zbq om))), E⟩

/-- spec.IsValidExpr -/
theorem Zab {w : World} {LL_e j : Nat} {c : Value} {e : List Token} (a : Ls Token.cs 4 w LL_e j c e) :
 Ctr Tryd.prog 46 #[(.agg #[c])] w (fun v w' => v = .bool (ivE e) ∧ Ch [] w w') := by
 obtain ⟨f, g, h⟩ := a.val
 subst h
 have k := a.len
 have a := a.here (by decide)
 have E := Ch.refl [] w
 refine Zu (N := 11) (vs0 := [(.agg #[(.slice f e.length g)])]) Tryd.func46 rfl rfl rfl ?_
 refine Zf fun K1 H1 => ?_
 refine Zc (Zr rfl rfl ?_)
 refine Yu rfl fun l W2 i C2 o => ?_
 have p := C2.size
 have E := E.trans C2
 have q := i.lt
 replace i : Blk W2 l 50 [(.slice f e.length g)] := i
 refine Za rfl rfl (Zd rfl) (Ze (Zb (H1 _ _ ?_)))
 refine Zf fun K3 H3 => ?_
 refine Zc (Za rfl rfl (Zh fa50_0 rfl) (Za rfl rfl (Zl i.at_ agg48 rfl rfl) (Za rfl rfl (Xg (by rw [el48]; rfl) rfl) (Za rfl rfl (Zfc rfl rfl) (Za rfl rfl (Zk rfl) ?_)))))
 refine Zy (d := 7) rfl (fun b => ?_) (fun b => ?_)
 ·have m := b
  have b := Zt b
  refine Za rfl rfl (Zp i.at_ agg50 sz50 rfl) (Zr rfl rfl ?_)
  have F5 := a.ch0 C2
  refine Step.call (Zw (xs := [.tmp 8]) fk67 rfl) (Zcf F5 ) fun r W6 n => ?_
  obtain ⟨rfl, C6⟩ := n
  have s := C6.size
  have E := E.trans C6
  refine Za rfl rfl (Zx rfl rfl) (Za rfl rfl (Zd rfl) (Ze (Zb (H3 _ _ ?_))))
  refine Zm ?_
  exact Zg [_] ⟨rfl, trivial⟩ ⟨congrArg Value.bool (by unfold ivE; first | (rw [decide_eq_true om]; rfl) | (rw [decide_eq_false om]; rfl)), E⟩
 have m := b
 have b := Zv b
 refine Zj rfl rfl (Zj rfl rfl (Za rfl rfl (Zz rfl rfl) (Za rfl rfl (Zd rfl) (Ze (Zb (H3 _ _ ?_))))))
 refine Zm ?_
 exact Zg [_] ⟨rfl, trivial⟩ ⟨congrArg Value.bool (by unfold ivE; first | (rw [decide_eq_true om]; rfl) | (rw [decide_eq_false om]; rfl)), E⟩

/-- spec.FormatInt -/
theorem Xl {w : World} (n : Int) (z : -9223372036854775808 ≤ n ∧ n ≤ 9223372036854775807) :
 Ctr Tryd.prog 27 #[(.int .i64 n)] w (fun v w' => v = bst (Ql n) ∧ Ch [] w w') := by
 have E := Ch.refl [] w
 refine Zu (N := 31) (vs0 := [(.int .i64 n)]) Tryd.func27 rfl rfl rfl ?_
 refine Zf fun K1 H1 => ?_
 refine Zc (Za rfl rfl (Zd rfl) (Ze (Zb (H1 _ _ ?_))))
 refine Zf fun K2 H2 => ?_
 refine Zf fun K3 H3 => ?_
 refine Zc (Za rfl rfl (Zk rfl) (Za rfl rfl (Ya rfl rfl) (Ze (Zb (H3 _ _ ?_)))))
 refine Zo rfl (fun e => ?_) (fun e => ?_)
 ·have A := e
  have e := Zt e
  refine Zf fun K5 H5 => ?_
  refine Zc (Za rfl rfl (Zd rfl) (Ze (Zb (H5 _ _ ?_))))
  refine Zm (Zi ?_)
  exact Zg [_] ⟨rfl, trivial⟩ ⟨congrArg bst (Zik e), E⟩
 have A := e
 have e := Zv e
 refine Zq ?_
 refine Zb (H2 _ _ ?_)
 refine Zf fun K6 H6 => ?_
 refine Zc (Za rfl rfl (Zd rfl) (Ze (Zb (H6 _ _ ?_))))
 refine Zf fun K7 H7 => ?_
 refine Zc (Za rfl rfl (Zk rfl) (Za rfl rfl (Xo rfl rfl) (Za rfl rfl (Zd rfl) (Ze (Zb (H7 _ _ ?_))))))
 refine Zf fun K8 H8 => ?_
 refine Yb ?_
 refine Zaq (σ := Int × List UInt8) (fun ⟨m, out⟩ => [(0, (.int .i64 m)), (2, (bst ([] : List UInt8))), (3, (bst out)), (4, (.bool (decide (n < 0))))]) (fun ⟨m, out⟩ wx => Ch [] w wx ∧ w.heap.size ≤ wx.heap.size ∧ (dgF 20 m.natAbs ++ out = dgF 20 n.natAbs) ∧ (-9223372036854775808 ≤ m ∧ m ≤ 9223372036854775807)) (fun ⟨m, out⟩ => m.natAbs) (n, ([] : List UInt8)) (sC4 rfl rfl rfl rfl (Sub.nil _)) ⟨E, (Nat.le_refl _), (by simp), z⟩ ?_
 rintro ⟨m, out⟩ R9 ⟨E, B, hm, hr⟩
 have k := E
 have r := k.size
 have C := congrArg List.length hm
 have P := Zcy 20 n.natAbs
 rw [List.length_append] at C
 refine Zf fun Q s => ?_
 refine Zf fun R D => ?_
 refine Zc (Za rfl rfl (Zk rfl) (Za rfl rfl (Ym rfl rfl) (Ze (Zb (D _ _ ?_)))))
 refine Zo rfl (fun a => ?_) (fun a => ?_)
 ·have l := a
  have a := Zv (Yo a)
  have S := tm10 m
  refine Zq ?_
  refine Zb (s _ _ ?_)
  refine Yb ?_
  refine Zf fun T F => ?_
  refine Zc (Za rfl rfl (Zk rfl) (Za rfl rfl (Ziw om rfl rfl) (Za rfl rfl (Zd rfl) (Ze (Zb (F _ _ ?_))))))
  refine Zf fun U t => ?_
  refine Zf fun V G => ?_
  refine Zc (Za rfl rfl (Zk rfl) (Za rfl rfl (Xo rfl rfl) (Ze (Zb (G _ _ ?_)))))
  refine Zo rfl (fun c => ?_) (fun c => ?_)
  ·have o := c
   have c := Zt c
   refine Zc (Za rfl rfl (Zk rfl) (Za rfl rfl (Ziq om rfl) (Za rfl rfl (Zd rfl) (Ze (Zb (t _ _ ?_))))))
   refine Zf fun X H => ?_
   refine Zc (Za rfl rfl (Zk rfl) (Za rfl rfl (Zbg om rfl rfl) (Za rfl rfl (Zcn (by rw [un3]; rfl) un5 rfl) (Zr rfl rfl ?_))))
   refine Yp (cs := ucs) (parts := [(0, .tmp 20)]) (0 : Int) [(w8 (48 + (-(m.tmod 10))))] el81 sz5 zr5 Zep (by decide) rfl rfl rfl (by decide) (by decide) rfl fun p Y d g u => ?_
   have I := u.size
   have E := E.trans u
   obtain ⟨h, i, rfl, j, f⟩ := d.opn
   refine Za rfl rfl (Zbo d.ls el81 un5 un9 rfl) (Za rfl rfl (Zk rfl) (Za rfl rfl (Yv (by (simp only [u8s, List.map_cons, List.map_nil, List.length_cons, List.length_nil]; omega)) rfl rfl) (Za rfl rfl (Zd rfl) (Ze (Zb (H _ _ (Zc (Za rfl rfl (Zk rfl) ?_))))))))
   refine Za rfl rfl (Zhs om (td10 om) rfl rfl) (Za rfl rfl (Zd rfl) (Ze (Yc ?_)))
   exact Zb (Exists.intro ((m.tdiv 10), ((u8s ([(w8 (48 + (-(m.tmod 10))))])) ++ out)) ⟨⟨E, om, (Zed hm a hr (by first | exact .inl rfl | exact .inr rfl) om), (td10 hr)⟩, sC4 rfl rfl rfl rfl (Sub.nil _), (Zhp a)⟩)
  have o := c
  have c := Zv c
  refine Zq ?_
  refine Zb (t _ _ ?_)
  refine Zf fun Z J => ?_
  refine Zc (Za rfl rfl (Zk rfl) (Za rfl rfl (Zbg om rfl rfl) (Za rfl rfl (Zcn (by rw [un3]; rfl) un5 rfl) (Zr rfl rfl ?_))))
  refine Yp (cs := ucs) (parts := [(0, .tmp 20)]) (0 : Int) [(w8 (48 + (m.tmod 10)))] el81 sz5 zr5 Zep (by decide) rfl rfl rfl (by decide) (by decide) rfl fun p aa d g x => ?_
  have K := x.size
  have E := E.trans x
  obtain ⟨h, i, rfl, j, f⟩ := d.opn
  refine Za rfl rfl (Zbo d.ls el81 un5 un9 rfl) (Za rfl rfl (Zk rfl) (Za rfl rfl (Yv (by (simp only [u8s, List.map_cons, List.map_nil, List.length_cons, List.length_nil]; omega)) rfl rfl) (Za rfl rfl (Zd rfl) (Ze (Zb (J _ _ (Zc (Za rfl rfl (Zk rfl) ?_))))))))
  refine Za rfl rfl (Zhs om (td10 om) rfl rfl) (Za rfl rfl (Zd rfl) (Ze (Yc ?_)))
  exact Zb (Exists.intro ((m.tdiv 10), ((u8s ([(w8 (48 + (m.tmod 10)))])) ++ out)) ⟨⟨E, om, (Zed hm a hr (by first | exact .inl rfl | exact .inr rfl) om), (td10 hr)⟩, sC4 rfl rfl rfl rfl (Sub.nil _), (Zhp a)⟩)
 have l := a
 have a := Zt (Yn a)
 refine Zap (Yh (Yh (Xu ?_)))
 refine Zb (H8 _ _ ?_)
 refine Zf fun ab y => ?_
 refine Zf fun ac L => ?_
 refine Zc (Za rfl rfl (Zk rfl) (Ze (Zb (L _ _ ?_))))
 refine Zo rfl (fun b => ?_) (fun b => ?_)
 ·have q := b
  have b := Zt b
  refine Zf fun ad M => ?_
  refine Zc (Za rfl rfl (Zk rfl) (Za rfl rfl (Yv (by (simp only [u8s, List.map_cons, List.map_nil, List.length_cons, List.length_nil]; omega)) rfl rfl) (Za rfl rfl (Zd rfl) (Ze (Zb (M _ _ ?_))))))
  refine Zm (Zi ?_)
  clear s y
  exact Zg [_] ⟨rfl, trivial⟩ ⟨congrArg bst (Zfr b (Zgh hm a)), E⟩
 have q := b
 have b := Zv b
 refine Zq ?_
 refine Zb (y _ _ ?_)
 refine Zf fun ae O => ?_
 refine Zc (Za rfl rfl (Zk rfl) (Za rfl rfl (Zd rfl) (Ze (Zb (O _ _ ?_)))))
 refine Zm ?_
 exact Zg [_] ⟨rfl, trivial⟩ ⟨congrArg bst (Zfu b e (Zgh hm a)), E⟩

/-- spec.FormatLetter -/
theorem Qx {w : World} (n : Int) :
 Ctr Tryd.prog 38 #[(.int .i64 n)] w (fun v w' => v = bst (fmtL n) ∧ Ch [] w w') := by
 have E := Ch.refl [] w
 refine Zu (N := 10) (vs0 := [(.int .i64 n)]) Tryd.func38 rfl rfl rfl ?_
 refine Zf fun K1 H1 => ?_
 refine Zc (Za rfl rfl (Zd rfl) (Ze (Zb (H1 _ _ ?_))))
 refine Zf fun K2 H2 => ?_
 refine Zf fun K3 H3 => ?_
 refine Zc (Za rfl rfl (Zk rfl) (Zr rfl rfl ?_))
 refine Step.call (Zw (xs := [.tmp 3]) fk63 rfl) (Qb _ ) fun m W4 e => ?_
 obtain ⟨rfl, C4⟩ := e
 have o := C4.size
 have E := E.trans C4
 refine Za rfl rfl (Qf rfl) (Ze (Zb (H3 _ _ ?_)))
 refine Zo rfl (fun a => ?_) (fun a => ?_)
 ·have f := a
  have a := Zv (Yo a)
  refine Zf fun K6 H6 => ?_
  refine Zc (Za rfl rfl (Zd rfl) (Ze (Zb (H6 _ _ ?_))))
  refine Zm (Zi ?_)
  exact Zg [_] ⟨rfl, trivial⟩ ⟨congrArg bst (Zga om), E⟩
 have f := a
 have a := Zt (Yn a)
 refine Zq ?_
 refine Zb (H2 _ _ ?_)
 refine Zf fun K7 H7 => ?_
 refine Zc (Zr rfl rfl ?_)
 refine Yp (cs := scs) (parts := [(0, .const (Go.Value.string { data := #[97] })), (1, .const (Go.Value.string { data := #[97, 45] })), (2, .const (Go.Value.string { data := #[98] })), (3, .const (Go.Value.string { data := #[98, 45] })), (4, .const (Go.Value.string { data := #[99] })), (5, .const (Go.Value.string { data := #[99, 45] })), (6, .const (Go.Value.string { data := #[48] })), (7, .const (Go.Value.string { data := #[49] })), (8, .const (Go.Value.string { data := #[50] }))]) ([] : List UInt8) [[97], [97, 45], [98], [98, 45], [99], [99, 45], [48], [49], [50]] el60 sz9 zr9 Zas (by decide) rfl rfl rfl (by decide) (by decide) rfl fun p W8 c g C8 => ?_
 have q := C8.size
 have E := E.trans C8
 obtain ⟨h, i, rfl, k, d⟩ := c.opn
 refine Za rfl rfl (Zk rfl) (Zr rfl rfl ?_)
 refine (Yz (j := n.toNat) c.ls Zas el60 sz9 rfl rfl om (by first | omega | (simp; omega)) fun r s b l => ?_)
 refine Za rfl rfl (Zav l agg9 rfl rfl) (Za rfl rfl (Zd rfl) (Ze (Zb (H7 _ _ ?_))))
 refine Zm ?_
 exact Zg [_] ⟨rfl, trivial⟩ ⟨congrArg bst (Zgf om b), E⟩

/-- spec.l8Token -/
theorem Qq {w : World} (t : Token) (hl : 0 ≤ t.low ∧ t.low ≤ 255) (hh : 0 ≤ t.high ∧ t.high ≤ 255) :
 Ctr Tryd.prog 47 #[(.agg #[(.int .i64 t.kind), (.int .i64 t.letter), (.int .i64 t.low), (.int .i64 t.high)])] w (fun v w' => v = bst (Yq t) ∧ Ch [] w w') := by
 have E := Ch.refl [] w
 have Z := Xp t.low; have aa := Xp t.high
 refine Zu (N := 30) (vs0 := [(.agg #[(.int .i64 t.kind), (.int .i64 t.letter), (.int .i64 t.low), (.int .i64 t.high)])]) Tryd.func47 rfl rfl rfl ?_
 refine Zf fun K1 H1 => ?_
 refine Zc (Zr rfl rfl ?_)
 refine Yu rfl fun A W2 h C2 ab => ?_
 have ac := C2.size
 have E := E.trans C2
 have ad := h.lt
 replace h : Blk W2 A 77 [(.int .i64 t.kind), (.int .i64 t.letter), (.int .i64 t.low), (.int .i64 t.high)] := h
 refine Za rfl rfl (Zd rfl) (Ze (Zb (H1 _ _ ?_)))
 refine Zf fun K3 H3 => ?_
 refine Zf fun K4 H4 => ?_
 refine Zc (Za rfl rfl (Zh fa77_0 rfl) (Za rfl rfl (Zl h.at_ agg3 rfl rfl) (Ze (Zb (H4 _ _ ?_)))))
 refine Yb ?_
 refine Zf fun K5 H5 => ?_
 refine Zc (Za rfl rfl (Ya rfl rfl) (Za rfl rfl (Zd rfl) (Ze (Zb (H5 _ _ ?_)))))
 refine Zo rfl (fun d => ?_) (fun d => ?_)
 ·have B := d
  have d := Zt d
  refine Zf fun K7 H7 => ?_
  refine Zc (Za rfl rfl (Zd rfl) (Ze (Zb (H7 _ _ ?_))))
  refine Zm (Zn (Zi ?_))
  exact Zg [_] ⟨rfl, trivial⟩ ⟨congrArg bst (by unfold Yq; rw [if_pos d]), E⟩
 have B := d
 have d := Zv d
 refine Zf fun K8 H8 => ?_
 refine Zc (Za rfl rfl (Ya rfl rfl) (Za rfl rfl (Zd rfl) (Ze (Zb (H8 _ _ ?_)))))
 refine Zo rfl (fun e => ?_) (fun e => ?_)
 ·have C := e
  have e := Zt e
  refine Zf fun ae D => ?_
  refine Zc (Za rfl rfl (Zd rfl) (Ze (Zb (D _ _ ?_))))
  refine Zm (Zn (Zi ?_))
  exact Zg [_] ⟨rfl, trivial⟩ ⟨congrArg bst (by unfold Yq; rw [if_neg d, if_pos e]), E⟩
 have C := e
 have e := Zv e
 refine Zf fun af F => ?_
 refine Zc (Za rfl rfl (Ya rfl rfl) (Za rfl rfl (Zd rfl) (Ze (Zb (F _ _ ?_)))))
 refine Zo rfl (fun f => ?_) (fun f => ?_)
 ·have k := f
  have f := Zt f
  refine Zf fun ag G => ?_
  refine Zc (Za rfl rfl (Zh fa77_1 rfl) (Za rfl rfl (Zl h.at_ agg3 rfl rfl) (Zr rfl rfl ?_)))
  refine Step.call (Zw (xs := [.tmp 12]) fk38 rfl) (Qx _ ) fun H ah l => ?_
  obtain ⟨rfl, x⟩ := l
  have I := x.size
  have E := E.trans x
  refine Za rfl rfl (Zd rfl) (Ze (Zb (G _ _ ?_)))
  refine Zm (Zn (Zi ?_))
  exact Zg [_] ⟨rfl, trivial⟩ ⟨congrArg bst (by unfold Yq; rw [if_neg d, if_neg e, if_pos f]), E⟩
 have k := f
 have f := Zv f
 refine Zf fun ai J => ?_
 refine Zc (Za rfl rfl (Ya rfl rfl) (Za rfl rfl (Zd rfl) (Ze (Zb (J _ _ ?_)))))
 refine Zo rfl (fun a => ?_) (fun a => ?_)
 ·have m := a
  have a := Zt a
  refine Zf fun aj K => ?_
  refine Zc (Za rfl rfl (Zd rfl) (Ze (Zb (K _ _ ?_))))
  refine Zm (Zn (Zi ?_))
  exact Zg [_] ⟨rfl, trivial⟩ ⟨congrArg bst (by unfold Yq; rw [if_neg d, if_neg e, if_neg f, if_pos a]), E⟩
 have m := a
 have a := Zv a
 refine Zf fun ak L => ?_
 refine Zc (Za rfl rfl (Ya rfl rfl) (Za rfl rfl (Zd rfl) (Ze (Zb (L _ _ ?_)))))
 refine Zo rfl (fun b => ?_) (fun b => ?_)
 ·have n := b
  have b := Zt b
  refine Zf fun al M => ?_
  refine Zc (Za rfl rfl (Zd rfl) (Ze (Zb (M _ _ ?_))))
  refine Zm (Zn (Zi ?_))
  exact Zg [_] ⟨rfl, trivial⟩ ⟨congrArg bst (by unfold Yq; rw [if_neg d, if_neg e, if_neg f, if_neg a, if_pos b]), E⟩
 have n := b
 have b := Zv b
 refine Zf fun am O => ?_
 refine Zc (Za rfl rfl (Ya rfl rfl) (Za rfl rfl (Zd rfl) (Ze (Zb (O _ _ ?_)))))
 refine Zo rfl (fun c => ?_) (fun c => ?_)
 ·have o := c
  have c := Zt c
  refine Zf fun an P => ?_
  refine Zc (Za rfl rfl (Zd rfl) (Ze (Zb (P _ _ ?_))))
  refine Zm (Zn (Zi ?_))
  exact Zg [_] ⟨rfl, trivial⟩ ⟨congrArg bst (by unfold Yq; rw [if_neg d, if_neg e, if_neg f, if_neg a, if_neg b, if_pos c]), E⟩
 have o := c
 have c := Zv c
 refine Zq ?_
 refine Yc (Zb (H3 _ _ ?_))
 refine Zf fun ao Q => ?_
 refine Zat [] 11 mixed rfl fun y p => ?_
 have R := p.size
 have E := E.trans p
 refine dV 0 rfl rfl rfl (fun _ => Zh fa77_2 rfl) ?_
 have z := h.ch0 p
 refine dT 1 rfl rfl rfl (Zan z.at_ (fun i hi => absurd hi List.not_mem_nil) agg3 rfl rfl ?_)
 refine dV 5 rfl rfl rfl (fun _ => Zh fa77_3 rfl) ?_
 refine dT 6 rfl rfl rfl (Zan z.at_ (fun i hi => absurd hi List.not_mem_nil) agg3 rfl rfl ?_)
 refine dO 2 (DO_s rfl rfl rfl ?_)
 refine Step.call (Zw (xs := [.tmp 21]) fk27 rfl) (Xl _ om) fun S T q => ?_
 obtain ⟨rfl, r⟩ := q
 have U := r.size
 have E := E.trans r
 have g : Ch [] y T := ((Ch.refl _ _).trans r)
 refine ⟨g, ?_⟩
 refine dV 3 rfl rfl rfl (fun _ => Yv (by (simp only [List.length_append, List.length_cons, List.length_nil]; omega)) rfl rfl) (dV 4 rfl rfl rfl (fun _ => Yv (by (simp only [List.length_append, List.length_cons, List.length_nil]; omega)) rfl rfl) (dO 7 (DO_s rfl rfl rfl ?_)))
 refine Step.call (Zw (xs := [.tmp 26]) fk27 rfl) (Xl _ om) fun V X s => ?_
 obtain ⟨rfl, u⟩ := s
 have Y := u.size
 have E := E.trans u
 have j : Ch [] y X := (g.trans u)
 refine ⟨j, ?_⟩
 refine dV 8 rfl rfl rfl (fun _ => Yv (by (simp only [List.length_append, List.length_cons, List.length_nil]; omega)) rfl rfl) (dV 9 rfl rfl rfl (fun _ => Yv (by (simp only [List.length_append, List.length_cons, List.length_nil]; omega)) rfl rfl) (dV 10 rfl rfl rfl (fun _ => Zd rfl) ?_))
 refine Zar (by kernel_rfl) ?_
 refine Zb (Q _ _ ?_)
 refine Zm ?_
 exact Zg [_] ⟨rfl, trivial⟩ ⟨congrArg bst (by unfold Yq; rw [if_neg d, if_neg e, if_neg f, if_neg a, if_neg b, if_neg c]), E⟩

/-- spec.FormatExpr -/
theorem Zah {w : World} {LL_e x : Nat} {o : Value} {e : List Token} (h : Ls Token.cs 4 w LL_e x o e) (hb : e.length ≤ 1048576) :
 Ctr Tryd.prog 22 #[(.agg #[o])] w (fun v w' => v = bst (exR e) ∧ Ch [] w w') := by
 obtain ⟨j, l, p⟩ := h.val
 subst p
 have K := h.len
 have h := h.here (by decide)
 have E := Ch.refl [] w
 refine Zu (N := 28) (vs0 := [(.agg #[(.slice j e.length l)])]) Tryd.func22 rfl rfl rfl ?_
 refine Zf fun K1 H1 => ?_
 refine Zc (Zr rfl rfl ?_)
 refine Yu rfl fun y W2 q C2 ae => ?_
 have af := C2.size
 have E := E.trans C2
 have ag := q.lt
 replace q : Blk W2 y 50 [(.slice j e.length l)] := q
 refine Za rfl rfl (Zd rfl) (Ze (Zb (H1 _ _ ?_)))
 refine Zf fun K3 H3 => ?_
 refine Zf fun K4 H4 => ?_
 refine Zc (Za rfl rfl (Zp q.at_ agg50 sz50 rfl) (Zr rfl rfl ?_))
 have F5 := h.ch0 C2
 refine Step.call (Zw (xs := [.tmp 5]) fk46 rfl) (Zab F5 ) fun ah W6 L => ?_
 obtain ⟨rfl, C6⟩ := L
 have ai := C6.size
 have E := E.trans C6
 refine Za rfl rfl (Qf rfl) (Ze (Zb (H4 _ _ ?_)))
 refine Zo rfl (fun i => ?_) (fun i => ?_)
 ·have M := i
  have i := Yo i
  refine Zf fun K8 H8 => ?_
  refine Zc (Za rfl rfl (Zd rfl) (Ze (Zb (H8 _ _ ?_))))
  refine Zm (Zi ?_)
  exact Zg [_] ⟨rfl, trivial⟩ ⟨congrArg bst (Zhu (by simpa using i)), E⟩
 have M := i
 have i := Yn i
 refine Zq ?_
 refine Zb (H3 _ _ ?_)
 refine Zf fun K9 H9 => ?_
 refine Zc (Za rfl rfl (Zd rfl) (Ze (Zb (H9 _ _ ?_))))
 refine Zf fun aj O => ?_
 refine Zf fun ak P => ?_
 refine Zc (Za rfl rfl (Zd rfl) (Ze (Zb (P _ _ ?_))))
 refine Yb ?_
 have Q := q.ch0 C6
 have R := F5.ch0 C6
 refine Zaq (σ := Nat × List UInt8) (fun ⟨k, s⟩ => [(1, (.pointer (some ⟨y, 0, none⟩))), (2, (bst ([] : List UInt8))), (3, (bst s)), (4, (.int .i64 ((k : Nat) : Int)))]) (fun ⟨k, s⟩ wx => Ch [] w wx ∧ W6.heap.size ≤ wx.heap.size ∧ (k ≤ e.length) ∧ (s = exS (e.take k)) ∧ Blk wx y 50 [(.slice j e.length l)] ∧ Ls Token.cs 4 wx LL_e w.heap.size (.slice j e.length l) e) (fun ⟨k, s⟩ => e.length - k) (0, ([] : List UInt8)) (sC4 rfl rfl rfl rfl (Sub.nil _)) ⟨E, (Nat.le_refl _), om, rfl, Q, R⟩ ?_
 rintro ⟨k, s⟩ al ⟨E, S, am, hs, b, g⟩
 have z := E
 have H := z.size
 have A := b.lt
 have an : s.length ≤ 46 * k := by rw [hs]; exact Zdh e k
 refine Zf fun ao T => ?_
 refine Zf fun ap U => ?_
 refine Zc (Za rfl rfl (Zk rfl) (Za rfl rfl (Zh fa50_0 rfl) (Za rfl rfl (Zl b.at_ agg48 rfl rfl) (Za rfl rfl (Xg (by rw [el48]; rfl) rfl) (Za rfl rfl (Xo rfl rfl) (Ze (Zb (U _ _ ?_))))))))
 refine Zo rfl (fun c => ?_) (fun c => ?_)
 ·have B := c
  have c := Zt c
  refine Zq ?_
  refine Zb (T _ _ ?_)
  refine Zf fun aq I => ?_
  refine Yb ?_
  refine Zf fun au J => ?_
  refine Zf fun av V => ?_
  refine Zc (Za rfl rfl (Zk rfl) (Za rfl rfl (Zhr rfl rfl) (Ze (Zb (V _ _ ?_)))))
  refine Zo rfl (fun d => ?_) (fun d => ?_)
  ·have C := d
   have d := Zt d
   refine Zc (Za rfl rfl (Zk rfl) (Za rfl rfl (Yv (by (first | omega | (simp only [List.length_append, List.length_cons, List.length_nil]; omega))) rfl rfl) (Za rfl rfl (Zd rfl) (Ze (Zb (J _ _ (Zc (Za rfl rfl (Zk rfl) ?_))))))))
   refine Za rfl rfl (Zh fa50_0 rfl) (Za rfl rfl (Zl b.at_ agg48 rfl rfl) (Za rfl rfl (Zk rfl) (Zr rfl rfl ?_)))
   refine (Yz g Token.len el48 sz77 rfl rfl rfl om fun D f a m => ?_)
   have r := Zdy i a
   have F := Zbt f
   refine Za rfl rfl (Zp m agg77 sz77 rfl) (Zr rfl rfl ?_)
   refine Step.call (Zw (xs := [.tmp 24]) fk47 rfl) (Qq f om om) fun G aw n => ?_
   obtain ⟨rfl, t⟩ := n
   have X := t.size
   have E := E.trans t
   refine Za rfl rfl (Yv (by (first | omega | (simp only [List.length_append, List.length_cons, List.length_nil]; omega))) rfl rfl) (Za rfl rfl (Zd rfl) (Ze (Yc (Zb (I _ _ (Zc (Za rfl rfl (Zk rfl) (Za rfl rfl (Zbg om rfl rfl) ?_))))))))
   refine Za rfl rfl (Zd rfl) (Ze ?_)
   have Y := b.ch0 t
   have Z := g.ch0 t
   exact Zb (Exists.intro ((k + 1), ((s ++ [32]) ++ (Yq f))) ⟨⟨E, om, om, (by rw [hs]; first | exact Zdg a om | exact Zdj a om), Y, Z⟩, sC4 rfl rfl rfl rfl (Sub.nil _), (by first | omega | (dsimp only; omega))⟩)
  have C := d
  have d := Zv d
  refine Zq ?_
  refine Zb (J _ _ (Zc (Za rfl rfl (Zk rfl) (Za rfl rfl (Zh fa50_0 rfl) (Za rfl rfl (Zl b.at_ agg48 rfl rfl) (Za rfl rfl (Zk rfl) (Zr rfl rfl ?_)))))))
  refine (Yz g Token.len el48 sz77 rfl rfl rfl om fun D f a m => ?_)
  have r := Zdy i a
  have F := Zbt f
  refine Za rfl rfl (Zp m agg77 sz77 rfl) (Zr rfl rfl ?_)
  refine Step.call (Zw (xs := [.tmp 24]) fk47 rfl) (Qq f om om) fun G ax n => ?_
  obtain ⟨rfl, u⟩ := n
  have aa := u.size
  have E := E.trans u
  refine Za rfl rfl (Yv (by (first | omega | (simp only [List.length_append, List.length_cons, List.length_nil]; omega))) rfl rfl) (Za rfl rfl (Zd rfl) (Ze (Yc (Zb (I _ _ (Zc (Za rfl rfl (Zk rfl) (Za rfl rfl (Zbg om rfl rfl) ?_))))))))
  refine Za rfl rfl (Zd rfl) (Ze ?_)
  have ab := b.ch0 u
  have ac := g.ch0 u
  exact Zb (Exists.intro ((k + 1), (s ++ (Yq f))) ⟨⟨E, om, om, (by rw [hs]; first | exact Zdg a om | exact Zdj a om), ab, ac⟩, sC4 rfl rfl rfl rfl (Sub.nil _), (by first | omega | (dsimp only; omega))⟩)
 have B := c
 have c := Zv c
 refine Zap (Yh (Yh (Xu ?_)))
 refine Zb (O _ _ ?_)
 refine Zf fun ay ad => ?_
 refine Zc (Za rfl rfl (Zk rfl) (Za rfl rfl (Zd rfl) (Ze (Zb (ad _ _ ?_)))))
 refine Zm ?_
 exact Zg [_] ⟨rfl, trivial⟩ ⟨congrArg bst (by rw [hs, List.take_of_length_le om]; exact Zhl i), E⟩

/-- laws.FnExactFormatExpr -/
theorem Xi {w : World} {LL_e H : Nat} {q : Value} {e : List Token} (f : Ls Token.cs 4 w LL_e H q e) :
 Ctr Tryd.prog 6 #[(.agg #[q])] w (fun v w' => v = .bool (true) ∧ Ch [] w w') := by
 obtain ⟨r, s, t⟩ := f.val
 subst t
 have ai := f.len
 have f := f.here (by decide)
 have E := Ch.refl [] w
 refine Zu (N := 27) (vs0 := [(.agg #[(.slice r e.length s)])]) Tryd.func6 rfl rfl rfl ?_
 refine Zf fun K1 H1 => ?_
 refine Zc (Zr rfl rfl ?_)
 refine Yu rfl fun aj W2 u C2 a0 => ?_
 have a1 := C2.size
 have E := E.trans C2
 have a2 := u.lt
 replace u : Blk W2 aj 45 [(.slice r e.length s)] := u
 refine Za rfl rfl (Zd rfl) (Ze (Zb (H1 _ _ ?_)))
 refine Zf fun K3 H3 => ?_
 refine Zc (Za rfl rfl (Zd rfl) (Ze (Zb (H3 _ _ ?_))))
 refine Zf fun K4 H4 => ?_
 refine Zc (Za rfl rfl (Zp u.at_ agg45 sz45 rfl) (Za rfl rfl (Zk rfl) (Zr rfl rfl ?_)))
 have F5 := f.ch0 C2
 refine Step.call (Zw (xs := [.tmp 7, .tmp 8]) fk21 rfl) (Zcg F5 _ om om) fun a3 W6 ak => ?_
 obtain ⟨rfl, C6⟩ := ak
 have a4 := C6.size
 have E := E.trans C6
 refine Za rfl rfl (Zd rfl) (Ze (Zb (H4 _ _ ?_)))
 refine Zf fun K7 H7 => ?_
 refine Zf fun K8 H8 => ?_
 refine Zc (Za rfl rfl (Zk rfl) (Za rfl rfl (Xo rfl rfl) (Ze (Zb (H8 _ _ ?_)))))
 refine Zo rfl (fun b => ?_) (fun b => ?_)
 ·have al := b
  have b := Zt b
  refine Zf fun a5 am => ?_
  refine Zc (Za rfl rfl (Zd rfl) (Ze (Zb (am _ _ ?_))))
  refine Zm (Zi ?_)
  exact Zg [_] ⟨rfl, trivial⟩ ⟨congrArg Value.bool (by first | rfl | (exfalso; omega) | (exfalso; revert b; simp; done) | (exfalso; revert b; simp; omega)), E⟩
 have al := b
 have b := Zv b
 refine Zq ?_
 refine Zb (H7 _ _ ?_)
 refine Zf fun a6 an => ?_
 refine Zc ?_
 have R := u.ch0 C6
 refine Za rfl rfl (Zp R.at_ agg45 sz45 rfl) (Zr rfl rfl ?_)
 have S := F5.ch0 C6
 refine Step.call (Zw (xs := [.tmp 12]) fk23 rfl) (Xh S om) fun ao a7 g => ?_
 obtain ⟨ap, rfl, g, T, B⟩ := g
 have aq := B.size
 have E := E.trans B
 obtain ⟨U, V, rfl, X, I⟩ := g.opn
 refine Zr rfl rfl ?_
 refine Step.call (Zw (xs := [.tmp 13]) fk22 rfl) (Zah g.ls om) fun au a8 J => ?_
 obtain ⟨rfl, C⟩ := J
 have av := C.size
 have E := E.trans C
 refine Za rfl rfl (Zd rfl) (Ze (Zb (an _ _ ?_)))
 refine Zf fun a9 aw => ?_
 refine Zc ?_
 have Y := (R.ch0 B).ch0 C
 refine Za rfl rfl (Zp Y.at_ agg45 sz45 rfl) (Zr rfl rfl ?_)
 have Z := (S.ch0 B).ch0 C
 refine Step.call (Zw (xs := [.tmp 15]) fk23 rfl) (Xh Z om) fun ax ba h => ?_
 obtain ⟨ay, rfl, h, x, D⟩ := h
 have az := D.size
 have E := E.trans D
 obtain ⟨k, l, rfl, aa, n⟩ := h.opn
 refine Zr rfl rfl ?_
 refine Xv zr50 fun ab aA F y bb => ?_
 have aB := y.size
 have E := E.trans y
 have bc := F.lt
 replace F : Blk aA ab 50 [(.slice none 0 0)] := F
 refine Zr rfl rfl ?_
 refine Qk (off := 0) 1 F sz50 rfl (us := [(.slice k (e).length l)]) rfl rfl rfl rfl fun aC d z => ?_
 have aD := z.size
 have E := E.step z (lS om)
 replace d : Blk aC ab 50 [(.slice k (e).length l)] := d
 refine Ze (Zb (aw _ _ ?_))
 refine Zf fun be aE => ?_
 refine Zc (Za rfl rfl (Zp d.at_ agg50 sz50 rfl) (Zr rfl rfl ?_))
 have ac := (h.ch0 y).ch z (dS x n om)
 refine Step.call (Zw (xs := [.tmp 17]) fk24 rfl) (Zag ac.ls om) fun aF bf K => ?_
 obtain ⟨rfl, o⟩ := K
 have aG := o.size
 have E := E.trans o
 refine Za rfl rfl (Zd rfl) (Ze (Zb (aE _ _ ?_)))
 refine Zf fun bg aH => ?_
 refine Zf fun bh aI => ?_
 refine Zc (Za rfl rfl (Zk rfl) (Za rfl rfl (Zk rfl) (Za rfl rfl (Zib rfl rfl) (Ze (Zb (aI _ _ ?_))))))
 refine Zo rfl (fun c => ?_) (fun c => ?_)
 ·have L := c
  have c := Zv (Yo c)
  refine Zf fun bi aJ => ?_
  refine Zc (Za rfl rfl (Zd rfl) (Ze (Zb (aJ _ _ ?_))))
  refine Zm (Zi ?_)
  exact Zg [_] ⟨rfl, trivial⟩ ⟨congrArg Value.bool (by first | rfl | (exfalso; omega) | (exfalso; revert c; simp; done) | (exfalso; revert c; simp; omega)), E⟩
 have L := c
 have c := Zt (Yn c)
 refine Zq ?_
 refine Zb (aH _ _ ?_)
 refine Zf fun bj aK => ?_
 refine Zf fun bk aL => ?_
 refine Zat [] 5 mixed rfl fun ad p => ?_
 have aM := p.size
 have E := E.trans p
 have aN := (d.ch0 o).ch0 p
 refine dT 0 rfl rfl rfl (Xe aN.at_ (fun i hi => absurd hi List.not_mem_nil) agg50 sz50 rfl ?_)
 have aO := ((((Y.ch0 D).ch0 y).ch z (nS om)).ch0 o).ch0 p
 refine dT 1 rfl rfl rfl (Xe aO.at_ (fun i hi => absurd hi List.not_mem_nil) agg45 sz45 rfl ?_)
 refine dO 2 (DO_s rfl rfl rfl ?_)
 have aP := ((((Z.ch0 D).ch0 y).ch z (oS om)).ch0 o).ch0 p
 refine Step.call (Zw (xs := [.tmp 23]) fk23 rfl) (Xh aP om) fun aQ aR j => ?_
 obtain ⟨aS, rfl, j, ae, G⟩ := j
 have aT := G.size
 have E := E.trans G
 obtain ⟨af, ag, rfl, ah, M⟩ := j.opn
 have m : Ch [] ad aR := ((Ch.refl _ _).trans G)
 refine ⟨m, ?_⟩
 refine dO 3 (DO_s rfl rfl rfl ?_)
 have aU := ((ac.ch0 o).ch0 p).ch0 G
 refine Step.call (Zw (xs := [.tmp 22, .tmp 24]) fk25 rfl) (Zce aU.ls j.ls ) fun aV aW O => ?_
 obtain ⟨rfl, P⟩ := O
 have aX := P.size
 have E := E.trans P
 have A : Ch [] ad aW := (m.trans P)
 refine ⟨A, ?_⟩
 refine dV 4 rfl rfl rfl (fun _ => Qf rfl) ?_
 refine Zar (by kernel_rfl) ?_
 refine Zb (aL _ _ ?_)
 refine Zo rfl (fun a => ?_) (fun a => ?_)
 ·have Q := a
  have a := Zv (Yo a)
  refine Zf fun bm aY => ?_
  refine Zc (Za rfl rfl (Zd rfl) (Ze (Zb (aY _ _ ?_))))
  refine Zm (Zi ?_)
  exact Zg [_] ⟨rfl, trivial⟩ ⟨congrArg Value.bool (by first | rfl | (exfalso; omega) | (exfalso; revert a; simp; done) | (exfalso; revert a; simp; omega)), E⟩
 have Q := a
 have a := Zt (Yn a)
 refine Zq ?_
 refine Zb (aK _ _ ?_)
 refine Zf fun bn aZ => ?_
 refine Zc (Za rfl rfl (Zd rfl) (Ze (Zb (aZ _ _ ?_))))
 refine Zm ?_
 exact Zg [_] ⟨rfl, trivial⟩ ⟨congrArg Value.bool (by first | rfl | (exfalso; omega) | (exfalso; revert a; simp; done) | (exfalso; revert a; simp; omega)), E⟩

end Go.Proofs.YtbnnkffdhnefnaaDoor
