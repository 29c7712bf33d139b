/- Walks of functions that FnExactParseExpr reaches: what each returns, and that it leaves the memory that was there alone. -/
import Derived.Test.YtbnnkffdhnefnaaGreatDoorLibA
import Derived.Test.YtbnnkffdhnefnaaGreatDoorLibB
import Derived.Test.YtbnnkffdhnefnaaGreatDoorProg
namespace Go.Proofs.YtbnnkffdhnefnaaGreatDoor
open Go.KLib Go.Shelf
set_option maxHeartbeats 1000000
set_option maxRecDepth 20000
set_option linter.unusedVariables false
set_option linter.unusedSimpArgs false
namespace TExactParseExpr
theorem agg22 : Yq Tryz.prog 22 = some false := by kernel_rfl
theorem agg24 : Yq Tryz.prog 24 = some true := by kernel_rfl
theorem agg3 : Yq Tryz.prog 3 = some false := by kernel_rfl
theorem agg33 : Yq Tryz.prog 33 = some true := by kernel_rfl
theorem agg79 : Yq Tryz.prog 79 = some false := by kernel_rfl
theorem agg9 : Yq Tryz.prog 9 = some false := by kernel_rfl
theorem by33 : Qu Tryz.prog 33 = some 32 := by kernel_rfl
theorem by79 : Qu Tryz.prog 79 = some 8 := by kernel_rfl
theorem by9 : Qu Tryz.prog 9 = some 16 := by kernel_rfl
theorem el22 : elB Tryz.prog 22 = some 33 := by kernel_rfl
theorem el30 : elB Tryz.prog 30 = some 9 := by kernel_rfl
theorem el66 : elB Tryz.prog 66 = some 5 := by kernel_rfl
theorem el92 : elB Tryz.prog 92 = some 79 := by kernel_rfl
theorem fa24_0 : faB Tryz.prog 24 0 = some 0 := by kernel_rfl
theorem fa33_0 : faB Tryz.prog 33 0 = some 0 := by kernel_rfl
theorem fa33_1 : faB Tryz.prog 33 1 = some 1 := by kernel_rfl
theorem fa33_2 : faB Tryz.prog 33 2 = some 2 := by kernel_rfl
theorem fa33_3 : faB Tryz.prog 33 3 = some 3 := by kernel_rfl
theorem fk10 : fnB Tryz.prog 10 = true := by kernel_rfl
theorem fk11 : fnB Tryz.prog 11 = true := by kernel_rfl
theorem fk12 : fnB Tryz.prog 12 = true := by kernel_rfl
theorem fk13 : fnB Tryz.prog 13 = true := by kernel_rfl
theorem fk14 : fnB Tryz.prog 14 = true := by kernel_rfl
theorem fk15 : fnB Tryz.prog 15 = true := by kernel_rfl
theorem fk16 : fnB Tryz.prog 16 = true := by kernel_rfl
theorem fk17 : fnB Tryz.prog 17 = true := by kernel_rfl
theorem fk18 : fnB Tryz.prog 18 = true := by kernel_rfl
theorem fk19 : fnB Tryz.prog 19 = true := by kernel_rfl
theorem fk20 : fnB Tryz.prog 20 = true := by kernel_rfl
theorem fk22 : fnB Tryz.prog 22 = true := by kernel_rfl
theorem fk23 : fnB Tryz.prog 23 = true := by kernel_rfl
theorem fk24 : fnB Tryz.prog 24 = true := by kernel_rfl
theorem fk25 : fnB Tryz.prog 25 = true := by kernel_rfl
theorem fk26 : fnB Tryz.prog 26 = true := by kernel_rfl
theorem fk27 : fnB Tryz.prog 27 = true := by kernel_rfl
theorem fk28 : fnB Tryz.prog 28 = true := by kernel_rfl
theorem fk29 : fnB Tryz.prog 29 = true := by kernel_rfl
theorem fk30 : fnB Tryz.prog 30 = true := by kernel_rfl
theorem fk31 : fnB Tryz.prog 31 = true := by kernel_rfl
theorem fk32 : fnB Tryz.prog 32 = true := by kernel_rfl
theorem fk36 : fnB Tryz.prog 36 = true := by kernel_rfl
theorem fk4 : fnB Tryz.prog 4 = true := by kernel_rfl
theorem fk45 : fnB Tryz.prog 45 = true := by kernel_rfl
theorem fk46 : fnB Tryz.prog 46 = true := by kernel_rfl
theorem fk47 : fnB Tryz.prog 47 = true := by kernel_rfl
theorem fk48 : fnB Tryz.prog 48 = true := by kernel_rfl
theorem fk49 : fnB Tryz.prog 49 = true := by kernel_rfl
theorem fk5 : fnB Tryz.prog 5 = true := by kernel_rfl
theorem fk53 : fnB Tryz.prog 53 = true := by kernel_rfl
theorem fk54 : fnB Tryz.prog 54 = true := by kernel_rfl
theorem fk59 : fnB Tryz.prog 59 = true := by kernel_rfl
theorem fk6 : fnB Tryz.prog 6 = true := by kernel_rfl
theorem fk66 : fnB Tryz.prog 66 = true := by kernel_rfl
theorem fk7 : fnB Tryz.prog 7 = true := by kernel_rfl
theorem fk8 : fnB Tryz.prog 8 = true := by kernel_rfl
theorem fk82 : fnB Tryz.prog 82 = true := by kernel_rfl
theorem fk83 : fnB Tryz.prog 83 = true := by kernel_rfl
theorem fk9 : fnB Tryz.prog 9 = true := by kernel_rfl
theorem ifc61 : ifB Tryz.prog 61 = true := by kernel_rfl
theorem ist33 : Zal Tryz.prog 33 4 = true := by kernel_rfl
theorem mixed : Tryz.prog.follows .mixedOrders = true := by kernel_rfl
theorem pl24 : Qp Tryz.prog 24 = some [(0, 1)] := by kernel_rfl
theorem pl33 : Qp Tryz.prog 33 = some [(0, 1), (1, 1), (2, 1), (3, 1)] := by kernel_rfl
theorem pl96 : Qp Tryz.prog 96 = some [(0, 4), (4, 1)] := by kernel_rfl
theorem ptr79 : ptrB Tryz.prog 79 = true := by kernel_rfl
theorem sz22 : Zz Tryz.prog 22 = some 1 := by kernel_rfl
theorem sz24 : Zz Tryz.prog 24 = some 1 := by kernel_rfl
theorem sz3 : Zz Tryz.prog 3 = some 1 := by kernel_rfl
theorem sz33 : Zz Tryz.prog 33 = some 4 := by kernel_rfl
theorem sz5 : Zz Tryz.prog 5 = some 1 := by kernel_rfl
theorem sz79 : Zz Tryz.prog 79 = some 1 := by kernel_rfl
theorem sz9 : Zz Tryz.prog 9 = some 1 := by kernel_rfl
theorem un3 : Tryz.prog.underlying 3 = some (.int .i64) := by kernel_rfl
theorem un4 : Tryz.prog.underlying 4 = some (.bool) := by kernel_rfl
theorem un5 : Tryz.prog.underlying 5 = some (.int .u8) := by kernel_rfl
theorem un9 : Tryz.prog.underlying 9 = some (.string) := by kernel_rfl
theorem zr24 : Yu Tryz.prog 24 = some (.agg #[.slice none 0 0]) := by kernel_rfl
theorem zr33 : Yu Tryz.prog 33 = some (.agg #[.int .i64 0, .int .i64 0, .int .i64 0, .int .i64 0]) := by kernel_rfl
theorem zr5 : Yu Tryz.prog 5 = some (.int .u8 0) := by kernel_rfl
theorem zr79 : Yu Tryz.prog 79 = some (.pointer none) := by kernel_rfl
theorem zr9 : Yu Tryz.prog 9 = some (.string ⟨#[]⟩) := by kernel_rfl
theorem zr96 : Yu Tryz.prog 96 = some (.agg #[.int .i64 0, .int .i64 0, .int .i64 0, .int .i64 0, .slice none 0 0]) := by kernel_rfl
end TExactParseExpr
open TExactParseExpr

/-- impl.within -/
theorem Xt {w : World} (n : Int) (a : Int) (b : Int) :
 Ctr Tryz.prog 47 #[(.int .i64 n), (.int .i64 a), (.int .i64 b)] w (fun v w' => v = .bool (decide (a ≤ n ∧ n ≤ b)) ∧ Ch [] w w') := by
 have E := Ch.refl [] w
 refine Zw (N := 15) (vs0 := [(.int .i64 n), (.int .i64 a), (.int .i64 b)]) Tryz.func47 rfl rfl rfl ?_
 refine Zf fun K1 H1 => ?_
 refine Zc (Za rfl rfl (Zd rfl) (Ze (Zb (H1 _ _ ?_))))
 refine Zf fun K2 H2 => ?_
 refine Zc (Za rfl rfl (Zg rfl) (Za rfl rfl (Zg rfl) (Za rfl rfl (Zkw rfl rfl) (Za rfl rfl (Zg rfl) ?_))))
 refine Zy (d := 10) rfl (fun c => ?_) (fun c => ?_)
 ·have e := c
  have c := Zu c
  refine Za rfl rfl (Zg rfl) (Za rfl rfl (Zg rfl) (Za rfl rfl (Zfr rfl rfl) (Za rfl rfl (Zx rfl rfl) (Za rfl rfl (Zd rfl) (Ze (Zb (H2 _ _ ?_)))))))
  refine Zl ?_
  exact Zh [_] ⟨rfl, trivial⟩ ⟨congrArg Value.bool (by first | rfl | (rw [Bool.eq_iff_iff]; simp <;> omega) | (rw [Bool.eq_iff_iff]; simp_all; done) | simp_all), E⟩
 have e := c
 have c := Zv c
 refine Zj rfl rfl (Zj rfl rfl (Zj rfl rfl (Za rfl rfl (Ya rfl rfl) (Za rfl rfl (Zd rfl) (Ze (Zb (H2 _ _ ?_)))))))
 refine Zl ?_
 exact Zh [_] ⟨rfl, trivial⟩ ⟨congrArg Value.bool (by first | rfl | (rw [Bool.eq_iff_iff]; simp <;> omega) | (rw [Bool.eq_iff_iff]; simp_all; done) | simp_all), E⟩

/-- impl.isLetter -/
theorem Zaf {w : World} (n : Int) :
 Ctr Tryz.prog 59 #[(.int .i64 n)] w (fun v w' => v = .bool (decide (0 ≤ n ∧ n ≤ 8)) ∧ Ch [] w w') := by
 have E := Ch.refl [] w
 refine Zw (N := 5) (vs0 := [(.int .i64 n)]) Tryz.func59 rfl rfl rfl ?_
 refine Zf fun K1 H1 => ?_
 refine Zc (Za rfl rfl (Zd rfl) (Ze (Zb (H1 _ _ ?_))))
 refine Zf fun K2 H2 => ?_
 refine Zc (Za rfl rfl (Zg rfl) (Zr rfl rfl ?_))
 refine Step.call (Zt (xs := [.tmp 3, .const (Go.Value.int Go.IntKind.i64 0), .const (Go.Value.int Go.IntKind.i64 8)]) fk47 rfl) (Xt _ _ _ ) fun b W3 a => ?_
 obtain ⟨rfl, C3⟩ := a
 have c := C3.size
 have E := E.trans C3
 refine Za rfl rfl (Zd rfl) (Ze (Zb (H2 _ _ ?_)))
 refine Zl ?_
 exact Zh [_] ⟨rfl, trivial⟩ ⟨congrArg Value.bool rfl, E⟩

/-- impl.tokenOk -/
theorem Zcx {w : World} (t : Token) :
 Ctr Tryz.prog 82 #[(.agg #[(.int .i64 t.kind), (.int .i64 t.letter), (.int .i64 t.low), (.int .i64 t.high)])] w (fun v w' => v = .bool (Qm t) ∧ Ch [] w w') := by
 have E := Ch.refl [] w
 refine Zw (N := 48) (vs0 := [(.agg #[(.int .i64 t.kind), (.int .i64 t.letter), (.int .i64 t.low), (.int .i64 t.high)])]) Tryz.func82 rfl rfl rfl ?_
 refine Zf fun K1 H1 => ?_
 refine Zc (Zr rfl rfl ?_)
 refine Xz rfl fun C W2 b C2 Z => ?_
 have aa := C2.size
 have E := E.trans C2
 have ab := b.lt
 replace b : Blk W2 C 33 [(.int .i64 t.kind), (.int .i64 t.letter), (.int .i64 t.low), (.int .i64 t.high)] := b
 refine Za rfl rfl (Zd rfl) (Ze (Zb (H1 _ _ ?_)))
 refine Zf fun K3 H3 => ?_
 refine Zf fun K4 H4 => ?_
 refine Zc (Za rfl rfl (Zk fa33_0 rfl) (Za rfl rfl (Zm b.at_ agg3 rfl rfl) (Ze (Zb (H4 _ _ ?_)))))
 refine Ye ?_
 refine Zf fun K5 H5 => ?_
 refine Zc (Za rfl rfl (Yk rfl rfl) (Za rfl rfl (Zd rfl) (Ze (Zb (H5 _ _ ?_)))))
 refine Zo rfl (fun i => ?_) (fun i => ?_)
 ·have D := i
  have i := Zu i
  refine Zf fun K7 H7 => ?_
  refine Zc (Za rfl rfl (Zk fa33_1 rfl) (Za rfl rfl (Zm b.at_ agg3 rfl rfl) (Zr rfl rfl ?_)))
  refine Step.call (Zt (xs := [.tmp 8]) fk59 rfl) (Zaf _ ) fun ac W8 F => ?_
  obtain ⟨rfl, C8⟩ := F
  have ad := C8.size
  have E := E.trans C8
  refine Za rfl rfl (Zg rfl) ?_
  refine Zy (d := 10) rfl (fun c => ?_) (fun c => ?_)
  ·have G := c
   have c := Zu c
   refine Za rfl rfl (Zk fa33_2 rfl) ?_
   have A := b.ch0 C8
   refine Za rfl rfl (Zm A.at_ agg3 rfl rfl) (Za rfl rfl (Yk rfl rfl) (Za rfl rfl (Zx rfl rfl) (Za rfl rfl (Zg rfl) ?_)))
   refine Zy (d := 15) rfl (fun e => ?_) (fun e => ?_)
   ·have o := e
    have e := Zu e
    refine Za rfl rfl (Zk fa33_3 rfl) (Za rfl rfl (Zm A.at_ agg3 rfl rfl) (Za rfl rfl (Yk rfl rfl) (Za rfl rfl (Zx rfl rfl) (Za rfl rfl (Zd rfl) (Ze (Zb (H7 _ _ ?_)))))))
    refine Zl (Zn (Zi ?_))
    exact Zh [_] ⟨rfl, trivial⟩ ⟨congrArg Value.bool (by rw [Bool.eq_iff_iff]; simp only [Qm, decide_eq_true_eq, Bool.false_eq_true, false_iff, true_iff, Bool.and_eq_true, List.cons.injEq, and_true, true_and, Int.not_le]; unfold arT; (repeat' split) <;> omega), E⟩
   have o := e
   have e := Zv e
   refine Zj rfl rfl (Zj rfl rfl (Zj rfl rfl (Za rfl rfl (Ya rfl rfl) (Za rfl rfl (Zd rfl) (Ze (Zb (H7 _ _ ?_)))))))
   refine Zl (Zn (Zi ?_))
   exact Zh [_] ⟨rfl, trivial⟩ ⟨congrArg Value.bool (by rw [Bool.eq_iff_iff]; simp only [Qm, decide_eq_true_eq, Bool.false_eq_true, false_iff, true_iff, Bool.and_eq_true, List.cons.injEq, and_true, true_and, Int.not_le]; unfold arT; (repeat' split) <;> omega), E⟩
  have G := c
  have c := Zv c
  refine Zj rfl rfl (Zj rfl rfl (Zj rfl rfl (Za rfl rfl (Ya rfl rfl) (Za rfl rfl (Zg rfl) (Zj rfl rfl (Zj rfl rfl (Zj rfl rfl ?_)))))))
  refine Za rfl rfl (Ya rfl rfl) (Za rfl rfl (Zd rfl) (Ze (Zb (H7 _ _ ?_))))
  refine Zl (Zn (Zi ?_))
  exact Zh [_] ⟨rfl, trivial⟩ ⟨congrArg Value.bool (by rw [Bool.eq_iff_iff]; simp only [Qm, decide_eq_true_eq, Bool.false_eq_true, false_iff, true_iff, Bool.and_eq_true, List.cons.injEq, and_true, true_and, Int.not_le]; unfold arT; (repeat' split) <;> omega), E⟩
 have D := i
 have i := Zv i
 refine Zf fun ae H => ?_
 refine Zc (Za rfl rfl (Yk rfl rfl) (Za rfl rfl (Zd rfl) (Ze (Zb (H _ _ ?_)))))
 refine Zo rfl (fun f => ?_) (fun f => ?_)
 ·have p := f
  have f := Zu f
  refine Zf fun af q => ?_
  refine Zc (Za rfl rfl (Zk fa33_1 rfl) (Za rfl rfl (Zm b.at_ agg3 rfl rfl) (Za rfl rfl (Yk rfl rfl) (Za rfl rfl (Zg rfl) ?_))))
  refine Zy (d := 25) rfl (fun g => ?_) (fun g => ?_)
  ·have r := g
   have g := Zu g
   refine Za rfl rfl (Zk fa33_2 rfl) (Za rfl rfl (Zm b.at_ agg3 rfl rfl) (Za rfl rfl (Zk fa33_3 rfl) (Za rfl rfl (Zm b.at_ agg3 rfl rfl) (Zr rfl rfl ?_))))
   refine Step.call (Zt (xs := [.tmp 27, .const (Go.Value.int Go.IntKind.i64 0), .tmp 29]) fk47 rfl) (Xt _ _ _ ) fun I ag s => ?_
   obtain ⟨rfl, u⟩ := s
   have J := u.size
   have E := E.trans u
   refine Za rfl rfl (Zx rfl rfl) (Za rfl rfl (Zg rfl) ?_)
   refine Zy (d := 32) rfl (fun h => ?_) (fun h => ?_)
   ·have x := h
    have h := Zu h
    refine Za rfl rfl (Zk fa33_3 rfl) ?_
    have K := b.ch0 u
    refine Za rfl rfl (Zm K.at_ agg3 rfl rfl) (Zr rfl rfl ?_)
    refine Step.call (Zt (xs := [.tmp 34, .const (Go.Value.int Go.IntKind.i64 1), .const (Go.Value.int Go.IntKind.i64 3)]) fk47 rfl) (Xt _ _ _ ) fun L ah y => ?_
    obtain ⟨rfl, B⟩ := y
    have M := B.size
    have E := E.trans B
    refine Za rfl rfl (Zx rfl rfl) (Za rfl rfl (Zd rfl) (Ze (Zb (q _ _ ?_))))
    refine Zl (Zn (Zi ?_))
    exact Zh [_] ⟨rfl, trivial⟩ ⟨congrArg Value.bool (by rw [Bool.eq_iff_iff]; simp only [Qm, decide_eq_true_eq, Bool.false_eq_true, false_iff, true_iff, Bool.and_eq_true, List.cons.injEq, and_true, true_and, Int.not_le]; unfold arT; (repeat' split) <;> omega), E⟩
   have x := h
   have h := Zv h
   refine Zj rfl rfl (Zj rfl rfl (Zj rfl rfl (Za rfl rfl (Ya rfl rfl) (Za rfl rfl (Zd rfl) (Ze (Zb (q _ _ ?_)))))))
   refine Zl (Zn (Zi ?_))
   exact Zh [_] ⟨rfl, trivial⟩ ⟨congrArg Value.bool (by rw [Bool.eq_iff_iff]; simp only [Qm, decide_eq_true_eq, Bool.false_eq_true, false_iff, true_iff, Bool.and_eq_true, List.cons.injEq, and_true, true_and, Int.not_le]; unfold arT; (repeat' split) <;> omega), E⟩
  have r := g
  have g := Zv g
  refine Zj rfl rfl (Zj rfl rfl (Zj rfl rfl (Zj rfl rfl (Zj rfl rfl (Za rfl rfl (Ya rfl rfl) (Za rfl rfl (Zg rfl) (Zj rfl rfl ?_)))))))
  refine Zj rfl rfl (Zj rfl rfl (Za rfl rfl (Ya rfl rfl) (Za rfl rfl (Zd rfl) (Ze (Zb (q _ _ ?_))))))
  refine Zl (Zn (Zi ?_))
  exact Zh [_] ⟨rfl, trivial⟩ ⟨congrArg Value.bool (by rw [Bool.eq_iff_iff]; simp only [Qm, decide_eq_true_eq, Bool.false_eq_true, false_iff, true_iff, Bool.and_eq_true, List.cons.injEq, and_true, true_and, Int.not_le]; unfold arT; (repeat' split) <;> omega), E⟩
 have p := f
 have f := Zv f
 refine Zf fun ai j => ?_
 refine Zf fun aj O => ?_
 refine Zc (Za rfl rfl (Yk rfl rfl) (Za rfl rfl (Zd rfl) (Ze (Zb (O _ _ ?_)))))
 refine Zo rfl (fun a => ?_) (fun a => ?_)
 ·have k := a
  have a := Zu a
  refine Zp ?_
  refine Zb (j _ _ ?_)
  refine Xy rfl k ?_
  refine Zf fun ak P => ?_
  refine Zc (Za rfl rfl (Zs b.at_ agg33 sz33 rfl) (Za rfl rfl (Zk fa33_0 rfl) (Za rfl rfl (Zm b.at_ agg3 rfl rfl) (Za rfl rfl (Yj (parts := [(0, .tmp 45)]) (cells := [(.int .i64 t.kind), (.int .i64 0), (.int .i64 0), (.int .i64 0)]) zr33 pl33 rfl rfl) (Za rfl rfl (Zdz [t.kind, t.letter, t.low, t.high] [t.kind, 0, 0, 0] ist33 rfl rfl rfl) (Za rfl rfl (Zd rfl) (Ze ?_)))))))
  refine Zb (P _ _ ?_)
  refine Zl (Zn (Zi ?_))
  exact Zh [_] ⟨rfl, trivial⟩ ⟨congrArg Value.bool (by rw [Bool.eq_iff_iff]; simp only [Qm, decide_eq_true_eq, Bool.false_eq_true, false_iff, true_iff, Bool.and_eq_true, List.cons.injEq, and_true, true_and, Int.not_le]; unfold arT; (repeat' split) <;> omega), E⟩
 have k := a
 have a := Zv a
 refine Zf fun al Q => ?_
 refine Zc (Za rfl rfl (Yk rfl rfl) (Za rfl rfl (Zd rfl) (Ze (Zb (Q _ _ ?_)))))
 refine Zo rfl (fun a => ?_) (fun a => ?_)
 ·have l := a
  have a := Zu a
  refine Zp ?_
  refine Zb (j _ _ ?_)
  refine Xy rfl l ?_
  refine Zf fun am R => ?_
  refine Zc (Za rfl rfl (Zs b.at_ agg33 sz33 rfl) (Za rfl rfl (Zk fa33_0 rfl) (Za rfl rfl (Zm b.at_ agg3 rfl rfl) (Za rfl rfl (Yj (parts := [(0, .tmp 45)]) (cells := [(.int .i64 t.kind), (.int .i64 0), (.int .i64 0), (.int .i64 0)]) zr33 pl33 rfl rfl) (Za rfl rfl (Zdz [t.kind, t.letter, t.low, t.high] [t.kind, 0, 0, 0] ist33 rfl rfl rfl) (Za rfl rfl (Zd rfl) (Ze ?_)))))))
  refine Zb (R _ _ ?_)
  refine Zl (Zn (Zi ?_))
  exact Zh [_] ⟨rfl, trivial⟩ ⟨congrArg Value.bool (by rw [Bool.eq_iff_iff]; simp only [Qm, decide_eq_true_eq, Bool.false_eq_true, false_iff, true_iff, Bool.and_eq_true, List.cons.injEq, and_true, true_and, Int.not_le]; unfold arT; (repeat' split) <;> omega), E⟩
 have l := a
 have a := Zv a
 refine Zf fun an S => ?_
 refine Zc (Za rfl rfl (Yk rfl rfl) (Za rfl rfl (Zd rfl) (Ze (Zb (S _ _ ?_)))))
 refine Zo rfl (fun a => ?_) (fun a => ?_)
 ·have m := a
  have a := Zu a
  refine Zp ?_
  refine Zb (j _ _ ?_)
  refine Xy rfl m ?_
  refine Zf fun ao T => ?_
  refine Zc (Za rfl rfl (Zs b.at_ agg33 sz33 rfl) (Za rfl rfl (Zk fa33_0 rfl) (Za rfl rfl (Zm b.at_ agg3 rfl rfl) (Za rfl rfl (Yj (parts := [(0, .tmp 45)]) (cells := [(.int .i64 t.kind), (.int .i64 0), (.int .i64 0), (.int .i64 0)]) zr33 pl33 rfl rfl) (Za rfl rfl (Zdz [t.kind, t.letter, t.low, t.high] [t.kind, 0, 0, 0] ist33 rfl rfl rfl) (Za rfl rfl (Zd rfl) (Ze ?_)))))))
  refine Zb (T _ _ ?_)
  refine Zl (Zn (Zi ?_))
  exact Zh [_] ⟨rfl, trivial⟩ ⟨congrArg Value.bool (by rw [Bool.eq_iff_iff]; simp only [Qm, decide_eq_true_eq, Bool.false_eq_true, false_iff, true_iff, Bool.and_eq_true, List.cons.injEq, and_true, true_and, Int.not_le]; unfold arT; (repeat' split) <;> omega), E⟩
 have m := a
 have a := Zv a
 refine Zf fun ap U => ?_
 refine Zc (Za rfl rfl (Yk rfl rfl) (Za rfl rfl (Zd rfl) (Ze (Zb (U _ _ ?_)))))
 refine Zo rfl (fun a => ?_) (fun a => ?_)
 ·have n := a
  have a := Zu a
  refine Zp ?_
  refine Zb (j _ _ ?_)
  refine Xy rfl n ?_
  refine Zf fun aq V => ?_
  refine Zc (Za rfl rfl (Zs b.at_ agg33 sz33 rfl) (Za rfl rfl (Zk fa33_0 rfl) (Za rfl rfl (Zm b.at_ agg3 rfl rfl) (Za rfl rfl (Yj (parts := [(0, .tmp 45)]) (cells := [(.int .i64 t.kind), (.int .i64 0), (.int .i64 0), (.int .i64 0)]) zr33 pl33 rfl rfl) (Za rfl rfl (Zdz [t.kind, t.letter, t.low, t.high] [t.kind, 0, 0, 0] ist33 rfl rfl rfl) (Za rfl rfl (Zd rfl) (Ze ?_)))))))
  refine Zb (V _ _ ?_)
  refine Zl (Zn (Zi ?_))
  exact Zh [_] ⟨rfl, trivial⟩ ⟨congrArg Value.bool (by rw [Bool.eq_iff_iff]; simp only [Qm, decide_eq_true_eq, Bool.false_eq_true, false_iff, true_iff, Bool.and_eq_true, List.cons.injEq, and_true, true_and, Int.not_le]; unfold arT; (repeat' split) <;> omega), E⟩
 have n := a
 have a := Zv a
 refine Zc (Za rfl rfl (Yk rfl rfl) (Za rfl rfl (Zd rfl) (Ze (Zb (j _ _ ?_)))))
 refine Zo rfl (fun a => ?_) (fun a => ?_)
 ·have z := a
  have a := Zu a
  refine Zf fun au X => ?_
  refine Zc (Za rfl rfl (Zs b.at_ agg33 sz33 rfl) (Za rfl rfl (Zk fa33_0 rfl) (Za rfl rfl (Zm b.at_ agg3 rfl rfl) (Za rfl rfl (Yj (parts := [(0, .tmp 45)]) (cells := [(.int .i64 t.kind), (.int .i64 0), (.int .i64 0), (.int .i64 0)]) zr33 pl33 rfl rfl) (Za rfl rfl (Zdz [t.kind, t.letter, t.low, t.high] [t.kind, 0, 0, 0] ist33 rfl rfl rfl) (Za rfl rfl (Zd rfl) (Ze ?_)))))))
  refine Zb (X _ _ ?_)
  refine Zl (Zn (Zi ?_))
  exact Zh [_] ⟨rfl, trivial⟩ ⟨congrArg Value.bool (by rw [Bool.eq_iff_iff]; simp only [Qm, decide_eq_true_eq, Bool.false_eq_true, false_iff, true_iff, Bool.and_eq_true, List.cons.injEq, and_true, true_and, Int.not_le]; unfold arT; (repeat' split) <;> omega), E⟩
 have z := a
 have a := Zv a
 refine Zp ?_
 refine Yf (Zb (H3 _ _ ?_))
 refine Zf fun av Y => ?_
 refine Zc (Za rfl rfl (Zd rfl) (Ze (Zb (Y _ _ ?_))))
 refine Zl ?_
 exact Zh [_] ⟨rfl, trivial⟩ ⟨congrArg Value.bool (by rw [Bool.eq_iff_iff]; simp only [Qm, decide_eq_true_eq, Bool.false_eq_true, false_iff, true_iff, Bool.and_eq_true, List.cons.injEq, and_true, true_and, Int.not_le]; unfold arT; (repeat' split) <;> omega), E⟩

/-- slices.Clone[[]*impl.tree,*impl.tree] -/
theorem Xh {w : World} {LL_s j : Nat} {b : Value} {s : List Addr} (a : Ls acs 1 w LL_s j b s) (hb : s.length ≤ 1048576) :
 Ctr Tryz.prog 83 #[b] w (fun v w' => Ol acs 79 1 w' v (s) ∧ Lo w.heap.size v ∧ Ch [] w w') := by
 obtain ⟨l, m, c⟩ := a.val
 subst c
 have x := a.len
 have a := a.here (by decide)
 have E := Ch.refl [] w
 refine Zw (N := 8) (vs0 := [(.slice l s.length m)]) Tryz.func83 rfl rfl rfl ?_
 refine Zf fun K1 H1 => ?_
 refine Zc (Za rfl rfl (Zd rfl) (Ze (Zb (H1 _ _ ?_))))
 refine Zf fun K2 H2 => ?_
 refine Zf fun K3 H3 => ?_
 refine Zc (Za rfl rfl (Zg rfl) (Za rfl rfl (Zke (by rw [el92]; rfl) rfl rfl) (Ze (Zb (H3 _ _ ?_)))))
 refine Zo rfl (fun d => ?_) (fun d => ?_)
 ·have y := d
  refine Zf fun K5 H5 => ?_
  refine Zc (Za rfl rfl (Zd rfl) (Ze (Zb (H5 _ _ ?_))))
  refine Zl (Zi ?_)
  have n : Ol acs 79 1 w (.slice none 0 0) (s) := by
   have hx := Ol.nil (cs := acs) (e := 79) (k := 1) w
   first | (have hn := Ls.none a d; subst hn; exact hx) | exact hx
  exact Zh [_] ⟨rfl, trivial⟩ ⟨n, Lo.nil _, E⟩
 have y := d
 refine Zp ?_
 refine Zb (H2 _ _ ?_)
 refine Zf fun K7 H7 => ?_
 refine Zc (Zr rfl rfl ?_)
 refine Xr (k := 1) acs el92 sz79 fun H W8 r f C8 => ?_
 have I := C8.size
 have E := E.trans C8
 obtain ⟨z, A, rfl, B, t⟩ := r.opn
 refine Za rfl rfl (Zg rfl) (Zr rfl rfl ?_)
 have C := a.ch0 C8
 refine Xe (cs := acs) el92 sz79 by79 zr79 rfl (by decide) Zgk r C rfl rfl bd bd f om fun D W9 h o F C9 => ?_
 have J := C9.size
 have E := E.step C9 (fun i hi => .inl (by have K := f _ hi; omega))
 replace h : Ol acs 79 1 W9 D s := h
 obtain ⟨p, q, rfl, G, u⟩ := h.opn
 refine Za rfl rfl (Zd rfl) (Ze (Zb (H7 _ _ ?_)))
 refine Zl ?_
 have g : Ol acs 79 1 W9 (.slice p (s).length q) (s) := by
  have hx := h
  first | (have hn := Ls.none a d; subst hn; exact hx) | exact hx
 exact Zh [_] ⟨rfl, trivial⟩ ⟨g, Lo.down o om, E⟩

/-- impl.treeOf -/
theorem Zdr {w : World} {LL_e ao : Nat} {O : Value} {e : List Token} (u : Ls Token.cs 4 w LL_e ao O e) (hb : e.length ≤ 1048576) :
 Ctr Tryz.prog 66 #[(.agg #[O])] w (fun v w' => ((Xn e) = none ∧ v = .pointer none ∨ ∃ t p, (Xn e) = some t ∧ v = .pointer (some p) ∧ TrAt w' w.heap.size w'.heap.size p t) ∧ Ch [] w w') := by
 obtain ⟨z, A, P⟩ := u.val
 subst P
 have a6 := u.len
 have u := u.here (by decide)
 have E := Ch.refl [] w
 refine Zw (N := 56) (vs0 := [(.agg #[(.slice z e.length A)])]) Tryz.func66 rfl rfl rfl ?_
 refine Zf fun K1 H1 => ?_
 refine Zc (Zr rfl rfl ?_)
 refine Xz rfl fun a7 W2 ak C2 b4 => ?_
 have b5 := C2.size
 have E := E.trans C2
 have b6 := ak.lt
 replace ak : Blk W2 a7 24 [(.slice z e.length A)] := ak
 refine Za rfl rfl (Zd rfl) (Ze (Zb (H1 _ _ ?_)))
 refine Zf fun K3 H3 => ?_
 refine Zc (Zr rfl rfl ?_)
 refine Xr (k := 1) acs el92 sz79 fun b7 W4 aL ap C4 => ?_
 have b8 := C4.size
 have E := E.trans C4
 obtain ⟨Q, R, rfl, a8, aM⟩ := aL.opn
 refine Za rfl rfl (Zd rfl) (Ze (Zb (H3 _ _ ?_)))
 refine Zf fun K5 H5 => ?_
 refine Zf fun K6 H6 => ?_
 refine Zc (Za rfl rfl (Zk fa24_0 rfl) ?_)
 have F7 := ak.ch0 C4
 refine Za rfl rfl (Zm F7.at_ agg22 rfl rfl) (Za rfl rfl (Qo (by rw [el22]; rfl) rfl) (Za rfl rfl (Zg rfl) (Ze (Zb (H6 _ _ ?_)))))
 refine Ye ?_
 have S : Ol acs 79 1 W4 (.slice Q (([] : List Addr)).length R) (([] : List Addr)) := by
  have hx := aL
  exact hx
 refine Xq (σ := Nat × List Addr × List Tr × Value) (fun ⟨i, ps, st, sv⟩ => [(3, sv), (11, (.slice z e.length A)), (12, (.int .i64 ((e.length : Nat) : Int))), (13, (.int .i64 ((i : Nat) : Int)))]) (fun ⟨i, ps, st, sv⟩ wx => Ch [] w wx ∧ W4.heap.size ≤ wx.heap.size ∧ (i ≤ e.length) ∧ (ps.length = st.length) ∧ (st.length ≤ i) ∧ (prs [] (e.take i) = some st) ∧ Ol acs 79 1 wx sv ps ∧ Lo W2.heap.size sv ∧ Tks wx w.heap.size sv ps st) (fun ⟨i, ps, st, sv⟩ => e.length - i) (0, ([] : List Addr), ([] : List Tr), (.slice Q (([] : List Addr)).length R)) (sC4 rfl rfl rfl rfl (Sub.nil _)) ⟨E, (Nat.le_refl _), om, rfl, (Nat.le_refl _), rfl, S, ap, (Tks.nil _ _ _)⟩ ?_
 rintro ⟨i, ps, st, sv⟩ R9 ⟨E, a9, hi, hl, hs, hp, x, m, tks⟩
 have T := E
 have aN := T.size
 obtain ⟨Asv, Csv, rfl, lsv, hisv⟩ := x.opn
 refine Zf fun b9 ba => ?_
 refine Zc (Za rfl rfl (Xp rfl rfl) (Ze (Zb (ba _ _ ?_))))
 refine Zf fun ca aO => ?_
 refine Zo rfl (fun n => ?_) (fun n => ?_)
 ·have aq := n
  have n := Zu n
  refine Zp ?_
  refine Zb (aO _ _ ?_)
  refine Zf fun cb au => ?_
  refine Ye ?_
  refine Zf fun cc bb => ?_
  refine Zc (Zr rfl rfl ?_)
  have bc := u.ch0 T
  refine (Xk bc Token.len el22 sz33 rfl rfl rfl om fun av a r aw => ?_)
  have cd := Zkb a.kind
  refine Za rfl rfl (Zs aw agg33 sz33 rfl) (Zr rfl rfl ?_)
  refine Xg zr33 fun ax be al am ce => ?_
  have bf := am.size
  have E := E.trans am
  have cf := al.lt
  replace al : Blk be ax 33 [(.int .i64 0), (.int .i64 0), (.int .i64 0), (.int .i64 0)] := al
  refine Zr rfl rfl ?_
  refine Yc (off := 0) 4 al sz33 rfl (us := [(.int .i64 a.kind), (.int .i64 a.letter), (.int .i64 a.low), (.int .i64 a.high)]) rfl rfl rfl rfl fun aP h an => ?_
  have bg := an.size
  have E := E.step an (lS om)
  replace h : Blk aP ax 33 [(.int .i64 a.kind), (.int .i64 a.letter), (.int .i64 a.low), (.int .i64 a.high)] := h
  refine Ze (Zb (bb _ _ ?_))
  refine Zf fun cg bh => ?_
  refine Zc (Za rfl rfl (Zd rfl) (Ze (Zb (bh _ _ ?_))))
  refine Zf fun bi bj => ?_
  have l : ∀ (lj : KL), Go.KLib.Sub [(3, (.slice Asv (ps).length Csv)), (5, (.pointer (some ⟨ax, 0, none⟩))), (6, (.int .i64 (arK a.kind))), (11, (.slice z e.length A)), (12, (.int .i64 ((e.length : Nat) : Int))), (13, (.int .i64 ((i : Nat) : Int))), (14, (.bool (decide (((i : Nat) : Int) < ((e.length : Nat) : Int))))), (15, (.pointer (some av))), (16, (.agg #[(.int .i64 a.kind), (.int .i64 a.letter), (.int .i64 a.low), (.int .i64 a.high)]))] lj → bi lj aP := by
   intro lj U
   refine bj _ _ (Zmb U ?_)
   refine Zf fun ci bk => ?_
   refine Zc (Za rfl rfl (Zg rfl) (Za rfl rfl (Qo (by rw [el92]; rfl) rfl) (Za rfl rfl (Zg rfl) (Za rfl rfl (Zhp om rfl rfl) (Za rfl rfl (Zd rfl) (Ze (Zb (bk _ _ ?_))))))))
   refine Zf fun cj ay => ?_
   refine Zf fun ck aQ => ?_
   refine Zc (Za rfl rfl (Zs h.at_ agg33 sz33 rfl) (Zr rfl rfl ?_))
   refine Step.call (Zt (xs := [.tmp 29]) fk82 rfl) (Zcx a ) fun bm cl az => ?_
   obtain ⟨rfl, V⟩ := az
   have bn := V.size
   have E := E.trans V
   refine Za rfl rfl (Qn rfl) (Za rfl rfl (Zg rfl) ?_)
   refine Zy (d := 32) rfl (fun f => ?_) (fun f => ?_)
   ·have aA := f
    have f := Ys f
    refine Zj rfl rfl (Zj rfl rfl (Za rfl rfl (Zx rfl rfl) (Ze (Zb (aQ _ _ ?_)))))
    refine Yn rfl ?_
    refine Zf fun cm bp => ?_
    refine Zc (Za rfl rfl (Zd rfl) (Ze (Zb (bp _ _ ?_))))
    refine Zl (Zi (Zn (Zi (Zi (Zn (Zi ?_))))))
    clear H5 au ay
    exact Zh [_] ⟨rfl, trivial⟩ ⟨.inl ⟨(by first | exact Zbk hp om om | exact Zdb hp r (Zdg (by first | exact .inl f | (right; omega)))), rfl⟩, E⟩
   have aA := f
   have f := Yr f
   refine Za rfl rfl (Zg rfl) (Za rfl rfl (Xp rfl rfl) (Za rfl rfl (Ya rfl rfl) (Ze (Zb (aQ _ _ ?_)))))
   refine Zo rfl (fun o => ?_) (fun o => ?_)
   ·have aB := o
    have o := Zu o
    refine Zf fun cn bq => ?_
    refine Zc (Za rfl rfl (Zd rfl) (Ze (Zb (bq _ _ ?_))))
    refine Zl (Zi (Zn (Zi (Zi (Zn (Zi ?_))))))
    clear H5 au ay
    exact Zh [_] ⟨rfl, trivial⟩ ⟨.inl ⟨(by first | exact Zbk hp om om | exact Zdb hp r (Zdg (by first | exact .inl f | (right; omega)))), rfl⟩, E⟩
   have aB := o
   have o := Zv o
   refine Zp ?_
   refine Zb (ay _ _ ?_)
   refine Zf fun co br => ?_
   refine Zaq [] 8 mixed rfl fun aR X => ?_
   have bs := X.size
   have E := E.trans X
   have bu := (h.ch0 V).ch0 X
   refine dT 0 rfl rfl rfl (Zbg bu.at_ (fun i hi => absurd hi List.not_mem_nil) agg33 sz33 rfl ?_)
   refine dV 1 rfl rfl rfl (fun _ => Zg rfl) (dV 2 rfl rfl rfl (fun _ => Zg rfl) ?_)
   have aS := (((x.ch0 am).ch an (dS m hisv om)).ch0 V).ch0 X
   refine dT 3 rfl rfl rfl (Zlv (ys := (ps.drop ((((ps.length : Nat) : Int) - (arK a.kind)).toNat))) ((((ps.length : Nat) : Int) - (arK a.kind)).toNat) ps.length aS Zfa el92 sz79 rfl ⟨_, _, rfl, by omega⟩ rfl om om (Zkh _ _) fun bv Y aT aU => ?_)
   obtain ⟨bw, bx, rfl, bz, bA⟩ := Y.opn
   refine dO 4 (Xd rfl rfl rfl ?_)
   refine Step.call (Zt (xs := [.tmp 39]) fk83 rfl) (Xh Y.ls om) fun bB bC B => ?_
   obtain ⟨B, Z, aa⟩ := B
   have bD := aa.size
   have E := E.trans aa
   obtain ⟨D, F, rfl, aV, aC⟩ := B.opn
   have G : Ch [] aR bC := ((Ch.refl _ _).trans aa)
   refine ⟨G, ?_⟩
   refine dV 5 rfl rfl rfl (fun _ => Yj (parts := [(0, .tmp 36), (1, .tmp 40)]) (cells := [(.int .i64 a.kind), (.int .i64 a.letter), (.int .i64 a.low), (.int .i64 a.high), (.slice D ((ps.drop ((((ps.length : Nat) : Int) - (arK a.kind)).toNat))).length F)]) zr96 pl96 rfl rfl) (dO 6 (Xd rfl rfl rfl ?_))
   refine Xz rfl fun s aW C L bE => ?_
   have bF := L.size
   have E := E.trans L
   have bG := C.lt
   replace C : Blk aW s 96 [(.int .i64 a.kind), (.int .i64 a.letter), (.int .i64 a.low), (.int .i64 a.high), (.slice D ((ps.drop ((((ps.length : Nat) : Int) - (arK a.kind)).toNat))).length F)] := C
   have ab : Ch [] aR aW := (G.trans L)
   refine ⟨ab, ?_⟩
   refine dV 7 rfl rfl rfl (fun _ => Zd rfl) ?_
   refine Xl (by kernel_rfl) ?_
   refine Zb (br _ _ (Zc (Za rfl rfl (Zg rfl) (Za rfl rfl (Zg rfl) (Zr rfl rfl ?_)))))
   have bH := (aS.ch0 aa).ch0 L
   refine (Zli (ys := (ps.take ((((ps.length : Nat) : Int) - (arK a.kind)).toNat))) 0 ((((ps.length : Nat) : Int) - (arK a.kind)).toNat) bH Zfa el92 sz79 rfl rfl ⟨_, _, rfl, by omega⟩ om om rfl fun bI ac y aX => ?_)
   obtain ⟨bJ, bK, rfl, bL, bM⟩ := ac.opn
   refine Za rfl rfl (Zg rfl) (Zr rfl rfl ?_)
   refine Zdu (parts := [(0, .tmp 46)]) [(⟨s, 0, none⟩ : Addr)] el92 sz79 zr79 rfl rfl (by decide) (by decide) rfl fun bN cp ad aY M => ?_
   have bO := M.size
   have E := E.trans M
   obtain ⟨aZ, a0, rfl, a1, aD⟩ := ad.opn
   refine Zr rfl rfl ?_
   have bP := ac.ch0 M
   refine Xe (cs := acs) el92 sz79 by79 zr79 rfl (by decide) Zgk bP ad.ls rfl rfl bd bd (fun g hg => m g (y ▸ hg)) om fun bQ bR ae af ag aE => ?_
   have bS := aE.size
   have E := E.step aE (fun i hi => .inl (by have bT := (fun g hg => m g (y ▸ hg)) _ hi; omega))
   obtain ⟨H, I, rfl, a2, aF⟩ := ae.opn
   refine Za rfl rfl (Zd rfl) (Ze (Yf (Zb (au _ _ (Zc (Za rfl rfl (Yt om rfl rfl) (Za rfl rfl (Zg rfl) (Ze ?_))))))))
   have bU := C.ch0 M
   have bV := (B.ch0 L).ch0 M
   obtain ⟨s2, bW, k2, j2⟩ := Tks.push (tok := a) tks om hisv ((((((((Ch.refl [] R9).trans am).step an (lS om)).trans V).trans X).trans aa).trans L).trans M) bU om bV (fun g hg => by have bT := Z g hg; omega) y aE ag (Zu f) om
   have J : Ol acs 79 1 bR (.slice H (((ps.take ((((ps.length : Nat) : Int) - (arK a.kind)).toNat)) ++ [(⟨s, 0, none⟩ : Addr)])).length I) (((ps.take ((((ps.length : Nat) : Int) - (arK a.kind)).toNat)) ++ [(⟨s, 0, none⟩ : Addr)])) := by
    have hx := ae
    exact hx
   exact Zb (Exists.intro ((i + 1), ((ps.take ((((ps.length : Nat) : Int) - (arK a.kind)).toNat)) ++ [(⟨s, 0, none⟩ : Addr)]), s2, (.slice H (((ps.take ((((ps.length : Nat) : Int) - (arK a.kind)).toNat)) ++ [(⟨s, 0, none⟩ : Addr)])).length I)) ⟨⟨E, om, om, (by simp only [List.length_append, List.length_take, List.length_singleton]; omega), om, ((Zdj hp r).trans bW), J, (Lo.down af om), k2⟩, sC4 rfl rfl rfl rfl (Sub.nil _), (by first | omega | (dsimp only; omega))⟩)
  refine Zf fun cq bX => ?_
  refine Zc (Za rfl rfl (Zk fa33_0 rfl) (Za rfl rfl (Zm h.at_ agg3 rfl rfl) (Ze (Zb (bX _ _ ?_)))))
  refine Ye ?_
  refine Zf fun cr a3 => ?_
  refine Zf fun ct bY => ?_
  refine Zc (Za rfl rfl (Yk rfl rfl) (Za rfl rfl (Zd rfl) (Ze (Zb (bY _ _ ?_)))))
  refine Zo rfl (fun b => ?_) (fun b => ?_)
  ·have ah := b
   have b := Zu b
   refine Zp ?_
   refine Zb (a3 _ _ ?_)
   refine Xy rfl ah ?_
   refine Zc (Za rfl rfl (Zd rfl) (Ze (Yf (Zb ?_))))
   exact l _ (Sub.cons rfl (Sub.cons rfl (Sub.cons (by unfold arK; first | rfl | (repeat (first | rw [if_pos om] | rw [if_neg om])) <;> rfl) (sC4 rfl rfl rfl rfl (sC2 rfl rfl (Sub.nil _))))))
  have ah := b
  have b := Zv b
  refine Zc (Za rfl rfl (Yk rfl rfl) (Za rfl rfl (Zd rfl) (Ze (Zb (a3 _ _ ?_)))))
  refine Zo rfl (fun b => ?_) (fun b => ?_)
  ·have aG := b
   have b := Zu b
   refine Zc (Za rfl rfl (Zd rfl) (Ze (Yf (Zb ?_))))
   exact l _ (Sub.cons rfl (Sub.cons rfl (Sub.cons (by unfold arK; first | rfl | (repeat (first | rw [if_pos om] | rw [if_neg om])) <;> rfl) (sC4 rfl rfl rfl rfl (sC2 rfl rfl (Sub.nil _))))))
  have aG := b
  have b := Zv b
  refine Zf fun cu a4 => ?_
  refine Zf fun cv bZ => ?_
  refine Zc (Za rfl rfl (Yk rfl rfl) (Za rfl rfl (Zd rfl) (Ze (Zb (bZ _ _ ?_)))))
  refine Zo rfl (fun c => ?_) (fun c => ?_)
  ·have ai := c
   have c := Zu c
   refine Zp ?_
   refine Zb (a4 _ _ ?_)
   refine Xy rfl ai ?_
   refine Zc (Za rfl rfl (Zd rfl) (Ze (Yf (Zb ?_))))
   exact l _ (Sub.cons rfl (Sub.cons rfl (Sub.cons (by unfold arK; first | rfl | (repeat (first | rw [if_pos om] | rw [if_neg om])) <;> rfl) (sC4 rfl rfl rfl rfl (sC2 rfl rfl (Sub.nil _))))))
  have ai := c
  have c := Zv c
  refine Zc (Za rfl rfl (Yk rfl rfl) (Za rfl rfl (Zd rfl) (Ze (Zb (a4 _ _ ?_)))))
  refine Zo rfl (fun c => ?_) (fun c => ?_)
  ·have aH := c
   have c := Zu c
   refine Zc (Za rfl rfl (Zd rfl) (Ze (Yf (Zb ?_))))
   exact l _ (Sub.cons rfl (Sub.cons rfl (Sub.cons (by unfold arK; first | rfl | (repeat (first | rw [if_pos om] | rw [if_neg om])) <;> rfl) (sC4 rfl rfl rfl rfl (sC2 rfl rfl (Sub.nil _))))))
  have aH := c
  have c := Zv c
  refine Zp ?_
  refine Yf (Zb ?_)
  exact l _ (Sub.cons rfl (Sub.cons rfl (Sub.cons (by unfold arK; first | rfl | (repeat (first | rw [if_pos om] | rw [if_neg om])) <;> rfl) (sC4 rfl rfl rfl rfl (sC2 rfl rfl (Sub.nil _))))))
 have aq := n
 have n := Zv n
 refine Xj (Yd (Yd (Xc ?_)))
 refine Zb (H5 _ _ ?_)
 refine Zf fun cw a5 => ?_
 refine Zf fun cx b0 => ?_
 refine Zc (Za rfl rfl (Zg rfl) (Za rfl rfl (Qo (by rw [el92]; rfl) rfl) (Za rfl rfl (Yp rfl rfl) (Ze (Zb (b0 _ _ ?_))))))
 refine Zo rfl (fun q => ?_) (fun q => ?_)
 ·have aI := q
  have q := Zv (Ys q)
  refine Zf fun cy b1 => ?_
  refine Zc (Za rfl rfl (Zd rfl) (Ze (Zb (b1 _ _ ?_))))
  refine Zl (Zi ?_)
  clear aO a5
  exact Zh [_] ⟨rfl, trivial⟩ ⟨.inl ⟨(by first | exact Zbk hp om om | exact Zdb hp r (Zdg (by first | exact .inl f | (right; omega)))), rfl⟩, E⟩
 have aI := q
 have q := Zu (Yr q)
 refine Zp ?_
 refine Zb (a5 _ _ ?_)
 refine Zf fun cz b2 => ?_
 refine Zc (Za rfl rfl (Zg rfl) (Zr rfl rfl ?_))
 refine (Xk (j := 0) x.ls Zfa el92 sz79 rfl rfl rfl om fun aJ aK aj K => ?_)
 replace K : At R9 0 R9.heap.size aJ ([(.pointer (some aK))]) := K
 obtain ⟨cA, b3, k9⟩ := tks.one om aj
 subst b3
 refine Za rfl rfl (Zae K agg79 rfl rfl) (Za rfl rfl (Zd rfl) (Ze (Zb (b2 _ _ ?_))))
 refine Zl ?_
 exact Zh [_] ⟨rfl, trivial⟩ ⟨.inr ⟨_, _, (Zfw hp om), rfl, k9⟩, E⟩

/-- impl.IsExpr -/
theorem Zdt {w : World} {LL_e k : Nat} {c : Value} {e : List Token} (a : Ls Token.cs 4 w LL_e k c e) (hb : e.length ≤ 1048576) :
 Ctr Tryz.prog 48 #[(.agg #[c])] w (fun v w' => v = .bool (isE e) ∧ Ch [] w w') := by
 obtain ⟨d, f, g⟩ := a.val
 subst g
 have q := a.len
 have a := a.here (by decide)
 have E := Ch.refl [] w
 refine Zw (N := 6) (vs0 := [(.agg #[(.slice d e.length f)])]) Tryz.func48 rfl rfl rfl ?_
 refine Zf fun K1 H1 => ?_
 refine Zc (Zr rfl rfl ?_)
 refine Xz rfl fun r W2 j C2 y => ?_
 have z := C2.size
 have E := E.trans C2
 have A := j.lt
 replace j : Blk W2 r 24 [(.slice d e.length f)] := j
 refine Za rfl rfl (Zd rfl) (Ze (Zb (H1 _ _ ?_)))
 refine Zf fun K3 H3 => ?_
 refine Zc (Za rfl rfl (Zs j.at_ agg24 sz24 rfl) (Zr rfl rfl ?_))
 have F4 := a.ch0 C2
 refine Step.call (Zt (xs := [.tmp 3]) fk66 rfl) (Zdr F4 om) fun B W5 l => ?_
 obtain ⟨l, C5⟩ := l
 have C := C5.size
 have E := E.trans C5
 rcases l with ⟨h, rfl⟩ | ⟨s, t, h, rfl, b⟩
 ·refine Za rfl rfl (Zit ptr79 rfl rfl) ?_
  refine Za rfl rfl (Zd rfl) (Ze (Zb (H3 _ _ ?_)))
  refine Zl ?_
  exact Zh [_] ⟨rfl, trivial⟩ ⟨congrArg Value.bool (by first | exact Zfm h | exact Zav h), E⟩
 replace b : TrAt W5 W2.heap.size W5.heap.size t s := b
 obtain ⟨u, x, m, n, o, i⟩ := b.open
 have p := i.1
 refine Za rfl rfl (Zit ptr79 rfl rfl) (Za rfl rfl (Zd rfl) (Ze (Zb (H3 _ _ ?_))))
 refine Zl ?_
 exact Zh [_] ⟨rfl, trivial⟩ ⟨congrArg Value.bool (by first | exact Zfm h | exact Zav h), E⟩

/-- impl.IsValidExpr -/
theorem Zbb {w : World} {LL_e j : Nat} {c : Value} {e : List Token} (a : Ls Token.cs 4 w LL_e j c e) (hb : e.length ≤ 2097152) :
 Ctr Tryz.prog 26 #[(.agg #[c])] w (fun v w' => v = .bool (ivE e) ∧ Ch [] w w') := by
 obtain ⟨f, g, h⟩ := a.val
 subst h
 have k := a.len
 have a := a.here (by decide)
 have E := Ch.refl [] w
 refine Zw (N := 11) (vs0 := [(.agg #[(.slice f e.length g)])]) Tryz.func26 rfl rfl rfl ?_
 refine Zf fun K1 H1 => ?_
 refine Zc (Zr rfl rfl ?_)
 refine Xz rfl fun l W2 i C2 o => ?_
 have p := C2.size
 have E := E.trans C2
 have q := i.lt
 replace i : Blk W2 l 24 [(.slice f e.length g)] := i
 refine Za rfl rfl (Zd rfl) (Ze (Zb (H1 _ _ ?_)))
 refine Zf fun K3 H3 => ?_
 refine Zc (Za rfl rfl (Zk fa24_0 rfl) (Za rfl rfl (Zm i.at_ agg22 rfl rfl) (Za rfl rfl (Qo (by rw [el22]; rfl) rfl) (Za rfl rfl (Zfr rfl rfl) (Za rfl rfl (Zg rfl) ?_)))))
 refine Zy (d := 7) rfl (fun b => ?_) (fun b => ?_)
 ·have m := b
  have b := Zu b
  refine Za rfl rfl (Zs i.at_ agg24 sz24 rfl) (Zr rfl rfl ?_)
  have F5 := a.ch0 C2
  refine Step.call (Zt (xs := [.tmp 8]) fk48 rfl) (Zdt F5 om) fun r W6 n => ?_
  obtain ⟨rfl, C6⟩ := n
  have s := C6.size
  have E := E.trans C6
  refine Za rfl rfl (Zx rfl rfl) (Za rfl rfl (Zd rfl) (Ze (Zb (H3 _ _ ?_))))
  refine Zl ?_
  exact Zh [_] ⟨rfl, trivial⟩ ⟨congrArg Value.bool (by unfold ivE; first | (rw [decide_eq_true om]; rfl) | (rw [decide_eq_false om]; rfl)), E⟩
 have m := b
 have b := Zv b
 refine Zj rfl rfl (Zj rfl rfl (Za rfl rfl (Ya rfl rfl) (Za rfl rfl (Zd rfl) (Ze (Zb (H3 _ _ ?_))))))
 refine Zl ?_
 exact Zh [_] ⟨rfl, trivial⟩ ⟨congrArg Value.bool (by unfold ivE; first | (rw [decide_eq_true om]; rfl) | (rw [decide_eq_false om]; rfl)), E⟩

shelf_lay Lays.n171 Nm 171 at Tryz as lay_171_46
/-- strconv.Itoa -/
theorem Zct {w : World} (n : Int) (h : 0 ≤ n ∧ n < 100) :
 Ctr Tryz.prog 46 #[(.int .i64 n)] w (fun v w' => v = bst (fmtI n) ∧ Ch [] w w') := by
 exact Zim lay_171_46 h

/-- impl.FormatInt -/
theorem Zac {w : World} (n : Int) (h : 0 ≤ n ∧ n < 100) :
 Ctr Tryz.prog 49 #[(.int .i64 n)] w (fun v w' => v = bst (fmtI n) ∧ Ch [] w w') := by
 have E := Ch.refl [] w
 refine Zw (N := 5) (vs0 := [(.int .i64 n)]) Tryz.func49 rfl rfl rfl ?_
 refine Zf fun K1 H1 => ?_
 refine Zc (Za rfl rfl (Zd rfl) (Ze (Zb (H1 _ _ ?_))))
 refine Zf fun K2 H2 => ?_
 refine Zc (Za rfl rfl (Zg rfl) (Zr rfl rfl ?_))
 refine Step.call (Zt (xs := [.tmp 3]) fk46 rfl) (Zct _ h) fun b W3 a => ?_
 obtain ⟨rfl, C3⟩ := a
 have c := C3.size
 have E := E.trans C3
 refine Za rfl rfl (Zd rfl) (Ze (Zb (H2 _ _ ?_)))
 refine Zl ?_
 exact Zh [_] ⟨rfl, trivial⟩ ⟨congrArg bst (by first | rfl | simp_all), E⟩

/-- impl.FormatLetter -/
theorem Qc {w : World} (n : Int) :
 Ctr Tryz.prog 36 #[(.int .i64 n)] w (fun v w' => v = bst (fmtL n) ∧ Ch [] w w') := by
 have E := Ch.refl [] w
 refine Zw (N := 10) (vs0 := [(.int .i64 n)]) Tryz.func36 rfl rfl rfl ?_
 refine Zf fun K1 H1 => ?_
 refine Zc (Za rfl rfl (Zd rfl) (Ze (Zb (H1 _ _ ?_))))
 refine Zf fun K2 H2 => ?_
 refine Zf fun K3 H3 => ?_
 refine Zc (Za rfl rfl (Zg rfl) (Zr rfl rfl ?_))
 refine Step.call (Zt (xs := [.tmp 3]) fk59 rfl) (Zaf _ ) fun m W4 e => ?_
 obtain ⟨rfl, C4⟩ := e
 have o := C4.size
 have E := E.trans C4
 refine Za rfl rfl (Qn rfl) (Ze (Zb (H3 _ _ ?_)))
 refine Zo rfl (fun a => ?_) (fun a => ?_)
 ·have f := a
  have a := Zv (Ys a)
  refine Zf fun K6 H6 => ?_
  refine Zc (Za rfl rfl (Zd rfl) (Ze (Zb (H6 _ _ ?_))))
  refine Zl (Zi ?_)
  exact Zh [_] ⟨rfl, trivial⟩ ⟨congrArg bst (Zja om), E⟩
 have f := a
 have a := Zu (Yr a)
 refine Zp ?_
 refine Zb (H2 _ _ ?_)
 refine Zf fun K7 H7 => ?_
 refine Zc (Zr rfl rfl ?_)
 refine Yh (cs := scs) (parts := [(0, .const (Go.Value.string { data := #[97] })), (1, .const (Go.Value.string { data := #[97, 45] })), (2, .const (Go.Value.string { data := #[98] })), (3, .const (Go.Value.string { data := #[98, 45] })), (4, .const (Go.Value.string { data := #[99] })), (5, .const (Go.Value.string { data := #[99, 45] })), (6, .const (Go.Value.string { data := #[48] })), (7, .const (Go.Value.string { data := #[49] })), (8, .const (Go.Value.string { data := #[50] }))]) ([] : List UInt8) [[97], [97, 45], [98], [98, 45], [99], [99, 45], [48], [49], [50]] el30 sz9 zr9 Qd (by decide) rfl rfl rfl (by decide) (by decide) rfl fun p W8 c g C8 => ?_
 have q := C8.size
 have E := E.trans C8
 obtain ⟨h, i, rfl, k, d⟩ := c.opn
 refine Za rfl rfl (Zg rfl) (Zr rfl rfl ?_)
 refine (Xk (j := n.toNat) c.ls Qd el30 sz9 rfl rfl om (by first | omega | (simp; omega)) fun r s b l => ?_)
 refine Za rfl rfl (Zae l agg9 rfl rfl) (Za rfl rfl (Zd rfl) (Ze (Zb (H7 _ _ ?_))))
 refine Zl ?_
 exact Zh [_] ⟨rfl, trivial⟩ ⟨congrArg bst (Zix om b), E⟩

/-- impl.tokenText -/
theorem Zbv {w : World} (t : Token) (hl : 0 ≤ t.low ∧ t.low < 100) (hh : 0 ≤ t.high ∧ t.high < 100) :
 Ctr Tryz.prog 27 #[(.agg #[(.int .i64 t.kind), (.int .i64 t.letter), (.int .i64 t.low), (.int .i64 t.high)])] w (fun v w' => v = bst (Xa t) ∧ Ch [] w w') := by
 have E := Ch.refl [] w
 have Z := Qz t.low; have aa := Qz t.high
 refine Zw (N := 30) (vs0 := [(.agg #[(.int .i64 t.kind), (.int .i64 t.letter), (.int .i64 t.low), (.int .i64 t.high)])]) Tryz.func27 rfl rfl rfl ?_
 refine Zf fun K1 H1 => ?_
 refine Zc (Zr rfl rfl ?_)
 refine Xz rfl fun A W2 h C2 ab => ?_
 have ac := C2.size
 have E := E.trans C2
 have ad := h.lt
 replace h : Blk W2 A 33 [(.int .i64 t.kind), (.int .i64 t.letter), (.int .i64 t.low), (.int .i64 t.high)] := h
 refine Za rfl rfl (Zd rfl) (Ze (Zb (H1 _ _ ?_)))
 refine Zf fun K3 H3 => ?_
 refine Zf fun K4 H4 => ?_
 refine Zc (Za rfl rfl (Zk fa33_0 rfl) (Za rfl rfl (Zm h.at_ agg3 rfl rfl) (Ze (Zb (H4 _ _ ?_)))))
 refine Ye ?_
 refine Zf fun K5 H5 => ?_
 refine Zc (Za rfl rfl (Yk rfl rfl) (Za rfl rfl (Zd rfl) (Ze (Zb (H5 _ _ ?_)))))
 refine Zo rfl (fun d => ?_) (fun d => ?_)
 ·have B := d
  have d := Zu d
  refine Zf fun K7 H7 => ?_
  refine Zc (Za rfl rfl (Zd rfl) (Ze (Zb (H7 _ _ ?_))))
  refine Zl (Zn (Zi ?_))
  exact Zh [_] ⟨rfl, trivial⟩ ⟨congrArg bst (by unfold Xa; rw [if_pos d]), E⟩
 have B := d
 have d := Zv d
 refine Zf fun K8 H8 => ?_
 refine Zc (Za rfl rfl (Yk rfl rfl) (Za rfl rfl (Zd rfl) (Ze (Zb (H8 _ _ ?_)))))
 refine Zo rfl (fun e => ?_) (fun e => ?_)
 ·have C := e
  have e := Zu e
  refine Zf fun ae D => ?_
  refine Zc (Za rfl rfl (Zd rfl) (Ze (Zb (D _ _ ?_))))
  refine Zl (Zn (Zi ?_))
  exact Zh [_] ⟨rfl, trivial⟩ ⟨congrArg bst (by unfold Xa; rw [if_neg d, if_pos e]), E⟩
 have C := e
 have e := Zv e
 refine Zf fun af F => ?_
 refine Zc (Za rfl rfl (Yk rfl rfl) (Za rfl rfl (Zd rfl) (Ze (Zb (F _ _ ?_)))))
 refine Zo rfl (fun f => ?_) (fun f => ?_)
 ·have k := f
  have f := Zu f
  refine Zf fun ag G => ?_
  refine Zc (Za rfl rfl (Zk fa33_1 rfl) (Za rfl rfl (Zm h.at_ agg3 rfl rfl) (Zr rfl rfl ?_)))
  refine Step.call (Zt (xs := [.tmp 12]) fk36 rfl) (Qc _ ) fun H ah l => ?_
  obtain ⟨rfl, x⟩ := l
  have I := x.size
  have E := E.trans x
  refine Za rfl rfl (Zd rfl) (Ze (Zb (G _ _ ?_)))
  refine Zl (Zn (Zi ?_))
  exact Zh [_] ⟨rfl, trivial⟩ ⟨congrArg bst (by unfold Xa; rw [if_neg d, if_neg e, if_pos f]), E⟩
 have k := f
 have f := Zv f
 refine Zf fun ai J => ?_
 refine Zc (Za rfl rfl (Yk rfl rfl) (Za rfl rfl (Zd rfl) (Ze (Zb (J _ _ ?_)))))
 refine Zo rfl (fun a => ?_) (fun a => ?_)
 ·have m := a
  have a := Zu a
  refine Zf fun aj K => ?_
  refine Zc (Za rfl rfl (Zd rfl) (Ze (Zb (K _ _ ?_))))
  refine Zl (Zn (Zi ?_))
  exact Zh [_] ⟨rfl, trivial⟩ ⟨congrArg bst (by unfold Xa; rw [if_neg d, if_neg e, if_neg f, if_pos a]), E⟩
 have m := a
 have a := Zv a
 refine Zf fun ak L => ?_
 refine Zc (Za rfl rfl (Yk rfl rfl) (Za rfl rfl (Zd rfl) (Ze (Zb (L _ _ ?_)))))
 refine Zo rfl (fun b => ?_) (fun b => ?_)
 ·have n := b
  have b := Zu b
  refine Zf fun al M => ?_
  refine Zc (Za rfl rfl (Zd rfl) (Ze (Zb (M _ _ ?_))))
  refine Zl (Zn (Zi ?_))
  exact Zh [_] ⟨rfl, trivial⟩ ⟨congrArg bst (by unfold Xa; rw [if_neg d, if_neg e, if_neg f, if_neg a, if_pos b]), E⟩
 have n := b
 have b := Zv b
 refine Zf fun am O => ?_
 refine Zc (Za rfl rfl (Yk rfl rfl) (Za rfl rfl (Zd rfl) (Ze (Zb (O _ _ ?_)))))
 refine Zo rfl (fun c => ?_) (fun c => ?_)
 ·have o := c
  have c := Zu c
  refine Zf fun an P => ?_
  refine Zc (Za rfl rfl (Zd rfl) (Ze (Zb (P _ _ ?_))))
  refine Zl (Zn (Zi ?_))
  exact Zh [_] ⟨rfl, trivial⟩ ⟨congrArg bst (by unfold Xa; rw [if_neg d, if_neg e, if_neg f, if_neg a, if_neg b, if_pos c]), E⟩
 have o := c
 have c := Zv c
 refine Zp ?_
 refine Yf (Zb (H3 _ _ ?_))
 refine Zf fun ao Q => ?_
 refine Zaq [] 11 mixed rfl fun y p => ?_
 have R := p.size
 have E := E.trans p
 refine dV 0 rfl rfl rfl (fun _ => Zk fa33_2 rfl) ?_
 have z := h.ch0 p
 refine dT 1 rfl rfl rfl (Zbw z.at_ (fun i hi => absurd hi List.not_mem_nil) agg3 rfl rfl ?_)
 refine dV 5 rfl rfl rfl (fun _ => Zk fa33_3 rfl) ?_
 refine dT 6 rfl rfl rfl (Zbw z.at_ (fun i hi => absurd hi List.not_mem_nil) agg3 rfl rfl ?_)
 refine dO 2 (Xd rfl rfl rfl ?_)
 refine Step.call (Zt (xs := [.tmp 21]) fk49 rfl) (Zac _ om) fun S T q => ?_
 obtain ⟨rfl, r⟩ := q
 have U := r.size
 have E := E.trans r
 have g : Ch [] y T := ((Ch.refl _ _).trans r)
 refine ⟨g, ?_⟩
 refine dV 3 rfl rfl rfl (fun _ => Qk (by (simp only [List.length_append, List.length_cons, List.length_nil]; omega)) rfl rfl) (dV 4 rfl rfl rfl (fun _ => Qk (by (simp only [List.length_append, List.length_cons, List.length_nil]; omega)) rfl rfl) (dO 7 (Xd rfl rfl rfl ?_)))
 refine Step.call (Zt (xs := [.tmp 26]) fk49 rfl) (Zac _ om) fun V X s => ?_
 obtain ⟨rfl, u⟩ := s
 have Y := u.size
 have E := E.trans u
 have j : Ch [] y X := (g.trans u)
 refine ⟨j, ?_⟩
 refine dV 8 rfl rfl rfl (fun _ => Qk (by (simp only [List.length_append, List.length_cons, List.length_nil]; omega)) rfl rfl) (dV 9 rfl rfl rfl (fun _ => Qk (by (simp only [List.length_append, List.length_cons, List.length_nil]; omega)) rfl rfl) (dV 10 rfl rfl rfl (fun _ => Zd rfl) ?_))
 refine Xl (by kernel_rfl) ?_
 refine Zb (Q _ _ ?_)
 refine Zl ?_
 exact Zh [_] ⟨rfl, trivial⟩ ⟨congrArg bst (by unfold Xa; rw [if_neg d, if_neg e, if_neg f, if_neg a, if_neg b, if_neg c]), E⟩

shelf_lay Lays.n156 Nm 156 at Tryz as lay_156_28
theorem Zmc : Builder.Extra Tryz.prog lay_156_28_ren := ⟨⟨by kernel_rfl, by kernel_rfl⟩, Tryz.underlying5, Tryz.isAgg5, Tryz.sizeOf5, Tryz.zeroValue5, by kernel_rfl, by kernel_rfl, by kernel_rfl, by decide⟩
/-- strings.Join -/
theorem Zcw {w : World} {e_xs : Nat} {a : Value} {xs : List (List UInt8)} (b : Ol scs e_xs 1 w a xs) (sep : List UInt8) (hN : xs.length ≤ 4194304) (hlen : (jnS sep xs).length ≤ 140737488355328) :
 Ctr Tryz.prog 28 #[a, (bst sep)] w (fun v w' => v = bst (jnS sep xs) ∧ Ch [] w w') := by
 exact Zhw lay_156_28 Zmc b hN hlen

/-- impl.FormatExpr -/
theorem Zbp {w : World} {LL_e K : Nat} {t : Value} {e : List Token} (d : Ls Token.cs 4 w LL_e K t e) (hb : e.length ≤ 2097152) :
 Ctr Tryz.prog 14 #[(.agg #[t])] w (fun v w' => v = bst (exR e) ∧ Ch [] w w') := by
 obtain ⟨j, l, u⟩ := d.val
 subst u
 have aj := d.len
 have d := d.here (by decide)
 have E := Ch.refl [] w
 refine Zw (N := 25) (vs0 := [(.agg #[(.slice j e.length l)])]) Tryz.func14 rfl rfl rfl ?_
 refine Zf fun K1 H1 => ?_
 refine Zc (Zr rfl rfl ?_)
 refine Xz rfl fun ak W2 x C2 aT => ?_
 have aU := C2.size
 have E := E.trans C2
 have aV := x.lt
 replace x : Blk W2 ak 24 [(.slice j e.length l)] := x
 refine Za rfl rfl (Zd rfl) (Ze (Zb (H1 _ _ ?_)))
 refine Zf fun K3 H3 => ?_
 refine Zf fun K4 H4 => ?_
 refine Zc (Za rfl rfl (Zs x.at_ agg24 sz24 rfl) (Zr rfl rfl ?_))
 have F5 := d.ch0 C2
 refine Step.call (Zt (xs := [.tmp 6]) fk26 rfl) (Zbb F5 om) fun aW W6 al => ?_
 obtain ⟨rfl, C6⟩ := al
 have aX := C6.size
 have E := E.trans C6
 refine Za rfl rfl (Qn rfl) (Ze (Zb (H4 _ _ ?_)))
 refine Zo rfl (fun h => ?_) (fun h => ?_)
 ·have am := h
  have h := Ys h
  refine Zf fun K8 H8 => ?_
  refine Zc (Za rfl rfl (Zd rfl) (Ze (Zb (H8 _ _ ?_))))
  refine Zl (Zi ?_)
  exact Zh [_] ⟨rfl, trivial⟩ ⟨congrArg bst (Zkx (by simpa using h)), E⟩
 have am := h
 have h := Yr h
 refine Zp ?_
 refine Zb (H3 _ _ ?_)
 refine Zf fun K9 H9 => ?_
 refine Zc (Zr rfl rfl ?_)
 refine Xr (k := 1) scs el30 sz9 fun aY V X L D => ?_
 have an := D.size
 have E := E.trans D
 obtain ⟨y, z, rfl, ao, Y⟩ := X.opn
 refine Za rfl rfl (Zd rfl) (Ze (Zb (H9 _ _ ?_)))
 refine Zf fun aZ ap => ?_
 refine Zf fun a0 aq => ?_
 refine Zc (Za rfl rfl (Zk fa24_0 rfl) ?_)
 have au := (x.ch0 C6).ch0 D
 refine Za rfl rfl (Zm au.at_ agg22 rfl rfl) (Za rfl rfl (Qo (by rw [el22]; rfl) rfl) (Za rfl rfl (Zg rfl) (Ze (Zb (aq _ _ ?_)))))
 refine Ye ?_
 have r : Ol scs 9 1 V (.slice y (([] : List (List UInt8))).length z) ((e.take 0).map Xa) := by
  have hx := X
  exact hx
 have av := (F5.ch0 C6).ch0 D
 refine Xq (σ := Nat × Value) (fun ⟨k, ov⟩ => [(2, (bst ([] : List UInt8))), (3, ov), (11, (.slice j e.length l)), (12, (.int .i64 ((e.length : Nat) : Int))), (13, (.int .i64 ((k : Nat) : Int)))]) (fun ⟨k, ov⟩ wx => Ch [] w wx ∧ V.heap.size ≤ wx.heap.size ∧ (k ≤ e.length) ∧ Ls Token.cs 4 wx LL_e w.heap.size (.slice j e.length l) e ∧ Ol scs 9 1 wx ov ((e.take k).map Xa) ∧ Lo W6.heap.size ov) (fun ⟨k, ov⟩ => e.length - k) (0, (.slice y (([] : List (List UInt8))).length z)) (sC4 rfl rfl rfl rfl (sC1 rfl (Sub.nil _))) ⟨E, (Nat.le_refl _), om, av, r, L⟩ ?_
 rintro ⟨k, ov⟩ a1 ⟨E, aw, a2, m, f, b⟩
 have M := E
 have Z := M.size
 obtain ⟨Aov, Cov, rfl, lov, hiov⟩ := f.opn
 refine Zf fun a3 ax => ?_
 refine Zc (Za rfl rfl (Xp rfl rfl) (Ze (Zb (ax _ _ ?_))))
 refine Zf fun a4 ay => ?_
 refine Zo rfl (fun c => ?_) (fun c => ?_)
 ·have O := c
  have c := Zu c
  refine Zp ?_
  refine Zb (ay _ _ ?_)
  refine Zf fun a5 az => ?_
  refine Ye ?_
  refine Zf fun a6 aA => ?_
  refine Zc (Zr rfl rfl ?_)
  refine (Xk m Token.len el22 sz33 rfl rfl rfl om fun aB a n P => ?_)
  have aa := Zle h n
  refine Za rfl rfl (Zs P agg33 sz33 rfl) (Zr rfl rfl ?_)
  refine Xg zr33 fun ab aC F G a7 => ?_
  have aD := G.size
  have E := E.trans G
  have a8 := F.lt
  replace F : Blk aC ab 33 [(.int .i64 0), (.int .i64 0), (.int .i64 0), (.int .i64 0)] := F
  refine Zr rfl rfl ?_
  refine Yc (off := 0) 4 F sz33 rfl (us := [(.int .i64 a.kind), (.int .i64 a.letter), (.int .i64 a.low), (.int .i64 a.high)]) rfl rfl rfl rfl fun aE g H => ?_
  have aF := H.size
  have E := E.step H (lS om)
  replace g : Blk aE ab 33 [(.int .i64 a.kind), (.int .i64 a.letter), (.int .i64 a.low), (.int .i64 a.high)] := g
  refine Ze (Zb (aA _ _ (Zc (Za rfl rfl (Zg rfl) (Za rfl rfl (Zs g.at_ agg33 sz33 rfl) (Zr rfl rfl ?_))))))
  refine Step.call (Zt (xs := [.tmp 18]) fk27 rfl) (Zbv a om om) fun aG a9 Q => ?_
  obtain ⟨rfl, I⟩ := Q
  have aH := I.size
  have E := E.trans I
  refine Zr rfl rfl ?_
  refine Yh (cs := scs) (parts := [(0, .tmp 19)]) ([] : List UInt8) [(Xa a)] el30 sz9 zr9 Qd (by decide) rfl rfl rfl (by decide) (by decide) rfl fun aI ba A ac J => ?_
  have aJ := J.size
  have E := E.trans J
  obtain ⟨ad, ae, rfl, af, R⟩ := A.opn
  refine Zr rfl rfl ?_
  have aK := (((f.ch0 G).ch H (dS b hiov om)).ch0 I).ch0 J
  refine Xe (cs := scs) el30 sz9 by9 zr9 rfl (by decide) Zfe aK A.ls rfl rfl (by simp only [List.length_map, List.length_take, List.length_singleton]; omega) (by simp only [List.length_map, List.length_take, List.length_singleton]; omega) b om fun aL aM B C ag S => ?_
  have aN := S.size
  have E := E.step S (fun i hi => .inl (by have aO := b _ hi; omega))
  obtain ⟨o, p, rfl, ah, T⟩ := B.opn
  refine Za rfl rfl (Zd rfl) (Ze (Yf (Zb (az _ _ (Zc (Za rfl rfl (Yt om rfl rfl) (Za rfl rfl (Zg rfl) (Ze ?_))))))))
  have s : Ol scs 9 1 aM (.slice o (((e.take k).map Xa ++ [(Xa a)])).length p) ((e.take (k + 1)).map Xa) := by
   have hx := B
   exact hx.eq (Yx n)
  have aP := ((((m.ch0 G).ch H (oS om)).ch0 I).ch0 J).ch S (fun i hi => by have aO := b _ hi; omega)
  exact Zb (Exists.intro ((k + 1), (.slice o (((e.take k).map Xa ++ [(Xa a)])).length p)) ⟨⟨E, om, om, aP, s, (Lo.down C om)⟩, sC4 rfl rfl rfl rfl (sC1 rfl (Sub.nil _)), (by first | omega | (dsimp only; omega))⟩)
 have O := c
 have c := Zv c
 refine Xj (Yd (Yd (Xc ?_)))
 refine Zb (ap _ _ ?_)
 refine Zf fun bb aQ => ?_
 refine Zc (Za rfl rfl (Zg rfl) (Zr rfl rfl ?_))
 refine Step.call (Zt (xs := [.tmp 23, .const (Go.Value.string { data := #[32] })]) fk28 rfl) (Zcw f ([32]) (by rw [List.length_map, List.length_take]; omega) (by have q := Zin e k; unfold exS at q; omega)) fun aR bc U => ?_
 obtain ⟨rfl, ai⟩ := U
 have aS := ai.size
 have E := E.trans ai
 refine Za rfl rfl (Zd rfl) (Ze (Zb (aQ _ _ ?_)))
 refine Zl ?_
 exact Zh [_] ⟨rfl, trivial⟩ ⟨congrArg bst (by rw [List.take_of_length_le om]; exact Zjl h), E⟩

shelf_lay LaysC.n172 Nm 172 at Tryz as lay_c172_45
shelf_lay Lays.n172 Nm 172 at Tryz as lay_172_45
/-- strconv.Atoi -/
theorem Zcv {w : World} (s : List UInt8) (hG : GS Tryz.prog 0 w) (hb : s.length ≤ 18) :
 Ctr Tryz.prog 45 #[(bst s)] w (fun v w' => ∃ e, v = .tuple #[.int .i64 (aiN s), e] ∧ ErrB e (Lib.atoi s).isNone ∧ Ch [] w w') := by
 exact Zlw lay_c172_45 lay_172_45 hG hb

shelf_lay LaysM.n171 Nm 171 at Tryz as lay_m171_46
/-- strconv.Itoa@all -/
theorem Zbc {w : World} (n : Int) (hG : GS Tryz.prog 0 w) (hn : -9223372036854775808 ≤ n ∧ n ≤ 9223372036854775807) :
 Ctr Tryz.prog 46 #[(.int .i64 n)] w (fun v w' => v = bst (Lib.itoa n) ∧ Ch [] w w') := by
 exact Zlt lay_m171_46 hG hn

/-- impl.ParseInt -/
theorem Zag {w : World} (s : List UInt8) (hG : GS Tryz.prog 0 w) :
 Ctr Tryz.prog 25 #[(bst s)] w (fun v w' => v = .tuple #[.int .i64 ((piR s).1), .bool ((piR s).2)] ∧ Ch [] w w') := by
 have E := Ch.refl [] w
 refine Zw (N := 28) (vs0 := [(bst s)]) Tryz.func25 rfl rfl rfl ?_
 refine Zf fun K1 H1 => ?_
 refine Zc (Za rfl rfl (Zd rfl) (Za rfl rfl (Zd rfl) (Ze (Zb (H1 _ _ ?_)))))
 refine Zf fun K2 H2 => ?_
 refine Zf fun K3 H3 => ?_
 refine Zc (Za rfl rfl (Zg rfl) (Za rfl rfl (Zfi un9 rfl) (Za rfl rfl (Zjj rfl rfl) (Ze (Zb (H3 _ _ ?_))))))
 refine Zo rfl (fun e => ?_) (fun e => ?_)
 ·have o := e
  have e := Zu e
  refine Zf fun K5 H5 => ?_
  refine Zc (Za rfl rfl (Zd rfl) (Za rfl rfl (Zd rfl) (Ze (Zb (H5 _ _ ?_)))))
  refine Zl (Zi ?_)
  exact Zh [_, _] ⟨rfl, ⟨rfl, trivial⟩⟩ ⟨((congrArg (fun zq => (Value.tuple #[.int .i64 zq, .bool false])) (by first | exact congrArg Prod.fst (Xw om) | exact congrArg Prod.fst (Xv om a) | exact congrArg Prod.fst (Yy om a (fun q => b q.1)) | exact congrArg Prod.fst (Yy om a (fun q => c q.2)) | exact congrArg Prod.fst (pi_y om a ⟨b, c⟩))).trans (congrArg (fun zq => (Value.tuple #[.int .i64 ((piR s).1), .bool zq])) (by first | exact congrArg Prod.snd (Xw om) | exact congrArg Prod.snd (Xv om a) | exact congrArg Prod.snd (Yy om a (fun q => b q.1)) | exact congrArg Prod.snd (Yy om a (fun q => c q.2)) | exact congrArg Prod.snd (pi_y om a ⟨b, c⟩)))), E⟩
 have o := e
 have e := Zv e
 refine Zp ?_
 refine Zb (H2 _ _ ?_)
 refine Zf fun K6 H6 => ?_
 refine Zc (Za rfl rfl (Zg rfl) (Zr rfl rfl ?_))
 refine Step.call (Zt (xs := [.tmp 10]) fk45 rfl) (Zcv s (hG.ch E) om) fun p W7 f => ?_
 obtain ⟨r, rfl, g, C7⟩ := f
 have F := C7.size
 have E := E.trans C7
 have t := Zlo (s := s) om
 refine Za rfl rfl (Zg rfl) (Za rfl rfl (Yi rfl rfl) (Za rfl rfl (Yi rfl rfl) (Za rfl rfl (Zd rfl) (Za rfl rfl (Zd rfl) (Ze (Zb (H6 _ _ ?_)))))))
 refine Zf fun K8 H8 => ?_
 refine Zf fun K9 H9 => ?_
 refine Zc (Za rfl rfl (Zg rfl) (Za rfl rfl (Zma ifc61 g rfl) (Za rfl rfl (Zg rfl) ?_)))
 refine Zy (d := 16) rfl (fun a => ?_) (fun a => ?_)
 ·have h := a
  refine Zj rfl rfl (Zj rfl rfl (Zj rfl rfl (Zj rfl rfl (Za rfl rfl (Zx rfl rfl) (Za rfl rfl (Zg rfl) (Zj rfl rfl (Zj rfl rfl ?_)))))))
  refine Zj rfl rfl (Za rfl rfl (Zx rfl rfl) (Ze (Zb (H9 _ _ ?_))))
  refine Yn rfl ?_
  refine Zf fun G u => ?_
  refine Zc (Za rfl rfl (Zd rfl) (Za rfl rfl (Zd rfl) (Ze (Zb (u _ _ ?_)))))
  refine Zl (Zi ?_)
  exact Zh [_, _] ⟨rfl, ⟨rfl, trivial⟩⟩ ⟨((congrArg (fun zq => (Value.tuple #[.int .i64 zq, .bool false])) (by first | exact congrArg Prod.fst (Xw om) | exact congrArg Prod.fst (Xv om a) | exact congrArg Prod.fst (Yy om a (fun q => b q.1)) | exact congrArg Prod.fst (Yy om a (fun q => c q.2)) | exact congrArg Prod.fst (pi_y om a ⟨b, c⟩))).trans (congrArg (fun zq => (Value.tuple #[.int .i64 ((piR s).1), .bool zq])) (by first | exact congrArg Prod.snd (Xw om) | exact congrArg Prod.snd (Xv om a) | exact congrArg Prod.snd (Yy om a (fun q => b q.1)) | exact congrArg Prod.snd (Yy om a (fun q => c q.2)) | exact congrArg Prod.snd (pi_y om a ⟨b, c⟩)))), E⟩
 have h := a
 refine Za rfl rfl (Zg rfl) (Zr rfl rfl ?_)
 refine Step.call (Zt (xs := [.tmp 17]) fk46 rfl) (Zbc _ (hG.ch E) om) fun x H i => ?_
 obtain ⟨rfl, m⟩ := i
 have y := m.size
 have E := E.trans m
 refine Za rfl rfl (Zg rfl) (Za rfl rfl (Ziy rfl rfl) (Za rfl rfl (Ya rfl rfl) (Za rfl rfl (Zg rfl) ?_)))
 refine Zy (d := 22) rfl (fun b => ?_) (fun b => ?_)
 ·have j := b
  have b := Zv (Ys b)
  refine Zj rfl rfl (Zj rfl rfl (Zj rfl rfl (Za rfl rfl (Zx rfl rfl) (Ze (Zb (H9 _ _ ?_))))))
  refine Yn rfl ?_
  refine Zf fun I z => ?_
  refine Zc (Za rfl rfl (Zd rfl) (Za rfl rfl (Zd rfl) (Ze (Zb (z _ _ ?_)))))
  refine Zl (Zi ?_)
  exact Zh [_, _] ⟨rfl, ⟨rfl, trivial⟩⟩ ⟨((congrArg (fun zq => (Value.tuple #[.int .i64 zq, .bool false])) (by first | exact congrArg Prod.fst (Xw om) | exact congrArg Prod.fst (Xv om a) | exact congrArg Prod.fst (Yy om a (fun q => b q.1)) | exact congrArg Prod.fst (Yy om a (fun q => c q.2)) | exact congrArg Prod.fst (pi_y om a ⟨b, c⟩))).trans (congrArg (fun zq => (Value.tuple #[.int .i64 ((piR s).1), .bool zq])) (by first | exact congrArg Prod.snd (Xw om) | exact congrArg Prod.snd (Xv om a) | exact congrArg Prod.snd (Yy om a (fun q => b q.1)) | exact congrArg Prod.snd (Yy om a (fun q => c q.2)) | exact congrArg Prod.snd (pi_y om a ⟨b, c⟩)))), E⟩
 have j := b
 have b := Zu (Yr b)
 refine Za rfl rfl (Zg rfl) (Zr rfl rfl ?_)
 refine Step.call (Zt (xs := [.tmp 23, .const (Go.Value.int Go.IntKind.i64 (-999999999)), .const (Go.Value.int Go.IntKind.i64 999999999)]) fk47 rfl) (Xt _ _ _ ) fun A J k => ?_
 obtain ⟨rfl, n⟩ := k
 have B := n.size
 have E := E.trans n
 refine Za rfl rfl (Qn rfl) (Za rfl rfl (Ya rfl rfl) (Ze (Zb (H9 _ _ ?_))))
 refine Zo rfl (fun c => ?_) (fun c => ?_)
 ·have l := c
  have c := Zv (Ys c)
  refine Zf fun K C => ?_
  refine Zc (Za rfl rfl (Zd rfl) (Za rfl rfl (Zd rfl) (Ze (Zb (C _ _ ?_)))))
  refine Zl (Zi ?_)
  exact Zh [_, _] ⟨rfl, ⟨rfl, trivial⟩⟩ ⟨((congrArg (fun zq => (Value.tuple #[.int .i64 zq, .bool false])) (by first | exact congrArg Prod.fst (Xw om) | exact congrArg Prod.fst (Xv om a) | exact congrArg Prod.fst (Yy om a (fun q => b q.1)) | exact congrArg Prod.fst (Yy om a (fun q => c q.2)) | exact congrArg Prod.fst (pi_y om a ⟨b, c⟩))).trans (congrArg (fun zq => (Value.tuple #[.int .i64 ((piR s).1), .bool zq])) (by first | exact congrArg Prod.snd (Xw om) | exact congrArg Prod.snd (Xv om a) | exact congrArg Prod.snd (Yy om a (fun q => b q.1)) | exact congrArg Prod.snd (Yy om a (fun q => c q.2)) | exact congrArg Prod.snd (pi_y om a ⟨b, c⟩)))), E⟩
 have l := c
 have c := Zu (Yr c)
 refine Zp ?_
 refine Zb (H8 _ _ ?_)
 refine Zf fun L D => ?_
 refine Zc (Za rfl rfl (Zg rfl) (Za rfl rfl (Zd rfl) (Za rfl rfl (Zd rfl) (Ze (Zb (D _ _ ?_))))))
 refine Zl ?_
 exact Zh [_, _] ⟨rfl, ⟨rfl, trivial⟩⟩ ⟨((congrArg (fun zq => (Value.tuple #[.int .i64 zq, .bool true])) (by first | exact congrArg Prod.fst (Xw om) | exact congrArg Prod.fst (Xv om a) | exact congrArg Prod.fst (Yy om a (fun q => b q.1)) | exact congrArg Prod.fst (Yy om a (fun q => c q.2)) | exact congrArg Prod.fst (pi_y om a ⟨b, c⟩))).trans (congrArg (fun zq => (Value.tuple #[.int .i64 ((piR s).1), .bool zq])) (by first | exact congrArg Prod.snd (Xw om) | exact congrArg Prod.snd (Xv om a) | exact congrArg Prod.snd (Yy om a (fun q => b q.1)) | exact congrArg Prod.snd (Yy om a (fun q => c q.2)) | exact congrArg Prod.snd (pi_y om a ⟨b, c⟩)))), E⟩

/-- impl.ParseLetter -/
theorem Zba {w : World} (s : List UInt8) :
 Ctr Tryz.prog 22 #[(bst s)] w (fun v w' => v = .tuple #[.int .i64 ((plR s).1), .bool ((plR s).2)] ∧ Ch [] w w') := by
 have E := Ch.refl [] w
 refine Zw (N := 14) (vs0 := [(bst s)]) Tryz.func22 rfl rfl rfl ?_
 refine Zf fun K1 H1 => ?_
 refine Zc (Za rfl rfl (Zd rfl) (Za rfl rfl (Zd rfl) (Ze (Zb (H1 _ _ ?_)))))
 refine Zf fun K2 H2 => ?_
 refine Zf fun K3 H3 => ?_
 refine Zc (Za rfl rfl (Zd rfl) (Ze (Zb (H3 _ _ ?_))))
 refine Ye ?_
 refine Xq (σ := Nat) (fun (k : Nat) => [(0, (bst s)), (4, (.int .i64 ((k : Nat) : Int)))]) (fun (k : Nat) wx => Ch [] w wx ∧ w.heap.size ≤ wx.heap.size ∧ (k ≤ 9) ∧ (ltrI s k = none)) (fun (k : Nat) => 9 - k) 0 (sC2 rfl rfl (Sub.nil _)) ⟨E, (Nat.le_refl _), om, Zei⟩ ?_
 rintro k R4 ⟨E, h, o, hn⟩
 have c := E
 have f := c.size
 refine Zf fun K5 H5 => ?_
 refine Zf fun K6 H6 => ?_
 refine Zc (Za rfl rfl (Zg rfl) (Za rfl rfl (Xp rfl rfl) (Ze (Zb (H6 _ _ ?_)))))
 refine Zo rfl (fun b => ?_) (fun b => ?_)
 ·have i := b
  have b := Zu b
  refine Zp ?_
  refine Zb (H5 _ _ ?_)
  refine Zf fun K8 H8 => ?_
  refine Ye ?_
  refine Zf fun K9 H9 => ?_
  refine Zc (Za rfl rfl (Zg rfl) (Zr rfl rfl ?_))
  refine Step.call (Zt (xs := [.tmp 9]) fk36 rfl) (Qc _ ) fun j p d => ?_
  obtain ⟨rfl, g⟩ := d
  have l := g.size
  have E := E.trans g
  refine Za rfl rfl (Zg rfl) (Za rfl rfl (Zau rfl rfl) (Ze (Zb (H9 _ _ ?_))))
  refine Zo rfl (fun a => ?_) (fun a => ?_)
  ·have e := a
   have a := Zu a
   refine Zf fun q m => ?_
   refine Zc (Za rfl rfl (Zg rfl) (Za rfl rfl (Zd rfl) (Za rfl rfl (Zd rfl) (Ze (Zb (m _ _ ?_))))))
   refine Zl (Zn (Zi (Zi (Zn (Zi ?_)))))
   clear H2 H8
   exact Zh [_, _] ⟨rfl, ⟨rfl, trivial⟩⟩ ⟨((congrArg (fun zq => (Value.tuple #[.int .i64 zq, .bool true])) (by first | exact congrArg Prod.fst (Zdy hn om a) | exact congrArg Prod.fst (Zdx hn om om))).trans (congrArg (fun zq => (Value.tuple #[.int .i64 ((plR s).1), .bool zq])) (by first | exact congrArg Prod.snd (Zdy hn om a) | exact congrArg Prod.snd (Zdx hn om om)))), E⟩
  have e := a
  have a := Zv a
  refine Zp ?_
  refine Yf (Zb (H8 _ _ (Zc (Za rfl rfl (Zg rfl) (Za rfl rfl (Yt om rfl rfl) (Za rfl rfl (Zd rfl) (Ze ?_)))))))
  exact Zb (Exists.intro (k + 1) ⟨⟨E, om, om, (Ziu hn om a)⟩, sC2 rfl rfl (Sub.nil _), (by first | omega | (dsimp only; omega))⟩)
 have i := b
 have b := Zv b
 refine Xj (Yd (Yd (Xc ?_)))
 refine Zb (H2 _ _ ?_)
 refine Zf fun r n => ?_
 refine Zc (Za rfl rfl (Zd rfl) (Za rfl rfl (Zd rfl) (Ze (Zb (n _ _ ?_)))))
 refine Zl ?_
 exact Zh [_, _] ⟨rfl, ⟨rfl, trivial⟩⟩ ⟨((congrArg (fun zq => (Value.tuple #[.int .i64 zq, .bool false])) (by first | exact congrArg Prod.fst (Zdy hn om a) | exact congrArg Prod.fst (Zdx hn om om))).trans (congrArg (fun zq => (Value.tuple #[.int .i64 ((plR s).1), .bool zq])) (by first | exact congrArg Prod.snd (Zdy hn om a) | exact congrArg Prod.snd (Zdx hn om om)))), E⟩

shelf_lay Lays.n145 Nm 145 at Tryz as lay_145_23
/-- strings.Cut -/
theorem Zdq {w : World} (s : List UInt8) (sep : List UInt8) (hG : GS Tryz.prog 0 w) (hb : s.length ≤ 4194304) :
 Ctr Tryz.prog 23 #[(bst s), (bst sep)] w (fun v w' => v = .tuple #[.string (bys ((Lib.cut s sep).1)), .string (bys ((Lib.cut s sep).2.1)), .bool ((Lib.cut s sep).2.2)] ∧ Ch [] w w') := by
 exact Zme lay_145_23 hG hb

shelf_lay Lays.n160 Nm 160 at Tryz as lay_160_24
/-- strings.Trim -/
theorem Zcr {w : World} (s : List UInt8) (sep : List UInt8) (hsep : sep = [123, 125]) (hb : s.length ≤ 4194304) :
 Ctr Tryz.prog 24 #[(bst s), (bst sep)] w (fun v w' => v = bst (Lib.trimS s sep) ∧ Ch [] w w') := by
 subst hsep; exact Zll lay_160_24 (by kernel_rfl) hb

/-- impl.tokenOf -/
theorem Zap {w : World} (s : List UInt8) (hG : GS Tryz.prog 0 w) (hb : s.length ≤ 4194304) :
 Ctr Tryz.prog 13 #[(bst s)] w (fun v w' => v = .agg (Token.cs (tkR s)).toArray ∧ Ch [] w w') := by
 have E := Ch.refl [] w
 refine Zw (N := 54) (vs0 := [(bst s)]) Tryz.func13 rfl rfl rfl ?_
 refine Zf fun K1 H1 => ?_
 refine Zc (Zr rfl rfl ?_)
 refine Xg zr33 fun r W2 q C2 a5 => ?_
 have a6 := C2.size
 have E := E.trans C2
 have a7 := q.lt
 replace q : Blk W2 r 33 [(.int .i64 0), (.int .i64 0), (.int .i64 0), (.int .i64 0)] := q
 refine Ze (Zb (H1 _ _ ?_))
 refine Zf fun K3 H3 => ?_
 refine Zf fun K4 H4 => ?_
 refine Zc (Za rfl rfl (Zg rfl) (Ze (Zb (H4 _ _ ?_))))
 refine Ye ?_
 refine Zf fun K5 H5 => ?_
 refine Zc (Za rfl rfl (Zau rfl rfl) (Za rfl rfl (Zd rfl) (Ze (Zb (H5 _ _ ?_)))))
 refine Zo rfl (fun a => ?_) (fun a => ?_)
 ·have ab := a
  have a := Zu a
  refine Zf fun K7 H7 => ?_
  refine Zc (Za rfl rfl (Yj (parts := [(0, .const (Go.Value.int Go.IntKind.i64 1))]) (cells := [(.int .i64 1), (.int .i64 0), (.int .i64 0), (.int .i64 0)]) zr33 pl33 rfl rfl) (Zr rfl rfl ?_))
  refine Yc (off := 0) 4 q sz33 rfl (us := [(.int .i64 1), (.int .i64 0), (.int .i64 0), (.int .i64 0)]) rfl rfl rfl rfl fun W8 t C8 => ?_
  have a8 := C8.size
  have E := E.step C8 (lS om)
  replace t : Blk W8 r 33 [(.int .i64 1), (.int .i64 0), (.int .i64 0), (.int .i64 0)] := t
  refine Ze (Zb (H7 _ _ ?_))
  refine Zl (Zn (Zi ?_))
  exact Zh [_] (Yb t rfl agg33 sz33 trivial) ⟨(by have key : ∀ z : Token, z = tkR s → Value.agg (Token.cs z).toArray = Value.agg (Token.cs (tkR s)).toArray := (fun z h => by rw [h]); first | exact key _ (tk_1 a) | exact key _ (tk_2 a b) | exact key _ (tk_4 a b c) | exact key _ (tk_5 a b c d) | exact key _ (tk_6 a b c d e) | exact key _ (tk_3 a b c d e f) | exact key _ (tk_7 a b c d e f)), E⟩
 have ab := a
 have a := Zv a
 refine Zf fun a9 ac => ?_
 refine Zc (Za rfl rfl (Zau rfl rfl) (Za rfl rfl (Zd rfl) (Ze (Zb (ac _ _ ?_)))))
 refine Zo rfl (fun b => ?_) (fun b => ?_)
 ·have C := b
  have b := Zu b
  refine Zf fun ba ad => ?_
  refine Zc (Za rfl rfl (Yj (parts := [(0, .const (Go.Value.int Go.IntKind.i64 2))]) (cells := [(.int .i64 2), (.int .i64 0), (.int .i64 0), (.int .i64 0)]) zr33 pl33 rfl rfl) (Zr rfl rfl ?_))
  refine Yc (off := 0) 4 q sz33 rfl (us := [(.int .i64 2), (.int .i64 0), (.int .i64 0), (.int .i64 0)]) rfl rfl rfl rfl fun ae g U => ?_
  have af := U.size
  have E := E.step U (lS om)
  replace g : Blk ae r 33 [(.int .i64 2), (.int .i64 0), (.int .i64 0), (.int .i64 0)] := g
  refine Ze (Zb (ad _ _ ?_))
  refine Zl (Zn (Zi ?_))
  exact Zh [_] (Yb g rfl agg33 sz33 trivial) ⟨(by have key : ∀ z : Token, z = tkR s → Value.agg (Token.cs z).toArray = Value.agg (Token.cs (tkR s)).toArray := (fun z h => by rw [h]); first | exact key _ (tk_1 a) | exact key _ (tk_2 a b) | exact key _ (tk_4 a b c) | exact key _ (tk_5 a b c d) | exact key _ (tk_6 a b c d e) | exact key _ (tk_3 a b c d e f) | exact key _ (tk_7 a b c d e f)), E⟩
 have C := b
 have b := Zv b
 refine Zf fun bb ag => ?_
 refine Zc (Za rfl rfl (Zau rfl rfl) (Za rfl rfl (Zd rfl) (Ze (Zb (ag _ _ ?_)))))
 refine Zo rfl (fun c => ?_) (fun c => ?_)
 ·have D := c
  have c := Zu c
  refine Zf fun bc ah => ?_
  refine Zc (Za rfl rfl (Yj (parts := [(0, .const (Go.Value.int Go.IntKind.i64 4))]) (cells := [(.int .i64 4), (.int .i64 0), (.int .i64 0), (.int .i64 0)]) zr33 pl33 rfl rfl) (Zr rfl rfl ?_))
  refine Yc (off := 0) 4 q sz33 rfl (us := [(.int .i64 4), (.int .i64 0), (.int .i64 0), (.int .i64 0)]) rfl rfl rfl rfl fun ai i V => ?_
  have aj := V.size
  have E := E.step V (lS om)
  replace i : Blk ai r 33 [(.int .i64 4), (.int .i64 0), (.int .i64 0), (.int .i64 0)] := i
  refine Ze (Zb (ah _ _ ?_))
  refine Zl (Zn (Zi ?_))
  exact Zh [_] (Yb i rfl agg33 sz33 trivial) ⟨(by have key : ∀ z : Token, z = tkR s → Value.agg (Token.cs z).toArray = Value.agg (Token.cs (tkR s)).toArray := (fun z h => by rw [h]); first | exact key _ (tk_1 a) | exact key _ (tk_2 a b) | exact key _ (tk_4 a b c) | exact key _ (tk_5 a b c d) | exact key _ (tk_6 a b c d e) | exact key _ (tk_3 a b c d e f) | exact key _ (tk_7 a b c d e f)), E⟩
 have D := c
 have c := Zv c
 refine Zf fun be ak => ?_
 refine Zc (Za rfl rfl (Zau rfl rfl) (Za rfl rfl (Zd rfl) (Ze (Zb (ak _ _ ?_)))))
 refine Zo rfl (fun d => ?_) (fun d => ?_)
 ·have F := d
  have d := Zu d
  refine Zf fun bf al => ?_
  refine Zc (Za rfl rfl (Yj (parts := [(0, .const (Go.Value.int Go.IntKind.i64 5))]) (cells := [(.int .i64 5), (.int .i64 0), (.int .i64 0), (.int .i64 0)]) zr33 pl33 rfl rfl) (Zr rfl rfl ?_))
  refine Yc (off := 0) 4 q sz33 rfl (us := [(.int .i64 5), (.int .i64 0), (.int .i64 0), (.int .i64 0)]) rfl rfl rfl rfl fun am j X => ?_
  have an := X.size
  have E := E.step X (lS om)
  replace j : Blk am r 33 [(.int .i64 5), (.int .i64 0), (.int .i64 0), (.int .i64 0)] := j
  refine Ze (Zb (al _ _ ?_))
  refine Zl (Zn (Zi ?_))
  exact Zh [_] (Yb j rfl agg33 sz33 trivial) ⟨(by have key : ∀ z : Token, z = tkR s → Value.agg (Token.cs z).toArray = Value.agg (Token.cs (tkR s)).toArray := (fun z h => by rw [h]); first | exact key _ (tk_1 a) | exact key _ (tk_2 a b) | exact key _ (tk_4 a b c) | exact key _ (tk_5 a b c d) | exact key _ (tk_6 a b c d e) | exact key _ (tk_3 a b c d e f) | exact key _ (tk_7 a b c d e f)), E⟩
 have F := d
 have d := Zv d
 refine Zf fun bg ao => ?_
 refine Zc (Za rfl rfl (Zau rfl rfl) (Za rfl rfl (Zd rfl) (Ze (Zb (ao _ _ ?_)))))
 refine Zo rfl (fun e => ?_) (fun e => ?_)
 ·have G := e
  have e := Zu e
  refine Zf fun bh ap => ?_
  refine Zc (Za rfl rfl (Yj (parts := [(0, .const (Go.Value.int Go.IntKind.i64 6))]) (cells := [(.int .i64 6), (.int .i64 0), (.int .i64 0), (.int .i64 0)]) zr33 pl33 rfl rfl) (Zr rfl rfl ?_))
  refine Yc (off := 0) 4 q sz33 rfl (us := [(.int .i64 6), (.int .i64 0), (.int .i64 0), (.int .i64 0)]) rfl rfl rfl rfl fun aq k Y => ?_
  have au := Y.size
  have E := E.step Y (lS om)
  replace k : Blk aq r 33 [(.int .i64 6), (.int .i64 0), (.int .i64 0), (.int .i64 0)] := k
  refine Ze (Zb (ap _ _ ?_))
  refine Zl (Zn (Zi ?_))
  exact Zh [_] (Yb k rfl agg33 sz33 trivial) ⟨(by have key : ∀ z : Token, z = tkR s → Value.agg (Token.cs z).toArray = Value.agg (Token.cs (tkR s)).toArray := (fun z h => by rw [h]); first | exact key _ (tk_1 a) | exact key _ (tk_2 a b) | exact key _ (tk_4 a b c) | exact key _ (tk_5 a b c d) | exact key _ (tk_6 a b c d e) | exact key _ (tk_3 a b c d e f) | exact key _ (tk_7 a b c d e f)), E⟩
 have G := e
 have e := Zv e
 refine Zp ?_
 refine Yf (Zb (H3 _ _ ?_))
 refine Zf fun bi av => ?_
 refine Zf fun bj aw => ?_
 refine Zc (Za rfl rfl (Zg rfl) (Zr rfl rfl ?_))
 refine Step.call (Zt (xs := [.tmp 26]) fk22 rfl) (Zba s ) fun ax bk H => ?_
 obtain ⟨rfl, u⟩ := H
 have ay := u.size
 have E := E.trans u
 refine Za rfl rfl (Zg rfl) (Za rfl rfl (Yi rfl rfl) (Za rfl rfl (Yi rfl rfl) (Za rfl rfl (Zd rfl) (Za rfl rfl (Zd rfl) (Ze (Zb (aw _ _ ?_)))))))
 refine Zf fun bm az => ?_
 refine Zc (Za rfl rfl (Zg rfl) (Ze (Zb (az _ _ ?_))))
 refine Zo rfl (fun f => ?_) (fun f => ?_)
 ·have I := f
  refine Zf fun bn aA => ?_
  refine Zc (Za rfl rfl (Zg rfl) (Za rfl rfl (Yj (parts := [(0, .const (Go.Value.int Go.IntKind.i64 3)), (1, .tmp 31)]) (cells := [(.int .i64 3), (.int .i64 ((plR s).1)), (.int .i64 0), (.int .i64 0)]) zr33 pl33 rfl rfl) (Zr rfl rfl ?_)))
  have aB := q.ch0 u
  refine Yc (off := 0) 4 aB sz33 rfl (us := [(.int .i64 3), (.int .i64 ((plR s).1)), (.int .i64 0), (.int .i64 0)]) rfl rfl rfl rfl fun aC l Z => ?_
  have aD := Z.size
  have E := E.step Z (lS om)
  replace l : Blk aC r 33 [(.int .i64 3), (.int .i64 ((plR s).1)), (.int .i64 0), (.int .i64 0)] := l
  refine Ze (Zb (aA _ _ ?_))
  refine Zl (Zi ?_)
  exact Zh [_] (Yb l rfl agg33 sz33 trivial) ⟨(by have key : ∀ z : Token, z = tkR s → Value.agg (Token.cs z).toArray = Value.agg (Token.cs (tkR s)).toArray := (fun z h => by rw [h]); first | exact key _ (tk_1 a) | exact key _ (tk_2 a b) | exact key _ (tk_4 a b c) | exact key _ (tk_5 a b c d) | exact key _ (tk_6 a b c d e) | exact key _ (tk_3 a b c d e f) | exact key _ (tk_7 a b c d e f)), E⟩
 have I := f
 refine Zp ?_
 refine Zb (av _ _ ?_)
 refine Zf fun bp aE => ?_
 refine Zc (Za rfl rfl (Zg rfl) (Zr rfl rfl ?_))
 refine Step.call (Zt (xs := [.tmp 34, .const (Go.Value.string { data := #[123, 125] })]) fk24 rfl) (Zcr s ([123, 125]) rfl om) fun aF bq J => ?_
 obtain ⟨rfl, K⟩ := J
 have aG := K.size
 have E := E.trans K
 have aH := Zhk s [123, 125]
 refine Zr rfl rfl ?_
 refine Step.call (Zt (xs := [.tmp 35, .const (Go.Value.string { data := #[44] })]) fk23 rfl) (Zdq (Lib.trimS s ([123, 125])) ([44]) (hG.ch E) om) fun aI br L => ?_
 obtain ⟨rfl, M⟩ := L
 have aJ := M.size
 have E := E.trans M
 refine Za rfl rfl (Zg rfl) (Za rfl rfl (Yi rfl rfl) (Za rfl rfl (Yi rfl rfl) (Za rfl rfl (Yi rfl rfl) (Za rfl rfl (Zd rfl) (Za rfl rfl (Zd rfl) (Za rfl rfl (Zd rfl) (Ze ?_)))))))
 refine Zb (aE _ _ ?_)
 refine Zf fun bs aK => ?_
 refine Zc (Za rfl rfl (Yj (parts := [(0, .const (Go.Value.int Go.IntKind.i64 7))]) (cells := [(.int .i64 7), (.int .i64 0), (.int .i64 0), (.int .i64 0)]) zr33 pl33 rfl rfl) (Zr rfl rfl ?_))
 refine Xg zr33 fun x aL y O bu => ?_
 have aM := O.size
 have E := E.trans O
 have bv := y.lt
 replace y : Blk aL x 33 [(.int .i64 0), (.int .i64 0), (.int .i64 0), (.int .i64 0)] := y
 refine Zr rfl rfl ?_
 refine Yc (off := 0) 4 y sz33 rfl (us := [(.int .i64 7), (.int .i64 0), (.int .i64 0), (.int .i64 0)]) rfl rfl rfl rfl fun aN m P => ?_
 have aO := P.size
 have E := E.step P (lS om)
 replace m : Blk aN x 33 [(.int .i64 7), (.int .i64 0), (.int .i64 0), (.int .i64 0)] := m
 refine Ze (Zb (aK _ _ ?_))
 refine Zf fun bw aP => ?_
 refine Zc (Za rfl rfl (Zg rfl) (Zr rfl rfl ?_))
 refine Step.call (Zt (xs := [.tmp 42]) fk25 rfl) (Zag ((Lib.cut (Lib.trimS s ([123, 125])) ([44])).1) (hG.ch E) ) fun aQ bx Q => ?_
 obtain ⟨rfl, A⟩ := Q
 have aR := A.size
 have E := E.trans A
 refine Za rfl rfl (Zg rfl) (Za rfl rfl (Yi rfl rfl) (Za rfl rfl (Yi rfl rfl) (Za rfl rfl (Zk fa33_2 rfl) (Zr rfl rfl ?_))))
 have aS := m.ch0 A
 refine Qa (off := 2) aS sz3 rfl rfl rfl rfl fun aT n R => ?_
 have aU := R.size
 have E := E.step R (lS om)
 replace n : Blk aT x 33 [(.int .i64 7), (.int .i64 0), (.int .i64 ((piR ((Lib.cut (Lib.trimS s ([123, 125])) ([44])).1)).1)), (.int .i64 0)] := n
 refine Ze (Zb (aP _ _ ?_))
 refine Zf fun bz aV => ?_
 refine Zc (Za rfl rfl (Zg rfl) (Zr rfl rfl ?_))
 refine Step.call (Zt (xs := [.tmp 48]) fk25 rfl) (Zag ((Lib.cut (Lib.trimS s ([123, 125])) ([44])).2.1) (hG.ch E) ) fun aW bA S => ?_
 obtain ⟨rfl, B⟩ := S
 have aX := B.size
 have E := E.trans B
 refine Za rfl rfl (Zg rfl) (Za rfl rfl (Yi rfl rfl) (Za rfl rfl (Yi rfl rfl) (Za rfl rfl (Zk fa33_3 rfl) (Zr rfl rfl ?_))))
 have aY := n.ch0 B
 refine Qa (off := 3) aY sz3 rfl rfl rfl rfl fun aZ o T => ?_
 have a0 := T.size
 have E := E.step T (lS om)
 replace o : Blk aZ x 33 [(.int .i64 7), (.int .i64 0), (.int .i64 ((piR ((Lib.cut (Lib.trimS s ([123, 125])) ([44])).1)).1)), (.int .i64 ((piR ((Lib.cut (Lib.trimS s ([123, 125])) ([44])).2.1)).1))] := o
 refine Ze (Zb (aV _ _ ?_))
 refine Zf fun bB a1 => ?_
 refine Zc (Za rfl rfl (Zs o.at_ agg33 sz33 rfl) (Zr rfl rfl ?_))
 have a2 := ((((((((q.ch0 u).ch0 K).ch0 M).ch0 O).ch P (nS om)).ch0 A).ch R (nS om)).ch0 B).ch T (nS om)
 refine Yc (off := 0) 4 a2 sz33 rfl (us := [(.int .i64 7), (.int .i64 0), (.int .i64 ((piR ((Lib.cut (Lib.trimS s ([123, 125])) ([44])).1)).1)), (.int .i64 ((piR ((Lib.cut (Lib.trimS s ([123, 125])) ([44])).2.1)).1))]) rfl rfl rfl rfl fun a3 p aa => ?_
 have a4 := aa.size
 have E := E.step aa (lS om)
 replace p : Blk a3 r 33 [(.int .i64 7), (.int .i64 0), (.int .i64 ((piR ((Lib.cut (Lib.trimS s ([123, 125])) ([44])).1)).1)), (.int .i64 ((piR ((Lib.cut (Lib.trimS s ([123, 125])) ([44])).2.1)).1))] := p
 refine Ze (Zb (a1 _ _ ?_))
 refine Zl ?_
 exact Zh [_] (Yb p rfl agg33 sz33 trivial) ⟨(by have key : ∀ z : Token, z = tkR s → Value.agg (Token.cs z).toArray = Value.agg (Token.cs (tkR s)).toArray := (fun z h => by rw [h]); first | exact key _ (tk_1 a) | exact key _ (tk_2 a b) | exact key _ (tk_4 a b c) | exact key _ (tk_5 a b c d) | exact key _ (tk_6 a b c d e) | exact key _ (tk_3 a b c d e f) | exact key _ (tk_7 a b c d e f)), E⟩

shelf_lay LaysM.n146 Nm 146 at Tryz as lay_146_12
/-- strings.Split@g -/
theorem Zbn {w : World} (s : List UInt8) (sep : List UInt8) (hG : GS Tryz.prog 0 w) (hsep : sep = [32]) (hb : s.length ≤ 4194304) :
 Ctr Tryz.prog 12 #[(bst s), (bst sep)] w (fun v w' => Ol scs 9 1 w' v (Zq s 32 []) ∧ Lo w.heap.size v ∧ Ch [] w w') := by
 subst hsep; exact Zjy lay_146_12 hG hb

/-- impl.ParseExpr -/
theorem Qv {w : World} (s : List UInt8) (hG : GS Tryz.prog 0 w) (hb : s.length ≤ 1048576) :
 Ctr Tryz.prog 5 #[(bst s)] w (fun v w' => ∃ (ai : Value), v = .tuple #[.agg #[ai], .bool ((Xf s).2)] ∧ Ol Token.cs 33 4 w' ai ((Xf s).1) ∧ Lo w.heap.size ai ∧ Ch [] w w') := by
 have E := Ch.refl [] w
 have cl := Qy s 32 []
 refine Zw (N := 33) (vs0 := [(bst s)]) Tryz.func5 rfl rfl rfl ?_
 refine Zf fun K1 H1 => ?_
 refine Zc (Zr rfl rfl ?_)
 refine Xg zr24 fun ay W2 aQ C2 cm => ?_
 have cn := C2.size
 have E := E.trans C2
 have co := aQ.lt
 replace aQ : Blk W2 ay 24 [(.slice none 0 0)] := aQ
 refine Za rfl rfl (Zd rfl) (Ze (Zb (H1 _ _ ?_)))
 refine Zf fun K3 H3 => ?_
 refine Zc (Za rfl rfl (Yj (parts := []) (cells := [(.slice none 0 0)]) zr24 pl24 rfl rfl) (Zr rfl rfl ?_))
 refine Xg zr24 fun q W4 aR C4 cp => ?_
 have cq := C4.size
 have E := E.trans C4
 have cr := aR.lt
 replace aR : Blk W4 q 24 [(.slice none 0 0)] := aR
 refine Zr rfl rfl ?_
 refine Yc (off := 0) 1 aR sz24 rfl (us := [(.slice none 0 0)]) rfl rfl rfl rfl fun W5 aj C5 => ?_
 have ct := C5.size
 have E := E.step C5 (lS om)
 replace aj : Blk W5 q 24 [(.slice none 0 0)] := aj
 refine Ze (Zb (H3 _ _ ?_))
 refine Zf fun K7 H7 => ?_
 refine Zf fun K8 H8 => ?_
 refine Zc (Za rfl rfl (Zg rfl) (Zr rfl rfl ?_))
 refine Step.call (Zt (xs := [.tmp 8, .const (Go.Value.string { data := #[32] })]) fk12 rfl) (Zbn s ([32]) (hG.ch E) rfl om) fun cu W9 aS => ?_
 obtain ⟨aS, I, C9⟩ := aS
 have cv := C9.size
 have E := E.trans C9
 obtain ⟨ak, al, rfl, bn, r⟩ := aS.opn
 refine Za rfl rfl (Qo (by rw [el30]; rfl) rfl) (Za rfl rfl (Zg rfl) (Ze (Zb (H8 _ _ ?_))))
 refine Ye ?_
 have am : Ol Token.cs 33 4 W9 (.slice none 0 0) (((Zq s 32 []).take 0).map tkR) := by
  have hx := Ol.nil (cs := Token.cs) (e := 33) (k := 4) W9
  simpa using hx
 have bp := aj.ch0 C9
 have bq := ((aQ.ch0 C4).ch C5 (nS om)).ch0 C9
 refine Xq (σ := Nat × Value) (fun ⟨i, tv⟩ => [(0, (bst s)), (2, (.pointer (some ⟨ay, 0, none⟩))), (3, (.bool false)), (4, (.pointer (some ⟨q, 0, none⟩))), (9, (.slice ak (Zq s 32 []).length al)), (10, (.int .i64 (((Zq s 32 []).length : Nat) : Int))), (11, (.int .i64 ((i : Nat) : Int)))]) (fun ⟨i, tv⟩ wx => Ch [] w wx ∧ W9.heap.size ≤ wx.heap.size ∧ (i ≤ (Zq s 32 []).length) ∧ Blk wx ay 24 [(.slice none 0 0)] ∧ Ol scs 9 1 wx (.slice ak (Zq s 32 []).length al) (Zq s 32 []) ∧ Ol Token.cs 33 4 wx tv (((Zq s 32 []).take i).map tkR) ∧ Lo W9.heap.size tv ∧ Blk wx q 24 [tv] ∧ (∀ g ∈ bl tv, g ∉ bl (.slice ak (Zq s 32 []).length al)) ∧ (q ∉ bl tv)) (fun ⟨i, tv⟩ => (Zq s 32 []).length - i) (0, (.slice none 0 0)) (sC4 rfl rfl rfl rfl (sC2 rfl rfl (sC1 rfl (Sub.nil _)))) ⟨E, (Nat.le_refl _), om, bq, aS, am, (Lo.nil _), bp, (fun g hm hg => by cases hm), (fun hm => by cases hm)⟩ ?_
 rintro ⟨i, tv⟩ cw ⟨E, br, hi, p, C, t, b, u, a, f⟩
 have aT := E
 have ba := aT.size
 have aU := p.lt
 obtain ⟨Atv, Ctv, rfl, ltv, D⟩ := t.opn
 refine Zf fun cx bs => ?_
 refine Zc (Za rfl rfl (Xp rfl rfl) (Ze (Zb (bs _ _ ?_))))
 refine Zf fun cy aV => ?_
 refine Zo rfl (fun B => ?_) (fun B => ?_)
 ·have aW := B
  have B := Zu B
  refine Zp ?_
  refine Zb (aV _ _ ?_)
  refine Zf fun cz aX => ?_
  refine Ye ?_
  refine Zf fun cA bu => ?_
  refine Zc (Zr rfl rfl ?_)
  refine (Xk C.ls Qd el30 sz9 rfl rfl rfl om fun bv o F aY => ?_)
  have bw := Zbi s 32 [] o (Qh F)
  have bx : ([] : List UInt8).length = 0 := rfl
  refine Za rfl rfl (Zae aY agg9 rfl rfl) (Za rfl rfl (Zd rfl) (Ze (Zb (bu _ _ ?_))))
  refine Zaq ((bl (.slice Atv (((Zq s 32 []).take i).map tkR).length Ctv)) ++ [q]) 8 mixed rfl fun J G => ?_
  have bz := G.size
  have E := E.trans G
  refine dV 0 rfl rfl rfl (fun _ => Zk fa24_0 rfl) (dV 2 rfl rfl rfl (fun _ => Zg rfl) ?_)
  refine Zfj 1 3 (by kernel_rfl) ?_ ?_
  ·refine Xd rfl rfl rfl ?_
   have bb := u.ch0 G
   refine s_v (Zm bb.at_ agg22 rfl rfl) ?_
   refine ⟨(Ch.refl _ _), ?_⟩
   refine dO 3 (Xd rfl rfl rfl ?_)
   refine Step.call (Zt (xs := [.tmp 17]) fk13 rfl) (Zap o (hG.ch E) om) fun aZ bA an => ?_
   obtain ⟨rfl, ao⟩ := an
   have bB := ao.size
   have E := E.trans ao
   have V : Ch ((bl (.slice Atv (((Zq s 32 []).take i).map tkR).length Ctv)) ++ [q]) J bA := ((Ch.refl _ _).trans ao.of_nil)
   refine ⟨V, ?_⟩
   refine dO 4 (Xd rfl rfl rfl ?_)
   refine Yh (cs := Token.cs) (parts := [(0, .tmp 18)]) (⟨0, 0, 0, 0⟩ : Token) [(tkR o)] el22 sz33 zr33 Token.len (by decide) rfl rfl rfl (by decide) (by decide) rfl fun aG bC x X ap => ?_
   have bD := ap.size
   have E := E.trans ap
   obtain ⟨Y, Z, rfl, aa, K⟩ := x.opn
   have ab : Ch ((bl (.slice Atv (((Zq s 32 []).take i).map tkR).length Ctv)) ++ [q]) J bC := (V.trans ap.of_nil)
   refine ⟨ab, ?_⟩
   refine dO 5 (Xd rfl rfl rfl ?_)
   have bE := ((t.ch0 G).ch0 ao).ch0 ap
   refine Xe (cs := Token.cs) el22 sz33 by33 zr33 rfl (by decide) Token.one bE x.ls rfl rfl bd bd b om fun aH bF y z l az => ?_
   have bG := az.size
   have E := E.step az (fun i hi => .inl (by have aI := b _ hi; omega))
   obtain ⟨m, n, rfl, ac, c⟩ := y.opn
   have ad : Ch ((bl (.slice Atv (((Zq s 32 []).take i).map tkR).length Ctv)) ++ [q]) J bF := (ab.step az (fun i hm => by exact .inr (List.mem_append_left _ hm)))
   refine ⟨ad, ?_⟩
   refine dV 6 rfl rfl rfl (fun _ => Zk fa24_0 rfl) (dO 7 (Xd rfl rfl rfl ?_))
   have bH := ((bb.ch0 ao).ch0 ap).ch az (fun hm => by exact f (by first | exact hm | exact A ▸ hm))
   refine Qa (off := 0) bH sz22 rfl rfl rfl rfl fun a0 L aA => ?_
   have bI := aA.size
   have E := E.step aA (lS om)
   replace L : Blk a0 q 24 [(.slice m ((((Zq s 32 []).take i).map tkR ++ [(tkR o)])).length n)] := L
   have aJ : Ch ((bl (.slice Atv (((Zq s 32 []).take i).map tkR).length Ctv)) ++ [q]) J a0 := (ad.step aA (fun i hm => by have A := List.mem_singleton.1 hm; exact .inr (by rw [A]; exact (List.mem_append_right _ (List.mem_singleton.2 rfl)))))
   refine ⟨aJ, ?_⟩
   refine Xl (by kernel_rfl) ?_
   refine Yf (Zb (aX _ _ (Zc (Za rfl rfl (Yt om rfl rfl) (Za rfl rfl (Zg rfl) (Ze ?_))))))
   have bJ := y.ch aA (fun g hg hm => by have A := List.mem_singleton.1 hm; rcases l with ea | ea; (rw [ea] at hg; exact f (by first | exact hg | exact A ▸ hg)); (have aK := c _ hg; rw [ea] at hg; have ae := List.mem_singleton.1 hg; omega))
   have aq : Ol Token.cs 33 4 a0 (.slice m ((((Zq s 32 []).take i).map tkR ++ [(tkR o)])).length n) (((Zq s 32 []).take (i + 1)).map tkR) := by
    have hx := bJ
    exact hx.eq (Yx F)
   have bK := ((((p.ch0 G).ch0 ao).ch0 ap).ch az (fun hm => by have aI := b _ hm; have bc := D _ hm; omega)).ch aA (nS om)
   have bL := ((((C.ch0 G).ch0 ao).ch0 ap).ch az (fun g hg hm => by exact a _ hm hg)).ch aA (dS I r om)
   exact Zb (Exists.intro ((i + 1), (.slice m ((((Zq s 32 []).take i).map tkR ++ [(tkR o)])).length n)) ⟨⟨E, om, om, bK, bL, aq, (Lo.down z om), L, (fun g hm hg => by rcases l with ea | ea; (rw [ea] at hm; exact a _ hm hg); (have M := c _ hm; rw [ea] at hm; have ae := List.mem_singleton.1 hm; have be := I _ hg; have bf := r _ hg; omega)), (fun hm => by rcases l with ea | ea; (rw [ea] at hm; exact f (by first | exact hm | exact A ▸ hm)); (have M := c _ hm; rw [ea] at hm; have ae := List.mem_singleton.1 hm; omega))⟩, sC4 rfl rfl rfl rfl (sC2 rfl rfl (sC1 rfl (Sub.nil _))), (by first | omega | (dsimp only; omega))⟩)
  refine Xd rfl rfl rfl ?_
  refine Step.call (Zt (xs := [.tmp 17]) fk13 rfl) (Zap o (hG.ch E) om) fun aZ bM an => ?_
  obtain ⟨rfl, O⟩ := an
  have bN := O.size
  have E := E.trans O
  have H : Ch ((bl (.slice Atv (((Zq s 32 []).take i).map tkR).length Ctv)) ++ [q]) J bM := ((Ch.refl _ _).trans O.of_nil)
  refine ⟨H, ?_⟩
  refine Zfj 1 4 (by kernel_rfl) ?_ ?_
  ·refine Xd rfl rfl rfl ?_
   have bg := (u.ch0 G).ch0 O
   refine s_v (Zm bg.at_ agg22 rfl rfl) ?_
   refine ⟨H, ?_⟩
   refine dO 4 (Xd rfl rfl rfl ?_)
   refine Yh (cs := Token.cs) (parts := [(0, .tmp 18)]) (⟨0, 0, 0, 0⟩ : Token) [(tkR o)] el22 sz33 zr33 Token.len (by decide) rfl rfl rfl (by decide) (by decide) rfl fun aG bO x X au => ?_
   have bP := au.size
   have E := E.trans au
   obtain ⟨Y, Z, rfl, aa, K⟩ := x.opn
   have af : Ch ((bl (.slice Atv (((Zq s 32 []).take i).map tkR).length Ctv)) ++ [q]) J bO := (H.trans au.of_nil)
   refine ⟨af, ?_⟩
   refine dO 5 (Xd rfl rfl rfl ?_)
   have bQ := ((t.ch0 G).ch0 O).ch0 au
   refine Xe (cs := Token.cs) el22 sz33 by33 zr33 rfl (by decide) Token.one bQ x.ls rfl rfl bd bd b om fun aH bR y z l aB => ?_
   have bS := aB.size
   have E := E.step aB (fun i hi => .inl (by have aI := b _ hi; omega))
   obtain ⟨m, n, rfl, ac, c⟩ := y.opn
   have ag : Ch ((bl (.slice Atv (((Zq s 32 []).take i).map tkR).length Ctv)) ++ [q]) J bR := (af.step aB (fun i hm => by exact .inr (List.mem_append_left _ hm)))
   refine ⟨ag, ?_⟩
   refine dV 6 rfl rfl rfl (fun _ => Zk fa24_0 rfl) (dO 7 (Xd rfl rfl rfl ?_))
   have bT := (bg.ch0 au).ch aB (fun hm => by exact f (by first | exact hm | exact A ▸ hm))
   refine Qa (off := 0) bT sz22 rfl rfl rfl rfl fun a1 P aC => ?_
   have bU := aC.size
   have E := E.step aC (lS om)
   replace P : Blk a1 q 24 [(.slice m ((((Zq s 32 []).take i).map tkR ++ [(tkR o)])).length n)] := P
   have aL : Ch ((bl (.slice Atv (((Zq s 32 []).take i).map tkR).length Ctv)) ++ [q]) J a1 := (ag.step aC (fun i hm => by have A := List.mem_singleton.1 hm; exact .inr (by rw [A]; exact (List.mem_append_right _ (List.mem_singleton.2 rfl)))))
   refine ⟨aL, ?_⟩
   refine Xl (by kernel_rfl) ?_
   refine Yf (Zb (aX _ _ (Zc (Za rfl rfl (Yt om rfl rfl) (Za rfl rfl (Zg rfl) (Ze ?_))))))
   have bV := y.ch aC (fun g hg hm => by have A := List.mem_singleton.1 hm; rcases l with ea | ea; (rw [ea] at hg; exact f (by first | exact hg | exact A ▸ hg)); (have aK := c _ hg; rw [ea] at hg; have ae := List.mem_singleton.1 hg; omega))
   have av : Ol Token.cs 33 4 a1 (.slice m ((((Zq s 32 []).take i).map tkR ++ [(tkR o)])).length n) (((Zq s 32 []).take (i + 1)).map tkR) := by
    have hx := bV
    exact hx.eq (Yx F)
   have bW := ((((p.ch0 G).ch0 O).ch0 au).ch aB (fun hm => by have aI := b _ hm; have bc := D _ hm; omega)).ch aC (nS om)
   have bX := ((((C.ch0 G).ch0 O).ch0 au).ch aB (fun g hg hm => by exact a _ hm hg)).ch aC (dS I r om)
   exact Zb (Exists.intro ((i + 1), (.slice m ((((Zq s 32 []).take i).map tkR ++ [(tkR o)])).length n)) ⟨⟨E, om, om, bW, bX, av, (Lo.down z om), P, (fun g hm hg => by rcases l with ea | ea; (rw [ea] at hm; exact a _ hm hg); (have M := c _ hm; rw [ea] at hm; have ae := List.mem_singleton.1 hm; have be := I _ hg; have bf := r _ hg; omega)), (fun hm => by rcases l with ea | ea; (rw [ea] at hm; exact f (by first | exact hm | exact A ▸ hm)); (have M := c _ hm; rw [ea] at hm; have ae := List.mem_singleton.1 hm; omega))⟩, sC4 rfl rfl rfl rfl (sC2 rfl rfl (sC1 rfl (Sub.nil _))), (by first | omega | (dsimp only; omega))⟩)
  refine Xd rfl rfl rfl ?_
  refine Yh (cs := Token.cs) (parts := [(0, .tmp 18)]) (⟨0, 0, 0, 0⟩ : Token) [(tkR o)] el22 sz33 zr33 Token.len (by decide) rfl rfl rfl (by decide) (by decide) rfl fun aG bY x X aw => ?_
  have bZ := aw.size
  have E := E.trans aw
  obtain ⟨Y, Z, rfl, aa, K⟩ := x.opn
  have Q : Ch ((bl (.slice Atv (((Zq s 32 []).take i).map tkR).length Ctv)) ++ [q]) J bY := (H.trans aw.of_nil)
  refine ⟨Q, ?_⟩
  refine dO 1 (Xd rfl rfl rfl ?_)
  have bh := ((u.ch0 G).ch0 O).ch0 aw
  refine s_v (Zm bh.at_ agg22 rfl rfl) ?_
  refine ⟨Q, ?_⟩
  refine dO 5 (Xd rfl rfl rfl ?_)
  have b0 := ((t.ch0 G).ch0 O).ch0 aw
  refine Xe (cs := Token.cs) el22 sz33 by33 zr33 rfl (by decide) Token.one b0 x.ls rfl rfl bd bd b om fun aH b1 y z l aD => ?_
  have b2 := aD.size
  have E := E.step aD (fun i hi => .inl (by have aI := b _ hi; omega))
  obtain ⟨m, n, rfl, ac, c⟩ := y.opn
  have ah : Ch ((bl (.slice Atv (((Zq s 32 []).take i).map tkR).length Ctv)) ++ [q]) J b1 := (Q.step aD (fun i hm => by exact .inr (List.mem_append_left _ hm)))
  refine ⟨ah, ?_⟩
  refine dV 6 rfl rfl rfl (fun _ => Zk fa24_0 rfl) (dO 7 (Xd rfl rfl rfl ?_))
  have b3 := bh.ch aD (fun hm => by exact f (by first | exact hm | exact A ▸ hm))
  refine Qa (off := 0) b3 sz22 rfl rfl rfl rfl fun a2 R aE => ?_
  have b4 := aE.size
  have E := E.step aE (lS om)
  replace R : Blk a2 q 24 [(.slice m ((((Zq s 32 []).take i).map tkR ++ [(tkR o)])).length n)] := R
  have aM : Ch ((bl (.slice Atv (((Zq s 32 []).take i).map tkR).length Ctv)) ++ [q]) J a2 := (ah.step aE (fun i hm => by have A := List.mem_singleton.1 hm; exact .inr (by rw [A]; exact (List.mem_append_right _ (List.mem_singleton.2 rfl)))))
  refine ⟨aM, ?_⟩
  refine Xl (by kernel_rfl) ?_
  refine Yf (Zb (aX _ _ (Zc (Za rfl rfl (Yt om rfl rfl) (Za rfl rfl (Zg rfl) (Ze ?_))))))
  have b5 := y.ch aE (fun g hg hm => by have A := List.mem_singleton.1 hm; rcases l with ea | ea; (rw [ea] at hg; exact f (by first | exact hg | exact A ▸ hg)); (have aK := c _ hg; rw [ea] at hg; have ae := List.mem_singleton.1 hg; omega))
  have ax : Ol Token.cs 33 4 a2 (.slice m ((((Zq s 32 []).take i).map tkR ++ [(tkR o)])).length n) (((Zq s 32 []).take (i + 1)).map tkR) := by
   have hx := b5
   exact hx.eq (Yx F)
  have b6 := ((((p.ch0 G).ch0 O).ch0 aw).ch aD (fun hm => by have aI := b _ hm; have bc := D _ hm; omega)).ch aE (nS om)
  have b7 := ((((C.ch0 G).ch0 O).ch0 aw).ch aD (fun g hg hm => by exact a _ hm hg)).ch aE (dS I r om)
  exact Zb (Exists.intro ((i + 1), (.slice m ((((Zq s 32 []).take i).map tkR ++ [(tkR o)])).length n)) ⟨⟨E, om, om, b6, b7, ax, (Lo.down z om), R, (fun g hm hg => by rcases l with ea | ea; (rw [ea] at hm; exact a _ hm hg); (have M := c _ hm; rw [ea] at hm; have ae := List.mem_singleton.1 hm; have be := I _ hg; have bf := r _ hg; omega)), (fun hm => by rcases l with ea | ea; (rw [ea] at hm; exact f (by first | exact hm | exact A ▸ hm)); (have M := c _ hm; rw [ea] at hm; have ae := List.mem_singleton.1 hm; omega))⟩, sC4 rfl rfl rfl rfl (sC2 rfl rfl (sC1 rfl (Sub.nil _))), (by first | omega | (dsimp only; omega))⟩)
 have aW := B
 have B := Zv B
 refine Xj (Yd (Yd (Xc ?_)))
 refine Zb (H7 _ _ ?_)
 refine Zf fun cB a3 => ?_
 refine Zf fun cC bi => ?_
 refine Zc (Za rfl rfl (Zg rfl) (Za rfl rfl (Zau rfl rfl) (Za rfl rfl (Zg rfl) ?_)))
 refine Zy (d := 25) rfl (fun h => ?_) (fun h => ?_)
 ·have a4 := h
  have h := Zu h
  refine Zj rfl rfl (Zj rfl rfl (Zj rfl rfl (Zj rfl rfl (Za rfl rfl (Zx rfl rfl) (Ze (Zb (bi _ _ ?_)))))))
  refine Yn rfl ?_
  refine Zf fun cD b8 => ?_
  refine Zc (Za rfl rfl (Yj (parts := []) (cells := [(.slice none 0 0)]) zr24 pl24 rfl rfl) (Zr rfl rfl ?_))
  refine Yc (off := 0) 1 p sz24 rfl (us := [(.slice none 0 0)]) rfl rfl rfl rfl fun a5 S bj => ?_
  have b9 := bj.size
  have E := E.step bj (lS om)
  replace S : Blk a5 ay 24 [(.slice none 0 0)] := S
  refine Za rfl rfl (Zd rfl) (Ze (Zb (b8 _ _ ?_)))
  refine Zl (Zi ?_)
  clear aV a3
  have aN : Ol Token.cs 33 4 a5 (.slice none 0 0) ((Xf s).1) := by
   have hx := Ol.nil (cs := Token.cs) (e := 33) (k := 4) a5
   first | (rw [pe_n (s := s) (ts := ((Zq s 32 []).take i).map tkR) (by rw [List.take_of_length_le om]) (.inl h)]; exact hx) | (rw [pe_n (s := s) (ts := ((Zq s 32 []).take i).map tkR) (by rw [List.take_of_length_le om]) (.inr j)]; exact hx) | (rw [pe_y (s := s) (ts := ((Zq s 32 []).take i).map tkR) (by rw [List.take_of_length_le om]) j h]; exact hx)
  exact Zh [_, _] (Yb S rfl agg24 sz24 ⟨rfl, trivial⟩) ⟨(.slice none 0 0), (congrArg (fun zq => (Value.tuple #[.agg #[(.slice none 0 0)], .bool zq])) (by first | rw [pe_n (s := s) (ts := ((Zq s 32 []).take i).map tkR) (by rw [List.take_of_length_le om]) (.inl h)] | rw [pe_n (s := s) (ts := ((Zq s 32 []).take i).map tkR) (by rw [List.take_of_length_le om]) (.inr j)] | rw [pe_y (s := s) (ts := ((Zq s 32 []).take i).map tkR) (by rw [List.take_of_length_le om]) j h])), aN, (Lo.nil _), E⟩
 have a4 := h
 have h := Zv h
 refine Za rfl rfl (Zs u.at_ agg24 sz24 rfl) (Zr rfl rfl ?_)
 refine Step.call (Zt (xs := [.tmp 26]) fk14 rfl) (Zbp t.ls (by rw [List.length_map, List.length_take]; omega)) fun ca cE a6 => ?_
 obtain ⟨rfl, aF⟩ := a6
 have cb := aF.size
 have E := E.trans aF
 refine Za rfl rfl (Zg rfl) (Za rfl rfl (Ziy rfl rfl) (Za rfl rfl (Ya rfl rfl) (Ze (Zb (bi _ _ ?_)))))
 refine Zo rfl (fun j => ?_) (fun j => ?_)
 ·have a7 := j
  have j := Zv (Ys j)
  refine Zf fun cF cc => ?_
  refine Zc (Za rfl rfl (Yj (parts := []) (cells := [(.slice none 0 0)]) zr24 pl24 rfl rfl) (Zr rfl rfl ?_))
  have cd := p.ch0 aF
  refine Yc (off := 0) 1 cd sz24 rfl (us := [(.slice none 0 0)]) rfl rfl rfl rfl fun a8 T bk => ?_
  have ce := bk.size
  have E := E.step bk (lS om)
  replace T : Blk a8 ay 24 [(.slice none 0 0)] := T
  refine Za rfl rfl (Zd rfl) (Ze (Zb (cc _ _ ?_)))
  refine Zl (Zi ?_)
  clear aV a3
  have aO : Ol Token.cs 33 4 a8 (.slice none 0 0) ((Xf s).1) := by
   have hx := Ol.nil (cs := Token.cs) (e := 33) (k := 4) a8
   first | (rw [pe_n (s := s) (ts := ((Zq s 32 []).take i).map tkR) (by rw [List.take_of_length_le om]) (.inl h)]; exact hx) | (rw [pe_n (s := s) (ts := ((Zq s 32 []).take i).map tkR) (by rw [List.take_of_length_le om]) (.inr j)]; exact hx) | (rw [pe_y (s := s) (ts := ((Zq s 32 []).take i).map tkR) (by rw [List.take_of_length_le om]) j h]; exact hx)
  exact Zh [_, _] (Yb T rfl agg24 sz24 ⟨rfl, trivial⟩) ⟨(.slice none 0 0), (congrArg (fun zq => (Value.tuple #[.agg #[(.slice none 0 0)], .bool zq])) (by first | rw [pe_n (s := s) (ts := ((Zq s 32 []).take i).map tkR) (by rw [List.take_of_length_le om]) (.inl h)] | rw [pe_n (s := s) (ts := ((Zq s 32 []).take i).map tkR) (by rw [List.take_of_length_le om]) (.inr j)] | rw [pe_y (s := s) (ts := ((Zq s 32 []).take i).map tkR) (by rw [List.take_of_length_le om]) j h])), aO, (Lo.nil _), E⟩
 have a7 := j
 have j := Zu (Yr j)
 refine Zp ?_
 refine Zb (a3 _ _ ?_)
 refine Zf fun cG cf => ?_
 refine Zc ?_
 have cg := u.ch0 aF
 refine Za rfl rfl (Zs cg.at_ agg24 sz24 rfl) (Zr rfl rfl ?_)
 have ci := p.ch0 aF
 refine Yc (off := 0) 1 ci sz24 rfl (us := [(.slice Atv (((Zq s 32 []).take i).map tkR).length Ctv)]) rfl rfl rfl rfl fun bm U a9 => ?_
 have cj := a9.size
 have E := E.step a9 (lS om)
 replace U : Blk bm ay 24 [(.slice Atv (((Zq s 32 []).take i).map tkR).length Ctv)] := U
 refine Za rfl rfl (Zd rfl) (Ze (Zb (cf _ _ ?_)))
 refine Zl ?_
 have ck := (t.ch0 aF).ch a9 (dS b D om)
 have aP : Ol Token.cs 33 4 bm (.slice Atv (((Zq s 32 []).take i).map tkR).length Ctv) ((Xf s).1) := by
  have hx := ck
  first | (rw [pe_n (s := s) (ts := ((Zq s 32 []).take i).map tkR) (by rw [List.take_of_length_le om]) (.inl h)]; exact hx) | (rw [pe_n (s := s) (ts := ((Zq s 32 []).take i).map tkR) (by rw [List.take_of_length_le om]) (.inr j)]; exact hx) | (rw [pe_y (s := s) (ts := ((Zq s 32 []).take i).map tkR) (by rw [List.take_of_length_le om]) j h]; exact hx)
 exact Zh [_, _] (Yb U rfl agg24 sz24 ⟨rfl, trivial⟩) ⟨(.slice Atv (((Zq s 32 []).take i).map tkR).length Ctv), (congrArg (fun zq => (Value.tuple #[.agg #[(.slice Atv (((Zq s 32 []).take i).map tkR).length Ctv)], .bool zq])) (by first | rw [pe_n (s := s) (ts := ((Zq s 32 []).take i).map tkR) (by rw [List.take_of_length_le om]) (.inl h)] | rw [pe_n (s := s) (ts := ((Zq s 32 []).take i).map tkR) (by rw [List.take_of_length_le om]) (.inr j)] | rw [pe_y (s := s) (ts := ((Zq s 32 []).take i).map tkR) (by rw [List.take_of_length_le om]) j h])), aP, (Lo.down b om), E⟩

/-- laws.eqToken -/
theorem Zcz {w : World} (a : Token) (b : Token) :
 Ctr Tryz.prog 29 #[(.agg #[(.int .i64 a.kind), (.int .i64 a.letter), (.int .i64 a.low), (.int .i64 a.high)]), (.agg #[(.int .i64 b.kind), (.int .i64 b.letter), (.int .i64 b.low), (.int .i64 b.high)])] w (fun v w' => v = .bool (decide (a = b)) ∧ Ch [] w w') := by
 have E := Ch.refl [] w
 refine Zw (N := 25) (vs0 := [(.agg #[(.int .i64 a.kind), (.int .i64 a.letter), (.int .i64 a.low), (.int .i64 a.high)]), (.agg #[(.int .i64 b.kind), (.int .i64 b.letter), (.int .i64 b.low), (.int .i64 b.high)])]) Tryz.func29 rfl rfl rfl ?_
 refine Zf fun K1 H1 => ?_
 refine Zc (Zr rfl rfl ?_)
 refine Xz rfl fun m W2 i C2 A => ?_
 have B := C2.size
 have E := E.trans C2
 have C := i.lt
 replace i : Blk W2 m 33 [(.int .i64 a.kind), (.int .i64 a.letter), (.int .i64 a.low), (.int .i64 a.high)] := i
 refine Zr rfl rfl ?_
 refine Xz rfl fun n W3 h C3 D => ?_
 have F := C3.size
 have E := E.trans C3
 have G := h.lt
 replace h : Blk W3 n 33 [(.int .i64 b.kind), (.int .i64 b.letter), (.int .i64 b.low), (.int .i64 b.high)] := h
 refine Za rfl rfl (Zd rfl) (Ze (Zb (H1 _ _ ?_)))
 refine Zf fun K4 H4 => ?_
 refine Zf fun K5 H5 => ?_
 refine Zc (Za rfl rfl (Zk fa33_0 rfl) ?_)
 have F6 := i.ch0 C3
 refine Za rfl rfl (Zm F6.at_ agg3 rfl rfl) (Za rfl rfl (Zk fa33_0 rfl) (Za rfl rfl (Zm h.at_ agg3 rfl rfl) (Za rfl rfl (Yp rfl rfl) (Ze (Zb (H5 _ _ ?_))))))
 refine Zo rfl (fun g => ?_) (fun g => ?_)
 ·have o := g
  have g := Zv (Ys g)
  refine Zf fun K8 H8 => ?_
  refine Zc (Za rfl rfl (Zd rfl) (Ze (Zb (H8 _ _ ?_))))
  refine Zl (Zi ?_)
  exact Zh [_] ⟨rfl, trivial⟩ ⟨congrArg Value.bool (decide_eq_false (fun e => g (by rw [e]))).symm, E⟩
 have o := g
 have g := Zu (Yr g)
 refine Zp ?_
 refine Zb (H4 _ _ ?_)
 refine Zf fun K9 H9 => ?_
 refine Zf fun H p => ?_
 refine Zc (Za rfl rfl (Zk fa33_1 rfl) (Za rfl rfl (Zm F6.at_ agg3 rfl rfl) (Za rfl rfl (Zk fa33_1 rfl) (Za rfl rfl (Zm h.at_ agg3 rfl rfl) (Za rfl rfl (Yp rfl rfl) (Ze (Zb (p _ _ ?_))))))))
 refine Zo rfl (fun c => ?_) (fun c => ?_)
 ·have j := c
  have c := Zv (Ys c)
  refine Zf fun I q => ?_
  refine Zc (Za rfl rfl (Zd rfl) (Ze (Zb (q _ _ ?_))))
  refine Zl (Zi ?_)
  exact Zh [_] ⟨rfl, trivial⟩ ⟨congrArg Value.bool (decide_eq_false (fun e => c (by rw [e]))).symm, E⟩
 have j := c
 have c := Zu (Yr c)
 refine Zp ?_
 refine Zb (H9 _ _ ?_)
 refine Zf fun J r => ?_
 refine Zf fun K s => ?_
 refine Zc (Za rfl rfl (Zk fa33_2 rfl) (Za rfl rfl (Zm F6.at_ agg3 rfl rfl) (Za rfl rfl (Zk fa33_2 rfl) (Za rfl rfl (Zm h.at_ agg3 rfl rfl) (Za rfl rfl (Yp rfl rfl) (Ze (Zb (s _ _ ?_))))))))
 refine Zo rfl (fun d => ?_) (fun d => ?_)
 ·have k := d
  have d := Zv (Ys d)
  refine Zf fun L t => ?_
  refine Zc (Za rfl rfl (Zd rfl) (Ze (Zb (t _ _ ?_))))
  refine Zl (Zi ?_)
  exact Zh [_] ⟨rfl, trivial⟩ ⟨congrArg Value.bool (decide_eq_false (fun e => d (by rw [e]))).symm, E⟩
 have k := d
 have d := Zu (Yr d)
 refine Zp ?_
 refine Zb (r _ _ ?_)
 refine Zf fun M u => ?_
 refine Zf fun O x => ?_
 refine Zc (Za rfl rfl (Zk fa33_3 rfl) (Za rfl rfl (Zm F6.at_ agg3 rfl rfl) (Za rfl rfl (Zk fa33_3 rfl) (Za rfl rfl (Zm h.at_ agg3 rfl rfl) (Za rfl rfl (Yp rfl rfl) (Ze (Zb (x _ _ ?_))))))))
 refine Zo rfl (fun f => ?_) (fun f => ?_)
 ·have l := f
  have f := Zv (Ys f)
  refine Zf fun P y => ?_
  refine Zc (Za rfl rfl (Zd rfl) (Ze (Zb (y _ _ ?_))))
  refine Zl (Zi ?_)
  exact Zh [_] ⟨rfl, trivial⟩ ⟨congrArg Value.bool (decide_eq_false (fun e => f (by rw [e]))).symm, E⟩
 have l := f
 have f := Zu (Yr f)
 refine Zp ?_
 refine Zb (u _ _ ?_)
 refine Zf fun Q z => ?_
 refine Zc (Za rfl rfl (Zd rfl) (Ze (Zb (z _ _ ?_))))
 refine Zl ?_
 exact Zh [_] ⟨rfl, trivial⟩ ⟨congrArg Value.bool (decide_eq_true (Token.inj (by rw [g, c, d, f]))).symm, E⟩

/-- laws.eqTokenS -/
theorem Zco {w : World} {LL_a z : Nat} {n : Value} {a : List Token} (g : Ls Token.cs 4 w LL_a z n a) {LL_b A : Nat} {o : Value} {b : List Token} (h : Ls Token.cs 4 w LL_b A o b) :
 Ctr Tryz.prog 15 #[n, o] w (fun v w' => v = .bool (decide (a = b)) ∧ Ch [] w w') := by
 obtain ⟨p, q, r⟩ := g.val
 subst r
 have O := g.len
 have g := g.here (by decide)
 obtain ⟨s, t, u⟩ := h.val
 subst u
 have P := h.len
 have h := h.here (by decide)
 have E := Ch.refl [] w
 refine Zw (N := 27) (vs0 := [(.slice p a.length q), (.slice s b.length t)]) Tryz.func15 rfl rfl rfl ?_
 refine Zf fun K1 H1 => ?_
 refine Zc (Za rfl rfl (Zd rfl) (Ze (Zb (H1 _ _ ?_))))
 refine Zf fun K2 H2 => ?_
 refine Zf fun K3 H3 => ?_
 refine Zc (Za rfl rfl (Zg rfl) (Za rfl rfl (Qo (by rw [el22]; rfl) rfl) (Za rfl rfl (Zg rfl) (Za rfl rfl (Qo (by rw [el22]; rfl) rfl) (Za rfl rfl (Yp rfl rfl) (Ze (Zb (H3 _ _ ?_))))))))
 refine Zo rfl (fun d => ?_) (fun d => ?_)
 ·have Q := d
  have d := Zv (Ys d)
  refine Zf fun K5 H5 => ?_
  refine Zc (Za rfl rfl (Zd rfl) (Ze (Zb (H5 _ _ ?_))))
  refine Zl (Zi ?_)
  exact Zh [_] ⟨rfl, trivial⟩ ⟨congrArg Value.bool (decide_eq_false (fun e => d (by rw [e]))).symm, E⟩
 have Q := d
 have d := Zu (Yr d)
 refine Zp ?_
 refine Zb (H2 _ _ ?_)
 refine Zf fun K6 H6 => ?_
 refine Zf fun K7 H7 => ?_
 refine Zc (Za rfl rfl (Zd rfl) (Ze (Zb (H7 _ _ ?_))))
 refine Ye ?_
 refine Xq (σ := Nat) (fun (k : Nat) => [(0, (.slice p a.length q)), (1, (.slice s b.length t)), (5, (.int .i64 ((k : Nat) : Int)))]) (fun (k : Nat) wx => Ch [] w wx ∧ w.heap.size ≤ wx.heap.size ∧ (k ≤ a.length) ∧ (a.take k = b.take k)) (fun (k : Nat) => a.length - k) 0 (sC2 rfl rfl (sC1 rfl (Sub.nil _))) ⟨E, (Nat.le_refl _), om, rfl⟩ ?_
 rintro k R8 ⟨E, R, ag, K⟩
 have m := E
 have L := m.size
 refine Zf fun K9 H9 => ?_
 refine Zf fun ah S => ?_
 refine Zc (Za rfl rfl (Zg rfl) (Za rfl rfl (Zg rfl) (Za rfl rfl (Qo (by rw [el22]; rfl) rfl) (Za rfl rfl (Xp rfl rfl) (Ze (Zb (S _ _ ?_)))))))
 refine Zo rfl (fun f => ?_) (fun f => ?_)
 ·have B := f
  have f := Zu f
  refine Zp ?_
  refine Zb (H9 _ _ ?_)
  refine Zf fun ai M => ?_
  refine Ye ?_
  refine Zf fun aj T => ?_
  refine Zaq [] 10 mixed rfl fun U y => ?_
  have V := y.size
  have E := E.trans y
  refine dV 0 rfl rfl rfl (fun _ => Zg rfl) (dV 1 rfl rfl rfl (fun _ => Zg rfl) ?_)
  have X := (g.ch0 m).ch0 y
  refine dT 2 rfl rfl rfl (Zfd X Token.len el22 sz33 rfl rfl rfl om fun Y C j D => ?_)
  refine dT 3 rfl rfl rfl (Zbg D (fun i hi => absurd hi List.not_mem_nil) agg33 sz33 rfl ?_)
  refine dV 4 rfl rfl rfl (fun _ => Zg rfl) (dV 5 rfl rfl rfl (fun _ => Zg rfl) ?_)
  have Z := (h.ch0 m).ch0 y
  refine dT 6 rfl rfl rfl (Zfd Z Token.len el22 sz33 rfl rfl rfl om fun aa F l G => ?_)
  refine dT 7 rfl rfl rfl (Zbg G (fun i hi => absurd hi List.not_mem_nil) agg33 sz33 rfl ?_)
  refine dO 8 (Xd rfl rfl rfl ?_)
  refine Step.call (Zt (xs := [.tmp 20, .tmp 24]) fk29 rfl) (Zcz C F ) fun ab ac H => ?_
  obtain ⟨rfl, I⟩ := H
  have ad := I.size
  have E := E.trans I
  have x : Ch [] U ac := ((Ch.refl _ _).trans I)
  refine ⟨x, ?_⟩
  refine dV 9 rfl rfl rfl (fun _ => Qn rfl) ?_
  refine Xl (by kernel_rfl) ?_
  refine Zb (T _ _ ?_)
  refine Zo rfl (fun c => ?_) (fun c => ?_)
  ·have J := c
   have c := Zv (Ys c)
   refine Zf fun ak ae => ?_
   refine Zc (Za rfl rfl (Zd rfl) (Ze (Zb (ae _ _ ?_))))
   refine Zl (Zn (Zi (Zi (Zn (Zi ?_)))))
   clear H6 M
   exact Zh [_] ⟨rfl, trivial⟩ ⟨congrArg Value.bool (decide_eq_false (Zhh j l c)).symm, E⟩
  have J := c
  have c := Zu (Yr c)
  refine Zp ?_
  refine Yf (Zb (M _ _ (Zc (Za rfl rfl (Zg rfl) (Za rfl rfl (Yt om rfl rfl) (Za rfl rfl (Zd rfl) (Ze ?_)))))))
  exact Zb (Exists.intro (k + 1) ⟨⟨E, om, om, (Zek K j l c)⟩, sC2 rfl rfl (sC1 rfl (Sub.nil _)), (by first | omega | (dsimp only; omega))⟩)
 have B := f
 have f := Zv f
 refine Xj (Yd (Yd (Xc ?_)))
 refine Zb (H6 _ _ ?_)
 refine Zf fun al af => ?_
 refine Zc (Za rfl rfl (Zd rfl) (Ze (Zb (af _ _ ?_))))
 refine Zl ?_
 exact Zh [_] ⟨rfl, trivial⟩ ⟨congrArg Value.bool (decide_eq_true (Zfv K om om)).symm, E⟩

/-- laws.eqExpr -/
theorem Zaz {w : World} {LL_a p : Nat} {f : Value} {a : List Token} (d : Ls Token.cs 4 w LL_a p f a) {LL_b q : Nat} {g : Value} {b : List Token} (e : Ls Token.cs 4 w LL_b q g b) :
 Ctr Tryz.prog 6 #[(.agg #[f]), (.agg #[g])] w (fun v w' => v = .bool (decide (a = b)) ∧ Ch [] w w') := by
 obtain ⟨h, i, j⟩ := d.val
 subst j
 have s := d.len
 have d := d.here (by decide)
 obtain ⟨k, l, m⟩ := e.val
 subst m
 have t := e.len
 have e := e.here (by decide)
 have E := Ch.refl [] w
 refine Zw (N := 11) (vs0 := [(.agg #[(.slice h a.length i)]), (.agg #[(.slice k b.length l)])]) Tryz.func6 rfl rfl rfl ?_
 refine Zf fun K1 H1 => ?_
 refine Zc (Zr rfl rfl ?_)
 refine Xz rfl fun u W2 n C2 B => ?_
 have C := C2.size
 have E := E.trans C2
 have D := n.lt
 replace n : Blk W2 u 24 [(.slice h a.length i)] := n
 refine Zr rfl rfl ?_
 refine Xz rfl fun x W3 o C3 F => ?_
 have G := C3.size
 have E := E.trans C3
 have H := o.lt
 replace o : Blk W3 x 24 [(.slice k b.length l)] := o
 refine Za rfl rfl (Zd rfl) (Ze (Zb (H1 _ _ ?_)))
 refine Zf fun K4 H4 => ?_
 refine Zf fun K5 H5 => ?_
 refine Zc (Za rfl rfl (Zk fa24_0 rfl) ?_)
 have F6 := n.ch0 C3
 refine Za rfl rfl (Zm F6.at_ agg22 rfl rfl) (Za rfl rfl (Zk fa24_0 rfl) (Za rfl rfl (Zm o.at_ agg22 rfl rfl) (Zr rfl rfl ?_)))
 have F7 := (d.ch0 C2).ch0 C3
 have F8 := (e.ch0 C2).ch0 C3
 refine Step.call (Zt (xs := [.tmp 6, .tmp 8]) fk15 rfl) (Zco F7 F8 ) fun I W9 y => ?_
 obtain ⟨rfl, C9⟩ := y
 have J := C9.size
 have E := E.trans C9
 refine Za rfl rfl (Qn rfl) (Ze (Zb (H5 _ _ ?_)))
 refine Zo rfl (fun c => ?_) (fun c => ?_)
 ·have r := c
  have c := Zv (Ys c)
  refine Zf fun K z => ?_
  refine Zc (Za rfl rfl (Zd rfl) (Ze (Zb (z _ _ ?_))))
  refine Zl (Zi ?_)
  exact Zh [_] ⟨rfl, trivial⟩ ⟨congrArg Value.bool (by simp_all), E⟩
 have r := c
 have c := Zu (Yr c)
 refine Zp ?_
 refine Zb (H4 _ _ ?_)
 refine Zf fun L A => ?_
 refine Zc (Za rfl rfl (Zd rfl) (Ze (Zb (A _ _ ?_))))
 refine Zl ?_
 exact Zh [_] ⟨rfl, trivial⟩ ⟨congrArg Value.bool (by simp_all), E⟩

/-- laws.heldTokenS -/
theorem Zbm {w : World} {LL_a u : Nat} {o : Value} {a : List Token} (g : Ls Token.cs 4 w LL_a u o a) (k : Int) (M : 0 ≤ k) (hkk : k + 4 * a.length ≤ 4611686018427387904) :
 Ctr Tryz.prog 17 #[o, (.int .i64 k)] w (fun v w' => v = .int .i64 (if a = Yg k a.length then k + 4 * a.length else -1) ∧ Ch [] w w') := by
 obtain ⟨p, q, r⟩ := g.val
 subst r
 have O := g.len
 have g := g.here (by decide)
 have E := Ch.refl [] w
 refine Zw (N := 49) (vs0 := [(.slice p a.length q), (.int .i64 k)]) Tryz.func17 rfl rfl rfl ?_
 refine Zf fun K1 H1 => ?_
 refine Zc (Za rfl rfl (Zd rfl) (Ze (Zb (H1 _ _ ?_))))
 refine Zf fun K2 H2 => ?_
 refine Zf fun K3 H3 => ?_
 refine Zc (Za rfl rfl (Zd rfl) (Ze (Zb (H3 _ _ ?_))))
 refine Ye ?_
 refine Xq (σ := Nat × Int) (fun ⟨i, kk⟩ => [(0, (.slice p a.length q)), (1, (.int .i64 kk)), (5, (.int .i64 ((i : Nat) : Int)))]) (fun ⟨i, kk⟩ wx => Ch [] w wx ∧ w.heap.size ≤ wx.heap.size ∧ (i ≤ a.length) ∧ (kk = k + 4 * i) ∧ (a.take i = Yg k i)) (fun ⟨i, kk⟩ => a.length - i) (0, k) (sC2 rfl rfl (sC1 rfl (Sub.nil _))) ⟨E, (Nat.le_refl _), om, om, rfl⟩ ?_
 rintro ⟨i, kk⟩ R4 ⟨E, P, hi, hq, H⟩
 have s := E
 have I := s.size
 refine Zf fun K5 H5 => ?_
 refine Zf fun K6 H6 => ?_
 refine Zc (Za rfl rfl (Zg rfl) (Za rfl rfl (Zg rfl) (Za rfl rfl (Qo (by rw [el22]; rfl) rfl) (Za rfl rfl (Xp rfl rfl) (Ze (Zb (H6 _ _ ?_)))))))
 refine Zo rfl (fun n => ?_) (fun n => ?_)
 ·have Q := n
  have n := Zu n
  refine Zp ?_
  refine Zb (H5 _ _ ?_)
  refine Zf fun K8 H8 => ?_
  refine Ye ?_
  refine Zf fun K9 H9 => ?_
  refine Zf fun am R => ?_
  refine Zc (Za rfl rfl (Zg rfl) (Za rfl rfl (Zg rfl) (Zr rfl rfl ?_)))
  have t := g.ch0 s
  refine (Xk t Token.len el22 sz33 rfl rfl rfl om fun S T h x => ?_)
  refine Za rfl rfl (Zk fa33_0 rfl) (Za rfl rfl (Zm x agg3 rfl rfl) (Za rfl rfl (Zg rfl) (Za rfl rfl (Yp rfl rfl) (Ze (Zb (R _ _ ?_))))))
  refine Zo rfl (fun b => ?_) (fun b => ?_)
  ·have y := b
   have b := Zv (Ys b)
   refine Zf fun an U => ?_
   refine Zc (Za rfl rfl (Zd rfl) (Ze (Zb (U _ _ ?_))))
   refine Zl (Zi (Zn (Zi (Zi (Zn (Zi ?_))))))
   clear H2 H8 H9
   exact Zh [_] ⟨rfl, trivial⟩ ⟨congrArg (Value.int .i64) (if_neg (fun e => b (by have z := (Xu e h).1; omega))).symm, E⟩
  have y := b
  have b := Zu (Yr b)
  refine Zp ?_
  refine Zb (H9 _ _ ?_)
  refine Zf fun ao V => ?_
  refine Zc (Za rfl rfl (Zg rfl) (Za rfl rfl (Yt om rfl rfl) (Za rfl rfl (Zd rfl) (Ze (Zb (V _ _ ?_))))))
  refine Zf fun ap J => ?_
  refine Zf fun aq X => ?_
  refine Zc (Za rfl rfl (Zg rfl) (Za rfl rfl (Zg rfl) (Zr rfl rfl ?_)))
  refine (Xk t Token.len el22 sz33 rfl rfl rfl om fun Y Z j A => ?_)
  refine Za rfl rfl (Zk fa33_1 rfl) (Za rfl rfl (Zm A agg3 rfl rfl) (Za rfl rfl (Zg rfl) (Za rfl rfl (Yp rfl rfl) (Ze (Zb (X _ _ ?_))))))
  refine Zo rfl (fun c => ?_) (fun c => ?_)
  ·have B := c
   have c := Zv (Ys c)
   refine Zf fun au aa => ?_
   refine Zc (Za rfl rfl (Zd rfl) (Ze (Zb (aa _ _ ?_))))
   refine Zl (Zi (Zn (Zi (Zi (Zn (Zi ?_))))))
   clear H2 H8 J
   exact Zh [_] ⟨rfl, trivial⟩ ⟨congrArg (Value.int .i64) (if_neg (fun e => c (by have z := (Xu e j).2.1; omega))).symm, E⟩
  have B := c
  have c := Zu (Yr c)
  refine Zp ?_
  refine Zb (J _ _ ?_)
  refine Zf fun av ab => ?_
  refine Zc (Za rfl rfl (Zg rfl) (Za rfl rfl (Yt om rfl rfl) (Za rfl rfl (Zd rfl) (Ze (Zb (ab _ _ ?_))))))
  refine Zf fun aw K => ?_
  refine Zf fun ax ac => ?_
  refine Zc (Za rfl rfl (Zg rfl) (Za rfl rfl (Zg rfl) (Zr rfl rfl ?_)))
  refine (Xk t Token.len el22 sz33 rfl rfl rfl om fun ad ae l C => ?_)
  refine Za rfl rfl (Zk fa33_2 rfl) (Za rfl rfl (Zm C agg3 rfl rfl) (Za rfl rfl (Zg rfl) (Za rfl rfl (Yp rfl rfl) (Ze (Zb (ac _ _ ?_))))))
  refine Zo rfl (fun d => ?_) (fun d => ?_)
  ·have D := d
   have d := Zv (Ys d)
   refine Zf fun ay af => ?_
   refine Zc (Za rfl rfl (Zd rfl) (Ze (Zb (af _ _ ?_))))
   refine Zl (Zi (Zn (Zi (Zi (Zn (Zi ?_))))))
   clear H2 H8 K
   exact Zh [_] ⟨rfl, trivial⟩ ⟨congrArg (Value.int .i64) (if_neg (fun e => d (by have z := (Xu e l).2.2.1; omega))).symm, E⟩
  have D := d
  have d := Zu (Yr d)
  refine Zp ?_
  refine Zb (K _ _ ?_)
  refine Zf fun az ag => ?_
  refine Zc (Za rfl rfl (Zg rfl) (Za rfl rfl (Yt om rfl rfl) (Za rfl rfl (Zd rfl) (Ze (Zb (ag _ _ ?_))))))
  refine Zf fun aA L => ?_
  refine Zf fun aB ah => ?_
  refine Zc (Za rfl rfl (Zg rfl) (Za rfl rfl (Zg rfl) (Zr rfl rfl ?_)))
  refine (Xk t Token.len el22 sz33 rfl rfl rfl om fun ai aj m F => ?_)
  refine Za rfl rfl (Zk fa33_3 rfl) (Za rfl rfl (Zm F agg3 rfl rfl) (Za rfl rfl (Zg rfl) (Za rfl rfl (Yp rfl rfl) (Ze (Zb (ah _ _ ?_))))))
  refine Zo rfl (fun f => ?_) (fun f => ?_)
  ·have G := f
   have f := Zv (Ys f)
   refine Zf fun aC ak => ?_
   refine Zc (Za rfl rfl (Zd rfl) (Ze (Zb (ak _ _ ?_))))
   refine Zl (Zi (Zn (Zi (Zi (Zn (Zi ?_))))))
   clear H2 H8 L
   exact Zh [_] ⟨rfl, trivial⟩ ⟨congrArg (Value.int .i64) (if_neg (fun e => f (by have z := (Xu e m).2.2.2; omega))).symm, E⟩
  have G := f
  have f := Zu (Yr f)
  refine Zp ?_
  refine Zb (L _ _ (Zc (Za rfl rfl (Zg rfl) (Za rfl rfl (Yt om rfl rfl) (Za rfl rfl (Zd rfl) (Ze (Yf (Zb (H8 _ _ ?_)))))))))
  refine Zc (Za rfl rfl (Zg rfl) (Za rfl rfl (Yt om rfl rfl) (Za rfl rfl (Zd rfl) (Ze ?_))))
  exact Zb (Exists.intro ((i + 1), ((((kk + 1) + 1) + 1) + 1)) ⟨⟨E, om, om, om, (Zcy H hq h b j c l d m f)⟩, sC2 rfl rfl (sC1 rfl (Sub.nil _)), (by first | omega | (dsimp only; omega))⟩)
 have Q := n
 have n := Zv n
 refine Xj (Yd (Yd (Xc ?_)))
 refine Zb (H2 _ _ ?_)
 refine Zf fun aD al => ?_
 refine Zc (Za rfl rfl (Zg rfl) (Za rfl rfl (Zd rfl) (Ze (Zb (al _ _ ?_)))))
 refine Zl ?_
 exact Zh [_] ⟨rfl, trivial⟩ ⟨congrArg (Value.int .i64) (by rw [if_pos (Zdp H om om)]; omega), E⟩

/-- laws.heldExpr -/
theorem Zah {w : World} {LL_a i : Nat} {d : Value} {a : List Token} (c : Ls Token.cs 4 w LL_a i d a) (k : Int) (j : 0 ≤ k) (hkk : k + 4 * a.length ≤ 4611686018427387904) :
 Ctr Tryz.prog 8 #[(.agg #[d]), (.int .i64 k)] w (fun v w' => v = .int .i64 (if a = Yg k a.length then k + 4 * a.length else -1) ∧ Ch [] w w') := by
 obtain ⟨e, f, g⟩ := c.val
 subst g
 have l := c.len
 have c := c.here (by decide)
 have E := Ch.refl [] w
 refine Zw (N := 12) (vs0 := [(.agg #[(.slice e a.length f)]), (.int .i64 k)]) Tryz.func8 rfl rfl rfl ?_
 refine Zf fun K1 H1 => ?_
 refine Zc (Zr rfl rfl ?_)
 refine Xz rfl fun m W2 h C2 q => ?_
 have r := C2.size
 have E := E.trans C2
 have s := h.lt
 replace h : Blk W2 m 24 [(.slice e a.length f)] := h
 refine Za rfl rfl (Zd rfl) (Ze (Zb (H1 _ _ ?_)))
 refine Zf fun K3 H3 => ?_
 refine Zc (Za rfl rfl (Zk fa24_0 rfl) (Za rfl rfl (Zm h.at_ agg22 rfl rfl) (Za rfl rfl (Zg rfl) (Zr rfl rfl ?_))))
 have F4 := c.ch0 C2
 refine Step.call (Zt (xs := [.tmp 6, .tmp 7]) fk17 rfl) (Zbm F4 _ om (by first | omega | (simp <;> omega))) fun t W5 n => ?_
 obtain ⟨rfl, C5⟩ := n
 have u := C5.size
 have E := E.trans C5
 refine Za rfl rfl (Zd rfl) (Ze (Zb (H3 _ _ ?_)))
 refine Zf fun K6 H6 => ?_
 refine Zf fun K7 H7 => ?_
 refine Zc (Za rfl rfl (Zg rfl) (Za rfl rfl (Xp rfl rfl) (Ze (Zb (H7 _ _ ?_)))))
 refine Zo rfl (fun b => ?_) (fun b => ?_)
 ·have o := b
  have b := Zu b
  refine Zf fun K9 H9 => ?_
  refine Zc (Za rfl rfl (Zd rfl) (Ze (Zb (H9 _ _ ?_))))
  refine Zl (Zi ?_)
  exact Zh [_] ⟨rfl, trivial⟩ ⟨congrArg (Value.int .i64) (by split <;> (first | rfl | (rename_i hc; rw [if_pos hc] at b; omega))), E⟩
 have o := b
 have b := Zv b
 refine Zp ?_
 refine Zb (H6 _ _ ?_)
 refine Zf fun x p => ?_
 refine Zc (Za rfl rfl (Zg rfl) (Za rfl rfl (Zd rfl) (Ze (Zb (p _ _ ?_)))))
 refine Zl ?_
 exact Zh [_] ⟨rfl, trivial⟩ ⟨congrArg (Value.int .i64) rfl, E⟩

/-- laws.markTokenS -/
theorem Zbl {w : World} {e_a : Nat} {l : Value} {a : List Token} (q : Ol Token.cs e_a 4 w l a) (k : Int) (L : 0 ≤ k) (hkk : k + 4 * a.length ≤ 4611686018427387904) :
 Ctr Tryz.prog 16 #[l, (.int .i64 k)] w (fun v w' => v = .int .i64 (k + 4 * a.length) ∧ Ol Token.cs e_a 4 w' l (Yg k a.length) ∧ Ch (bl l) w w') := by
 obtain ⟨c, d, rfl, M, A⟩ := q.opn
 have E := Ch.refl (bl (.slice c a.length d)) w
 refine Zw (N := 41) (vs0 := [(.slice c a.length d), (.int .i64 k)]) Tryz.func16 rfl rfl rfl ?_
 refine Zf fun K1 H1 => ?_
 refine Zc (Za rfl rfl (Zd rfl) (Ze (Zb (H1 _ _ ?_))))
 refine Zf fun K2 H2 => ?_
 refine Zf fun K3 H3 => ?_
 refine Zc (Za rfl rfl (Zd rfl) (Ze (Zb (H3 _ _ ?_))))
 refine Ye ?_
 have r : Ol Token.cs e_a 4 w (.slice c a.length d) (Yg k 0 ++ a.drop 0) := by
  have hx := q
  simpa [Yg] using hx
 refine Xq (σ := Nat × Int) (fun ⟨i, kk⟩ => [(0, (.slice c a.length d)), (1, (.int .i64 kk)), (4, (.int .i64 0)), (5, (.int .i64 ((i : Nat) : Int)))]) (fun ⟨i, kk⟩ wx => Ch (bl (.slice c a.length d)) w wx ∧ w.heap.size ≤ wx.heap.size ∧ (i ≤ a.length) ∧ (kk = k + 4 * i) ∧ Ol Token.cs e_a 4 wx (.slice c a.length d) (Yg k i ++ a.drop i)) (fun ⟨i, kk⟩ => a.length - i) (0, k) (sC4 rfl rfl rfl rfl (Sub.nil _)) ⟨E, (Nat.le_refl _), om, om, r⟩ ?_
 rintro ⟨i, kk⟩ R5 ⟨E, O, hi, hq, f⟩
 have t := E
 have B := t.size
 refine Zf fun K6 H6 => ?_
 refine Zf fun K7 H7 => ?_
 refine Zc (Za rfl rfl (Zg rfl) (Za rfl rfl (Zg rfl) (Za rfl rfl (Qo (by rw [el22]; rfl) rfl) (Za rfl rfl (Xp rfl rfl) (Ze (Zb (H7 _ _ ?_)))))))
 refine Zo rfl (fun o => ?_) (fun o => ?_)
 ·have P := o
  have o := Zu o
  refine Zp ?_
  refine Zb (H6 _ _ ?_)
  refine Zf fun K9 H9 => ?_
  refine Ye ?_
  refine Zf fun an Q => ?_
  refine Zc (Za rfl rfl (Zg rfl) (Za rfl rfl (Zg rfl) (Za rfl rfl (Zg rfl) (Zr rfl rfl ?_))))
  refine Zbx (j := i) f el22 sz33 rfl rfl rfl (by first | omega | (simp [Yg] <;> omega)) fun R S C u => ?_
  refine Za rfl rfl (Zk fa33_0 rfl) (Zr rfl rfl ?_)
  obtain ⟨b, e⟩ := Zhv (xs := Yg k i ++ a.drop i) (j := i) (by first | omega | (simp [Yg] <;> omega))
  refine Zca (j := i) 0 (⟨b.kind, b.letter, b.low, b.high⟩ : Token) (⟨kk, b.letter, b.low, b.high⟩ : Token) f u e Token.len rfl sz3 rfl rfl rfl rfl fun ao m D => ?_
  have T := D.size
  have E := E.trans D
  refine Ze (Zb (Q _ _ ?_))
  refine Zf fun ap U => ?_
  refine Zc (Za rfl rfl (Zg rfl) (Za rfl rfl (Yt om rfl rfl) (Za rfl rfl (Zd rfl) (Ze (Zb (U _ _ ?_))))))
  refine Zf fun aq V => ?_
  refine Zc (Za rfl rfl (Zg rfl) (Za rfl rfl (Zg rfl) (Za rfl rfl (Zg rfl) (Zr rfl rfl ?_))))
  refine Zbx (j := i) m el22 sz33 rfl rfl rfl (by first | omega | (simp [Yg] <;> omega)) fun X Y F x => ?_
  refine Za rfl rfl (Zk fa33_1 rfl) (Zr rfl rfl ?_)
  refine Zca (j := i) 1 (⟨kk, b.letter, b.low, b.high⟩ : Token) (⟨kk, (kk + 1), b.low, b.high⟩ : Token) m x (Zez e _) Token.len rfl sz3 rfl rfl rfl rfl fun au g G => ?_
  rw [List.set_set] at g
  have Z := G.size
  have E := E.trans G
  refine Ze (Zb (V _ _ ?_))
  refine Zf fun av aa => ?_
  refine Zc (Za rfl rfl (Zg rfl) (Za rfl rfl (Yt om rfl rfl) (Za rfl rfl (Zd rfl) (Ze (Zb (aa _ _ ?_))))))
  refine Zf fun aw ab => ?_
  refine Zc (Za rfl rfl (Zg rfl) (Za rfl rfl (Zg rfl) (Za rfl rfl (Zg rfl) (Zr rfl rfl ?_))))
  refine Zbx (j := i) g el22 sz33 rfl rfl rfl (by first | omega | (simp [Yg] <;> omega)) fun ac ad H y => ?_
  refine Za rfl rfl (Zk fa33_2 rfl) (Zr rfl rfl ?_)
  refine Zca (j := i) 2 (⟨kk, (kk + 1), b.low, b.high⟩ : Token) (⟨kk, (kk + 1), ((kk + 1) + 1), b.high⟩ : Token) g y (Zez e _) Token.len rfl sz3 rfl rfl rfl rfl fun ax h I => ?_
  rw [List.set_set] at h
  have ae := I.size
  have E := E.trans I
  refine Ze (Zb (ab _ _ ?_))
  refine Zf fun ay af => ?_
  refine Zc (Za rfl rfl (Zg rfl) (Za rfl rfl (Yt om rfl rfl) (Za rfl rfl (Zd rfl) (Ze (Zb (af _ _ ?_))))))
  refine Zf fun az ag => ?_
  refine Zc (Za rfl rfl (Zg rfl) (Za rfl rfl (Zg rfl) (Za rfl rfl (Zg rfl) (Zr rfl rfl ?_))))
  refine Zbx (j := i) h el22 sz33 rfl rfl rfl (by first | omega | (simp [Yg] <;> omega)) fun ah ai J z => ?_
  refine Za rfl rfl (Zk fa33_3 rfl) (Zr rfl rfl ?_)
  refine Zca (j := i) 3 (⟨kk, (kk + 1), ((kk + 1) + 1), b.high⟩ : Token) (⟨kk, (kk + 1), ((kk + 1) + 1), (((kk + 1) + 1) + 1)⟩ : Token) h z (Zez e _) Token.len rfl sz3 rfl rfl rfl rfl fun aj n K => ?_
  rw [List.set_set] at n
  have ak := K.size
  have E := E.trans K
  refine Ze (Zb (ag _ _ (Zc (Za rfl rfl (Zg rfl) (Za rfl rfl (Yt om rfl rfl) (Za rfl rfl (Zd rfl) (Ze (Yf ?_))))))))
  refine Zb (H9 _ _ (Zc (Za rfl rfl (Zg rfl) (Za rfl rfl (Yt om rfl rfl) (Za rfl rfl (Zd rfl) (Ze ?_))))))
  have p : Ol Token.cs e_a 4 aj (.slice c a.length d) (Yg k (i + 1) ++ a.drop (i + 1)) := by
   have hx := n
   rwa [Zen a om hq] at hx
  exact Zb (Exists.intro ((i + 1), ((((kk + 1) + 1) + 1) + 1)) ⟨⟨E, om, om, om, p⟩, sC4 rfl rfl rfl rfl (Sub.nil _), (by first | omega | (dsimp only; omega))⟩)
 have P := o
 have o := Zv o
 refine Xj (Yd (Yd (Xc ?_)))
 refine Zb (H2 _ _ ?_)
 refine Zf fun aA al => ?_
 refine Zc (Za rfl rfl (Zg rfl) (Za rfl rfl (Zd rfl) (Ze (Zb (al _ _ ?_)))))
 refine Zl ?_
 have s : Ol Token.cs e_a 4 R5 (.slice c a.length d) (Yg k a.length) := by
  have hx := f
  have am : i = a.length := om; subst am; simpa using hx
 exact Zh [_] ⟨rfl, trivial⟩ ⟨congrArg (Value.int .i64) om, s, E⟩

/-- laws.markExpr -/
theorem Zcm {w : World} {e_a : Nat} {b : Value} {a : List Token} (e : Ol Token.cs e_a 4 w b a) (k : Int) (j : 0 ≤ k) (hkk : k + 4 * a.length ≤ 4611686018427387904) :
 Ctr Tryz.prog 7 #[(.agg #[b]), (.int .i64 k)] w (fun v w' => v = .int .i64 (k + 4 * a.length) ∧ Ol Token.cs e_a 4 w' b (Yg k a.length) ∧ Ch (bl b) w w') := by
 obtain ⟨c, d, rfl, l, i⟩ := e.opn
 have E := Ch.refl (bl (.slice c a.length d)) w
 refine Zw (N := 10) (vs0 := [(.agg #[(.slice c a.length d)]), (.int .i64 k)]) Tryz.func7 rfl rfl rfl ?_
 refine Zf fun K1 H1 => ?_
 refine Zc (Zr rfl rfl ?_)
 refine Xz rfl fun m W2 f C2 n => ?_
 have o := C2.size
 have E := E.trans C2.of_nil
 have p := f.lt
 replace f : Blk W2 m 24 [(.slice c a.length d)] := f
 refine Za rfl rfl (Zd rfl) (Ze (Zb (H1 _ _ ?_)))
 refine Zf fun K3 H3 => ?_
 refine Zc (Za rfl rfl (Zk fa24_0 rfl) (Za rfl rfl (Zm f.at_ agg22 rfl rfl) (Za rfl rfl (Zg rfl) (Zr rfl rfl ?_))))
 have F4 := e.ch0 C2
 refine Step.call (Zt (xs := [.tmp 6, .tmp 7]) fk16 rfl) (Zbl F4 _ om (by first | omega | (simp <;> omega))) fun q W5 g => ?_
 obtain ⟨rfl, g, C5⟩ := g
 have r := C5.size
 have E := E.trans C5
 refine Za rfl rfl (Zd rfl) (Ze (Zb (H3 _ _ ?_)))
 refine Zf fun K6 H6 => ?_
 refine Zc (Za rfl rfl (Zg rfl) (Za rfl rfl (Zd rfl) (Ze (Zb (H6 _ _ ?_)))))
 refine Zl ?_
 have h : Ol Token.cs e_a 4 W5 (.slice c a.length d) (Yg k a.length) := by
  have hx := g
  first | exact hx | simpa using hx
 exact Zh [_] ⟨rfl, trivial⟩ ⟨congrArg (Value.int .i64) rfl, h, E⟩

/-- spec.l1In -/
theorem Zar {w : World} (n : Int) (a : Int) (b : Int) :
 Ctr Tryz.prog 54 #[(.int .i64 n), (.int .i64 a), (.int .i64 b)] w (fun v w' => v = .bool (decide (a ≤ n ∧ n ≤ b)) ∧ Ch [] w w') := by
 have E := Ch.refl [] w
 refine Zw (N := 15) (vs0 := [(.int .i64 n), (.int .i64 a), (.int .i64 b)]) Tryz.func54 rfl rfl rfl ?_
 refine Zf fun K1 H1 => ?_
 refine Zc (Za rfl rfl (Zd rfl) (Ze (Zb (H1 _ _ ?_))))
 refine Zf fun K2 H2 => ?_
 refine Zc (Za rfl rfl (Zg rfl) (Za rfl rfl (Zg rfl) (Za rfl rfl (Zkw rfl rfl) (Za rfl rfl (Zg rfl) ?_))))
 refine Zy (d := 10) rfl (fun c => ?_) (fun c => ?_)
 ·have e := c
  have c := Zu c
  refine Za rfl rfl (Zg rfl) (Za rfl rfl (Zg rfl) (Za rfl rfl (Zfr rfl rfl) (Za rfl rfl (Zx rfl rfl) (Za rfl rfl (Zd rfl) (Ze (Zb (H2 _ _ ?_)))))))
  refine Zl ?_
  exact Zh [_] ⟨rfl, trivial⟩ ⟨congrArg Value.bool (by first | rfl | (rw [Bool.eq_iff_iff]; simp <;> omega) | (rw [Bool.eq_iff_iff]; simp_all; done) | simp_all), E⟩
 have e := c
 have c := Zv c
 refine Zj rfl rfl (Zj rfl rfl (Zj rfl rfl (Za rfl rfl (Ya rfl rfl) (Za rfl rfl (Zd rfl) (Ze (Zb (H2 _ _ ?_)))))))
 refine Zl ?_
 exact Zh [_] ⟨rfl, trivial⟩ ⟨congrArg Value.bool (by first | rfl | (rw [Bool.eq_iff_iff]; simp <;> omega) | (rw [Bool.eq_iff_iff]; simp_all; done) | simp_all), E⟩

/-- spec.l2Letter -/
theorem Zai {w : World} (n : Int) :
 Ctr Tryz.prog 53 #[(.int .i64 n)] w (fun v w' => v = .bool (decide (0 ≤ n ∧ n ≤ 8)) ∧ Ch [] w w') := by
 have E := Ch.refl [] w
 refine Zw (N := 5) (vs0 := [(.int .i64 n)]) Tryz.func53 rfl rfl rfl ?_
 refine Zf fun K1 H1 => ?_
 refine Zc (Za rfl rfl (Zd rfl) (Ze (Zb (H1 _ _ ?_))))
 refine Zf fun K2 H2 => ?_
 refine Zc (Za rfl rfl (Zg rfl) (Zr rfl rfl ?_))
 refine Step.call (Zt (xs := [.tmp 3, .const (Go.Value.int Go.IntKind.i64 0), .const (Go.Value.int Go.IntKind.i64 8)]) fk54 rfl) (Zar _ _ _ ) fun b W3 a => ?_
 obtain ⟨rfl, C3⟩ := a
 have c := C3.size
 have E := E.trans C3
 refine Za rfl rfl (Zd rfl) (Ze (Zb (H2 _ _ ?_)))
 refine Zl ?_
 exact Zh [_] ⟨rfl, trivial⟩ ⟨congrArg Value.bool rfl, E⟩

/-- spec.l8Arity -/
theorem Zcq {w : World} (t : Token) :
 Ctr Tryz.prog 32 #[(.agg #[(.int .i64 t.kind), (.int .i64 t.letter), (.int .i64 t.low), (.int .i64 t.high)])] w (fun v w' => v = .int .i64 (arT t) ∧ Ch [] w w') := by
 have E := Ch.refl [] w
 refine Zw (N := 87) (vs0 := [(.agg #[(.int .i64 t.kind), (.int .i64 t.letter), (.int .i64 t.low), (.int .i64 t.high)])]) Tryz.func32 rfl rfl rfl ?_
 refine Zf fun K1 H1 => ?_
 refine Zc (Zr rfl rfl ?_)
 refine Xz rfl fun aC W2 i C2 bh => ?_
 have bi := C2.size
 have E := E.trans C2
 have bj := i.lt
 replace i : Blk W2 aC 33 [(.int .i64 t.kind), (.int .i64 t.letter), (.int .i64 t.low), (.int .i64 t.high)] := i
 refine Za rfl rfl (Zd rfl) (Ze (Zb (H1 _ _ ?_)))
 refine Zf fun K3 H3 => ?_
 refine Zf fun K4 H4 => ?_
 refine Zc (Za rfl rfl (Zk fa33_0 rfl) (Za rfl rfl (Zm i.at_ agg3 rfl rfl) (Ze (Zb (H4 _ _ ?_)))))
 refine Ye ?_
 refine Zf fun K5 H5 => ?_
 refine Zf fun K6 H6 => ?_
 refine Zc (Za rfl rfl (Yk rfl rfl) (Za rfl rfl (Zd rfl) (Ze (Zb (H6 _ _ ?_)))))
 refine Zo rfl (fun j => ?_) (fun j => ?_)
 ·have ax := j
  have j := Zu j
  refine Zp ?_
  refine Zb (H5 _ _ ?_)
  refine Xy rfl ax ?_
  refine Zf fun K8 H8 => ?_
  refine Zf fun K9 H9 => ?_
  refine Zc (Za rfl rfl (Zk fa33_1 rfl) (Za rfl rfl (Zm i.at_ agg3 rfl rfl) (Za rfl rfl (Yp rfl rfl) (Za rfl rfl (Zg rfl) ?_))))
  refine Zy (d := 11) rfl (fun a => ?_) (fun a => ?_)
  ·have H := a
   have a := Zv (Ys a)
   refine Zj rfl rfl (Zj rfl rfl (Zj rfl rfl (Za rfl rfl (Zx rfl rfl) (Za rfl rfl (Zg rfl) (Zj rfl rfl (Zj rfl rfl (Zj rfl rfl ?_)))))))
   refine Za rfl rfl (Zx rfl rfl) (Ze (Zb (H9 _ _ ?_)))
   refine Yn rfl ?_
   refine Zf fun bk aD => ?_
   refine Zc (Za rfl rfl (Zd rfl) (Ze (Zb (aD _ _ ?_))))
   refine Zl (Zi (Zn (Zi ?_)))
   clear H3 H8
   exact Zh [_] ⟨rfl, trivial⟩ ⟨congrArg (Value.int .i64) (by unfold arT; repeat (first | rw [if_pos om] | rw [if_neg om])), E⟩
  have H := a
  have a := Zu (Yr a)
  refine Za rfl rfl (Zk fa33_2 rfl) (Za rfl rfl (Zm i.at_ agg3 rfl rfl) (Za rfl rfl (Yp rfl rfl) (Za rfl rfl (Ya rfl rfl) (Za rfl rfl (Zg rfl) ?_))))
  refine Zy (d := 16) rfl (fun b => ?_) (fun b => ?_)
  ·have I := b
   have b := Zv (Ys b)
   refine Zj rfl rfl (Zj rfl rfl (Zj rfl rfl (Za rfl rfl (Zx rfl rfl) (Ze (Zb (H9 _ _ ?_))))))
   refine Yn rfl ?_
   refine Zf fun bm aE => ?_
   refine Zc (Za rfl rfl (Zd rfl) (Ze (Zb (aE _ _ ?_))))
   refine Zl (Zi (Zn (Zi ?_)))
   clear H3 H8
   exact Zh [_] ⟨rfl, trivial⟩ ⟨congrArg (Value.int .i64) (by unfold arT; repeat (first | rw [if_pos om] | rw [if_neg om])), E⟩
  have I := b
  have b := Zu (Yr b)
  refine Za rfl rfl (Zk fa33_3 rfl) (Za rfl rfl (Zm i.at_ agg3 rfl rfl) (Za rfl rfl (Yp rfl rfl) (Za rfl rfl (Ya rfl rfl) (Ze (Zb (H9 _ _ ?_))))))
  refine Zo rfl (fun c => ?_) (fun c => ?_)
  ·have J := c
   have c := Zv (Ys c)
   refine Zf fun bn aF => ?_
   refine Zc (Za rfl rfl (Zd rfl) (Ze (Zb (aF _ _ ?_))))
   refine Zl (Zi (Zn (Zi ?_)))
   clear H3 H8
   exact Zh [_] ⟨rfl, trivial⟩ ⟨congrArg (Value.int .i64) (by unfold arT; repeat (first | rw [if_pos om] | rw [if_neg om])), E⟩
  have J := c
  have c := Zu (Yr c)
  refine Zp ?_
  refine Zb (H8 _ _ ?_)
  refine Zf fun bp aG => ?_
  refine Zc (Za rfl rfl (Zd rfl) (Ze (Zb (aG _ _ ?_))))
  refine Zl (Zn (Zi ?_))
  exact Zh [_] ⟨rfl, trivial⟩ ⟨congrArg (Value.int .i64) (by unfold arT; repeat (first | rw [if_pos om] | rw [if_neg om])), E⟩
 have ax := j
 have j := Zv j
 refine Zc (Za rfl rfl (Yk rfl rfl) (Za rfl rfl (Zd rfl) (Ze (Zb (H5 _ _ ?_)))))
 refine Zo rfl (fun j => ?_) (fun j => ?_)
 ·have K := j
  have j := Zu j
  refine Zf fun bq A => ?_
  refine Zf fun br L => ?_
  refine Zc (Za rfl rfl (Zk fa33_1 rfl) (Za rfl rfl (Zm i.at_ agg3 rfl rfl) (Za rfl rfl (Yp rfl rfl) (Za rfl rfl (Zg rfl) ?_))))
  refine Zy (d := 11) rfl (fun a => ?_) (fun a => ?_)
  ·have M := a
   have a := Zv (Ys a)
   refine Zj rfl rfl (Zj rfl rfl (Zj rfl rfl (Za rfl rfl (Zx rfl rfl) (Za rfl rfl (Zg rfl) (Zj rfl rfl (Zj rfl rfl (Zj rfl rfl ?_)))))))
   refine Za rfl rfl (Zx rfl rfl) (Ze (Zb (L _ _ ?_)))
   refine Yn rfl ?_
   refine Zf fun bs aH => ?_
   refine Zc (Za rfl rfl (Zd rfl) (Ze (Zb (aH _ _ ?_))))
   refine Zl (Zi (Zn (Zi ?_)))
   clear H3 A
   exact Zh [_] ⟨rfl, trivial⟩ ⟨congrArg (Value.int .i64) (by unfold arT; repeat (first | rw [if_pos om] | rw [if_neg om])), E⟩
  have M := a
  have a := Zu (Yr a)
  refine Za rfl rfl (Zk fa33_2 rfl) (Za rfl rfl (Zm i.at_ agg3 rfl rfl) (Za rfl rfl (Yp rfl rfl) (Za rfl rfl (Ya rfl rfl) (Za rfl rfl (Zg rfl) ?_))))
  refine Zy (d := 16) rfl (fun b => ?_) (fun b => ?_)
  ·have O := b
   have b := Zv (Ys b)
   refine Zj rfl rfl (Zj rfl rfl (Zj rfl rfl (Za rfl rfl (Zx rfl rfl) (Ze (Zb (L _ _ ?_))))))
   refine Yn rfl ?_
   refine Zf fun bu aI => ?_
   refine Zc (Za rfl rfl (Zd rfl) (Ze (Zb (aI _ _ ?_))))
   refine Zl (Zi (Zn (Zi ?_)))
   clear H3 A
   exact Zh [_] ⟨rfl, trivial⟩ ⟨congrArg (Value.int .i64) (by unfold arT; repeat (first | rw [if_pos om] | rw [if_neg om])), E⟩
  have O := b
  have b := Zu (Yr b)
  refine Za rfl rfl (Zk fa33_3 rfl) (Za rfl rfl (Zm i.at_ agg3 rfl rfl) (Za rfl rfl (Yp rfl rfl) (Za rfl rfl (Ya rfl rfl) (Ze (Zb (L _ _ ?_))))))
  refine Zo rfl (fun c => ?_) (fun c => ?_)
  ·have P := c
   have c := Zv (Ys c)
   refine Zf fun bv aJ => ?_
   refine Zc (Za rfl rfl (Zd rfl) (Ze (Zb (aJ _ _ ?_))))
   refine Zl (Zi (Zn (Zi ?_)))
   clear H3 A
   exact Zh [_] ⟨rfl, trivial⟩ ⟨congrArg (Value.int .i64) (by unfold arT; repeat (first | rw [if_pos om] | rw [if_neg om])), E⟩
  have P := c
  have c := Zu (Yr c)
  refine Zp ?_
  refine Zb (A _ _ ?_)
  refine Zf fun bw aK => ?_
  refine Zc (Za rfl rfl (Zd rfl) (Ze (Zb (aK _ _ ?_))))
  refine Zl (Zn (Zi ?_))
  exact Zh [_] ⟨rfl, trivial⟩ ⟨congrArg (Value.int .i64) (by unfold arT; repeat (first | rw [if_pos om] | rw [if_neg om])), E⟩
 have K := j
 have j := Zv j
 refine Zf fun bx aL => ?_
 refine Zc (Za rfl rfl (Yk rfl rfl) (Za rfl rfl (Zd rfl) (Ze (Zb (aL _ _ ?_)))))
 refine Zo rfl (fun k => ?_) (fun k => ?_)
 ·have Q := k
  have k := Zu k
  refine Zf fun bz B => ?_
  refine Zf fun bA R => ?_
  refine Zc (Za rfl rfl (Zk fa33_1 rfl) (Za rfl rfl (Zm i.at_ agg3 rfl rfl) (Zr rfl rfl ?_)))
  refine Step.call (Zt (xs := [.tmp 24]) fk53 rfl) (Zai _ ) fun aM bB S => ?_
  obtain ⟨rfl, T⟩ := S
  have aN := T.size
  have E := E.trans T
  refine Za rfl rfl (Qn rfl) (Za rfl rfl (Zg rfl) ?_)
  refine Zy (d := 27) rfl (fun l => ?_) (fun l => ?_)
  ·have U := l
   have l := Zv (Ys l)
   refine Zj rfl rfl (Zj rfl rfl (Zj rfl rfl (Za rfl rfl (Zx rfl rfl) (Za rfl rfl (Zg rfl) (Zj rfl rfl (Zj rfl rfl (Zj rfl rfl ?_)))))))
   refine Za rfl rfl (Zx rfl rfl) (Ze (Zb (R _ _ ?_)))
   refine Yn rfl ?_
   refine Zf fun bC aO => ?_
   refine Zc (Za rfl rfl (Zd rfl) (Ze (Zb (aO _ _ ?_))))
   refine Zl (Zi (Zn (Zi ?_)))
   clear H3 B
   exact Zh [_] ⟨rfl, trivial⟩ ⟨congrArg (Value.int .i64) (by unfold arT; repeat (first | rw [if_pos om] | rw [if_neg om])), E⟩
  have U := l
  have l := Zu (Yr l)
  refine Za rfl rfl (Zk fa33_2 rfl) ?_
  have ay := i.ch0 T
  refine Za rfl rfl (Zm ay.at_ agg3 rfl rfl) (Za rfl rfl (Yp rfl rfl) (Za rfl rfl (Ya rfl rfl) (Za rfl rfl (Zg rfl) ?_)))
  refine Zy (d := 32) rfl (fun m => ?_) (fun m => ?_)
  ·have V := m
   have m := Zv (Ys m)
   refine Zj rfl rfl (Zj rfl rfl (Zj rfl rfl (Za rfl rfl (Zx rfl rfl) (Ze (Zb (R _ _ ?_))))))
   refine Yn rfl ?_
   refine Zf fun bD aP => ?_
   refine Zc (Za rfl rfl (Zd rfl) (Ze (Zb (aP _ _ ?_))))
   refine Zl (Zi (Zn (Zi ?_)))
   clear H3 B
   exact Zh [_] ⟨rfl, trivial⟩ ⟨congrArg (Value.int .i64) (by unfold arT; repeat (first | rw [if_pos om] | rw [if_neg om])), E⟩
  have V := m
  have m := Zu (Yr m)
  refine Za rfl rfl (Zk fa33_3 rfl) (Za rfl rfl (Zm ay.at_ agg3 rfl rfl) (Za rfl rfl (Yp rfl rfl) (Za rfl rfl (Ya rfl rfl) (Ze (Zb (R _ _ ?_))))))
  refine Zo rfl (fun n => ?_) (fun n => ?_)
  ·have X := n
   have n := Zv (Ys n)
   refine Zf fun bE aQ => ?_
   refine Zc (Za rfl rfl (Zd rfl) (Ze (Zb (aQ _ _ ?_))))
   refine Zl (Zi (Zn (Zi ?_)))
   clear H3 B
   exact Zh [_] ⟨rfl, trivial⟩ ⟨congrArg (Value.int .i64) (by unfold arT; repeat (first | rw [if_pos om] | rw [if_neg om])), E⟩
  have X := n
  have n := Zu (Yr n)
  refine Zp ?_
  refine Zb (B _ _ ?_)
  refine Zf fun bF aR => ?_
  refine Zc (Za rfl rfl (Zd rfl) (Ze (Zb (aR _ _ ?_))))
  refine Zl (Zn (Zi ?_))
  exact Zh [_] ⟨rfl, trivial⟩ ⟨congrArg (Value.int .i64) (by unfold arT; repeat (first | rw [if_pos om] | rw [if_neg om])), E⟩
 have Q := k
 have k := Zv k
 refine Zf fun bG az => ?_
 refine Zf fun bH aS => ?_
 refine Zc (Za rfl rfl (Yk rfl rfl) (Za rfl rfl (Zd rfl) (Ze (Zb (aS _ _ ?_)))))
 refine Zo rfl (fun e => ?_) (fun e => ?_)
 ·have z := e
  have e := Zu e
  refine Zp ?_
  refine Zb (az _ _ ?_)
  refine Xy rfl z ?_
  refine Zf fun bI C => ?_
  refine Zf fun bJ Y => ?_
  refine Zc (Za rfl rfl (Zk fa33_1 rfl) (Za rfl rfl (Zm i.at_ agg3 rfl rfl) (Za rfl rfl (Yp rfl rfl) (Za rfl rfl (Zg rfl) ?_))))
  refine Zy (d := 43) rfl (fun f => ?_) (fun f => ?_)
  ·have Z := f
   have f := Zv (Ys f)
   refine Zj rfl rfl (Zj rfl rfl (Zj rfl rfl (Za rfl rfl (Zx rfl rfl) (Za rfl rfl (Zg rfl) (Zj rfl rfl (Zj rfl rfl (Zj rfl rfl ?_)))))))
   refine Za rfl rfl (Zx rfl rfl) (Ze (Zb (Y _ _ ?_)))
   refine Yn rfl ?_
   refine Zf fun bK aT => ?_
   refine Zc (Za rfl rfl (Zd rfl) (Ze (Zb (aT _ _ ?_))))
   refine Zl (Zi (Zn (Zi ?_)))
   clear H3 C
   exact Zh [_] ⟨rfl, trivial⟩ ⟨congrArg (Value.int .i64) (by unfold arT; repeat (first | rw [if_pos om] | rw [if_neg om])), E⟩
  have Z := f
  have f := Zu (Yr f)
  refine Za rfl rfl (Zk fa33_2 rfl) (Za rfl rfl (Zm i.at_ agg3 rfl rfl) (Za rfl rfl (Yp rfl rfl) (Za rfl rfl (Ya rfl rfl) (Za rfl rfl (Zg rfl) ?_))))
  refine Zy (d := 48) rfl (fun g => ?_) (fun g => ?_)
  ·have aa := g
   have g := Zv (Ys g)
   refine Zj rfl rfl (Zj rfl rfl (Zj rfl rfl (Za rfl rfl (Zx rfl rfl) (Ze (Zb (Y _ _ ?_))))))
   refine Yn rfl ?_
   refine Zf fun bL aU => ?_
   refine Zc (Za rfl rfl (Zd rfl) (Ze (Zb (aU _ _ ?_))))
   refine Zl (Zi (Zn (Zi ?_)))
   clear H3 C
   exact Zh [_] ⟨rfl, trivial⟩ ⟨congrArg (Value.int .i64) (by unfold arT; repeat (first | rw [if_pos om] | rw [if_neg om])), E⟩
  have aa := g
  have g := Zu (Yr g)
  refine Za rfl rfl (Zk fa33_3 rfl) (Za rfl rfl (Zm i.at_ agg3 rfl rfl) (Za rfl rfl (Yp rfl rfl) (Za rfl rfl (Ya rfl rfl) (Ze (Zb (Y _ _ ?_))))))
  refine Zo rfl (fun h => ?_) (fun h => ?_)
  ·have ab := h
   have h := Zv (Ys h)
   refine Zf fun bM aV => ?_
   refine Zc (Za rfl rfl (Zd rfl) (Ze (Zb (aV _ _ ?_))))
   refine Zl (Zi (Zn (Zi ?_)))
   clear H3 C
   exact Zh [_] ⟨rfl, trivial⟩ ⟨congrArg (Value.int .i64) (by unfold arT; repeat (first | rw [if_pos om] | rw [if_neg om])), E⟩
  have ab := h
  have h := Zu (Yr h)
  refine Zp ?_
  refine Zb (C _ _ ?_)
  refine Zf fun bN aW => ?_
  refine Zc (Za rfl rfl (Zd rfl) (Ze (Zb (aW _ _ ?_))))
  refine Zl (Zn (Zi ?_))
  exact Zh [_] ⟨rfl, trivial⟩ ⟨congrArg (Value.int .i64) (by unfold arT; repeat (first | rw [if_pos om] | rw [if_neg om])), E⟩
 have z := e
 have e := Zv e
 refine Zc (Za rfl rfl (Yk rfl rfl) (Za rfl rfl (Zd rfl) (Ze (Zb (az _ _ ?_)))))
 refine Zo rfl (fun e => ?_) (fun e => ?_)
 ·have ac := e
  have e := Zu e
  refine Zf fun bO D => ?_
  refine Zf fun bP ad => ?_
  refine Zc (Za rfl rfl (Zk fa33_1 rfl) (Za rfl rfl (Zm i.at_ agg3 rfl rfl) (Za rfl rfl (Yp rfl rfl) (Za rfl rfl (Zg rfl) ?_))))
  refine Zy (d := 43) rfl (fun f => ?_) (fun f => ?_)
  ·have ae := f
   have f := Zv (Ys f)
   refine Zj rfl rfl (Zj rfl rfl (Zj rfl rfl (Za rfl rfl (Zx rfl rfl) (Za rfl rfl (Zg rfl) (Zj rfl rfl (Zj rfl rfl (Zj rfl rfl ?_)))))))
   refine Za rfl rfl (Zx rfl rfl) (Ze (Zb (ad _ _ ?_)))
   refine Yn rfl ?_
   refine Zf fun bQ aX => ?_
   refine Zc (Za rfl rfl (Zd rfl) (Ze (Zb (aX _ _ ?_))))
   refine Zl (Zi (Zn (Zi ?_)))
   clear H3 D
   exact Zh [_] ⟨rfl, trivial⟩ ⟨congrArg (Value.int .i64) (by unfold arT; repeat (first | rw [if_pos om] | rw [if_neg om])), E⟩
  have ae := f
  have f := Zu (Yr f)
  refine Za rfl rfl (Zk fa33_2 rfl) (Za rfl rfl (Zm i.at_ agg3 rfl rfl) (Za rfl rfl (Yp rfl rfl) (Za rfl rfl (Ya rfl rfl) (Za rfl rfl (Zg rfl) ?_))))
  refine Zy (d := 48) rfl (fun g => ?_) (fun g => ?_)
  ·have af := g
   have g := Zv (Ys g)
   refine Zj rfl rfl (Zj rfl rfl (Zj rfl rfl (Za rfl rfl (Zx rfl rfl) (Ze (Zb (ad _ _ ?_))))))
   refine Yn rfl ?_
   refine Zf fun bR aY => ?_
   refine Zc (Za rfl rfl (Zd rfl) (Ze (Zb (aY _ _ ?_))))
   refine Zl (Zi (Zn (Zi ?_)))
   clear H3 D
   exact Zh [_] ⟨rfl, trivial⟩ ⟨congrArg (Value.int .i64) (by unfold arT; repeat (first | rw [if_pos om] | rw [if_neg om])), E⟩
  have af := g
  have g := Zu (Yr g)
  refine Za rfl rfl (Zk fa33_3 rfl) (Za rfl rfl (Zm i.at_ agg3 rfl rfl) (Za rfl rfl (Yp rfl rfl) (Za rfl rfl (Ya rfl rfl) (Ze (Zb (ad _ _ ?_))))))
  refine Zo rfl (fun h => ?_) (fun h => ?_)
  ·have ag := h
   have h := Zv (Ys h)
   refine Zf fun bS aZ => ?_
   refine Zc (Za rfl rfl (Zd rfl) (Ze (Zb (aZ _ _ ?_))))
   refine Zl (Zi (Zn (Zi ?_)))
   clear H3 D
   exact Zh [_] ⟨rfl, trivial⟩ ⟨congrArg (Value.int .i64) (by unfold arT; repeat (first | rw [if_pos om] | rw [if_neg om])), E⟩
  have ag := h
  have h := Zu (Yr h)
  refine Zp ?_
  refine Zb (D _ _ ?_)
  refine Zf fun bT a0 => ?_
  refine Zc (Za rfl rfl (Zd rfl) (Ze (Zb (a0 _ _ ?_))))
  refine Zl (Zn (Zi ?_))
  exact Zh [_] ⟨rfl, trivial⟩ ⟨congrArg (Value.int .i64) (by unfold arT; repeat (first | rw [if_pos om] | rw [if_neg om])), E⟩
 have ac := e
 have e := Zv e
 refine Zf fun bU a1 => ?_
 refine Zc (Za rfl rfl (Yk rfl rfl) (Za rfl rfl (Zd rfl) (Ze (Zb (a1 _ _ ?_)))))
 refine Zo rfl (fun o => ?_) (fun o => ?_)
 ·have ah := o
  have o := Zu o
  refine Zf fun bV F => ?_
  refine Zf fun bW ai => ?_
  refine Zc (Za rfl rfl (Zk fa33_1 rfl) (Za rfl rfl (Zm i.at_ agg3 rfl rfl) (Za rfl rfl (Yp rfl rfl) (Za rfl rfl (Zg rfl) ?_))))
  refine Zy (d := 58) rfl (fun p => ?_) (fun p => ?_)
  ·have aj := p
   have p := Zv (Ys p)
   refine Zj rfl rfl (Zj rfl rfl (Zj rfl rfl (Za rfl rfl (Zx rfl rfl) (Za rfl rfl (Zg rfl) (Zj rfl rfl (Zj rfl rfl (Zj rfl rfl ?_)))))))
   refine Za rfl rfl (Zx rfl rfl) (Ze (Zb (ai _ _ ?_)))
   refine Yn rfl ?_
   refine Zf fun bX a2 => ?_
   refine Zc (Za rfl rfl (Zd rfl) (Ze (Zb (a2 _ _ ?_))))
   refine Zl (Zi (Zn (Zi ?_)))
   clear H3 F
   exact Zh [_] ⟨rfl, trivial⟩ ⟨congrArg (Value.int .i64) (by unfold arT; repeat (first | rw [if_pos om] | rw [if_neg om])), E⟩
  have aj := p
  have p := Zu (Yr p)
  refine Za rfl rfl (Zk fa33_2 rfl) (Za rfl rfl (Zm i.at_ agg3 rfl rfl) (Za rfl rfl (Yp rfl rfl) (Za rfl rfl (Ya rfl rfl) (Za rfl rfl (Zg rfl) ?_))))
  refine Zy (d := 63) rfl (fun q => ?_) (fun q => ?_)
  ·have ak := q
   have q := Zv (Ys q)
   refine Zj rfl rfl (Zj rfl rfl (Zj rfl rfl (Za rfl rfl (Zx rfl rfl) (Ze (Zb (ai _ _ ?_))))))
   refine Yn rfl ?_
   refine Zf fun bY a3 => ?_
   refine Zc (Za rfl rfl (Zd rfl) (Ze (Zb (a3 _ _ ?_))))
   refine Zl (Zi (Zn (Zi ?_)))
   clear H3 F
   exact Zh [_] ⟨rfl, trivial⟩ ⟨congrArg (Value.int .i64) (by unfold arT; repeat (first | rw [if_pos om] | rw [if_neg om])), E⟩
  have ak := q
  have q := Zu (Yr q)
  refine Za rfl rfl (Zk fa33_3 rfl) (Za rfl rfl (Zm i.at_ agg3 rfl rfl) (Za rfl rfl (Yp rfl rfl) (Za rfl rfl (Ya rfl rfl) (Ze (Zb (ai _ _ ?_))))))
  refine Zo rfl (fun r => ?_) (fun r => ?_)
  ·have al := r
   have r := Zv (Ys r)
   refine Zf fun bZ a4 => ?_
   refine Zc (Za rfl rfl (Zd rfl) (Ze (Zb (a4 _ _ ?_))))
   refine Zl (Zi (Zn (Zi ?_)))
   clear H3 F
   exact Zh [_] ⟨rfl, trivial⟩ ⟨congrArg (Value.int .i64) (by unfold arT; repeat (first | rw [if_pos om] | rw [if_neg om])), E⟩
  have al := r
  have r := Zu (Yr r)
  refine Zp ?_
  refine Zb (F _ _ ?_)
  refine Zf fun b0 a5 => ?_
  refine Zc (Za rfl rfl (Zd rfl) (Ze (Zb (a5 _ _ ?_))))
  refine Zl (Zn (Zi ?_))
  exact Zh [_] ⟨rfl, trivial⟩ ⟨congrArg (Value.int .i64) (by unfold arT; repeat (first | rw [if_pos om] | rw [if_neg om])), E⟩
 have ah := o
 have o := Zv o
 refine Zf fun b1 a6 => ?_
 refine Zc (Za rfl rfl (Yk rfl rfl) (Za rfl rfl (Zd rfl) (Ze (Zb (a6 _ _ ?_)))))
 refine Zo rfl (fun s => ?_) (fun s => ?_)
 ·have am := s
  have s := Zu s
  refine Zf fun b2 G => ?_
  refine Zf fun b3 an => ?_
  refine Zc (Za rfl rfl (Zk fa33_1 rfl) (Za rfl rfl (Zm i.at_ agg3 rfl rfl) (Za rfl rfl (Yp rfl rfl) (Za rfl rfl (Zg rfl) ?_))))
  refine Zy (d := 73) rfl (fun u => ?_) (fun u => ?_)
  ·have ao := u
   have u := Zv (Ys u)
   refine Zj rfl rfl (Zj rfl rfl (Zj rfl rfl (Zj rfl rfl (Za rfl rfl (Zx rfl rfl) (Za rfl rfl (Zg rfl) (Zj rfl rfl (Zj rfl rfl ?_)))))))
   refine Zj rfl rfl (Zj rfl rfl (Zj rfl rfl (Zj rfl rfl (Za rfl rfl (Zx rfl rfl) (Ze (Zb (an _ _ ?_)))))))
   refine Yn rfl ?_
   refine Zf fun b4 a7 => ?_
   refine Zc (Za rfl rfl (Zd rfl) (Ze (Zb (a7 _ _ ?_))))
   refine Zl (Zi (Zn (Zi ?_)))
   clear H3 G
   exact Zh [_] ⟨rfl, trivial⟩ ⟨congrArg (Value.int .i64) (by unfold arT; repeat (first | rw [if_pos om] | rw [if_neg om])), E⟩
  have ao := u
  have u := Zu (Yr u)
  refine Za rfl rfl (Zk fa33_3 rfl) (Za rfl rfl (Zm i.at_ agg3 rfl rfl) (Zr rfl rfl ?_))
  refine Step.call (Zt (xs := [.tmp 75, .const (Go.Value.int Go.IntKind.i64 1), .const (Go.Value.int Go.IntKind.i64 3)]) fk54 rfl) (Zar _ _ _ ) fun a8 b5 ap => ?_
  obtain ⟨rfl, aq⟩ := ap
  have a9 := aq.size
  have E := E.trans aq
  refine Za rfl rfl (Qn rfl) (Za rfl rfl (Ya rfl rfl) (Za rfl rfl (Zg rfl) ?_))
  refine Zy (d := 79) rfl (fun x => ?_) (fun x => ?_)
  ·have au := x
   have x := Zv (Ys x)
   refine Zj rfl rfl (Zj rfl rfl (Zj rfl rfl (Zj rfl rfl (Zj rfl rfl (Zj rfl rfl (Za rfl rfl (Zx rfl rfl) (Ze ?_)))))))
   refine Zb (an _ _ ?_)
   refine Yn rfl ?_
   refine Zf fun b6 ba => ?_
   refine Zc (Za rfl rfl (Zd rfl) (Ze (Zb (ba _ _ ?_))))
   refine Zl (Zi (Zn (Zi ?_)))
   clear H3 G
   exact Zh [_] ⟨rfl, trivial⟩ ⟨congrArg (Value.int .i64) (by unfold arT; repeat (first | rw [if_pos om] | rw [if_neg om])), E⟩
  have au := x
  have x := Zu (Yr x)
  refine Za rfl rfl (Zk fa33_2 rfl) ?_
  have aA := i.ch0 aq
  refine Za rfl rfl (Zm aA.at_ agg3 rfl rfl) (Za rfl rfl (Zk fa33_3 rfl) (Za rfl rfl (Zm aA.at_ agg3 rfl rfl) (Zr rfl rfl ?_)))
  refine Step.call (Zt (xs := [.tmp 81, .const (Go.Value.int Go.IntKind.i64 0), .tmp 83]) fk54 rfl) (Zar _ _ _ ) fun bb b7 av => ?_
  obtain ⟨rfl, aB⟩ := av
  have bc := aB.size
  have E := E.trans aB
  refine Za rfl rfl (Qn rfl) (Za rfl rfl (Ya rfl rfl) (Ze (Zb (an _ _ ?_))))
  refine Zo rfl (fun y => ?_) (fun y => ?_)
  ·have aw := y
   have y := Zv (Ys y)
   refine Zf fun b8 be => ?_
   refine Zc (Za rfl rfl (Zd rfl) (Ze (Zb (be _ _ ?_))))
   refine Zl (Zi (Zn (Zi ?_)))
   clear H3 G
   exact Zh [_] ⟨rfl, trivial⟩ ⟨congrArg (Value.int .i64) (by unfold arT; repeat (first | rw [if_pos om] | rw [if_neg om])), E⟩
  have aw := y
  have y := Zu (Yr y)
  refine Zp ?_
  refine Zb (G _ _ ?_)
  refine Zf fun b9 bf => ?_
  refine Zc (Za rfl rfl (Zd rfl) (Ze (Zb (bf _ _ ?_))))
  refine Zl (Zn (Zi ?_))
  exact Zh [_] ⟨rfl, trivial⟩ ⟨congrArg (Value.int .i64) (by unfold arT; repeat (first | rw [if_pos om] | rw [if_neg om])), E⟩
 have am := s
 have s := Zv s
 refine Zp ?_
 refine Yf (Zb (H3 _ _ ?_))
 refine Zf fun ca bg => ?_
 refine Zc (Za rfl rfl (Zd rfl) (Ze (Zb (bg _ _ ?_))))
 refine Zl ?_
 exact Zh [_] ⟨rfl, trivial⟩ ⟨congrArg (Value.int .i64) (by unfold arT; repeat (first | rw [if_pos om] | rw [if_neg om])), E⟩

/-- spec.IsExpr -/
theorem Zdv {w : World} {LL_e q : Nat} {m : Value} {e : List Token} (h : Ls Token.cs 4 w LL_e q m e) :
 Ctr Tryz.prog 20 #[(.agg #[m])] w (fun v w' => v = .bool (isE e) ∧ Ch [] w w') := by
 obtain ⟨k, l, n⟩ := h.val
 subst n
 have G := h.len
 have h := h.here (by decide)
 have E := Ch.refl [] w
 refine Zw (N := 32) (vs0 := [(.agg #[(.slice k e.length l)])]) Tryz.func20 rfl rfl rfl ?_
 refine Zf fun K1 H1 => ?_
 refine Zc (Zr rfl rfl ?_)
 refine Xz rfl fun r W2 p C2 V => ?_
 have X := C2.size
 have E := E.trans C2
 have Y := p.lt
 replace p : Blk W2 r 24 [(.slice k e.length l)] := p
 refine Za rfl rfl (Zd rfl) (Ze (Zb (H1 _ _ ?_)))
 refine Zf fun K3 H3 => ?_
 refine Zc (Za rfl rfl (Zd rfl) (Ze (Zb (H3 _ _ ?_))))
 refine Zf fun K4 H4 => ?_
 refine Zf fun K5 H5 => ?_
 refine Zc (Za rfl rfl (Zd rfl) (Ze (Zb (H5 _ _ ?_))))
 refine Ye ?_
 refine Xq (σ := Nat × Int × List Tr) (fun ⟨i, d, st⟩ => [(1, (.pointer (some ⟨r, 0, none⟩))), (3, (.int .i64 d)), (4, (.int .i64 ((i : Nat) : Int)))]) (fun ⟨i, d, st⟩ wx => Ch [] w wx ∧ W2.heap.size ≤ wx.heap.size ∧ (i ≤ e.length) ∧ (d = st.length) ∧ (st.length ≤ i) ∧ (prs [] (e.take i) = some st) ∧ Blk wx r 24 [(.slice k e.length l)]) (fun ⟨i, d, st⟩ => e.length - i) (0, 0, ([] : List Tr)) (sC2 rfl rfl (sC1 rfl (Sub.nil _))) ⟨E, (Nat.le_refl _), om, rfl, (Nat.le_refl _), rfl, p⟩ ?_
 rintro ⟨i, d, st⟩ R6 ⟨E, H, hi, hd, hs, hp, f⟩
 have o := E
 have D := o.size
 have s := f.lt
 refine Zf fun K7 H7 => ?_
 refine Zf fun K8 H8 => ?_
 refine Zc (Za rfl rfl (Zg rfl) (Za rfl rfl (Zk fa24_0 rfl) (Za rfl rfl (Zm f.at_ agg22 rfl rfl) (Za rfl rfl (Qo (by rw [el22]; rfl) rfl) (Za rfl rfl (Xp rfl rfl) (Ze (Zb (H8 _ _ ?_))))))))
 refine Zo rfl (fun a => ?_) (fun a => ?_)
 ·have I := a
  have a := Zu a
  refine Zp ?_
  refine Zb (H7 _ _ ?_)
  refine Zf fun Z u => ?_
  refine Ye ?_
  refine Zf fun aa J => ?_
  refine Zc (Za rfl rfl (Zk fa24_0 rfl) (Za rfl rfl (Zm f.at_ agg22 rfl rfl) (Za rfl rfl (Zg rfl) (Zr rfl rfl ?_))))
  have K := h.ch0 o
  refine (Xk K Token.len el22 sz33 rfl rfl rfl om fun L j g x => ?_)
  refine Za rfl rfl (Zs x agg33 sz33 rfl) (Zr rfl rfl ?_)
  refine Step.call (Zt (xs := [.tmp 17]) fk32 rfl) (Zcq j ) fun M ab y => ?_
  obtain ⟨rfl, z⟩ := y
  have O := z.size
  have E := E.trans z
  have P := Xi j
  refine Za rfl rfl (Zd rfl) (Ze (Zb (J _ _ ?_)))
  refine Zf fun ac A => ?_
  refine Zf fun ad F => ?_
  refine Zc (Za rfl rfl (Zg rfl) (Za rfl rfl (Xp rfl rfl) (Za rfl rfl (Zg rfl) ?_)))
  refine Zy (d := 21) rfl (fun b => ?_) (fun b => ?_)
  ·have B := b
   have b := Zu b
   refine Zj rfl rfl (Zj rfl rfl (Zj rfl rfl (Za rfl rfl (Zx rfl rfl) (Ze (Zb (F _ _ ?_))))))
   refine Yn rfl ?_
   refine Zf fun ae Q => ?_
   refine Zc (Za rfl rfl (Zd rfl) (Ze (Zb (Q _ _ ?_))))
   refine Zl (Zi (Zn (Zi (Zi (Zn (Zi ?_))))))
   clear H4 u A
   exact Zh [_] ⟨rfl, trivial⟩ ⟨congrArg Value.bool (by first | (rw [Zev hp om, hd]; done) | exact Zav (Zdb hp g (Zdf om))), E⟩
  have B := b
  have b := Zv b
  refine Za rfl rfl (Zg rfl) (Za rfl rfl (Zg rfl) (Za rfl rfl (Zjj rfl rfl) (Za rfl rfl (Ya rfl rfl) (Ze (Zb (F _ _ ?_))))))
  refine Zo rfl (fun c => ?_) (fun c => ?_)
  ·have C := c
   have c := Zu c
   refine Zf fun af R => ?_
   refine Zc (Za rfl rfl (Zd rfl) (Ze (Zb (R _ _ ?_))))
   refine Zl (Zi (Zn (Zi (Zi (Zn (Zi ?_))))))
   clear H4 u A
   exact Zh [_] ⟨rfl, trivial⟩ ⟨congrArg Value.bool (by first | (rw [Zev hp om, hd]; done) | exact Zav (Zdb hp g (Zdf om))), E⟩
  have C := c
  have c := Zv c
  refine Zp ?_
  refine Zb (A _ _ (Zc (Za rfl rfl (Zg rfl) (Za rfl rfl (Zg rfl) (Za rfl rfl (Zhp om rfl rfl) (Za rfl rfl (Yt om rfl rfl) (Za rfl rfl (Zd rfl) (Ze ?_))))))))
  refine Yf (Zb (u _ _ (Zc (Za rfl rfl (Zg rfl) (Za rfl rfl (Yt om rfl rfl) (Za rfl rfl (Zd rfl) (Ze ?_)))))))
  obtain ⟨s2, S, ag⟩ := Zii (t := j) (st := st) om om
  have T := f.ch0 z
  exact Zb (Exists.intro ((i + 1), ((d - arT j) + 1), s2) ⟨⟨E, om, om, om, om, ((Zdj hp g).trans S), T⟩, sC2 rfl rfl (sC1 rfl (Sub.nil _)), (by first | omega | (dsimp only; omega))⟩)
 have I := a
 have a := Zv a
 refine Xj (Yd (Yd (Xc ?_)))
 refine Zb (H4 _ _ ?_)
 refine Zf fun ah U => ?_
 refine Zc (Za rfl rfl (Zg rfl) (Za rfl rfl (Yk rfl rfl) (Za rfl rfl (Zd rfl) (Ze (Zb (U _ _ ?_))))))
 refine Zl ?_
 exact Zh [_] ⟨rfl, trivial⟩ ⟨congrArg Value.bool (by first | (rw [Zev hp om, hd]; done) | exact Zav (Zdb hp g (Zdf om))), E⟩

/-- spec.IsValidExpr -/
theorem Qj {w : World} {LL_e j : Nat} {c : Value} {e : List Token} (a : Ls Token.cs 4 w LL_e j c e) :
 Ctr Tryz.prog 11 #[(.agg #[c])] w (fun v w' => v = .bool (ivE e) ∧ Ch [] w w') := by
 obtain ⟨f, g, h⟩ := a.val
 subst h
 have k := a.len
 have a := a.here (by decide)
 have E := Ch.refl [] w
 refine Zw (N := 11) (vs0 := [(.agg #[(.slice f e.length g)])]) Tryz.func11 rfl rfl rfl ?_
 refine Zf fun K1 H1 => ?_
 refine Zc (Zr rfl rfl ?_)
 refine Xz rfl fun l W2 i C2 o => ?_
 have p := C2.size
 have E := E.trans C2
 have q := i.lt
 replace i : Blk W2 l 24 [(.slice f e.length g)] := i
 refine Za rfl rfl (Zd rfl) (Ze (Zb (H1 _ _ ?_)))
 refine Zf fun K3 H3 => ?_
 refine Zc (Za rfl rfl (Zk fa24_0 rfl) (Za rfl rfl (Zm i.at_ agg22 rfl rfl) (Za rfl rfl (Qo (by rw [el22]; rfl) rfl) (Za rfl rfl (Zfr rfl rfl) (Za rfl rfl (Zg rfl) ?_)))))
 refine Zy (d := 7) rfl (fun b => ?_) (fun b => ?_)
 ·have m := b
  have b := Zu b
  refine Za rfl rfl (Zs i.at_ agg24 sz24 rfl) (Zr rfl rfl ?_)
  have F5 := a.ch0 C2
  refine Step.call (Zt (xs := [.tmp 8]) fk20 rfl) (Zdv F5 ) fun r W6 n => ?_
  obtain ⟨rfl, C6⟩ := n
  have s := C6.size
  have E := E.trans C6
  refine Za rfl rfl (Zx rfl rfl) (Za rfl rfl (Zd rfl) (Ze (Zb (H3 _ _ ?_))))
  refine Zl ?_
  exact Zh [_] ⟨rfl, trivial⟩ ⟨congrArg Value.bool (by unfold ivE; first | (rw [decide_eq_true om]; rfl) | (rw [decide_eq_false om]; rfl)), E⟩
 have m := b
 have b := Zv b
 refine Zj rfl rfl (Zj rfl rfl (Za rfl rfl (Ya rfl rfl) (Za rfl rfl (Zd rfl) (Ze (Zb (H3 _ _ ?_))))))
 refine Zl ?_
 exact Zh [_] ⟨rfl, trivial⟩ ⟨congrArg Value.bool (by unfold ivE; first | (rw [decide_eq_true om]; rfl) | (rw [decide_eq_false om]; rfl)), E⟩

/-- spec.l2Cut -/
theorem Zep {w : World} (s : List UInt8) (sep : Int) (hb : s.length ≤ 4194304) :
 Ctr Tryz.prog 9 #[(bst s), (.int .u8 sep)] w (fun v w' => Ol scs 9 1 w' v (Zq s sep []) ∧ Lo w.heap.size v ∧ Ch [] w w') := by
 have E := Ch.refl [] w
 refine Zw (N := 35) (vs0 := [(bst s), (.int .u8 sep)]) Tryz.func9 rfl rfl rfl ?_
 refine Zf fun K1 H1 => ?_
 refine Zc (Za rfl rfl (Zd rfl) (Ze (Zb (H1 _ _ ?_))))
 refine Zf fun K2 H2 => ?_
 refine Zc (Zr rfl rfl ?_)
 refine Xr (k := 1) scs el30 sz9 fun aC W3 L A C3 => ?_
 have aD := C3.size
 have E := E.trans C3
 obtain ⟨l, m, rfl, af, M⟩ := L.opn
 refine Za rfl rfl (Zd rfl) (Ze (Zb (H2 _ _ ?_)))
 refine Zf fun K4 H4 => ?_
 refine Zc (Za rfl rfl (Zd rfl) (Ze (Zb (H4 _ _ ?_))))
 refine Zf fun K5 H5 => ?_
 refine Zf fun K6 H6 => ?_
 refine Zc (Za rfl rfl (Zd rfl) (Ze (Zb (H6 _ _ ?_))))
 refine Ye ?_
 have n : Ol scs 9 1 W3 (.slice l (([] : List (List UInt8))).length m) (([] : List (List UInt8))) := by
  have hx := L
  exact hx
 refine Xq (σ := Nat × Nat × List (List UInt8) × Value) (fun ⟨i, f, out, ov⟩ => [(0, (bst s)), (1, (.int .u8 sep)), (4, (.slice none 0 0)), (5, ov), (6, (.int .i64 ((f : Nat) : Int))), (7, (.int .i64 ((i : Nat) : Int)))]) (fun ⟨i, f, out, ov⟩ wx => Ch [] w wx ∧ W3.heap.size ≤ wx.heap.size ∧ (f ≤ i ∧ i ≤ s.length) ∧ (out ++ Zq (s.drop i) sep ((s.drop f).take (i - f)) = Zq s sep []) ∧ Ol scs 9 1 wx ov out ∧ Lo w.heap.size ov) (fun ⟨i, f, out, ov⟩ => s.length - i) (0, 0, ([] : List (List UInt8)), (.slice l (([] : List (List UInt8))).length m)) (sC4 rfl rfl rfl rfl (sC2 rfl rfl (Sub.nil _))) ⟨E, (Nat.le_refl _), om, Zhy, n, A⟩ ?_
 rintro ⟨i, f, out, ov⟩ R8 ⟨E, ag, hi, hc, d, a⟩
 have B := E
 have O := B.size
 obtain ⟨Aov, Cov, rfl, lov, hiov⟩ := d.opn
 have ah := congrArg List.length hc
 have aE := Qy s sep []
 rw [List.length_append] at ah
 refine Zf fun K9 H9 => ?_
 refine Zf fun aF ai => ?_
 refine Zc (Za rfl rfl (Zg rfl) (Za rfl rfl (Zg rfl) (Za rfl rfl (Zfi un9 rfl) (Za rfl rfl (Xp rfl rfl) (Ze (Zb (ai _ _ ?_)))))))
 refine Zo rfl (fun c => ?_) (fun c => ?_)
 ·have C := c
  have c := Zu c
  refine Zp ?_
  refine Zb (H9 _ _ ?_)
  refine Zf fun aG P => ?_
  refine Ye ?_
  refine Zf fun aH aj => ?_
  refine Zc (Za rfl rfl (Zg rfl) (Za rfl rfl (Zg rfl) (Za rfl rfl (Qw om un9 rfl rfl) (Za rfl rfl (Zg rfl) (Za rfl rfl (Yk rfl rfl) (Ze (Zb (aj _ _ ?_))))))))
  refine Zo rfl (fun b => ?_) (fun b => ?_)
  ·have D := b
   have b := Zu b
   refine Zf fun aI ak => ?_
   refine Zc (Za rfl rfl (Zg rfl) (Za rfl rfl (Zg rfl) (Za rfl rfl (Zg rfl) (Za rfl rfl (Zg rfl) (Za rfl rfl (Zlr om un9 rfl rfl rfl) (Zr rfl rfl ?_))))))
   refine Yh (cs := scs) (parts := [(0, .tmp 24)]) ([] : List UInt8) [((s.drop f).take (i - f))] el30 sz9 zr9 Qd (by decide) rfl rfl rfl (by decide) (by decide) rfl fun al aJ o Q F => ?_
   have am := F.size
   have E := E.trans F
   obtain ⟨R, S, rfl, T, G⟩ := o.opn
   refine Zr rfl rfl ?_
   have an := d.ch0 F
   refine Xe (cs := scs) el30 sz9 by9 zr9 rfl (by decide) Zfe an o.ls rfl rfl bd bd a om fun ao ap p q U V => ?_
   have aq := V.size
   have E := E.step V (fun i hi => .inl (by have au := a _ hi; omega))
   obtain ⟨e, g, rfl, X, H⟩ := p.opn
   refine Za rfl rfl (Zd rfl) (Ze (Zb (ak _ _ (Zc (Za rfl rfl (Zg rfl) (Za rfl rfl (Yt om rfl rfl) (Za rfl rfl (Zd rfl) (Ze ?_))))))))
   refine Yf (Zb (P _ _ (Zc (Za rfl rfl (Zg rfl) (Za rfl rfl (Yt om rfl rfl) (Za rfl rfl (Zd rfl) (Ze ?_)))))))
   have h : Ol scs 9 1 ap (.slice e ((out ++ [((s.drop f).take (i - f))])).length g) ((out ++ [((s.drop f).take (i - f))])) := by
    have hx := p
    exact hx
   exact Zb (Exists.intro ((i + 1), (i + 1), (out ++ [((s.drop f).take (i - f))]), (.slice e ((out ++ [((s.drop f).take (i - f))])).length g)) ⟨⟨E, om, om, (by first | exact Zgn hc om b | exact Zfq hc om om b), h, (Lo.down q om)⟩, sC4 rfl rfl rfl rfl (sC2 rfl rfl (Sub.nil _)), (by first | omega | (dsimp only; omega))⟩)
  have D := b
  have b := Zv b
  refine Zp ?_
  refine Yf (Zb (P _ _ (Zc (Za rfl rfl (Zg rfl) (Za rfl rfl (Yt om rfl rfl) (Za rfl rfl (Zd rfl) (Ze ?_)))))))
  have j : Ol scs 9 1 R8 (.slice Aov (out).length Cov) (out) := by
   have hx := d
   exact hx
  exact Zb (Exists.intro ((i + 1), f, out, (.slice Aov (out).length Cov)) ⟨⟨E, om, om, (by first | exact Zgn hc om b | exact Zfq hc om om b), j, (Lo.down a om)⟩, sC4 rfl rfl rfl rfl (sC2 rfl rfl (Sub.nil _)), (by first | omega | (dsimp only; omega))⟩)
 have C := c
 have c := Zv c
 refine Xj (Yd (Yd (Xc ?_)))
 refine Zb (H5 _ _ ?_)
 refine Zf fun aK av => ?_
 refine Zc (Za rfl rfl (Zg rfl) (Za rfl rfl (Zg rfl) (Za rfl rfl (Zg rfl) (Za rfl rfl (Zkp om un9 rfl rfl) (Zr rfl rfl ?_)))))
 refine Yh (cs := scs) (parts := [(0, .tmp 32)]) ([] : List UInt8) [(s.drop f)] el30 sz9 zr9 Qd (by decide) rfl rfl rfl (by decide) (by decide) rfl fun aw aL r Y I => ?_
 have ax := I.size
 have E := E.trans I
 obtain ⟨Z, aa, rfl, ab, J⟩ := r.opn
 refine Zr rfl rfl ?_
 have ay := d.ch0 I
 refine Xe (cs := scs) el30 sz9 by9 zr9 rfl (by decide) Zfe ay r.ls rfl rfl bd bd a om fun az aA t u ac ad => ?_
 have aB := ad.size
 have E := E.step ad (fun i hi => .inl (by have au := a _ hi; omega))
 obtain ⟨x, y, rfl, ae, K⟩ := t.opn
 refine Za rfl rfl (Zd rfl) (Ze (Zb (av _ _ ?_)))
 refine Zl ?_
 have z : Ol scs 9 1 aA (.slice x ((out ++ [(s.drop f)])).length y) (Zq s sep []) := by
  have hx := t
  exact hx.eq (Zjv hc om)
 exact Zh [_] ⟨rfl, trivial⟩ ⟨z, Lo.down u om, E⟩

/-- spec.FormatLetter -/
theorem Qb {w : World} (n : Int) :
 Ctr Tryz.prog 30 #[(.int .i64 n)] w (fun v w' => v = bst (fmtL n) ∧ Ch [] w w') := by
 have E := Ch.refl [] w
 refine Zw (N := 10) (vs0 := [(.int .i64 n)]) Tryz.func30 rfl rfl rfl ?_
 refine Zf fun K1 H1 => ?_
 refine Zc (Za rfl rfl (Zd rfl) (Ze (Zb (H1 _ _ ?_))))
 refine Zf fun K2 H2 => ?_
 refine Zf fun K3 H3 => ?_
 refine Zc (Za rfl rfl (Zg rfl) (Zr rfl rfl ?_))
 refine Step.call (Zt (xs := [.tmp 3]) fk53 rfl) (Zai _ ) fun m W4 e => ?_
 obtain ⟨rfl, C4⟩ := e
 have o := C4.size
 have E := E.trans C4
 refine Za rfl rfl (Qn rfl) (Ze (Zb (H3 _ _ ?_)))
 refine Zo rfl (fun a => ?_) (fun a => ?_)
 ·have f := a
  have a := Zv (Ys a)
  refine Zf fun K6 H6 => ?_
  refine Zc (Za rfl rfl (Zd rfl) (Ze (Zb (H6 _ _ ?_))))
  refine Zl (Zi ?_)
  exact Zh [_] ⟨rfl, trivial⟩ ⟨congrArg bst (Zja om), E⟩
 have f := a
 have a := Zu (Yr a)
 refine Zp ?_
 refine Zb (H2 _ _ ?_)
 refine Zf fun K7 H7 => ?_
 refine Zc (Zr rfl rfl ?_)
 refine Yh (cs := scs) (parts := [(0, .const (Go.Value.string { data := #[97] })), (1, .const (Go.Value.string { data := #[97, 45] })), (2, .const (Go.Value.string { data := #[98] })), (3, .const (Go.Value.string { data := #[98, 45] })), (4, .const (Go.Value.string { data := #[99] })), (5, .const (Go.Value.string { data := #[99, 45] })), (6, .const (Go.Value.string { data := #[48] })), (7, .const (Go.Value.string { data := #[49] })), (8, .const (Go.Value.string { data := #[50] }))]) ([] : List UInt8) [[97], [97, 45], [98], [98, 45], [99], [99, 45], [48], [49], [50]] el30 sz9 zr9 Qd (by decide) rfl rfl rfl (by decide) (by decide) rfl fun p W8 c g C8 => ?_
 have q := C8.size
 have E := E.trans C8
 obtain ⟨h, i, rfl, k, d⟩ := c.opn
 refine Za rfl rfl (Zg rfl) (Zr rfl rfl ?_)
 refine (Xk (j := n.toNat) c.ls Qd el30 sz9 rfl rfl om (by first | omega | (simp; omega)) fun r s b l => ?_)
 refine Za rfl rfl (Zae l agg9 rfl rfl) (Za rfl rfl (Zd rfl) (Ze (Zb (H7 _ _ ?_))))
 refine Zl ?_
 exact Zh [_] ⟨rfl, trivial⟩ ⟨congrArg bst (Zix om b), E⟩

/-- spec.ParseLetter -/
theorem Zbd {w : World} (s : List UInt8) :
 Ctr Tryz.prog 19 #[(bst s)] w (fun v w' => v = .tuple #[.int .i64 ((plR s).1), .bool ((plR s).2)] ∧ Ch [] w w') := by
 have E := Ch.refl [] w
 refine Zw (N := 14) (vs0 := [(bst s)]) Tryz.func19 rfl rfl rfl ?_
 refine Zf fun K1 H1 => ?_
 refine Zc (Za rfl rfl (Zd rfl) (Za rfl rfl (Zd rfl) (Ze (Zb (H1 _ _ ?_)))))
 refine Zf fun K2 H2 => ?_
 refine Zf fun K3 H3 => ?_
 refine Zc (Za rfl rfl (Zd rfl) (Ze (Zb (H3 _ _ ?_))))
 refine Ye ?_
 refine Xq (σ := Nat) (fun (k : Nat) => [(0, (bst s)), (4, (.int .i64 ((k : Nat) : Int)))]) (fun (k : Nat) wx => Ch [] w wx ∧ w.heap.size ≤ wx.heap.size ∧ (k ≤ 9) ∧ (ltrI s k = none)) (fun (k : Nat) => 9 - k) 0 (sC2 rfl rfl (Sub.nil _)) ⟨E, (Nat.le_refl _), om, Zei⟩ ?_
 rintro k R4 ⟨E, h, o, hn⟩
 have c := E
 have f := c.size
 refine Zf fun K5 H5 => ?_
 refine Zf fun K6 H6 => ?_
 refine Zc (Za rfl rfl (Zg rfl) (Za rfl rfl (Xp rfl rfl) (Ze (Zb (H6 _ _ ?_)))))
 refine Zo rfl (fun b => ?_) (fun b => ?_)
 ·have i := b
  have b := Zu b
  refine Zp ?_
  refine Zb (H5 _ _ ?_)
  refine Zf fun K8 H8 => ?_
  refine Ye ?_
  refine Zf fun K9 H9 => ?_
  refine Zc (Za rfl rfl (Zg rfl) (Zr rfl rfl ?_))
  refine Step.call (Zt (xs := [.tmp 9]) fk30 rfl) (Qb _ ) fun j p d => ?_
  obtain ⟨rfl, g⟩ := d
  have l := g.size
  have E := E.trans g
  refine Za rfl rfl (Zg rfl) (Za rfl rfl (Zau rfl rfl) (Ze (Zb (H9 _ _ ?_))))
  refine Zo rfl (fun a => ?_) (fun a => ?_)
  ·have e := a
   have a := Zu a
   refine Zf fun q m => ?_
   refine Zc (Za rfl rfl (Zg rfl) (Za rfl rfl (Zd rfl) (Za rfl rfl (Zd rfl) (Ze (Zb (m _ _ ?_))))))
   refine Zl (Zn (Zi (Zi (Zn (Zi ?_)))))
   clear H2 H8
   exact Zh [_, _] ⟨rfl, ⟨rfl, trivial⟩⟩ ⟨((congrArg (fun zq => (Value.tuple #[.int .i64 zq, .bool true])) (by first | exact congrArg Prod.fst (Zdy hn om a) | exact congrArg Prod.fst (Zdx hn om om))).trans (congrArg (fun zq => (Value.tuple #[.int .i64 ((plR s).1), .bool zq])) (by first | exact congrArg Prod.snd (Zdy hn om a) | exact congrArg Prod.snd (Zdx hn om om)))), E⟩
  have e := a
  have a := Zv a
  refine Zp ?_
  refine Yf (Zb (H8 _ _ (Zc (Za rfl rfl (Zg rfl) (Za rfl rfl (Yt om rfl rfl) (Za rfl rfl (Zd rfl) (Ze ?_)))))))
  exact Zb (Exists.intro (k + 1) ⟨⟨E, om, om, (Ziu hn om a)⟩, sC2 rfl rfl (Sub.nil _), (by first | omega | (dsimp only; omega))⟩)
 have i := b
 have b := Zv b
 refine Xj (Yd (Yd (Xc ?_)))
 refine Zb (H2 _ _ ?_)
 refine Zf fun r n => ?_
 refine Zc (Za rfl rfl (Zd rfl) (Za rfl rfl (Zd rfl) (Ze (Zb (n _ _ ?_)))))
 refine Zl ?_
 exact Zh [_, _] ⟨rfl, ⟨rfl, trivial⟩⟩ ⟨((congrArg (fun zq => (Value.tuple #[.int .i64 zq, .bool false])) (by first | exact congrArg Prod.fst (Zdy hn om a) | exact congrArg Prod.fst (Zdx hn om om))).trans (congrArg (fun zq => (Value.tuple #[.int .i64 ((plR s).1), .bool zq])) (by first | exact congrArg Prod.snd (Zdy hn om a) | exact congrArg Prod.snd (Zdx hn om om)))), E⟩

/-- spec.FormatInt -/
theorem Qx {w : World} (n : Int) (z : -9223372036854775808 ≤ n ∧ n ≤ 9223372036854775807) :
 Ctr Tryz.prog 31 #[(.int .i64 n)] w (fun v w' => v = bst (fmtI n) ∧ Ch [] w w') := by
 have E := Ch.refl [] w
 refine Zw (N := 31) (vs0 := [(.int .i64 n)]) Tryz.func31 rfl rfl rfl ?_
 refine Zf fun K1 H1 => ?_
 refine Zc (Za rfl rfl (Zd rfl) (Ze (Zb (H1 _ _ ?_))))
 refine Zf fun K2 H2 => ?_
 refine Zf fun K3 H3 => ?_
 refine Zc (Za rfl rfl (Zg rfl) (Za rfl rfl (Yk rfl rfl) (Ze (Zb (H3 _ _ ?_)))))
 refine Zo rfl (fun e => ?_) (fun e => ?_)
 ·have A := e
  have e := Zu e
  refine Zf fun K5 H5 => ?_
  refine Zc (Za rfl rfl (Zd rfl) (Ze (Zb (H5 _ _ ?_))))
  refine Zl (Zi ?_)
  exact Zh [_] ⟨rfl, trivial⟩ ⟨congrArg bst (Zlq e), E⟩
 have A := e
 have e := Zv e
 refine Zp ?_
 refine Zb (H2 _ _ ?_)
 refine Zf fun K6 H6 => ?_
 refine Zc (Za rfl rfl (Zd rfl) (Ze (Zb (H6 _ _ ?_))))
 refine Zf fun K7 H7 => ?_
 refine Zc (Za rfl rfl (Zg rfl) (Za rfl rfl (Xp rfl rfl) (Za rfl rfl (Zd rfl) (Ze (Zb (H7 _ _ ?_))))))
 refine Zf fun K8 H8 => ?_
 refine Ye ?_
 refine Xq (σ := Int × List UInt8) (fun ⟨m, out⟩ => [(0, (.int .i64 m)), (2, (bst ([] : List UInt8))), (3, (bst out)), (4, (.bool (decide (n < 0))))]) (fun ⟨m, out⟩ wx => Ch [] w wx ∧ w.heap.size ≤ wx.heap.size ∧ (dgF 20 m.natAbs ++ out = dgF 20 n.natAbs) ∧ (-9223372036854775808 ≤ m ∧ m ≤ 9223372036854775807)) (fun ⟨m, out⟩ => m.natAbs) (n, ([] : List UInt8)) (sC4 rfl rfl rfl rfl (Sub.nil _)) ⟨E, (Nat.le_refl _), (by simp), z⟩ ?_
 rintro ⟨m, out⟩ R9 ⟨E, B, hm, hr⟩
 have k := E
 have r := k.size
 have C := congrArg List.length hm
 have P := Zey 20 n.natAbs
 rw [List.length_append] at C
 refine Zf fun Q s => ?_
 refine Zf fun R D => ?_
 refine Zc (Za rfl rfl (Zg rfl) (Za rfl rfl (Yp rfl rfl) (Ze (Zb (D _ _ ?_)))))
 refine Zo rfl (fun a => ?_) (fun a => ?_)
 ·have l := a
  have a := Zv (Ys a)
  have S := tm10 m
  refine Zp ?_
  refine Zb (s _ _ ?_)
  refine Ye ?_
  refine Zf fun T F => ?_
  refine Zc (Za rfl rfl (Zg rfl) (Za rfl rfl (Zmh om rfl rfl) (Za rfl rfl (Zd rfl) (Ze (Zb (F _ _ ?_))))))
  refine Zf fun U t => ?_
  refine Zf fun V G => ?_
  refine Zc (Za rfl rfl (Zg rfl) (Za rfl rfl (Xp rfl rfl) (Ze (Zb (G _ _ ?_)))))
  refine Zo rfl (fun c => ?_) (fun c => ?_)
  ·have o := c
   have c := Zu c
   refine Zc (Za rfl rfl (Zg rfl) (Za rfl rfl (Zmf om rfl) (Za rfl rfl (Zd rfl) (Ze (Zb (t _ _ ?_))))))
   refine Zf fun X H => ?_
   refine Zc (Za rfl rfl (Zg rfl) (Za rfl rfl (Yt om rfl rfl) (Za rfl rfl (Zcg (by rw [un3]; rfl) un5 rfl) (Zr rfl rfl ?_))))
   refine Yh (cs := ucs) (parts := [(0, .tmp 20)]) (0 : Int) [(w8 (48 + (-(m.tmod 10))))] el66 sz5 zr5 Zgx (by decide) rfl rfl rfl (by decide) (by decide) rfl fun p Y d g u => ?_
   have I := u.size
   have E := E.trans u
   obtain ⟨h, i, rfl, j, f⟩ := d.opn
   refine Za rfl rfl (Zdc d.ls el66 un5 un9 rfl) (Za rfl rfl (Zg rfl) (Za rfl rfl (Qk (by (simp only [u8s, List.map_cons, List.map_nil, List.length_cons, List.length_nil]; omega)) rfl rfl) (Za rfl rfl (Zd rfl) (Ze (Zb (H _ _ (Zc (Za rfl rfl (Zg rfl) ?_))))))))
   refine Za rfl rfl (Zky om (td10 om) rfl rfl) (Za rfl rfl (Zd rfl) (Ze (Yf ?_)))
   exact Zb (Exists.intro ((m.tdiv 10), ((u8s ([(w8 (48 + (-(m.tmod 10))))])) ++ out)) ⟨⟨E, om, (Zgw hm a hr (by first | exact .inl rfl | exact .inr rfl) om), (td10 hr)⟩, sC4 rfl rfl rfl rfl (Sub.nil _), (Zku a)⟩)
  have o := c
  have c := Zv c
  refine Zp ?_
  refine Zb (t _ _ ?_)
  refine Zf fun Z J => ?_
  refine Zc (Za rfl rfl (Zg rfl) (Za rfl rfl (Yt om rfl rfl) (Za rfl rfl (Zcg (by rw [un3]; rfl) un5 rfl) (Zr rfl rfl ?_))))
  refine Yh (cs := ucs) (parts := [(0, .tmp 20)]) (0 : Int) [(w8 (48 + (m.tmod 10)))] el66 sz5 zr5 Zgx (by decide) rfl rfl rfl (by decide) (by decide) rfl fun p aa d g x => ?_
  have K := x.size
  have E := E.trans x
  obtain ⟨h, i, rfl, j, f⟩ := d.opn
  refine Za rfl rfl (Zdc d.ls el66 un5 un9 rfl) (Za rfl rfl (Zg rfl) (Za rfl rfl (Qk (by (simp only [u8s, List.map_cons, List.map_nil, List.length_cons, List.length_nil]; omega)) rfl rfl) (Za rfl rfl (Zd rfl) (Ze (Zb (J _ _ (Zc (Za rfl rfl (Zg rfl) ?_))))))))
  refine Za rfl rfl (Zky om (td10 om) rfl rfl) (Za rfl rfl (Zd rfl) (Ze (Yf ?_)))
  exact Zb (Exists.intro ((m.tdiv 10), ((u8s ([(w8 (48 + (m.tmod 10)))])) ++ out)) ⟨⟨E, om, (Zgw hm a hr (by first | exact .inl rfl | exact .inr rfl) om), (td10 hr)⟩, sC4 rfl rfl rfl rfl (Sub.nil _), (Zku a)⟩)
 have l := a
 have a := Zu (Yr a)
 refine Xj (Yd (Yd (Xc ?_)))
 refine Zb (H8 _ _ ?_)
 refine Zf fun ab y => ?_
 refine Zf fun ac L => ?_
 refine Zc (Za rfl rfl (Zg rfl) (Ze (Zb (L _ _ ?_))))
 refine Zo rfl (fun b => ?_) (fun b => ?_)
 ·have q := b
  have b := Zu b
  refine Zf fun ad M => ?_
  refine Zc (Za rfl rfl (Zg rfl) (Za rfl rfl (Qk (by (simp only [u8s, List.map_cons, List.map_nil, List.length_cons, List.length_nil]; omega)) rfl rfl) (Za rfl rfl (Zd rfl) (Ze (Zb (M _ _ ?_))))))
  refine Zl (Zi ?_)
  clear s y
  exact Zh [_] ⟨rfl, trivial⟩ ⟨congrArg bst (Zip b (Zjd hm a)), E⟩
 have q := b
 have b := Zv b
 refine Zp ?_
 refine Zb (y _ _ ?_)
 refine Zf fun ae O => ?_
 refine Zc (Za rfl rfl (Zg rfl) (Za rfl rfl (Zd rfl) (Ze (Zb (O _ _ ?_)))))
 refine Zl ?_
 exact Zh [_] ⟨rfl, trivial⟩ ⟨congrArg bst (Zif b e (Zjd hm a)), E⟩

/-- spec.l8Token -/
theorem Zcs {w : World} (t : Token) (hl : 0 ≤ t.low ∧ t.low ≤ 255) (hh : 0 ≤ t.high ∧ t.high ≤ 255) :
 Ctr Tryz.prog 18 #[(.agg #[(.int .i64 t.kind), (.int .i64 t.letter), (.int .i64 t.low), (.int .i64 t.high)])] w (fun v w' => v = bst (Xa t) ∧ Ch [] w w') := by
 have E := Ch.refl [] w
 have Z := Qz t.low; have aa := Qz t.high
 refine Zw (N := 30) (vs0 := [(.agg #[(.int .i64 t.kind), (.int .i64 t.letter), (.int .i64 t.low), (.int .i64 t.high)])]) Tryz.func18 rfl rfl rfl ?_
 refine Zf fun K1 H1 => ?_
 refine Zc (Zr rfl rfl ?_)
 refine Xz rfl fun A W2 h C2 ab => ?_
 have ac := C2.size
 have E := E.trans C2
 have ad := h.lt
 replace h : Blk W2 A 33 [(.int .i64 t.kind), (.int .i64 t.letter), (.int .i64 t.low), (.int .i64 t.high)] := h
 refine Za rfl rfl (Zd rfl) (Ze (Zb (H1 _ _ ?_)))
 refine Zf fun K3 H3 => ?_
 refine Zf fun K4 H4 => ?_
 refine Zc (Za rfl rfl (Zk fa33_0 rfl) (Za rfl rfl (Zm h.at_ agg3 rfl rfl) (Ze (Zb (H4 _ _ ?_)))))
 refine Ye ?_
 refine Zf fun K5 H5 => ?_
 refine Zc (Za rfl rfl (Yk rfl rfl) (Za rfl rfl (Zd rfl) (Ze (Zb (H5 _ _ ?_)))))
 refine Zo rfl (fun d => ?_) (fun d => ?_)
 ·have B := d
  have d := Zu d
  refine Zf fun K7 H7 => ?_
  refine Zc (Za rfl rfl (Zd rfl) (Ze (Zb (H7 _ _ ?_))))
  refine Zl (Zn (Zi ?_))
  exact Zh [_] ⟨rfl, trivial⟩ ⟨congrArg bst (by unfold Xa; rw [if_pos d]), E⟩
 have B := d
 have d := Zv d
 refine Zf fun K8 H8 => ?_
 refine Zc (Za rfl rfl (Yk rfl rfl) (Za rfl rfl (Zd rfl) (Ze (Zb (H8 _ _ ?_)))))
 refine Zo rfl (fun e => ?_) (fun e => ?_)
 ·have C := e
  have e := Zu e
  refine Zf fun ae D => ?_
  refine Zc (Za rfl rfl (Zd rfl) (Ze (Zb (D _ _ ?_))))
  refine Zl (Zn (Zi ?_))
  exact Zh [_] ⟨rfl, trivial⟩ ⟨congrArg bst (by unfold Xa; rw [if_neg d, if_pos e]), E⟩
 have C := e
 have e := Zv e
 refine Zf fun af F => ?_
 refine Zc (Za rfl rfl (Yk rfl rfl) (Za rfl rfl (Zd rfl) (Ze (Zb (F _ _ ?_)))))
 refine Zo rfl (fun f => ?_) (fun f => ?_)
 ·have k := f
  have f := Zu f
  refine Zf fun ag G => ?_
  refine Zc (Za rfl rfl (Zk fa33_1 rfl) (Za rfl rfl (Zm h.at_ agg3 rfl rfl) (Zr rfl rfl ?_)))
  refine Step.call (Zt (xs := [.tmp 12]) fk30 rfl) (Qb _ ) fun H ah l => ?_
  obtain ⟨rfl, x⟩ := l
  have I := x.size
  have E := E.trans x
  refine Za rfl rfl (Zd rfl) (Ze (Zb (G _ _ ?_)))
  refine Zl (Zn (Zi ?_))
  exact Zh [_] ⟨rfl, trivial⟩ ⟨congrArg bst (by unfold Xa; rw [if_neg d, if_neg e, if_pos f]), E⟩
 have k := f
 have f := Zv f
 refine Zf fun ai J => ?_
 refine Zc (Za rfl rfl (Yk rfl rfl) (Za rfl rfl (Zd rfl) (Ze (Zb (J _ _ ?_)))))
 refine Zo rfl (fun a => ?_) (fun a => ?_)
 ·have m := a
  have a := Zu a
  refine Zf fun aj K => ?_
  refine Zc (Za rfl rfl (Zd rfl) (Ze (Zb (K _ _ ?_))))
  refine Zl (Zn (Zi ?_))
  exact Zh [_] ⟨rfl, trivial⟩ ⟨congrArg bst (by unfold Xa; rw [if_neg d, if_neg e, if_neg f, if_pos a]), E⟩
 have m := a
 have a := Zv a
 refine Zf fun ak L => ?_
 refine Zc (Za rfl rfl (Yk rfl rfl) (Za rfl rfl (Zd rfl) (Ze (Zb (L _ _ ?_)))))
 refine Zo rfl (fun b => ?_) (fun b => ?_)
 ·have n := b
  have b := Zu b
  refine Zf fun al M => ?_
  refine Zc (Za rfl rfl (Zd rfl) (Ze (Zb (M _ _ ?_))))
  refine Zl (Zn (Zi ?_))
  exact Zh [_] ⟨rfl, trivial⟩ ⟨congrArg bst (by unfold Xa; rw [if_neg d, if_neg e, if_neg f, if_neg a, if_pos b]), E⟩
 have n := b
 have b := Zv b
 refine Zf fun am O => ?_
 refine Zc (Za rfl rfl (Yk rfl rfl) (Za rfl rfl (Zd rfl) (Ze (Zb (O _ _ ?_)))))
 refine Zo rfl (fun c => ?_) (fun c => ?_)
 ·have o := c
  have c := Zu c
  refine Zf fun an P => ?_
  refine Zc (Za rfl rfl (Zd rfl) (Ze (Zb (P _ _ ?_))))
  refine Zl (Zn (Zi ?_))
  exact Zh [_] ⟨rfl, trivial⟩ ⟨congrArg bst (by unfold Xa; rw [if_neg d, if_neg e, if_neg f, if_neg a, if_neg b, if_pos c]), E⟩
 have o := c
 have c := Zv c
 refine Zp ?_
 refine Yf (Zb (H3 _ _ ?_))
 refine Zf fun ao Q => ?_
 refine Zaq [] 11 mixed rfl fun y p => ?_
 have R := p.size
 have E := E.trans p
 refine dV 0 rfl rfl rfl (fun _ => Zk fa33_2 rfl) ?_
 have z := h.ch0 p
 refine dT 1 rfl rfl rfl (Zbw z.at_ (fun i hi => absurd hi List.not_mem_nil) agg3 rfl rfl ?_)
 refine dV 5 rfl rfl rfl (fun _ => Zk fa33_3 rfl) ?_
 refine dT 6 rfl rfl rfl (Zbw z.at_ (fun i hi => absurd hi List.not_mem_nil) agg3 rfl rfl ?_)
 refine dO 2 (Xd rfl rfl rfl ?_)
 refine Step.call (Zt (xs := [.tmp 21]) fk31 rfl) (Qx _ om) fun S T q => ?_
 obtain ⟨rfl, r⟩ := q
 have U := r.size
 have E := E.trans r
 have g : Ch [] y T := ((Ch.refl _ _).trans r)
 refine ⟨g, ?_⟩
 refine dV 3 rfl rfl rfl (fun _ => Qk (by (simp only [List.length_append, List.length_cons, List.length_nil]; omega)) rfl rfl) (dV 4 rfl rfl rfl (fun _ => Qk (by (simp only [List.length_append, List.length_cons, List.length_nil]; omega)) rfl rfl) (dO 7 (Xd rfl rfl rfl ?_)))
 refine Step.call (Zt (xs := [.tmp 26]) fk31 rfl) (Qx _ om) fun V X s => ?_
 obtain ⟨rfl, u⟩ := s
 have Y := u.size
 have E := E.trans u
 have j : Ch [] y X := (g.trans u)
 refine ⟨j, ?_⟩
 refine dV 8 rfl rfl rfl (fun _ => Qk (by (simp only [List.length_append, List.length_cons, List.length_nil]; omega)) rfl rfl) (dV 9 rfl rfl rfl (fun _ => Qk (by (simp only [List.length_append, List.length_cons, List.length_nil]; omega)) rfl rfl) (dV 10 rfl rfl rfl (fun _ => Zd rfl) ?_))
 refine Xl (by kernel_rfl) ?_
 refine Zb (Q _ _ ?_)
 refine Zl ?_
 exact Zh [_] ⟨rfl, trivial⟩ ⟨congrArg bst (by unfold Xa; rw [if_neg d, if_neg e, if_neg f, if_neg a, if_neg b, if_neg c]), E⟩

/-- spec.l8Read -/
theorem Zay {w : World} (s : List UInt8) :
 Ctr Tryz.prog 10 #[(bst s)] w (fun v w' => v = .agg (Token.cs (rdT s)).toArray ∧ Ch [] w w') := by
 have E := Ch.refl [] w
 refine Zw (N := 57) (vs0 := [(bst s)]) Tryz.func10 rfl rfl rfl ?_
 refine Zf fun K1 H1 => ?_
 refine Zc (Zr rfl rfl ?_)
 refine Xg zr33 fun o W2 D C2 aX => ?_
 have aY := C2.size
 have E := E.trans C2
 have aZ := D.lt
 replace D : Blk W2 o 33 [(.int .i64 0), (.int .i64 0), (.int .i64 0), (.int .i64 0)] := D
 refine Ze (Zb (H1 _ _ ?_))
 refine Zf fun K3 H3 => ?_
 refine Zf fun K4 H4 => ?_
 refine Zc (Za rfl rfl (Zd rfl) (Ze (Zb (H4 _ _ ?_))))
 refine Ye ?_
 refine Xq (σ := Nat) (fun (k : Nat) => [(0, (bst s)), (2, (.pointer (some ⟨o, 0, none⟩))), (3, (.int .i64 ((k : Nat) : Int)))]) (fun (k : Nat) wx => Ch [] w wx ∧ W2.heap.size ≤ wx.heap.size ∧ (1 ≤ k ∧ k ≤ 7) ∧ (rdK s k = none) ∧ Blk wx o 33 [(.int .i64 0), (.int .i64 0), (.int .i64 0), (.int .i64 0)]) (fun (k : Nat) => 7 - k) 1 (sC2 rfl rfl (sC1 rfl (Sub.nil _))) ⟨E, (Nat.le_refl _), om, Zhz, D⟩ ?_
 rintro k R5 ⟨E, ag, a0, hn, j⟩
 have H := E
 have V := H.size
 have I := j.lt
 refine Zf fun K6 H6 => ?_
 refine Zf fun K7 H7 => ?_
 refine Zc (Za rfl rfl (Zg rfl) (Za rfl rfl (Zfr rfl rfl) (Ze (Zb (H7 _ _ ?_)))))
 refine Zo rfl (fun l => ?_) (fun l => ?_)
 ·have ah := l
  have l := Zu l
  refine Zp ?_
  refine Zb (H6 _ _ ?_)
  refine Zf fun K9 H9 => ?_
  refine Ye ?_
  refine Zf fun a1 X => ?_
  refine Zc (Za rfl rfl (Zg rfl) (Za rfl rfl (Yp rfl rfl) (Za rfl rfl (Zg rfl) ?_)))
  refine Zy (d := 12) rfl (fun m => ?_) (fun m => ?_)
  ·have J := m
   have m := Zv (Ys m)
   refine Za rfl rfl (Zg rfl) (Za rfl rfl (Yj (parts := [(0, .tmp 13)]) (cells := [(.int .i64 ((k : Nat) : Int)), (.int .i64 0), (.int .i64 0), (.int .i64 0)]) zr33 pl33 rfl rfl) (Zr rfl rfl ?_))
   refine Step.call (Zt (xs := [.tmp 14]) fk18 rfl) (Zcs ⟨((k : Nat) : Int), 0, 0, 0⟩ (by first | omega | (dsimp only; omega) | simp) (by first | omega | (dsimp only; omega) | simp)) fun ai a2 K => ?_
   obtain ⟨rfl, F⟩ := K
   have aj := F.size
   have E := E.trans F
   refine Za rfl rfl (Zg rfl) (Za rfl rfl (Zau rfl rfl) (Za rfl rfl (Zx rfl rfl) (Ze (Zb (X _ _ ?_)))))
   refine Zo rfl (fun g => ?_) (fun g => ?_)
   ·have L := g
    have g := Zu g
    refine Zf fun a3 ak => ?_
    refine Zc (Za rfl rfl (Zg rfl) (Za rfl rfl (Yj (parts := [(0, .tmp 19)]) (cells := [(.int .i64 ((k : Nat) : Int)), (.int .i64 0), (.int .i64 0), (.int .i64 0)]) zr33 pl33 rfl rfl) (Zr rfl rfl ?_)))
    have al := j.ch0 F
    refine Yc (off := 0) 4 al sz33 rfl (us := [(.int .i64 ((k : Nat) : Int)), (.int .i64 0), (.int .i64 0), (.int .i64 0)]) rfl rfl rfl rfl fun am p Y => ?_
    have an := Y.size
    have E := E.step Y (lS om)
    replace p : Blk am o 33 [(.int .i64 ((k : Nat) : Int)), (.int .i64 0), (.int .i64 0), (.int .i64 0)] := p
    refine Ze (Zb (ak _ _ ?_))
    refine Zl (Zn (Zi (Zi (Zn (Zi ?_)))))
    clear H3 H9
    exact Zh [_] (Yb p rfl agg33 sz33 trivial) ⟨(by have key : ∀ z : Token, z = rdT s → Value.agg (Token.cs z).toArray = Value.agg (Token.cs (rdT s)).toArray := (fun z h => by rw [h]); first | exact key _ (Zeu hn om om om g) | exact key _ (Zes (Yo hn l om) a) | exact key _ (Zeq (Yo hn l om) a ⟨by omega, b, e, f⟩) | exact key _ (Zer (Yo hn l om) a (fun c => by first | exact f c.2.2.2 | exact e c.2.2.1 | exact b c.2.1 | omega))), E⟩
   have L := g
   have g := Zv g
   refine Zp ?_
   refine Yf (Zb (H9 _ _ (Zc (Za rfl rfl (Zg rfl) (Za rfl rfl (Yt om rfl rfl) (Za rfl rfl (Zd rfl) (Ze ?_)))))))
   have ao := j.ch0 F
   exact Zb (Exists.intro (k + 1) ⟨⟨E, om, om, (Zla hn (by first | exact .inr g | (left; omega))), ao⟩, sC2 rfl rfl (sC1 rfl (Sub.nil _)), (by first | omega | (dsimp only; omega))⟩)
  have J := m
  have m := Zu (Yr m)
  refine Zj rfl rfl (Zj rfl rfl (Zj rfl rfl (Zj rfl rfl (Zj rfl rfl (Za rfl rfl (Ya rfl rfl) (Ze (Zb (X _ _ ?_))))))))
  refine Zbf rfl ?_
  refine Zp ?_
  refine Yf (Zb (H9 _ _ (Zc (Za rfl rfl (Zg rfl) (Za rfl rfl (Yt om rfl rfl) (Za rfl rfl (Zd rfl) (Ze ?_)))))))
  exact Zb (Exists.intro (k + 1) ⟨⟨E, om, om, (Zla hn (by first | exact .inr g | (left; omega))), j⟩, sC2 rfl rfl (sC1 rfl (Sub.nil _)), (by first | omega | (dsimp only; omega))⟩)
 have ah := l
 have l := Zv l
 refine Xj (Yd (Yd (Xc ?_)))
 refine Zb (H3 _ _ ?_)
 refine Zf fun a4 ap => ?_
 refine Zc (Za rfl rfl (Zg rfl) (Zr rfl rfl ?_))
 refine Step.call (Zt (xs := [.tmp 22]) fk19 rfl) (Zbd s ) fun aq a5 M => ?_
 obtain ⟨rfl, A⟩ := M
 have au := A.size
 have E := E.trans A
 refine Za rfl rfl (Zg rfl) (Za rfl rfl (Yi rfl rfl) (Za rfl rfl (Yi rfl rfl) (Za rfl rfl (Zd rfl) (Za rfl rfl (Zd rfl) (Ze (Zb (ap _ _ ?_)))))))
 refine Zf fun a6 Z => ?_
 refine Zf fun a7 av => ?_
 refine Zc (Za rfl rfl (Zg rfl) (Ze (Zb (av _ _ ?_))))
 refine Zo rfl (fun a => ?_) (fun a => ?_)
 ·have O := a
  refine Zf fun a8 aw => ?_
  refine Zc (Za rfl rfl (Zg rfl) (Za rfl rfl (Yj (parts := [(0, .const (Go.Value.int Go.IntKind.i64 3)), (1, .tmp 27)]) (cells := [(.int .i64 3), (.int .i64 ((plR s).1)), (.int .i64 0), (.int .i64 0)]) zr33 pl33 rfl rfl) (Zr rfl rfl ?_)))
  have ax := j.ch0 A
  refine Yc (off := 0) 4 ax sz33 rfl (us := [(.int .i64 3), (.int .i64 ((plR s).1)), (.int .i64 0), (.int .i64 0)]) rfl rfl rfl rfl fun ay q aa => ?_
  have az := aa.size
  have E := E.step aa (lS om)
  replace q : Blk ay o 33 [(.int .i64 3), (.int .i64 ((plR s).1)), (.int .i64 0), (.int .i64 0)] := q
  refine Ze (Zb (aw _ _ ?_))
  refine Zl (Zi ?_)
  clear H6 Z
  exact Zh [_] (Yb q rfl agg33 sz33 trivial) ⟨(by have key : ∀ z : Token, z = rdT s → Value.agg (Token.cs z).toArray = Value.agg (Token.cs (rdT s)).toArray := (fun z h => by rw [h]); first | exact key _ (Zeu hn om om om g) | exact key _ (Zes (Yo hn l om) a) | exact key _ (Zeq (Yo hn l om) a ⟨by omega, b, e, f⟩) | exact key _ (Zer (Yo hn l om) a (fun c => by first | exact f c.2.2.2 | exact e c.2.2.1 | exact b c.2.1 | omega))), E⟩
 have O := a
 refine Zp ?_
 refine Zb (Z _ _ ?_)
 refine Zf fun a9 B => ?_
 refine Zf fun ba G => ?_
 refine Zc (Za rfl rfl (Zg rfl) (Za rfl rfl (Zfi un9 rfl) (Za rfl rfl (Yk rfl rfl) (Za rfl rfl (Zg rfl) ?_))))
 refine Zy (d := 32) rfl (fun n => ?_) (fun n => ?_)
 ·have P := n
  have n := Zu n
  refine Za rfl rfl (Zg rfl) (Za rfl rfl (Qw om un9 rfl rfl) (Za rfl rfl (Yk rfl rfl) (Za rfl rfl (Zx rfl rfl) (Za rfl rfl (Zg rfl) ?_))))
  refine Zy (d := 37) rfl (fun b => ?_) (fun b => ?_)
  ·have Q := b
   have b := Zu b
   refine Za rfl rfl (Zg rfl) (Za rfl rfl (Qw om un9 rfl rfl) (Za rfl rfl (Yk rfl rfl) (Za rfl rfl (Zx rfl rfl) (Za rfl rfl (Zg rfl) ?_))))
   refine Zy (d := 42) rfl (fun e => ?_) (fun e => ?_)
   ·have R := e
    have e := Zu e
    refine Za rfl rfl (Zg rfl) (Za rfl rfl (Qw om un9 rfl rfl) (Za rfl rfl (Yk rfl rfl) (Za rfl rfl (Zx rfl rfl) (Ze (Zb (G _ _ ?_))))))
    refine Zo rfl (fun f => ?_) (fun f => ?_)
    ·have S := f
     have f := Zu f
     refine Zf fun bb aA => ?_
     refine Zaq [o] 10 mixed rfl fun aB T => ?_
     have aC := T.size
     have E := E.trans T
     refine dV 0 rfl rfl rfl (fun _ => Zg rfl) (dV 1 rfl rfl rfl (fun _ => Qw om un9 rfl rfl) (dV 2 rfl rfl rfl (fun _ => Zcl (Zje _ _) (by rw [un5]; rfl) un3 rfl) (dV 3 rfl rfl rfl (fun _ => Zhp (by have aD := Zex s (Int.toNat 1); omega) rfl rfl) (dV 4 rfl rfl rfl (fun _ => Zg rfl) (dV 5 rfl rfl rfl (fun _ => Qw om un9 rfl rfl) (dV 6 rfl rfl rfl (fun _ => Zcl (Zje _ _) (by rw [un5]; rfl) un3 rfl) (dV 7 rfl rfl rfl (fun _ => Zhp (by have aD := Zex s (Int.toNat 3); omega) rfl rfl) ?_)))))))
     refine dV 8 rfl rfl rfl (fun _ => Yj (parts := [(0, .const (Go.Value.int Go.IntKind.i64 7)), (2, .tmp 50), (3, .tmp 54)]) (cells := [(.int .i64 7), (.int .i64 0), (.int .i64 ((bat s 1) - 48)), (.int .i64 ((bat s 3) - 48))]) zr33 pl33 rfl rfl) (dO 9 (Xd rfl rfl rfl ?_))
     have aE := (j.ch0 A).ch0 T
     refine Yc (off := 0) 4 aE sz33 rfl (us := [(.int .i64 7), (.int .i64 0), (.int .i64 ((bat s 1) - 48)), (.int .i64 ((bat s 3) - 48))]) rfl rfl rfl rfl fun ab r U => ?_
     have aF := U.size
     have E := E.step U (lS om)
     replace r : Blk ab o 33 [(.int .i64 7), (.int .i64 0), (.int .i64 ((bat s 1) - 48)), (.int .i64 ((bat s 3) - 48))] := r
     have C : Ch [o] aB ab := ((Ch.refl _ _).step U (fun i hm => by have aG := List.mem_singleton.1 hm; exact .inr (by rw [aG]; exact (List.mem_singleton.2 rfl))))
     refine ⟨C, ?_⟩
     refine Xl (by kernel_rfl) ?_
     refine Zb (aA _ _ ?_)
     refine Zl (Zi ?_)
     clear H6 B
     exact Zh [_] (Yb r rfl agg33 sz33 trivial) ⟨(by have key : ∀ z : Token, z = rdT s → Value.agg (Token.cs z).toArray = Value.agg (Token.cs (rdT s)).toArray := (fun z h => by rw [h]); first | exact key _ (Zeu hn om om om g) | exact key _ (Zes (Yo hn l om) a) | exact key _ (Zeq (Yo hn l om) a ⟨by omega, b, e, f⟩) | exact key _ (Zer (Yo hn l om) a (fun c => by first | exact f c.2.2.2 | exact e c.2.2.1 | exact b c.2.1 | omega))), E⟩
    have S := f
    have f := Zv f
    refine Zp ?_
    refine Zb (B _ _ ?_)
    refine Zf fun bc aH => ?_
    refine Zc (Za rfl rfl (Yj (parts := []) (cells := [(.int .i64 0), (.int .i64 0), (.int .i64 0), (.int .i64 0)]) zr33 pl33 rfl rfl) (Zr rfl rfl ?_))
    have aI := j.ch0 A
    refine Yc (off := 0) 4 aI sz33 rfl (us := [(.int .i64 0), (.int .i64 0), (.int .i64 0), (.int .i64 0)]) rfl rfl rfl rfl fun aJ t ac => ?_
    have aK := ac.size
    have E := E.step ac (lS om)
    replace t : Blk aJ o 33 [(.int .i64 0), (.int .i64 0), (.int .i64 0), (.int .i64 0)] := t
    refine Ze (Zb (aH _ _ ?_))
    refine Zl ?_
    exact Zh [_] (Yb t rfl agg33 sz33 trivial) ⟨(by have key : ∀ z : Token, z = rdT s → Value.agg (Token.cs z).toArray = Value.agg (Token.cs (rdT s)).toArray := (fun z h => by rw [h]); first | exact key _ (Zeu hn om om om g) | exact key _ (Zes (Yo hn l om) a) | exact key _ (Zeq (Yo hn l om) a ⟨by omega, b, e, f⟩) | exact key _ (Zer (Yo hn l om) a (fun c => by first | exact f c.2.2.2 | exact e c.2.2.1 | exact b c.2.1 | omega))), E⟩
   have R := e
   have e := Zv e
   refine Zj rfl rfl (Zj rfl rfl (Zj rfl rfl (Za rfl rfl (Ya rfl rfl) (Ze (Zb (G _ _ ?_))))))
   refine Zbf rfl ?_
   refine Zp ?_
   refine Zb (B _ _ ?_)
   refine Zf fun be aL => ?_
   refine Zc (Za rfl rfl (Yj (parts := []) (cells := [(.int .i64 0), (.int .i64 0), (.int .i64 0), (.int .i64 0)]) zr33 pl33 rfl rfl) (Zr rfl rfl ?_))
   have aM := j.ch0 A
   refine Yc (off := 0) 4 aM sz33 rfl (us := [(.int .i64 0), (.int .i64 0), (.int .i64 0), (.int .i64 0)]) rfl rfl rfl rfl fun aN u ad => ?_
   have aO := ad.size
   have E := E.step ad (lS om)
   replace u : Blk aN o 33 [(.int .i64 0), (.int .i64 0), (.int .i64 0), (.int .i64 0)] := u
   refine Ze (Zb (aL _ _ ?_))
   refine Zl ?_
   exact Zh [_] (Yb u rfl agg33 sz33 trivial) ⟨(by have key : ∀ z : Token, z = rdT s → Value.agg (Token.cs z).toArray = Value.agg (Token.cs (rdT s)).toArray := (fun z h => by rw [h]); first | exact key _ (Zeu hn om om om g) | exact key _ (Zes (Yo hn l om) a) | exact key _ (Zeq (Yo hn l om) a ⟨by omega, b, e, f⟩) | exact key _ (Zer (Yo hn l om) a (fun c => by first | exact f c.2.2.2 | exact e c.2.2.1 | exact b c.2.1 | omega))), E⟩
  have Q := b
  have b := Zv b
  refine Zj rfl rfl (Zj rfl rfl (Zj rfl rfl (Za rfl rfl (Ya rfl rfl) (Za rfl rfl (Zg rfl) (Zj rfl rfl (Zj rfl rfl (Zj rfl rfl ?_)))))))
  refine Za rfl rfl (Ya rfl rfl) (Ze (Zb (G _ _ ?_)))
  refine Zbf rfl ?_
  refine Zp ?_
  refine Zb (B _ _ ?_)
  refine Zf fun bf aP => ?_
  refine Zc (Za rfl rfl (Yj (parts := []) (cells := [(.int .i64 0), (.int .i64 0), (.int .i64 0), (.int .i64 0)]) zr33 pl33 rfl rfl) (Zr rfl rfl ?_))
  have aQ := j.ch0 A
  refine Yc (off := 0) 4 aQ sz33 rfl (us := [(.int .i64 0), (.int .i64 0), (.int .i64 0), (.int .i64 0)]) rfl rfl rfl rfl fun aR x ae => ?_
  have aS := ae.size
  have E := E.step ae (lS om)
  replace x : Blk aR o 33 [(.int .i64 0), (.int .i64 0), (.int .i64 0), (.int .i64 0)] := x
  refine Ze (Zb (aP _ _ ?_))
  refine Zl ?_
  exact Zh [_] (Yb x rfl agg33 sz33 trivial) ⟨(by have key : ∀ z : Token, z = rdT s → Value.agg (Token.cs z).toArray = Value.agg (Token.cs (rdT s)).toArray := (fun z h => by rw [h]); first | exact key _ (Zeu hn om om om g) | exact key _ (Zes (Yo hn l om) a) | exact key _ (Zeq (Yo hn l om) a ⟨by omega, b, e, f⟩) | exact key _ (Zer (Yo hn l om) a (fun c => by first | exact f c.2.2.2 | exact e c.2.2.1 | exact b c.2.1 | omega))), E⟩
 have P := n
 have n := Zv n
 refine Zj rfl rfl (Zj rfl rfl (Zj rfl rfl (Za rfl rfl (Ya rfl rfl) (Za rfl rfl (Zg rfl) (Zj rfl rfl (Zj rfl rfl (Zj rfl rfl ?_)))))))
 refine Za rfl rfl (Ya rfl rfl) (Za rfl rfl (Zg rfl) (Zj rfl rfl (Zj rfl rfl (Zj rfl rfl (Za rfl rfl (Ya rfl rfl) (Ze (Zb (G _ _ ?_))))))))
 refine Zbf rfl ?_
 refine Zp ?_
 refine Zb (B _ _ ?_)
 refine Zf fun bg aT => ?_
 refine Zc (Za rfl rfl (Yj (parts := []) (cells := [(.int .i64 0), (.int .i64 0), (.int .i64 0), (.int .i64 0)]) zr33 pl33 rfl rfl) (Zr rfl rfl ?_))
 have aU := j.ch0 A
 refine Yc (off := 0) 4 aU sz33 rfl (us := [(.int .i64 0), (.int .i64 0), (.int .i64 0), (.int .i64 0)]) rfl rfl rfl rfl fun aV y af => ?_
 have aW := af.size
 have E := E.step af (lS om)
 replace y : Blk aV o 33 [(.int .i64 0), (.int .i64 0), (.int .i64 0), (.int .i64 0)] := y
 refine Ze (Zb (aT _ _ ?_))
 refine Zl ?_
 exact Zh [_] (Yb y rfl agg33 sz33 trivial) ⟨(by have key : ∀ z : Token, z = rdT s → Value.agg (Token.cs z).toArray = Value.agg (Token.cs (rdT s)).toArray := (fun z h => by rw [h]); first | exact key _ (Zeu hn om om om g) | exact key _ (Zes (Yo hn l om) a) | exact key _ (Zeq (Yo hn l om) a ⟨by omega, b, e, f⟩) | exact key _ (Zer (Yo hn l om) a (fun c => by first | exact f c.2.2.2 | exact e c.2.2.1 | exact b c.2.1 | omega))), E⟩

/-- spec.ParseExpr -/
theorem Zbt {w : World} (s : List UInt8) (hb : s.length ≤ 4194304) :
 Ctr Tryz.prog 4 #[(bst s)] w (fun v w' => ∃ (ae : Value), v = .tuple #[.agg #[ae], .bool ((Xf s).2)] ∧ Ol Token.cs 33 4 w' ae ((Xf s).1) ∧ Lo w.heap.size ae ∧ Ch [] w w') := by
 have E := Ch.refl [] w
 have cw := Qy s 32 []
 refine Zw (N := 35) (vs0 := [(bst s)]) Tryz.func4 rfl rfl rfl ?_
 refine Zf fun K1 H1 => ?_
 refine Zc (Zr rfl rfl ?_)
 refine Xg zr24 fun af W2 aQ C2 cx => ?_
 have cy := C2.size
 have E := E.trans C2
 have cz := aQ.lt
 replace aQ : Blk W2 af 24 [(.slice none 0 0)] := aQ
 refine Za rfl rfl (Zd rfl) (Ze (Zb (H1 _ _ ?_)))
 refine Zf fun K3 H3 => ?_
 refine Zc (Za rfl rfl (Yj (parts := []) (cells := [(.slice none 0 0)]) zr24 pl24 rfl rfl) (Zr rfl rfl ?_))
 refine Xg zr24 fun p W4 aR C4 cA => ?_
 have cB := C4.size
 have E := E.trans C4
 have cC := aR.lt
 replace aR : Blk W4 p 24 [(.slice none 0 0)] := aR
 refine Zr rfl rfl ?_
 refine Yc (off := 0) 1 aR sz24 rfl (us := [(.slice none 0 0)]) rfl rfl rfl rfl fun W5 ag C5 => ?_
 have cD := C5.size
 have E := E.step C5 (lS om)
 replace ag : Blk W5 p 24 [(.slice none 0 0)] := ag
 refine Ze (Zb (H3 _ _ ?_))
 refine Zf fun K7 H7 => ?_
 refine Zc (Za rfl rfl (Zg rfl) (Zr rfl rfl ?_))
 refine Step.call (Zt (xs := [.tmp 8, .const (Go.Value.int Go.IntKind.u8 32)]) fk9 rfl) (Zep s _ om) fun cE W8 aS => ?_
 obtain ⟨aS, aU, C8⟩ := aS
 have cF := C8.size
 have E := E.trans C8
 obtain ⟨aC, aD, rfl, bu, aE⟩ := aS.opn
 have aV := Ol.lsR aS (lo := W5.heap.size) (hi := W8.heap.size) aU aE
 refine Za rfl rfl (Zd rfl) (Ze (Zb (H7 _ _ ?_)))
 refine Zf fun K9 H9 => ?_
 refine Zf fun cG bv => ?_
 refine Zc (Za rfl rfl (Zd rfl) (Ze (Zb (bv _ _ ?_))))
 refine Ye ?_
 have ah : Ol Token.cs 33 4 W8 (.slice none 0 0) (((Zq s 32 []).take 0).map rdT) := by
  have hx := Ol.nil (cs := Token.cs) (e := 33) (k := 4) W8
  simpa using hx
 have bw := ag.ch0 C8
 have bx := ((aQ.ch0 C4).ch C5 (nS om)).ch0 C8
 refine Xq (σ := Nat × Value) (fun ⟨i, tv⟩ => [(2, (.pointer (some ⟨af, 0, none⟩))), (3, (.bool false)), (4, (.pointer (some ⟨p, 0, none⟩))), (5, (.slice aC (Zq s 32 []).length aD)), (6, (.int .i64 ((i : Nat) : Int)))]) (fun ⟨i, tv⟩ wx => Ch [] w wx ∧ W8.heap.size ≤ wx.heap.size ∧ (i ≤ (Zq s 32 []).length ∧ i ≤ 25) ∧ Blk wx af 24 [(.slice none 0 0)] ∧ Ls scs 1 wx W5.heap.size W8.heap.size (.slice aC (Zq s 32 []).length aD) (Zq s 32 []) ∧ Ol Token.cs 33 4 wx tv (((Zq s 32 []).take i).map rdT) ∧ Lo W8.heap.size tv ∧ Blk wx p 24 [tv] ∧ (p ∉ bl tv)) (fun ⟨i, tv⟩ => (Zq s 32 []).length - i) (0, (.slice none 0 0)) (sC4 rfl rfl rfl rfl (sC1 rfl (Sub.nil _))) ⟨E, (Nat.le_refl _), om, bx, aV, ah, (Lo.nil _), bw, (fun hm => by cases hm)⟩ ?_
 rintro ⟨i, tv⟩ cH ⟨E, bz, hi, l, aF, m, a, o, c⟩
 have aW := E
 have bg := aW.size
 have aX := l.lt
 obtain ⟨Atv, Ctv, rfl, ltv, q⟩ := m.opn
 refine Zf fun cI aY => ?_
 refine Zf fun cJ bh => ?_
 refine Zc (Za rfl rfl (Zg rfl) (Za rfl rfl (Zg rfl) (Za rfl rfl (Qo (by rw [el30]; rfl) rfl) (Za rfl rfl (Xp rfl rfl) (Za rfl rfl (Zg rfl) ?_)))))
 refine Zy (d := 14) rfl (fun y => ?_) (fun y => ?_)
 ·have aZ := y
  have y := Zu y
  refine Za rfl rfl (Zg rfl) (Za rfl rfl (Zfr rfl rfl) (Za rfl rfl (Zx rfl rfl) (Ze (Zb (bh _ _ ?_)))))
  refine Zo rfl (fun z => ?_) (fun z => ?_)
  ·have a0 := z
   have z := Zu z
   refine Zp ?_
   refine Zb (aY _ _ ?_)
   refine Zf fun cK a1 => ?_
   refine Ye ?_
   refine Zaq ((bl (.slice Atv (((Zq s 32 []).take i).map rdT).length Ctv)) ++ [p]) 11 mixed rfl fun C B => ?_
   have bA := B.size
   have E := E.trans B
   refine dV 0 rfl rfl rfl (fun _ => Zk fa24_0 rfl) (dV 2 rfl rfl rfl (fun _ => Zg rfl) (dV 3 rfl rfl rfl (fun _ => Zg rfl) ?_))
   have aT := aF.ch0 B
   refine dT 4 rfl rfl rfl (Zfd aT Qd el30 sz9 rfl rfl rfl om fun bB j D a2 => ?_)
   refine dT 5 rfl rfl rfl (Zhg a2 (fun i hm => by rcases List.mem_append.1 hm with hm | hm; (have R := a _ hm; have a3 := q _ hm; omega); (have R := List.mem_singleton.1 hm; omega)) agg9 rfl rfl ?_)
   refine Zfj 1 6 (by kernel_rfl) ?_ ?_
   ·refine Xd rfl rfl rfl ?_
    have bi := o.ch0 B
    refine s_v (Zm bi.at_ agg22 rfl rfl) ?_
    refine ⟨(Ch.refl _ _), ?_⟩
    refine dO 6 (Xd rfl rfl rfl ?_)
    refine Step.call (Zt (xs := [.tmp 25]) fk10 rfl) (Zay j ) fun a4 bC ai => ?_
    obtain ⟨rfl, aj⟩ := ai
    have bD := aj.size
    have E := E.trans aj
    have S : Ch ((bl (.slice Atv (((Zq s 32 []).take i).map rdT).length Ctv)) ++ [p]) C bC := ((Ch.refl _ _).trans aj.of_nil)
    refine ⟨S, ?_⟩
    refine dO 7 (Xd rfl rfl rfl ?_)
    refine Yh (cs := Token.cs) (parts := [(0, .tmp 26)]) (⟨0, 0, 0, 0⟩ : Token) [(rdT j)] el22 sz33 zr33 Token.len (by decide) rfl rfl rfl (by decide) (by decide) rfl fun aG bE r T ak => ?_
    have bF := ak.size
    have E := E.trans ak
    obtain ⟨U, V, rfl, X, F⟩ := r.opn
    have Y : Ch ((bl (.slice Atv (((Zq s 32 []).take i).map rdT).length Ctv)) ++ [p]) C bE := (S.trans ak.of_nil)
    refine ⟨Y, ?_⟩
    refine dO 8 (Xd rfl rfl rfl ?_)
    have bG := ((m.ch0 B).ch0 aj).ch0 ak
    refine Xe (cs := Token.cs) el22 sz33 by33 zr33 rfl (by decide) Token.one bG r.ls rfl rfl bd bd a om fun aH bH t u n au => ?_
    have bI := au.size
    have E := E.step au (fun i hi => .inl (by have R := a _ hi; omega))
    obtain ⟨f, h, rfl, Z, G⟩ := t.opn
    have aa : Ch ((bl (.slice Atv (((Zq s 32 []).take i).map rdT).length Ctv)) ++ [p]) C bH := (Y.step au (fun i hm => by exact .inr (List.mem_append_left _ hm)))
    refine ⟨aa, ?_⟩
    refine dV 9 rfl rfl rfl (fun _ => Zk fa24_0 rfl) (dO 10 (Xd rfl rfl rfl ?_))
    have bJ := ((bi.ch0 aj).ch0 ak).ch au (fun hm => by exact c (by first | exact hm | exact x ▸ hm))
    refine Qa (off := 0) bJ sz22 rfl rfl rfl rfl fun a5 H av => ?_
    have bK := av.size
    have E := E.step av (lS om)
    replace H : Blk a5 p 24 [(.slice f ((((Zq s 32 []).take i).map rdT ++ [(rdT j)])).length h)] := H
    have aI : Ch ((bl (.slice Atv (((Zq s 32 []).take i).map rdT).length Ctv)) ++ [p]) C a5 := (aa.step av (fun i hm => by have x := List.mem_singleton.1 hm; exact .inr (by rw [x]; exact (List.mem_append_right _ (List.mem_singleton.2 rfl)))))
    refine ⟨aI, ?_⟩
    refine Xl (by kernel_rfl) ?_
    refine Yf (Zb (a1 _ _ (Zc (Za rfl rfl (Zg rfl) (Za rfl rfl (Yt om rfl rfl) (Za rfl rfl (Zd rfl) (Ze ?_)))))))
    have bL := t.ch av (fun g hg hm => by have x := List.mem_singleton.1 hm; rcases n with ea | ea; (rw [ea] at hg; exact c (by first | exact hg | exact x ▸ hg)); (rw [ea] at hg; have aJ := List.mem_singleton.1 hg; omega))
    have al : Ol Token.cs 33 4 a5 (.slice f ((((Zq s 32 []).take i).map rdT ++ [(rdT j)])).length h) (((Zq s 32 []).take (i + 1)).map rdT) := by
     have hx := bL
     exact hx.eq (Yx D)
    have bM := ((((l.ch0 B).ch0 aj).ch0 ak).ch au (fun hm => by have R := a _ hm; have a3 := q _ hm; omega)).ch av (nS om)
    have bN := (((aT.ch0 aj).ch0 ak).ch au (fun i hi => by have R := a _ hi; omega)).ch av (oS om)
    exact Zb (Exists.intro ((i + 1), (.slice f ((((Zq s 32 []).take i).map rdT ++ [(rdT j)])).length h)) ⟨⟨E, om, om, bM, bN, al, (Lo.down u om), H, (fun hm => by rcases n with ea | ea; (rw [ea] at hm; exact c (by first | exact hm | exact x ▸ hm)); (rw [ea] at hm; have aJ := List.mem_singleton.1 hm; omega))⟩, sC4 rfl rfl rfl rfl (sC1 rfl (Sub.nil _)), (by first | omega | (dsimp only; omega))⟩)
   refine Xd rfl rfl rfl ?_
   refine Step.call (Zt (xs := [.tmp 25]) fk10 rfl) (Zay j ) fun a4 bO ai => ?_
   obtain ⟨rfl, I⟩ := ai
   have bP := I.size
   have E := E.trans I
   have A : Ch ((bl (.slice Atv (((Zq s 32 []).take i).map rdT).length Ctv)) ++ [p]) C bO := ((Ch.refl _ _).trans I.of_nil)
   refine ⟨A, ?_⟩
   refine Zfj 1 7 (by kernel_rfl) ?_ ?_
   ·refine Xd rfl rfl rfl ?_
    have bj := (o.ch0 B).ch0 I
    refine s_v (Zm bj.at_ agg22 rfl rfl) ?_
    refine ⟨A, ?_⟩
    refine dO 7 (Xd rfl rfl rfl ?_)
    refine Yh (cs := Token.cs) (parts := [(0, .tmp 26)]) (⟨0, 0, 0, 0⟩ : Token) [(rdT j)] el22 sz33 zr33 Token.len (by decide) rfl rfl rfl (by decide) (by decide) rfl fun aG bQ r T am => ?_
    have bR := am.size
    have E := E.trans am
    obtain ⟨U, V, rfl, X, F⟩ := r.opn
    have ab : Ch ((bl (.slice Atv (((Zq s 32 []).take i).map rdT).length Ctv)) ++ [p]) C bQ := (A.trans am.of_nil)
    refine ⟨ab, ?_⟩
    refine dO 8 (Xd rfl rfl rfl ?_)
    have bS := ((m.ch0 B).ch0 I).ch0 am
    refine Xe (cs := Token.cs) el22 sz33 by33 zr33 rfl (by decide) Token.one bS r.ls rfl rfl bd bd a om fun aH bT t u n aw => ?_
    have bU := aw.size
    have E := E.step aw (fun i hi => .inl (by have R := a _ hi; omega))
    obtain ⟨f, h, rfl, Z, G⟩ := t.opn
    have ac : Ch ((bl (.slice Atv (((Zq s 32 []).take i).map rdT).length Ctv)) ++ [p]) C bT := (ab.step aw (fun i hm => by exact .inr (List.mem_append_left _ hm)))
    refine ⟨ac, ?_⟩
    refine dV 9 rfl rfl rfl (fun _ => Zk fa24_0 rfl) (dO 10 (Xd rfl rfl rfl ?_))
    have bV := (bj.ch0 am).ch aw (fun hm => by exact c (by first | exact hm | exact x ▸ hm))
    refine Qa (off := 0) bV sz22 rfl rfl rfl rfl fun a6 J ax => ?_
    have bW := ax.size
    have E := E.step ax (lS om)
    replace J : Blk a6 p 24 [(.slice f ((((Zq s 32 []).take i).map rdT ++ [(rdT j)])).length h)] := J
    have aK : Ch ((bl (.slice Atv (((Zq s 32 []).take i).map rdT).length Ctv)) ++ [p]) C a6 := (ac.step ax (fun i hm => by have x := List.mem_singleton.1 hm; exact .inr (by rw [x]; exact (List.mem_append_right _ (List.mem_singleton.2 rfl)))))
    refine ⟨aK, ?_⟩
    refine Xl (by kernel_rfl) ?_
    refine Yf (Zb (a1 _ _ (Zc (Za rfl rfl (Zg rfl) (Za rfl rfl (Yt om rfl rfl) (Za rfl rfl (Zd rfl) (Ze ?_)))))))
    have bX := t.ch ax (fun g hg hm => by have x := List.mem_singleton.1 hm; rcases n with ea | ea; (rw [ea] at hg; exact c (by first | exact hg | exact x ▸ hg)); (rw [ea] at hg; have aJ := List.mem_singleton.1 hg; omega))
    have an : Ol Token.cs 33 4 a6 (.slice f ((((Zq s 32 []).take i).map rdT ++ [(rdT j)])).length h) (((Zq s 32 []).take (i + 1)).map rdT) := by
     have hx := bX
     exact hx.eq (Yx D)
    have bY := ((((l.ch0 B).ch0 I).ch0 am).ch aw (fun hm => by have R := a _ hm; have a3 := q _ hm; omega)).ch ax (nS om)
    have bZ := (((aT.ch0 I).ch0 am).ch aw (fun i hi => by have R := a _ hi; omega)).ch ax (oS om)
    exact Zb (Exists.intro ((i + 1), (.slice f ((((Zq s 32 []).take i).map rdT ++ [(rdT j)])).length h)) ⟨⟨E, om, om, bY, bZ, an, (Lo.down u om), J, (fun hm => by rcases n with ea | ea; (rw [ea] at hm; exact c (by first | exact hm | exact x ▸ hm)); (rw [ea] at hm; have aJ := List.mem_singleton.1 hm; omega))⟩, sC4 rfl rfl rfl rfl (sC1 rfl (Sub.nil _)), (by first | omega | (dsimp only; omega))⟩)
   refine Xd rfl rfl rfl ?_
   refine Yh (cs := Token.cs) (parts := [(0, .tmp 26)]) (⟨0, 0, 0, 0⟩ : Token) [(rdT j)] el22 sz33 zr33 Token.len (by decide) rfl rfl rfl (by decide) (by decide) rfl fun aG b0 r T ao => ?_
   have b1 := ao.size
   have E := E.trans ao
   obtain ⟨U, V, rfl, X, F⟩ := r.opn
   have K : Ch ((bl (.slice Atv (((Zq s 32 []).take i).map rdT).length Ctv)) ++ [p]) C b0 := (A.trans ao.of_nil)
   refine ⟨K, ?_⟩
   refine dO 1 (Xd rfl rfl rfl ?_)
   have bk := ((o.ch0 B).ch0 I).ch0 ao
   refine s_v (Zm bk.at_ agg22 rfl rfl) ?_
   refine ⟨K, ?_⟩
   refine dO 8 (Xd rfl rfl rfl ?_)
   have b2 := ((m.ch0 B).ch0 I).ch0 ao
   refine Xe (cs := Token.cs) el22 sz33 by33 zr33 rfl (by decide) Token.one b2 r.ls rfl rfl bd bd a om fun aH b3 t u n ay => ?_
   have b4 := ay.size
   have E := E.step ay (fun i hi => .inl (by have R := a _ hi; omega))
   obtain ⟨f, h, rfl, Z, G⟩ := t.opn
   have ad : Ch ((bl (.slice Atv (((Zq s 32 []).take i).map rdT).length Ctv)) ++ [p]) C b3 := (K.step ay (fun i hm => by exact .inr (List.mem_append_left _ hm)))
   refine ⟨ad, ?_⟩
   refine dV 9 rfl rfl rfl (fun _ => Zk fa24_0 rfl) (dO 10 (Xd rfl rfl rfl ?_))
   have b5 := bk.ch ay (fun hm => by exact c (by first | exact hm | exact x ▸ hm))
   refine Qa (off := 0) b5 sz22 rfl rfl rfl rfl fun a7 L az => ?_
   have b6 := az.size
   have E := E.step az (lS om)
   replace L : Blk a7 p 24 [(.slice f ((((Zq s 32 []).take i).map rdT ++ [(rdT j)])).length h)] := L
   have aL : Ch ((bl (.slice Atv (((Zq s 32 []).take i).map rdT).length Ctv)) ++ [p]) C a7 := (ad.step az (fun i hm => by have x := List.mem_singleton.1 hm; exact .inr (by rw [x]; exact (List.mem_append_right _ (List.mem_singleton.2 rfl)))))
   refine ⟨aL, ?_⟩
   refine Xl (by kernel_rfl) ?_
   refine Yf (Zb (a1 _ _ (Zc (Za rfl rfl (Zg rfl) (Za rfl rfl (Yt om rfl rfl) (Za rfl rfl (Zd rfl) (Ze ?_)))))))
   have b7 := t.ch az (fun g hg hm => by have x := List.mem_singleton.1 hm; rcases n with ea | ea; (rw [ea] at hg; exact c (by first | exact hg | exact x ▸ hg)); (rw [ea] at hg; have aJ := List.mem_singleton.1 hg; omega))
   have ap : Ol Token.cs 33 4 a7 (.slice f ((((Zq s 32 []).take i).map rdT ++ [(rdT j)])).length h) (((Zq s 32 []).take (i + 1)).map rdT) := by
    have hx := b7
    exact hx.eq (Yx D)
   have b8 := ((((l.ch0 B).ch0 I).ch0 ao).ch ay (fun hm => by have R := a _ hm; have a3 := q _ hm; omega)).ch az (nS om)
   have b9 := (((aT.ch0 I).ch0 ao).ch ay (fun i hi => by have R := a _ hi; omega)).ch az (oS om)
   exact Zb (Exists.intro ((i + 1), (.slice f ((((Zq s 32 []).take i).map rdT ++ [(rdT j)])).length h)) ⟨⟨E, om, om, b8, b9, ap, (Lo.down u om), L, (fun hm => by rcases n with ea | ea; (rw [ea] at hm; exact c (by first | exact hm | exact x ▸ hm)); (rw [ea] at hm; have aJ := List.mem_singleton.1 hm; omega))⟩, sC4 rfl rfl rfl rfl (sC1 rfl (Sub.nil _)), (by first | omega | (dsimp only; omega))⟩)
  have a0 := z
  have z := Zv z
  refine Xj (Yd (Yd (Xc ?_)))
  refine Zb (H9 _ _ ?_)
  refine Zf fun cL bm => ?_
  refine Zf fun cM ca => ?_
  refine Zc (Za rfl rfl (Zs o.at_ agg24 sz24 rfl) (Zr rfl rfl ?_))
  refine Step.call (Zt (xs := [.tmp 30]) fk11 rfl) (Qj m.ls ) fun a8 cN aq => ?_
  obtain ⟨rfl, aA⟩ := aq
  have cb := aA.size
  have E := E.trans aA
  refine Za rfl rfl (Qn rfl) (Ze (Zb (ca _ _ ?_)))
  refine Zo rfl (fun b => ?_) (fun b => ?_)
  ·have a9 := b
   have b := Ys b
   refine Zf fun cO cc => ?_
   refine Zc (Za rfl rfl (Yj (parts := []) (cells := [(.slice none 0 0)]) zr24 pl24 rfl rfl) (Zr rfl rfl ?_))
   have cd := l.ch0 aA
   refine Yc (off := 0) 1 cd sz24 rfl (us := [(.slice none 0 0)]) rfl rfl rfl rfl fun ba M bn => ?_
   have ce := bn.size
   have E := E.step bn (lS om)
   replace M : Blk ba af 24 [(.slice none 0 0)] := M
   refine Za rfl rfl (Zd rfl) (Ze (Zb (cc _ _ ?_)))
   refine Zl (Zi ?_)
   clear aY bm
   have aM : Ol Token.cs 33 4 ba (.slice none 0 0) ((Xf s).1) := by
    have hx := Ol.nil (cs := Token.cs) (e := 33) (k := 4) ba
    first | (rw [Zbq (congrArg (List.map rdT) (Yl om om)) b]; exact hx) | (rw [Zat (congrArg (List.map rdT) (Yl om om)) b]; exact hx)
   exact Zh [_, _] (Yb M rfl agg24 sz24 ⟨rfl, trivial⟩) ⟨(.slice none 0 0), (congrArg (fun zq => (Value.tuple #[.agg #[(.slice none 0 0)], .bool zq])) (by first | rw [Zbq (congrArg (List.map rdT) (Yl om om)) b] | rw [Zat (congrArg (List.map rdT) (Yl om om)) b])), aM, (Lo.nil _), E⟩
  have a9 := b
  have b := Yr b
  refine Zp ?_
  refine Zb (bm _ _ ?_)
  refine Zf fun cP cf => ?_
  refine Zc ?_
  have cg := o.ch0 aA
  refine Za rfl rfl (Zs cg.at_ agg24 sz24 rfl) (Zr rfl rfl ?_)
  have ci := l.ch0 aA
  refine Yc (off := 0) 1 ci sz24 rfl (us := [(.slice Atv (((Zq s 32 []).take i).map rdT).length Ctv)]) rfl rfl rfl rfl fun bp O bb => ?_
  have cj := bb.size
  have E := E.step bb (lS om)
  replace O : Blk bp af 24 [(.slice Atv (((Zq s 32 []).take i).map rdT).length Ctv)] := O
  refine Za rfl rfl (Zd rfl) (Ze (Zb (cf _ _ ?_)))
  refine Zl ?_
  have ck := (m.ch0 aA).ch bb (dS a q om)
  have aN : Ol Token.cs 33 4 bp (.slice Atv (((Zq s 32 []).take i).map rdT).length Ctv) ((Xf s).1) := by
   have hx := ck
   first | (rw [Zbq (congrArg (List.map rdT) (Yl om om)) b]; exact hx) | (rw [Zat (congrArg (List.map rdT) (Yl om om)) b]; exact hx)
  exact Zh [_, _] (Yb O rfl agg24 sz24 ⟨rfl, trivial⟩) ⟨(.slice Atv (((Zq s 32 []).take i).map rdT).length Ctv), (congrArg (fun zq => (Value.tuple #[.agg #[(.slice Atv (((Zq s 32 []).take i).map rdT).length Ctv)], .bool zq])) (by first | rw [Zbq (congrArg (List.map rdT) (Yl om om)) b] | rw [Zat (congrArg (List.map rdT) (Yl om om)) b])), aN, (Lo.down a om), E⟩
 have aZ := y
 have y := Zv y
 refine Zj rfl rfl (Zj rfl rfl (Za rfl rfl (Ya rfl rfl) (Ze (Zb (bh _ _ ?_)))))
 refine Zbf rfl ?_
 refine Xj (Yd (Yd (Xc ?_)))
 refine Zb (H9 _ _ ?_)
 refine Zf fun cQ bq => ?_
 refine Zf fun cR cl => ?_
 refine Zc (Za rfl rfl (Zs o.at_ agg24 sz24 rfl) (Zr rfl rfl ?_))
 refine Step.call (Zt (xs := [.tmp 30]) fk11 rfl) (Qj m.ls ) fun a8 cS aq => ?_
 obtain ⟨rfl, aB⟩ := aq
 have cm := aB.size
 have E := E.trans aB
 refine Za rfl rfl (Qn rfl) (Ze (Zb (cl _ _ ?_)))
 refine Zo rfl (fun b => ?_) (fun b => ?_)
 ·have bc := b
  have b := Ys b
  refine Zf fun cT cn => ?_
  refine Zc (Za rfl rfl (Yj (parts := []) (cells := [(.slice none 0 0)]) zr24 pl24 rfl rfl) (Zr rfl rfl ?_))
  have co := l.ch0 aB
  refine Yc (off := 0) 1 co sz24 rfl (us := [(.slice none 0 0)]) rfl rfl rfl rfl fun be P br => ?_
  have cp := br.size
  have E := E.step br (lS om)
  replace P : Blk be af 24 [(.slice none 0 0)] := P
  refine Za rfl rfl (Zd rfl) (Ze (Zb (cn _ _ ?_)))
  refine Zl (Zi ?_)
  clear aY bq
  have aO : Ol Token.cs 33 4 be (.slice none 0 0) ((Xf s).1) := by
   have hx := Ol.nil (cs := Token.cs) (e := 33) (k := 4) be
   first | (rw [Zbq (congrArg (List.map rdT) (Yl om om)) b]; exact hx) | (rw [Zat (congrArg (List.map rdT) (Yl om om)) b]; exact hx)
  exact Zh [_, _] (Yb P rfl agg24 sz24 ⟨rfl, trivial⟩) ⟨(.slice none 0 0), (congrArg (fun zq => (Value.tuple #[.agg #[(.slice none 0 0)], .bool zq])) (by first | rw [Zbq (congrArg (List.map rdT) (Yl om om)) b] | rw [Zat (congrArg (List.map rdT) (Yl om om)) b])), aO, (Lo.nil _), E⟩
 have bc := b
 have b := Yr b
 refine Zp ?_
 refine Zb (bq _ _ ?_)
 refine Zf fun cU cq => ?_
 refine Zc ?_
 have cr := o.ch0 aB
 refine Za rfl rfl (Zs cr.at_ agg24 sz24 rfl) (Zr rfl rfl ?_)
 have ct := l.ch0 aB
 refine Yc (off := 0) 1 ct sz24 rfl (us := [(.slice Atv (((Zq s 32 []).take i).map rdT).length Ctv)]) rfl rfl rfl rfl fun bs Q bf => ?_
 have cu := bf.size
 have E := E.step bf (lS om)
 replace Q : Blk bs af 24 [(.slice Atv (((Zq s 32 []).take i).map rdT).length Ctv)] := Q
 refine Za rfl rfl (Zd rfl) (Ze (Zb (cq _ _ ?_)))
 refine Zl ?_
 have cv := (m.ch0 aB).ch bf (dS a q om)
 have aP : Ol Token.cs 33 4 bs (.slice Atv (((Zq s 32 []).take i).map rdT).length Ctv) ((Xf s).1) := by
  have hx := cv
  first | (rw [Zbq (congrArg (List.map rdT) (Yl om om)) b]; exact hx) | (rw [Zat (congrArg (List.map rdT) (Yl om om)) b]; exact hx)
 exact Zh [_, _] (Yb Q rfl agg24 sz24 ⟨rfl, trivial⟩) ⟨(.slice Atv (((Zq s 32 []).take i).map rdT).length Ctv), (congrArg (fun zq => (Value.tuple #[.agg #[(.slice Atv (((Zq s 32 []).take i).map rdT).length Ctv)], .bool zq])) (by first | rw [Zbq (congrArg (List.map rdT) (Yl om om)) b] | rw [Zat (congrArg (List.map rdT) (Yl om om)) b])), aP, (Lo.down a om), E⟩

/-- laws.FnExactParseExpr -/
theorem Zab {w : World} (s : List UInt8) (hG : GS Tryz.prog 0 w) :
 Ctr Tryz.prog 3 #[(bst s)] w (fun v w' => v = .bool (true) ∧ Ch [] w w') := by
 have E := Ch.refl [] w
 have sl := Zhq s
 refine Zw (N := 66) (vs0 := [(bst s)]) Tryz.func3 rfl rfl rfl ?_
 refine Zf fun K1 H1 => ?_
 refine Zc (Za rfl rfl (Zd rfl) (Ze (Zb (H1 _ _ ?_))))
 refine Zf fun K2 H2 => ?_
 refine Zf fun K3 H3 => ?_
 refine Zc (Za rfl rfl (Zg rfl) (Za rfl rfl (Zfi un9 rfl) (Za rfl rfl (Zjj rfl rfl) (Ze (Zb (H3 _ _ ?_))))))
 refine Zo rfl (fun l => ?_) (fun l => ?_)
 ·have aA := l
  have l := Zu l
  refine Zf fun K5 H5 => ?_
  refine Zc (Za rfl rfl (Zd rfl) (Ze (Zb (H5 _ _ ?_))))
  refine Zl (Zi ?_)
  exact Zh [_] ⟨rfl, trivial⟩ ⟨congrArg Value.bool (by first | rfl | (exfalso; omega) | (exfalso; revert l; simp; done) | (exfalso; revert l; simp; omega)), E⟩
 have aA := l
 have l := Zv l
 refine Zp ?_
 refine Zb (H2 _ _ ?_)
 refine Zf fun K6 H6 => ?_
 refine Zc (Za rfl rfl (Zg rfl) (Zr rfl rfl ?_))
 refine Step.call (Zt (xs := [.tmp 15]) fk4 rfl) (Zbt s om) fun aB W7 ae => ?_
 obtain ⟨V, rfl, f, c, C7⟩ := ae
 have bw := C7.size
 have E := E.trans C7
 obtain ⟨p, q, rfl, K, e⟩ := f.opn
 refine Za rfl rfl (Zg rfl) (Za rfl rfl (Yi rfl rfl) (Za rfl rfl (Yi rfl rfl) (Zr rfl rfl ?_)))
 refine Xg zr24 fun am W8 X C8 bx => ?_
 have bz := C8.size
 have E := E.trans C8
 have bA := X.lt
 replace X : Blk W8 am 24 [(.slice none 0 0)] := X
 refine Zr rfl rfl ?_
 refine Yc (off := 0) 1 X sz24 rfl (us := [(.slice p ((Xf s).1).length q)]) rfl rfl rfl rfl fun W9 B C9 => ?_
 have bB := C9.size
 have E := E.step C9 (lS om)
 replace B : Blk W9 am 24 [(.slice p ((Xf s).1).length q)] := B
 refine Za rfl rfl (Zd rfl) (Ze (Zb (H6 _ _ ?_)))
 refine Zf fun bC aC => ?_
 refine Zc (Za rfl rfl (Zg rfl) (Zr rfl rfl ?_))
 refine Step.call (Zt (xs := [.tmp 20]) fk5 rfl) (Qv s (hG.ch E) om) fun aD bD af => ?_
 obtain ⟨Y, rfl, h, a, Z⟩ := af
 have aE := Z.size
 have E := E.trans Z
 obtain ⟨r, t, rfl, L, b⟩ := h.opn
 refine Za rfl rfl (Zg rfl) (Za rfl rfl (Yi rfl rfl) (Za rfl rfl (Yi rfl rfl) (Zr rfl rfl ?_)))
 refine Xg zr24 fun an aF aa M bE => ?_
 have aG := M.size
 have E := E.trans M
 have bF := aa.lt
 replace aa : Blk aF an 24 [(.slice none 0 0)] := aa
 refine Zr rfl rfl ?_
 refine Yc (off := 0) 1 aa sz24 rfl (us := [(.slice r ((Xf s).1).length t)]) rfl rfl rfl rfl fun aH A O => ?_
 have aI := O.size
 have E := E.step O (lS om)
 replace A : Blk aH an 24 [(.slice r ((Xf s).1).length t)] := A
 refine Za rfl rfl (Zd rfl) (Ze (Zb (aC _ _ ?_)))
 refine Zf fun bG aJ => ?_
 refine Zf fun bH ao => ?_
 refine Zc (Za rfl rfl (Zs A.at_ agg24 sz24 rfl) ?_)
 have ap := ((B.ch0 Z).ch0 M).ch O (nS om)
 refine Za rfl rfl (Zs ap.at_ agg24 sz24 rfl) (Zr rfl rfl ?_)
 have aq := (h.ch0 M).ch O (dS a b om)
 have au := ((((f.ch0 C8).ch C9 (dS c e om)).ch0 Z).ch0 M).ch O (dS c e om)
 refine Step.call (Zt (xs := [.tmp 24, .tmp 25]) fk6 rfl) (Zaz aq.ls au.ls ) fun aK bI ag => ?_
 obtain ⟨rfl, H⟩ := ag
 have aL := H.size
 have E := E.trans H
 refine Za rfl rfl (Qn rfl) (Za rfl rfl (Zg rfl) ?_)
 refine Zy (d := 28) rfl (fun m => ?_) (fun m => ?_)
 ·have P := m
  have m := Zv (Ys m)
  refine Zj rfl rfl (Zj rfl rfl (Zj rfl rfl (Za rfl rfl (Zx rfl rfl) (Ze (Zb (ao _ _ ?_))))))
  refine Yn rfl ?_
  refine Zf fun bJ aM => ?_
  refine Zc (Za rfl rfl (Zd rfl) (Ze (Zb (aM _ _ ?_))))
  refine Zl (Zi ?_)
  exact Zh [_] ⟨rfl, trivial⟩ ⟨congrArg Value.bool (by first | rfl | (exfalso; omega) | (exfalso; revert m; simp; done) | (exfalso; revert m; simp; omega)), E⟩
 have P := m
 have m := Zu (Yr m)
 refine Za rfl rfl (Zg rfl) (Za rfl rfl (Zg rfl) (Za rfl rfl (Zjf un4 rfl rfl) (Za rfl rfl (Ya rfl rfl) (Ze (Zb (ao _ _ ?_))))))
 refine Zo rfl (fun n => ?_) (fun n => ?_)
 ·have Q := n
  have n := bf_e (Ys n)
  refine Zf fun bK aN => ?_
  refine Zc (Za rfl rfl (Zd rfl) (Ze (Zb (aN _ _ ?_))))
  refine Zl (Zi ?_)
  exact Zh [_] ⟨rfl, trivial⟩ ⟨congrArg Value.bool (by first | rfl | (exfalso; omega) | (exfalso; revert n; simp; done) | (exfalso; revert n; simp; omega)), E⟩
 have Q := n
 have n := bt_e (Yr n)
 refine Zp ?_
 refine Zb (aJ _ _ ?_)
 refine Zf fun bL aO => ?_
 refine Zc (Za rfl rfl (Zd rfl) (Ze (Zb (aO _ _ ?_))))
 refine Zf fun bM aP => ?_
 refine Zc ?_
 have av := A.ch0 H
 refine Za rfl rfl (Zs av.at_ agg24 sz24 rfl) (Za rfl rfl (Zg rfl) (Zr rfl rfl ?_))
 have aQ := aq.ch0 H
 refine Step.call (Zt (xs := [.tmp 33, .tmp 34]) fk7 rfl) (Zcm aQ _ om (by first | omega | (simp <;> omega))) fun aR bN D => ?_
 obtain ⟨rfl, D, R⟩ := D
 have aS := R.size
 have E := E.step R (fun i hi => .inl (by have ah := a _ hi; omega))
 refine Za rfl rfl (Zd rfl) (Ze (Zb (aP _ _ ?_)))
 refine Zf fun bO aT => ?_
 refine Zc (Za rfl rfl (Zd rfl) (Ze (Zb (aT _ _ ?_))))
 refine Zf fun bP aU => ?_
 refine Zc ?_
 have aw := av.ch R (fun hm => by have ah := a _ hm; have ax := b _ hm; omega)
 refine Za rfl rfl (Zs aw.at_ agg24 sz24 rfl) (Za rfl rfl (Zg rfl) (Zr rfl rfl ?_))
 refine Step.call (Zt (xs := [.tmp 36, .tmp 37]) fk8 rfl) (Zah D.ls _ om (by first | omega | (simp <;> omega))) fun aV bQ ai => ?_
 obtain ⟨rfl, I⟩ := ai
 have aW := I.size
 have E := E.trans I
 refine Za rfl rfl (Zd rfl) (Ze (Zb (aU _ _ ?_)))
 refine Zf fun bR aX => ?_
 refine Zf fun bS aY => ?_
 refine Zc (Za rfl rfl (Zg rfl) (Za rfl rfl (Xp rfl rfl) (Ze (Zb (aY _ _ ?_)))))
 refine Zo rfl (fun o => ?_) (fun o => ?_)
 ·have S := o
  have o := Zu o
  refine Zf fun bT aZ => ?_
  refine Zc (Za rfl rfl (Zd rfl) (Ze (Zb (aZ _ _ ?_))))
  refine Zl (Zi ?_)
  exact Zh [_] ⟨rfl, trivial⟩ ⟨congrArg Value.bool (by first | rfl | (exfalso; omega) | (exfalso; revert o; simp; done) | (exfalso; revert o; simp; omega)), E⟩
 have S := o
 have o := Zv o
 refine Zp ?_
 refine Zb (aX _ _ ?_)
 refine Zf fun bU a0 => ?_
 refine Zf fun bV a1 => ?_
 refine Zc (Za rfl rfl (Zg rfl) (Za rfl rfl (Zg rfl) (Za rfl rfl (Yp rfl rfl) (Ze (Zb (a1 _ _ ?_))))))
 refine Zo rfl (fun j => ?_) (fun j => ?_)
 ·have T := j
  have j := Zv (Ys j)
  refine Zf fun bW a2 => ?_
  refine Zc (Za rfl rfl (Zd rfl) (Ze (Zb (a2 _ _ ?_))))
  refine Zl (Zi ?_)
  exact Zh [_] ⟨rfl, trivial⟩ ⟨congrArg Value.bool (by first | rfl | (exfalso; omega) | (exfalso; revert j; simp; done) | (exfalso; revert j; simp; omega)), E⟩
 have T := j
 have j := Zu (Yr j)
 refine Zp ?_
 refine Zb (a0 _ _ ?_)
 refine Zf fun bX a3 => ?_
 refine Zc (Za rfl rfl (Zg rfl) (Zr rfl rfl ?_))
 refine Step.call (Zt (xs := [.tmp 45]) fk5 rfl) (Qv s (hG.ch E) om) fun a4 bY aj => ?_
 obtain ⟨ab, rfl, k, u, J⟩ := aj
 have a5 := J.size
 have E := E.trans J
 obtain ⟨x, y, rfl, U, z⟩ := k.opn
 refine Za rfl rfl (Zg rfl) (Za rfl rfl (Yi rfl rfl) (Za rfl rfl (Yi rfl rfl) (Zr rfl rfl ?_)))
 refine Xg zr24 fun ay a6 ac F bZ => ?_
 have a7 := F.size
 have E := E.trans F
 have b0 := ac.lt
 replace ac : Blk a6 ay 24 [(.slice none 0 0)] := ac
 refine Zr rfl rfl ?_
 refine Yc (off := 0) 1 ac sz24 rfl (us := [(.slice x ((Xf s).1).length y)]) rfl rfl rfl rfl fun a8 C G => ?_
 have a9 := G.size
 have E := E.step G (lS om)
 replace C : Blk a8 ay 24 [(.slice x ((Xf s).1).length y)] := C
 refine Za rfl rfl (Zd rfl) (Ze (Zb (a3 _ _ ?_)))
 refine Zf fun b1 ba => ?_
 refine Zf fun b2 bb => ?_
 refine Zc (Za rfl rfl (Zs C.at_ agg24 sz24 rfl) ?_)
 have bc := (((((ap.ch0 H).ch R (fun hm => by have ah := a _ hm; have ax := b _ hm; omega)).ch0 I).ch0 J).ch0 F).ch G (nS om)
 refine Za rfl rfl (Zs bc.at_ agg24 sz24 rfl) (Zr rfl rfl ?_)
 have be := (k.ch0 F).ch G (dS u z om)
 have bf := (((((au.ch0 H).ch R (fun g hg hm => by have ah := a _ hm; have ax := b _ hm; have b3 := c _ hg; have b4 := e _ hg; omega)).ch0 I).ch0 J).ch0 F).ch G (dS c e om)
 refine Step.call (Zt (xs := [.tmp 49, .tmp 50]) fk6 rfl) (Zaz be.ls bf.ls ) fun bg b5 ak => ?_
 obtain ⟨rfl, ad⟩ := ak
 have bh := ad.size
 have E := E.trans ad
 refine Za rfl rfl (Qn rfl) (Za rfl rfl (Zg rfl) ?_)
 refine Zhl (d := 53) rfl P ?_
 refine Za rfl rfl (Zg rfl) (Za rfl rfl (Zg rfl) (Za rfl rfl (Zjf un4 rfl rfl) (Za rfl rfl (Ya rfl rfl) (Ze (Zb (bb _ _ ?_))))))
 refine Zdo rfl Q ?_
 refine Zp ?_
 refine Zb (ba _ _ ?_)
 refine Zf fun b6 bi => ?_
 refine Zc (Za rfl rfl (Zd rfl) (Ze (Zb (bi _ _ ?_))))
 refine Zf fun b7 bj => ?_
 refine Zc ?_
 have bk := ((((aw.ch0 I).ch0 J).ch0 F).ch G (nS om)).ch0 ad
 refine Za rfl rfl (Zs bk.at_ agg24 sz24 rfl) (Za rfl rfl (Zg rfl) (Zr rfl rfl ?_))
 have bm := ((((D.ch0 I).ch0 J).ch0 F).ch G (dS a b om)).ch0 ad
 refine Step.call (Zt (xs := [.tmp 58, .tmp 59]) fk8 rfl) (Zah bm.ls _ om (by first | omega | (simp <;> omega))) fun bn b8 al => ?_
 obtain ⟨rfl, az⟩ := al
 have bp := az.size
 have E := E.trans az
 refine Za rfl rfl (Zd rfl) (Ze (Zb (bj _ _ ?_)))
 refine Zf fun b9 bq => ?_
 refine Zf fun ca br => ?_
 refine Zc (Za rfl rfl (Zg rfl) (Za rfl rfl (Xp rfl rfl) (Ze (Zb (br _ _ ?_)))))
 refine Zdo rfl S ?_
 refine Zp ?_
 refine Zb (bq _ _ ?_)
 refine Zf fun cb bs => ?_
 refine Zf fun cc bu => ?_
 refine Zc (Za rfl rfl (Zg rfl) (Za rfl rfl (Zg rfl) (Za rfl rfl (Yp rfl rfl) (Ze (Zb (bu _ _ ?_))))))
 refine Zdo rfl T ?_
 refine Zp ?_
 refine Zb (bs _ _ ?_)
 refine Zf fun cd bv => ?_
 refine Zc (Za rfl rfl (Zd rfl) (Ze (Zb (bv _ _ ?_))))
 refine Zl ?_
 exact Zh [_] ⟨rfl, trivial⟩ ⟨congrArg Value.bool (by first | rfl | (exfalso; omega) | (exfalso; revert j; simp; done) | (exfalso; revert j; simp; omega)), E⟩

end Go.Proofs.YtbnnkffdhnefnaaGreatDoor
