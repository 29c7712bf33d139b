/- Walks of functions that FnExactParsePairs reaches: what each returns, and that it leaves the memory that was there alone. -/
import Derived.Test.YtbnnkffdhnefnaaDoorLibA
import Derived.Test.YtbnnkffdhnefnaaDoorProg
namespace Go.Proofs.YtbnnkffdhnefnaaDoor
open Go.KLib Go.Shelf
set_option maxHeartbeats 1000000
set_option maxRecDepth 20000
set_option linter.unusedVariables false
set_option linter.unusedSimpArgs false
namespace TExactParsePairs
theorem agg3 : Xs Tryd.prog 3 = some false := by kernel_rfl
theorem agg57 : Xs Tryd.prog 57 = some true := by kernel_rfl
theorem agg9 : Xs Tryd.prog 9 = some false := by kernel_rfl
theorem by57 : Zam Tryd.prog 57 = some 16 := by kernel_rfl
theorem by9 : Zam Tryd.prog 9 = some 16 := by kernel_rfl
theorem el25 : elB Tryd.prog 25 = some 57 := by kernel_rfl
theorem el60 : elB Tryd.prog 60 = some 9 := by kernel_rfl
theorem fa57_0 : faB Tryd.prog 57 0 = some 0 := by kernel_rfl
theorem fa57_1 : faB Tryd.prog 57 1 = some 1 := by kernel_rfl
theorem fk10 : fnB Tryd.prog 10 = true := by kernel_rfl
theorem fk11 : fnB Tryd.prog 11 = true := by kernel_rfl
theorem fk12 : fnB Tryd.prog 12 = true := by kernel_rfl
theorem fk13 : fnB Tryd.prog 13 = true := by kernel_rfl
theorem fk14 : fnB Tryd.prog 14 = true := by kernel_rfl
theorem fk15 : fnB Tryd.prog 15 = true := by kernel_rfl
theorem fk26 : fnB Tryd.prog 26 = true := by kernel_rfl
theorem fk29 : fnB Tryd.prog 29 = true := by kernel_rfl
theorem fk30 : fnB Tryd.prog 30 = true := by kernel_rfl
theorem fk31 : fnB Tryd.prog 31 = true := by kernel_rfl
theorem fk32 : fnB Tryd.prog 32 = true := by kernel_rfl
theorem fk33 : fnB Tryd.prog 33 = true := by kernel_rfl
theorem fk34 : fnB Tryd.prog 34 = true := by kernel_rfl
theorem fk52 : fnB Tryd.prog 52 = true := by kernel_rfl
theorem fk53 : fnB Tryd.prog 53 = true := by kernel_rfl
theorem fk54 : fnB Tryd.prog 54 = true := by kernel_rfl
theorem fk55 : fnB Tryd.prog 55 = true := by kernel_rfl
theorem fk56 : fnB Tryd.prog 56 = true := by kernel_rfl
theorem fk71 : fnB Tryd.prog 71 = true := by kernel_rfl
theorem mixed : Tryd.prog.follows .mixedOrders = true := by kernel_rfl
theorem pl57 : Zbu Tryd.prog 57 = some [(0, 1), (1, 1)] := by kernel_rfl
theorem sz3 : Zs Tryd.prog 3 = some 1 := by kernel_rfl
theorem sz57 : Zs Tryd.prog 57 = some 2 := by kernel_rfl
theorem sz9 : Zs Tryd.prog 9 = some 1 := by kernel_rfl
theorem un3 : Tryd.prog.underlying 3 = some (.int .i64) := by kernel_rfl
theorem un4 : Tryd.prog.underlying 4 = some (.bool) := by kernel_rfl
theorem un5 : Tryd.prog.underlying 5 = some (.int .u8) := by kernel_rfl
theorem un9 : Tryd.prog.underlying 9 = some (.string) := by kernel_rfl
theorem zr57 : Xl Tryd.prog 57 = some (.agg #[.int .i64 0, .int .i64 0]) := by kernel_rfl
theorem zr9 : Xl Tryd.prog 9 = some (.string ⟨#[]⟩) := by kernel_rfl
end TExactParsePairs
open TExactParsePairs

/-- impl.compareInts -/
theorem Xq {w : World} (a : Int) (b : Int) :
 Ctr Tryd.prog 71 #[(.int .i64 a), (.int .i64 b)] w (fun v w' => v = .int .i64 (cmpI a b) ∧ Ch [] w w') := by
 have E := Ch.refl [] w
 refine Zx (N := 13) (vs0 := [(.int .i64 a), (.int .i64 b)]) Tryd.func71 rfl rfl rfl ?_
 refine Zg fun K1 H1 => ?_
 refine Zc (Za rfl rfl (Zd rfl) (Zf (Zb (H1 _ _ ?_))))
 refine Zg fun K2 H2 => ?_
 refine Ya ?_
 refine Zg fun K3 H3 => ?_
 refine Zc (Za rfl rfl (Ze rfl) (Za rfl rfl (Ze rfl) (Za rfl rfl (Xt rfl rfl) (Za rfl rfl (Zd rfl) (Zf (Zb (H3 _ _ ?_)))))))
 refine Zo rfl (fun c => ?_) (fun c => ?_)
 ·have e := c
  have c := Yq c
  refine Zg fun K5 H5 => ?_
  refine Zc (Za rfl rfl (Zd rfl) (Zf (Zb (H5 _ _ ?_))))
  refine Zl (Zp (Zi ?_))
  exact Zh [_] ⟨rfl, trivial⟩ ⟨congrArg (Value.int .i64) (by unfold cmpI; repeat (first | rw [if_pos om] | rw [if_neg om])), E⟩
 have e := c
 have c := Yr c
 refine Zg fun K6 H6 => ?_
 refine Zc (Za rfl rfl (Ze rfl) (Za rfl rfl (Ze rfl) (Za rfl rfl (Zfc rfl rfl) (Za rfl rfl (Zd rfl) (Zf (Zb (H6 _ _ ?_)))))))
 refine Zo rfl (fun d => ?_) (fun d => ?_)
 ·have f := d
  have d := Yq d
  refine Zg fun K8 H8 => ?_
  refine Zc (Za rfl rfl (Zd rfl) (Zf (Zb (H8 _ _ ?_))))
  refine Zl (Zp (Zi ?_))
  exact Zh [_] ⟨rfl, trivial⟩ ⟨congrArg (Value.int .i64) (by unfold cmpI; repeat (first | rw [if_pos om] | rw [if_neg om])), E⟩
 have f := d
 have d := Yr d
 refine Zm ?_
 refine Yd (Zb (H2 _ _ ?_))
 refine Zg fun K9 H9 => ?_
 refine Zc (Za rfl rfl (Zd rfl) (Zf (Zb (H9 _ _ ?_))))
 refine Zl ?_
 exact Zh [_] ⟨rfl, trivial⟩ ⟨congrArg (Value.int .i64) (by unfold cmpI; repeat (first | rw [if_pos om] | rw [if_neg om])), E⟩

/-- impl.comparePairs -/
theorem Zab {w : World} (a : Pair) (b : Pair) :
 Ctr Tryd.prog 55 #[(.agg #[(.int .i64 a.f), (.int .i64 a.t)]), (.agg #[(.int .i64 b.f), (.int .i64 b.t)])] w (fun v w' => v = .int .i64 (cmpP a b) ∧ Ch [] w w') := by
 have E := Ch.refl [] w
 refine Zx (N := 20) (vs0 := [(.agg #[(.int .i64 a.f), (.int .i64 a.t)]), (.agg #[(.int .i64 b.f), (.int .i64 b.t)])]) Tryd.func55 rfl rfl rfl ?_
 refine Zg fun K1 H1 => ?_
 refine Zc (Ye rfl rfl ?_)
 refine Zdj rfl fun j W2 e C2 q => ?_
 have r := C2.size
 have E := E.trans C2
 have s := e.lt
 replace e : Blk W2 j 57 [(.int .i64 a.f), (.int .i64 a.t)] := e
 refine Ye rfl rfl ?_
 refine Zdj rfl fun k W3 d C3 u => ?_
 have x := C3.size
 have E := E.trans C3
 have y := d.lt
 replace d : Blk W3 k 57 [(.int .i64 b.f), (.int .i64 b.t)] := d
 refine Za rfl rfl (Zd rfl) (Zf (Zb (H1 _ _ ?_)))
 refine Zg fun K4 H4 => ?_
 refine Zg fun K5 H5 => ?_
 refine Zc (Za rfl rfl (Zk fa57_0 rfl) ?_)
 have F6 := e.ch0 C3
 refine Za rfl rfl (Zt F6.at_ agg3 rfl rfl) (Za rfl rfl (Zk fa57_0 rfl) (Za rfl rfl (Zt d.at_ agg3 rfl rfl) (Za rfl rfl (Zbj rfl rfl) (Zf (Zb (H5 _ _ ?_))))))
 refine Zo rfl (fun c => ?_) (fun c => ?_)
 ·have l := c
  have c := Yr (Xx c)
  refine Zg fun K8 H8 => ?_
  refine Zc (Za rfl rfl (Zk fa57_0 rfl) (Za rfl rfl (Zt F6.at_ agg3 rfl rfl) (Za rfl rfl (Zk fa57_0 rfl) (Za rfl rfl (Zt d.at_ agg3 rfl rfl) (Ye rfl rfl ?_)))))
  refine Step.call (Zv (xs := [.tmp 11, .tmp 13]) fk71 rfl) (Xq _ _ ) fun m W9 g => ?_
  obtain ⟨rfl, C9⟩ := g
  have z := C9.size
  have E := E.trans C9
  refine Za rfl rfl (Zd rfl) (Zf (Zb (H8 _ _ ?_)))
  refine Zl (Zi ?_)
  exact Zh [_] ⟨rfl, trivial⟩ ⟨congrArg (Value.int .i64) (by unfold cmpP; rw [if_neg c]), E⟩
 have l := c
 have c := Yq (Xy c)
 refine Zm ?_
 refine Zb (H4 _ _ ?_)
 refine Zg fun A n => ?_
 refine Zc (Za rfl rfl (Zk fa57_1 rfl) (Za rfl rfl (Zt F6.at_ agg3 rfl rfl) (Za rfl rfl (Zk fa57_1 rfl) (Za rfl rfl (Zt d.at_ agg3 rfl rfl) (Ye rfl rfl ?_)))))
 refine Step.call (Zv (xs := [.tmp 16, .tmp 18]) fk71 rfl) (Xq _ _ ) fun o B h => ?_
 obtain ⟨rfl, i⟩ := h
 have p := i.size
 have E := E.trans i
 refine Za rfl rfl (Zd rfl) (Zf (Zb (n _ _ ?_)))
 refine Zl ?_
 exact Zh [_] ⟨rfl, trivial⟩ ⟨congrArg (Value.int .i64) (by unfold cmpP; rw [if_pos c]), E⟩

/-- impl.within -/
theorem Zae {w : World} (n : Int) (a : Int) (b : Int) :
 Ctr Tryd.prog 54 #[(.int .i64 n), (.int .i64 a), (.int .i64 b)] w (fun v w' => v = .bool (decide (a ≤ n ∧ n ≤ b)) ∧ Ch [] w w') := by
 have E := Ch.refl [] w
 refine Zx (N := 15) (vs0 := [(.int .i64 n), (.int .i64 a), (.int .i64 b)]) Tryd.func54 rfl rfl rfl ?_
 refine Zg fun K1 H1 => ?_
 refine Zc (Za rfl rfl (Zd rfl) (Zf (Zb (H1 _ _ ?_))))
 refine Zg fun K2 H2 => ?_
 refine Zc (Za rfl rfl (Ze rfl) (Za rfl rfl (Ze rfl) (Za rfl rfl (Zgc rfl rfl) (Za rfl rfl (Ze rfl) ?_))))
 refine Qa (d := 10) rfl (fun c => ?_) (fun c => ?_)
 ·have e := c
  have c := Yq c
  refine Za rfl rfl (Ze rfl) (Za rfl rfl (Ze rfl) (Za rfl rfl (Zgd rfl rfl) (Za rfl rfl (Yv rfl rfl) (Za rfl rfl (Zd rfl) (Zf (Zb (H2 _ _ ?_)))))))
  refine Zl ?_
  exact Zh [_] ⟨rfl, trivial⟩ ⟨congrArg Value.bool (by first | rfl | (rw [Bool.eq_iff_iff]; simp <;> omega) | (rw [Bool.eq_iff_iff]; simp_all; done) | simp_all), E⟩
 have e := c
 have c := Yr c
 refine Zn rfl rfl (Zn rfl rfl (Zn rfl rfl (Za rfl rfl (Yp rfl rfl) (Za rfl rfl (Zd rfl) (Zf (Zb (H2 _ _ ?_)))))))
 refine Zl ?_
 exact Zh [_] ⟨rfl, trivial⟩ ⟨congrArg Value.bool (by first | rfl | (rw [Bool.eq_iff_iff]; simp <;> omega) | (rw [Bool.eq_iff_iff]; simp_all; done) | simp_all), E⟩

/-- impl.ArePairs -/
theorem Zbi {w : World} {LL_l J : Nat} {A : Value} {l : List Pair} (o : Ls Pair.cs 2 w LL_l J A l) :
 Ctr Tryd.prog 29 #[A] w (fun v w' => v = .bool (tt (ArePairs l)) ∧ Ch [] w w') := by
 obtain ⟨x, y, B⟩ := o.val
 subst B
 have ah := o.len
 have o := o.here (by decide)
 have E := Ch.refl [] w
 refine Zx (N := 37) (vs0 := [(.slice x l.length y)]) Tryd.func29 rfl rfl rfl ?_
 refine Zg fun K1 H1 => ?_
 refine Zc (Za rfl rfl (Zd rfl) (Zf (Zb (H1 _ _ ?_))))
 refine Zg fun K2 H2 => ?_
 refine Zg fun K3 H3 => ?_
 refine Zc (Za rfl rfl (Ze rfl) (Za rfl rfl (Zav (by rw [el25]; rfl) rfl) (Za rfl rfl (Ze rfl) (Zf (Zb (H3 _ _ ?_))))))
 refine Ya ?_
 refine Qk (σ := Nat) (fun (k : Nat) => [(0, (.slice x l.length y)), (5, (.slice x l.length y)), (6, (.int .i64 ((l.length : Nat) : Int))), (7, (.int .i64 ((k : Nat) : Int)))]) (fun (k : Nat) wx => Ch [] w wx ∧ w.heap.size ≤ wx.heap.size ∧ (k ≤ l.length) ∧ (Zcp l k)) (fun (k : Nat) => l.length - k) 0 (sC4 rfl rfl rfl rfl (Sub.nil _)) ⟨E, (Nat.le_refl _), om, (Zdi l)⟩ ?_
 rintro k R4 ⟨E, ai, aI, C⟩
 have D := E
 have ad := D.size
 refine Zg fun K5 H5 => ?_
 refine Zc (Za rfl rfl (Xt rfl rfl) (Zf (Zb (H5 _ _ ?_))))
 refine Zg fun K6 H6 => ?_
 refine Zo rfl (fun z => ?_) (fun z => ?_)
 ·have aj := z
  have z := Yq z
  refine Zm ?_
  refine Zb (H6 _ _ ?_)
  refine Zg fun K8 H8 => ?_
  refine Ya ?_
  refine Zg fun K9 H9 => ?_
  refine Zc (Za rfl rfl (Ze rfl) (Ye rfl rfl ?_))
  have ae := o.ch0 D
  refine (Yz ae Pair.len el25 sz57 rfl rfl rfl om fun ak q a K => ?_)
  refine Za rfl rfl (Zaj K agg57 sz57 rfl) (Ye rfl rfl ?_)
  refine Zeo zr57 fun af al G L aJ => ?_
  have am := L.size
  have E := E.trans L
  have aK := G.lt
  replace G : Blk al af 57 [(.int .i64 0), (.int .i64 0)] := G
  refine Za rfl rfl (Zd rfl) (Ye rfl rfl ?_)
  refine Zcy (off := 0) 2 G sz57 rfl (us := [(.int .i64 q.f), (.int .i64 q.t)]) rfl rfl rfl rfl fun an r M => ?_
  have ao := M.size
  have E := E.step M (lS om)
  replace r : Blk an af 57 [(.int .i64 q.f), (.int .i64 q.t)] := r
  refine Zf (Zb (H9 _ _ ?_))
  refine Zg fun aL H => ?_
  refine Zah [] 24 mixed rfl fun O I => ?_
  have ap := I.size
  have E := E.trans I
  refine dV 0 rfl rfl rfl (fun _ => Zk fa57_0 rfl) ?_
  have P := r.ch0 I
  refine dT 1 rfl rfl rfl (Qh P.at_ (fun i hi => absurd hi List.not_mem_nil) agg3 rfl rfl ?_)
  refine dO 2 (Yl rfl rfl rfl ?_)
  refine Step.call (Zv (xs := [.tmp 13, .const (Go.Value.int Go.IntKind.i64 0), .const (Go.Value.int Go.IntKind.i64 4)]) fk54 rfl) (Zae _ _ _ ) fun aq au Q => ?_
  obtain ⟨rfl, R⟩ := Q
  have av := R.size
  have E := E.trans R
  have s : Ch [] O au := ((Ch.refl _ _).trans R)
  refine ⟨s, ?_⟩
  refine dV 3 rfl rfl rfl (fun _ => Qy rfl) (dV 4 rfl rfl rfl (fun _ => Ze rfl) ?_)
  refine Qe (d := 16) rfl (fun b => ?_) (fun b => ?_)
  ·have S := b
   have b := Yr (Xx b)
   refine dK 5 rfl rfl rfl (dK 6 rfl rfl rfl (dK 7 rfl rfl rfl (dK 8 rfl rfl rfl (dV 9 rfl rfl rfl (fun _ => Yv rfl rfl) (dV 10 rfl rfl rfl (fun _ => Ze rfl) (dK 11 rfl rfl rfl (dK 12 rfl rfl rfl ?_)))))))
   refine dK 13 rfl rfl rfl (dK 14 rfl rfl rfl (dK 15 rfl rfl rfl (dK 16 rfl rfl rfl (dK 17 rfl rfl rfl (dK 18 rfl rfl rfl (dK 19 rfl rfl rfl (dK 20 rfl rfl rfl ?_)))))))
   refine dK 21 rfl rfl rfl (dK 22 rfl rfl rfl (dV 23 rfl rfl rfl (fun _ => Yv rfl rfl) ?_))
   refine Yk (by kernel_rfl) ?_
   refine Zb (H _ _ ?_)
   refine Zba rfl ?_
   refine Zg fun aM aw => ?_
   refine Zc (Za rfl rfl (Zd rfl) (Zf (Zb (aw _ _ ?_))))
   refine Zl (Zp (Zi (Zi (Zp (Zi ?_)))))
   clear H2 H8
   exact Zh [_] ⟨rfl, trivial⟩ ⟨congrArg Value.bool (Yb (fun e => by first | (have g := Yu e a; unfold okP at g; omega) | (have g := Yu e a; unfold okP at g; omega) | (have g := Zaw e om h a; have ag := (Zaz _ _).2 g; omega))), E⟩
  have S := b
  have b := Yq (Xy b)
  refine dV 5 rfl rfl rfl (fun _ => Zk fa57_1 rfl) ?_
  refine dT 6 rfl rfl rfl (Qh P.at_ (fun i hi => absurd hi List.not_mem_nil) agg3 rfl rfl ?_)
  refine dO 7 (Yl rfl rfl rfl ?_)
  refine Step.call (Zv (xs := [.tmp 18, .const (Go.Value.int Go.IntKind.i64 0), .const (Go.Value.int Go.IntKind.i64 4)]) fk54 rfl) (Zae _ _ _ ) fun ax ay T => ?_
  obtain ⟨rfl, U⟩ := T
  have az := U.size
  have E := E.trans U
  have u : Ch [] O ay := (s.trans U)
  refine ⟨u, ?_⟩
  refine dV 8 rfl rfl rfl (fun _ => Qy rfl) (dV 9 rfl rfl rfl (fun _ => Yp rfl rfl) (dV 10 rfl rfl rfl (fun _ => Ze rfl) ?_))
  refine Qe (d := 22) rfl (fun c => ?_) (fun c => ?_)
  ·have V := c
   have c := Yr (Xx c)
   refine dK 11 rfl rfl rfl (dK 12 rfl rfl rfl (dK 13 rfl rfl rfl (dK 14 rfl rfl rfl (dK 15 rfl rfl rfl (dK 16 rfl rfl rfl (dK 17 rfl rfl rfl (dK 18 rfl rfl rfl ?_)))))))
   refine dK 19 rfl rfl rfl (dK 20 rfl rfl rfl (dK 21 rfl rfl rfl (dK 22 rfl rfl rfl (dV 23 rfl rfl rfl (fun _ => Yv rfl rfl) ?_))))
   refine Yk (by kernel_rfl) ?_
   refine Zb (H _ _ ?_)
   refine Zba rfl ?_
   refine Zg fun aN aA => ?_
   refine Zc (Za rfl rfl (Zd rfl) (Zf (Zb (aA _ _ ?_))))
   refine Zl (Zp (Zi (Zi (Zp (Zi ?_)))))
   clear H2 H8
   exact Zh [_] ⟨rfl, trivial⟩ ⟨congrArg Value.bool (Yb (fun e => by first | (have g := Yu e a; unfold okP at g; omega) | (have g := Yu e a; unfold okP at g; omega) | (have g := Zaw e om h a; have ag := (Zaz _ _).2 g; omega))), E⟩
  have V := c
  have c := Yq (Xy c)
  refine dV 11 rfl rfl rfl (fun _ => Ze rfl) (dV 12 rfl rfl rfl (fun _ => Zfc rfl rfl) (dV 13 rfl rfl rfl (fun _ => Ze rfl) ?_))
  refine Qe (d := 25) rfl (fun m => ?_) (fun m => ?_)
  ·have X := m
   have m := Yq m
   refine dV 14 rfl rfl rfl (fun _ => Ze rfl) (dV 15 rfl rfl rfl (fun _ => Ze rfl) (dV 16 rfl rfl rfl (fun _ => Xm om rfl rfl) ?_))
   have aB := ((ae.ch0 L).ch M (oS om)).ch0 I
   refine dT 17 rfl rfl rfl (Qr (j := (((k : Nat) : Int) - 1).toNat) aB Pair.len el25 sz57 rfl rfl om om fun aC Y h Z => ?_)
   refine dT 18 rfl rfl rfl (Xg Z (fun i hi => absurd hi List.not_mem_nil) agg57 sz57 rfl ?_)
   refine dT 19 rfl rfl rfl (Xg P.at_ (fun i hi => absurd hi List.not_mem_nil) agg57 sz57 rfl ?_)
   refine dO 20 (Yl rfl rfl rfl ?_)
   refine Step.call (Zv (xs := [.tmp 30, .tmp 31]) fk55 rfl) (Zab Y q ) fun aD aE aa => ?_
   obtain ⟨rfl, ab⟩ := aa
   have aF := ab.size
   have E := E.trans ab
   have F : Ch [] O aE := (u.trans ab)
   refine ⟨F, ?_⟩
   refine dV 21 rfl rfl rfl (fun _ => Zgc rfl rfl) (dV 22 rfl rfl rfl (fun _ => Yv rfl rfl) (dV 23 rfl rfl rfl (fun _ => Yp rfl rfl) ?_))
   refine Yk (by kernel_rfl) ?_
   refine Zb (H _ _ ?_)
   refine Zo rfl (fun n => ?_) (fun n => ?_)
   ·have ac := n
    have n := Yq n
    refine Zg fun aO aG => ?_
    refine Zc (Za rfl rfl (Zd rfl) (Zf (Zb (aG _ _ ?_))))
    refine Zl (Zp (Zi (Zi (Zp (Zi ?_)))))
    clear H2 H8
    exact Zh [_] ⟨rfl, trivial⟩ ⟨congrArg Value.bool (Yb (fun e => by first | (have g := Yu e a; unfold okP at g; omega) | (have g := Yu e a; unfold okP at g; omega) | (have g := Zaw e om h a; have ag := (Zaz _ _).2 g; omega))), E⟩
   have ac := n
   have n := Yr n
   refine Zm ?_
   refine Yd (Zb (H8 _ _ (Zc (Za rfl rfl (Yx om rfl rfl) (Za rfl rfl (Ze rfl) (Zf ?_))))))
   exact Zb (Exists.intro (k + 1) ⟨⟨E, om, om, (by first | exact Xk C a ⟨b.1, b.2, c.1, c.2⟩ (fun j p hj => absurd hj om) | (refine Xk C a ⟨b.1, b.2, c.1, c.2⟩ (fun j p hj hp => ?_); obtain rfl : j = ((k : Int) - 1).toNat := om; rw [h] at hp; cases hp; exact (Zaz _ _).1 om))⟩, sC4 rfl rfl rfl rfl (Sub.nil _), (by first | omega | (dsimp only; omega))⟩)
  have X := m
  have m := Yr m
  refine dK 14 rfl rfl rfl (dK 15 rfl rfl rfl (dK 16 rfl rfl rfl (dK 17 rfl rfl rfl (dK 18 rfl rfl rfl (dK 19 rfl rfl rfl (dK 20 rfl rfl rfl (dK 21 rfl rfl rfl ?_)))))))
  refine dV 22 rfl rfl rfl (fun _ => Yp rfl rfl) (dV 23 rfl rfl rfl (fun _ => Yp rfl rfl) ?_)
  refine Yk (by kernel_rfl) ?_
  refine Zb (H _ _ ?_)
  refine Zbr rfl ?_
  refine Zm ?_
  refine Yd (Zb (H8 _ _ (Zc (Za rfl rfl (Yx om rfl rfl) (Za rfl rfl (Ze rfl) (Zf ?_))))))
  exact Zb (Exists.intro (k + 1) ⟨⟨E, om, om, (by first | exact Xk C a ⟨b.1, b.2, c.1, c.2⟩ (fun j p hj => absurd hj om) | (refine Xk C a ⟨b.1, b.2, c.1, c.2⟩ (fun j p hj hp => ?_); obtain rfl : j = ((k : Int) - 1).toNat := om; rw [h] at hp; cases hp; exact (Zaz _ _).1 om))⟩, sC4 rfl rfl rfl rfl (Sub.nil _), (by first | omega | (dsimp only; omega))⟩)
 have aj := z
 have z := Yr z
 refine Xw (Zr (Zr (Xi ?_)))
 refine Zb (H2 _ _ ?_)
 refine Zg fun aP aH => ?_
 refine Zc (Za rfl rfl (Zd rfl) (Zf (Zb (aH _ _ ?_))))
 refine Zl ?_
 exact Zh [_] ⟨rfl, trivial⟩ ⟨congrArg Value.bool (Xd (Zep C om)), E⟩

shelf_lay Lays.n171 Nm 171 at Tryd as lay_171_56
/-- strconv.Itoa -/
theorem Zbn {w : World} (n : Int) (h : 0 ≤ n ∧ n < 100) :
 Ctr Tryd.prog 56 #[(.int .i64 n)] w (fun v w' => v = bst (Qm n) ∧ Ch [] w w') := by
 exact Zfi lay_171_56 h

/-- impl.FormatInt -/
theorem Qb {w : World} (n : Int) (h : 0 ≤ n ∧ n < 100) :
 Ctr Tryd.prog 30 #[(.int .i64 n)] w (fun v w' => v = bst (Qm n) ∧ Ch [] w w') := by
 have E := Ch.refl [] w
 refine Zx (N := 5) (vs0 := [(.int .i64 n)]) Tryd.func30 rfl rfl rfl ?_
 refine Zg fun K1 H1 => ?_
 refine Zc (Za rfl rfl (Zd rfl) (Zf (Zb (H1 _ _ ?_))))
 refine Zg fun K2 H2 => ?_
 refine Zc (Za rfl rfl (Ze rfl) (Ye rfl rfl ?_))
 refine Step.call (Zv (xs := [.tmp 3]) fk56 rfl) (Zbn _ h) fun b W3 a => ?_
 obtain ⟨rfl, C3⟩ := a
 have c := C3.size
 have E := E.trans C3
 refine Za rfl rfl (Zd rfl) (Zf (Zb (H2 _ _ ?_)))
 refine Zl ?_
 exact Zh [_] ⟨rfl, trivial⟩ ⟨congrArg bst (by first | rfl | simp_all), E⟩

shelf_lay Lays.n156 Nm 156 at Tryd as lay_156_31
theorem Zhu : Builder.Extra Tryd.prog lay_156_31_ren := ⟨⟨by kernel_rfl, by kernel_rfl⟩, Tryd.underlying5, Tryd.isAgg5, Tryd.sizeOf5, Tryd.zeroValue5, by kernel_rfl, by kernel_rfl, by kernel_rfl, by decide⟩
/-- strings.Join -/
theorem Zbl {w : World} {e_xs : Nat} {a : Value} {xs : List (List UInt8)} (b : Ol scs e_xs 1 w a xs) (sep : List UInt8) (hN : xs.length ≤ 4194304) (hlen : (jnS sep xs).length ≤ 140737488355328) :
 Ctr Tryd.prog 31 #[a, (bst sep)] w (fun v w' => v = bst (jnS sep xs) ∧ Ch [] w w') := by
 exact Zfm lay_156_31 Zhu b hN hlen

/-- impl.FormatPairs -/
theorem Zaf {w : World} {LL_l T : Nat} {A : Value} {l : List Pair} (e : Ls Pair.cs 2 w LL_l T A l) (hb : l.length ≤ 4194304) :
 Ctr Tryd.prog 10 #[A] w (fun v w' => v = bst (fpR l) ∧ Ch [] w w') := by
 obtain ⟨B, C, D⟩ := e.val
 subst D
 have az := e.len
 have e := e.here (by decide)
 have E := Ch.refl [] w
 refine Zx (N := 34) (vs0 := [(.slice B l.length C)]) Tryd.func10 rfl rfl rfl ?_
 refine Zg fun K1 H1 => ?_
 refine Zc (Za rfl rfl (Zd rfl) (Zf (Zb (H1 _ _ ?_))))
 refine Zg fun K2 H2 => ?_
 refine Ya ?_
 refine Zg fun K3 H3 => ?_
 refine Zc (Za rfl rfl (Ze rfl) (Ye rfl rfl ?_))
 refine Step.call (Zv (xs := [.tmp 7]) fk29 rfl) (Zbi e ) fun bc W4 aA => ?_
 obtain ⟨rfl, C4⟩ := aA
 have be := C4.size
 have E := E.trans C4
 refine Za rfl rfl (Qy rfl) (Za rfl rfl (Zd rfl) (Zf (Zb (H3 _ _ ?_))))
 refine Zo rfl (fun g => ?_) (fun g => ?_)
 ·have aB := g
  have g := bf_t (Xx g)
  refine Zg fun K6 H6 => ?_
  refine Zc (Za rfl rfl (Zd rfl) (Zf (Zb (H6 _ _ ?_))))
  refine Zl (Zp (Zi ?_))
  exact Zh [_] ⟨rfl, trivial⟩ ⟨congrArg bst (Zhd g), E⟩
 have aB := g
 have g := bt_t (Xy g)
 refine Zg fun K7 H7 => ?_
 refine Zc (Za rfl rfl (Ze rfl) (Za rfl rfl (Zav (by rw [el25]; rfl) rfl) (Za rfl rfl (Zfz rfl rfl) (Za rfl rfl (Zd rfl) (Zf (Zb (H7 _ _ ?_)))))))
 refine Zo rfl (fun c => ?_) (fun c => ?_)
 ·have aC := c
  have c := Yq c
  refine Zg fun K9 H9 => ?_
  refine Zc (Za rfl rfl (Zd rfl) (Zf (Zb (H9 _ _ ?_))))
  refine Zl (Zp (Zi ?_))
  exact Zh [_] ⟨rfl, trivial⟩ ⟨congrArg bst (Zhy g om), E⟩
 have aC := c
 have c := Yr c
 refine Zm ?_
 refine Yd (Zb (H2 _ _ ?_))
 refine Zg fun bf aD => ?_
 refine Zc (Ye rfl rfl ?_)
 refine Ym (k := 1) scs el60 sz9 fun aE ah F G ai => ?_
 have aF := ai.size
 have E := E.trans ai
 obtain ⟨m, n, rfl, aj, U⟩ := F.opn
 refine Za rfl rfl (Zd rfl) (Zf (Zb (aD _ _ ?_)))
 refine Zg fun bg aG => ?_
 refine Zg fun bh aH => ?_
 refine Zc (Za rfl rfl (Ze rfl) (Za rfl rfl (Zav (by rw [el25]; rfl) rfl) (Za rfl rfl (Ze rfl) (Zf (Zb (aH _ _ ?_))))))
 refine Ya ?_
 have y : Ol scs 9 1 ah (.slice m (([] : List (List UInt8))).length n) ((l.take 0).map Xe) := by
  have hx := F
  exact hx
 refine Qk (σ := Nat × Value) (fun ⟨k, ov⟩ => [(2, (bst ([] : List UInt8))), (3, ov), (15, (.slice B l.length C)), (16, (.int .i64 ((l.length : Nat) : Int))), (17, (.int .i64 ((k : Nat) : Int)))]) (fun ⟨k, ov⟩ wx => Ch [] w wx ∧ ah.heap.size ≤ wx.heap.size ∧ (k ≤ l.length) ∧ Ol scs 9 1 wx ov ((l.take k).map Xe) ∧ Lo W4.heap.size ov) (fun ⟨k, ov⟩ => l.length - k) (0, (.slice m (([] : List (List UInt8))).length n)) (sC4 rfl rfl rfl rfl (sC1 rfl (Sub.nil _))) ⟨E, (Nat.le_refl _), om, y, G⟩ ?_
 rintro ⟨k, ov⟩ bi ⟨E, aI, bj, h, b⟩
 have H := E
 have ak := H.size
 obtain ⟨Aov, Cov, rfl, lov, hiov⟩ := h.opn
 refine Zg fun bk aJ => ?_
 refine Zc (Za rfl rfl (Xt rfl rfl) (Zf (Zb (aJ _ _ ?_))))
 refine Zg fun bm aK => ?_
 refine Zo rfl (fun d => ?_) (fun d => ?_)
 ·have V := d
  have d := Yq d
  refine Zm ?_
  refine Zb (aK _ _ ?_)
  refine Zg fun bn aL => ?_
  refine Ya ?_
  refine Zg fun bp aM => ?_
  refine Zc (Ye rfl rfl ?_)
  have aN := e.ch0 H
  refine (Yz aN Pair.len el25 sz57 rfl rfl rfl om fun aO a o X => ?_)
  have Y := Yu g o
  unfold okP at Y
  have aP := Zau a.f
  have aQ := Zau a.t
  refine Za rfl rfl (Zaj X agg57 sz57 rfl) (Ye rfl rfl ?_)
  refine Zeo zr57 fun al aR M Z bq => ?_
  have aS := Z.size
  have E := E.trans Z
  have br := M.lt
  replace M : Blk aR al 57 [(.int .i64 0), (.int .i64 0)] := M
  refine Ye rfl rfl ?_
  refine Zcy (off := 0) 2 M sz57 rfl (us := [(.int .i64 a.f), (.int .i64 a.t)]) rfl rfl rfl rfl fun aT j aa => ?_
  have aU := aa.size
  have E := E.step aa (lS om)
  replace j : Blk aT al 57 [(.int .i64 a.f), (.int .i64 a.t)] := j
  refine Zf (Zb (aM _ _ ?_))
  refine Zah (bl (.slice Aov ((l.take k).map Xe).length Cov)) 11 mixed rfl fun O P => ?_
  have aV := P.size
  have E := E.trans P
  refine dV 0 rfl rfl rfl (fun _ => Ze rfl) (dV 1 rfl rfl rfl (fun _ => Zk fa57_0 rfl) ?_)
  have am := j.ch0 P
  refine dT 2 rfl rfl rfl (Qh am.at_ (fun i hm => by have an := b _ hm; have aW := hiov _ hm; omega) agg3 rfl rfl ?_)
  refine dV 4 rfl rfl rfl (fun _ => Zk fa57_1 rfl) ?_
  refine dT 5 rfl rfl rfl (Qh am.at_ (fun i hm => by have an := b _ hm; have aW := hiov _ hm; omega) agg3 rfl rfl ?_)
  refine dO 3 (Yl rfl rfl rfl ?_)
  refine Step.call (Zv (xs := [.tmp 23]) fk30 rfl) (Qb _ om) fun aX aY ab => ?_
  obtain ⟨rfl, Q⟩ := ab
  have aZ := Q.size
  have E := E.trans Q
  have p : Ch (bl (.slice Aov ((l.take k).map Xe).length Cov)) O aY := ((Ch.refl _ _).trans Q.of_nil)
  refine ⟨p, ?_⟩
  refine dO 6 (Yl rfl rfl rfl ?_)
  refine Step.call (Zv (xs := [.tmp 26]) fk30 rfl) (Qb _ om) fun a0 a1 ac => ?_
  obtain ⟨rfl, R⟩ := ac
  have a2 := R.size
  have E := E.trans R
  have r : Ch (bl (.slice Aov ((l.take k).map Xe).length Cov)) O a1 := (p.trans R.of_nil)
  refine ⟨r, ?_⟩
  refine dV 7 rfl rfl rfl (fun _ => Zhh (by (first | omega | (simp only [List.length_append, List.length_cons, List.length_nil]; omega))) rfl rfl) (dO 8 (Yl rfl rfl rfl ?_))
  refine Zw (cs := scs) (parts := [(0, .tmp 28)]) ([] : List UInt8) [((Qm a.f) ++ (Qm a.t))] el60 sz9 zr9 Xc (by decide) rfl rfl rfl (by decide) (by decide) rfl fun a3 a4 I ao S => ?_
  have a5 := S.size
  have E := E.trans S
  obtain ⟨ap, aq, rfl, au, ad⟩ := I.opn
  have s : Ch (bl (.slice Aov ((l.take k).map Xe).length Cov)) O a4 := (r.trans S.of_nil)
  refine ⟨s, ?_⟩
  refine dO 9 (Yl rfl rfl rfl ?_)
  have a6 := (((((h.ch0 Z).ch aa (dS b hiov om)).ch0 P).ch0 Q).ch0 R).ch0 S
  refine Yy (cs := scs) el60 sz9 by9 zr9 rfl (by decide) Zcs a6 I.ls rfl rfl (by simp only [List.length_map, List.length_take, List.length_singleton]; omega) (by simp only [List.length_map, List.length_take, List.length_singleton]; omega) b om fun a7 av J K aw ae => ?_
  have a8 := ae.size
  have E := E.step ae (fun i hi => .inl (by have an := b _ hi; omega))
  obtain ⟨u, x, rfl, ax, af⟩ := J.opn
  have L : Ch (bl (.slice Aov ((l.take k).map Xe).length Cov)) O av := (s.step ae (fun i hm => by exact .inr hm))
  refine ⟨L, ?_⟩
  refine dV 10 rfl rfl rfl (fun _ => Zd rfl) ?_
  refine Yk (by kernel_rfl) ?_
  refine Yd (Zb (aL _ _ (Zc (Za rfl rfl (Yx om rfl rfl) (Za rfl rfl (Ze rfl) (Zf ?_))))))
  have z : Ol scs 9 1 av (.slice u (((l.take k).map Xe ++ [((Qm a.f) ++ (Qm a.t))])).length x) ((l.take (k + 1)).map Xe) := by
   have hx := J
   exact hx.eq (Zgf o)
  exact Zb (Exists.intro ((k + 1), (.slice u (((l.take k).map Xe ++ [((Qm a.f) ++ (Qm a.t))])).length x)) ⟨⟨E, om, om, z, (Lo.down K om)⟩, sC4 rfl rfl rfl rfl (sC1 rfl (Sub.nil _)), (by first | omega | (dsimp only; omega))⟩)
 have V := d
 have d := Yr d
 refine Xw (Zr (Zr (Xi ?_)))
 refine Zb (aG _ _ ?_)
 refine Zg fun bs a9 => ?_
 refine Zc (Za rfl rfl (Ze rfl) (Ye rfl rfl ?_))
 refine Step.call (Zv (xs := [.tmp 32, .const (Go.Value.string { data := #[32] })]) fk31 rfl) (Zbl h ([32]) (by rw [List.length_map, List.length_take]; omega) (by have q := Zfk l k; unfold fpS at q; omega)) fun ba bu ag => ?_
 obtain ⟨rfl, ay⟩ := ag
 have bb := ay.size
 have E := E.trans ay
 refine Za rfl rfl (Zd rfl) (Zf (Zb (a9 _ _ ?_)))
 refine Zl ?_
 exact Zh [_] ⟨rfl, trivial⟩ ⟨congrArg bst (by rw [List.take_of_length_le om]; exact Zha g om), E⟩

shelf_lay LaysM.n146 Nm 146 at Tryd as lay_146_34
/-- strings.Split -/
theorem Zbh {w : World} (s : List UInt8) (sep : List UInt8) {mG : Int} (hG : Ls ics 1 w 0 w.heap.size (.slice (some ⟨0, 0, none⟩) 1 1) [mG]) (hsep : sep = [32]) (hb : s.length ≤ 4194304) :
 Ctr Tryd.prog 34 #[(bst s), (bst sep)] w (fun v w' => Ol scs 9 1 w' v (Zj s 32 []) ∧ Lo w.heap.size v ∧ Ch [] w w') := by
 subst hsep; exact Zer lay_146_34 hG hb

/-- impl.ParsePairs -/
theorem Xu {w : World} (s : List UInt8) {mG : Int} (hG : Ls ics 1 w 0 w.heap.size (.slice (some ⟨0, 0, none⟩) 1 1) [mG]) (hb : s.length ≤ 1048576) :
 Ctr Tryd.prog 13 #[(bst s)] w (fun v w' => ∃ (X : Value), v = .tuple #[X, .bool ((ppR s).2)] ∧ Ol Pair.cs 57 2 w' X ((ppR s).1) ∧ Lo w.heap.size X ∧ Ch [] w w') := by
 have E := Ch.refl [] w
 have a9 := Qj s 32 []
 refine Zx (N := 39) (vs0 := [(bst s)]) Tryd.func13 rfl rfl rfl ?_
 refine Zg fun K1 H1 => ?_
 refine Zc (Za rfl rfl (Zd rfl) (Za rfl rfl (Zd rfl) (Zf (Zb (H1 _ _ ?_)))))
 refine Zg fun K2 H2 => ?_
 refine Zc (Ye rfl rfl ?_)
 refine Ym (k := 2) Pair.cs el25 sz57 fun ba W3 Y F C3 => ?_
 have bb := C3.size
 have E := E.trans C3
 obtain ⟨q, r, rfl, aD, J⟩ := Y.opn
 refine Za rfl rfl (Zd rfl) (Zf (Zb (H2 _ _ ?_)))
 refine Zg fun K4 H4 => ?_
 refine Zg fun K5 H5 => ?_
 refine Zc (Za rfl rfl (Ze rfl) (Za rfl rfl (Zft rfl rfl) (Zf (Zb (H5 _ _ ?_)))))
 refine Zo rfl (fun b => ?_) (fun b => ?_)
 ·have aE := b
  have b := Yq b
  refine Zg fun K7 H7 => ?_
  refine Zc (Za rfl rfl (Ze rfl) (Za rfl rfl (Zd rfl) (Za rfl rfl (Zd rfl) (Zf (Zb (H7 _ _ ?_))))))
  refine Zl (Zi ?_)
  have Z : Ol Pair.cs 57 2 W3 (.slice q (([] : List Pair)).length r) ((ppR s).1) := by
   have hx := Y
   first | exact hx.eq (congrArg Prod.fst (Xa b)) | exact hx.eq (congrArg Prod.fst (Zz b h om)) | (rw [c] at *; exact hx.eq (congrArg Prod.fst (Zcf b d a))) | (rw [c] at *; exact hx.eq (congrArg Prod.fst (Zce b d a)))
  exact Zh [_, _] ⟨rfl, ⟨rfl, trivial⟩⟩ ⟨(.slice q (([] : List Pair)).length r), (congrArg (fun zq => (Value.tuple #[(.slice q (([] : List Pair)).length r), .bool zq])) (by first | exact congrArg Prod.snd (Xa b) | exact congrArg Prod.snd (Zz b h om) | (rw [c] at a; exact congrArg Prod.snd (Zcf b d a)) | (rw [c] at a; exact congrArg Prod.snd (Zce b d a)))), Z, (Lo.down F om), E⟩
 have aE := b
 have b := Yr b
 refine Zm ?_
 refine Zb (H4 _ _ ?_)
 refine Zg fun K9 H9 => ?_
 refine Zg fun bc aF => ?_
 refine Zc (Za rfl rfl (Ze rfl) (Ye rfl rfl ?_))
 have aG := hG.ch0 C3
 refine Step.call (Zv (xs := [.tmp 11, .const (Go.Value.string { data := #[32] })]) fk34 rfl) (Zbh s ([32]) (aG.here (by decide)) rfl om) fun aH al y => ?_
 obtain ⟨y, z, aa⟩ := y
 have aI := aa.size
 have E := E.trans aa
 obtain ⟨t, u, rfl, am, x⟩ := y.opn
 refine Za rfl rfl (Zav (by rw [el60]; rfl) rfl) (Za rfl rfl (Ze rfl) (Zf (Zb (aF _ _ ?_))))
 refine Ya ?_
 have aJ := Y.ch0 aa
 have G : Ol Pair.cs 57 2 al (.slice q (([] : List Pair)).length r) (((Zj s 32 []).take 0).map prP) := by
  have hx := aJ
  simpa using hx
 refine Qk (σ := Nat × Value) (fun ⟨i, ov⟩ => [(0, (bst s)), (4, ov), (12, (.slice t (Zj s 32 []).length u)), (13, (.int .i64 (((Zj s 32 []).length : Nat) : Int))), (14, (.int .i64 ((i : Nat) : Int)))]) (fun ⟨i, ov⟩ wx => Ch [] w wx ∧ al.heap.size ≤ wx.heap.size ∧ (i ≤ (Zj s 32 []).length) ∧ (TwoP (Zj s 32 []) i) ∧ Ol scs 9 1 wx (.slice t (Zj s 32 []).length u) (Zj s 32 []) ∧ Ol Pair.cs 57 2 wx ov (((Zj s 32 []).take i).map prP) ∧ Lo w.heap.size ov ∧ (∀ g ∈ bl ov, g ∉ bl (.slice t (Zj s 32 []).length u))) (fun ⟨i, ov⟩ => (Zj s 32 []).length - i) (0, (.slice q (([] : List Pair)).length r)) (sC4 rfl rfl rfl rfl (sC1 rfl (Sub.nil _))) ⟨E, (Nat.le_refl _), om, (Zda _), y, G, F, (fun g hm hg => by have aK := F _ hm; have ab := J _ hm; have aL := z _ hg; have aM := x _ hg; omega)⟩ ?_
 rintro ⟨i, ov⟩ an ⟨E, aN, hi, ab, A, p, m, j⟩
 have ac := E
 have ao := ac.size
 obtain ⟨Aov, Cov, rfl, lov, hiov⟩ := p.opn
 refine Zg fun be aO => ?_
 refine Zc (Za rfl rfl (Xt rfl rfl) (Zf (Zb (aO _ _ ?_))))
 refine Zg fun bf ap => ?_
 refine Zo rfl (fun n => ?_) (fun n => ?_)
 ·have ad := n
  have n := Yq n
  refine Zm ?_
  refine Zb (ap _ _ ?_)
  refine Zg fun bg aq => ?_
  refine Ya ?_
  refine Zg fun bh aP => ?_
  refine Zc (Ye rfl rfl ?_)
  refine (Yz A.ls Xc el60 sz9 rfl rfl rfl om fun aQ l h ae => ?_)
  refine Za rfl rfl (Zy ae agg9 rfl rfl) (Za rfl rfl (Zd rfl) (Zf (Zb (aP _ _ ?_))))
  refine Zg fun bi au => ?_
  refine Zg fun bj aR => ?_
  refine Zc (Za rfl rfl (Ze rfl) (Za rfl rfl (Zcw un9 rfl) (Za rfl rfl (Zbj rfl rfl) (Zf (Zb (aR _ _ ?_))))))
  refine Zo rfl (fun o => ?_) (fun o => ?_)
  ·have af := o
   have o := Yr (Xx o)
   refine Zg fun bk aS => ?_
   refine Zc (Za rfl rfl (Zd rfl) (Za rfl rfl (Zd rfl) (Zf (Zb (aS _ _ ?_)))))
   refine Zl (Zi (Zp (Zi (Zi (Zp (Zi ?_))))))
   clear H9 aq au
   have K : Ol Pair.cs 57 2 an (.slice none 0 0) ((ppR s).1) := by
    have hx := Ol.nil (cs := Pair.cs) (e := 57) (k := 2) an
    first | exact hx.eq (congrArg Prod.fst (Xa b)) | exact hx.eq (congrArg Prod.fst (Zz b h om)) | (rw [c] at *; exact hx.eq (congrArg Prod.fst (Zcf b d a))) | (rw [c] at *; exact hx.eq (congrArg Prod.fst (Zce b d a)))
   exact Zh [_, _] ⟨rfl, ⟨rfl, trivial⟩⟩ ⟨(.slice none 0 0), (congrArg (fun zq => (Value.tuple #[(.slice none 0 0), .bool zq])) (by first | exact congrArg Prod.snd (Xa b) | exact congrArg Prod.snd (Zz b h om) | (rw [c] at a; exact congrArg Prod.snd (Zcf b d a)) | (rw [c] at a; exact congrArg Prod.snd (Zce b d a)))), K, (Lo.nil _), E⟩
  have af := o
  have o := Yq (Xy o)
  refine Zm ?_
  refine Zb (au _ _ ?_)
  refine Zah (bl (.slice Aov (((Zj s 32 []).take i).map prP).length Cov)) 13 mixed rfl fun av U => ?_
  have aT := U.size
  have E := E.trans U
  refine dV 0 rfl rfl rfl (fun _ => Ze rfl) (dV 1 rfl rfl rfl (fun _ => Ze rfl) (dV 2 rfl rfl rfl (fun _ => Yf om un9 rfl rfl) (dV 3 rfl rfl rfl (fun _ => Zq (Xb _ _) (by rw [un5]; rfl) un3 rfl) (dV 4 rfl rfl rfl (fun _ => Xm (by have aU := Ys l (Int.toNat 0); omega) rfl rfl) (dV 5 rfl rfl rfl (fun _ => Ze rfl) (dV 6 rfl rfl rfl (fun _ => Yf om un9 rfl rfl) (dV 7 rfl rfl rfl (fun _ => Zq (Xb _ _) (by rw [un5]; rfl) un3 rfl) ?_)))))))
  refine dV 8 rfl rfl rfl (fun _ => Xm (by have aU := Ys l (Int.toNat 1); omega) rfl rfl) (dV 9 rfl rfl rfl (fun _ => Qp (parts := [(0, .tmp 25), (1, .tmp 29)]) (cells := [(.int .i64 ((bat l 0) - 48)), (.int .i64 ((bat l 1) - 48))]) zr57 pl57 rfl rfl) (dO 10 (Yl rfl rfl rfl ?_)))
  refine Zw (cs := Pair.cs) (parts := [(0, .tmp 30)]) (⟨0, 0⟩ : Pair) [(⟨((bat l 0) - 48), ((bat l 1) - 48)⟩ : Pair)] el25 sz57 zr57 Pair.len (by decide) rfl rfl rfl (by decide) (by decide) rfl fun aV aW L aw M => ?_
  have aX := M.size
  have E := E.trans M
  obtain ⟨ax, ay, rfl, az, ag⟩ := L.opn
  have B : Ch (bl (.slice Aov (((Zj s 32 []).take i).map prP).length Cov)) av aW := ((Ch.refl _ _).trans M.of_nil)
  refine ⟨B, ?_⟩
  refine dO 11 (Yl rfl rfl rfl ?_)
  have aY := (p.ch0 U).ch0 M
  refine Yy (cs := Pair.cs) el25 sz57 by57 zr57 rfl (by decide) Pair.one aY L.ls rfl rfl bd bd m om fun aZ aA O P Q V => ?_
  have a0 := V.size
  have E := E.step V (fun i hi => .inl (by have aK := m _ hi; omega))
  obtain ⟨C, D, rfl, aB, H⟩ := O.opn
  have R : Ch (bl (.slice Aov (((Zj s 32 []).take i).map prP).length Cov)) av aA := (B.step V (fun i hm => by exact .inr hm))
  refine ⟨R, ?_⟩
  refine dV 12 rfl rfl rfl (fun _ => Zd rfl) ?_
  refine Yk (by kernel_rfl) ?_
  refine Yd (Zb (aq _ _ (Zc (Za rfl rfl (Yx om rfl rfl) (Za rfl rfl (Ze rfl) (Zf ?_))))))
  have I : Ol Pair.cs 57 2 aA (.slice C ((((Zj s 32 []).take i).map prP ++ [(⟨((bat l 0) - 48), ((bat l 1) - 48)⟩ : Pair)])).length D) (((Zj s 32 []).take (i + 1)).map prP) := by
   have hx := O
   exact hx.eq (Yn (f := prP) h)
  have a1 := ((A.ch0 U).ch0 M).ch V (fun g hg hm => by exact j _ hm hg)
  exact Zb (Exists.intro ((i + 1), (.slice C ((((Zj s 32 []).take i).map prP ++ [(⟨((bat l 0) - 48), ((bat l 1) - 48)⟩ : Pair)])).length D)) ⟨⟨E, om, om, (Xr ab h om), a1, I, (Lo.down P om), (fun g hm hg => by rcases Q with ea | ea; (rw [ea] at hm; exact j _ hm hg); (have a2 := H _ hm; rw [ea] at hm; have bm := List.mem_singleton.1 hm; have aL := z _ hg; have aM := x _ hg; omega))⟩, sC4 rfl rfl rfl rfl (sC1 rfl (Sub.nil _)), (by first | omega | (dsimp only; omega))⟩)
 have ad := n
 have n := Yr n
 have d : Zax (Zj s 32 []) := Zee ab om
 have c := List.take_of_length_le (show (Zj s 32 []).length ≤ i by omega)
 refine Xw (Zr (Zr (Xi ?_)))
 refine Zb (H9 _ _ ?_)
 refine Zg fun bn aC => ?_
 refine Zg fun bp a3 => ?_
 refine Zc (Za rfl rfl (Ze rfl) (Ye rfl rfl ?_))
 refine Step.call (Zv (xs := [.tmp 34]) fk10 rfl) (Zaf p.ls (by rw [List.length_map, List.length_take]; omega)) fun a4 ah ai => ?_
 obtain ⟨rfl, aj⟩ := ai
 have a5 := aj.size
 have E := E.trans aj
 refine Za rfl rfl (Ze rfl) (Za rfl rfl (Zhk rfl rfl) (Zf (Zb (a3 _ _ ?_))))
 refine Zo rfl (fun a => ?_) (fun a => ?_)
 ·have ak := a
  have a := Yr (Xx a)
  refine Zg fun bq a6 => ?_
  refine Zc (Za rfl rfl (Zd rfl) (Za rfl rfl (Zd rfl) (Zf (Zb (a6 _ _ ?_)))))
  refine Zl (Zi ?_)
  clear ap aC
  have S : Ol Pair.cs 57 2 ah (.slice none 0 0) ((ppR s).1) := by
   have hx := Ol.nil (cs := Pair.cs) (e := 57) (k := 2) ah
   first | exact hx.eq (congrArg Prod.fst (Xa b)) | exact hx.eq (congrArg Prod.fst (Zz b h om)) | (rw [c] at *; exact hx.eq (congrArg Prod.fst (Zcf b d a))) | (rw [c] at *; exact hx.eq (congrArg Prod.fst (Zce b d a)))
  exact Zh [_, _] ⟨rfl, ⟨rfl, trivial⟩⟩ ⟨(.slice none 0 0), (congrArg (fun zq => (Value.tuple #[(.slice none 0 0), .bool zq])) (by first | exact congrArg Prod.snd (Xa b) | exact congrArg Prod.snd (Zz b h om) | (rw [c] at a; exact congrArg Prod.snd (Zcf b d a)) | (rw [c] at a; exact congrArg Prod.snd (Zce b d a)))), S, (Lo.nil _), E⟩
 have ak := a
 have a := Yq (Xy a)
 refine Zm ?_
 refine Zb (aC _ _ ?_)
 refine Zg fun br a7 => ?_
 refine Zc (Za rfl rfl (Ze rfl) (Za rfl rfl (Zd rfl) (Za rfl rfl (Zd rfl) (Zf (Zb (a7 _ _ ?_))))))
 refine Zl ?_
 have a8 := p.ch0 aj
 have T : Ol Pair.cs 57 2 ah (.slice Aov (((Zj s 32 []).take i).map prP).length Cov) ((ppR s).1) := by
  have hx := a8
  first | exact hx.eq (congrArg Prod.fst (Xa b)) | exact hx.eq (congrArg Prod.fst (Zz b h om)) | (rw [c] at *; exact hx.eq (congrArg Prod.fst (Zcf b d a))) | (rw [c] at *; exact hx.eq (congrArg Prod.fst (Zce b d a)))
 exact Zh [_, _] ⟨rfl, ⟨rfl, trivial⟩⟩ ⟨(.slice Aov (((Zj s 32 []).take i).map prP).length Cov), (congrArg (fun zq => (Value.tuple #[(.slice Aov (((Zj s 32 []).take i).map prP).length Cov), .bool zq])) (by first | exact congrArg Prod.snd (Xa b) | exact congrArg Prod.snd (Zz b h om) | (rw [c] at a; exact congrArg Prod.snd (Zcf b d a)) | (rw [c] at a; exact congrArg Prod.snd (Zce b d a)))), T, (Lo.down m om), E⟩

/-- laws.eqPair -/
theorem Zcb {w : World} (a : Pair) (b : Pair) :
 Ctr Tryd.prog 32 #[(.agg #[(.int .i64 a.f), (.int .i64 a.t)]), (.agg #[(.int .i64 b.f), (.int .i64 b.t)])] w (fun v w' => v = .bool (decide (a = b)) ∧ Ch [] w w') := by
 have E := Ch.refl [] w
 refine Zx (N := 15) (vs0 := [(.agg #[(.int .i64 a.f), (.int .i64 a.t)]), (.agg #[(.int .i64 b.f), (.int .i64 b.t)])]) Tryd.func32 rfl rfl rfl ?_
 refine Zg fun K1 H1 => ?_
 refine Zc (Ye rfl rfl ?_)
 refine Zdj rfl fun j W2 h C2 p => ?_
 have q := C2.size
 have E := E.trans C2
 have r := h.lt
 replace h : Blk W2 j 57 [(.int .i64 a.f), (.int .i64 a.t)] := h
 refine Ye rfl rfl ?_
 refine Zdj rfl fun k W3 g C3 s => ?_
 have u := C3.size
 have E := E.trans C3
 have x := g.lt
 replace g : Blk W3 k 57 [(.int .i64 b.f), (.int .i64 b.t)] := g
 refine Za rfl rfl (Zd rfl) (Zf (Zb (H1 _ _ ?_)))
 refine Zg fun K4 H4 => ?_
 refine Zg fun K5 H5 => ?_
 refine Zc (Za rfl rfl (Zk fa57_0 rfl) ?_)
 have F6 := h.ch0 C3
 refine Za rfl rfl (Zt F6.at_ agg3 rfl rfl) (Za rfl rfl (Zk fa57_0 rfl) (Za rfl rfl (Zt g.at_ agg3 rfl rfl) (Za rfl rfl (Zbj rfl rfl) (Zf (Zb (H5 _ _ ?_))))))
 refine Zo rfl (fun d => ?_) (fun d => ?_)
 ·have l := d
  have d := Yr (Xx d)
  refine Zg fun K8 H8 => ?_
  refine Zc (Za rfl rfl (Zd rfl) (Zf (Zb (H8 _ _ ?_))))
  refine Zl (Zi ?_)
  exact Zh [_] ⟨rfl, trivial⟩ ⟨congrArg Value.bool (decide_eq_false (fun e => d (by rw [e]))).symm, E⟩
 have l := d
 have d := Yq (Xy d)
 refine Zm ?_
 refine Zb (H4 _ _ ?_)
 refine Zg fun K9 H9 => ?_
 refine Zg fun y m => ?_
 refine Zc (Za rfl rfl (Zk fa57_1 rfl) (Za rfl rfl (Zt F6.at_ agg3 rfl rfl) (Za rfl rfl (Zk fa57_1 rfl) (Za rfl rfl (Zt g.at_ agg3 rfl rfl) (Za rfl rfl (Zbj rfl rfl) (Zf (Zb (m _ _ ?_))))))))
 refine Zo rfl (fun c => ?_) (fun c => ?_)
 ·have i := c
  have c := Yr (Xx c)
  refine Zg fun z n => ?_
  refine Zc (Za rfl rfl (Zd rfl) (Zf (Zb (n _ _ ?_))))
  refine Zl (Zi ?_)
  exact Zh [_] ⟨rfl, trivial⟩ ⟨congrArg Value.bool (decide_eq_false (fun e => c (by rw [e]))).symm, E⟩
 have i := c
 have c := Yq (Xy c)
 refine Zm ?_
 refine Zb (H9 _ _ ?_)
 refine Zg fun A o => ?_
 refine Zc (Za rfl rfl (Zd rfl) (Zf (Zb (o _ _ ?_))))
 refine Zl ?_
 exact Zh [_] ⟨rfl, trivial⟩ ⟨congrArg Value.bool (decide_eq_true (Pair.inj (by rw [d, c]))).symm, E⟩

/-- laws.eqPairS -/
theorem Zaa {w : World} {LL_a z : Nat} {n : Value} {a : List Pair} (g : Ls Pair.cs 2 w LL_a z n a) {LL_b A : Nat} {o : Value} {b : List Pair} (h : Ls Pair.cs 2 w LL_b A o b) :
 Ctr Tryd.prog 11 #[n, o] w (fun v w' => v = .bool (decide (a = b)) ∧ Ch [] w w') := by
 obtain ⟨p, q, r⟩ := g.val
 subst r
 have O := g.len
 have g := g.here (by decide)
 obtain ⟨s, t, u⟩ := h.val
 subst u
 have P := h.len
 have h := h.here (by decide)
 have E := Ch.refl [] w
 refine Zx (N := 27) (vs0 := [(.slice p a.length q), (.slice s b.length t)]) Tryd.func11 rfl rfl rfl ?_
 refine Zg fun K1 H1 => ?_
 refine Zc (Za rfl rfl (Zd rfl) (Zf (Zb (H1 _ _ ?_))))
 refine Zg fun K2 H2 => ?_
 refine Zg fun K3 H3 => ?_
 refine Zc (Za rfl rfl (Ze rfl) (Za rfl rfl (Zav (by rw [el25]; rfl) rfl) (Za rfl rfl (Ze rfl) (Za rfl rfl (Zav (by rw [el25]; rfl) rfl) (Za rfl rfl (Zbj rfl rfl) (Zf (Zb (H3 _ _ ?_))))))))
 refine Zo rfl (fun d => ?_) (fun d => ?_)
 ·have Q := d
  have d := Yr (Xx d)
  refine Zg fun K5 H5 => ?_
  refine Zc (Za rfl rfl (Zd rfl) (Zf (Zb (H5 _ _ ?_))))
  refine Zl (Zi ?_)
  exact Zh [_] ⟨rfl, trivial⟩ ⟨congrArg Value.bool (decide_eq_false (fun e => d (by rw [e]))).symm, E⟩
 have Q := d
 have d := Yq (Xy d)
 refine Zm ?_
 refine Zb (H2 _ _ ?_)
 refine Zg fun K6 H6 => ?_
 refine Zg fun K7 H7 => ?_
 refine Zc (Za rfl rfl (Zd rfl) (Zf (Zb (H7 _ _ ?_))))
 refine Ya ?_
 refine Qk (σ := Nat) (fun (k : Nat) => [(0, (.slice p a.length q)), (1, (.slice s b.length t)), (5, (.int .i64 ((k : Nat) : Int)))]) (fun (k : Nat) wx => Ch [] w wx ∧ w.heap.size ≤ wx.heap.size ∧ (k ≤ a.length) ∧ (a.take k = b.take k)) (fun (k : Nat) => a.length - k) 0 (sC2 rfl rfl (sC1 rfl (Sub.nil _))) ⟨E, (Nat.le_refl _), om, rfl⟩ ?_
 rintro k R8 ⟨E, R, ag, K⟩
 have m := E
 have L := m.size
 refine Zg fun K9 H9 => ?_
 refine Zg fun ah S => ?_
 refine Zc (Za rfl rfl (Ze rfl) (Za rfl rfl (Ze rfl) (Za rfl rfl (Zav (by rw [el25]; rfl) rfl) (Za rfl rfl (Xt rfl rfl) (Zf (Zb (S _ _ ?_)))))))
 refine Zo rfl (fun f => ?_) (fun f => ?_)
 ·have B := f
  have f := Yq f
  refine Zm ?_
  refine Zb (H9 _ _ ?_)
  refine Zg fun ai M => ?_
  refine Ya ?_
  refine Zg fun aj T => ?_
  refine Zah [] 10 mixed rfl fun U y => ?_
  have V := y.size
  have E := E.trans y
  refine dV 0 rfl rfl rfl (fun _ => Ze rfl) (dV 1 rfl rfl rfl (fun _ => Ze rfl) ?_)
  have X := (g.ch0 m).ch0 y
  refine dT 2 rfl rfl rfl (Qr X Pair.len el25 sz57 rfl rfl rfl om fun Y C j D => ?_)
  refine dT 3 rfl rfl rfl (Xg D (fun i hi => absurd hi List.not_mem_nil) agg57 sz57 rfl ?_)
  refine dV 4 rfl rfl rfl (fun _ => Ze rfl) (dV 5 rfl rfl rfl (fun _ => Ze rfl) ?_)
  have Z := (h.ch0 m).ch0 y
  refine dT 6 rfl rfl rfl (Qr Z Pair.len el25 sz57 rfl rfl rfl om fun aa F l G => ?_)
  refine dT 7 rfl rfl rfl (Xg G (fun i hi => absurd hi List.not_mem_nil) agg57 sz57 rfl ?_)
  refine dO 8 (Yl rfl rfl rfl ?_)
  refine Step.call (Zv (xs := [.tmp 20, .tmp 24]) fk32 rfl) (Zcb C F ) fun ab ac H => ?_
  obtain ⟨rfl, I⟩ := H
  have ad := I.size
  have E := E.trans I
  have x : Ch [] U ac := ((Ch.refl _ _).trans I)
  refine ⟨x, ?_⟩
  refine dV 9 rfl rfl rfl (fun _ => Qy rfl) ?_
  refine Yk (by kernel_rfl) ?_
  refine Zb (T _ _ ?_)
  refine Zo rfl (fun c => ?_) (fun c => ?_)
  ·have J := c
   have c := Yr (Xx c)
   refine Zg fun ak ae => ?_
   refine Zc (Za rfl rfl (Zd rfl) (Zf (Zb (ae _ _ ?_))))
   refine Zl (Zp (Zi (Zi (Zp (Zi ?_)))))
   clear H6 M
   exact Zh [_] ⟨rfl, trivial⟩ ⟨congrArg Value.bool (decide_eq_false (Zey j l c)).symm, E⟩
  have J := c
  have c := Yq (Xy c)
  refine Zm ?_
  refine Yd (Zb (M _ _ (Zc (Za rfl rfl (Ze rfl) (Za rfl rfl (Yx om rfl rfl) (Za rfl rfl (Zd rfl) (Zf ?_)))))))
  exact Zb (Exists.intro (k + 1) ⟨⟨E, om, om, (Zcl K j l c)⟩, sC2 rfl rfl (sC1 rfl (Sub.nil _)), (by first | omega | (dsimp only; omega))⟩)
 have B := f
 have f := Yr f
 refine Xw (Zr (Zr (Xi ?_)))
 refine Zb (H6 _ _ ?_)
 refine Zg fun al af => ?_
 refine Zc (Za rfl rfl (Zd rfl) (Zf (Zb (af _ _ ?_))))
 refine Zl ?_
 exact Zh [_] ⟨rfl, trivial⟩ ⟨congrArg Value.bool (decide_eq_true (Zdm K om om)).symm, E⟩

/-- laws.heldPairS -/
theorem Qc {w : World} {LL_a p : Nat} {j : Value} {a : List Pair} (d : Ls Pair.cs 2 w LL_a p j a) (k : Int) (A : 0 ≤ k) (hkk : k + 2 * a.length ≤ 4611686018427387904) :
 Ctr Tryd.prog 15 #[j, (.int .i64 k)] w (fun v w' => v = .int .i64 (if a = Yc k a.length then k + 2 * a.length else -1) ∧ Ch [] w w') := by
 obtain ⟨l, m, n⟩ := d.val
 subst n
 have B := d.len
 have d := d.here (by decide)
 have E := Ch.refl [] w
 refine Zx (N := 31) (vs0 := [(.slice l a.length m), (.int .i64 k)]) Tryd.func15 rfl rfl rfl ?_
 refine Zg fun K1 H1 => ?_
 refine Zc (Za rfl rfl (Zd rfl) (Zf (Zb (H1 _ _ ?_))))
 refine Zg fun K2 H2 => ?_
 refine Zg fun K3 H3 => ?_
 refine Zc (Za rfl rfl (Zd rfl) (Zf (Zb (H3 _ _ ?_))))
 refine Ya ?_
 refine Qk (σ := Nat × Int) (fun ⟨i, kk⟩ => [(0, (.slice l a.length m)), (1, (.int .i64 kk)), (5, (.int .i64 ((i : Nat) : Int)))]) (fun ⟨i, kk⟩ wx => Ch [] w wx ∧ w.heap.size ≤ wx.heap.size ∧ (i ≤ a.length) ∧ (kk = k + 2 * i) ∧ (a.take i = Yc k i)) (fun ⟨i, kk⟩ => a.length - i) (0, k) (sC2 rfl rfl (sC1 rfl (Sub.nil _))) ⟨E, (Nat.le_refl _), om, om, rfl⟩ ?_
 rintro ⟨i, kk⟩ R4 ⟨E, C, hi, hq, u⟩
 have o := E
 have x := o.size
 refine Zg fun K5 H5 => ?_
 refine Zg fun K6 H6 => ?_
 refine Zc (Za rfl rfl (Ze rfl) (Za rfl rfl (Ze rfl) (Za rfl rfl (Zav (by rw [el25]; rfl) rfl) (Za rfl rfl (Xt rfl rfl) (Zf (Zb (H6 _ _ ?_)))))))
 refine Zo rfl (fun h => ?_) (fun h => ?_)
 ·have D := h
  have h := Yq h
  refine Zm ?_
  refine Zb (H5 _ _ ?_)
  refine Zg fun K8 H8 => ?_
  refine Ya ?_
  refine Zg fun K9 H9 => ?_
  refine Zg fun R F => ?_
  refine Zc (Za rfl rfl (Ze rfl) (Za rfl rfl (Ze rfl) (Ye rfl rfl ?_)))
  have y := d.ch0 o
  refine (Yz y Pair.len el25 sz57 rfl rfl rfl om fun G H f q => ?_)
  refine Za rfl rfl (Zk fa57_0 rfl) (Za rfl rfl (Zt q agg3 rfl rfl) (Za rfl rfl (Ze rfl) (Za rfl rfl (Zbj rfl rfl) (Zf (Zb (F _ _ ?_))))))
  refine Zo rfl (fun b => ?_) (fun b => ?_)
  ·have r := b
   have b := Yr (Xx b)
   refine Zg fun S I => ?_
   refine Zc (Za rfl rfl (Zd rfl) (Zf (Zb (I _ _ ?_))))
   refine Zl (Zi (Zp (Zi (Zi (Zp (Zi ?_))))))
   clear H2 H8 H9
   exact Zh [_] ⟨rfl, trivial⟩ ⟨congrArg (Value.int .i64) (if_neg (fun e => b (by have J := (Zap e f).1; omega))).symm, E⟩
  have r := b
  have b := Yq (Xy b)
  refine Zm ?_
  refine Zb (H9 _ _ ?_)
  refine Zg fun T K => ?_
  refine Zc (Za rfl rfl (Ze rfl) (Za rfl rfl (Yx om rfl rfl) (Za rfl rfl (Zd rfl) (Zf (Zb (K _ _ ?_))))))
  refine Zg fun U z => ?_
  refine Zg fun V L => ?_
  refine Zc (Za rfl rfl (Ze rfl) (Za rfl rfl (Ze rfl) (Ye rfl rfl ?_)))
  refine (Yz y Pair.len el25 sz57 rfl rfl rfl om fun M O g s => ?_)
  refine Za rfl rfl (Zk fa57_1 rfl) (Za rfl rfl (Zt s agg3 rfl rfl) (Za rfl rfl (Ze rfl) (Za rfl rfl (Zbj rfl rfl) (Zf (Zb (L _ _ ?_))))))
  refine Zo rfl (fun c => ?_) (fun c => ?_)
  ·have t := c
   have c := Yr (Xx c)
   refine Zg fun X P => ?_
   refine Zc (Za rfl rfl (Zd rfl) (Zf (Zb (P _ _ ?_))))
   refine Zl (Zi (Zp (Zi (Zi (Zp (Zi ?_))))))
   clear H2 H8 z
   exact Zh [_] ⟨rfl, trivial⟩ ⟨congrArg (Value.int .i64) (if_neg (fun e => c (by have J := (Zap e g).2; omega))).symm, E⟩
  have t := c
  have c := Yq (Xy c)
  refine Zm ?_
  refine Zb (z _ _ (Zc (Za rfl rfl (Ze rfl) (Za rfl rfl (Yx om rfl rfl) (Za rfl rfl (Zd rfl) (Zf (Yd (Zb (H8 _ _ ?_)))))))))
  refine Zc (Za rfl rfl (Ze rfl) (Za rfl rfl (Yx om rfl rfl) (Za rfl rfl (Zd rfl) (Zf ?_))))
  exact Zb (Exists.intro ((i + 1), ((kk + 1) + 1)) ⟨⟨E, om, om, om, (Zcc u hq f b g c)⟩, sC2 rfl rfl (sC1 rfl (Sub.nil _)), (by first | omega | (dsimp only; omega))⟩)
 have D := h
 have h := Yr h
 refine Xw (Zr (Zr (Xi ?_)))
 refine Zb (H2 _ _ ?_)
 refine Zg fun Y Q => ?_
 refine Zc (Za rfl rfl (Ze rfl) (Za rfl rfl (Zd rfl) (Zf (Zb (Q _ _ ?_)))))
 refine Zl ?_
 exact Zh [_] ⟨rfl, trivial⟩ ⟨congrArg (Value.int .i64) (by rw [if_pos (Zco u om om)]; omega), E⟩

/-- laws.markPairS -/
theorem Zar {w : World} {e_a : Nat} {g : Value} {a : List Pair} (p : Ol Pair.cs e_a 2 w g a) (k : Int) (F : 0 ≤ k) (hkk : k + 2 * a.length ≤ 4611686018427387904) :
 Ctr Tryd.prog 14 #[g, (.int .i64 k)] w (fun v w' => v = .int .i64 (k + 2 * a.length) ∧ Ol Pair.cs e_a 2 w' g (Yc k a.length) ∧ Ch (bl g) w w') := by
 obtain ⟨b, c, rfl, G, y⟩ := p.opn
 have E := Ch.refl (bl (.slice b a.length c)) w
 refine Zx (N := 27) (vs0 := [(.slice b a.length c), (.int .i64 k)]) Tryd.func14 rfl rfl rfl ?_
 refine Zg fun K1 H1 => ?_
 refine Zc (Za rfl rfl (Zd rfl) (Zf (Zb (H1 _ _ ?_))))
 refine Zg fun K2 H2 => ?_
 refine Zg fun K3 H3 => ?_
 refine Zc (Za rfl rfl (Zd rfl) (Zf (Zb (H3 _ _ ?_))))
 refine Ya ?_
 have q : Ol Pair.cs e_a 2 w (.slice b a.length c) (Yc k 0 ++ a.drop 0) := by
  have hx := p
  simpa [Yc] using hx
 refine Qk (σ := Nat × Int) (fun ⟨i, kk⟩ => [(0, (.slice b a.length c)), (1, (.int .i64 kk)), (4, (.int .i64 0)), (5, (.int .i64 ((i : Nat) : Int)))]) (fun ⟨i, kk⟩ wx => Ch (bl (.slice b a.length c)) w wx ∧ w.heap.size ≤ wx.heap.size ∧ (i ≤ a.length) ∧ (kk = k + 2 * i) ∧ Ol Pair.cs e_a 2 wx (.slice b a.length c) (Yc k i ++ a.drop i)) (fun ⟨i, kk⟩ => a.length - i) (0, k) (sC4 rfl rfl rfl rfl (Sub.nil _)) ⟨E, (Nat.le_refl _), om, om, q⟩ ?_
 rintro ⟨i, kk⟩ R5 ⟨E, H, hi, hq, e⟩
 have s := E
 have z := s.size
 refine Zg fun K6 H6 => ?_
 refine Zg fun K7 H7 => ?_
 refine Zc (Za rfl rfl (Ze rfl) (Za rfl rfl (Ze rfl) (Za rfl rfl (Zav (by rw [el25]; rfl) rfl) (Za rfl rfl (Xt rfl rfl) (Zf (Zb (H7 _ _ ?_)))))))
 refine Zo rfl (fun n => ?_) (fun n => ?_)
 ·have I := n
  have n := Yq n
  refine Zm ?_
  refine Zb (H6 _ _ ?_)
  refine Zg fun K9 H9 => ?_
  refine Ya ?_
  refine Zg fun X J => ?_
  refine Zc (Za rfl rfl (Ze rfl) (Za rfl rfl (Ze rfl) (Za rfl rfl (Ze rfl) (Ye rfl rfl ?_))))
  refine Zdd (j := i) e el25 sz57 rfl rfl rfl (by first | omega | (simp [Yc] <;> omega)) fun K L A u => ?_
  refine Za rfl rfl (Zk fa57_0 rfl) (Ye rfl rfl ?_)
  obtain ⟨d, h⟩ := Zff (xs := Yc k i ++ a.drop i) (j := i) (by first | omega | (simp [Yc] <;> omega))
  refine Zcz (j := i) 0 (⟨d.f, d.t⟩ : Pair) (⟨kk, d.t⟩ : Pair) e u h Pair.len rfl sz3 rfl rfl rfl rfl fun Y l B => ?_
  have M := B.size
  have E := E.trans B
  refine Zf (Zb (J _ _ ?_))
  refine Zg fun Z O => ?_
  refine Zc (Za rfl rfl (Ze rfl) (Za rfl rfl (Yx om rfl rfl) (Za rfl rfl (Zd rfl) (Zf (Zb (O _ _ ?_))))))
  refine Zg fun aa P => ?_
  refine Zc (Za rfl rfl (Ze rfl) (Za rfl rfl (Ze rfl) (Za rfl rfl (Ze rfl) (Ye rfl rfl ?_))))
  refine Zdd (j := i) l el25 sz57 rfl rfl rfl (by first | omega | (simp [Yc] <;> omega)) fun Q R C x => ?_
  refine Za rfl rfl (Zk fa57_1 rfl) (Ye rfl rfl ?_)
  refine Zcz (j := i) 1 (⟨kk, d.t⟩ : Pair) (⟨kk, (kk + 1)⟩ : Pair) l x (Zgn h _) Pair.len rfl sz3 rfl rfl rfl rfl fun S m D => ?_
  rw [List.set_set] at m
  have T := D.size
  have E := E.trans D
  refine Zf (Zb (P _ _ (Zc (Za rfl rfl (Ze rfl) (Za rfl rfl (Yx om rfl rfl) (Za rfl rfl (Zd rfl) (Zf (Yd ?_))))))))
  refine Zb (H9 _ _ (Zc (Za rfl rfl (Ze rfl) (Za rfl rfl (Yx om rfl rfl) (Za rfl rfl (Zd rfl) (Zf ?_))))))
  have o : Ol Pair.cs e_a 2 S (.slice b a.length c) (Yc k (i + 1) ++ a.drop (i + 1)) := by
   have hx := m
   rwa [Zcv a om hq] at hx
  exact Zb (Exists.intro ((i + 1), ((kk + 1) + 1)) ⟨⟨E, om, om, om, o⟩, sC4 rfl rfl rfl rfl (Sub.nil _), (by first | omega | (dsimp only; omega))⟩)
 have I := n
 have n := Yr n
 refine Xw (Zr (Zr (Xi ?_)))
 refine Zb (H2 _ _ ?_)
 refine Zg fun ab U => ?_
 refine Zc (Za rfl rfl (Ze rfl) (Za rfl rfl (Zd rfl) (Zf (Zb (U _ _ ?_)))))
 refine Zl ?_
 have r : Ol Pair.cs e_a 2 R5 (.slice b a.length c) (Yc k a.length) := by
  have hx := e
  have V : i = a.length := om; subst V; simpa using hx
 exact Zh [_] ⟨rfl, trivial⟩ ⟨congrArg (Value.int .i64) om, r, E⟩

/-- spec.l15Less -/
theorem Zbm {w : World} (a : Pair) (b : Pair) :
 Ctr Tryd.prog 53 #[(.agg #[(.int .i64 a.f), (.int .i64 a.t)]), (.agg #[(.int .i64 b.f), (.int .i64 b.t)])] w (fun v w' => v = .bool (tt (Xn a b)) ∧ Ch [] w w') := by
 have E := Ch.refl [] w
 refine Zx (N := 24) (vs0 := [(.agg #[(.int .i64 a.f), (.int .i64 a.t)]), (.agg #[(.int .i64 b.f), (.int .i64 b.t)])]) Tryd.func53 rfl rfl rfl ?_
 refine Zg fun K1 H1 => ?_
 refine Zc (Ye rfl rfl ?_)
 refine Zdj rfl fun i W2 h C2 m => ?_
 have n := C2.size
 have E := E.trans C2
 have o := h.lt
 replace h : Blk W2 i 57 [(.int .i64 a.f), (.int .i64 a.t)] := h
 refine Ye rfl rfl ?_
 refine Zdj rfl fun j W3 g C3 p => ?_
 have q := C3.size
 have E := E.trans C3
 have r := g.lt
 replace g : Blk W3 j 57 [(.int .i64 b.f), (.int .i64 b.t)] := g
 refine Za rfl rfl (Zd rfl) (Zf (Zb (H1 _ _ ?_)))
 refine Zg fun K4 H4 => ?_
 refine Zc (Za rfl rfl (Zk fa57_0 rfl) ?_)
 have F5 := h.ch0 C3
 refine Za rfl rfl (Zt F5.at_ agg3 rfl rfl) (Za rfl rfl (Zk fa57_0 rfl) (Za rfl rfl (Zt g.at_ agg3 rfl rfl) (Za rfl rfl (Xt rfl rfl) (Za rfl rfl (Ze rfl) ?_))))
 refine Qa (d := 10) rfl (fun c => ?_) (fun c => ?_)
 ·have k := c
  have c := Yq c
  refine Zn rfl rfl (Zn rfl rfl (Zn rfl rfl (Zn rfl rfl (Zn rfl rfl (Zn rfl rfl (Zn rfl rfl (Zn rfl rfl ?_)))))))
  refine Zn rfl rfl (Zn rfl rfl (Zn rfl rfl (Zn rfl rfl (Za rfl rfl (Yv rfl rfl) (Za rfl rfl (Zd rfl) (Zf (Zb (H4 _ _ ?_))))))))
  refine Zl ?_
  exact Zh [_] ⟨rfl, trivial⟩ ⟨congrArg Value.bool (by first | exact Xd (.inl c) | exact Yb (by unfold Xn; omega) | (rw [Zdu]; exact Zga (by unfold Xn; omega))), E⟩
 have k := c
 have c := Yr c
 refine Za rfl rfl (Zk fa57_0 rfl) (Za rfl rfl (Zt F5.at_ agg3 rfl rfl) (Za rfl rfl (Zk fa57_0 rfl) (Za rfl rfl (Zt g.at_ agg3 rfl rfl) (Za rfl rfl (Zfz rfl rfl) (Za rfl rfl (Ze rfl) ?_)))))
 refine Qa (d := 16) rfl (fun e => ?_) (fun e => ?_)
 ·have l := e
  have e := Yq e
  refine Za rfl rfl (Zk fa57_1 rfl) (Za rfl rfl (Zt F5.at_ agg3 rfl rfl) (Za rfl rfl (Zk fa57_1 rfl) (Za rfl rfl (Zt g.at_ agg3 rfl rfl) (Za rfl rfl (Xt rfl rfl) (Za rfl rfl (Yv rfl rfl) (Za rfl rfl (Yp rfl rfl) (Za rfl rfl (Zd rfl) ?_)))))))
  refine Zf (Zb (H4 _ _ ?_))
  refine Zl ?_
  exact Zh [_] ⟨rfl, trivial⟩ ⟨congrArg Value.bool (by first | exact Xd (.inl c) | exact Yb (by unfold Xn; omega) | (rw [Zdu]; exact Zga (by unfold Xn; omega))), E⟩
 have l := e
 have e := Yr e
 refine Zn rfl rfl (Zn rfl rfl (Zn rfl rfl (Zn rfl rfl (Zn rfl rfl (Za rfl rfl (Yp rfl rfl) (Za rfl rfl (Yp rfl rfl) (Za rfl rfl (Zd rfl) ?_)))))))
 refine Zf (Zb (H4 _ _ ?_))
 refine Zl ?_
 exact Zh [_] ⟨rfl, trivial⟩ ⟨congrArg Value.bool (by first | exact Xd (.inl c) | exact Yb (by unfold Xn; omega) | (rw [Zdu]; exact Zga (by unfold Xn; omega))), E⟩

/-- spec.l1In -/
theorem Zbe {w : World} (n : Int) (a : Int) (b : Int) :
 Ctr Tryd.prog 52 #[(.int .i64 n), (.int .i64 a), (.int .i64 b)] w (fun v w' => v = .bool (decide (a ≤ n ∧ n ≤ b)) ∧ Ch [] w w') := by
 have E := Ch.refl [] w
 refine Zx (N := 15) (vs0 := [(.int .i64 n), (.int .i64 a), (.int .i64 b)]) Tryd.func52 rfl rfl rfl ?_
 refine Zg fun K1 H1 => ?_
 refine Zc (Za rfl rfl (Zd rfl) (Zf (Zb (H1 _ _ ?_))))
 refine Zg fun K2 H2 => ?_
 refine Zc (Za rfl rfl (Ze rfl) (Za rfl rfl (Ze rfl) (Za rfl rfl (Zgc rfl rfl) (Za rfl rfl (Ze rfl) ?_))))
 refine Qa (d := 10) rfl (fun c => ?_) (fun c => ?_)
 ·have e := c
  have c := Yq c
  refine Za rfl rfl (Ze rfl) (Za rfl rfl (Ze rfl) (Za rfl rfl (Zgd rfl rfl) (Za rfl rfl (Yv rfl rfl) (Za rfl rfl (Zd rfl) (Zf (Zb (H2 _ _ ?_)))))))
  refine Zl ?_
  exact Zh [_] ⟨rfl, trivial⟩ ⟨congrArg Value.bool (by first | rfl | (rw [Bool.eq_iff_iff]; simp <;> omega) | (rw [Bool.eq_iff_iff]; simp_all; done) | simp_all), E⟩
 have e := c
 have c := Yr c
 refine Zn rfl rfl (Zn rfl rfl (Zn rfl rfl (Za rfl rfl (Yp rfl rfl) (Za rfl rfl (Zd rfl) (Zf (Zb (H2 _ _ ?_)))))))
 refine Zl ?_
 exact Zh [_] ⟨rfl, trivial⟩ ⟨congrArg Value.bool (by first | rfl | (rw [Bool.eq_iff_iff]; simp <;> omega) | (rw [Bool.eq_iff_iff]; simp_all; done) | simp_all), E⟩

/-- spec.ArePairs -/
theorem Qu {w : World} {LL_l F : Nat} {u : Value} {l : List Pair} (q : Ls Pair.cs 2 w LL_l F u l) :
 Ctr Tryd.prog 26 #[u] w (fun v w' => v = .bool (tt (ArePairs l)) ∧ Ch [] w w') := by
 obtain ⟨x, y, z⟩ := q.val
 subst z
 have ab := q.len
 have q := q.here (by decide)
 have E := Ch.refl [] w
 refine Zx (N := 43) (vs0 := [(.slice x l.length y)]) Tryd.func26 rfl rfl rfl ?_
 refine Zg fun K1 H1 => ?_
 refine Zc (Za rfl rfl (Zd rfl) (Zf (Zb (H1 _ _ ?_))))
 refine Zg fun K2 H2 => ?_
 refine Zg fun K3 H3 => ?_
 refine Zc (Za rfl rfl (Zd rfl) (Zf (Zb (H3 _ _ ?_))))
 refine Ya ?_
 refine Qk (σ := Nat) (fun (k : Nat) => [(0, (.slice x l.length y)), (3, (.int .i64 ((k : Nat) : Int)))]) (fun (k : Nat) wx => Ch [] w wx ∧ w.heap.size ≤ wx.heap.size ∧ (k ≤ l.length) ∧ (Zcp l k)) (fun (k : Nat) => l.length - k) 0 (sC2 rfl rfl (Sub.nil _)) ⟨E, (Nat.le_refl _), om, (Zdi l)⟩ ?_
 rintro k R4 ⟨E, ac, aB, A⟩
 have B := E
 have aa := B.size
 refine Zg fun K5 H5 => ?_
 refine Zg fun K6 H6 => ?_
 refine Zc (Za rfl rfl (Ze rfl) (Za rfl rfl (Ze rfl) (Za rfl rfl (Zav (by rw [el25]; rfl) rfl) (Za rfl rfl (Xt rfl rfl) (Zf (Zb (H6 _ _ ?_)))))))
 refine Zo rfl (fun t => ?_) (fun t => ?_)
 ·have ad := t
  have t := Yq t
  refine Zm ?_
  refine Zb (H5 _ _ ?_)
  refine Zg fun K8 H8 => ?_
  refine Ya ?_
  refine Zg fun K9 H9 => ?_
  refine Zah [] 33 mixed rfl fun G H => ?_
  have ae := H.size
  have E := E.trans H
  refine dV 0 rfl rfl rfl (fun _ => Ze rfl) (dV 1 rfl rfl rfl (fun _ => Ze rfl) ?_)
  have D := (q.ch0 B).ch0 H
  refine dT 2 rfl rfl rfl (Qr D Pair.len el25 sz57 rfl rfl rfl om fun af ag a I => ?_)
  refine dV 3 rfl rfl rfl (fun _ => Zk fa57_0 rfl) ?_
  refine dT 4 rfl rfl rfl (Qh I (fun i hi => absurd hi List.not_mem_nil) agg3 rfl rfl ?_)
  refine dO 5 (Yl rfl rfl rfl ?_)
  refine Step.call (Zv (xs := [.tmp 14, .const (Go.Value.int Go.IntKind.i64 0), .const (Go.Value.int Go.IntKind.i64 4)]) fk52 rfl) (Zbe _ _ _ ) fun ah ai J => ?_
  obtain ⟨rfl, K⟩ := J
  have aj := K.size
  have E := E.trans K
  have r : Ch [] G ai := ((Ch.refl _ _).trans K)
  refine ⟨r, ?_⟩
  refine dV 6 rfl rfl rfl (fun _ => Qy rfl) (dV 7 rfl rfl rfl (fun _ => Ze rfl) ?_)
  refine Qe (d := 17) rfl (fun b => ?_) (fun b => ?_)
  ·have L := b
   have b := Yr (Xx b)
   refine dK 8 rfl rfl rfl (dK 9 rfl rfl rfl (dK 10 rfl rfl rfl (dK 11 rfl rfl rfl (dK 12 rfl rfl rfl (dK 13 rfl rfl rfl (dK 14 rfl rfl rfl (dV 15 rfl rfl rfl (fun _ => Yv rfl rfl) ?_)))))))
   refine dV 16 rfl rfl rfl (fun _ => Ze rfl) (dK 17 rfl rfl rfl (dK 18 rfl rfl rfl (dK 19 rfl rfl rfl (dK 20 rfl rfl rfl (dK 21 rfl rfl rfl (dK 22 rfl rfl rfl (dK 23 rfl rfl rfl ?_)))))))
   refine dK 24 rfl rfl rfl (dK 25 rfl rfl rfl (dK 26 rfl rfl rfl (dK 27 rfl rfl rfl (dK 28 rfl rfl rfl (dK 29 rfl rfl rfl (dK 30 rfl rfl rfl (dK 31 rfl rfl rfl ?_)))))))
   refine dV 32 rfl rfl rfl (fun _ => Yv rfl rfl) ?_
   refine Yk (by kernel_rfl) ?_
   refine Zb (H9 _ _ ?_)
   refine Zba rfl ?_
   refine Zg fun aC ak => ?_
   refine Zc (Za rfl rfl (Zd rfl) (Zf (Zb (ak _ _ ?_))))
   refine Zl (Zp (Zi (Zi (Zp (Zi ?_)))))
   clear H2 H8
   exact Zh [_] ⟨rfl, trivial⟩ ⟨congrArg Value.bool (Yb (fun e => by first | (have m := Yu e a; unfold okP at m; omega) | (have m := Yu e g; unfold okP at m; omega) | (have m := Zaw e om n h; exact f m))), E⟩
  have L := b
  have b := Yq (Xy b)
  refine dV 8 rfl rfl rfl (fun _ => Ze rfl) (dV 9 rfl rfl rfl (fun _ => Ze rfl) ?_)
  refine dT 10 rfl rfl rfl (Qr D Pair.len el25 sz57 rfl rfl rfl om fun al am g M => ?_)
  refine dV 11 rfl rfl rfl (fun _ => Zk fa57_1 rfl) ?_
  refine dT 12 rfl rfl rfl (Qh M (fun i hi => absurd hi List.not_mem_nil) agg3 rfl rfl ?_)
  refine dO 13 (Yl rfl rfl rfl ?_)
  refine Step.call (Zv (xs := [.tmp 22, .const (Go.Value.int Go.IntKind.i64 0), .const (Go.Value.int Go.IntKind.i64 4)]) fk52 rfl) (Zbe _ _ _ ) fun an ao O => ?_
  obtain ⟨rfl, P⟩ := O
  have ap := P.size
  have E := E.trans P
  have s : Ch [] G ao := (r.trans P)
  refine ⟨s, ?_⟩
  refine dV 14 rfl rfl rfl (fun _ => Qy rfl) (dV 15 rfl rfl rfl (fun _ => Yp rfl rfl) (dV 16 rfl rfl rfl (fun _ => Ze rfl) ?_))
  refine Qe (d := 26) rfl (fun c => ?_) (fun c => ?_)
  ·have Q := c
   have c := Yr (Xx c)
   refine dK 17 rfl rfl rfl (dK 18 rfl rfl rfl (dK 19 rfl rfl rfl (dK 20 rfl rfl rfl (dK 21 rfl rfl rfl (dK 22 rfl rfl rfl (dK 23 rfl rfl rfl (dK 24 rfl rfl rfl ?_)))))))
   refine dK 25 rfl rfl rfl (dK 26 rfl rfl rfl (dK 27 rfl rfl rfl (dK 28 rfl rfl rfl (dK 29 rfl rfl rfl (dK 30 rfl rfl rfl (dK 31 rfl rfl rfl (dV 32 rfl rfl rfl (fun _ => Yv rfl rfl) ?_)))))))
   refine Yk (by kernel_rfl) ?_
   refine Zb (H9 _ _ ?_)
   refine Zba rfl ?_
   refine Zg fun aD aq => ?_
   refine Zc (Za rfl rfl (Zd rfl) (Zf (Zb (aq _ _ ?_))))
   refine Zl (Zp (Zi (Zi (Zp (Zi ?_)))))
   clear H2 H8
   exact Zh [_] ⟨rfl, trivial⟩ ⟨congrArg Value.bool (Yb (fun e => by first | (have m := Yu e a; unfold okP at m; omega) | (have m := Yu e g; unfold okP at m; omega) | (have m := Zaw e om n h; exact f m))), E⟩
  have Q := c
  have c := Yq (Xy c)
  refine dV 17 rfl rfl rfl (fun _ => Ze rfl) (dV 18 rfl rfl rfl (fun _ => Zfc rfl rfl) (dV 19 rfl rfl rfl (fun _ => Ze rfl) ?_))
  refine Qe (d := 29) rfl (fun o => ?_) (fun o => ?_)
  ·have R := o
   have o := Yq o
   refine dV 20 rfl rfl rfl (fun _ => Ze rfl) (dV 21 rfl rfl rfl (fun _ => Ze rfl) (dV 22 rfl rfl rfl (fun _ => Xm om rfl rfl) ?_))
   refine dT 23 rfl rfl rfl (Qr (j := (((k : Nat) : Int) - 1).toNat) D Pair.len el25 sz57 rfl rfl om om fun au S n T => ?_)
   refine dT 24 rfl rfl rfl (Xg T (fun i hi => absurd hi List.not_mem_nil) agg57 sz57 rfl ?_)
   refine dV 25 rfl rfl rfl (fun _ => Ze rfl) (dV 26 rfl rfl rfl (fun _ => Ze rfl) ?_)
   refine dT 27 rfl rfl rfl (Qr D Pair.len el25 sz57 rfl rfl rfl om fun av U h V => ?_)
   refine dT 28 rfl rfl rfl (Xg V (fun i hi => absurd hi List.not_mem_nil) agg57 sz57 rfl ?_)
   refine dO 29 (Yl rfl rfl rfl ?_)
   refine Step.call (Zv (xs := [.tmp 34, .tmp 38]) fk53 rfl) (Zbm S U ) fun aw ax X => ?_
   obtain ⟨rfl, Y⟩ := X
   have ay := Y.size
   have E := E.trans Y
   have C : Ch [] G ax := (s.trans Y)
   refine ⟨C, ?_⟩
   refine dV 30 rfl rfl rfl (fun _ => Qy rfl) (dV 31 rfl rfl rfl (fun _ => Yv rfl rfl) (dV 32 rfl rfl rfl (fun _ => Yp rfl rfl) ?_))
   refine Yk (by kernel_rfl) ?_
   refine Zb (H9 _ _ ?_)
   refine Zo rfl (fun f => ?_) (fun f => ?_)
   ·have Z := f
    have f := bf_t (Xx f)
    refine Zg fun aE az => ?_
    refine Zc (Za rfl rfl (Zd rfl) (Zf (Zb (az _ _ ?_))))
    refine Zl (Zp (Zi (Zi (Zp (Zi ?_)))))
    clear H2 H8
    exact Zh [_] ⟨rfl, trivial⟩ ⟨congrArg Value.bool (Yb (fun e => by first | (have m := Yu e a; unfold okP at m; omega) | (have m := Yu e g; unfold okP at m; omega) | (have m := Zaw e om n h; exact f m))), E⟩
   have Z := f
   have f := bt_t (Xy f)
   refine Zm ?_
   refine Yd (Zb (H8 _ _ (Zc (Za rfl rfl (Ze rfl) (Za rfl rfl (Yx om rfl rfl) (Za rfl rfl (Zd rfl) (Zf ?_)))))))
   exact Zb (Exists.intro (k + 1) ⟨⟨E, om, om, (by rw [a] at g; cases g; first | exact Xk A a ⟨b.1, b.2, c.1, c.2⟩ (fun j p hj => absurd hj om) | (refine Xk A a ⟨b.1, b.2, c.1, c.2⟩ (fun j p hj hp => ?_); obtain rfl : j = ((k : Int) - 1).toNat := om; rw [n] at hp; cases hp; rw [a] at h; cases h; exact f))⟩, sC2 rfl rfl (Sub.nil _), (by first | omega | (dsimp only; omega))⟩)
  have R := o
  have o := Yr o
  refine dK 20 rfl rfl rfl (dK 21 rfl rfl rfl (dK 22 rfl rfl rfl (dK 23 rfl rfl rfl (dK 24 rfl rfl rfl (dK 25 rfl rfl rfl (dK 26 rfl rfl rfl (dK 27 rfl rfl rfl ?_)))))))
  refine dK 28 rfl rfl rfl (dK 29 rfl rfl rfl (dK 30 rfl rfl rfl (dV 31 rfl rfl rfl (fun _ => Yp rfl rfl) (dV 32 rfl rfl rfl (fun _ => Yp rfl rfl) ?_))))
  refine Yk (by kernel_rfl) ?_
  refine Zb (H9 _ _ ?_)
  refine Zbr rfl ?_
  refine Zm ?_
  refine Yd (Zb (H8 _ _ (Zc (Za rfl rfl (Ze rfl) (Za rfl rfl (Yx om rfl rfl) (Za rfl rfl (Zd rfl) (Zf ?_)))))))
  exact Zb (Exists.intro (k + 1) ⟨⟨E, om, om, (by rw [a] at g; cases g; first | exact Xk A a ⟨b.1, b.2, c.1, c.2⟩ (fun j p hj => absurd hj om) | (refine Xk A a ⟨b.1, b.2, c.1, c.2⟩ (fun j p hj hp => ?_); obtain rfl : j = ((k : Int) - 1).toNat := om; rw [n] at hp; cases hp; rw [a] at h; cases h; exact f))⟩, sC2 rfl rfl (Sub.nil _), (by first | omega | (dsimp only; omega))⟩)
 have ad := t
 have t := Yr t
 refine Xw (Zr (Zr (Xi ?_)))
 refine Zb (H2 _ _ ?_)
 refine Zg fun aF aA => ?_
 refine Zc (Za rfl rfl (Zd rfl) (Zf (Zb (aA _ _ ?_))))
 refine Zl ?_
 exact Zh [_] ⟨rfl, trivial⟩ ⟨congrArg Value.bool (Xd (Zep A om)), E⟩

/-- spec.l2Cut -/
theorem Zcm {w : World} (s : List UInt8) (sep : Int) (hb : s.length ≤ 4194304) :
 Ctr Tryd.prog 33 #[(bst s), (.int .u8 sep)] w (fun v w' => Ol scs 9 1 w' v (Zj s sep []) ∧ Lo w.heap.size v ∧ Ch [] w w') := by
 have E := Ch.refl [] w
 refine Zx (N := 35) (vs0 := [(bst s), (.int .u8 sep)]) Tryd.func33 rfl rfl rfl ?_
 refine Zg fun K1 H1 => ?_
 refine Zc (Za rfl rfl (Zd rfl) (Zf (Zb (H1 _ _ ?_))))
 refine Zg fun K2 H2 => ?_
 refine Zc (Ye rfl rfl ?_)
 refine Ym (k := 1) scs el60 sz9 fun aC W3 L A C3 => ?_
 have aD := C3.size
 have E := E.trans C3
 obtain ⟨l, m, rfl, af, M⟩ := L.opn
 refine Za rfl rfl (Zd rfl) (Zf (Zb (H2 _ _ ?_)))
 refine Zg fun K4 H4 => ?_
 refine Zc (Za rfl rfl (Zd rfl) (Zf (Zb (H4 _ _ ?_))))
 refine Zg fun K5 H5 => ?_
 refine Zg fun K6 H6 => ?_
 refine Zc (Za rfl rfl (Zd rfl) (Zf (Zb (H6 _ _ ?_))))
 refine Ya ?_
 have n : Ol scs 9 1 W3 (.slice l (([] : List (List UInt8))).length m) (([] : List (List UInt8))) := by
  have hx := L
  exact hx
 refine Qk (σ := Nat × Nat × List (List UInt8) × Value) (fun ⟨i, f, out, ov⟩ => [(0, (bst s)), (1, (.int .u8 sep)), (4, (.slice none 0 0)), (5, ov), (6, (.int .i64 ((f : Nat) : Int))), (7, (.int .i64 ((i : Nat) : Int)))]) (fun ⟨i, f, out, ov⟩ wx => Ch [] w wx ∧ W3.heap.size ≤ wx.heap.size ∧ (f ≤ i ∧ i ≤ s.length) ∧ (out ++ Zj (s.drop i) sep ((s.drop f).take (i - f)) = Zj s sep []) ∧ Ol scs 9 1 wx ov out ∧ Lo w.heap.size ov) (fun ⟨i, f, out, ov⟩ => s.length - i) (0, 0, ([] : List (List UInt8)), (.slice l (([] : List (List UInt8))).length m)) (sC4 rfl rfl rfl rfl (sC2 rfl rfl (Sub.nil _))) ⟨E, (Nat.le_refl _), om, Zfl, n, A⟩ ?_
 rintro ⟨i, f, out, ov⟩ R8 ⟨E, ag, hi, hc, d, a⟩
 have B := E
 have O := B.size
 obtain ⟨Aov, Cov, rfl, lov, hiov⟩ := d.opn
 have ah := congrArg List.length hc
 have aE := Qj s sep []
 rw [List.length_append] at ah
 refine Zg fun K9 H9 => ?_
 refine Zg fun aF ai => ?_
 refine Zc (Za rfl rfl (Ze rfl) (Za rfl rfl (Ze rfl) (Za rfl rfl (Zcw un9 rfl) (Za rfl rfl (Xt rfl rfl) (Zf (Zb (ai _ _ ?_)))))))
 refine Zo rfl (fun c => ?_) (fun c => ?_)
 ·have C := c
  have c := Yq c
  refine Zm ?_
  refine Zb (H9 _ _ ?_)
  refine Zg fun aG P => ?_
  refine Ya ?_
  refine Zg fun aH aj => ?_
  refine Zc (Za rfl rfl (Ze rfl) (Za rfl rfl (Ze rfl) (Za rfl rfl (Yf om un9 rfl rfl) (Za rfl rfl (Ze rfl) (Za rfl rfl (Zfz rfl rfl) (Zf (Zb (aj _ _ ?_))))))))
  refine Zo rfl (fun b => ?_) (fun b => ?_)
  ·have D := b
   have b := Yq b
   refine Zg fun aI ak => ?_
   refine Zc (Za rfl rfl (Ze rfl) (Za rfl rfl (Ze rfl) (Za rfl rfl (Ze rfl) (Za rfl rfl (Ze rfl) (Za rfl rfl (Zhi om un9 rfl rfl rfl) (Ye rfl rfl ?_))))))
   refine Zw (cs := scs) (parts := [(0, .tmp 24)]) ([] : List UInt8) [((s.drop f).take (i - f))] el60 sz9 zr9 Xc (by decide) rfl rfl rfl (by decide) (by decide) rfl fun al aJ o Q F => ?_
   have am := F.size
   have E := E.trans F
   obtain ⟨R, S, rfl, T, G⟩ := o.opn
   refine Ye rfl rfl ?_
   have an := d.ch0 F
   refine Yy (cs := scs) el60 sz9 by9 zr9 rfl (by decide) Zcs an o.ls rfl rfl bd bd a om fun ao ap p q U V => ?_
   have aq := V.size
   have E := E.step V (fun i hi => .inl (by have au := a _ hi; omega))
   obtain ⟨e, g, rfl, X, H⟩ := p.opn
   refine Za rfl rfl (Zd rfl) (Zf (Zb (ak _ _ (Zc (Za rfl rfl (Ze rfl) (Za rfl rfl (Yx om rfl rfl) (Za rfl rfl (Zd rfl) (Zf ?_))))))))
   refine Yd (Zb (P _ _ (Zc (Za rfl rfl (Ze rfl) (Za rfl rfl (Yx om rfl rfl) (Za rfl rfl (Zd rfl) (Zf ?_)))))))
   have h : Ol scs 9 1 ap (.slice e ((out ++ [((s.drop f).take (i - f))])).length g) ((out ++ [((s.drop f).take (i - f))])) := by
    have hx := p
    exact hx
   exact Zb (Exists.intro ((i + 1), (i + 1), (out ++ [((s.drop f).take (i - f))]), (.slice e ((out ++ [((s.drop f).take (i - f))])).length g)) ⟨⟨E, om, om, (by first | exact Zen hc om b | exact Zdf hc om om b), h, (Lo.down q om)⟩, sC4 rfl rfl rfl rfl (sC2 rfl rfl (Sub.nil _)), (by first | omega | (dsimp only; omega))⟩)
  have D := b
  have b := Yr b
  refine Zm ?_
  refine Yd (Zb (P _ _ (Zc (Za rfl rfl (Ze rfl) (Za rfl rfl (Yx om rfl rfl) (Za rfl rfl (Zd rfl) (Zf ?_)))))))
  have j : Ol scs 9 1 R8 (.slice Aov (out).length Cov) (out) := by
   have hx := d
   exact hx
  exact Zb (Exists.intro ((i + 1), f, out, (.slice Aov (out).length Cov)) ⟨⟨E, om, om, (by first | exact Zen hc om b | exact Zdf hc om om b), j, (Lo.down a om)⟩, sC4 rfl rfl rfl rfl (sC2 rfl rfl (Sub.nil _)), (by first | omega | (dsimp only; omega))⟩)
 have C := c
 have c := Yr c
 refine Xw (Zr (Zr (Xi ?_)))
 refine Zb (H5 _ _ ?_)
 refine Zg fun aK av => ?_
 refine Zc (Za rfl rfl (Ze rfl) (Za rfl rfl (Ze rfl) (Za rfl rfl (Ze rfl) (Za rfl rfl (Zgx om un9 rfl rfl) (Ye rfl rfl ?_)))))
 refine Zw (cs := scs) (parts := [(0, .tmp 32)]) ([] : List UInt8) [(s.drop f)] el60 sz9 zr9 Xc (by decide) rfl rfl rfl (by decide) (by decide) rfl fun aw aL r Y I => ?_
 have ax := I.size
 have E := E.trans I
 obtain ⟨Z, aa, rfl, ab, J⟩ := r.opn
 refine Ye rfl rfl ?_
 have ay := d.ch0 I
 refine Yy (cs := scs) el60 sz9 by9 zr9 rfl (by decide) Zcs ay r.ls rfl rfl bd bd a om fun az aA t u ac ad => ?_
 have aB := ad.size
 have E := E.step ad (fun i hi => .inl (by have au := a _ hi; omega))
 obtain ⟨x, y, rfl, ae, K⟩ := t.opn
 refine Za rfl rfl (Zd rfl) (Zf (Zb (av _ _ ?_)))
 refine Zl ?_
 have z : Ol scs 9 1 aA (.slice x ((out ++ [(s.drop f)])).length y) (Zj s sep []) := by
  have hx := t
  exact hx.eq (Zgw hc om)
 exact Zh [_] ⟨rfl, trivial⟩ ⟨z, Lo.down u om, E⟩

/-- spec.ParsePairs -/
theorem Zal {w : World} (s : List UInt8) (hb : s.length ≤ 1048576) :
 Ctr Tryd.prog 12 #[(bst s)] w (fun v w' => ∃ (be : Value), v = .tuple #[be, .bool ((ppR s).2)] ∧ Ol Pair.cs 57 2 w' be ((ppR s).1) ∧ Lo w.heap.size be ∧ Ch [] w w') := by
 have E := Ch.refl [] w
 have cS := Qj s 32 []
 refine Zx (N := 53) (vs0 := [(bst s)]) Tryd.func12 rfl rfl rfl ?_
 refine Zg fun K1 H1 => ?_
 refine Zc (Za rfl rfl (Zd rfl) (Za rfl rfl (Zd rfl) (Zf (Zb (H1 _ _ ?_)))))
 refine Zg fun K2 H2 => ?_
 refine Zc (Ye rfl rfl ?_)
 refine Ym (k := 2) Pair.cs el25 sz57 fun cT W3 bf aq C3 => ?_
 have cU := C3.size
 have E := E.trans C3
 obtain ⟨S, T, rfl, bR, aJ⟩ := bf.opn
 refine Za rfl rfl (Zd rfl) (Zf (Zb (H2 _ _ ?_)))
 refine Zg fun K4 H4 => ?_
 refine Zg fun K5 H5 => ?_
 refine Zc (Za rfl rfl (Ze rfl) (Za rfl rfl (Zft rfl rfl) (Zf (Zb (H5 _ _ ?_)))))
 refine Zo rfl (fun l => ?_) (fun l => ?_)
 ·have bS := l
  have l := Yq l
  refine Zg fun K7 H7 => ?_
  refine Zc (Za rfl rfl (Ze rfl) (Za rfl rfl (Zd rfl) (Za rfl rfl (Zd rfl) (Zf (Zb (H7 _ _ ?_))))))
  refine Zl (Zi ?_)
  have bg : Ol Pair.cs 57 2 W3 (.slice S (([] : List Pair)).length T) ((ppR s).1) := by
   have hx := bf
   first | exact hx.eq (congrArg Prod.fst (Xa l)) | exact hx.eq (congrArg Prod.fst (Zz l a om)) | exact hx.eq (congrArg Prod.fst (Yh l c om)) | exact hx.eq (congrArg Prod.fst (Yi l F c om))
  exact Zh [_, _] ⟨rfl, ⟨rfl, trivial⟩⟩ ⟨(.slice S (([] : List Pair)).length T), (congrArg (fun zq => (Value.tuple #[(.slice S (([] : List Pair)).length T), .bool zq])) (by first | exact congrArg Prod.snd (Xa l) | exact congrArg Prod.snd (Zz l a om) | exact congrArg Prod.snd (Yh l c om) | exact congrArg Prod.snd (Yi l F c om))), bg, (Lo.down aq om), E⟩
 have bS := l
 have l := Yr l
 refine Zm ?_
 refine Zb (H4 _ _ ?_)
 refine Zg fun K9 H9 => ?_
 refine Zc (Za rfl rfl (Ze rfl) (Ye rfl rfl ?_))
 refine Step.call (Zv (xs := [.tmp 11, .const (Go.Value.int Go.IntKind.u8 32)]) fk33 rfl) (Zcm s _ om) fun bT bA ah => ?_
 obtain ⟨ah, A, bh⟩ := ah
 have bU := bh.size
 have E := E.trans bh
 obtain ⟨U, V, rfl, bB, z⟩ := ah.opn
 refine Za rfl rfl (Zd rfl) (Zf (Zb (H9 _ _ ?_)))
 refine Zg fun cV bi => ?_
 refine Zg fun cW bV => ?_
 refine Zc (Za rfl rfl (Zd rfl) (Zf (Zb (bV _ _ ?_))))
 refine Ya ?_
 have bW := bf.ch0 bh
 have au : Ol Pair.cs 57 2 bA (.slice S (([] : List Pair)).length T) (((Zj s 32 []).take 0).map prP) := by
  have hx := bW
  simpa using hx
 refine Qk (σ := Nat × Value) (fun ⟨i, ov⟩ => [(4, ov), (5, (.slice U (Zj s 32 []).length V)), (6, (.int .i64 ((i : Nat) : Int)))]) (fun ⟨i, ov⟩ wx => Ch [] w wx ∧ bA.heap.size ≤ wx.heap.size ∧ (i ≤ (Zj s 32 []).length ∧ i ≤ 31) ∧ (TwoP (Zj s 32 []) i) ∧ Ol scs 9 1 wx (.slice U (Zj s 32 []).length V) (Zj s 32 []) ∧ Ol Pair.cs 57 2 wx ov (((Zj s 32 []).take i).map prP) ∧ Lo w.heap.size ov ∧ (∀ g ∈ bl ov, g ∉ bl (.slice U (Zj s 32 []).length V))) (fun ⟨i, ov⟩ => (Zj s 32 []).length - i) (0, (.slice S (([] : List Pair)).length T)) (sC2 rfl rfl (sC1 rfl (Sub.nil _))) ⟨E, (Nat.le_refl _), om, (Zda _), ah, au, aq, (fun g hm hg => by have aE := aq _ hm; have F := aJ _ hm; have aF := A _ hg; have aG := z _ hg; omega)⟩ ?_
 rintro ⟨i, ov⟩ cX ⟨E, bX, hi, F, X, p, j, b⟩
 have bj := E
 have bC := bj.size
 obtain ⟨Aov, Cov, rfl, lov, hiov⟩ := p.opn
 refine Zg fun cY bk => ?_
 refine Zg fun cZ bD => ?_
 refine Zc (Za rfl rfl (Ze rfl) (Za rfl rfl (Ze rfl) (Za rfl rfl (Zav (by rw [el60]; rfl) rfl) (Za rfl rfl (Xt rfl rfl) (Za rfl rfl (Ze rfl) ?_)))))
 refine Qa (d := 17) rfl (fun O => ?_) (fun O => ?_)
 ·have bm := O
  have O := Yq O
  refine Za rfl rfl (Ze rfl) (Za rfl rfl (Zgd rfl rfl) (Za rfl rfl (Yv rfl rfl) (Zf (Zb (bD _ _ ?_)))))
  refine Zo rfl (fun P => ?_) (fun P => ?_)
  ·have bn := P
   have P := Yq P
   refine Zm ?_
   refine Zb (bk _ _ ?_)
   refine Zg fun c0 av => ?_
   refine Ya ?_
   refine Zg fun c1 bE => ?_
   refine Zg fun c2 bY => ?_
   refine Zc (Za rfl rfl (Ze rfl) (Za rfl rfl (Ze rfl) (Ye rfl rfl ?_)))
   refine (Yz X.ls Xc el60 sz9 rfl rfl rfl om fun bZ b0 a bp => ?_)
   refine Za rfl rfl (Zy bp agg9 rfl rfl) (Za rfl rfl (Zcw un9 rfl) (Za rfl rfl (Zbj rfl rfl) (Zf (Zb (bY _ _ ?_)))))
   refine Zo rfl (fun Q => ?_) (fun Q => ?_)
   ·have bq := Q
    have Q := Yr (Xx Q)
    refine Zg fun c3 b1 => ?_
    refine Zc (Ye rfl rfl ?_)
    refine Ym (k := 2) Pair.cs el25 sz57 fun b2 b3 aK aL bF => ?_
    have b4 := bF.size
    have E := E.trans bF
    obtain ⟨Y, Z, rfl, bG, br⟩ := aK.opn
    refine Za rfl rfl (Zd rfl) (Za rfl rfl (Zd rfl) (Zf (Zb (b1 _ _ ?_))))
    refine Zl (Zi (Zp (Zi (Zi (Zp (Zi ?_))))))
    clear bi av bE
    have aM : Ol Pair.cs 57 2 b3 (.slice Y (([] : List Pair)).length Z) ((ppR s).1) := by
     have hx := aK
     first | exact hx.eq (congrArg Prod.fst (Xa l)) | exact hx.eq (congrArg Prod.fst (Zz l a om)) | exact hx.eq (congrArg Prod.fst (Yh l c om)) | exact hx.eq (congrArg Prod.fst (Yi l F c om))
    exact Zh [_, _] ⟨rfl, ⟨rfl, trivial⟩⟩ ⟨(.slice Y (([] : List Pair)).length Z), (congrArg (fun zq => (Value.tuple #[(.slice Y (([] : List Pair)).length Z), .bool zq])) (by first | exact congrArg Prod.snd (Xa l) | exact congrArg Prod.snd (Zz l a om) | exact congrArg Prod.snd (Yh l c om) | exact congrArg Prod.snd (Yi l F c om))), aM, (Lo.down aL om), E⟩
   have bq := Q
   have Q := Yq (Xy Q)
   refine Zm ?_
   refine Zb (bE _ _ ?_)
   refine Zah (bl (.slice Aov (((Zj s 32 []).take i).map prP).length Cov)) 19 mixed rfl fun R ag => ?_
   have b5 := ag.size
   have E := E.trans ag
   refine dV 0 rfl rfl rfl (fun _ => Ze rfl) (dV 1 rfl rfl rfl (fun _ => Ze rfl) (dV 2 rfl rfl rfl (fun _ => Ze rfl) (dV 8 rfl rfl rfl (fun _ => Ze rfl) (dV 9 rfl rfl rfl (fun _ => Ze rfl) ?_))))
   refine Zch 3 10 (by kernel_rfl) ?_ ?_
   ·refine Yl rfl rfl rfl ?_
    have aH := X.ch0 ag
    refine (Yz aH.ls Xc el60 sz9 rfl rfl rfl om fun aN e q G => ?_)
    have ai : e.length = 2 := by rw [Zu q a]; omega
    refine ⟨(Ch.refl _ _), ?_⟩
    refine Zch 4 10 (by kernel_rfl) ?_ ?_
    ·refine Yl rfl rfl rfl ?_
     refine s_v (Zy G agg9 rfl rfl) ?_
     refine ⟨(Ch.refl _ _), ?_⟩
     refine dV 5 rfl rfl rfl (fun _ => Yf om un9 rfl rfl) (dV 6 rfl rfl rfl (fun _ => Zq (Xb _ _) (by rw [un5]; rfl) un3 rfl) (dV 7 rfl rfl rfl (fun _ => Xm (by have aa := Ys e (Int.toNat 0); omega) rfl rfl) (dO 10 (Yl rfl rfl rfl ?_))))
     refine (Yz aH.ls Xc el60 sz9 rfl rfl rfl om fun aO h r H => ?_)
     have aj : h.length = 2 := by rw [Zu r a]; omega
     refine ⟨(Ch.refl _ _), ?_⟩
     refine dO 11 (Yl rfl rfl rfl ?_)
     refine s_v (Zy H agg9 rfl rfl) ?_
     refine ⟨(Ch.refl _ _), ?_⟩
     refine dV 12 rfl rfl rfl (fun _ => Yf om un9 rfl rfl) (dV 13 rfl rfl rfl (fun _ => Zq (Xb _ _) (by rw [un5]; rfl) un3 rfl) (dV 14 rfl rfl rfl (fun _ => Xm (by have aa := Ys h (Int.toNat 1); omega) rfl rfl) (dV 15 rfl rfl rfl (fun _ => Qp (parts := [(0, .tmp 37), (1, .tmp 44)]) (cells := [(.int .i64 ((bat e 0) - 48)), (.int .i64 ((bat h 1) - 48))]) zr57 pl57 rfl rfl) (dO 16 (Yl rfl rfl rfl ?_)))))
     refine Zw (cs := Pair.cs) (parts := [(0, .tmp 45)]) (⟨0, 0⟩ : Pair) [(⟨((bat e 0) - 48), ((bat h 1) - 48)⟩ : Pair)] el25 sz57 zr57 Pair.len (by decide) rfl rfl rfl (by decide) (by decide) rfl fun ab b6 t I aP => ?_
     have b7 := aP.size
     have E := E.trans aP
     obtain ⟨J, K, rfl, L, B⟩ := t.opn
     have ak : Ch (bl (.slice Aov (((Zj s 32 []).take i).map prP).length Cov)) R b6 := ((Ch.refl _ _).trans aP.of_nil)
     refine ⟨ak, ?_⟩
     refine dO 17 (Yl rfl rfl rfl ?_)
     have b8 := (p.ch0 ag).ch0 aP
     refine Yy (cs := Pair.cs) el25 sz57 by57 zr57 rfl (by decide) Pair.one b8 t.ls rfl rfl bd bd j om fun ac bH u x y a7 => ?_
     have b9 := a7.size
     have E := E.step a7 (fun i hi => .inl (by have aE := j _ hi; omega))
     obtain ⟨m, n, rfl, M, o⟩ := u.opn
     have aQ : Ch (bl (.slice Aov (((Zj s 32 []).take i).map prP).length Cov)) R bH := (ak.step a7 (fun i hm => by exact .inr hm))
     refine ⟨aQ, ?_⟩
     refine dV 18 rfl rfl rfl (fun _ => Zd rfl) ?_
     refine Yk (by kernel_rfl) ?_
     refine Yd (Zb (av _ _ (Zc (Za rfl rfl (Ze rfl) (Za rfl rfl (Yx om rfl rfl) (Za rfl rfl (Zd rfl) (Zf ?_)))))))
     have aw : Ol Pair.cs 57 2 bH (.slice m ((((Zj s 32 []).take i).map prP ++ [(⟨((bat e 0) - 48), ((bat h 1) - 48)⟩ : Pair)])).length n) (((Zj s 32 []).take (i + 1)).map prP) := by
      have hx := u
      (cases Zu q a; cases Zu r a; exact hx.eq (Yn (f := prP) a))
     have ca := (aH.ch0 aP).ch a7 (fun g hg hm => by exact b _ hm hg)
     exact Zb (Exists.intro ((i + 1), (.slice m ((((Zj s 32 []).take i).map prP ++ [(⟨((bat e 0) - 48), ((bat h 1) - 48)⟩ : Pair)])).length n)) ⟨⟨E, om, om, (Xr F a om), ca, aw, (Lo.down x om), (fun g hm hg => by rcases y with ea | ea; (rw [ea] at hm; exact b _ hm hg); (have ad := o _ hm; rw [ea] at hm; have aR := List.mem_singleton.1 hm; have aF := A _ hg; have aG := z _ hg; omega))⟩, sC2 rfl rfl (sC1 rfl (Sub.nil _)), (by first | omega | (dsimp only; omega))⟩)
    refine Yl rfl rfl rfl ?_
    refine (Yz aH.ls Xc el60 sz9 rfl rfl rfl om fun aO h r H => ?_)
    have aj : h.length = 2 := by rw [Zu r a]; omega
    refine ⟨(Ch.refl _ _), ?_⟩
    refine Zch 4 11 (by kernel_rfl) ?_ ?_
    ·refine Yl rfl rfl rfl ?_
     refine s_v (Zy G agg9 rfl rfl) ?_
     refine ⟨(Ch.refl _ _), ?_⟩
     refine dV 5 rfl rfl rfl (fun _ => Yf om un9 rfl rfl) (dV 6 rfl rfl rfl (fun _ => Zq (Xb _ _) (by rw [un5]; rfl) un3 rfl) (dV 7 rfl rfl rfl (fun _ => Xm (by have aa := Ys e (Int.toNat 0); omega) rfl rfl) (dO 11 (Yl rfl rfl rfl ?_))))
     refine s_v (Zy H agg9 rfl rfl) ?_
     refine ⟨(Ch.refl _ _), ?_⟩
     refine dV 12 rfl rfl rfl (fun _ => Yf om un9 rfl rfl) (dV 13 rfl rfl rfl (fun _ => Zq (Xb _ _) (by rw [un5]; rfl) un3 rfl) (dV 14 rfl rfl rfl (fun _ => Xm (by have aa := Ys h (Int.toNat 1); omega) rfl rfl) (dV 15 rfl rfl rfl (fun _ => Qp (parts := [(0, .tmp 37), (1, .tmp 44)]) (cells := [(.int .i64 ((bat e 0) - 48)), (.int .i64 ((bat h 1) - 48))]) zr57 pl57 rfl rfl) (dO 16 (Yl rfl rfl rfl ?_)))))
     refine Zw (cs := Pair.cs) (parts := [(0, .tmp 45)]) (⟨0, 0⟩ : Pair) [(⟨((bat e 0) - 48), ((bat h 1) - 48)⟩ : Pair)] el25 sz57 zr57 Pair.len (by decide) rfl rfl rfl (by decide) (by decide) rfl fun ab cb t I aS => ?_
     have cc := aS.size
     have E := E.trans aS
     obtain ⟨J, K, rfl, L, B⟩ := t.opn
     have al : Ch (bl (.slice Aov (((Zj s 32 []).take i).map prP).length Cov)) R cb := ((Ch.refl _ _).trans aS.of_nil)
     refine ⟨al, ?_⟩
     refine dO 17 (Yl rfl rfl rfl ?_)
     have cd := (p.ch0 ag).ch0 aS
     refine Yy (cs := Pair.cs) el25 sz57 by57 zr57 rfl (by decide) Pair.one cd t.ls rfl rfl bd bd j om fun ac bI u x y a8 => ?_
     have ce := a8.size
     have E := E.step a8 (fun i hi => .inl (by have aE := j _ hi; omega))
     obtain ⟨m, n, rfl, M, o⟩ := u.opn
     have aT : Ch (bl (.slice Aov (((Zj s 32 []).take i).map prP).length Cov)) R bI := (al.step a8 (fun i hm => by exact .inr hm))
     refine ⟨aT, ?_⟩
     refine dV 18 rfl rfl rfl (fun _ => Zd rfl) ?_
     refine Yk (by kernel_rfl) ?_
     refine Yd (Zb (av _ _ (Zc (Za rfl rfl (Ze rfl) (Za rfl rfl (Yx om rfl rfl) (Za rfl rfl (Zd rfl) (Zf ?_)))))))
     have ax : Ol Pair.cs 57 2 bI (.slice m ((((Zj s 32 []).take i).map prP ++ [(⟨((bat e 0) - 48), ((bat h 1) - 48)⟩ : Pair)])).length n) (((Zj s 32 []).take (i + 1)).map prP) := by
      have hx := u
      (cases Zu q a; cases Zu r a; exact hx.eq (Yn (f := prP) a))
     have cf := (aH.ch0 aS).ch a8 (fun g hg hm => by exact b _ hm hg)
     exact Zb (Exists.intro ((i + 1), (.slice m ((((Zj s 32 []).take i).map prP ++ [(⟨((bat e 0) - 48), ((bat h 1) - 48)⟩ : Pair)])).length n)) ⟨⟨E, om, om, (Xr F a om), cf, ax, (Lo.down x om), (fun g hm hg => by rcases y with ea | ea; (rw [ea] at hm; exact b _ hm hg); (have ad := o _ hm; rw [ea] at hm; have aR := List.mem_singleton.1 hm; have aF := A _ hg; have aG := z _ hg; omega))⟩, sC2 rfl rfl (sC1 rfl (Sub.nil _)), (by first | omega | (dsimp only; omega))⟩)
    refine Yl rfl rfl rfl ?_
    refine s_v (Zy H agg9 rfl rfl) ?_
    refine ⟨(Ch.refl _ _), ?_⟩
    refine dV 12 rfl rfl rfl (fun _ => Yf om un9 rfl rfl) (dV 13 rfl rfl rfl (fun _ => Zq (Xb _ _) (by rw [un5]; rfl) un3 rfl) (dV 14 rfl rfl rfl (fun _ => Xm (by have aa := Ys h (Int.toNat 1); omega) rfl rfl) (dO 4 (Yl rfl rfl rfl ?_))))
    refine s_v (Zy G agg9 rfl rfl) ?_
    refine ⟨(Ch.refl _ _), ?_⟩
    refine dV 5 rfl rfl rfl (fun _ => Yf om un9 rfl rfl) (dV 6 rfl rfl rfl (fun _ => Zq (Xb _ _) (by rw [un5]; rfl) un3 rfl) (dV 7 rfl rfl rfl (fun _ => Xm (by have aa := Ys e (Int.toNat 0); omega) rfl rfl) (dV 15 rfl rfl rfl (fun _ => Qp (parts := [(0, .tmp 37), (1, .tmp 44)]) (cells := [(.int .i64 ((bat e 0) - 48)), (.int .i64 ((bat h 1) - 48))]) zr57 pl57 rfl rfl) (dO 16 (Yl rfl rfl rfl ?_)))))
    refine Zw (cs := Pair.cs) (parts := [(0, .tmp 45)]) (⟨0, 0⟩ : Pair) [(⟨((bat e 0) - 48), ((bat h 1) - 48)⟩ : Pair)] el25 sz57 zr57 Pair.len (by decide) rfl rfl rfl (by decide) (by decide) rfl fun ab cg t I aU => ?_
    have ci := aU.size
    have E := E.trans aU
    obtain ⟨J, K, rfl, L, B⟩ := t.opn
    have am : Ch (bl (.slice Aov (((Zj s 32 []).take i).map prP).length Cov)) R cg := ((Ch.refl _ _).trans aU.of_nil)
    refine ⟨am, ?_⟩
    refine dO 17 (Yl rfl rfl rfl ?_)
    have cj := (p.ch0 ag).ch0 aU
    refine Yy (cs := Pair.cs) el25 sz57 by57 zr57 rfl (by decide) Pair.one cj t.ls rfl rfl bd bd j om fun ac bJ u x y a9 => ?_
    have ck := a9.size
    have E := E.step a9 (fun i hi => .inl (by have aE := j _ hi; omega))
    obtain ⟨m, n, rfl, M, o⟩ := u.opn
    have aV : Ch (bl (.slice Aov (((Zj s 32 []).take i).map prP).length Cov)) R bJ := (am.step a9 (fun i hm => by exact .inr hm))
    refine ⟨aV, ?_⟩
    refine dV 18 rfl rfl rfl (fun _ => Zd rfl) ?_
    refine Yk (by kernel_rfl) ?_
    refine Yd (Zb (av _ _ (Zc (Za rfl rfl (Ze rfl) (Za rfl rfl (Yx om rfl rfl) (Za rfl rfl (Zd rfl) (Zf ?_)))))))
    have ay : Ol Pair.cs 57 2 bJ (.slice m ((((Zj s 32 []).take i).map prP ++ [(⟨((bat e 0) - 48), ((bat h 1) - 48)⟩ : Pair)])).length n) (((Zj s 32 []).take (i + 1)).map prP) := by
     have hx := u
     (cases Zu q a; cases Zu r a; exact hx.eq (Yn (f := prP) a))
    have cl := (aH.ch0 aU).ch a9 (fun g hg hm => by exact b _ hm hg)
    exact Zb (Exists.intro ((i + 1), (.slice m ((((Zj s 32 []).take i).map prP ++ [(⟨((bat e 0) - 48), ((bat h 1) - 48)⟩ : Pair)])).length n)) ⟨⟨E, om, om, (Xr F a om), cl, ay, (Lo.down x om), (fun g hm hg => by rcases y with ea | ea; (rw [ea] at hm; exact b _ hm hg); (have ad := o _ hm; rw [ea] at hm; have aR := List.mem_singleton.1 hm; have aF := A _ hg; have aG := z _ hg; omega))⟩, sC2 rfl rfl (sC1 rfl (Sub.nil _)), (by first | omega | (dsimp only; omega))⟩)
   refine Yl rfl rfl rfl ?_
   have aI := X.ch0 ag
   refine (Yz aI.ls Xc el60 sz9 rfl rfl rfl om fun aO h r H => ?_)
   have aj : h.length = 2 := by rw [Zu r a]; omega
   refine ⟨(Ch.refl _ _), ?_⟩
   refine Zch 3 11 (by kernel_rfl) ?_ ?_
   ·refine Yl rfl rfl rfl ?_
    refine (Yz aI.ls Xc el60 sz9 rfl rfl rfl om fun aN e q G => ?_)
    have ai : e.length = 2 := by rw [Zu q a]; omega
    refine ⟨(Ch.refl _ _), ?_⟩
    refine Zch 4 11 (by kernel_rfl) ?_ ?_
    ·refine Yl rfl rfl rfl ?_
     refine s_v (Zy G agg9 rfl rfl) ?_
     refine ⟨(Ch.refl _ _), ?_⟩
     refine dV 5 rfl rfl rfl (fun _ => Yf om un9 rfl rfl) (dV 6 rfl rfl rfl (fun _ => Zq (Xb _ _) (by rw [un5]; rfl) un3 rfl) (dV 7 rfl rfl rfl (fun _ => Xm (by have aa := Ys e (Int.toNat 0); omega) rfl rfl) (dO 11 (Yl rfl rfl rfl ?_))))
     refine s_v (Zy H agg9 rfl rfl) ?_
     refine ⟨(Ch.refl _ _), ?_⟩
     refine dV 12 rfl rfl rfl (fun _ => Yf om un9 rfl rfl) (dV 13 rfl rfl rfl (fun _ => Zq (Xb _ _) (by rw [un5]; rfl) un3 rfl) (dV 14 rfl rfl rfl (fun _ => Xm (by have aa := Ys h (Int.toNat 1); omega) rfl rfl) (dV 15 rfl rfl rfl (fun _ => Qp (parts := [(0, .tmp 37), (1, .tmp 44)]) (cells := [(.int .i64 ((bat e 0) - 48)), (.int .i64 ((bat h 1) - 48))]) zr57 pl57 rfl rfl) (dO 16 (Yl rfl rfl rfl ?_)))))
     refine Zw (cs := Pair.cs) (parts := [(0, .tmp 45)]) (⟨0, 0⟩ : Pair) [(⟨((bat e 0) - 48), ((bat h 1) - 48)⟩ : Pair)] el25 sz57 zr57 Pair.len (by decide) rfl rfl rfl (by decide) (by decide) rfl fun ab cm t I aW => ?_
     have cn := aW.size
     have E := E.trans aW
     obtain ⟨J, K, rfl, L, B⟩ := t.opn
     have an : Ch (bl (.slice Aov (((Zj s 32 []).take i).map prP).length Cov)) R cm := ((Ch.refl _ _).trans aW.of_nil)
     refine ⟨an, ?_⟩
     refine dO 17 (Yl rfl rfl rfl ?_)
     have co := (p.ch0 ag).ch0 aW
     refine Yy (cs := Pair.cs) el25 sz57 by57 zr57 rfl (by decide) Pair.one co t.ls rfl rfl bd bd j om fun ac bK u x y ba => ?_
     have cp := ba.size
     have E := E.step ba (fun i hi => .inl (by have aE := j _ hi; omega))
     obtain ⟨m, n, rfl, M, o⟩ := u.opn
     have aX : Ch (bl (.slice Aov (((Zj s 32 []).take i).map prP).length Cov)) R bK := (an.step ba (fun i hm => by exact .inr hm))
     refine ⟨aX, ?_⟩
     refine dV 18 rfl rfl rfl (fun _ => Zd rfl) ?_
     refine Yk (by kernel_rfl) ?_
     refine Yd (Zb (av _ _ (Zc (Za rfl rfl (Ze rfl) (Za rfl rfl (Yx om rfl rfl) (Za rfl rfl (Zd rfl) (Zf ?_)))))))
     have az : Ol Pair.cs 57 2 bK (.slice m ((((Zj s 32 []).take i).map prP ++ [(⟨((bat e 0) - 48), ((bat h 1) - 48)⟩ : Pair)])).length n) (((Zj s 32 []).take (i + 1)).map prP) := by
      have hx := u
      (cases Zu q a; cases Zu r a; exact hx.eq (Yn (f := prP) a))
     have cq := (aI.ch0 aW).ch ba (fun g hg hm => by exact b _ hm hg)
     exact Zb (Exists.intro ((i + 1), (.slice m ((((Zj s 32 []).take i).map prP ++ [(⟨((bat e 0) - 48), ((bat h 1) - 48)⟩ : Pair)])).length n)) ⟨⟨E, om, om, (Xr F a om), cq, az, (Lo.down x om), (fun g hm hg => by rcases y with ea | ea; (rw [ea] at hm; exact b _ hm hg); (have ad := o _ hm; rw [ea] at hm; have aR := List.mem_singleton.1 hm; have aF := A _ hg; have aG := z _ hg; omega))⟩, sC2 rfl rfl (sC1 rfl (Sub.nil _)), (by first | omega | (dsimp only; omega))⟩)
    refine Yl rfl rfl rfl ?_
    refine s_v (Zy H agg9 rfl rfl) ?_
    refine ⟨(Ch.refl _ _), ?_⟩
    refine dV 12 rfl rfl rfl (fun _ => Yf om un9 rfl rfl) (dV 13 rfl rfl rfl (fun _ => Zq (Xb _ _) (by rw [un5]; rfl) un3 rfl) (dV 14 rfl rfl rfl (fun _ => Xm (by have aa := Ys h (Int.toNat 1); omega) rfl rfl) (dO 4 (Yl rfl rfl rfl ?_))))
    refine s_v (Zy G agg9 rfl rfl) ?_
    refine ⟨(Ch.refl _ _), ?_⟩
    refine dV 5 rfl rfl rfl (fun _ => Yf om un9 rfl rfl) (dV 6 rfl rfl rfl (fun _ => Zq (Xb _ _) (by rw [un5]; rfl) un3 rfl) (dV 7 rfl rfl rfl (fun _ => Xm (by have aa := Ys e (Int.toNat 0); omega) rfl rfl) (dV 15 rfl rfl rfl (fun _ => Qp (parts := [(0, .tmp 37), (1, .tmp 44)]) (cells := [(.int .i64 ((bat e 0) - 48)), (.int .i64 ((bat h 1) - 48))]) zr57 pl57 rfl rfl) (dO 16 (Yl rfl rfl rfl ?_)))))
    refine Zw (cs := Pair.cs) (parts := [(0, .tmp 45)]) (⟨0, 0⟩ : Pair) [(⟨((bat e 0) - 48), ((bat h 1) - 48)⟩ : Pair)] el25 sz57 zr57 Pair.len (by decide) rfl rfl rfl (by decide) (by decide) rfl fun ab cr t I aY => ?_
    have ct := aY.size
    have E := E.trans aY
    obtain ⟨J, K, rfl, L, B⟩ := t.opn
    have ao : Ch (bl (.slice Aov (((Zj s 32 []).take i).map prP).length Cov)) R cr := ((Ch.refl _ _).trans aY.of_nil)
    refine ⟨ao, ?_⟩
    refine dO 17 (Yl rfl rfl rfl ?_)
    have cu := (p.ch0 ag).ch0 aY
    refine Yy (cs := Pair.cs) el25 sz57 by57 zr57 rfl (by decide) Pair.one cu t.ls rfl rfl bd bd j om fun ac bL u x y bb => ?_
    have cv := bb.size
    have E := E.step bb (fun i hi => .inl (by have aE := j _ hi; omega))
    obtain ⟨m, n, rfl, M, o⟩ := u.opn
    have aZ : Ch (bl (.slice Aov (((Zj s 32 []).take i).map prP).length Cov)) R bL := (ao.step bb (fun i hm => by exact .inr hm))
    refine ⟨aZ, ?_⟩
    refine dV 18 rfl rfl rfl (fun _ => Zd rfl) ?_
    refine Yk (by kernel_rfl) ?_
    refine Yd (Zb (av _ _ (Zc (Za rfl rfl (Ze rfl) (Za rfl rfl (Yx om rfl rfl) (Za rfl rfl (Zd rfl) (Zf ?_)))))))
    have aA : Ol Pair.cs 57 2 bL (.slice m ((((Zj s 32 []).take i).map prP ++ [(⟨((bat e 0) - 48), ((bat h 1) - 48)⟩ : Pair)])).length n) (((Zj s 32 []).take (i + 1)).map prP) := by
     have hx := u
     (cases Zu q a; cases Zu r a; exact hx.eq (Yn (f := prP) a))
    have cw := (aI.ch0 aY).ch bb (fun g hg hm => by exact b _ hm hg)
    exact Zb (Exists.intro ((i + 1), (.slice m ((((Zj s 32 []).take i).map prP ++ [(⟨((bat e 0) - 48), ((bat h 1) - 48)⟩ : Pair)])).length n)) ⟨⟨E, om, om, (Xr F a om), cw, aA, (Lo.down x om), (fun g hm hg => by rcases y with ea | ea; (rw [ea] at hm; exact b _ hm hg); (have ad := o _ hm; rw [ea] at hm; have aR := List.mem_singleton.1 hm; have aF := A _ hg; have aG := z _ hg; omega))⟩, sC2 rfl rfl (sC1 rfl (Sub.nil _)), (by first | omega | (dsimp only; omega))⟩)
   refine Yl rfl rfl rfl ?_
   refine s_v (Zy H agg9 rfl rfl) ?_
   refine ⟨(Ch.refl _ _), ?_⟩
   refine dV 12 rfl rfl rfl (fun _ => Yf om un9 rfl rfl) (dV 13 rfl rfl rfl (fun _ => Zq (Xb _ _) (by rw [un5]; rfl) un3 rfl) (dV 14 rfl rfl rfl (fun _ => Xm (by have aa := Ys h (Int.toNat 1); omega) rfl rfl) (dO 3 (Yl rfl rfl rfl ?_))))
   refine (Yz aI.ls Xc el60 sz9 rfl rfl rfl om fun aN e q G => ?_)
   have ai : e.length = 2 := by rw [Zu q a]; omega
   refine ⟨(Ch.refl _ _), ?_⟩
   refine dO 4 (Yl rfl rfl rfl ?_)
   refine s_v (Zy G agg9 rfl rfl) ?_
   refine ⟨(Ch.refl _ _), ?_⟩
   refine dV 5 rfl rfl rfl (fun _ => Yf om un9 rfl rfl) (dV 6 rfl rfl rfl (fun _ => Zq (Xb _ _) (by rw [un5]; rfl) un3 rfl) (dV 7 rfl rfl rfl (fun _ => Xm (by have aa := Ys e (Int.toNat 0); omega) rfl rfl) (dV 15 rfl rfl rfl (fun _ => Qp (parts := [(0, .tmp 37), (1, .tmp 44)]) (cells := [(.int .i64 ((bat e 0) - 48)), (.int .i64 ((bat h 1) - 48))]) zr57 pl57 rfl rfl) (dO 16 (Yl rfl rfl rfl ?_)))))
   refine Zw (cs := Pair.cs) (parts := [(0, .tmp 45)]) (⟨0, 0⟩ : Pair) [(⟨((bat e 0) - 48), ((bat h 1) - 48)⟩ : Pair)] el25 sz57 zr57 Pair.len (by decide) rfl rfl rfl (by decide) (by decide) rfl fun ab cx t I a0 => ?_
   have cy := a0.size
   have E := E.trans a0
   obtain ⟨J, K, rfl, L, B⟩ := t.opn
   have ap : Ch (bl (.slice Aov (((Zj s 32 []).take i).map prP).length Cov)) R cx := ((Ch.refl _ _).trans a0.of_nil)
   refine ⟨ap, ?_⟩
   refine dO 17 (Yl rfl rfl rfl ?_)
   have cz := (p.ch0 ag).ch0 a0
   refine Yy (cs := Pair.cs) el25 sz57 by57 zr57 rfl (by decide) Pair.one cz t.ls rfl rfl bd bd j om fun ac bM u x y bc => ?_
   have cA := bc.size
   have E := E.step bc (fun i hi => .inl (by have aE := j _ hi; omega))
   obtain ⟨m, n, rfl, M, o⟩ := u.opn
   have a1 : Ch (bl (.slice Aov (((Zj s 32 []).take i).map prP).length Cov)) R bM := (ap.step bc (fun i hm => by exact .inr hm))
   refine ⟨a1, ?_⟩
   refine dV 18 rfl rfl rfl (fun _ => Zd rfl) ?_
   refine Yk (by kernel_rfl) ?_
   refine Yd (Zb (av _ _ (Zc (Za rfl rfl (Ze rfl) (Za rfl rfl (Yx om rfl rfl) (Za rfl rfl (Zd rfl) (Zf ?_)))))))
   have aB : Ol Pair.cs 57 2 bM (.slice m ((((Zj s 32 []).take i).map prP ++ [(⟨((bat e 0) - 48), ((bat h 1) - 48)⟩ : Pair)])).length n) (((Zj s 32 []).take (i + 1)).map prP) := by
    have hx := u
    (cases Zu q a; cases Zu r a; exact hx.eq (Yn (f := prP) a))
   have cB := (aI.ch0 a0).ch bc (fun g hg hm => by exact b _ hm hg)
   exact Zb (Exists.intro ((i + 1), (.slice m ((((Zj s 32 []).take i).map prP ++ [(⟨((bat e 0) - 48), ((bat h 1) - 48)⟩ : Pair)])).length n)) ⟨⟨E, om, om, (Xr F a om), cB, aB, (Lo.down x om), (fun g hm hg => by rcases y with ea | ea; (rw [ea] at hm; exact b _ hm hg); (have ad := o _ hm; rw [ea] at hm; have aR := List.mem_singleton.1 hm; have aF := A _ hg; have aG := z _ hg; omega))⟩, sC2 rfl rfl (sC1 rfl (Sub.nil _)), (by first | omega | (dsimp only; omega))⟩)
  have bn := P
  have P := Yr P
  refine Xw (Zr (Zr (Xi ?_)))
  refine Zb (bi _ _ ?_)
  refine Zg fun c4 bN => ?_
  refine Zg fun c5 cC => ?_
  refine Zc (Za rfl rfl (Ze rfl) (Ye rfl rfl ?_))
  refine Step.call (Zv (xs := [.tmp 48]) fk26 rfl) (Qu p.ls ) fun bs cD aC => ?_
  obtain ⟨rfl, bu⟩ := aC
  have cE := bu.size
  have E := E.trans bu
  refine Za rfl rfl (Qy rfl) (Zf (Zb (cC _ _ ?_)))
  refine Zo rfl (fun c => ?_) (fun c => ?_)
  ·have bv := c
   have c := bf_t (Xx c)
   refine Zg fun c6 cF => ?_
   refine Zc (Ye rfl rfl ?_)
   refine Ym (k := 2) Pair.cs el25 sz57 fun bw cG ae af bO => ?_
   have cH := bO.size
   have E := E.trans bO
   obtain ⟨C, D, rfl, a2, aD⟩ := ae.opn
   refine Za rfl rfl (Zd rfl) (Za rfl rfl (Zd rfl) (Zf (Zb (cF _ _ ?_))))
   refine Zl (Zi ?_)
   clear bk bN
   have a3 : Ol Pair.cs 57 2 cG (.slice C (([] : List Pair)).length D) ((ppR s).1) := by
    have hx := ae
    first | exact hx.eq (congrArg Prod.fst (Xa l)) | exact hx.eq (congrArg Prod.fst (Zz l a om)) | exact hx.eq (congrArg Prod.fst (Yh l c om)) | exact hx.eq (congrArg Prod.fst (Yi l F c om))
   exact Zh [_, _] ⟨rfl, ⟨rfl, trivial⟩⟩ ⟨(.slice C (([] : List Pair)).length D), (congrArg (fun zq => (Value.tuple #[(.slice C (([] : List Pair)).length D), .bool zq])) (by first | exact congrArg Prod.snd (Xa l) | exact congrArg Prod.snd (Zz l a om) | exact congrArg Prod.snd (Yh l c om) | exact congrArg Prod.snd (Yi l F c om))), a3, (Lo.down af om), E⟩
  have bv := c
  have c := bt_t (Xy c)
  refine Zm ?_
  refine Zb (bN _ _ ?_)
  refine Zg fun c7 cI => ?_
  refine Zc (Za rfl rfl (Ze rfl) (Za rfl rfl (Zd rfl) (Za rfl rfl (Zd rfl) (Zf (Zb (cI _ _ ?_))))))
  refine Zl ?_
  have cJ := p.ch0 bu
  have a4 : Ol Pair.cs 57 2 cD (.slice Aov (((Zj s 32 []).take i).map prP).length Cov) ((ppR s).1) := by
   have hx := cJ
   first | exact hx.eq (congrArg Prod.fst (Xa l)) | exact hx.eq (congrArg Prod.fst (Zz l a om)) | exact hx.eq (congrArg Prod.fst (Yh l c om)) | exact hx.eq (congrArg Prod.fst (Yi l F c om))
  exact Zh [_, _] ⟨rfl, ⟨rfl, trivial⟩⟩ ⟨(.slice Aov (((Zj s 32 []).take i).map prP).length Cov), (congrArg (fun zq => (Value.tuple #[(.slice Aov (((Zj s 32 []).take i).map prP).length Cov), .bool zq])) (by first | exact congrArg Prod.snd (Xa l) | exact congrArg Prod.snd (Zz l a om) | exact congrArg Prod.snd (Yh l c om) | exact congrArg Prod.snd (Yi l F c om))), a4, (Lo.down j om), E⟩
 have bm := O
 have O := Yr O
 refine Zn rfl rfl (Zn rfl rfl (Za rfl rfl (Yp rfl rfl) (Zf (Zb (bD _ _ ?_)))))
 refine Zbr rfl ?_
 refine Xw (Zr (Zr (Xi ?_)))
 refine Zb (bi _ _ ?_)
 refine Zg fun c8 bP => ?_
 refine Zg fun c9 cK => ?_
 refine Zc (Za rfl rfl (Ze rfl) (Ye rfl rfl ?_))
 refine Step.call (Zv (xs := [.tmp 48]) fk26 rfl) (Qu p.ls ) fun bs cL aC => ?_
 obtain ⟨rfl, bx⟩ := aC
 have cM := bx.size
 have E := E.trans bx
 refine Za rfl rfl (Qy rfl) (Zf (Zb (cK _ _ ?_)))
 refine Zo rfl (fun c => ?_) (fun c => ?_)
 ·have bz := c
  have c := bf_t (Xx c)
  refine Zg fun da cN => ?_
  refine Zc (Ye rfl rfl ?_)
  refine Ym (k := 2) Pair.cs el25 sz57 fun bw cO ae af bQ => ?_
  have cP := bQ.size
  have E := E.trans bQ
  obtain ⟨C, D, rfl, a2, aD⟩ := ae.opn
  refine Za rfl rfl (Zd rfl) (Za rfl rfl (Zd rfl) (Zf (Zb (cN _ _ ?_))))
  refine Zl (Zi ?_)
  clear bk bP
  have a5 : Ol Pair.cs 57 2 cO (.slice C (([] : List Pair)).length D) ((ppR s).1) := by
   have hx := ae
   first | exact hx.eq (congrArg Prod.fst (Xa l)) | exact hx.eq (congrArg Prod.fst (Zz l a om)) | exact hx.eq (congrArg Prod.fst (Yh l c om)) | exact hx.eq (congrArg Prod.fst (Yi l F c om))
  exact Zh [_, _] ⟨rfl, ⟨rfl, trivial⟩⟩ ⟨(.slice C (([] : List Pair)).length D), (congrArg (fun zq => (Value.tuple #[(.slice C (([] : List Pair)).length D), .bool zq])) (by first | exact congrArg Prod.snd (Xa l) | exact congrArg Prod.snd (Zz l a om) | exact congrArg Prod.snd (Yh l c om) | exact congrArg Prod.snd (Yi l F c om))), a5, (Lo.down af om), E⟩
 have bz := c
 have c := bt_t (Xy c)
 refine Zm ?_
 refine Zb (bP _ _ ?_)
 refine Zg fun db cQ => ?_
 refine Zc (Za rfl rfl (Ze rfl) (Za rfl rfl (Zd rfl) (Za rfl rfl (Zd rfl) (Zf (Zb (cQ _ _ ?_))))))
 refine Zl ?_
 have cR := p.ch0 bx
 have a6 : Ol Pair.cs 57 2 cL (.slice Aov (((Zj s 32 []).take i).map prP).length Cov) ((ppR s).1) := by
  have hx := cR
  first | exact hx.eq (congrArg Prod.fst (Xa l)) | exact hx.eq (congrArg Prod.fst (Zz l a om)) | exact hx.eq (congrArg Prod.fst (Yh l c om)) | exact hx.eq (congrArg Prod.fst (Yi l F c om))
 exact Zh [_, _] ⟨rfl, ⟨rfl, trivial⟩⟩ ⟨(.slice Aov (((Zj s 32 []).take i).map prP).length Cov), (congrArg (fun zq => (Value.tuple #[(.slice Aov (((Zj s 32 []).take i).map prP).length Cov), .bool zq])) (by first | exact congrArg Prod.snd (Xa l) | exact congrArg Prod.snd (Zz l a om) | exact congrArg Prod.snd (Yh l c om) | exact congrArg Prod.snd (Yi l F c om))), a6, (Lo.down j om), E⟩

/-- laws.FnExactParsePairs -/
theorem Xv {w : World} (s : List UInt8) {mG : Int} (hG : Ls ics 1 w 0 w.heap.size (.slice (some ⟨0, 0, none⟩) 1 1) [mG])  :
 Ctr Tryd.prog 4 #[(bst s)] w (fun v w' => v = .bool (true) ∧ Ch [] w w') := by
 have E := Ch.refl [] w
 have sl := Zgj s
 refine Zx (N := 66) (vs0 := [(bst s)]) Tryd.func4 rfl rfl rfl ?_
 refine Zg fun K1 H1 => ?_
 refine Zc (Za rfl rfl (Zd rfl) (Zf (Zb (H1 _ _ ?_))))
 refine Zg fun K2 H2 => ?_
 refine Zg fun K3 H3 => ?_
 refine Zc (Za rfl rfl (Ze rfl) (Za rfl rfl (Zcw un9 rfl) (Za rfl rfl (Zfc rfl rfl) (Zf (Zb (H3 _ _ ?_))))))
 refine Zo rfl (fun e => ?_) (fun e => ?_)
 ·have af := e
  have e := Yq e
  refine Zg fun K5 H5 => ?_
  refine Zc (Za rfl rfl (Zd rfl) (Zf (Zb (H5 _ _ ?_))))
  refine Zl (Zi ?_)
  exact Zh [_] ⟨rfl, trivial⟩ ⟨congrArg Value.bool (by first | rfl | (exfalso; omega) | (exfalso; revert e; simp; done) | (exfalso; revert e; simp; omega)), E⟩
 have af := e
 have e := Yr e
 refine Zm ?_
 refine Zb (H2 _ _ ?_)
 refine Zg fun K6 H6 => ?_
 refine Zc (Za rfl rfl (Ze rfl) (Ye rfl rfl ?_))
 refine Step.call (Zv (xs := [.tmp 15]) fk12 rfl) (Zal s om) fun ag W7 F => ?_
 obtain ⟨Y, rfl, k, m, C7⟩ := F
 have aZ := C7.size
 have E := E.trans C7
 obtain ⟨G, H, rfl, I, n⟩ := k.opn
 refine Za rfl rfl (Ze rfl) (Za rfl rfl (Xp rfl rfl) (Za rfl rfl (Xp rfl rfl) (Za rfl rfl (Zd rfl) (Za rfl rfl (Zd rfl) (Zf (Zb (H6 _ _ ?_)))))))
 refine Zg fun K8 H8 => ?_
 refine Zc (Za rfl rfl (Ze rfl) (Ye rfl rfl ?_))
 have F9 := hG.ch0 C7
 refine Step.call (Zv (xs := [.tmp 20]) fk13 rfl) (Xu s (F9.here (by decide)) om) fun ah a0 J => ?_
 obtain ⟨Z, rfl, b, a, B⟩ := J
 have ai := B.size
 have E := E.trans B
 obtain ⟨K, L, rfl, M, o⟩ := b.opn
 refine Za rfl rfl (Ze rfl) (Za rfl rfl (Xp rfl rfl) (Za rfl rfl (Xp rfl rfl) (Za rfl rfl (Zd rfl) (Za rfl rfl (Zd rfl) (Zf (Zb (H8 _ _ ?_)))))))
 refine Zg fun a1 aj => ?_
 refine Zg fun a2 aa => ?_
 refine Zc (Za rfl rfl (Ze rfl) (Za rfl rfl (Ze rfl) (Ye rfl rfl ?_)))
 have ab := k.ch0 B
 refine Step.call (Zv (xs := [.tmp 24, .tmp 25]) fk11 rfl) (Zaa b.ls ab.ls ) fun ak a3 O => ?_
 obtain ⟨rfl, r⟩ := O
 have al := r.size
 have E := E.trans r
 refine Za rfl rfl (Qy rfl) (Za rfl rfl (Ze rfl) ?_)
 refine Qa (d := 28) rfl (fun f => ?_) (fun f => ?_)
 ·have t := f
  have f := Yr (Xx f)
  refine Zn rfl rfl (Zn rfl rfl (Zn rfl rfl (Za rfl rfl (Yv rfl rfl) (Zf (Zb (aa _ _ ?_))))))
  refine Zba rfl ?_
  refine Zg fun a4 am => ?_
  refine Zc (Za rfl rfl (Zd rfl) (Zf (Zb (am _ _ ?_))))
  refine Zl (Zi ?_)
  exact Zh [_] ⟨rfl, trivial⟩ ⟨congrArg Value.bool (by first | rfl | (exfalso; omega) | (exfalso; revert f; simp; done) | (exfalso; revert f; simp; omega)), E⟩
 have t := f
 have f := Yq (Xy f)
 refine Za rfl rfl (Ze rfl) (Za rfl rfl (Ze rfl) (Za rfl rfl (Zfs un4 rfl rfl) (Za rfl rfl (Yp rfl rfl) (Zf (Zb (aa _ _ ?_))))))
 refine Zo rfl (fun h => ?_) (fun h => ?_)
 ·have u := h
  have h := bf_e (Xx h)
  refine Zg fun a5 an => ?_
  refine Zc (Za rfl rfl (Zd rfl) (Zf (Zb (an _ _ ?_))))
  refine Zl (Zi ?_)
  exact Zh [_] ⟨rfl, trivial⟩ ⟨congrArg Value.bool (by first | rfl | (exfalso; omega) | (exfalso; revert h; simp; done) | (exfalso; revert h; simp; omega)), E⟩
 have u := h
 have h := bt_e (Xy h)
 refine Zm ?_
 refine Zb (aj _ _ ?_)
 refine Zg fun a6 ao => ?_
 refine Zc (Za rfl rfl (Zd rfl) (Zf (Zb (ao _ _ ?_))))
 refine Zg fun a7 ap => ?_
 refine Zc (Za rfl rfl (Ze rfl) (Za rfl rfl (Ze rfl) (Ye rfl rfl ?_)))
 have aq := b.ch0 r
 refine Step.call (Zv (xs := [.tmp 33, .tmp 34]) fk14 rfl) (Zar aq _ om (by first | omega | (simp <;> omega))) fun au a8 p => ?_
 obtain ⟨rfl, p, C⟩ := p
 have av := C.size
 have E := E.step C (fun i hi => .inl (by have ac := a _ hi; omega))
 refine Za rfl rfl (Zd rfl) (Zf (Zb (ap _ _ ?_)))
 refine Zg fun a9 aw => ?_
 refine Zc (Za rfl rfl (Zd rfl) (Zf (Zb (aw _ _ ?_))))
 refine Zg fun ba ax => ?_
 refine Zc (Za rfl rfl (Ze rfl) (Za rfl rfl (Ze rfl) (Ye rfl rfl ?_)))
 refine Step.call (Zv (xs := [.tmp 36, .tmp 37]) fk15 rfl) (Qc p.ls _ om (by first | omega | (simp <;> omega))) fun ay bb P => ?_
 obtain ⟨rfl, x⟩ := P
 have az := x.size
 have E := E.trans x
 refine Za rfl rfl (Zd rfl) (Zf (Zb (ax _ _ ?_)))
 refine Zg fun bc aA => ?_
 refine Zg fun be aB => ?_
 refine Zc (Za rfl rfl (Ze rfl) (Za rfl rfl (Xt rfl rfl) (Zf (Zb (aB _ _ ?_)))))
 refine Zo rfl (fun j => ?_) (fun j => ?_)
 ·have y := j
  have j := Yq j
  refine Zg fun bf aC => ?_
  refine Zc (Za rfl rfl (Zd rfl) (Zf (Zb (aC _ _ ?_))))
  refine Zl (Zi ?_)
  exact Zh [_] ⟨rfl, trivial⟩ ⟨congrArg Value.bool (by first | rfl | (exfalso; omega) | (exfalso; revert j; simp; done) | (exfalso; revert j; simp; omega)), E⟩
 have y := j
 have j := Yr j
 refine Zm ?_
 refine Zb (aA _ _ ?_)
 refine Zg fun bg aD => ?_
 refine Zg fun bh aE => ?_
 refine Zc (Za rfl rfl (Ze rfl) (Za rfl rfl (Ze rfl) (Za rfl rfl (Zbj rfl rfl) (Zf (Zb (aE _ _ ?_))))))
 refine Zo rfl (fun c => ?_) (fun c => ?_)
 ·have z := c
  have c := Yr (Xx c)
  refine Zg fun bi aF => ?_
  refine Zc (Za rfl rfl (Zd rfl) (Zf (Zb (aF _ _ ?_))))
  refine Zl (Zi ?_)
  exact Zh [_] ⟨rfl, trivial⟩ ⟨congrArg Value.bool (by first | rfl | (exfalso; omega) | (exfalso; revert c; simp; done) | (exfalso; revert c; simp; omega)), E⟩
 have z := c
 have c := Yq (Xy c)
 refine Zm ?_
 refine Zb (aD _ _ ?_)
 refine Zg fun bj aG => ?_
 refine Zc (Za rfl rfl (Ze rfl) (Ye rfl rfl ?_))
 have aH := (((F9.ch0 B).ch0 r).ch C (fun i hi => by have ac := a _ hi; omega)).ch0 x
 refine Step.call (Zv (xs := [.tmp 45]) fk13 rfl) (Xu s (aH.here (by decide)) om) fun aI bk Q => ?_
 obtain ⟨ad, rfl, l, q, D⟩ := Q
 have aJ := D.size
 have E := E.trans D
 obtain ⟨R, S, rfl, T, A⟩ := l.opn
 refine Za rfl rfl (Ze rfl) (Za rfl rfl (Xp rfl rfl) (Za rfl rfl (Xp rfl rfl) (Za rfl rfl (Zd rfl) (Za rfl rfl (Zd rfl) (Zf (Zb (aG _ _ ?_)))))))
 refine Zg fun bm aK => ?_
 refine Zg fun bn aL => ?_
 refine Zc (Za rfl rfl (Ze rfl) (Za rfl rfl (Ze rfl) (Ye rfl rfl ?_)))
 have aM := (((ab.ch0 r).ch C (fun g hg hm => by have ac := a _ hm; have bp := o _ hm; have bq := m _ hg; have br := n _ hg; omega)).ch0 x).ch0 D
 refine Step.call (Zv (xs := [.tmp 49, .tmp 50]) fk11 rfl) (Zaa l.ls aM.ls ) fun aN bs U => ?_
 obtain ⟨rfl, V⟩ := U
 have aO := V.size
 have E := E.trans V
 refine Za rfl rfl (Qy rfl) (Za rfl rfl (Ze rfl) ?_)
 refine Zet (d := 53) rfl t ?_
 refine Za rfl rfl (Ze rfl) (Za rfl rfl (Ze rfl) (Za rfl rfl (Zfs un4 rfl rfl) (Za rfl rfl (Yp rfl rfl) (Zf (Zb (aL _ _ ?_))))))
 refine Zbx rfl u ?_
 refine Zm ?_
 refine Zb (aK _ _ ?_)
 refine Zg fun bu aP => ?_
 refine Zc (Za rfl rfl (Zd rfl) (Zf (Zb (aP _ _ ?_))))
 refine Zg fun bv aQ => ?_
 refine Zc (Za rfl rfl (Ze rfl) (Za rfl rfl (Ze rfl) (Ye rfl rfl ?_)))
 have aR := ((p.ch0 x).ch0 D).ch0 V
 refine Step.call (Zv (xs := [.tmp 58, .tmp 59]) fk15 rfl) (Qc aR.ls _ om (by first | omega | (simp <;> omega))) fun aS bw X => ?_
 obtain ⟨rfl, ae⟩ := X
 have aT := ae.size
 have E := E.trans ae
 refine Za rfl rfl (Zd rfl) (Zf (Zb (aQ _ _ ?_)))
 refine Zg fun bx aU => ?_
 refine Zg fun bz aV => ?_
 refine Zc (Za rfl rfl (Ze rfl) (Za rfl rfl (Xt rfl rfl) (Zf (Zb (aV _ _ ?_)))))
 refine Zbx rfl y ?_
 refine Zm ?_
 refine Zb (aU _ _ ?_)
 refine Zg fun bA aW => ?_
 refine Zg fun bB aX => ?_
 refine Zc (Za rfl rfl (Ze rfl) (Za rfl rfl (Ze rfl) (Za rfl rfl (Zbj rfl rfl) (Zf (Zb (aX _ _ ?_))))))
 refine Zbx rfl z ?_
 refine Zm ?_
 refine Zb (aW _ _ ?_)
 refine Zg fun bC aY => ?_
 refine Zc (Za rfl rfl (Zd rfl) (Zf (Zb (aY _ _ ?_))))
 refine Zl ?_
 exact Zh [_] ⟨rfl, trivial⟩ ⟨congrArg Value.bool (by first | rfl | (exfalso; omega) | (exfalso; revert c; simp; done) | (exfalso; revert c; simp; omega)), E⟩

end Go.Proofs.YtbnnkffdhnefnaaDoor
