/- Walks of functions that FnExactFormatPairs reaches: what each returns, and that it leaves the memory that was there alone. -/
import Derived.Test.YtbnnkffdhnefnaaDoorLibA
import Derived.Test.YtbnnkffdhnefnaaDoorProg
namespace Go.Proofs.YtbnnkffdhnefnaaDoor
open Go.KLib Go.Shelf
set_option maxHeartbeats 1000000
set_option maxRecDepth 20000
set_option linter.unusedVariables false
set_option linter.unusedSimpArgs false
namespace TExactFormatPairs
theorem agg3 : Yw Tryd.prog 3 = some false := by kernel_rfl
theorem agg57 : Yw Tryd.prog 57 = some true := by kernel_rfl
theorem agg59 : Yw Tryd.prog 59 = some true := by kernel_rfl
theorem by57 : Qr Tryd.prog 57 = some 16 := by kernel_rfl
theorem by9 : Qr Tryd.prog 9 = some 16 := by kernel_rfl
theorem el22 : elB Tryd.prog 22 = some 59 := by kernel_rfl
theorem el25 : elB Tryd.prog 25 = some 57 := by kernel_rfl
theorem el60 : elB Tryd.prog 60 = some 9 := by kernel_rfl
theorem el81 : elB Tryd.prog 81 = some 5 := by kernel_rfl
theorem fa57_0 : faB Tryd.prog 57 0 = some 0 := by kernel_rfl
theorem fa57_1 : faB Tryd.prog 57 1 = some 1 := by kernel_rfl
theorem fa59_0 : faB Tryd.prog 59 0 = some 0 := by kernel_rfl
theorem fa59_1 : faB Tryd.prog 59 1 = some 1 := by kernel_rfl
theorem fk10 : fnB Tryd.prog 10 = true := by kernel_rfl
theorem fk11 : fnB Tryd.prog 11 = true := by kernel_rfl
theorem fk26 : fnB Tryd.prog 26 = true := by kernel_rfl
theorem fk27 : fnB Tryd.prog 27 = true := by kernel_rfl
theorem fk28 : fnB Tryd.prog 28 = true := by kernel_rfl
theorem fk29 : fnB Tryd.prog 29 = true := by kernel_rfl
theorem fk30 : fnB Tryd.prog 30 = true := by kernel_rfl
theorem fk31 : fnB Tryd.prog 31 = true := by kernel_rfl
theorem fk32 : fnB Tryd.prog 32 = true := by kernel_rfl
theorem fk52 : fnB Tryd.prog 52 = true := by kernel_rfl
theorem fk53 : fnB Tryd.prog 53 = true := by kernel_rfl
theorem fk54 : fnB Tryd.prog 54 = true := by kernel_rfl
theorem fk55 : fnB Tryd.prog 55 = true := by kernel_rfl
theorem fk56 : fnB Tryd.prog 56 = true := by kernel_rfl
theorem fk7 : fnB Tryd.prog 7 = true := by kernel_rfl
theorem fk71 : fnB Tryd.prog 71 = true := by kernel_rfl
theorem fk8 : fnB Tryd.prog 8 = true := by kernel_rfl
theorem fk9 : fnB Tryd.prog 9 = true := by kernel_rfl
theorem mixed : Tryd.prog.follows .mixedOrders = true := by kernel_rfl
theorem sz3 : Zn Tryd.prog 3 = some 1 := by kernel_rfl
theorem sz5 : Zn Tryd.prog 5 = some 1 := by kernel_rfl
theorem sz57 : Zn Tryd.prog 57 = some 2 := by kernel_rfl
theorem sz59 : Zn Tryd.prog 59 = some 2 := by kernel_rfl
theorem sz9 : Zn Tryd.prog 9 = some 1 := by kernel_rfl
theorem un3 : Tryd.prog.underlying 3 = some (.int .i64) := by kernel_rfl
theorem un5 : Tryd.prog.underlying 5 = some (.int .u8) := by kernel_rfl
theorem un9 : Tryd.prog.underlying 9 = some (.string) := by kernel_rfl
theorem zr5 : Yu Tryd.prog 5 = some (.int .u8 0) := by kernel_rfl
theorem zr57 : Yu Tryd.prog 57 = some (.agg #[.int .i64 0, .int .i64 0]) := by kernel_rfl
theorem zr9 : Yu Tryd.prog 9 = some (.string ⟨#[]⟩) := by kernel_rfl
end TExactFormatPairs
open TExactFormatPairs

/-- impl.compareInts -/
theorem Yz {w : World} (a : Int) (b : Int) :
 Ctr Tryd.prog 71 #[(.int .i64 a), (.int .i64 b)] w (fun v w' => v = .int .i64 (cmpI a b) ∧ Ch [] w w') := by
 have E := Ch.refl [] w
 refine Zr (N := 13) (vs0 := [(.int .i64 a), (.int .i64 b)]) Tryd.func71 rfl rfl rfl ?_
 refine Zg fun K1 H1 => ?_
 refine Zc (Za rfl rfl (Zd rfl) (Ze (Zb (H1 _ _ ?_))))
 refine Zg fun K2 H2 => ?_
 refine Zw ?_
 refine Zg fun K3 H3 => ?_
 refine Zc (Za rfl rfl (Zf rfl) (Za rfl rfl (Zf rfl) (Za rfl rfl (Xf rfl rfl) (Za rfl rfl (Zd rfl) (Ze (Zb (H3 _ _ ?_)))))))
 refine Zo rfl (fun c => ?_) (fun c => ?_)
 ·have e := c
  have c := Yd c
  refine Zg fun K5 H5 => ?_
  refine Zc (Za rfl rfl (Zd rfl) (Ze (Zb (H5 _ _ ?_))))
  refine Zk (Zs (Zj ?_))
  exact Zh [_] ⟨rfl, trivial⟩ ⟨congrArg (Value.int .i64) (by unfold cmpI; repeat (first | rw [if_pos om] | rw [if_neg om])), E⟩
 have e := c
 have c := Ye c
 refine Zg fun K6 H6 => ?_
 refine Zc (Za rfl rfl (Zf rfl) (Za rfl rfl (Zf rfl) (Za rfl rfl (Zdq rfl rfl) (Za rfl rfl (Zd rfl) (Ze (Zb (H6 _ _ ?_)))))))
 refine Zo rfl (fun d => ?_) (fun d => ?_)
 ·have f := d
  have d := Yd d
  refine Zg fun K8 H8 => ?_
  refine Zc (Za rfl rfl (Zd rfl) (Ze (Zb (H8 _ _ ?_))))
  refine Zk (Zs (Zj ?_))
  exact Zh [_] ⟨rfl, trivial⟩ ⟨congrArg (Value.int .i64) (by unfold cmpI; repeat (first | rw [if_pos om] | rw [if_neg om])), E⟩
 have f := d
 have d := Ye d
 refine Zp ?_
 refine Yg (Zb (H2 _ _ ?_))
 refine Zg fun K9 H9 => ?_
 refine Zc (Za rfl rfl (Zd rfl) (Ze (Zb (H9 _ _ ?_))))
 refine Zk ?_
 exact Zh [_] ⟨rfl, trivial⟩ ⟨congrArg (Value.int .i64) (by unfold cmpI; repeat (first | rw [if_pos om] | rw [if_neg om])), E⟩

/-- impl.comparePairs -/
theorem Qf {w : World} (a : Pair) (b : Pair) :
 Ctr Tryd.prog 55 #[(.agg #[(.int .i64 a.f), (.int .i64 a.t)]), (.agg #[(.int .i64 b.f), (.int .i64 b.t)])] w (fun v w' => v = .int .i64 (cmpP a b) ∧ Ch [] w w') := by
 have E := Ch.refl [] w
 refine Zr (N := 20) (vs0 := [(.agg #[(.int .i64 a.f), (.int .i64 a.t)]), (.agg #[(.int .i64 b.f), (.int .i64 b.t)])]) Tryd.func55 rfl rfl rfl ?_
 refine Zg fun K1 H1 => ?_
 refine Zc (Zx rfl rfl ?_)
 refine Zbk rfl fun j W2 e C2 q => ?_
 have r := C2.size
 have E := E.trans C2
 have s := e.lt
 replace e : Blk W2 j 57 [(.int .i64 a.f), (.int .i64 a.t)] := e
 refine Zx rfl rfl ?_
 refine Zbk rfl fun k W3 d C3 u => ?_
 have x := C3.size
 have E := E.trans C3
 have y := d.lt
 replace d : Blk W3 k 57 [(.int .i64 b.f), (.int .i64 b.t)] := d
 refine Za rfl rfl (Zd rfl) (Ze (Zb (H1 _ _ ?_)))
 refine Zg fun K4 H4 => ?_
 refine Zg fun K5 H5 => ?_
 refine Zc (Za rfl rfl (Zi fa57_0 rfl) ?_)
 have F6 := e.ch0 C3
 refine Za rfl rfl (Zm F6.at_ agg3 rfl rfl) (Za rfl rfl (Zi fa57_0 rfl) (Za rfl rfl (Zm d.at_ agg3 rfl rfl) (Za rfl rfl (Zci rfl rfl) (Ze (Zb (H5 _ _ ?_))))))
 refine Zo rfl (fun c => ?_) (fun c => ?_)
 ·have l := c
  have c := Ye (Qh c)
  refine Zg fun K8 H8 => ?_
  refine Zc (Za rfl rfl (Zi fa57_0 rfl) (Za rfl rfl (Zm F6.at_ agg3 rfl rfl) (Za rfl rfl (Zi fa57_0 rfl) (Za rfl rfl (Zm d.at_ agg3 rfl rfl) (Zx rfl rfl ?_)))))
  refine Step.call (Zq (xs := [.tmp 11, .tmp 13]) fk71 rfl) (Yz _ _ ) fun m W9 g => ?_
  obtain ⟨rfl, C9⟩ := g
  have z := C9.size
  have E := E.trans C9
  refine Za rfl rfl (Zd rfl) (Ze (Zb (H8 _ _ ?_)))
  refine Zk (Zj ?_)
  exact Zh [_] ⟨rfl, trivial⟩ ⟨congrArg (Value.int .i64) (by unfold cmpP; rw [if_neg c]), E⟩
 have l := c
 have c := Yd (Qn c)
 refine Zp ?_
 refine Zb (H4 _ _ ?_)
 refine Zg fun A n => ?_
 refine Zc (Za rfl rfl (Zi fa57_1 rfl) (Za rfl rfl (Zm F6.at_ agg3 rfl rfl) (Za rfl rfl (Zi fa57_1 rfl) (Za rfl rfl (Zm d.at_ agg3 rfl rfl) (Zx rfl rfl ?_)))))
 refine Step.call (Zq (xs := [.tmp 16, .tmp 18]) fk71 rfl) (Yz _ _ ) fun o B h => ?_
 obtain ⟨rfl, i⟩ := h
 have p := i.size
 have E := E.trans i
 refine Za rfl rfl (Zd rfl) (Ze (Zb (n _ _ ?_)))
 refine Zk ?_
 exact Zh [_] ⟨rfl, trivial⟩ ⟨congrArg (Value.int .i64) (by unfold cmpP; rw [if_pos c]), E⟩

/-- impl.within -/
theorem Qg {w : World} (n : Int) (a : Int) (b : Int) :
 Ctr Tryd.prog 54 #[(.int .i64 n), (.int .i64 a), (.int .i64 b)] w (fun v w' => v = .bool (decide (a ≤ n ∧ n ≤ b)) ∧ Ch [] w w') := by
 have E := Ch.refl [] w
 refine Zr (N := 15) (vs0 := [(.int .i64 n), (.int .i64 a), (.int .i64 b)]) Tryd.func54 rfl rfl rfl ?_
 refine Zg fun K1 H1 => ?_
 refine Zc (Za rfl rfl (Zd rfl) (Ze (Zb (H1 _ _ ?_))))
 refine Zg fun K2 H2 => ?_
 refine Zc (Za rfl rfl (Zf rfl) (Za rfl rfl (Zf rfl) (Za rfl rfl (Zer rfl rfl) (Za rfl rfl (Zf rfl) ?_))))
 refine Qx (d := 10) rfl (fun c => ?_) (fun c => ?_)
 ·have e := c
  have c := Yd c
  refine Za rfl rfl (Zf rfl) (Za rfl rfl (Zf rfl) (Za rfl rfl (Zfx rfl rfl) (Za rfl rfl (Yl rfl rfl) (Za rfl rfl (Zd rfl) (Ze (Zb (H2 _ _ ?_)))))))
  refine Zk ?_
  exact Zh [_] ⟨rfl, trivial⟩ ⟨congrArg Value.bool (by first | rfl | (rw [Bool.eq_iff_iff]; simp <;> omega) | (rw [Bool.eq_iff_iff]; simp_all; done) | simp_all), E⟩
 have e := c
 have c := Ye c
 refine Zl rfl rfl (Zl rfl rfl (Zl rfl rfl (Za rfl rfl (Yi rfl rfl) (Za rfl rfl (Zd rfl) (Ze (Zb (H2 _ _ ?_)))))))
 refine Zk ?_
 exact Zh [_] ⟨rfl, trivial⟩ ⟨congrArg Value.bool (by first | rfl | (rw [Bool.eq_iff_iff]; simp <;> omega) | (rw [Bool.eq_iff_iff]; simp_all; done) | simp_all), E⟩

/-- impl.ArePairs -/
theorem Zah {w : World} {LL_l J : Nat} {A : Value} {l : List Pair} (o : Ls Pair.cs 2 w LL_l J A l) :
 Ctr Tryd.prog 29 #[A] w (fun v w' => v = .bool (tt (ArePairs l)) ∧ Ch [] w w') := by
 obtain ⟨x, y, B⟩ := o.val
 subst B
 have ah := o.len
 have o := o.here (by decide)
 have E := Ch.refl [] w
 refine Zr (N := 37) (vs0 := [(.slice x l.length y)]) Tryd.func29 rfl rfl rfl ?_
 refine Zg fun K1 H1 => ?_
 refine Zc (Za rfl rfl (Zd rfl) (Ze (Zb (H1 _ _ ?_))))
 refine Zg fun K2 H2 => ?_
 refine Zg fun K3 H3 => ?_
 refine Zc (Za rfl rfl (Zf rfl) (Za rfl rfl (Xt (by rw [el25]; rfl) rfl) (Za rfl rfl (Zf rfl) (Ze (Zb (H3 _ _ ?_))))))
 refine Zw ?_
 refine Qq (σ := Nat) (fun (k : Nat) => [(0, (.slice x l.length y)), (5, (.slice x l.length y)), (6, (.int .i64 ((l.length : Nat) : Int))), (7, (.int .i64 ((k : Nat) : Int)))]) (fun (k : Nat) wx => Ch [] w wx ∧ w.heap.size ≤ wx.heap.size ∧ (k ≤ l.length) ∧ (Zbl l k)) (fun (k : Nat) => l.length - k) 0 (sC4 rfl rfl rfl rfl (Sub.nil _)) ⟨E, (Nat.le_refl _), om, (Zbz l)⟩ ?_
 rintro k R4 ⟨E, ai, aI, C⟩
 have D := E
 have ad := D.size
 refine Zg fun K5 H5 => ?_
 refine Zc (Za rfl rfl (Xf rfl rfl) (Ze (Zb (H5 _ _ ?_))))
 refine Zg fun K6 H6 => ?_
 refine Zo rfl (fun z => ?_) (fun z => ?_)
 ·have aj := z
  have z := Yd z
  refine Zp ?_
  refine Zb (H6 _ _ ?_)
  refine Zg fun K8 H8 => ?_
  refine Zw ?_
  refine Zg fun K9 H9 => ?_
  refine Zc (Za rfl rfl (Zf rfl) (Zx rfl rfl ?_))
  have ae := o.ch0 D
  refine (Zbn ae Pair.len el25 sz57 rfl rfl rfl om fun ak q a K => ?_)
  refine Za rfl rfl (Yx K agg57 sz57 rfl) (Zx rfl rfl ?_)
  refine Zar zr57 fun af al G L aJ => ?_
  have am := L.size
  have E := E.trans L
  have aK := G.lt
  replace G : Blk al af 57 [(.int .i64 0), (.int .i64 0)] := G
  refine Za rfl rfl (Zd rfl) (Zx rfl rfl ?_)
  refine Zay (off := 0) 2 G sz57 rfl (us := [(.int .i64 q.f), (.int .i64 q.t)]) rfl rfl rfl rfl fun an r M => ?_
  have ao := M.size
  have E := E.step M (lS om)
  replace r : Blk an af 57 [(.int .i64 q.f), (.int .i64 q.t)] := r
  refine Ze (Zb (H9 _ _ ?_))
  refine Zg fun aL H => ?_
  refine Qc [] 24 mixed rfl fun O I => ?_
  have ap := I.size
  have E := E.trans I
  refine dV 0 rfl rfl rfl (fun _ => Zi fa57_0 rfl) ?_
  have P := r.ch0 I
  refine dT 1 rfl rfl rfl (Yk P.at_ (fun i hi => absurd hi List.not_mem_nil) agg3 rfl rfl ?_)
  refine dO 2 (Qj rfl rfl rfl ?_)
  refine Step.call (Zq (xs := [.tmp 13, .const (Go.Value.int Go.IntKind.i64 0), .const (Go.Value.int Go.IntKind.i64 4)]) fk54 rfl) (Qg _ _ _ ) fun aq au Q => ?_
  obtain ⟨rfl, R⟩ := Q
  have av := R.size
  have E := E.trans R
  have s : Ch [] O au := ((Ch.refl _ _).trans R)
  refine ⟨s, ?_⟩
  refine dV 3 rfl rfl rfl (fun _ => Zaq rfl) (dV 4 rfl rfl rfl (fun _ => Zf rfl) ?_)
  refine Xd (d := 16) rfl (fun b => ?_) (fun b => ?_)
  ·have S := b
   have b := Ye (Qh b)
   refine dK 5 rfl rfl rfl (dK 6 rfl rfl rfl (dK 7 rfl rfl rfl (dK 8 rfl rfl rfl (dV 9 rfl rfl rfl (fun _ => Yl rfl rfl) (dV 10 rfl rfl rfl (fun _ => Zf rfl) (dK 11 rfl rfl rfl (dK 12 rfl rfl rfl ?_)))))))
   refine dK 13 rfl rfl rfl (dK 14 rfl rfl rfl (dK 15 rfl rfl rfl (dK 16 rfl rfl rfl (dK 17 rfl rfl rfl (dK 18 rfl rfl rfl (dK 19 rfl rfl rfl (dK 20 rfl rfl rfl ?_)))))))
   refine dK 21 rfl rfl rfl (dK 22 rfl rfl rfl (dV 23 rfl rfl rfl (fun _ => Yl rfl rfl) ?_))
   refine Ym (by kernel_rfl) ?_
   refine Zb (H _ _ ?_)
   refine Zau rfl ?_
   refine Zg fun aM aw => ?_
   refine Zc (Za rfl rfl (Zd rfl) (Ze (Zb (aw _ _ ?_))))
   refine Zk (Zs (Zj (Zj (Zs (Zj ?_)))))
   clear H2 H8
   exact Zh [_] ⟨rfl, trivial⟩ ⟨congrArg Value.bool (Ya (fun e => by first | (have g := Yc e a; unfold okP at g; omega) | (have g := Yc e a; unfold okP at g; omega) | (have g := Zan e om h a; have ag := (Qy _ _).2 g; omega))), E⟩
  have S := b
  have b := Yd (Qn b)
  refine dV 5 rfl rfl rfl (fun _ => Zi fa57_1 rfl) ?_
  refine dT 6 rfl rfl rfl (Yk P.at_ (fun i hi => absurd hi List.not_mem_nil) agg3 rfl rfl ?_)
  refine dO 7 (Qj rfl rfl rfl ?_)
  refine Step.call (Zq (xs := [.tmp 18, .const (Go.Value.int Go.IntKind.i64 0), .const (Go.Value.int Go.IntKind.i64 4)]) fk54 rfl) (Qg _ _ _ ) fun ax ay T => ?_
  obtain ⟨rfl, U⟩ := T
  have az := U.size
  have E := E.trans U
  have u : Ch [] O ay := (s.trans U)
  refine ⟨u, ?_⟩
  refine dV 8 rfl rfl rfl (fun _ => Zaq rfl) (dV 9 rfl rfl rfl (fun _ => Yi rfl rfl) (dV 10 rfl rfl rfl (fun _ => Zf rfl) ?_))
  refine Xd (d := 22) rfl (fun c => ?_) (fun c => ?_)
  ·have V := c
   have c := Ye (Qh c)
   refine dK 11 rfl rfl rfl (dK 12 rfl rfl rfl (dK 13 rfl rfl rfl (dK 14 rfl rfl rfl (dK 15 rfl rfl rfl (dK 16 rfl rfl rfl (dK 17 rfl rfl rfl (dK 18 rfl rfl rfl ?_)))))))
   refine dK 19 rfl rfl rfl (dK 20 rfl rfl rfl (dK 21 rfl rfl rfl (dK 22 rfl rfl rfl (dV 23 rfl rfl rfl (fun _ => Yl rfl rfl) ?_))))
   refine Ym (by kernel_rfl) ?_
   refine Zb (H _ _ ?_)
   refine Zau rfl ?_
   refine Zg fun aN aA => ?_
   refine Zc (Za rfl rfl (Zd rfl) (Ze (Zb (aA _ _ ?_))))
   refine Zk (Zs (Zj (Zj (Zs (Zj ?_)))))
   clear H2 H8
   exact Zh [_] ⟨rfl, trivial⟩ ⟨congrArg Value.bool (Ya (fun e => by first | (have g := Yc e a; unfold okP at g; omega) | (have g := Yc e a; unfold okP at g; omega) | (have g := Zan e om h a; have ag := (Qy _ _).2 g; omega))), E⟩
  have V := c
  have c := Yd (Qn c)
  refine dV 11 rfl rfl rfl (fun _ => Zf rfl) (dV 12 rfl rfl rfl (fun _ => Zdq rfl rfl) (dV 13 rfl rfl rfl (fun _ => Zf rfl) ?_))
  refine Xd (d := 25) rfl (fun m => ?_) (fun m => ?_)
  ·have X := m
   have m := Yd m
   refine dV 14 rfl rfl rfl (fun _ => Zf rfl) (dV 15 rfl rfl rfl (fun _ => Zf rfl) (dV 16 rfl rfl rfl (fun _ => Zes om rfl rfl) ?_))
   have aB := ((ae.ch0 L).ch M (oS om)).ch0 I
   refine dT 17 rfl rfl rfl (Yn (j := (((k : Nat) : Int) - 1).toNat) aB Pair.len el25 sz57 rfl rfl om om fun aC Y h Z => ?_)
   refine dT 18 rfl rfl rfl (Yo Z (fun i hi => absurd hi List.not_mem_nil) agg57 sz57 rfl ?_)
   refine dT 19 rfl rfl rfl (Yo P.at_ (fun i hi => absurd hi List.not_mem_nil) agg57 sz57 rfl ?_)
   refine dO 20 (Qj rfl rfl rfl ?_)
   refine Step.call (Zq (xs := [.tmp 30, .tmp 31]) fk55 rfl) (Qf Y q ) fun aD aE aa => ?_
   obtain ⟨rfl, ab⟩ := aa
   have aF := ab.size
   have E := E.trans ab
   have F : Ch [] O aE := (u.trans ab)
   refine ⟨F, ?_⟩
   refine dV 21 rfl rfl rfl (fun _ => Zer rfl rfl) (dV 22 rfl rfl rfl (fun _ => Yl rfl rfl) (dV 23 rfl rfl rfl (fun _ => Yi rfl rfl) ?_))
   refine Ym (by kernel_rfl) ?_
   refine Zb (H _ _ ?_)
   refine Zo rfl (fun n => ?_) (fun n => ?_)
   ·have ac := n
    have n := Yd n
    refine Zg fun aO aG => ?_
    refine Zc (Za rfl rfl (Zd rfl) (Ze (Zb (aG _ _ ?_))))
    refine Zk (Zs (Zj (Zj (Zs (Zj ?_)))))
    clear H2 H8
    exact Zh [_] ⟨rfl, trivial⟩ ⟨congrArg Value.bool (Ya (fun e => by first | (have g := Yc e a; unfold okP at g; omega) | (have g := Yc e a; unfold okP at g; omega) | (have g := Zan e om h a; have ag := (Qy _ _).2 g; omega))), E⟩
   have ac := n
   have n := Ye n
   refine Zp ?_
   refine Yg (Zb (H8 _ _ (Zc (Za rfl rfl (Xy om rfl rfl) (Za rfl rfl (Zf rfl) (Ze ?_))))))
   exact Zb (Exists.intro (k + 1) ⟨⟨E, om, om, (by first | exact Yq C a ⟨b.1, b.2, c.1, c.2⟩ (fun j p hj => absurd hj om) | (refine Yq C a ⟨b.1, b.2, c.1, c.2⟩ (fun j p hj hp => ?_); obtain rfl : j = ((k : Int) - 1).toNat := om; rw [h] at hp; cases hp; exact (Qy _ _).1 om))⟩, sC4 rfl rfl rfl rfl (Sub.nil _), (by first | omega | (dsimp only; omega))⟩)
  have X := m
  have m := Ye m
  refine dK 14 rfl rfl rfl (dK 15 rfl rfl rfl (dK 16 rfl rfl rfl (dK 17 rfl rfl rfl (dK 18 rfl rfl rfl (dK 19 rfl rfl rfl (dK 20 rfl rfl rfl (dK 21 rfl rfl rfl ?_)))))))
  refine dV 22 rfl rfl rfl (fun _ => Yi rfl rfl) (dV 23 rfl rfl rfl (fun _ => Yi rfl rfl) ?_)
  refine Ym (by kernel_rfl) ?_
  refine Zb (H _ _ ?_)
  refine Zdb rfl ?_
  refine Zp ?_
  refine Yg (Zb (H8 _ _ (Zc (Za rfl rfl (Xy om rfl rfl) (Za rfl rfl (Zf rfl) (Ze ?_))))))
  exact Zb (Exists.intro (k + 1) ⟨⟨E, om, om, (by first | exact Yq C a ⟨b.1, b.2, c.1, c.2⟩ (fun j p hj => absurd hj om) | (refine Yq C a ⟨b.1, b.2, c.1, c.2⟩ (fun j p hj hp => ?_); obtain rfl : j = ((k : Int) - 1).toNat := om; rw [h] at hp; cases hp; exact (Qy _ _).1 om))⟩, sC4 rfl rfl rfl rfl (Sub.nil _), (by first | omega | (dsimp only; omega))⟩)
 have aj := z
 have z := Ye z
 refine Qu (Zt (Zt (Xm ?_)))
 refine Zb (H2 _ _ ?_)
 refine Zg fun aP aH => ?_
 refine Zc (Za rfl rfl (Zd rfl) (Ze (Zb (aH _ _ ?_))))
 refine Zk ?_
 exact Zh [_] ⟨rfl, trivial⟩ ⟨congrArg Value.bool (Xb (Zcy C om)), E⟩

shelf_lay Lays.n171 Nm 171 at Tryd as lay_171_56
/-- strconv.Itoa -/
theorem Zaj {w : World} (n : Int) (h : 0 ≤ n ∧ n < 100) :
 Ctr Tryd.prog 56 #[(.int .i64 n)] w (fun v w' => v = bst (Yf n) ∧ Ch [] w w') := by
 exact Zdt lay_171_56 h

/-- impl.FormatInt -/
theorem Xj {w : World} (n : Int) (h : 0 ≤ n ∧ n < 100) :
 Ctr Tryd.prog 30 #[(.int .i64 n)] w (fun v w' => v = bst (Yf n) ∧ Ch [] w w') := by
 have E := Ch.refl [] w
 refine Zr (N := 5) (vs0 := [(.int .i64 n)]) Tryd.func30 rfl rfl rfl ?_
 refine Zg fun K1 H1 => ?_
 refine Zc (Za rfl rfl (Zd rfl) (Ze (Zb (H1 _ _ ?_))))
 refine Zg fun K2 H2 => ?_
 refine Zc (Za rfl rfl (Zf rfl) (Zx rfl rfl ?_))
 refine Step.call (Zq (xs := [.tmp 3]) fk56 rfl) (Zaj _ h) fun b W3 a => ?_
 obtain ⟨rfl, C3⟩ := a
 have c := C3.size
 have E := E.trans C3
 refine Za rfl rfl (Zd rfl) (Ze (Zb (H2 _ _ ?_)))
 refine Zk ?_
 exact Zh [_] ⟨rfl, trivial⟩ ⟨congrArg bst (by first | rfl | simp_all), E⟩

shelf_lay Lays.n156 Nm 156 at Tryd as lay_156_31
theorem Zgj : Builder.Extra Tryd.prog lay_156_31_ren := ⟨⟨by kernel_rfl, by kernel_rfl⟩, Tryd.underlying5, Tryd.isAgg5, Tryd.sizeOf5, Tryd.zeroValue5, by kernel_rfl, by kernel_rfl, by kernel_rfl, by decide⟩
/-- strings.Join -/
theorem Zal {w : World} {e_xs : Nat} {a : Value} {xs : List (List UInt8)} (b : Ol scs e_xs 1 w a xs) (sep : List UInt8) (hN : xs.length ≤ 4194304) (hlen : (jnS sep xs).length ≤ 140737488355328) :
 Ctr Tryd.prog 31 #[a, (bst sep)] w (fun v w' => v = bst (jnS sep xs) ∧ Ch [] w w') := by
 exact Zej lay_156_31 Zgj b hN hlen

/-- impl.FormatPairs -/
theorem Qo {w : World} {LL_l T : Nat} {A : Value} {l : List Pair} (e : Ls Pair.cs 2 w LL_l T A l) (hb : l.length ≤ 4194304) :
 Ctr Tryd.prog 10 #[A] w (fun v w' => v = bst (fpR l) ∧ Ch [] w w') := by
 obtain ⟨B, C, D⟩ := e.val
 subst D
 have az := e.len
 have e := e.here (by decide)
 have E := Ch.refl [] w
 refine Zr (N := 34) (vs0 := [(.slice B l.length C)]) Tryd.func10 rfl rfl rfl ?_
 refine Zg fun K1 H1 => ?_
 refine Zc (Za rfl rfl (Zd rfl) (Ze (Zb (H1 _ _ ?_))))
 refine Zg fun K2 H2 => ?_
 refine Zw ?_
 refine Zg fun K3 H3 => ?_
 refine Zc (Za rfl rfl (Zf rfl) (Zx rfl rfl ?_))
 refine Step.call (Zq (xs := [.tmp 7]) fk29 rfl) (Zah e ) fun bc W4 aA => ?_
 obtain ⟨rfl, C4⟩ := aA
 have bd := C4.size
 have E := E.trans C4
 refine Za rfl rfl (Zaq rfl) (Za rfl rfl (Zd rfl) (Ze (Zb (H3 _ _ ?_))))
 refine Zo rfl (fun g => ?_) (fun g => ?_)
 ·have aB := g
  have g := bf_t (Qh g)
  refine Zg fun K6 H6 => ?_
  refine Zc (Za rfl rfl (Zd rfl) (Ze (Zb (H6 _ _ ?_))))
  refine Zk (Zs (Zj ?_))
  exact Zh [_] ⟨rfl, trivial⟩ ⟨congrArg bst (Zft g), E⟩
 have aB := g
 have g := bt_t (Qn g)
 refine Zg fun K7 H7 => ?_
 refine Zc (Za rfl rfl (Zf rfl) (Za rfl rfl (Xt (by rw [el25]; rfl) rfl) (Za rfl rfl (Zdn rfl rfl) (Za rfl rfl (Zd rfl) (Ze (Zb (H7 _ _ ?_)))))))
 refine Zo rfl (fun c => ?_) (fun c => ?_)
 ·have aC := c
  have c := Yd c
  refine Zg fun K9 H9 => ?_
  refine Zc (Za rfl rfl (Zd rfl) (Ze (Zb (H9 _ _ ?_))))
  refine Zk (Zs (Zj ?_))
  exact Zh [_] ⟨rfl, trivial⟩ ⟨congrArg bst (Zfu g om), E⟩
 have aC := c
 have c := Ye c
 refine Zp ?_
 refine Yg (Zb (H2 _ _ ?_))
 refine Zg fun be aD => ?_
 refine Zc (Zx rfl rfl ?_)
 refine Zba (k := 1) scs el60 sz9 fun aE ah F G ai => ?_
 have aF := ai.size
 have E := E.trans ai
 obtain ⟨m, n, rfl, aj, U⟩ := F.opn
 refine Za rfl rfl (Zd rfl) (Ze (Zb (aD _ _ ?_)))
 refine Zg fun bf aG => ?_
 refine Zg fun bg aH => ?_
 refine Zc (Za rfl rfl (Zf rfl) (Za rfl rfl (Xt (by rw [el25]; rfl) rfl) (Za rfl rfl (Zf rfl) (Ze (Zb (aH _ _ ?_))))))
 refine Zw ?_
 have y : Ol scs 9 1 ah (.slice m (([] : List (List UInt8))).length n) ((l.take 0).map Yr) := by
  have hx := F
  exact hx
 refine Qq (σ := Nat × Value) (fun ⟨k, ov⟩ => [(2, (bst ([] : List UInt8))), (3, ov), (15, (.slice B l.length C)), (16, (.int .i64 ((l.length : Nat) : Int))), (17, (.int .i64 ((k : Nat) : Int)))]) (fun ⟨k, ov⟩ wx => Ch [] w wx ∧ ah.heap.size ≤ wx.heap.size ∧ (k ≤ l.length) ∧ Ol scs 9 1 wx ov ((l.take k).map Yr) ∧ Lo W4.heap.size ov) (fun ⟨k, ov⟩ => l.length - k) (0, (.slice m (([] : List (List UInt8))).length n)) (sC4 rfl rfl rfl rfl (sC1 rfl (Sub.nil _))) ⟨E, (Nat.le_refl _), om, y, G⟩ ?_
 rintro ⟨k, ov⟩ bh ⟨E, aI, bi, h, b⟩
 have H := E
 have ak := H.size
 obtain ⟨Aov, Cov, rfl, lov, hiov⟩ := h.opn
 refine Zg fun bj aJ => ?_
 refine Zc (Za rfl rfl (Xf rfl rfl) (Ze (Zb (aJ _ _ ?_))))
 refine Zg fun bk aK => ?_
 refine Zo rfl (fun d => ?_) (fun d => ?_)
 ·have V := d
  have d := Yd d
  refine Zp ?_
  refine Zb (aK _ _ ?_)
  refine Zg fun bm aL => ?_
  refine Zw ?_
  refine Zg fun bn aM => ?_
  refine Zc (Zx rfl rfl ?_)
  have aN := e.ch0 H
  refine (Zbn aN Pair.len el25 sz57 rfl rfl rfl om fun aO a o X => ?_)
  have Y := Yc g o
  unfold okP at Y
  have aP := Yb a.f
  have aQ := Yb a.t
  refine Za rfl rfl (Yx X agg57 sz57 rfl) (Zx rfl rfl ?_)
  refine Zar zr57 fun al aR M Z bp => ?_
  have aS := Z.size
  have E := E.trans Z
  have bq := M.lt
  replace M : Blk aR al 57 [(.int .i64 0), (.int .i64 0)] := M
  refine Zx rfl rfl ?_
  refine Zay (off := 0) 2 M sz57 rfl (us := [(.int .i64 a.f), (.int .i64 a.t)]) rfl rfl rfl rfl fun aT j aa => ?_
  have aU := aa.size
  have E := E.step aa (lS om)
  replace j : Blk aT al 57 [(.int .i64 a.f), (.int .i64 a.t)] := j
  refine Ze (Zb (aM _ _ ?_))
  refine Qc (bl (.slice Aov ((l.take k).map Yr).length Cov)) 11 mixed rfl fun O P => ?_
  have aV := P.size
  have E := E.trans P
  refine dV 0 rfl rfl rfl (fun _ => Zf rfl) (dV 1 rfl rfl rfl (fun _ => Zi fa57_0 rfl) ?_)
  have am := j.ch0 P
  refine dT 2 rfl rfl rfl (Yk am.at_ (fun i hm => by have an := b _ hm; have aW := hiov _ hm; omega) agg3 rfl rfl ?_)
  refine dV 4 rfl rfl rfl (fun _ => Zi fa57_1 rfl) ?_
  refine dT 5 rfl rfl rfl (Yk am.at_ (fun i hm => by have an := b _ hm; have aW := hiov _ hm; omega) agg3 rfl rfl ?_)
  refine dO 3 (Qj rfl rfl rfl ?_)
  refine Step.call (Zq (xs := [.tmp 23]) fk30 rfl) (Xj _ om) fun aX aY ab => ?_
  obtain ⟨rfl, Q⟩ := ab
  have aZ := Q.size
  have E := E.trans Q
  have p : Ch (bl (.slice Aov ((l.take k).map Yr).length Cov)) O aY := ((Ch.refl _ _).trans Q.of_nil)
  refine ⟨p, ?_⟩
  refine dO 6 (Qj rfl rfl rfl ?_)
  refine Step.call (Zq (xs := [.tmp 26]) fk30 rfl) (Xj _ om) fun a0 a1 ac => ?_
  obtain ⟨rfl, R⟩ := ac
  have a2 := R.size
  have E := E.trans R
  have r : Ch (bl (.slice Aov ((l.take k).map Yr).length Cov)) O a1 := (p.trans R.of_nil)
  refine ⟨r, ?_⟩
  refine dV 7 rfl rfl rfl (fun _ => Xs (by (first | omega | (simp only [List.length_append, List.length_cons, List.length_nil]; omega))) rfl rfl) (dO 8 (Qj rfl rfl rfl ?_))
  refine Xq (cs := scs) (parts := [(0, .tmp 28)]) ([] : List UInt8) [((Yf a.f) ++ (Yf a.t))] el60 sz9 zr9 Zfg (by decide) rfl rfl rfl (by decide) (by decide) rfl fun a3 a4 I ao S => ?_
  have a5 := S.size
  have E := E.trans S
  obtain ⟨ap, aq, rfl, au, ad⟩ := I.opn
  have s : Ch (bl (.slice Aov ((l.take k).map Yr).length Cov)) O a4 := (r.trans S.of_nil)
  refine ⟨s, ?_⟩
  refine dO 9 (Qj rfl rfl rfl ?_)
  have a6 := (((((h.ch0 Z).ch aa (dS b hiov om)).ch0 P).ch0 Q).ch0 R).ch0 S
  refine Zee (cs := scs) el60 sz9 by9 zr9 rfl (by decide) Zfc a6 I.ls rfl rfl (by simp only [List.length_map, List.length_take, List.length_singleton]; omega) (by simp only [List.length_map, List.length_take, List.length_singleton]; omega) b om fun a7 av J K aw ae => ?_
  have a8 := ae.size
  have E := E.step ae (fun i hi => .inl (by have an := b _ hi; omega))
  obtain ⟨u, x, rfl, ax, af⟩ := J.opn
  have L : Ch (bl (.slice Aov ((l.take k).map Yr).length Cov)) O av := (s.step ae (fun i hm => by exact .inr hm))
  refine ⟨L, ?_⟩
  refine dV 10 rfl rfl rfl (fun _ => Zd rfl) ?_
  refine Ym (by kernel_rfl) ?_
  refine Yg (Zb (aL _ _ (Zc (Za rfl rfl (Xy om rfl rfl) (Za rfl rfl (Zf rfl) (Ze ?_))))))
  have z : Ol scs 9 1 av (.slice u (((l.take k).map Yr ++ [((Yf a.f) ++ (Yf a.t))])).length x) ((l.take (k + 1)).map Yr) := by
   have hx := J
   exact hx.eq (Zfk o)
  exact Zb (Exists.intro ((k + 1), (.slice u (((l.take k).map Yr ++ [((Yf a.f) ++ (Yf a.t))])).length x)) ⟨⟨E, om, om, z, (Lo.down K om)⟩, sC4 rfl rfl rfl rfl (sC1 rfl (Sub.nil _)), (by first | omega | (dsimp only; omega))⟩)
 have V := d
 have d := Ye d
 refine Qu (Zt (Zt (Xm ?_)))
 refine Zb (aG _ _ ?_)
 refine Zg fun br a9 => ?_
 refine Zc (Za rfl rfl (Zf rfl) (Zx rfl rfl ?_))
 refine Step.call (Zq (xs := [.tmp 32, .const (Go.Value.string { data := #[32] })]) fk31 rfl) (Zal h ([32]) (by rw [List.length_map, List.length_take]; omega) (by have q := Zbw l k; unfold fpS at q; omega)) fun ba bs ag => ?_
 obtain ⟨rfl, ay⟩ := ag
 have bb := ay.size
 have E := E.trans ay
 refine Za rfl rfl (Zd rfl) (Ze (Zb (a9 _ _ ?_)))
 refine Zk ?_
 exact Zh [_] ⟨rfl, trivial⟩ ⟨congrArg bst (by rw [List.take_of_length_le om]; exact Zfs g om), E⟩

/-- laws.eqPair -/
theorem Zbb {w : World} (a : Pair) (b : Pair) :
 Ctr Tryd.prog 32 #[(.agg #[(.int .i64 a.f), (.int .i64 a.t)]), (.agg #[(.int .i64 b.f), (.int .i64 b.t)])] w (fun v w' => v = .bool (decide (a = b)) ∧ Ch [] w w') := by
 have E := Ch.refl [] w
 refine Zr (N := 15) (vs0 := [(.agg #[(.int .i64 a.f), (.int .i64 a.t)]), (.agg #[(.int .i64 b.f), (.int .i64 b.t)])]) Tryd.func32 rfl rfl rfl ?_
 refine Zg fun K1 H1 => ?_
 refine Zc (Zx rfl rfl ?_)
 refine Zbk rfl fun j W2 h C2 p => ?_
 have q := C2.size
 have E := E.trans C2
 have r := h.lt
 replace h : Blk W2 j 57 [(.int .i64 a.f), (.int .i64 a.t)] := h
 refine Zx rfl rfl ?_
 refine Zbk rfl fun k W3 g C3 s => ?_
 have u := C3.size
 have E := E.trans C3
 have x := g.lt
 replace g : Blk W3 k 57 [(.int .i64 b.f), (.int .i64 b.t)] := g
 refine Za rfl rfl (Zd rfl) (Ze (Zb (H1 _ _ ?_)))
 refine Zg fun K4 H4 => ?_
 refine Zg fun K5 H5 => ?_
 refine Zc (Za rfl rfl (Zi fa57_0 rfl) ?_)
 have F6 := h.ch0 C3
 refine Za rfl rfl (Zm F6.at_ agg3 rfl rfl) (Za rfl rfl (Zi fa57_0 rfl) (Za rfl rfl (Zm g.at_ agg3 rfl rfl) (Za rfl rfl (Zci rfl rfl) (Ze (Zb (H5 _ _ ?_))))))
 refine Zo rfl (fun d => ?_) (fun d => ?_)
 ·have l := d
  have d := Ye (Qh d)
  refine Zg fun K8 H8 => ?_
  refine Zc (Za rfl rfl (Zd rfl) (Ze (Zb (H8 _ _ ?_))))
  refine Zk (Zj ?_)
  exact Zh [_] ⟨rfl, trivial⟩ ⟨congrArg Value.bool (decide_eq_false (fun e => d (by rw [e]))).symm, E⟩
 have l := d
 have d := Yd (Qn d)
 refine Zp ?_
 refine Zb (H4 _ _ ?_)
 refine Zg fun K9 H9 => ?_
 refine Zg fun y m => ?_
 refine Zc (Za rfl rfl (Zi fa57_1 rfl) (Za rfl rfl (Zm F6.at_ agg3 rfl rfl) (Za rfl rfl (Zi fa57_1 rfl) (Za rfl rfl (Zm g.at_ agg3 rfl rfl) (Za rfl rfl (Zci rfl rfl) (Ze (Zb (m _ _ ?_))))))))
 refine Zo rfl (fun c => ?_) (fun c => ?_)
 ·have i := c
  have c := Ye (Qh c)
  refine Zg fun z n => ?_
  refine Zc (Za rfl rfl (Zd rfl) (Ze (Zb (n _ _ ?_))))
  refine Zk (Zj ?_)
  exact Zh [_] ⟨rfl, trivial⟩ ⟨congrArg Value.bool (decide_eq_false (fun e => c (by rw [e]))).symm, E⟩
 have i := c
 have c := Yd (Qn c)
 refine Zp ?_
 refine Zb (H9 _ _ ?_)
 refine Zg fun A o => ?_
 refine Zc (Za rfl rfl (Zd rfl) (Ze (Zb (o _ _ ?_))))
 refine Zk ?_
 exact Zh [_] ⟨rfl, trivial⟩ ⟨congrArg Value.bool (decide_eq_true (Pair.inj (by rw [d, c]))).symm, E⟩

/-- laws.eqPairS -/
theorem Zak {w : World} {LL_a z : Nat} {n : Value} {a : List Pair} (g : Ls Pair.cs 2 w LL_a z n a) {LL_b A : Nat} {o : Value} {b : List Pair} (h : Ls Pair.cs 2 w LL_b A o b) :
 Ctr Tryd.prog 11 #[n, o] w (fun v w' => v = .bool (decide (a = b)) ∧ Ch [] w w') := by
 obtain ⟨p, q, r⟩ := g.val
 subst r
 have O := g.len
 have g := g.here (by decide)
 obtain ⟨s, t, u⟩ := h.val
 subst u
 have P := h.len
 have h := h.here (by decide)
 have E := Ch.refl [] w
 refine Zr (N := 27) (vs0 := [(.slice p a.length q), (.slice s b.length t)]) Tryd.func11 rfl rfl rfl ?_
 refine Zg fun K1 H1 => ?_
 refine Zc (Za rfl rfl (Zd rfl) (Ze (Zb (H1 _ _ ?_))))
 refine Zg fun K2 H2 => ?_
 refine Zg fun K3 H3 => ?_
 refine Zc (Za rfl rfl (Zf rfl) (Za rfl rfl (Xt (by rw [el25]; rfl) rfl) (Za rfl rfl (Zf rfl) (Za rfl rfl (Xt (by rw [el25]; rfl) rfl) (Za rfl rfl (Zci rfl rfl) (Ze (Zb (H3 _ _ ?_))))))))
 refine Zo rfl (fun d => ?_) (fun d => ?_)
 ·have Q := d
  have d := Ye (Qh d)
  refine Zg fun K5 H5 => ?_
  refine Zc (Za rfl rfl (Zd rfl) (Ze (Zb (H5 _ _ ?_))))
  refine Zk (Zj ?_)
  exact Zh [_] ⟨rfl, trivial⟩ ⟨congrArg Value.bool (decide_eq_false (fun e => d (by rw [e]))).symm, E⟩
 have Q := d
 have d := Yd (Qn d)
 refine Zp ?_
 refine Zb (H2 _ _ ?_)
 refine Zg fun K6 H6 => ?_
 refine Zg fun K7 H7 => ?_
 refine Zc (Za rfl rfl (Zd rfl) (Ze (Zb (H7 _ _ ?_))))
 refine Zw ?_
 refine Qq (σ := Nat) (fun (k : Nat) => [(0, (.slice p a.length q)), (1, (.slice s b.length t)), (5, (.int .i64 ((k : Nat) : Int)))]) (fun (k : Nat) wx => Ch [] w wx ∧ w.heap.size ≤ wx.heap.size ∧ (k ≤ a.length) ∧ (a.take k = b.take k)) (fun (k : Nat) => a.length - k) 0 (sC2 rfl rfl (sC1 rfl (Sub.nil _))) ⟨E, (Nat.le_refl _), om, rfl⟩ ?_
 rintro k R8 ⟨E, R, ag, K⟩
 have m := E
 have L := m.size
 refine Zg fun K9 H9 => ?_
 refine Zg fun ah S => ?_
 refine Zc (Za rfl rfl (Zf rfl) (Za rfl rfl (Zf rfl) (Za rfl rfl (Xt (by rw [el25]; rfl) rfl) (Za rfl rfl (Xf rfl rfl) (Ze (Zb (S _ _ ?_)))))))
 refine Zo rfl (fun f => ?_) (fun f => ?_)
 ·have B := f
  have f := Yd f
  refine Zp ?_
  refine Zb (H9 _ _ ?_)
  refine Zg fun ai M => ?_
  refine Zw ?_
  refine Zg fun aj T => ?_
  refine Qc [] 10 mixed rfl fun U y => ?_
  have V := y.size
  have E := E.trans y
  refine dV 0 rfl rfl rfl (fun _ => Zf rfl) (dV 1 rfl rfl rfl (fun _ => Zf rfl) ?_)
  have X := (g.ch0 m).ch0 y
  refine dT 2 rfl rfl rfl (Yn X Pair.len el25 sz57 rfl rfl rfl om fun Y C j D => ?_)
  refine dT 3 rfl rfl rfl (Yo D (fun i hi => absurd hi List.not_mem_nil) agg57 sz57 rfl ?_)
  refine dV 4 rfl rfl rfl (fun _ => Zf rfl) (dV 5 rfl rfl rfl (fun _ => Zf rfl) ?_)
  have Z := (h.ch0 m).ch0 y
  refine dT 6 rfl rfl rfl (Yn Z Pair.len el25 sz57 rfl rfl rfl om fun aa F l G => ?_)
  refine dT 7 rfl rfl rfl (Yo G (fun i hi => absurd hi List.not_mem_nil) agg57 sz57 rfl ?_)
  refine dO 8 (Qj rfl rfl rfl ?_)
  refine Step.call (Zq (xs := [.tmp 20, .tmp 24]) fk32 rfl) (Zbb C F ) fun ab ac H => ?_
  obtain ⟨rfl, I⟩ := H
  have ad := I.size
  have E := E.trans I
  have x : Ch [] U ac := ((Ch.refl _ _).trans I)
  refine ⟨x, ?_⟩
  refine dV 9 rfl rfl rfl (fun _ => Zaq rfl) ?_
  refine Ym (by kernel_rfl) ?_
  refine Zb (T _ _ ?_)
  refine Zo rfl (fun c => ?_) (fun c => ?_)
  ·have J := c
   have c := Ye (Qh c)
   refine Zg fun ak ae => ?_
   refine Zc (Za rfl rfl (Zd rfl) (Ze (Zb (ae _ _ ?_))))
   refine Zk (Zs (Zj (Zj (Zs (Zj ?_)))))
   clear H6 M
   exact Zh [_] ⟨rfl, trivial⟩ ⟨congrArg Value.bool (decide_eq_false (Zdi j l c)).symm, E⟩
  have J := c
  have c := Yd (Qn c)
  refine Zp ?_
  refine Yg (Zb (M _ _ (Zc (Za rfl rfl (Zf rfl) (Za rfl rfl (Xy om rfl rfl) (Za rfl rfl (Zd rfl) (Ze ?_)))))))
  exact Zb (Exists.intro (k + 1) ⟨⟨E, om, om, (Zbi K j l c)⟩, sC2 rfl rfl (sC1 rfl (Sub.nil _)), (by first | omega | (dsimp only; omega))⟩)
 have B := f
 have f := Ye f
 refine Qu (Zt (Zt (Xm ?_)))
 refine Zb (H6 _ _ ?_)
 refine Zg fun al af => ?_
 refine Zc (Za rfl rfl (Zd rfl) (Ze (Zb (af _ _ ?_))))
 refine Zk ?_
 exact Zh [_] ⟨rfl, trivial⟩ ⟨congrArg Value.bool (decide_eq_true (Zcf K om om)).symm, E⟩

/-- laws.szPairS -/
theorem Zai {w : World} {LL_a f : Nat} {d : Value} {a : List Pair} (c : Ls Pair.cs 2 w LL_a f d a) (left : Int) (hl : left ≤ 1048576) (k : 0 ≤ left) :
 Ctr Tryd.prog 7 #[d, (.int .i64 left)] w (fun v w' => v = .int .i64 (if left < a.length then -1 else left - a.length) ∧ Ch [] w w') := by
 obtain ⟨g, h, e⟩ := c.val
 subst e
 have i := c.len
 have c := c.here (by decide)
 have E := Ch.refl [] w
 refine Zr (N := 12) (vs0 := [(.slice g a.length h), (.int .i64 left)]) Tryd.func7 rfl rfl rfl ?_
 refine Zg fun K1 H1 => ?_
 refine Zc (Za rfl rfl (Zd rfl) (Ze (Zb (H1 _ _ ?_))))
 refine Zg fun K2 H2 => ?_
 refine Zc (Za rfl rfl (Zf rfl) (Za rfl rfl (Zf rfl) (Za rfl rfl (Xt (by rw [el22]; rfl) rfl) (Za rfl rfl (Zes om rfl rfl) (Za rfl rfl (Zd rfl) (Ze (Zb (H2 _ _ ?_))))))))
 refine Zg fun K3 H3 => ?_
 refine Zg fun K4 H4 => ?_
 refine Zc (Za rfl rfl (Zf rfl) (Za rfl rfl (Xf rfl rfl) (Ze (Zb (H4 _ _ ?_)))))
 refine Zo rfl (fun b => ?_) (fun b => ?_)
 ·have j := b
  have b := Yd b
  refine Zg fun K6 H6 => ?_
  refine Zc (Za rfl rfl (Zd rfl) (Ze (Zb (H6 _ _ ?_))))
  refine Zk (Zj ?_)
  exact Zh [_] ⟨rfl, trivial⟩ ⟨congrArg (Value.int .i64) (if_pos om).symm, E⟩
 have j := b
 have b := Ye b
 refine Zp ?_
 refine Zb (H3 _ _ ?_)
 refine Zg fun K7 H7 => ?_
 refine Zc (Za rfl rfl (Zf rfl) (Za rfl rfl (Zd rfl) (Ze (Zb (H7 _ _ ?_)))))
 refine Zk ?_
 exact Zh [_] ⟨rfl, trivial⟩ ⟨congrArg (Value.int .i64) (if_neg om).symm, E⟩

/-- laws.toPair -/
theorem Zaz {w : World} (a : Pair) :
 Ctr Tryd.prog 28 #[(.agg #[(.int .i64 a.f), (.int .i64 a.t)])] w (fun v w' => v = .agg (Pair.cs (a)).toArray ∧ Ch [] w w') := by
 have E := Ch.refl [] w
 refine Zr (N := 11) (vs0 := [(.agg #[(.int .i64 a.f), (.int .i64 a.t)])]) Tryd.func28 rfl rfl rfl ?_
 refine Zg fun K1 H1 => ?_
 refine Zc (Zx rfl rfl ?_)
 refine Zbk rfl fun m W2 e C2 y => ?_
 have z := C2.size
 have E := E.trans C2
 have A := e.lt
 replace e : Blk W2 m 59 [(.int .i64 a.f), (.int .i64 a.t)] := e
 refine Zx rfl rfl ?_
 refine Zar zr57 fun k W3 g C3 B => ?_
 have C := C3.size
 have E := E.trans C3
 have D := g.lt
 replace g : Blk W3 k 57 [(.int .i64 0), (.int .i64 0)] := g
 refine Ze (Zb (H1 _ _ ?_))
 refine Zg fun K4 H4 => ?_
 refine Zc (Zx rfl rfl ?_)
 refine Zar zr57 fun i W5 h C5 F => ?_
 have G := C5.size
 have E := E.trans C5
 have H := h.lt
 replace h : Blk W5 i 57 [(.int .i64 0), (.int .i64 0)] := h
 refine Ze (Zb (H4 _ _ ?_))
 refine Zg fun K6 H6 => ?_
 refine Zc (Za rfl rfl (Zi fa59_0 rfl) ?_)
 have F7 := (e.ch0 C3).ch0 C5
 refine Za rfl rfl (Zm F7.at_ agg3 rfl rfl) (Za rfl rfl (Zi fa57_0 rfl) (Zx rfl rfl ?_))
 refine Zbu (off := 0) h sz3 rfl rfl rfl rfl fun W8 d C8 => ?_
 have I := C8.size
 have E := E.step C8 (lS om)
 replace d : Blk W8 i 57 [(.int .i64 a.f), (.int .i64 0)] := d
 refine Ze (Zb (H6 _ _ ?_))
 refine Zg fun J n => ?_
 refine Zc (Za rfl rfl (Zi fa59_1 rfl) ?_)
 have o := F7.ch C8 (nS om)
 refine Za rfl rfl (Zm o.at_ agg3 rfl rfl) (Za rfl rfl (Zi fa57_1 rfl) (Zx rfl rfl ?_))
 refine Zbu (off := 1) d sz3 rfl rfl rfl rfl fun p b j => ?_
 have q := j.size
 have E := E.step j (lS om)
 replace b : Blk p i 57 [(.int .i64 a.f), (.int .i64 a.t)] := b
 refine Ze (Zb (n _ _ ?_))
 refine Zg fun K r => ?_
 refine Zc (Za rfl rfl (Yx b.at_ agg57 sz57 rfl) (Zx rfl rfl ?_))
 have s := ((g.ch0 C5).ch C8 (nS om)).ch j (nS om)
 refine Zay (off := 0) 2 s sz57 rfl (us := [(.int .i64 a.f), (.int .i64 a.t)]) rfl rfl rfl rfl fun u c l => ?_
 have x := l.size
 have E := E.step l (lS om)
 replace c : Blk u k 57 [(.int .i64 a.f), (.int .i64 a.t)] := c
 refine Ze (Zb (r _ _ ?_))
 refine Zk ?_
 exact Zh [_] (Zbr c rfl agg57 sz57 trivial) ⟨by simp [Ql, Pair.cs], E⟩

/-- laws.toPairS -/
theorem Yy {w : World} {LL_a x : Nat} {h : Value} {a : List Pair} (c : Ls Pair.cs 2 w LL_a x h a) (hb : a.length ≤ 1048576) :
 Ctr Tryd.prog 9 #[h] w (fun v w' => Ol Pair.cs 57 2 w' v (a) ∧ Lo w.heap.size v ∧ Ch [] w w') := by
 obtain ⟨l, m, n⟩ := c.val
 subst n
 have K := c.len
 have c := c.here (by decide)
 have E := Ch.refl [] w
 refine Zr (N := 23) (vs0 := [(.slice l a.length m)]) Tryd.func9 rfl rfl rfl ?_
 refine Zg fun K1 H1 => ?_
 refine Zc (Za rfl rfl (Zd rfl) (Ze (Zb (H1 _ _ ?_))))
 refine Zg fun K2 H2 => ?_
 refine Zc (Za rfl rfl (Zf rfl) (Za rfl rfl (Xt (by rw [el22]; rfl) rfl) (Zx rfl rfl ?_)))
 refine Zgc (cs := Pair.cs) (⟨0, 0⟩ : Pair) el25 sz57 by57 zr57 Pair.len (by decide) rfl rfl om om fun Z W3 D o C3 => ?_
 have aa := C3.size
 have E := E.trans C3
 obtain ⟨d, e, rfl, L, F⟩ := D.opn
 refine Za rfl rfl (Zd rfl) (Ze (Zb (H2 _ _ ?_)))
 refine Zg fun K4 H4 => ?_
 refine Zg fun K5 H5 => ?_
 refine Zc (Za rfl rfl (Zd rfl) (Ze (Zb (H5 _ _ ?_))))
 refine Zw ?_
 have p : Ol Pair.cs 57 2 W3 (.slice d ((List.replicate a.length (⟨0, 0⟩ : Pair))).length e) (a.take 0 ++ List.replicate (a.length - 0) (⟨0, 0⟩ : Pair)) := by
  have hx := D
  simpa using hx
 refine Qq (σ := Nat) (fun (k : Nat) => [(0, (.slice l a.length m)), (2, (.slice none 0 0)), (3, (.slice d ((List.replicate a.length (⟨0, 0⟩ : Pair))).length e)), (4, (.int .i64 ((k : Nat) : Int)))]) (fun (k : Nat) wx => Ch [] w wx ∧ W3.heap.size ≤ wx.heap.size ∧ (k ≤ a.length) ∧ Ol Pair.cs 57 2 wx (.slice d ((List.replicate a.length (⟨0, 0⟩ : Pair))).length e) (a.take k ++ List.replicate (a.length - k) (⟨0, 0⟩ : Pair))) (fun (k : Nat) => a.length - k) 0 (sC4 rfl rfl rfl rfl (Sub.nil _)) ⟨E, (Nat.le_refl _), om, p⟩ ?_
 rintro k R7 ⟨E, M, ab, f⟩
 have q := E
 have G := q.size
 refine Zg fun K8 H8 => ?_
 refine Zg fun K9 H9 => ?_
 refine Zc (Za rfl rfl (Zf rfl) (Za rfl rfl (Zf rfl) (Za rfl rfl (Xt (by rw [el22]; rfl) rfl) (Za rfl rfl (Xf rfl rfl) (Ze (Zb (H9 _ _ ?_)))))))
 refine Zo rfl (fun b => ?_) (fun b => ?_)
 ·have y := b
  have b := Yd b
  refine Zp ?_
  refine Zb (H8 _ _ ?_)
  refine Zg fun ac O => ?_
  refine Zw ?_
  refine Zc (Za rfl rfl (Zf rfl) (Za rfl rfl (Zf rfl) (Za rfl rfl (Zf rfl) (Za rfl rfl (Zf rfl) (Zx rfl rfl ?_)))))
  have P := c.ch0 q
  refine (Zbn P Pair.len el22 sz59 rfl rfl rfl om fun Q r s z => ?_)
  refine Za rfl rfl (Yx z agg59 sz59 rfl) (Zx rfl rfl ?_)
  refine Step.call (Zq (xs := [.tmp 19]) fk28 rfl) (Zaz r ) fun R ad A => ?_
  obtain ⟨rfl, B⟩ := A
  have S := B.size
  have E := E.trans B
  refine Zx rfl rfl ?_
  have H := f.ch0 B
  refine Zeb (j := k) H el25 sz57 rfl rfl rfl (by simp; omega) fun T U I C => ?_
  refine Zx rfl rfl ?_
  refine Zeh (j := k) r H C Pair.len sz57 rfl rfl rfl rfl (by simp; omega) fun V t J => ?_
  have X := J.size
  have E := E.step J (fun i hi => .inl (by have ae := o _ hi; omega))
  refine Ze (Yg (Zb (O _ _ (Zc (Za rfl rfl (Zf rfl) (Za rfl rfl (Xy om rfl rfl) (Za rfl rfl (Zd rfl) (Ze ?_))))))))
  have g : Ol Pair.cs 57 2 V (.slice d ((List.replicate a.length (⟨0, 0⟩ : Pair))).length e) (a.take (k + 1) ++ List.replicate (a.length - (k + 1)) (⟨0, 0⟩ : Pair)) := by
   have hx := t
   rwa [Zdg a (⟨0, 0⟩ : Pair) s] at hx
  exact Zb (Exists.intro (k + 1) ⟨⟨E, om, om, g⟩, sC4 rfl rfl rfl rfl (Sub.nil _), (by first | omega | (dsimp only; omega))⟩)
 have y := b
 have b := Ye b
 refine Qu (Zt (Zt (Xm ?_)))
 refine Zb (H4 _ _ ?_)
 refine Zg fun af Y => ?_
 refine Zc (Za rfl rfl (Zf rfl) (Za rfl rfl (Zd rfl) (Ze (Zb (Y _ _ ?_)))))
 refine Zk ?_
 have u : Ol Pair.cs 57 2 R7 (.slice d ((List.replicate a.length (⟨0, 0⟩ : Pair))).length e) (a) := by
  have hx := f
  simpa [List.take_of_length_le (show a.length ≤ k by omega), show a.length - k = 0 by omega] using hx
 exact Zh [_] ⟨rfl, trivial⟩ ⟨u, Lo.down o om, E⟩

/-- spec.l15Less -/
theorem Zam {w : World} (a : Pair) (b : Pair) :
 Ctr Tryd.prog 53 #[(.agg #[(.int .i64 a.f), (.int .i64 a.t)]), (.agg #[(.int .i64 b.f), (.int .i64 b.t)])] w (fun v w' => v = .bool (tt (Xc a b)) ∧ Ch [] w w') := by
 have E := Ch.refl [] w
 refine Zr (N := 24) (vs0 := [(.agg #[(.int .i64 a.f), (.int .i64 a.t)]), (.agg #[(.int .i64 b.f), (.int .i64 b.t)])]) Tryd.func53 rfl rfl rfl ?_
 refine Zg fun K1 H1 => ?_
 refine Zc (Zx rfl rfl ?_)
 refine Zbk rfl fun i W2 h C2 m => ?_
 have n := C2.size
 have E := E.trans C2
 have o := h.lt
 replace h : Blk W2 i 57 [(.int .i64 a.f), (.int .i64 a.t)] := h
 refine Zx rfl rfl ?_
 refine Zbk rfl fun j W3 g C3 p => ?_
 have q := C3.size
 have E := E.trans C3
 have r := g.lt
 replace g : Blk W3 j 57 [(.int .i64 b.f), (.int .i64 b.t)] := g
 refine Za rfl rfl (Zd rfl) (Ze (Zb (H1 _ _ ?_)))
 refine Zg fun K4 H4 => ?_
 refine Zc (Za rfl rfl (Zi fa57_0 rfl) ?_)
 have F5 := h.ch0 C3
 refine Za rfl rfl (Zm F5.at_ agg3 rfl rfl) (Za rfl rfl (Zi fa57_0 rfl) (Za rfl rfl (Zm g.at_ agg3 rfl rfl) (Za rfl rfl (Xf rfl rfl) (Za rfl rfl (Zf rfl) ?_))))
 refine Qx (d := 10) rfl (fun c => ?_) (fun c => ?_)
 ·have k := c
  have c := Yd c
  refine Zl rfl rfl (Zl rfl rfl (Zl rfl rfl (Zl rfl rfl (Zl rfl rfl (Zl rfl rfl (Zl rfl rfl (Zl rfl rfl ?_)))))))
  refine Zl rfl rfl (Zl rfl rfl (Zl rfl rfl (Zl rfl rfl (Za rfl rfl (Yl rfl rfl) (Za rfl rfl (Zd rfl) (Ze (Zb (H4 _ _ ?_))))))))
  refine Zk ?_
  exact Zh [_] ⟨rfl, trivial⟩ ⟨congrArg Value.bool (by first | exact Xb (.inl c) | exact Ya (by unfold Xc; omega) | (rw [Zco]; exact Zet (by unfold Xc; omega))), E⟩
 have k := c
 have c := Ye c
 refine Za rfl rfl (Zi fa57_0 rfl) (Za rfl rfl (Zm F5.at_ agg3 rfl rfl) (Za rfl rfl (Zi fa57_0 rfl) (Za rfl rfl (Zm g.at_ agg3 rfl rfl) (Za rfl rfl (Zdn rfl rfl) (Za rfl rfl (Zf rfl) ?_)))))
 refine Qx (d := 16) rfl (fun e => ?_) (fun e => ?_)
 ·have l := e
  have e := Yd e
  refine Za rfl rfl (Zi fa57_1 rfl) (Za rfl rfl (Zm F5.at_ agg3 rfl rfl) (Za rfl rfl (Zi fa57_1 rfl) (Za rfl rfl (Zm g.at_ agg3 rfl rfl) (Za rfl rfl (Xf rfl rfl) (Za rfl rfl (Yl rfl rfl) (Za rfl rfl (Yi rfl rfl) (Za rfl rfl (Zd rfl) ?_)))))))
  refine Ze (Zb (H4 _ _ ?_))
  refine Zk ?_
  exact Zh [_] ⟨rfl, trivial⟩ ⟨congrArg Value.bool (by first | exact Xb (.inl c) | exact Ya (by unfold Xc; omega) | (rw [Zco]; exact Zet (by unfold Xc; omega))), E⟩
 have l := e
 have e := Ye e
 refine Zl rfl rfl (Zl rfl rfl (Zl rfl rfl (Zl rfl rfl (Zl rfl rfl (Za rfl rfl (Yi rfl rfl) (Za rfl rfl (Yi rfl rfl) (Za rfl rfl (Zd rfl) ?_)))))))
 refine Ze (Zb (H4 _ _ ?_))
 refine Zk ?_
 exact Zh [_] ⟨rfl, trivial⟩ ⟨congrArg Value.bool (by first | exact Xb (.inl c) | exact Ya (by unfold Xc; omega) | (rw [Zco]; exact Zet (by unfold Xc; omega))), E⟩

/-- spec.l1In -/
theorem Zad {w : World} (n : Int) (a : Int) (b : Int) :
 Ctr Tryd.prog 52 #[(.int .i64 n), (.int .i64 a), (.int .i64 b)] w (fun v w' => v = .bool (decide (a ≤ n ∧ n ≤ b)) ∧ Ch [] w w') := by
 have E := Ch.refl [] w
 refine Zr (N := 15) (vs0 := [(.int .i64 n), (.int .i64 a), (.int .i64 b)]) Tryd.func52 rfl rfl rfl ?_
 refine Zg fun K1 H1 => ?_
 refine Zc (Za rfl rfl (Zd rfl) (Ze (Zb (H1 _ _ ?_))))
 refine Zg fun K2 H2 => ?_
 refine Zc (Za rfl rfl (Zf rfl) (Za rfl rfl (Zf rfl) (Za rfl rfl (Zer rfl rfl) (Za rfl rfl (Zf rfl) ?_))))
 refine Qx (d := 10) rfl (fun c => ?_) (fun c => ?_)
 ·have e := c
  have c := Yd c
  refine Za rfl rfl (Zf rfl) (Za rfl rfl (Zf rfl) (Za rfl rfl (Zfx rfl rfl) (Za rfl rfl (Yl rfl rfl) (Za rfl rfl (Zd rfl) (Ze (Zb (H2 _ _ ?_)))))))
  refine Zk ?_
  exact Zh [_] ⟨rfl, trivial⟩ ⟨congrArg Value.bool (by first | rfl | (rw [Bool.eq_iff_iff]; simp <;> omega) | (rw [Bool.eq_iff_iff]; simp_all; done) | simp_all), E⟩
 have e := c
 have c := Ye c
 refine Zl rfl rfl (Zl rfl rfl (Zl rfl rfl (Za rfl rfl (Yi rfl rfl) (Za rfl rfl (Zd rfl) (Ze (Zb (H2 _ _ ?_)))))))
 refine Zk ?_
 exact Zh [_] ⟨rfl, trivial⟩ ⟨congrArg Value.bool (by first | rfl | (rw [Bool.eq_iff_iff]; simp <;> omega) | (rw [Bool.eq_iff_iff]; simp_all; done) | simp_all), E⟩

/-- spec.ArePairs -/
theorem Zaf {w : World} {LL_l F : Nat} {u : Value} {l : List Pair} (q : Ls Pair.cs 2 w LL_l F u l) :
 Ctr Tryd.prog 26 #[u] w (fun v w' => v = .bool (tt (ArePairs l)) ∧ Ch [] w w') := by
 obtain ⟨x, y, z⟩ := q.val
 subst z
 have ab := q.len
 have q := q.here (by decide)
 have E := Ch.refl [] w
 refine Zr (N := 43) (vs0 := [(.slice x l.length y)]) Tryd.func26 rfl rfl rfl ?_
 refine Zg fun K1 H1 => ?_
 refine Zc (Za rfl rfl (Zd rfl) (Ze (Zb (H1 _ _ ?_))))
 refine Zg fun K2 H2 => ?_
 refine Zg fun K3 H3 => ?_
 refine Zc (Za rfl rfl (Zd rfl) (Ze (Zb (H3 _ _ ?_))))
 refine Zw ?_
 refine Qq (σ := Nat) (fun (k : Nat) => [(0, (.slice x l.length y)), (3, (.int .i64 ((k : Nat) : Int)))]) (fun (k : Nat) wx => Ch [] w wx ∧ w.heap.size ≤ wx.heap.size ∧ (k ≤ l.length) ∧ (Zbl l k)) (fun (k : Nat) => l.length - k) 0 (sC2 rfl rfl (Sub.nil _)) ⟨E, (Nat.le_refl _), om, (Zbz l)⟩ ?_
 rintro k R4 ⟨E, ac, aB, A⟩
 have B := E
 have aa := B.size
 refine Zg fun K5 H5 => ?_
 refine Zg fun K6 H6 => ?_
 refine Zc (Za rfl rfl (Zf rfl) (Za rfl rfl (Zf rfl) (Za rfl rfl (Xt (by rw [el25]; rfl) rfl) (Za rfl rfl (Xf rfl rfl) (Ze (Zb (H6 _ _ ?_)))))))
 refine Zo rfl (fun t => ?_) (fun t => ?_)
 ·have ad := t
  have t := Yd t
  refine Zp ?_
  refine Zb (H5 _ _ ?_)
  refine Zg fun K8 H8 => ?_
  refine Zw ?_
  refine Zg fun K9 H9 => ?_
  refine Qc [] 33 mixed rfl fun G H => ?_
  have ae := H.size
  have E := E.trans H
  refine dV 0 rfl rfl rfl (fun _ => Zf rfl) (dV 1 rfl rfl rfl (fun _ => Zf rfl) ?_)
  have D := (q.ch0 B).ch0 H
  refine dT 2 rfl rfl rfl (Yn D Pair.len el25 sz57 rfl rfl rfl om fun af ag a I => ?_)
  refine dV 3 rfl rfl rfl (fun _ => Zi fa57_0 rfl) ?_
  refine dT 4 rfl rfl rfl (Yk I (fun i hi => absurd hi List.not_mem_nil) agg3 rfl rfl ?_)
  refine dO 5 (Qj rfl rfl rfl ?_)
  refine Step.call (Zq (xs := [.tmp 14, .const (Go.Value.int Go.IntKind.i64 0), .const (Go.Value.int Go.IntKind.i64 4)]) fk52 rfl) (Zad _ _ _ ) fun ah ai J => ?_
  obtain ⟨rfl, K⟩ := J
  have aj := K.size
  have E := E.trans K
  have r : Ch [] G ai := ((Ch.refl _ _).trans K)
  refine ⟨r, ?_⟩
  refine dV 6 rfl rfl rfl (fun _ => Zaq rfl) (dV 7 rfl rfl rfl (fun _ => Zf rfl) ?_)
  refine Xd (d := 17) rfl (fun b => ?_) (fun b => ?_)
  ·have L := b
   have b := Ye (Qh b)
   refine dK 8 rfl rfl rfl (dK 9 rfl rfl rfl (dK 10 rfl rfl rfl (dK 11 rfl rfl rfl (dK 12 rfl rfl rfl (dK 13 rfl rfl rfl (dK 14 rfl rfl rfl (dV 15 rfl rfl rfl (fun _ => Yl rfl rfl) ?_)))))))
   refine dV 16 rfl rfl rfl (fun _ => Zf rfl) (dK 17 rfl rfl rfl (dK 18 rfl rfl rfl (dK 19 rfl rfl rfl (dK 20 rfl rfl rfl (dK 21 rfl rfl rfl (dK 22 rfl rfl rfl (dK 23 rfl rfl rfl ?_)))))))
   refine dK 24 rfl rfl rfl (dK 25 rfl rfl rfl (dK 26 rfl rfl rfl (dK 27 rfl rfl rfl (dK 28 rfl rfl rfl (dK 29 rfl rfl rfl (dK 30 rfl rfl rfl (dK 31 rfl rfl rfl ?_)))))))
   refine dV 32 rfl rfl rfl (fun _ => Yl rfl rfl) ?_
   refine Ym (by kernel_rfl) ?_
   refine Zb (H9 _ _ ?_)
   refine Zau rfl ?_
   refine Zg fun aC ak => ?_
   refine Zc (Za rfl rfl (Zd rfl) (Ze (Zb (ak _ _ ?_))))
   refine Zk (Zs (Zj (Zj (Zs (Zj ?_)))))
   clear H2 H8
   exact Zh [_] ⟨rfl, trivial⟩ ⟨congrArg Value.bool (Ya (fun e => by first | (have m := Yc e a; unfold okP at m; omega) | (have m := Yc e g; unfold okP at m; omega) | (have m := Zan e om n h; exact f m))), E⟩
  have L := b
  have b := Yd (Qn b)
  refine dV 8 rfl rfl rfl (fun _ => Zf rfl) (dV 9 rfl rfl rfl (fun _ => Zf rfl) ?_)
  refine dT 10 rfl rfl rfl (Yn D Pair.len el25 sz57 rfl rfl rfl om fun al am g M => ?_)
  refine dV 11 rfl rfl rfl (fun _ => Zi fa57_1 rfl) ?_
  refine dT 12 rfl rfl rfl (Yk M (fun i hi => absurd hi List.not_mem_nil) agg3 rfl rfl ?_)
  refine dO 13 (Qj rfl rfl rfl ?_)
  refine Step.call (Zq (xs := [.tmp 22, .const (Go.Value.int Go.IntKind.i64 0), .const (Go.Value.int Go.IntKind.i64 4)]) fk52 rfl) (Zad _ _ _ ) fun an ao O => ?_
  obtain ⟨rfl, P⟩ := O
  have ap := P.size
  have E := E.trans P
  have s : Ch [] G ao := (r.trans P)
  refine ⟨s, ?_⟩
  refine dV 14 rfl rfl rfl (fun _ => Zaq rfl) (dV 15 rfl rfl rfl (fun _ => Yi rfl rfl) (dV 16 rfl rfl rfl (fun _ => Zf rfl) ?_))
  refine Xd (d := 26) rfl (fun c => ?_) (fun c => ?_)
  ·have Q := c
   have c := Ye (Qh c)
   refine dK 17 rfl rfl rfl (dK 18 rfl rfl rfl (dK 19 rfl rfl rfl (dK 20 rfl rfl rfl (dK 21 rfl rfl rfl (dK 22 rfl rfl rfl (dK 23 rfl rfl rfl (dK 24 rfl rfl rfl ?_)))))))
   refine dK 25 rfl rfl rfl (dK 26 rfl rfl rfl (dK 27 rfl rfl rfl (dK 28 rfl rfl rfl (dK 29 rfl rfl rfl (dK 30 rfl rfl rfl (dK 31 rfl rfl rfl (dV 32 rfl rfl rfl (fun _ => Yl rfl rfl) ?_)))))))
   refine Ym (by kernel_rfl) ?_
   refine Zb (H9 _ _ ?_)
   refine Zau rfl ?_
   refine Zg fun aD aq => ?_
   refine Zc (Za rfl rfl (Zd rfl) (Ze (Zb (aq _ _ ?_))))
   refine Zk (Zs (Zj (Zj (Zs (Zj ?_)))))
   clear H2 H8
   exact Zh [_] ⟨rfl, trivial⟩ ⟨congrArg Value.bool (Ya (fun e => by first | (have m := Yc e a; unfold okP at m; omega) | (have m := Yc e g; unfold okP at m; omega) | (have m := Zan e om n h; exact f m))), E⟩
  have Q := c
  have c := Yd (Qn c)
  refine dV 17 rfl rfl rfl (fun _ => Zf rfl) (dV 18 rfl rfl rfl (fun _ => Zdq rfl rfl) (dV 19 rfl rfl rfl (fun _ => Zf rfl) ?_))
  refine Xd (d := 29) rfl (fun o => ?_) (fun o => ?_)
  ·have R := o
   have o := Yd o
   refine dV 20 rfl rfl rfl (fun _ => Zf rfl) (dV 21 rfl rfl rfl (fun _ => Zf rfl) (dV 22 rfl rfl rfl (fun _ => Zes om rfl rfl) ?_))
   refine dT 23 rfl rfl rfl (Yn (j := (((k : Nat) : Int) - 1).toNat) D Pair.len el25 sz57 rfl rfl om om fun au S n T => ?_)
   refine dT 24 rfl rfl rfl (Yo T (fun i hi => absurd hi List.not_mem_nil) agg57 sz57 rfl ?_)
   refine dV 25 rfl rfl rfl (fun _ => Zf rfl) (dV 26 rfl rfl rfl (fun _ => Zf rfl) ?_)
   refine dT 27 rfl rfl rfl (Yn D Pair.len el25 sz57 rfl rfl rfl om fun av U h V => ?_)
   refine dT 28 rfl rfl rfl (Yo V (fun i hi => absurd hi List.not_mem_nil) agg57 sz57 rfl ?_)
   refine dO 29 (Qj rfl rfl rfl ?_)
   refine Step.call (Zq (xs := [.tmp 34, .tmp 38]) fk53 rfl) (Zam S U ) fun aw ax X => ?_
   obtain ⟨rfl, Y⟩ := X
   have ay := Y.size
   have E := E.trans Y
   have C : Ch [] G ax := (s.trans Y)
   refine ⟨C, ?_⟩
   refine dV 30 rfl rfl rfl (fun _ => Zaq rfl) (dV 31 rfl rfl rfl (fun _ => Yl rfl rfl) (dV 32 rfl rfl rfl (fun _ => Yi rfl rfl) ?_))
   refine Ym (by kernel_rfl) ?_
   refine Zb (H9 _ _ ?_)
   refine Zo rfl (fun f => ?_) (fun f => ?_)
   ·have Z := f
    have f := bf_t (Qh f)
    refine Zg fun aE az => ?_
    refine Zc (Za rfl rfl (Zd rfl) (Ze (Zb (az _ _ ?_))))
    refine Zk (Zs (Zj (Zj (Zs (Zj ?_)))))
    clear H2 H8
    exact Zh [_] ⟨rfl, trivial⟩ ⟨congrArg Value.bool (Ya (fun e => by first | (have m := Yc e a; unfold okP at m; omega) | (have m := Yc e g; unfold okP at m; omega) | (have m := Zan e om n h; exact f m))), E⟩
   have Z := f
   have f := bt_t (Qn f)
   refine Zp ?_
   refine Yg (Zb (H8 _ _ (Zc (Za rfl rfl (Zf rfl) (Za rfl rfl (Xy om rfl rfl) (Za rfl rfl (Zd rfl) (Ze ?_)))))))
   exact Zb (Exists.intro (k + 1) ⟨⟨E, om, om, (by rw [a] at g; cases g; first | exact Yq A a ⟨b.1, b.2, c.1, c.2⟩ (fun j p hj => absurd hj om) | (refine Yq A a ⟨b.1, b.2, c.1, c.2⟩ (fun j p hj hp => ?_); obtain rfl : j = ((k : Int) - 1).toNat := om; rw [n] at hp; cases hp; rw [a] at h; cases h; exact f))⟩, sC2 rfl rfl (Sub.nil _), (by first | omega | (dsimp only; omega))⟩)
  have R := o
  have o := Ye o
  refine dK 20 rfl rfl rfl (dK 21 rfl rfl rfl (dK 22 rfl rfl rfl (dK 23 rfl rfl rfl (dK 24 rfl rfl rfl (dK 25 rfl rfl rfl (dK 26 rfl rfl rfl (dK 27 rfl rfl rfl ?_)))))))
  refine dK 28 rfl rfl rfl (dK 29 rfl rfl rfl (dK 30 rfl rfl rfl (dV 31 rfl rfl rfl (fun _ => Yi rfl rfl) (dV 32 rfl rfl rfl (fun _ => Yi rfl rfl) ?_))))
  refine Ym (by kernel_rfl) ?_
  refine Zb (H9 _ _ ?_)
  refine Zdb rfl ?_
  refine Zp ?_
  refine Yg (Zb (H8 _ _ (Zc (Za rfl rfl (Zf rfl) (Za rfl rfl (Xy om rfl rfl) (Za rfl rfl (Zd rfl) (Ze ?_)))))))
  exact Zb (Exists.intro (k + 1) ⟨⟨E, om, om, (by rw [a] at g; cases g; first | exact Yq A a ⟨b.1, b.2, c.1, c.2⟩ (fun j p hj => absurd hj om) | (refine Yq A a ⟨b.1, b.2, c.1, c.2⟩ (fun j p hj hp => ?_); obtain rfl : j = ((k : Int) - 1).toNat := om; rw [n] at hp; cases hp; rw [a] at h; cases h; exact f))⟩, sC2 rfl rfl (Sub.nil _), (by first | omega | (dsimp only; omega))⟩)
 have ad := t
 have t := Ye t
 refine Qu (Zt (Zt (Xm ?_)))
 refine Zb (H2 _ _ ?_)
 refine Zg fun aF aA => ?_
 refine Zc (Za rfl rfl (Zd rfl) (Ze (Zb (aA _ _ ?_))))
 refine Zk ?_
 exact Zh [_] ⟨rfl, trivial⟩ ⟨congrArg Value.bool (Xb (Zcy A om)), E⟩

/-- spec.FormatInt -/
theorem Yj {w : World} (n : Int) (z : -9223372036854775808 ≤ n ∧ n ≤ 9223372036854775807) :
 Ctr Tryd.prog 27 #[(.int .i64 n)] w (fun v w' => v = bst (Yf n) ∧ Ch [] w w') := by
 have E := Ch.refl [] w
 refine Zr (N := 31) (vs0 := [(.int .i64 n)]) Tryd.func27 rfl rfl rfl ?_
 refine Zg fun K1 H1 => ?_
 refine Zc (Za rfl rfl (Zd rfl) (Ze (Zb (H1 _ _ ?_))))
 refine Zg fun K2 H2 => ?_
 refine Zg fun K3 H3 => ?_
 refine Zc (Za rfl rfl (Zf rfl) (Za rfl rfl (Zdn rfl rfl) (Ze (Zb (H3 _ _ ?_)))))
 refine Zo rfl (fun e => ?_) (fun e => ?_)
 ·have A := e
  have e := Yd e
  refine Zg fun K5 H5 => ?_
  refine Zc (Za rfl rfl (Zd rfl) (Ze (Zb (H5 _ _ ?_))))
  refine Zk (Zj ?_)
  exact Zh [_] ⟨rfl, trivial⟩ ⟨congrArg bst (Zgf e), E⟩
 have A := e
 have e := Ye e
 refine Zp ?_
 refine Zb (H2 _ _ ?_)
 refine Zg fun K6 H6 => ?_
 refine Zc (Za rfl rfl (Zd rfl) (Ze (Zb (H6 _ _ ?_))))
 refine Zg fun K7 H7 => ?_
 refine Zc (Za rfl rfl (Zf rfl) (Za rfl rfl (Xf rfl rfl) (Za rfl rfl (Zd rfl) (Ze (Zb (H7 _ _ ?_))))))
 refine Zg fun K8 H8 => ?_
 refine Zw ?_
 refine Qq (σ := Int × List UInt8) (fun ⟨m, out⟩ => [(0, (.int .i64 m)), (2, (bst ([] : List UInt8))), (3, (bst out)), (4, (.bool (decide (n < 0))))]) (fun ⟨m, out⟩ wx => Ch [] w wx ∧ w.heap.size ≤ wx.heap.size ∧ (dgF 20 m.natAbs ++ out = dgF 20 n.natAbs) ∧ (-9223372036854775808 ≤ m ∧ m ≤ 9223372036854775807)) (fun ⟨m, out⟩ => m.natAbs) (n, ([] : List UInt8)) (sC4 rfl rfl rfl rfl (Sub.nil _)) ⟨E, (Nat.le_refl _), (by simp), z⟩ ?_
 rintro ⟨m, out⟩ R9 ⟨E, B, hm, hr⟩
 have k := E
 have r := k.size
 have C := congrArg List.length hm
 have P := Zbo 20 n.natAbs
 rw [List.length_append] at C
 refine Zg fun Q s => ?_
 refine Zg fun R D => ?_
 refine Zc (Za rfl rfl (Zf rfl) (Za rfl rfl (Zci rfl rfl) (Ze (Zb (D _ _ ?_)))))
 refine Zo rfl (fun a => ?_) (fun a => ?_)
 ·have l := a
  have a := Ye (Qh a)
  have S := tm10 m
  refine Zp ?_
  refine Zb (s _ _ ?_)
  refine Zw ?_
  refine Zg fun T F => ?_
  refine Zc (Za rfl rfl (Zf rfl) (Za rfl rfl (Zgr om rfl rfl) (Za rfl rfl (Zd rfl) (Ze (Zb (F _ _ ?_))))))
  refine Zg fun U t => ?_
  refine Zg fun V G => ?_
  refine Zc (Za rfl rfl (Zf rfl) (Za rfl rfl (Xf rfl rfl) (Ze (Zb (G _ _ ?_)))))
  refine Zo rfl (fun c => ?_) (fun c => ?_)
  ·have o := c
   have c := Yd c
   refine Zc (Za rfl rfl (Zf rfl) (Za rfl rfl (Zgl om rfl) (Za rfl rfl (Zd rfl) (Ze (Zb (t _ _ ?_))))))
   refine Zg fun X H => ?_
   refine Zc (Za rfl rfl (Zf rfl) (Za rfl rfl (Xy om rfl rfl) (Za rfl rfl (Zbh (by rw [un3]; rfl) un5 rfl) (Zx rfl rfl ?_))))
   refine Xq (cs := ucs) (parts := [(0, .tmp 20)]) (0 : Int) [(w8 (48 + (-(m.tmod 10))))] el81 sz5 zr5 Zcp (by decide) rfl rfl rfl (by decide) (by decide) rfl fun p Y d g u => ?_
   have I := u.size
   have E := E.trans u
   obtain ⟨h, i, rfl, j, f⟩ := d.opn
   refine Za rfl rfl (Zao d.ls el81 un5 un9 rfl) (Za rfl rfl (Zf rfl) (Za rfl rfl (Xs (by (simp only [u8s, List.map_cons, List.map_nil, List.length_cons, List.length_nil]; omega)) rfl rfl) (Za rfl rfl (Zd rfl) (Ze (Zb (H _ _ (Zc (Za rfl rfl (Zf rfl) ?_))))))))
   refine Za rfl rfl (Zfr om (td10 om) rfl rfl) (Za rfl rfl (Zd rfl) (Ze (Yg ?_)))
   exact Zb (Exists.intro ((m.tdiv 10), ((u8s ([(w8 (48 + (-(m.tmod 10))))])) ++ out)) ⟨⟨E, om, (Zcq hm a hr (by first | exact .inl rfl | exact .inr rfl) om), (td10 hr)⟩, sC4 rfl rfl rfl rfl (Sub.nil _), (Zfv a)⟩)
  have o := c
  have c := Ye c
  refine Zp ?_
  refine Zb (t _ _ ?_)
  refine Zg fun Z J => ?_
  refine Zc (Za rfl rfl (Zf rfl) (Za rfl rfl (Xy om rfl rfl) (Za rfl rfl (Zbh (by rw [un3]; rfl) un5 rfl) (Zx rfl rfl ?_))))
  refine Xq (cs := ucs) (parts := [(0, .tmp 20)]) (0 : Int) [(w8 (48 + (m.tmod 10)))] el81 sz5 zr5 Zcp (by decide) rfl rfl rfl (by decide) (by decide) rfl fun p aa d g x => ?_
  have K := x.size
  have E := E.trans x
  obtain ⟨h, i, rfl, j, f⟩ := d.opn
  refine Za rfl rfl (Zao d.ls el81 un5 un9 rfl) (Za rfl rfl (Zf rfl) (Za rfl rfl (Xs (by (simp only [u8s, List.map_cons, List.map_nil, List.length_cons, List.length_nil]; omega)) rfl rfl) (Za rfl rfl (Zd rfl) (Ze (Zb (J _ _ (Zc (Za rfl rfl (Zf rfl) ?_))))))))
  refine Za rfl rfl (Zfr om (td10 om) rfl rfl) (Za rfl rfl (Zd rfl) (Ze (Yg ?_)))
  exact Zb (Exists.intro ((m.tdiv 10), ((u8s ([(w8 (48 + (m.tmod 10)))])) ++ out)) ⟨⟨E, om, (Zcq hm a hr (by first | exact .inl rfl | exact .inr rfl) om), (td10 hr)⟩, sC4 rfl rfl rfl rfl (Sub.nil _), (Zfv a)⟩)
 have l := a
 have a := Yd (Qn a)
 refine Qu (Zt (Zt (Xm ?_)))
 refine Zb (H8 _ _ ?_)
 refine Zg fun ab y => ?_
 refine Zg fun ac L => ?_
 refine Zc (Za rfl rfl (Zf rfl) (Ze (Zb (L _ _ ?_))))
 refine Zo rfl (fun b => ?_) (fun b => ?_)
 ·have q := b
  have b := Yd b
  refine Zg fun ad M => ?_
  refine Zc (Za rfl rfl (Zf rfl) (Za rfl rfl (Xs (by (simp only [u8s, List.map_cons, List.map_nil, List.length_cons, List.length_nil]; omega)) rfl rfl) (Za rfl rfl (Zd rfl) (Ze (Zb (M _ _ ?_))))))
  refine Zk (Zj ?_)
  clear s y
  exact Zh [_] ⟨rfl, trivial⟩ ⟨congrArg bst (Zea b (Zel hm a)), E⟩
 have q := b
 have b := Ye b
 refine Zp ?_
 refine Zb (y _ _ ?_)
 refine Zg fun ae O => ?_
 refine Zc (Za rfl rfl (Zf rfl) (Za rfl rfl (Zd rfl) (Ze (Zb (O _ _ ?_)))))
 refine Zk ?_
 exact Zh [_] ⟨rfl, trivial⟩ ⟨congrArg bst (Zdy b e (Zel hm a)), E⟩

/-- spec.FormatPairs -/
theorem Qp {w : World} {LL_l H : Nat} {A : Value} {l : List Pair} (c : Ls Pair.cs 2 w LL_l H A l) (hb : l.length ≤ 4194304) :
 Ctr Tryd.prog 8 #[A] w (fun v w' => v = bst (fpR l) ∧ Ch [] w w') := by
 obtain ⟨B, C, D⟩ := c.val
 subst D
 have ah := c.len
 have c := c.here (by decide)
 have E := Ch.refl [] w
 refine Zr (N := 37) (vs0 := [(.slice B l.length C)]) Tryd.func8 rfl rfl rfl ?_
 refine Zg fun K1 H1 => ?_
 refine Zc (Za rfl rfl (Zd rfl) (Ze (Zb (H1 _ _ ?_))))
 refine Zg fun K2 H2 => ?_
 refine Zg fun K3 H3 => ?_
 refine Zc (Za rfl rfl (Zf rfl) (Zx rfl rfl ?_))
 refine Step.call (Zq (xs := [.tmp 5]) fk26 rfl) (Zaf c ) fun aH W4 ai => ?_
 obtain ⟨rfl, C4⟩ := ai
 have aI := C4.size
 have E := E.trans C4
 refine Za rfl rfl (Zaq rfl) (Ze (Zb (H3 _ _ ?_)))
 refine Zo rfl (fun m => ?_) (fun m => ?_)
 ·have aj := m
  have m := bf_t (Qh m)
  refine Zg fun K6 H6 => ?_
  refine Zc (Za rfl rfl (Zd rfl) (Ze (Zb (H6 _ _ ?_))))
  refine Zk (Zj ?_)
  exact Zh [_] ⟨rfl, trivial⟩ ⟨congrArg bst (Zft m), E⟩
 have aj := m
 have m := bt_t (Qn m)
 refine Zp ?_
 refine Zb (H2 _ _ ?_)
 refine Zg fun K7 H7 => ?_
 refine Zg fun K8 H8 => ?_
 refine Zc (Za rfl rfl (Zf rfl) (Za rfl rfl (Xt (by rw [el25]; rfl) rfl) (Za rfl rfl (Zdn rfl rfl) (Ze (Zb (H8 _ _ ?_))))))
 refine Zo rfl (fun d => ?_) (fun d => ?_)
 ·have ak := d
  have d := Yd d
  refine Zg fun aJ al => ?_
  refine Zc (Za rfl rfl (Zd rfl) (Ze (Zb (al _ _ ?_))))
  refine Zk (Zj ?_)
  exact Zh [_] ⟨rfl, trivial⟩ ⟨congrArg bst (Zfu m om), E⟩
 have ak := d
 have d := Ye d
 refine Zp ?_
 refine Zb (H7 _ _ ?_)
 refine Zg fun aK am => ?_
 refine Zc (Za rfl rfl (Zd rfl) (Ze (Zb (am _ _ ?_))))
 refine Zg fun aL an => ?_
 refine Zg fun aM ao => ?_
 refine Zc (Za rfl rfl (Zd rfl) (Ze (Zb (ao _ _ ?_))))
 refine Zw ?_
 refine Qq (σ := Nat × List UInt8) (fun ⟨k, s⟩ => [(0, (.slice B l.length C)), (2, (bst ([] : List UInt8))), (3, (bst s)), (4, (.int .i64 ((k : Nat) : Int)))]) (fun ⟨k, s⟩ wx => Ch [] w wx ∧ W4.heap.size ≤ wx.heap.size ∧ (k ≤ l.length) ∧ (s = fpS (l.take k))) (fun ⟨k, s⟩ => l.length - k) (0, ([] : List UInt8)) (sC4 rfl rfl rfl rfl (Sub.nil _)) ⟨E, (Nat.le_refl _), om, rfl⟩ ?_
 rintro ⟨k, s⟩ aN ⟨E, ap, aO, hs⟩
 have p := E
 have aa := p.size
 have aP : s.length ≤ 43 * k := by rw [hs]; exact Zbw l k
 refine Zg fun aQ aq => ?_
 refine Zg fun aR au => ?_
 refine Zc (Za rfl rfl (Zf rfl) (Za rfl rfl (Zf rfl) (Za rfl rfl (Xt (by rw [el25]; rfl) rfl) (Za rfl rfl (Xf rfl rfl) (Ze (Zb (au _ _ ?_)))))))
 refine Zo rfl (fun e => ?_) (fun e => ?_)
 ·have I := e
  have e := Yd e
  refine Zp ?_
  refine Zb (aq _ _ ?_)
  refine Zg fun aS ab => ?_
  refine Zw ?_
  refine Zg fun aT ac => ?_
  refine Zg fun aU av => ?_
  refine Zc (Za rfl rfl (Zf rfl) (Za rfl rfl (Zdq rfl rfl) (Ze (Zb (av _ _ ?_)))))
  refine Zo rfl (fun g => ?_) (fun g => ?_)
  ·have J := g
   have g := Yd g
   refine Zc (Za rfl rfl (Zf rfl) (Za rfl rfl (Xs (by (first | omega | (simp only [List.length_append, List.length_cons, List.length_nil]; omega))) rfl rfl) (Za rfl rfl (Zd rfl) (Ze (Zb (ac _ _ ?_))))))
   refine Qc [] 16 mixed rfl fun ad K => ?_
   have aw := K.size
   have E := E.trans K
   refine dV 0 rfl rfl rfl (fun _ => Zf rfl) (dV 1 rfl rfl rfl (fun _ => Zf rfl) (dV 2 rfl rfl rfl (fun _ => Zf rfl) ?_))
   have ae := (c.ch0 p).ch0 K
   refine dT 3 rfl rfl rfl (Yn ae Pair.len el25 sz57 rfl rfl rfl om fun L h a q => ?_)
   have r := Yc m a
   unfold okP at r
   have M := Yb h.f
   have O := Yb h.t
   refine dV 4 rfl rfl rfl (fun _ => Zi fa57_0 rfl) ?_
   refine dT 5 rfl rfl rfl (Yk q (fun i hi => absurd hi List.not_mem_nil) agg3 rfl rfl ?_)
   refine dV 8 rfl rfl rfl (fun _ => Zf rfl) (dV 9 rfl rfl rfl (fun _ => Zf rfl) ?_)
   refine dT 10 rfl rfl rfl (Yn ae Pair.len el25 sz57 rfl rfl rfl om fun P j b u => ?_)
   have x := Yc m b
   unfold okP at x
   have Q := Yb j.f
   have R := Yb j.t
   refine dV 11 rfl rfl rfl (fun _ => Zi fa57_1 rfl) ?_
   refine dT 12 rfl rfl rfl (Yk u (fun i hi => absurd hi List.not_mem_nil) agg3 rfl rfl ?_)
   refine dO 6 (Qj rfl rfl rfl ?_)
   refine Step.call (Zq (xs := [.tmp 26]) fk27 rfl) (Yj _ om) fun S ax y => ?_
   obtain ⟨rfl, T⟩ := y
   have ay := T.size
   have E := E.trans T
   have n : Ch [] ad ax := ((Ch.refl _ _).trans T)
   refine ⟨n, ?_⟩
   refine dV 7 rfl rfl rfl (fun _ => Xs (by (first | omega | (simp only [List.length_append, List.length_cons, List.length_nil]; omega))) rfl rfl) (dO 13 (Qj rfl rfl rfl ?_))
   refine Step.call (Zq (xs := [.tmp 33]) fk27 rfl) (Yj _ om) fun U az z => ?_
   obtain ⟨rfl, V⟩ := z
   have aA := V.size
   have E := E.trans V
   have F : Ch [] ad az := (n.trans V)
   refine ⟨F, ?_⟩
   refine dV 14 rfl rfl rfl (fun _ => Xs (by (first | omega | (simp only [List.length_append, List.length_cons, List.length_nil]; omega))) rfl rfl) (dV 15 rfl rfl rfl (fun _ => Zd rfl) ?_)
   refine Ym (by kernel_rfl) ?_
   refine Yg (Zb (ab _ _ (Zc (Za rfl rfl (Zf rfl) (Za rfl rfl (Xy om rfl rfl) (Za rfl rfl (Zd rfl) (Ze ?_)))))))
   exact Zb (Exists.intro ((k + 1), (((s ++ [32]) ++ (Yf h.f)) ++ (Yf j.t))) ⟨⟨E, om, om, (by cases Zbx b a; rw [hs]; first | exact Zbt a om | exact Zca a om)⟩, sC4 rfl rfl rfl rfl (Sub.nil _), (by first | omega | (dsimp only; omega))⟩)
  have J := g
  have g := Ye g
  refine Zp ?_
  refine Zb (ac _ _ ?_)
  refine Qc [] 16 mixed rfl fun af X => ?_
  have aB := X.size
  have E := E.trans X
  refine dV 0 rfl rfl rfl (fun _ => Zf rfl) (dV 1 rfl rfl rfl (fun _ => Zf rfl) (dV 2 rfl rfl rfl (fun _ => Zf rfl) ?_))
  have ag := (c.ch0 p).ch0 X
  refine dT 3 rfl rfl rfl (Yn ag Pair.len el25 sz57 rfl rfl rfl om fun L h a q => ?_)
  have r := Yc m a
  unfold okP at r
  have M := Yb h.f
  have O := Yb h.t
  refine dV 4 rfl rfl rfl (fun _ => Zi fa57_0 rfl) ?_
  refine dT 5 rfl rfl rfl (Yk q (fun i hi => absurd hi List.not_mem_nil) agg3 rfl rfl ?_)
  refine dV 8 rfl rfl rfl (fun _ => Zf rfl) (dV 9 rfl rfl rfl (fun _ => Zf rfl) ?_)
  refine dT 10 rfl rfl rfl (Yn ag Pair.len el25 sz57 rfl rfl rfl om fun P j b u => ?_)
  have x := Yc m b
  unfold okP at x
  have Q := Yb j.f
  have R := Yb j.t
  refine dV 11 rfl rfl rfl (fun _ => Zi fa57_1 rfl) ?_
  refine dT 12 rfl rfl rfl (Yk u (fun i hi => absurd hi List.not_mem_nil) agg3 rfl rfl ?_)
  refine dO 6 (Qj rfl rfl rfl ?_)
  refine Step.call (Zq (xs := [.tmp 26]) fk27 rfl) (Yj _ om) fun S aC y => ?_
  obtain ⟨rfl, Y⟩ := y
  have aD := Y.size
  have E := E.trans Y
  have o : Ch [] af aC := ((Ch.refl _ _).trans Y)
  refine ⟨o, ?_⟩
  refine dV 7 rfl rfl rfl (fun _ => Xs (by (first | omega | (simp only [List.length_append, List.length_cons, List.length_nil]; omega))) rfl rfl) (dO 13 (Qj rfl rfl rfl ?_))
  refine Step.call (Zq (xs := [.tmp 33]) fk27 rfl) (Yj _ om) fun U aE z => ?_
  obtain ⟨rfl, Z⟩ := z
  have aF := Z.size
  have E := E.trans Z
  have G : Ch [] af aE := (o.trans Z)
  refine ⟨G, ?_⟩
  refine dV 14 rfl rfl rfl (fun _ => Xs (by (first | omega | (simp only [List.length_append, List.length_cons, List.length_nil]; omega))) rfl rfl) (dV 15 rfl rfl rfl (fun _ => Zd rfl) ?_)
  refine Ym (by kernel_rfl) ?_
  refine Yg (Zb (ab _ _ (Zc (Za rfl rfl (Zf rfl) (Za rfl rfl (Xy om rfl rfl) (Za rfl rfl (Zd rfl) (Ze ?_)))))))
  exact Zb (Exists.intro ((k + 1), ((s ++ (Yf h.f)) ++ (Yf j.t))) ⟨⟨E, om, om, (by cases Zbx b a; rw [hs]; first | exact Zbt a om | exact Zca a om)⟩, sC4 rfl rfl rfl rfl (Sub.nil _), (by first | omega | (dsimp only; omega))⟩)
 have I := e
 have e := Ye e
 refine Qu (Zt (Zt (Xm ?_)))
 refine Zb (an _ _ ?_)
 refine Zg fun aV aG => ?_
 refine Zc (Za rfl rfl (Zf rfl) (Za rfl rfl (Zd rfl) (Ze (Zb (aG _ _ ?_)))))
 refine Zk ?_
 exact Zh [_] ⟨rfl, trivial⟩ ⟨congrArg bst (by rw [hs, List.take_of_length_le om]; exact Zfs m om), E⟩

/-- laws.FnExactFormatPairs -/
theorem Xa {w : World} {LL_l k : Nat} {h : Value} {l : List Pair} (d : Ls Pair.cs 2 w LL_l k h l) :
 Ctr Tryd.prog 3 #[h] w (fun v w' => v = .bool (true) ∧ Ch [] w w') := by
 obtain ⟨m, n, i⟩ := d.val
 subst i
 have T := d.len
 have d := d.here (by decide)
 have E := Ch.refl [] w
 refine Zr (N := 27) (vs0 := [(.slice m l.length n)]) Tryd.func3 rfl rfl rfl ?_
 refine Zg fun K1 H1 => ?_
 refine Zc (Za rfl rfl (Zd rfl) (Ze (Zb (H1 _ _ ?_))))
 refine Zg fun K2 H2 => ?_
 refine Zc (Za rfl rfl (Zd rfl) (Ze (Zb (H2 _ _ ?_))))
 refine Zg fun K3 H3 => ?_
 refine Zc (Za rfl rfl (Zf rfl) (Za rfl rfl (Zf rfl) (Zx rfl rfl ?_)))
 refine Step.call (Zq (xs := [.tmp 7, .tmp 8]) fk7 rfl) (Zai d _ om om) fun ax W4 U => ?_
 obtain ⟨rfl, C4⟩ := U
 have ay := C4.size
 have E := E.trans C4
 refine Za rfl rfl (Zd rfl) (Ze (Zb (H3 _ _ ?_)))
 refine Zg fun K5 H5 => ?_
 refine Zg fun K6 H6 => ?_
 refine Zc (Za rfl rfl (Zf rfl) (Za rfl rfl (Xf rfl rfl) (Ze (Zb (H6 _ _ ?_)))))
 refine Zo rfl (fun b => ?_) (fun b => ?_)
 ·have V := b
  have b := Yd b
  refine Zg fun K8 H8 => ?_
  refine Zc (Za rfl rfl (Zd rfl) (Ze (Zb (H8 _ _ ?_))))
  refine Zk (Zj ?_)
  exact Zh [_] ⟨rfl, trivial⟩ ⟨congrArg Value.bool (by first | rfl | (exfalso; omega) | (exfalso; revert b; simp; done) | (exfalso; revert b; simp; omega)), E⟩
 have V := b
 have b := Ye b
 refine Zp ?_
 refine Zb (H5 _ _ ?_)
 refine Zg fun K9 H9 => ?_
 refine Zc (Za rfl rfl (Zf rfl) (Zx rfl rfl ?_))
 have C := d.ch0 C4
 refine Step.call (Zq (xs := [.tmp 12]) fk9 rfl) (Yy C om) fun X az f => ?_
 obtain ⟨f, D, o⟩ := f
 have Y := o.size
 have E := E.trans o
 obtain ⟨F, G, rfl, H, p⟩ := f.opn
 refine Zx rfl rfl ?_
 refine Step.call (Zq (xs := [.tmp 13]) fk8 rfl) (Qp f.ls om) fun Z aA q => ?_
 obtain ⟨rfl, r⟩ := q
 have aa := r.size
 have E := E.trans r
 refine Za rfl rfl (Zd rfl) (Ze (Zb (H9 _ _ ?_)))
 refine Zg fun aB ab => ?_
 refine Zc (Za rfl rfl (Zf rfl) (Zx rfl rfl ?_))
 have I := (C.ch0 o).ch0 r
 refine Step.call (Zq (xs := [.tmp 15]) fk9 rfl) (Yy I om) fun ac aC e => ?_
 obtain ⟨e, J, s⟩ := e
 have ad := s.size
 have E := E.trans s
 obtain ⟨K, L, rfl, M, t⟩ := e.opn
 refine Za rfl rfl (Zd rfl) (Ze (Zb (ab _ _ ?_)))
 refine Zg fun aD ae => ?_
 refine Zc (Za rfl rfl (Zf rfl) (Zx rfl rfl ?_))
 refine Step.call (Zq (xs := [.tmp 17]) fk10 rfl) (Qo e.ls om) fun af aE u => ?_
 obtain ⟨rfl, j⟩ := u
 have ag := j.size
 have E := E.trans j
 refine Za rfl rfl (Zd rfl) (Ze (Zb (ae _ _ ?_)))
 refine Zg fun aF ah => ?_
 refine Zg fun aG ai => ?_
 refine Zc (Za rfl rfl (Zf rfl) (Za rfl rfl (Zf rfl) (Za rfl rfl (Zfz rfl rfl) (Ze (Zb (ai _ _ ?_))))))
 refine Zo rfl (fun c => ?_) (fun c => ?_)
 ·have x := c
  have c := Ye (Qh c)
  refine Zg fun aH aj => ?_
  refine Zc (Za rfl rfl (Zd rfl) (Ze (Zb (aj _ _ ?_))))
  refine Zk (Zj ?_)
  exact Zh [_] ⟨rfl, trivial⟩ ⟨congrArg Value.bool (by first | rfl | (exfalso; omega) | (exfalso; revert c; simp; done) | (exfalso; revert c; simp; omega)), E⟩
 have x := c
 have c := Yd (Qn c)
 refine Zp ?_
 refine Zb (ah _ _ ?_)
 refine Zg fun aI ak => ?_
 refine Zg fun aJ al => ?_
 refine Zc (Za rfl rfl (Zf rfl) (Za rfl rfl (Zf rfl) (Zx rfl rfl ?_)))
 have am := (I.ch0 s).ch0 j
 refine Step.call (Zq (xs := [.tmp 23]) fk9 rfl) (Yy am om) fun an aK g => ?_
 obtain ⟨g, O, y⟩ := g
 have ao := y.size
 have E := E.trans y
 obtain ⟨P, Q, rfl, R, z⟩ := g.opn
 refine Zx rfl rfl ?_
 have ap := (e.ch0 j).ch0 y
 refine Step.call (Zq (xs := [.tmp 22, .tmp 24]) fk11 rfl) (Zak ap.ls g.ls ) fun aq aL A => ?_
 obtain ⟨rfl, S⟩ := A
 have au := S.size
 have E := E.trans S
 refine Za rfl rfl (Zaq rfl) (Ze (Zb (al _ _ ?_)))
 refine Zo rfl (fun a => ?_) (fun a => ?_)
 ·have B := a
  have a := Ye (Qh a)
  refine Zg fun aM av => ?_
  refine Zc (Za rfl rfl (Zd rfl) (Ze (Zb (av _ _ ?_))))
  refine Zk (Zj ?_)
  exact Zh [_] ⟨rfl, trivial⟩ ⟨congrArg Value.bool (by first | rfl | (exfalso; omega) | (exfalso; revert a; simp; done) | (exfalso; revert a; simp; omega)), E⟩
 have B := a
 have a := Yd (Qn a)
 refine Zp ?_
 refine Zb (ak _ _ ?_)
 refine Zg fun aN aw => ?_
 refine Zc (Za rfl rfl (Zd rfl) (Ze (Zb (aw _ _ ?_))))
 refine Zk ?_
 exact Zh [_] ⟨rfl, trivial⟩ ⟨congrArg Value.bool (by first | rfl | (exfalso; omega) | (exfalso; revert a; simp; done) | (exfalso; revert a; simp; omega)), E⟩

end Go.Proofs.YtbnnkffdhnefnaaDoor
