/- Walks of functions that FnExactAppendBatch reaches: what each returns, and that it leaves the memory that was there alone. -/
import Derived.Test.YtkmhgeppenifoaaLibA
import Derived.Test.YtkmhgeppenifoaaLibB
import Derived.Test.YtkmhgeppenifoaaWExactAppendBatch
import Derived.Test.YtkmhgeppenifoaaProg
namespace Go.Proofs.Ytkmhgeppenifoaa
open Go.KLib Go.Shelf
set_option maxHeartbeats 1000000
set_option maxRecDepth 20000
set_option linter.unusedVariables false
set_option linter.unusedSimpArgs false
namespace TExactAppendBatchb
theorem agg129 : Ya Try.prog 129 = some true := by kernel_rfl
theorem agg137 : Ya Try.prog 137 = some true := by kernel_rfl
theorem agg142 : Ya Try.prog 142 = some true := by kernel_rfl
theorem agg145 : Ya Try.prog 145 = some true := by kernel_rfl
theorem agg22 : Ya Try.prog 22 = some false := by kernel_rfl
theorem agg23 : Ya Try.prog 23 = some false := by kernel_rfl
theorem agg25 : Ya Try.prog 25 = some true := by kernel_rfl
theorem agg3 : Ya Try.prog 3 = some false := by kernel_rfl
theorem agg34 : Ya Try.prog 34 = some false := by kernel_rfl
theorem agg36 : Ya Try.prog 36 = some true := by kernel_rfl
theorem agg4 : Ya Try.prog 4 = some false := by kernel_rfl
theorem agg47 : Ya Try.prog 47 = some false := by kernel_rfl
theorem agg50 : Ya Try.prog 50 = some false := by kernel_rfl
theorem agg55 : Ya Try.prog 55 = some false := by kernel_rfl
theorem agg57 : Ya Try.prog 57 = some true := by kernel_rfl
theorem agg61 : Ya Try.prog 61 = some false := by kernel_rfl
theorem agg63 : Ya Try.prog 63 = some true := by kernel_rfl
theorem by129 : Qc Try.prog 129 = some 32 := by kernel_rfl
theorem by142 : Qc Try.prog 142 = some 40 := by kernel_rfl
theorem by3 : Qc Try.prog 3 = some 8 := by kernel_rfl
theorem by36 : Qc Try.prog 36 = some 48 := by kernel_rfl
theorem el22 : elB Try.prog 22 = some 3 := by kernel_rfl
theorem el23 : elB Try.prog 23 = some 137 := by kernel_rfl
theorem el34 : elB Try.prog 34 = some 129 := by kernel_rfl
theorem el47 : elB Try.prog 47 = some 25 := by kernel_rfl
theorem el50 : elB Try.prog 50 = some 145 := by kernel_rfl
theorem el55 : elB Try.prog 55 = some 36 := by kernel_rfl
theorem el61 : elB Try.prog 61 = some 142 := by kernel_rfl
theorem fa129_0 : faB Try.prog 129 0 = some 0 := by kernel_rfl
theorem fa129_1 : faB Try.prog 129 1 = some 1 := by kernel_rfl
theorem fa129_2 : faB Try.prog 129 2 = some 2 := by kernel_rfl
theorem fa129_3 : faB Try.prog 129 3 = some 3 := by kernel_rfl
theorem fa137_0 : faB Try.prog 137 0 = some 0 := by kernel_rfl
theorem fa137_1 : faB Try.prog 137 1 = some 1 := by kernel_rfl
theorem fa137_2 : faB Try.prog 137 2 = some 2 := by kernel_rfl
theorem fa137_3 : faB Try.prog 137 3 = some 3 := by kernel_rfl
theorem fa142_0 : faB Try.prog 142 0 = some 0 := by kernel_rfl
theorem fa142_1 : faB Try.prog 142 1 = some 1 := by kernel_rfl
theorem fa145_0 : faB Try.prog 145 0 = some 0 := by kernel_rfl
theorem fa145_1 : faB Try.prog 145 1 = some 1 := by kernel_rfl
theorem fa25_0 : faB Try.prog 25 0 = some 0 := by kernel_rfl
theorem fa25_1 : faB Try.prog 25 1 = some 1 := by kernel_rfl
theorem fa36_0 : faB Try.prog 36 0 = some 0 := by kernel_rfl
theorem fa36_1 : faB Try.prog 36 1 = some 1 := by kernel_rfl
theorem fa49_0 : faB Try.prog 49 0 = some 0 := by kernel_rfl
theorem fa49_1 : faB Try.prog 49 1 = some 1 := by kernel_rfl
theorem fa52_0 : faB Try.prog 52 0 = some 0 := by kernel_rfl
theorem fa57_0 : faB Try.prog 57 0 = some 0 := by kernel_rfl
theorem fa57_1 : faB Try.prog 57 1 = some 1 := by kernel_rfl
theorem fa63_0 : faB Try.prog 63 0 = some 0 := by kernel_rfl
theorem fk102 : fnB Try.prog 102 = true := by kernel_rfl
theorem fk109 : fnB Try.prog 109 = true := by kernel_rfl
theorem fk114 : fnB Try.prog 114 = true := by kernel_rfl
theorem fk115 : fnB Try.prog 115 = true := by kernel_rfl
theorem fk122 : fnB Try.prog 122 = true := by kernel_rfl
theorem fk45 : fnB Try.prog 45 = true := by kernel_rfl
theorem fk46 : fnB Try.prog 46 = true := by kernel_rfl
theorem fk51 : fnB Try.prog 51 = true := by kernel_rfl
theorem fk52 : fnB Try.prog 52 = true := by kernel_rfl
theorem fk6 : fnB Try.prog 6 = true := by kernel_rfl
theorem fk65 : fnB Try.prog 65 = true := by kernel_rfl
theorem fk66 : fnB Try.prog 66 = true := by kernel_rfl
theorem fk69 : fnB Try.prog 69 = true := by kernel_rfl
theorem fk70 : fnB Try.prog 70 = true := by kernel_rfl
theorem fk72 : fnB Try.prog 72 = true := by kernel_rfl
theorem fk73 : fnB Try.prog 73 = true := by kernel_rfl
theorem fk78 : fnB Try.prog 78 = true := by kernel_rfl
theorem fk79 : fnB Try.prog 79 = true := by kernel_rfl
theorem fk80 : fnB Try.prog 80 = true := by kernel_rfl
theorem fk88 : fnB Try.prog 88 = true := by kernel_rfl
theorem fk9 : fnB Try.prog 9 = true := by kernel_rfl
theorem fk90 : fnB Try.prog 90 = true := by kernel_rfl
theorem fk92 : fnB Try.prog 92 = true := by kernel_rfl
theorem fk99 : fnB Try.prog 99 = true := by kernel_rfl
theorem mixed : Try.prog.follows .mixedOrders = true := by kernel_rfl
theorem pl36 : Zcr Try.prog 36 = some [(0, 1), (1, 1)] := by kernel_rfl
theorem sz129 : Zw Try.prog 129 = some 4 := by kernel_rfl
theorem sz137 : Zw Try.prog 137 = some 4 := by kernel_rfl
theorem sz142 : Zw Try.prog 142 = some 5 := by kernel_rfl
theorem sz145 : Zw Try.prog 145 = some 5 := by kernel_rfl
theorem sz22 : Zw Try.prog 22 = some 1 := by kernel_rfl
theorem sz25 : Zw Try.prog 25 = some 2 := by kernel_rfl
theorem sz3 : Zw Try.prog 3 = some 1 := by kernel_rfl
theorem sz34 : Zw Try.prog 34 = some 1 := by kernel_rfl
theorem sz36 : Zw Try.prog 36 = some 2 := by kernel_rfl
theorem sz4 : Zw Try.prog 4 = some 1 := by kernel_rfl
theorem sz55 : Zw Try.prog 55 = some 1 := by kernel_rfl
theorem sz57 : Zw Try.prog 57 = some 2 := by kernel_rfl
theorem sz61 : Zw Try.prog 61 = some 1 := by kernel_rfl
theorem sz63 : Zw Try.prog 63 = some 1 := by kernel_rfl
theorem zr129 : Yx Try.prog 129 = some (.agg #[.int .i64 0, .int .i64 0, .int .i64 0, .int .i64 0]) := by kernel_rfl
theorem zr142 : Yx Try.prog 142 = some (.agg #[.bool false, .int .i64 0, .int .i64 0, .int .i64 0, .int .i64 0]) := by kernel_rfl
theorem zr3 : Yx Try.prog 3 = some (.int .i64 0) := by kernel_rfl
theorem zr36 : Yx Try.prog 36 = some (.agg #[.slice none 0 0, .slice none 0 0]) := by kernel_rfl
theorem zr57 : Yx Try.prog 57 = some (.agg #[.int .i64 0, .slice none 0 0]) := by kernel_rfl
theorem zr63 : Yx Try.prog 63 = some (.agg #[.slice none 0 0]) := by kernel_rfl
end TExactAppendBatchb
open TExactAppendBatchb

/-- laws.heldEdgeS -/
theorem Zev {w : World} {LL_a u : Nat} {o : Value} {a : List GEdge} (g : Ls GEdge.cs 4 w LL_a u o a) (k : Int) (M : 0 ≤ k) (hkk : k + 4 * a.length ≤ 4611686018427387904) :
 Ctr Try.prog 115 #[o, (.int .i64 k)] w (fun v w' => v = .int .i64 (if a = Yu k a.length then k + 4 * a.length else -1) ∧ Ch [] w w') := by
 obtain ⟨p, q, r⟩ := g.val
 subst r
 have O := g.len
 have g := g.here (by decide)
 have E := Ch.refl [] w
 refine Zx (N := 49) (vs0 := [(.slice p a.length q), (.int .i64 k)]) Try.func115 rfl rfl rfl ?_
 refine Zf fun K1 H1 => ?_
 refine Zc (Za rfl rfl (Ze rfl) (Zd (Zb (H1 _ _ ?_))))
 refine Zf fun K2 H2 => ?_
 refine Zf fun K3 H3 => ?_
 refine Zc (Za rfl rfl (Ze rfl) (Zd (Zb (H3 _ _ ?_))))
 refine Zz ?_
 refine Xk (σ := Nat × Int) (fun ⟨i, kk⟩ => [(0, (.slice p a.length q)), (1, (.int .i64 kk)), (5, (.int .i64 ((i : Nat) : Int)))]) (fun ⟨i, kk⟩ wx => Ch [] w wx ∧ w.heap.size ≤ wx.heap.size ∧ (i ≤ a.length) ∧ (kk = k + 4 * i) ∧ (a.take i = Yu k i)) (fun ⟨i, kk⟩ => a.length - i) (0, k) (sC2 rfl rfl (sC1 rfl (Sub.nil _))) ⟨E, (Nat.le_refl _), om, om, rfl⟩ ?_
 rintro ⟨i, kk⟩ R4 ⟨E, P, hi, hq, H⟩
 have s := E
 have I := s.size
 refine Zf fun K5 H5 => ?_
 refine Zf fun K6 H6 => ?_
 refine Zc (Za rfl rfl (Zg rfl) (Za rfl rfl (Zg rfl) (Za rfl rfl (Yi (by rw [el34]; rfl) rfl) (Za rfl rfl (Yv rfl rfl) (Zd (Zb (H6 _ _ ?_)))))))
 refine Zu rfl (fun n => ?_) (fun n => ?_)
 ·have Q := n
  have n := Yh n
  refine Zt ?_
  refine Zb (H5 _ _ ?_)
  refine Zf fun K8 H8 => ?_
  refine Zz ?_
  refine Zf fun K9 H9 => ?_
  refine Zf fun am R => ?_
  refine Zc (Za rfl rfl (Zg rfl) (Za rfl rfl (Zg rfl) (Zl rfl rfl ?_)))
  have t := g.ch0 s
  refine (Xo t GEdge.len el34 sz129 rfl rfl rfl om fun S T h x => ?_)
  refine Za rfl rfl (Zh fa129_0 rfl) (Za rfl rfl (Zn x agg3 rfl rfl) (Za rfl rfl (Zg rfl) (Za rfl rfl (Zbs rfl rfl) (Zd (Zb (R _ _ ?_))))))
  refine Zu rfl (fun b => ?_) (fun b => ?_)
  ·have y := b
   have b := Yg (Xv b)
   refine Zf fun an U => ?_
   refine Zc (Za rfl rfl (Ze rfl) (Zd (Zb (U _ _ ?_))))
   refine Zp (Zk (Zy (Zk (Zk (Zy (Zk ?_))))))
   clear H2 H8 H9
   exact Zi [_] ⟨rfl, trivial⟩ ⟨congrArg (Value.int .i64) (if_neg (fun e => b (by have z := (Zbe e h).1; omega))).symm, E⟩
  have y := b
  have b := Yh (Xw b)
  refine Zt ?_
  refine Zb (H9 _ _ ?_)
  refine Zf fun ao V => ?_
  refine Zc (Za rfl rfl (Zg rfl) (Za rfl rfl (Yq om rfl rfl) (Za rfl rfl (Ze rfl) (Zd (Zb (V _ _ ?_))))))
  refine Zf fun ap J => ?_
  refine Zf fun aq X => ?_
  refine Zc (Za rfl rfl (Zg rfl) (Za rfl rfl (Zg rfl) (Zl rfl rfl ?_)))
  refine (Xo t GEdge.len el34 sz129 rfl rfl rfl om fun Y Z j A => ?_)
  refine Za rfl rfl (Zh fa129_1 rfl) (Za rfl rfl (Zn A agg3 rfl rfl) (Za rfl rfl (Zg rfl) (Za rfl rfl (Zbs rfl rfl) (Zd (Zb (X _ _ ?_))))))
  refine Zu rfl (fun c => ?_) (fun c => ?_)
  ·have B := c
   have c := Yg (Xv c)
   refine Zf fun au aa => ?_
   refine Zc (Za rfl rfl (Ze rfl) (Zd (Zb (aa _ _ ?_))))
   refine Zp (Zk (Zy (Zk (Zk (Zy (Zk ?_))))))
   clear H2 H8 J
   exact Zi [_] ⟨rfl, trivial⟩ ⟨congrArg (Value.int .i64) (if_neg (fun e => c (by have z := (Zbe e j).2.1; omega))).symm, E⟩
  have B := c
  have c := Yh (Xw c)
  refine Zt ?_
  refine Zb (J _ _ ?_)
  refine Zf fun av ab => ?_
  refine Zc (Za rfl rfl (Zg rfl) (Za rfl rfl (Yq om rfl rfl) (Za rfl rfl (Ze rfl) (Zd (Zb (ab _ _ ?_))))))
  refine Zf fun aw K => ?_
  refine Zf fun ax ac => ?_
  refine Zc (Za rfl rfl (Zg rfl) (Za rfl rfl (Zg rfl) (Zl rfl rfl ?_)))
  refine (Xo t GEdge.len el34 sz129 rfl rfl rfl om fun ad ae l C => ?_)
  refine Za rfl rfl (Zh fa129_2 rfl) (Za rfl rfl (Zn C agg3 rfl rfl) (Za rfl rfl (Zg rfl) (Za rfl rfl (Zbs rfl rfl) (Zd (Zb (ac _ _ ?_))))))
  refine Zu rfl (fun d => ?_) (fun d => ?_)
  ·have D := d
   have d := Yg (Xv d)
   refine Zf fun ay af => ?_
   refine Zc (Za rfl rfl (Ze rfl) (Zd (Zb (af _ _ ?_))))
   refine Zp (Zk (Zy (Zk (Zk (Zy (Zk ?_))))))
   clear H2 H8 K
   exact Zi [_] ⟨rfl, trivial⟩ ⟨congrArg (Value.int .i64) (if_neg (fun e => d (by have z := (Zbe e l).2.2.1; omega))).symm, E⟩
  have D := d
  have d := Yh (Xw d)
  refine Zt ?_
  refine Zb (K _ _ ?_)
  refine Zf fun az ag => ?_
  refine Zc (Za rfl rfl (Zg rfl) (Za rfl rfl (Yq om rfl rfl) (Za rfl rfl (Ze rfl) (Zd (Zb (ag _ _ ?_))))))
  refine Zf fun aA L => ?_
  refine Zf fun aB ah => ?_
  refine Zc (Za rfl rfl (Zg rfl) (Za rfl rfl (Zg rfl) (Zl rfl rfl ?_)))
  refine (Xo t GEdge.len el34 sz129 rfl rfl rfl om fun ai aj m F => ?_)
  refine Za rfl rfl (Zh fa129_3 rfl) (Za rfl rfl (Zn F agg3 rfl rfl) (Za rfl rfl (Zg rfl) (Za rfl rfl (Zbs rfl rfl) (Zd (Zb (ah _ _ ?_))))))
  refine Zu rfl (fun f => ?_) (fun f => ?_)
  ·have G := f
   have f := Yg (Xv f)
   refine Zf fun aC ak => ?_
   refine Zc (Za rfl rfl (Ze rfl) (Zd (Zb (ak _ _ ?_))))
   refine Zp (Zk (Zy (Zk (Zk (Zy (Zk ?_))))))
   clear H2 H8 L
   exact Zi [_] ⟨rfl, trivial⟩ ⟨congrArg (Value.int .i64) (if_neg (fun e => f (by have z := (Zbe e m).2.2.2; omega))).symm, E⟩
  have G := f
  have f := Yh (Xw f)
  refine Zt ?_
  refine Zb (L _ _ (Zc (Za rfl rfl (Zg rfl) (Za rfl rfl (Yq om rfl rfl) (Za rfl rfl (Ze rfl) (Zd (Yr (Zb (H8 _ _ ?_)))))))))
  refine Zc (Za rfl rfl (Zg rfl) (Za rfl rfl (Yq om rfl rfl) (Za rfl rfl (Ze rfl) (Zd ?_))))
  exact Zb (Exists.intro ((i + 1), ((((kk + 1) + 1) + 1) + 1)) ⟨⟨E, om, om, om, (Zga H hq h b j c l d m f)⟩, sC2 rfl rfl (sC1 rfl (Sub.nil _)), (by first | omega | (dsimp only; omega))⟩)
 have Q := n
 have n := Yg n
 refine Xc (Zv (Zv (Ys ?_)))
 refine Zb (H2 _ _ ?_)
 refine Zf fun aD al => ?_
 refine Zc (Za rfl rfl (Zg rfl) (Za rfl rfl (Ze rfl) (Zd (Zb (al _ _ ?_)))))
 refine Zp ?_
 exact Zi [_] ⟨rfl, trivial⟩ ⟨congrArg (Value.int .i64) (by rw [if_pos (Zhg H om om)]; omega), E⟩

/-- laws.heldIntS -/
theorem Zfq {w : World} {LL_a n : Nat} {g : Value} {a : List Int} (c : Ls ics 1 w LL_a n g a) (k : Int) (s : 0 ≤ k) (hkk : k + a.length ≤ 4611686018427387904) :
 Ctr Try.prog 114 #[g, (.int .i64 k)] w (fun v w' => v = .int .i64 (if a = Qh k a.length then k + a.length else -1) ∧ Ch [] w w') := by
 obtain ⟨h, j, l⟩ := c.val
 subst l
 have t := c.len
 have c := c.here (by decide)
 have E := Ch.refl [] w
 refine Zx (N := 21) (vs0 := [(.slice h a.length j), (.int .i64 k)]) Try.func114 rfl rfl rfl ?_
 refine Zf fun K1 H1 => ?_
 refine Zc (Za rfl rfl (Ze rfl) (Zd (Zb (H1 _ _ ?_))))
 refine Zf fun K2 H2 => ?_
 refine Zf fun K3 H3 => ?_
 refine Zc (Za rfl rfl (Ze rfl) (Zd (Zb (H3 _ _ ?_))))
 refine Zz ?_
 refine Xk (σ := Nat × Int) (fun ⟨i, kk⟩ => [(0, (.slice h a.length j)), (1, (.int .i64 kk)), (5, (.int .i64 ((i : Nat) : Int)))]) (fun ⟨i, kk⟩ wx => Ch [] w wx ∧ w.heap.size ≤ wx.heap.size ∧ (i ≤ a.length) ∧ (kk = k + i) ∧ (a.take i = Qh k i)) (fun ⟨i, kk⟩ => a.length - i) (0, k) (sC2 rfl rfl (sC1 rfl (Sub.nil _))) ⟨E, (Nat.le_refl _), om, om, rfl⟩ ?_
 rintro ⟨i, kk⟩ R4 ⟨E, u, hi, hq, q⟩
 have m := E
 have r := m.size
 refine Zf fun K5 H5 => ?_
 refine Zf fun K6 H6 => ?_
 refine Zc (Za rfl rfl (Zg rfl) (Za rfl rfl (Zg rfl) (Za rfl rfl (Yi (by rw [el22]; rfl) rfl) (Za rfl rfl (Yv rfl rfl) (Zd (Zb (H6 _ _ ?_)))))))
 refine Zu rfl (fun f => ?_) (fun f => ?_)
 ·have x := f
  have f := Yh f
  refine Zt ?_
  refine Zb (H5 _ _ ?_)
  refine Zf fun K8 H8 => ?_
  refine Zz ?_
  refine Zf fun K9 H9 => ?_
  refine Zf fun F y => ?_
  refine Zc (Za rfl rfl (Zg rfl) (Za rfl rfl (Zg rfl) (Zl rfl rfl ?_)))
  have z := c.ch0 m
  refine (Xo z Qz el22 sz3 rfl rfl rfl om fun A B d o => ?_)
  refine Za rfl rfl (Zbx o agg3 rfl rfl) (Za rfl rfl (Zg rfl) (Za rfl rfl (Zbs rfl rfl) (Zd (Zb (y _ _ ?_)))))
  refine Zu rfl (fun b => ?_) (fun b => ?_)
  ·have p := b
   have b := Yg (Xv b)
   refine Zf fun G C => ?_
   refine Zc (Za rfl rfl (Ze rfl) (Zd (Zb (C _ _ ?_))))
   refine Zp (Zk (Zy (Zk (Zk (Zy (Zk ?_))))))
   clear H2 H8 H9
   exact Zi [_] ⟨rfl, trivial⟩ ⟨congrArg (Value.int .i64) (if_neg (fun e => b (by have H := (Zie e d); omega))).symm, E⟩
  have p := b
  have b := Yh (Xw b)
  refine Zt ?_
  refine Zb (H9 _ _ (Zc (Za rfl rfl (Zg rfl) (Za rfl rfl (Yq om rfl rfl) (Za rfl rfl (Ze rfl) (Zd (Yr (Zb (H8 _ _ ?_)))))))))
  refine Zc (Za rfl rfl (Zg rfl) (Za rfl rfl (Yq om rfl rfl) (Za rfl rfl (Ze rfl) (Zd ?_))))
  exact Zb (Exists.intro ((i + 1), (kk + 1)) ⟨⟨E, om, om, om, (Zhw q hq d b)⟩, sC2 rfl rfl (sC1 rfl (Sub.nil _)), (by first | omega | (dsimp only; omega))⟩)
 have x := f
 have f := Yg f
 refine Xc (Zv (Zv (Ys ?_)))
 refine Zb (H2 _ _ ?_)
 refine Zf fun I D => ?_
 refine Zc (Za rfl rfl (Zg rfl) (Za rfl rfl (Ze rfl) (Zd (Zb (D _ _ ?_)))))
 refine Zp ?_
 exact Zi [_] ⟨rfl, trivial⟩ ⟨congrArg (Value.int .i64) (by rw [if_pos (Zif q om om)]; omega), E⟩

/-- laws.heldGraphS -/
theorem Zed {w : World} {LL_sa B : Nat} {r : Value} {sa : List Gv} (j : Ls Gv.cs 2 w LL_sa B r sa) {LR_a BB_a : Nat} {a : List GD} (m : RdG w LR_a BB_a sa a) (k : Int) (aj : 0 ≤ k) (hkk : k + 4 * Xi a ≤ 4611686018427387904) :
 Ctr Try.prog 80 #[r, (.int .i64 k)] w (fun v w' => v = .int .i64 (Zcj k a) ∧ Ch [] w w') := by
 obtain ⟨s, t, u⟩ := j.val
 subst u
 have aa := j.len
 have j := j.here (by decide)
 have m := m.here
 have ab := m.1
 have E := Ch.refl [] w
 refine Zx (N := 31) (vs0 := [(.slice s sa.length t), (.int .i64 k)]) Try.func80 rfl rfl rfl ?_
 refine Zf fun K1 H1 => ?_
 refine Zc (Za rfl rfl (Ze rfl) (Zd (Zb (H1 _ _ ?_))))
 refine Zf fun K2 H2 => ?_
 refine Zf fun K3 H3 => ?_
 refine Zc (Za rfl rfl (Ze rfl) (Zd (Zb (H3 _ _ ?_))))
 refine Zz ?_
 refine Xk (σ := Nat × Int) (fun ⟨i, kk⟩ => [(0, (.slice s sa.length t)), (1, (.int .i64 kk)), (5, (.int .i64 ((i : Nat) : Int)))]) (fun ⟨i, kk⟩ wx => Ch [] w wx ∧ w.heap.size ≤ wx.heap.size ∧ (i ≤ a.length) ∧ (kk = k + Xx (a.take i)) ∧ (a.take i = Qa k (a.take i))) (fun ⟨i, kk⟩ => a.length - i) (0, k) (sC2 rfl rfl (sC1 rfl (Sub.nil _))) ⟨E, (Nat.le_refl _), om, (by simp [Xx]), (by simp [Qa])⟩ ?_
 rintro ⟨i, kk⟩ R4 ⟨E, ak, hi, hq, F⟩
 have x := E
 have ac := x.size
 refine Zf fun K5 H5 => ?_
 refine Zf fun K6 H6 => ?_
 refine Zc (Za rfl rfl (Zg rfl) (Za rfl rfl (Zg rfl) (Za rfl rfl (Yi (by rw [el55]; rfl) rfl) (Za rfl rfl (Yv rfl rfl) (Zd (Zb (H6 _ _ ?_)))))))
 refine Zu rfl (fun y => ?_) (fun y => ?_)
 ·have al := y
  have y := Yh y
  refine Zt ?_
  refine Zb (H5 _ _ ?_)
  refine Zf fun K8 H8 => ?_
  refine Zz ?_
  refine Zf fun K9 H9 => ?_
  refine Zc (Za rfl rfl (Zg rfl) (Za rfl rfl (Zg rfl) (Zl rfl rfl ?_)))
  have ad := j.ch0 x
  refine (Xo ad Gv.len el55 sz36 rfl rfl rfl om fun am H C I => ?_)
  have ae := m.ch0 x
  obtain ⟨d, b, l, q⟩ := ae.get C
  obtain ⟨⟨J, an, K⟩, ⟨L, ao, M⟩⟩ := H
  obtain rfl := l.eqn
  obtain rfl := q.eqn
  have ap := l.len
  have aq := q.len
  replace l : Ls ics 1 R4 LR_a w.heap.size (.slice J d.V.length K) d.V := l
  replace q : Ls GEdge.cs 4 R4 LR_a w.heap.size (.slice L d.E.length M) d.E := q
  have aL := Zeb b
  have aM := Zir b
  refine Za rfl rfl (Zh fa36_0 rfl) (Za rfl rfl (Zn I agg22 rfl rfl) (Za rfl rfl (Zg rfl) (Zl rfl rfl ?_)))
  refine Step.call (Zr (xs := [.tmp 16, .tmp 17]) fk114 rfl) (Zfq l _ om (by first | omega | (simp <;> omega))) fun au af O => ?_
  obtain ⟨rfl, G⟩ := O
  have av := G.size
  have E := E.trans G
  refine Za rfl rfl (Ze rfl) (Zd (Zb (H9 _ _ ?_)))
  refine Zf fun aN ag => ?_
  refine Zf fun aO aw => ?_
  refine Zc (Za rfl rfl (Zg rfl) (Za rfl rfl (Yv rfl rfl) (Zd (Zb (aw _ _ ?_)))))
  refine Zu rfl (fun f => ?_) (fun f => ?_)
  ·have P := f
   have f := Yh f
   first | have h := Zez f | skip
   refine Zf fun aP ax => ?_
   refine Zc (Za rfl rfl (Ze rfl) (Zd (Zb (ax _ _ ?_))))
   refine Zp (Zk (Zy (Zk (Zk (Zy (Zk ?_))))))
   clear H2 H8 ag
   exact Zi [_] ⟨rfl, trivial⟩ ⟨congrArg (Value.int .i64) (by first | exact Zcf (Zcy b hq (fun c => Zda f om c.1)) | exact Zcf (Zcy b hq (fun c => Zda g (by rw [h.2]; omega) (by rw [h.2, ← o]; exact c.2))) | exact Zgy F hq om), E⟩
  have P := f
  have f := Yg f
  first | have h := Zez f | skip
  refine Zt ?_
  refine Zb (ag _ _ ?_)
  refine Zf fun aQ ay => ?_
  refine Zc (Za rfl rfl (Zg rfl) (Za rfl rfl (Zg rfl) (Zl rfl rfl ?_)))
  have az := ad.ch0 G
  refine (Xo az Gv.len el55 sz36 rfl rfl rfl om fun aA Q D R => ?_)
  have aB := ae.ch0 G
  obtain ⟨e, z, n, p⟩ := aB.get D
  obtain ⟨⟨S, aC, T⟩, ⟨U, aD, X⟩⟩ := Q
  obtain rfl := n.eqn
  obtain rfl := p.eqn
  have aE := n.len
  have aF := p.len
  replace n : Ls ics 1 af LR_a w.heap.size (.slice S e.V.length T) e.V := n
  replace p : Ls GEdge.cs 4 af LR_a w.heap.size (.slice U e.E.length X) e.E := p
  have o := Zce b z
  have aR : d.E.length = e.E.length := by rw [o]
  refine Za rfl rfl (Zh fa36_1 rfl) (Za rfl rfl (Zn R agg34 rfl rfl) (Za rfl rfl (Zg rfl) (Zl rfl rfl ?_)))
  refine Step.call (Zr (xs := [.tmp 25, .tmp 26]) fk115 rfl) (Zev p _ om (by first | omega | (simp <;> omega))) fun aG aS Y => ?_
  obtain ⟨rfl, ah⟩ := Y
  have aH := ah.size
  have E := E.trans ah
  refine Za rfl rfl (Ze rfl) (Zd (Zb (ay _ _ ?_)))
  refine Zf fun aT aI => ?_
  refine Zc (Za rfl rfl (Zg rfl) (Za rfl rfl (Yv rfl rfl) (Zd (Zb (aI _ _ ?_)))))
  refine Zu rfl (fun g => ?_) (fun g => ?_)
  ·have Z := g
   have g := Yh g
   first | have A := Zez g | skip
   refine Zf fun aU aJ => ?_
   refine Zc (Za rfl rfl (Ze rfl) (Zd (Zb (aJ _ _ ?_))))
   refine Zp (Zy (Zk (Zk (Zy (Zk ?_)))))
   clear H2 H8
   exact Zi [_] ⟨rfl, trivial⟩ ⟨congrArg (Value.int .i64) (by first | exact Zcf (Zcy b hq (fun c => Zda f om c.1)) | exact Zcf (Zcy b hq (fun c => Zda g (by rw [h.2]; omega) (by rw [h.2, ← o]; exact c.2))) | exact Zgy F hq om), E⟩
  have Z := g
  have g := Yg g
  first | have A := Zez g | skip
  refine Zt ?_
  refine Yr (Zb (H8 _ _ (Zc (Za rfl rfl (Zg rfl) (Za rfl rfl (Yq om rfl rfl) (Za rfl rfl (Ze rfl) (Zd ?_)))))))
  exact Zb (Exists.intro ((i + 1), (if e.E = Yu (if d.V = Qh kk d.V.length then kk + d.V.length else -1) e.E.length then (if d.V = Qh kk d.V.length then kk + d.V.length else -1) + 4 * e.E.length else -1)) ⟨⟨E, om, om, (by rw [A.2, h.2]; omega), (Zlw F b hq h.1 (by have ai := A.1; rw [h.2, ← o] at ai; exact ai))⟩, sC2 rfl rfl (sC1 rfl (Sub.nil _)), (by first | omega | (dsimp only; omega))⟩)
 have al := y
 have y := Yg y
 refine Xc (Zv (Zv (Ys ?_)))
 refine Zb (H2 _ _ ?_)
 refine Zf fun aV aK => ?_
 refine Zc (Za rfl rfl (Zg rfl) (Za rfl rfl (Ze rfl) (Zd (Zb (aK _ _ ?_)))))
 refine Zp ?_
 exact Zi [_] ⟨rfl, trivial⟩ ⟨congrArg (Value.int .i64) (by first | exact Zcf (Zcy b hq (fun c => Zda f om c.1)) | exact Zcf (Zcy b hq (fun c => Zda g (by rw [h.2]; omega) (by rw [h.2, ← o]; exact c.2))) | exact Zgy F hq om), E⟩

/-- laws.heldHistory -/
theorem Zbm {w : World} (aF : Int) {LL_saG h : Nat} {d : Value} {saG : List Gv} (a : Ls Gv.cs 2 w LL_saG h d saG) {LR_aG BB_aG : Nat} {aG : List GD} (b : RdG w LR_aG BB_aG saG aG) (k : Int) (m : 0 ≤ k) (hkk : k + 4 * Xi aG ≤ 4611686018427387904) :
 Ctr Try.prog 29 #[(.agg #[(.int .i64 aF), d]), (.int .i64 k)] w (fun v w' => v = .int .i64 (Zcj k aG) ∧ Ch [] w w') := by
 obtain ⟨e, f, g⟩ := a.val
 subst g
 have j := a.len
 have a := a.here (by decide)
 have b := b.here
 have l := b.1
 have E := Ch.refl [] w
 refine Zx (N := 12) (vs0 := [(.agg #[(.int .i64 aF), (.slice e saG.length f)]), (.int .i64 k)]) Try.func29 rfl rfl rfl ?_
 refine Zf fun K1 H1 => ?_
 refine Zc (Zl rfl rfl ?_)
 refine Yw rfl fun n W2 i C2 s => ?_
 have t := C2.size
 have E := E.trans C2
 have u := i.lt
 replace i : Blk W2 n 57 [(.int .i64 aF), (.slice e saG.length f)] := i
 refine Za rfl rfl (Ze rfl) (Zd (Zb (H1 _ _ ?_)))
 refine Zf fun K3 H3 => ?_
 refine Zc (Za rfl rfl (Zh fa57_1 rfl) (Za rfl rfl (Zn i.at_ agg55 rfl rfl) (Za rfl rfl (Zg rfl) (Zl rfl rfl ?_))))
 have F4 := a.ch0 C2
 have F5 := b.ch0 C2
 refine Step.call (Zr (xs := [.tmp 6, .tmp 7]) fk80 rfl) (Zed F4 F5 _ om (by first | omega | (simp <;> omega))) fun x W6 o => ?_
 obtain ⟨rfl, C6⟩ := o
 have y := C6.size
 have E := E.trans C6
 refine Za rfl rfl (Ze rfl) (Zd (Zb (H3 _ _ ?_)))
 refine Zf fun K7 H7 => ?_
 refine Zf fun K8 H8 => ?_
 refine Zc (Za rfl rfl (Zg rfl) (Za rfl rfl (Yv rfl rfl) (Zd (Zb (H8 _ _ ?_)))))
 refine Zu rfl (fun c => ?_) (fun c => ?_)
 ·have p := c
  have c := Yh c
  refine Zf fun z q => ?_
  refine Zc (Za rfl rfl (Ze rfl) (Zd (Zb (q _ _ ?_))))
  refine Zp (Zk ?_)
  exact Zi [_] ⟨rfl, trivial⟩ ⟨congrArg (Value.int .i64) (by first | rfl | exact Zgn om om), E⟩
 have p := c
 have c := Yg c
 refine Zt ?_
 refine Zb (H7 _ _ ?_)
 refine Zf fun A r => ?_
 refine Zc (Za rfl rfl (Zg rfl) (Za rfl rfl (Ze rfl) (Zd (Zb (r _ _ ?_)))))
 refine Zp ?_
 exact Zi [_] ⟨rfl, trivial⟩ ⟨congrArg (Value.int .i64) (by first | rfl | exact Zgn om om), E⟩

/-- laws.markChangeS -/
theorem Zdu {w : World} {e_a : Nat} {m : Value} {a : List Chg} (s : Ol Chg.cs e_a 5 w m a) (k : Int) (R : 0 ≤ k) (hkk : k + 5 * a.length ≤ 4611686018427387904) :
 Ctr Try.prog 79 #[m, (.int .i64 k)] w (fun v w' => v = .int .i64 (k + 5 * a.length) ∧ Ol Chg.cs e_a 5 w' m (Zbt k a.length) ∧ Ch (bl m) w w') := by
 obtain ⟨c, d, rfl, S, D⟩ := s.opn
 have E := Ch.refl (bl (.slice c a.length d)) w
 refine Zx (N := 54) (vs0 := [(.slice c a.length d), (.int .i64 k)]) Try.func79 rfl rfl rfl ?_
 refine Zf fun K1 H1 => ?_
 refine Zc (Za rfl rfl (Ze rfl) (Zd (Zb (H1 _ _ ?_))))
 refine Zf fun K2 H2 => ?_
 refine Zf fun K3 H3 => ?_
 refine Zc (Za rfl rfl (Ze rfl) (Zd (Zb (H3 _ _ ?_))))
 refine Zz ?_
 have t : Ol Chg.cs e_a 5 w (.slice c a.length d) (Zbt k 0 ++ a.drop 0) := by
  have hx := s
  simpa [Zbt] using hx
 refine Xk (σ := Nat × Int) (fun ⟨i, kk⟩ => [(0, (.slice c a.length d)), (1, (.int .i64 kk)), (4, (.int .i64 0)), (5, (.int .i64 ((i : Nat) : Int)))]) (fun ⟨i, kk⟩ wx => Ch (bl (.slice c a.length d)) w wx ∧ w.heap.size ≤ wx.heap.size ∧ (i ≤ a.length) ∧ (kk = k + 5 * i) ∧ Ol Chg.cs e_a 5 wx (.slice c a.length d) (Zbt k i ++ a.drop i)) (fun ⟨i, kk⟩ => a.length - i) (0, k) (sC4 rfl rfl rfl rfl (Sub.nil _)) ⟨E, (Nat.le_refl _), om, om, t⟩ ?_
 rintro ⟨i, kk⟩ R5 ⟨E, T, hi, hq, f⟩
 have x := E
 have F := x.size
 refine Zf fun K6 H6 => ?_
 refine Zf fun K7 H7 => ?_
 refine Zc (Za rfl rfl (Zg rfl) (Za rfl rfl (Zg rfl) (Za rfl rfl (Yi (by rw [el61]; rfl) rfl) (Za rfl rfl (Yv rfl rfl) (Zd (Zb (H7 _ _ ?_)))))))
 refine Zu rfl (fun q => ?_) (fun q => ?_)
 ·have U := q
  have q := Yh q
  refine Zt ?_
  refine Zb (H6 _ _ ?_)
  refine Zf fun K9 H9 => ?_
  refine Zz ?_
  refine Zf fun aA V => ?_
  refine Zc (Za rfl rfl (Zg rfl) (Za rfl rfl (Zg rfl) (Za rfl rfl (Zg rfl) (Za rfl rfl (Znz om rfl rfl) (Za rfl rfl (Zff rfl rfl) (Zl rfl rfl ?_))))))
  refine Qw (j := i) f el61 sz142 rfl rfl rfl (by first | omega | (simp [Zbt] <;> omega)) fun X Y G y => ?_
  refine Za rfl rfl (Zh fa142_0 rfl) (Zl rfl rfl ?_)
  obtain ⟨b, e⟩ := Zim (xs := Zbt k i ++ a.drop i) (j := i) (by first | omega | (simp [Zbt] <;> omega))
  refine Zbd (j := i) 0 (⟨b.ins, b.eid, b.ef, b.et, b.el⟩ : Chg) (⟨decide ((kk.tmod 3) = 0), b.eid, b.ef, b.et, b.el⟩ : Chg) f y e Chg.len rfl sz4 rfl rfl rfl rfl fun aB o H => ?_
  have Z := H.size
  have E := E.trans H
  refine Zd (Zb (V _ _ ?_))
  refine Zf fun aC aa => ?_
  refine Zc (Za rfl rfl (Zg rfl) (Za rfl rfl (Yq om rfl rfl) (Za rfl rfl (Ze rfl) (Zd (Zb (aa _ _ ?_))))))
  refine Zf fun aD ab => ?_
  refine Zc (Za rfl rfl (Zg rfl) (Za rfl rfl (Zg rfl) (Za rfl rfl (Zg rfl) (Zl rfl rfl ?_))))
  refine Qw (j := i) o el61 sz142 rfl rfl rfl (by first | omega | (simp [Zbt] <;> omega)) fun ac ad I z => ?_
  refine Za rfl rfl (Zh fa142_1 rfl) (Za rfl rfl (Zaw (n := 1) fa129_0 rfl rfl) (Zl rfl rfl ?_))
  refine Zbd (j := i) 1 (⟨decide ((kk.tmod 3) = 0), b.eid, b.ef, b.et, b.el⟩ : Chg) (⟨decide ((kk.tmod 3) = 0), (kk + 1), b.ef, b.et, b.el⟩ : Chg) o z (Zdg e _) Chg.len rfl sz3 rfl rfl rfl rfl fun aE g J => ?_
  rw [List.set_set] at g
  have ae := J.size
  have E := E.trans J
  refine Zd (Zb (ab _ _ ?_))
  refine Zf fun aF af => ?_
  refine Zc (Za rfl rfl (Zg rfl) (Za rfl rfl (Yq om rfl rfl) (Za rfl rfl (Ze rfl) (Zd (Zb (af _ _ ?_))))))
  refine Zf fun aG ag => ?_
  refine Zc (Za rfl rfl (Zg rfl) (Za rfl rfl (Zg rfl) (Za rfl rfl (Zg rfl) (Zl rfl rfl ?_))))
  refine Qw (j := i) g el61 sz142 rfl rfl rfl (by first | omega | (simp [Zbt] <;> omega)) fun ah ai K A => ?_
  refine Za rfl rfl (Zh fa142_1 rfl) (Za rfl rfl (Zaw (n := 2) fa129_1 rfl rfl) (Zl rfl rfl ?_))
  refine Zbd (j := i) 2 (⟨decide ((kk.tmod 3) = 0), (kk + 1), b.ef, b.et, b.el⟩ : Chg) (⟨decide ((kk.tmod 3) = 0), (kk + 1), ((kk + 1) + 1), b.et, b.el⟩ : Chg) g A (Zdg e _) Chg.len rfl sz3 rfl rfl rfl rfl fun aH h L => ?_
  rw [List.set_set] at h
  have aj := L.size
  have E := E.trans L
  refine Zd (Zb (ag _ _ ?_))
  refine Zf fun aI ak => ?_
  refine Zc (Za rfl rfl (Zg rfl) (Za rfl rfl (Yq om rfl rfl) (Za rfl rfl (Ze rfl) (Zd (Zb (ak _ _ ?_))))))
  refine Zf fun aJ al => ?_
  refine Zc (Za rfl rfl (Zg rfl) (Za rfl rfl (Zg rfl) (Za rfl rfl (Zg rfl) (Zl rfl rfl ?_))))
  refine Qw (j := i) h el61 sz142 rfl rfl rfl (by first | omega | (simp [Zbt] <;> omega)) fun am an M B => ?_
  refine Za rfl rfl (Zh fa142_1 rfl) (Za rfl rfl (Zaw (n := 3) fa129_2 rfl rfl) (Zl rfl rfl ?_))
  refine Zbd (j := i) 3 (⟨decide ((kk.tmod 3) = 0), (kk + 1), ((kk + 1) + 1), b.et, b.el⟩ : Chg) (⟨decide ((kk.tmod 3) = 0), (kk + 1), ((kk + 1) + 1), (((kk + 1) + 1) + 1), b.el⟩ : Chg) h B (Zdg e _) Chg.len rfl sz3 rfl rfl rfl rfl fun aK l O => ?_
  rw [List.set_set] at l
  have ao := O.size
  have E := E.trans O
  refine Zd (Zb (al _ _ ?_))
  refine Zf fun aL ap => ?_
  refine Zc (Za rfl rfl (Zg rfl) (Za rfl rfl (Yq om rfl rfl) (Za rfl rfl (Ze rfl) (Zd (Zb (ap _ _ ?_))))))
  refine Zf fun aM aq => ?_
  refine Zc (Za rfl rfl (Zg rfl) (Za rfl rfl (Zg rfl) (Za rfl rfl (Zg rfl) (Zl rfl rfl ?_))))
  refine Qw (j := i) l el61 sz142 rfl rfl rfl (by first | omega | (simp [Zbt] <;> omega)) fun au av P C => ?_
  refine Za rfl rfl (Zh fa142_1 rfl) (Za rfl rfl (Zaw (n := 4) fa129_3 rfl rfl) (Zl rfl rfl ?_))
  refine Zbd (j := i) 4 (⟨decide ((kk.tmod 3) = 0), (kk + 1), ((kk + 1) + 1), (((kk + 1) + 1) + 1), b.el⟩ : Chg) (⟨decide ((kk.tmod 3) = 0), (kk + 1), ((kk + 1) + 1), (((kk + 1) + 1) + 1), ((((kk + 1) + 1) + 1) + 1)⟩ : Chg) l C (Zdg e _) Chg.len rfl sz3 rfl rfl rfl rfl fun aw p Q => ?_
  rw [List.set_set] at p
  have ax := Q.size
  have E := E.trans Q
  refine Zd (Zb (aq _ _ (Zc (Za rfl rfl (Zg rfl) (Za rfl rfl (Yq om rfl rfl) (Za rfl rfl (Ze rfl) (Zd (Yr ?_))))))))
  refine Zb (H9 _ _ (Zc (Za rfl rfl (Zg rfl) (Za rfl rfl (Yq om rfl rfl) (Za rfl rfl (Ze rfl) (Zd ?_))))))
  have r : Ol Chg.cs e_a 5 aw (.slice c a.length d) (Zbt k (i + 1) ++ a.drop (i + 1)) := by
   have hx := p
   rwa [Zjd a om hq] at hx
  exact Zb (Exists.intro ((i + 1), (((((kk + 1) + 1) + 1) + 1) + 1)) ⟨⟨E, om, om, om, r⟩, sC4 rfl rfl rfl rfl (Sub.nil _), (by first | omega | (dsimp only; omega))⟩)
 have U := q
 have q := Yg q
 refine Xc (Zv (Zv (Ys ?_)))
 refine Zb (H2 _ _ ?_)
 refine Zf fun aN ay => ?_
 refine Zc (Za rfl rfl (Zg rfl) (Za rfl rfl (Ze rfl) (Zd (Zb (ay _ _ ?_)))))
 refine Zp ?_
 have u : Ol Chg.cs e_a 5 R5 (.slice c a.length d) (Zbt k a.length) := by
  have hx := f
  have az : i = a.length := om; subst az; simpa using hx
 exact Zi [_] ⟨rfl, trivial⟩ ⟨congrArg (Value.int .i64) om, u, E⟩

/-- laws.markBatch -/
theorem Zer {w : World} {e_a : Nat} {b : Value} {a : List Chg} (e : Ol Chg.cs e_a 5 w b a) (k : Int) (j : 0 ≤ k) (hkk : k + 5 * a.length ≤ 4611686018427387904) :
 Ctr Try.prog 28 #[(.agg #[b]), (.int .i64 k)] w (fun v w' => v = .int .i64 (k + 5 * a.length) ∧ Ol Chg.cs e_a 5 w' b (Zbt k a.length) ∧ Ch (bl b) w w') := by
 obtain ⟨c, d, rfl, l, i⟩ := e.opn
 have E := Ch.refl (bl (.slice c a.length d)) w
 refine Zx (N := 10) (vs0 := [(.agg #[(.slice c a.length d)]), (.int .i64 k)]) Try.func28 rfl rfl rfl ?_
 refine Zf fun K1 H1 => ?_
 refine Zc (Zl rfl rfl ?_)
 refine Yw rfl fun m W2 f C2 n => ?_
 have o := C2.size
 have E := E.trans C2.of_nil
 have p := f.lt
 replace f : Blk W2 m 63 [(.slice c a.length d)] := f
 refine Za rfl rfl (Ze rfl) (Zd (Zb (H1 _ _ ?_)))
 refine Zf fun K3 H3 => ?_
 refine Zc (Za rfl rfl (Zh fa63_0 rfl) (Za rfl rfl (Zn f.at_ agg61 rfl rfl) (Za rfl rfl (Zg rfl) (Zl rfl rfl ?_))))
 have F4 := e.ch0 C2
 refine Step.call (Zr (xs := [.tmp 6, .tmp 7]) fk79 rfl) (Zdu F4 _ om (by first | omega | (simp <;> omega))) fun q W5 g => ?_
 obtain ⟨rfl, g, C5⟩ := g
 have r := C5.size
 have E := E.trans C5
 refine Za rfl rfl (Ze rfl) (Zd (Zb (H3 _ _ ?_)))
 refine Zf fun K6 H6 => ?_
 refine Zc (Za rfl rfl (Zg rfl) (Za rfl rfl (Ze rfl) (Zd (Zb (H6 _ _ ?_)))))
 refine Zp ?_
 have h : Ol Chg.cs e_a 5 W5 (.slice c a.length d) (Zbt k a.length) := by
  have hx := g
  first | exact hx | simpa using hx
 exact Zi [_] ⟨rfl, trivial⟩ ⟨congrArg (Value.int .i64) rfl, h, E⟩

/-- laws.markEdgeS -/
theorem Zes {w : World} {e_a : Nat} {m : Value} {a : List GEdge} (r : Ol GEdge.cs e_a 4 w m a) (k : Int) (O : 0 ≤ k) (hkk : k + 4 * a.length ≤ 4611686018427387904) :
 Ctr Try.prog 66 #[m, (.int .i64 k)] w (fun v w' => v = .int .i64 (k + 4 * a.length) ∧ Ol GEdge.cs e_a 4 w' m (Yu k a.length) ∧ Ch (bl m) w w') := by
 obtain ⟨c, d, rfl, P, C⟩ := r.opn
 have E := Ch.refl (bl (.slice c a.length d)) w
 refine Zx (N := 41) (vs0 := [(.slice c a.length d), (.int .i64 k)]) Try.func66 rfl rfl rfl ?_
 refine Zf fun K1 H1 => ?_
 refine Zc (Za rfl rfl (Ze rfl) (Zd (Zb (H1 _ _ ?_))))
 refine Zf fun K2 H2 => ?_
 refine Zf fun K3 H3 => ?_
 refine Zc (Za rfl rfl (Ze rfl) (Zd (Zb (H3 _ _ ?_))))
 refine Zz ?_
 have s : Ol GEdge.cs e_a 4 w (.slice c a.length d) (Yu k 0 ++ a.drop 0) := by
  have hx := r
  simpa [Yu] using hx
 refine Xk (σ := Nat × Int) (fun ⟨i, kk⟩ => [(0, (.slice c a.length d)), (1, (.int .i64 kk)), (4, (.int .i64 0)), (5, (.int .i64 ((i : Nat) : Int)))]) (fun ⟨i, kk⟩ wx => Ch (bl (.slice c a.length d)) w wx ∧ w.heap.size ≤ wx.heap.size ∧ (i ≤ a.length) ∧ (kk = k + 4 * i) ∧ Ol GEdge.cs e_a 4 wx (.slice c a.length d) (Yu k i ++ a.drop i)) (fun ⟨i, kk⟩ => a.length - i) (0, k) (sC4 rfl rfl rfl rfl (Sub.nil _)) ⟨E, (Nat.le_refl _), om, om, s⟩ ?_
 rintro ⟨i, kk⟩ R5 ⟨E, Q, hi, hq, g⟩
 have x := E
 have D := x.size
 refine Zf fun K6 H6 => ?_
 refine Zf fun K7 H7 => ?_
 refine Zc (Za rfl rfl (Zg rfl) (Za rfl rfl (Zg rfl) (Za rfl rfl (Yi (by rw [el34]; rfl) rfl) (Za rfl rfl (Yv rfl rfl) (Zd (Zb (H7 _ _ ?_)))))))
 refine Zu rfl (fun p => ?_) (fun p => ?_)
 ·have R := p
  have p := Yh p
  refine Zt ?_
  refine Zb (H6 _ _ ?_)
  refine Zf fun K9 H9 => ?_
  refine Zz ?_
  refine Zf fun ap S => ?_
  refine Zc (Za rfl rfl (Zg rfl) (Za rfl rfl (Zg rfl) (Za rfl rfl (Zg rfl) (Zl rfl rfl ?_))))
  refine Qw (j := i) g el34 sz129 rfl rfl rfl (by first | omega | (simp [Yu] <;> omega)) fun T U F y => ?_
  refine Za rfl rfl (Zh fa129_0 rfl) (Zl rfl rfl ?_)
  obtain ⟨b, e⟩ := Zim (xs := Yu k i ++ a.drop i) (j := i) (by first | omega | (simp [Yu] <;> omega))
  refine Zbd (j := i) 0 (⟨b.id, b.f, b.t, b.label⟩ : GEdge) (⟨kk, b.f, b.t, b.label⟩ : GEdge) g y e GEdge.len rfl sz3 rfl rfl rfl rfl fun aq n G => ?_
  have V := G.size
  have E := E.trans G
  refine Zd (Zb (S _ _ ?_))
  refine Zf fun au X => ?_
  refine Zc (Za rfl rfl (Zg rfl) (Za rfl rfl (Yq om rfl rfl) (Za rfl rfl (Ze rfl) (Zd (Zb (X _ _ ?_))))))
  refine Zf fun av Y => ?_
  refine Zc (Za rfl rfl (Zg rfl) (Za rfl rfl (Zg rfl) (Za rfl rfl (Zg rfl) (Zl rfl rfl ?_))))
  refine Qw (j := i) n el34 sz129 rfl rfl rfl (by first | omega | (simp [Yu] <;> omega)) fun Z aa H z => ?_
  refine Za rfl rfl (Zh fa129_1 rfl) (Zl rfl rfl ?_)
  refine Zbd (j := i) 1 (⟨kk, b.f, b.t, b.label⟩ : GEdge) (⟨kk, (kk + 1), b.t, b.label⟩ : GEdge) n z (Zdg e _) GEdge.len rfl sz3 rfl rfl rfl rfl fun aw h I => ?_
  rw [List.set_set] at h
  have ab := I.size
  have E := E.trans I
  refine Zd (Zb (Y _ _ ?_))
  refine Zf fun ax ac => ?_
  refine Zc (Za rfl rfl (Zg rfl) (Za rfl rfl (Yq om rfl rfl) (Za rfl rfl (Ze rfl) (Zd (Zb (ac _ _ ?_))))))
  refine Zf fun ay ad => ?_
  refine Zc (Za rfl rfl (Zg rfl) (Za rfl rfl (Zg rfl) (Za rfl rfl (Zg rfl) (Zl rfl rfl ?_))))
  refine Qw (j := i) h el34 sz129 rfl rfl rfl (by first | omega | (simp [Yu] <;> omega)) fun ae af J A => ?_
  refine Za rfl rfl (Zh fa129_2 rfl) (Zl rfl rfl ?_)
  refine Zbd (j := i) 2 (⟨kk, (kk + 1), b.t, b.label⟩ : GEdge) (⟨kk, (kk + 1), ((kk + 1) + 1), b.label⟩ : GEdge) h A (Zdg e _) GEdge.len rfl sz3 rfl rfl rfl rfl fun az l K => ?_
  rw [List.set_set] at l
  have ag := K.size
  have E := E.trans K
  refine Zd (Zb (ad _ _ ?_))
  refine Zf fun aA ah => ?_
  refine Zc (Za rfl rfl (Zg rfl) (Za rfl rfl (Yq om rfl rfl) (Za rfl rfl (Ze rfl) (Zd (Zb (ah _ _ ?_))))))
  refine Zf fun aB ai => ?_
  refine Zc (Za rfl rfl (Zg rfl) (Za rfl rfl (Zg rfl) (Za rfl rfl (Zg rfl) (Zl rfl rfl ?_))))
  refine Qw (j := i) l el34 sz129 rfl rfl rfl (by first | omega | (simp [Yu] <;> omega)) fun aj ak L B => ?_
  refine Za rfl rfl (Zh fa129_3 rfl) (Zl rfl rfl ?_)
  refine Zbd (j := i) 3 (⟨kk, (kk + 1), ((kk + 1) + 1), b.label⟩ : GEdge) (⟨kk, (kk + 1), ((kk + 1) + 1), (((kk + 1) + 1) + 1)⟩ : GEdge) l B (Zdg e _) GEdge.len rfl sz3 rfl rfl rfl rfl fun al o M => ?_
  rw [List.set_set] at o
  have am := M.size
  have E := E.trans M
  refine Zd (Zb (ai _ _ (Zc (Za rfl rfl (Zg rfl) (Za rfl rfl (Yq om rfl rfl) (Za rfl rfl (Ze rfl) (Zd (Yr ?_))))))))
  refine Zb (H9 _ _ (Zc (Za rfl rfl (Zg rfl) (Za rfl rfl (Yq om rfl rfl) (Za rfl rfl (Ze rfl) (Zd ?_))))))
  have q : Ol GEdge.cs e_a 4 al (.slice c a.length d) (Yu k (i + 1) ++ a.drop (i + 1)) := by
   have hx := o
   rwa [Zhy a om hq] at hx
  exact Zb (Exists.intro ((i + 1), ((((kk + 1) + 1) + 1) + 1)) ⟨⟨E, om, om, om, q⟩, sC4 rfl rfl rfl rfl (Sub.nil _), (by first | omega | (dsimp only; omega))⟩)
 have R := p
 have p := Yg p
 refine Xc (Zv (Zv (Ys ?_)))
 refine Zb (H2 _ _ ?_)
 refine Zf fun aC an => ?_
 refine Zc (Za rfl rfl (Zg rfl) (Za rfl rfl (Ze rfl) (Zd (Zb (an _ _ ?_)))))
 refine Zp ?_
 have u : Ol GEdge.cs e_a 4 R5 (.slice c a.length d) (Yu k a.length) := by
  have hx := g
  have ao : i = a.length := om; subst ao; simpa using hx
 exact Zi [_] ⟨rfl, trivial⟩ ⟨congrArg (Value.int .i64) om, u, E⟩

/-- laws.markIntS -/
theorem Zft {w : World} {e_a : Nat} {e : Value} {a : List Int} (h : Ol ics e_a 1 w e a) (k : Int) (u : 0 ≤ k) (hkk : k + a.length ≤ 4611686018427387904) :
 Ctr Try.prog 65 #[e, (.int .i64 k)] w (fun v w' => v = .int .i64 (k + a.length) ∧ Ol ics e_a 1 w' e (Qh k a.length) ∧ Ch (bl e) w w') := by
 obtain ⟨b, c, rfl, x, q⟩ := h.opn
 have E := Ch.refl (bl (.slice b a.length c)) w
 refine Zx (N := 19) (vs0 := [(.slice b a.length c), (.int .i64 k)]) Try.func65 rfl rfl rfl ?_
 refine Zf fun K1 H1 => ?_
 refine Zc (Za rfl rfl (Ze rfl) (Zd (Zb (H1 _ _ ?_))))
 refine Zf fun K2 H2 => ?_
 refine Zf fun K3 H3 => ?_
 refine Zc (Za rfl rfl (Ze rfl) (Zd (Zb (H3 _ _ ?_))))
 refine Zz ?_
 have l : Ol ics e_a 1 w (.slice b a.length c) (Qh k 0 ++ a.drop 0) := by
  have hx := h
  simpa [Qh] using hx
 refine Xk (σ := Nat × Int) (fun ⟨i, kk⟩ => [(0, (.slice b a.length c)), (1, (.int .i64 kk)), (4, (.int .i64 0)), (5, (.int .i64 ((i : Nat) : Int)))]) (fun ⟨i, kk⟩ wx => Ch (bl (.slice b a.length c)) w wx ∧ w.heap.size ≤ wx.heap.size ∧ (i ≤ a.length) ∧ (kk = k + i) ∧ Ol ics e_a 1 wx (.slice b a.length c) (Qh k i ++ a.drop i)) (fun ⟨i, kk⟩ => a.length - i) (0, k) (sC4 rfl rfl rfl rfl (Sub.nil _)) ⟨E, (Nat.le_refl _), om, om, l⟩ ?_
 rintro ⟨i, kk⟩ R5 ⟨E, y, hi, hq, d⟩
 have o := E
 have r := o.size
 refine Zf fun K6 H6 => ?_
 refine Zf fun K7 H7 => ?_
 refine Zc (Za rfl rfl (Zg rfl) (Za rfl rfl (Zg rfl) (Za rfl rfl (Yi (by rw [el22]; rfl) rfl) (Za rfl rfl (Yv rfl rfl) (Zd (Zb (H7 _ _ ?_)))))))
 refine Zu rfl (fun f => ?_) (fun f => ?_)
 ·have z := f
  have f := Yh f
  refine Zt ?_
  refine Zb (H6 _ _ ?_)
  refine Zf fun K9 H9 => ?_
  refine Zz ?_
  refine Zf fun I A => ?_
  refine Zc (Za rfl rfl (Zg rfl) (Za rfl rfl (Zg rfl) (Za rfl rfl (Zg rfl) (Zl rfl rfl ?_))))
  refine Qw (j := i) d el22 sz3 rfl rfl rfl (by first | omega | (simp [Qh] <;> omega)) fun B C s p => ?_
  refine Zl rfl rfl ?_
  refine Zdj (j := i) kk d p Qz sz3 rfl rfl rfl rfl (by first | omega | (simp [Qh] <;> omega)) fun D m t => ?_
  have F := t.size
  have E := E.trans t
  refine Zd (Zb (A _ _ (Zc (Za rfl rfl (Zg rfl) (Za rfl rfl (Yq om rfl rfl) (Za rfl rfl (Ze rfl) (Zd (Yr ?_))))))))
  refine Zb (H9 _ _ (Zc (Za rfl rfl (Zg rfl) (Za rfl rfl (Yq om rfl rfl) (Za rfl rfl (Ze rfl) (Zd ?_))))))
  have g : Ol ics e_a 1 D (.slice b a.length c) (Qh k (i + 1) ++ a.drop (i + 1)) := by
   have hx := m
   rwa [Ziy a om hq] at hx
  exact Zb (Exists.intro ((i + 1), (kk + 1)) ⟨⟨E, om, om, om, g⟩, sC4 rfl rfl rfl rfl (Sub.nil _), (by first | omega | (dsimp only; omega))⟩)
 have z := f
 have f := Yg f
 refine Xc (Zv (Zv (Ys ?_)))
 refine Zb (H2 _ _ ?_)
 refine Zf fun J G => ?_
 refine Zc (Za rfl rfl (Zg rfl) (Za rfl rfl (Ze rfl) (Zd (Zb (G _ _ ?_)))))
 refine Zp ?_
 have n : Ol ics e_a 1 R5 (.slice b a.length c) (Qh k a.length) := by
  have hx := d
  have H : i = a.length := om; subst H; simpa using hx
 exact Zi [_] ⟨rfl, trivial⟩ ⟨congrArg (Value.int .i64) om, n, E⟩

/-- laws.markGraphS -/
theorem Zeg {w : World} {e_sa ea_a eb_a c b : Nat} {f : Value} {sa : List Gv} {a : List GD} (o : Ol Gv.cs e_sa 2 w f sa) (x : OdG ea_a eb_a w c b sa a) (y : ∀ g ∈ bl f, c ≤ g ∧ g < b) (A : SepH f sa) (ap : b ≤ w.heap.size) (k : Int) (aB : 0 ≤ k) (hkk : k + 4 * Xi a ≤ 4611686018427387904) :
 Ctr Try.prog 78 #[f, (.int .i64 k)] w (fun v w' => v = .int .i64 (k + Xx a) ∧ OdG ea_a eb_a w' c b sa (Qa k a) ∧ Ol Gv.cs e_sa 2 w' f sa ∧ Ch (Rg c b) w w') := by
 obtain ⟨h, j, F⟩ := o.val
 subst F
 have aq := o.len
 have af : Lo c (.slice h sa.length j) := fun g hg => (y g hg).1
 have hi_sa : ∀ g ∈ bl (.slice h sa.length j), g < b := fun g hg => (y g hg).2
 have au := x.1
 have E := Ch.refl (Rg c b) w
 refine Zx (N := 27) (vs0 := [(.slice h sa.length j), (.int .i64 k)]) Try.func78 rfl rfl rfl ?_
 refine Zf fun K1 H1 => ?_
 refine Zc (Za rfl rfl (Ze rfl) (Zd (Zb (H1 _ _ ?_))))
 refine Zf fun K2 H2 => ?_
 refine Zf fun K3 H3 => ?_
 refine Zc (Za rfl rfl (Ze rfl) (Zd (Zb (H3 _ _ ?_))))
 refine Zz ?_
 refine Xk (σ := Nat × Int × List GD) (fun ⟨i, kk, zs⟩ => [(0, (.slice h sa.length j)), (1, (.int .i64 kk)), (4, (.int .i64 0)), (5, (.int .i64 ((i : Nat) : Int)))]) (fun ⟨i, kk, zs⟩ wx => Ch (Rg c b) w wx ∧ w.heap.size ≤ wx.heap.size ∧ (i ≤ a.length) ∧ (kk = k + Xx (a.take i)) ∧ (zs = Qa k (a.take i) ++ a.drop i) ∧ Ol Gv.cs e_sa 2 wx (.slice h sa.length j) sa ∧ OdG ea_a eb_a wx c b sa zs) (fun ⟨i, kk, zs⟩ => a.length - i) (0, k, a) (sC4 rfl rfl rfl rfl (Sub.nil _)) ⟨E, (Nat.le_refl _), om, (by simp [Xx]), (by simp [Qa]), o, x⟩ ?_
 rintro ⟨i, kk, zs⟩ R4 ⟨E, aC, hi, hq, hz, p, od⟩
 have ag := E
 have av := ag.size
 refine Zf fun K5 H5 => ?_
 refine Zf fun K6 H6 => ?_
 refine Zc (Za rfl rfl (Zg rfl) (Za rfl rfl (Zg rfl) (Za rfl rfl (Yi (by rw [el55]; rfl) rfl) (Za rfl rfl (Yv rfl rfl) (Zd (Zb (H6 _ _ ?_)))))))
 refine Zu rfl (fun B => ?_) (fun B => ?_)
 ·have aD := B
  have B := Yh B
  refine Zt ?_
  refine Zb (H5 _ _ ?_)
  refine Zf fun K8 H8 => ?_
  refine Zz ?_
  refine Zf fun K9 H9 => ?_
  refine Zc (Za rfl rfl (Zg rfl) (Za rfl rfl (Zg rfl) (Zl rfl rfl ?_)))
  refine (Xo p.ls Gv.len el55 sz36 rfl rfl rfl om fun aE ah q ai => ?_)
  have U := A _ (Qy q)
  have G := q
  obtain ⟨d, m, l, u, C, X, aF⟩ := od.get q
  obtain ⟨⟨H, aG, I⟩, ⟨J, aH, K⟩⟩ := ah
  obtain rfl := l.ls.eqn
  obtain rfl := u.ls.eqn
  have aI := l.len
  have aJ := u.len
  have Y : Lo c (.slice H d.V.length I) := fun g hg => (C g hg).1
  have aj : ∀ g ∈ bl (.slice H d.V.length I), g < b := fun g hg => (C g hg).2
  replace l : Ol ics ea_a 1 R4 (.slice H d.V.length I) d.V := l
  have ak : Lo c (.slice J d.E.length K) := fun g hg => (X g hg).1
  have aw : ∀ g ∈ bl (.slice J d.E.length K), g < b := fun g hg => (X g hg).2
  replace u : Ol GEdge.cs eb_a 4 R4 (.slice J d.E.length K) d.E := u
  have al := Zmd hz hi (Nat.le_refl _) m
  have aZ := Zeb al
  have a0 := Zir al
  refine Za rfl rfl (Zh fa36_0 rfl) (Za rfl rfl (Zn ai agg22 rfl rfl) (Za rfl rfl (Zg rfl) (Zl rfl rfl ?_)))
  refine Step.call (Zr (xs := [.tmp 16, .tmp 17]) fk65 rfl) (Zft l _ om (by first | omega | (simp <;> omega))) fun aK ax L => ?_
  obtain ⟨rfl, L, ad⟩ := L
  have aL := ad.size
  have E := E.step ad (fun i hm => by have aM := Y _ hm; have aN := aj _ hm; first | (left; omega) | (right; exact Zjq om))
  have ay := OdG.setV od G m ad L
  refine Za rfl rfl (Ze rfl) (Zd (Zb (H9 _ _ (Zc (Za rfl rfl (Zg rfl) (Za rfl rfl (Zg rfl) (Zl rfl rfl ?_)))))))
  have az := p.ch ad (fun g hg hm => by exact U.1 _ hm hg)
  refine (Xo az.ls Gv.len el55 sz36 rfl rfl rfl om fun aO am r an => ?_)
  have Z := A _ (Qy r)
  have M := r
  obtain ⟨e, s, n, t, D, aa, aP⟩ := ay.get r
  obtain ⟨⟨O, aQ, P⟩, ⟨Q, aR, R⟩⟩ := am
  obtain rfl := n.ls.eqn
  obtain rfl := t.ls.eqn
  have aS := n.len
  have aT := t.len
  have aA : Lo c (.slice O e.V.length P) := fun g hg => (D g hg).1
  have aU : ∀ g ∈ bl (.slice O e.V.length P), g < b := fun g hg => (D g hg).2
  replace n : Ol ics ea_a 1 ax (.slice O e.V.length P) e.V := n
  have S : Lo c (.slice Q e.E.length R) := fun g hg => (aa g hg).1
  have ab : ∀ g ∈ bl (.slice Q e.E.length R), g < b := fun g hg => (aa g hg).2
  replace t : Ol GEdge.cs eb_a 4 ax (.slice Q e.E.length R) e.E := t
  have ac := Znh m s
  have ao := congrArg (fun z => z.E.length) ac
  dsimp only at ao
  refine Za rfl rfl (Zh fa36_1 rfl) (Za rfl rfl (Zn an agg34 rfl rfl) (Za rfl rfl (Zg rfl) (Zl rfl rfl ?_)))
  refine Step.call (Zr (xs := [.tmp 23, .tmp 24]) fk66 rfl) (Zes t _ om (by first | omega | (simp <;> omega))) fun aV a1 T => ?_
  obtain ⟨rfl, T, ae⟩ := T
  have aW := ae.size
  have E := E.step ae (fun i hm => by have aM := S _ hm; have aN := ab _ hm; first | (left; omega) | (right; exact Zjq om))
  refine Za rfl rfl (Ze rfl) (Zd (Yr (Zb (H8 _ _ (Zc (Za rfl rfl (Zg rfl) (Za rfl rfl (Yq om rfl rfl) (Za rfl rfl (Ze rfl) ?_))))))))
  refine Zd ?_
  have aX := az.ch ae (fun g hg hm => by exact Z.2 _ hm hg)
  exact Zb (Exists.intro ((i + 1), ((kk + d.V.length) + 4 * e.E.length), (((zs.set i ⟨Qh kk d.V.length, d.E⟩)).set i ⟨e.V, Yu (kk + d.V.length) e.E.length⟩)) ⟨⟨E, om, om, om, (by rw [List.set_set, ac]; exact Zky hz al hq), aX, (OdG.setE ay M s ae T)⟩, sC4 rfl rfl rfl rfl (Sub.nil _), (by first | omega | (dsimp only; omega))⟩)
 have aD := B
 have B := Yg B
 refine Xc (Zv (Zv (Ys ?_)))
 refine Zb (H2 _ _ ?_)
 refine Zf fun a2 aY => ?_
 refine Zc (Za rfl rfl (Zg rfl) (Za rfl rfl (Ze rfl) (Zd (Zb (aY _ _ ?_)))))
 refine Zp ?_
 exact Zi [_] ⟨rfl, trivial⟩ ⟨congrArg (Value.int .i64) (by have B := Zkj (show a.length ≤ i by omega); omega), (by rw [← Zku hz om]; exact od), p, E⟩

/-- laws.markHistory -/
theorem Zbn {w : World} (aF : Int) {e_saG ea_aG eb_aG b a : Nat} {c : Value} {saG : List Gv} {aG : List GD} (f : Ol Gv.cs e_saG 2 w c saG) (h : OdG ea_aG eb_aG w b a saG aG) (j : ∀ g ∈ bl c, b ≤ g ∧ g < a) (n : SepH c saG) (p : a ≤ w.heap.size) (k : Int) (t : 0 ≤ k) (hkk : k + 4 * Xi aG ≤ 4611686018427387904) :
 Ctr Try.prog 27 #[(.agg #[(.int .i64 aF), c]), (.int .i64 k)] w (fun v w' => v = .int .i64 (k + Xx aG) ∧ OdG ea_aG eb_aG w' b a saG (Qa k aG) ∧ Ol Gv.cs e_saG 2 w' c saG ∧ Ch (Rg b a) w w') := by
 obtain ⟨d, e, l⟩ := f.val
 subst l
 have q := f.len
 have m : Lo b (.slice d saG.length e) := fun g hg => (j g hg).1
 have hi_saG : ∀ g ∈ bl (.slice d saG.length e), g < a := fun g hg => (j g hg).2
 have r := h.1
 have E := Ch.refl (Rg b a) w
 refine Zx (N := 10) (vs0 := [(.agg #[(.int .i64 aF), (.slice d saG.length e)]), (.int .i64 k)]) Try.func27 rfl rfl rfl ?_
 refine Zf fun K1 H1 => ?_
 refine Zc (Zl rfl rfl ?_)
 refine Yw rfl fun u W2 o C2 z => ?_
 have A := C2.size
 have E := E.trans C2.of_nil
 have B := o.lt
 replace o : Blk W2 u 57 [(.int .i64 aF), (.slice d saG.length e)] := o
 refine Za rfl rfl (Ze rfl) (Zd (Zb (H1 _ _ ?_)))
 refine Zf fun K3 H3 => ?_
 refine Zc (Za rfl rfl (Zh fa57_1 rfl) (Za rfl rfl (Zn o.at_ agg55 rfl rfl) (Za rfl rfl (Zg rfl) (Zl rfl rfl ?_))))
 have F4 := f.ch0 C2
 have F5 := h.ch0 C2
 refine Step.call (Zr (xs := [.tmp 6, .tmp 7]) fk78 rfl) (Zeg F4 (F5.up (lo' := b) (hi' := a) om om) (fun g hm => by have x := m _ hm; have C := hi_saG _ hm; omega) n om _ om (by first | omega | (simp <;> omega))) fun D W6 s => ?_
 obtain ⟨rfl, s, y, C6⟩ := s
 have F := C6.size
 have E := E.step C6 (fun i hm => by have x := Xm hm; first | (left; omega) | (right; exact Zjq om))
 refine Za rfl rfl (Ze rfl) (Zd (Zb (H3 _ _ ?_)))
 refine Zf fun K7 H7 => ?_
 refine Zc (Za rfl rfl (Zg rfl) (Za rfl rfl (Ze rfl) (Zd (Zb (H7 _ _ ?_)))))
 refine Zp ?_
 exact Zi [_] ⟨rfl, trivial⟩ ⟨congrArg (Value.int .i64) rfl, s, y, E⟩

/-- laws.szChangeS -/
theorem Zew {w : World} {LL_a f : Nat} {d : Value} {a : List Chg} (c : Ls Chg.cs 5 w LL_a f d a) (left : Int) (hl : left ≤ 1048576) (k : 0 ≤ left) :
 Ctr Try.prog 70 #[d, (.int .i64 left)] w (fun v w' => v = .int .i64 (if left < a.length then -1 else left - a.length) ∧ Ch [] w w') := by
 obtain ⟨g, h, e⟩ := c.val
 subst e
 have i := c.len
 have c := c.here (by decide)
 have E := Ch.refl [] w
 refine Zx (N := 12) (vs0 := [(.slice g a.length h), (.int .i64 left)]) Try.func70 rfl rfl rfl ?_
 refine Zf fun K1 H1 => ?_
 refine Zc (Za rfl rfl (Ze rfl) (Zd (Zb (H1 _ _ ?_))))
 refine Zf fun K2 H2 => ?_
 refine Zc (Za rfl rfl (Zg rfl) (Za rfl rfl (Zg rfl) (Za rfl rfl (Yi (by rw [el50]; rfl) rfl) (Za rfl rfl (Zdb om rfl rfl) (Za rfl rfl (Ze rfl) (Zd (Zb (H2 _ _ ?_))))))))
 refine Zf fun K3 H3 => ?_
 refine Zf fun K4 H4 => ?_
 refine Zc (Za rfl rfl (Zg rfl) (Za rfl rfl (Yv rfl rfl) (Zd (Zb (H4 _ _ ?_)))))
 refine Zu rfl (fun b => ?_) (fun b => ?_)
 ·have j := b
  have b := Yh b
  refine Zf fun K6 H6 => ?_
  refine Zc (Za rfl rfl (Ze rfl) (Zd (Zb (H6 _ _ ?_))))
  refine Zp (Zk ?_)
  exact Zi [_] ⟨rfl, trivial⟩ ⟨congrArg (Value.int .i64) (if_pos om).symm, E⟩
 have j := b
 have b := Yg b
 refine Zt ?_
 refine Zb (H3 _ _ ?_)
 refine Zf fun K7 H7 => ?_
 refine Zc (Za rfl rfl (Zg rfl) (Za rfl rfl (Ze rfl) (Zd (Zb (H7 _ _ ?_)))))
 refine Zp ?_
 exact Zi [_] ⟨rfl, trivial⟩ ⟨congrArg (Value.int .i64) (if_neg om).symm, E⟩

/-- laws.szBatch -/
theorem Zgf {w : World} {LL_aC g : Nat} {c : Value} {aC : List Chg} (a : Ls Chg.cs 5 w LL_aC g c aC) (left : Int) (hl : left ≤ 1048576) (n : 0 ≤ left) :
 Ctr Try.prog 20 #[(.agg #[c]), (.int .i64 left)] w (fun v w' => v = .int .i64 (if left < aC.length then -1 else left - aC.length) ∧ Ch [] w w') := by
 obtain ⟨d, e, f⟩ := a.val
 subst f
 have i := a.len
 have a := a.here (by decide)
 have E := Ch.refl [] w
 refine Zx (N := 12) (vs0 := [(.agg #[(.slice d aC.length e)]), (.int .i64 left)]) Try.func20 rfl rfl rfl ?_
 refine Zf fun K1 H1 => ?_
 refine Zc (Zl rfl rfl ?_)
 refine Yw rfl fun j W2 h C2 o => ?_
 have p := C2.size
 have E := E.trans C2
 have q := h.lt
 replace h : Blk W2 j 52 [(.slice d aC.length e)] := h
 refine Za rfl rfl (Ze rfl) (Zd (Zb (H1 _ _ ?_)))
 refine Zf fun K3 H3 => ?_
 refine Zc (Za rfl rfl (Zh fa52_0 rfl) (Za rfl rfl (Zn h.at_ agg50 rfl rfl) (Za rfl rfl (Zg rfl) (Zl rfl rfl ?_))))
 have F4 := a.ch0 C2
 refine Step.call (Zr (xs := [.tmp 6, .tmp 7]) fk70 rfl) (Zew F4 _ om om) fun r W5 k => ?_
 obtain ⟨rfl, C5⟩ := k
 have s := C5.size
 have E := E.trans C5
 refine Za rfl rfl (Ze rfl) (Zd (Zb (H3 _ _ ?_)))
 refine Zf fun K6 H6 => ?_
 refine Zf fun K7 H7 => ?_
 refine Zc (Za rfl rfl (Zg rfl) (Za rfl rfl (Yv rfl rfl) (Zd (Zb (H7 _ _ ?_)))))
 refine Zu rfl (fun b => ?_) (fun b => ?_)
 ·have l := b
  have b := Yh b
  refine Zf fun K9 H9 => ?_
  refine Zc (Za rfl rfl (Ze rfl) (Zd (Zb (H9 _ _ ?_))))
  refine Zp (Zk ?_)
  exact Zi [_] ⟨rfl, trivial⟩ ⟨congrArg (Value.int .i64) (by split <;> omega), E⟩
 have l := b
 have b := Yg b
 refine Zt ?_
 refine Zb (H6 _ _ ?_)
 refine Zf fun t m => ?_
 refine Zc (Za rfl rfl (Zg rfl) (Za rfl rfl (Ze rfl) (Zd (Zb (m _ _ ?_)))))
 refine Zp ?_
 exact Zi [_] ⟨rfl, trivial⟩ ⟨congrArg (Value.int .i64) (by split <;> omega), E⟩

/-- laws.szEdgeS -/
theorem Zgc {w : World} {LL_a f : Nat} {d : Value} {a : List GEdge} (c : Ls GEdge.cs 4 w LL_a f d a) (left : Int) (hl : left ≤ 1048576) (k : 0 ≤ left) :
 Ctr Try.prog 46 #[d, (.int .i64 left)] w (fun v w' => v = .int .i64 (if left < a.length then -1 else left - a.length) ∧ Ch [] w w') := by
 obtain ⟨g, h, e⟩ := c.val
 subst e
 have i := c.len
 have c := c.here (by decide)
 have E := Ch.refl [] w
 refine Zx (N := 12) (vs0 := [(.slice g a.length h), (.int .i64 left)]) Try.func46 rfl rfl rfl ?_
 refine Zf fun K1 H1 => ?_
 refine Zc (Za rfl rfl (Ze rfl) (Zd (Zb (H1 _ _ ?_))))
 refine Zf fun K2 H2 => ?_
 refine Zc (Za rfl rfl (Zg rfl) (Za rfl rfl (Zg rfl) (Za rfl rfl (Yi (by rw [el23]; rfl) rfl) (Za rfl rfl (Zdb om rfl rfl) (Za rfl rfl (Ze rfl) (Zd (Zb (H2 _ _ ?_))))))))
 refine Zf fun K3 H3 => ?_
 refine Zf fun K4 H4 => ?_
 refine Zc (Za rfl rfl (Zg rfl) (Za rfl rfl (Yv rfl rfl) (Zd (Zb (H4 _ _ ?_)))))
 refine Zu rfl (fun b => ?_) (fun b => ?_)
 ·have j := b
  have b := Yh b
  refine Zf fun K6 H6 => ?_
  refine Zc (Za rfl rfl (Ze rfl) (Zd (Zb (H6 _ _ ?_))))
  refine Zp (Zk ?_)
  exact Zi [_] ⟨rfl, trivial⟩ ⟨congrArg (Value.int .i64) (if_pos om).symm, E⟩
 have j := b
 have b := Yg b
 refine Zt ?_
 refine Zb (H3 _ _ ?_)
 refine Zf fun K7 H7 => ?_
 refine Zc (Za rfl rfl (Zg rfl) (Za rfl rfl (Ze rfl) (Zd (Zb (H7 _ _ ?_)))))
 refine Zp ?_
 exact Zi [_] ⟨rfl, trivial⟩ ⟨congrArg (Value.int .i64) (if_neg om).symm, E⟩

/-- laws.szIntS -/
theorem Zhf {w : World} {LL_a f : Nat} {d : Value} {a : List Int} (c : Ls ics 1 w LL_a f d a) (left : Int) (hl : left ≤ 1048576) (k : 0 ≤ left) :
 Ctr Try.prog 45 #[d, (.int .i64 left)] w (fun v w' => v = .int .i64 (if left < a.length then -1 else left - a.length) ∧ Ch [] w w') := by
 obtain ⟨g, h, e⟩ := c.val
 subst e
 have i := c.len
 have c := c.here (by decide)
 have E := Ch.refl [] w
 refine Zx (N := 12) (vs0 := [(.slice g a.length h), (.int .i64 left)]) Try.func45 rfl rfl rfl ?_
 refine Zf fun K1 H1 => ?_
 refine Zc (Za rfl rfl (Ze rfl) (Zd (Zb (H1 _ _ ?_))))
 refine Zf fun K2 H2 => ?_
 refine Zc (Za rfl rfl (Zg rfl) (Za rfl rfl (Zg rfl) (Za rfl rfl (Yi (by rw [el22]; rfl) rfl) (Za rfl rfl (Zdb om rfl rfl) (Za rfl rfl (Ze rfl) (Zd (Zb (H2 _ _ ?_))))))))
 refine Zf fun K3 H3 => ?_
 refine Zf fun K4 H4 => ?_
 refine Zc (Za rfl rfl (Zg rfl) (Za rfl rfl (Yv rfl rfl) (Zd (Zb (H4 _ _ ?_)))))
 refine Zu rfl (fun b => ?_) (fun b => ?_)
 ·have j := b
  have b := Yh b
  refine Zf fun K6 H6 => ?_
  refine Zc (Za rfl rfl (Ze rfl) (Zd (Zb (H6 _ _ ?_))))
  refine Zp (Zk ?_)
  exact Zi [_] ⟨rfl, trivial⟩ ⟨congrArg (Value.int .i64) (if_pos om).symm, E⟩
 have j := b
 have b := Yg b
 refine Zt ?_
 refine Zb (H3 _ _ ?_)
 refine Zf fun K7 H7 => ?_
 refine Zc (Za rfl rfl (Zg rfl) (Za rfl rfl (Ze rfl) (Zd (Zb (H7 _ _ ?_)))))
 refine Zp ?_
 exact Zi [_] ⟨rfl, trivial⟩ ⟨congrArg (Value.int .i64) (if_neg om).symm, E⟩

/-- laws.szGraph -/
theorem Zgd {w : World} {LL_aV m : Nat} {e : Value} {aV : List Int} (a : Ls ics 1 w LL_aV m e aV) {LL_aE n : Nat} {f : Value} {aE : List GEdge} (b : Ls GEdge.cs 4 w LL_aE n f aE) (left : Int) (hl : left ≤ 1048576) (J : 0 ≤ left) :
 Ctr Try.prog 6 #[(.agg #[e, f]), (.int .i64 left)] w (fun v w' => v = .int .i64 (if left < aV.length + aE.length then -1 else left - aV.length - aE.length) ∧ Ch [] w w') := by
 obtain ⟨g, h, k⟩ := a.val
 subst k
 have r := a.len
 have a := a.here (by decide)
 obtain ⟨i, j, l⟩ := b.val
 subst l
 have s := b.len
 have b := b.here (by decide)
 have E := Ch.refl [] w
 refine Zx (N := 18) (vs0 := [(.agg #[(.slice g aV.length h), (.slice i aE.length j)]), (.int .i64 left)]) Try.func6 rfl rfl rfl ?_
 refine Zf fun K1 H1 => ?_
 refine Zc (Zl rfl rfl ?_)
 refine Yw rfl fun u W2 o C2 K => ?_
 have L := C2.size
 have E := E.trans C2
 have M := o.lt
 replace o : Blk W2 u 25 [(.slice g aV.length h), (.slice i aE.length j)] := o
 refine Za rfl rfl (Ze rfl) (Zd (Zb (H1 _ _ ?_)))
 refine Zf fun K3 H3 => ?_
 refine Zc (Za rfl rfl (Zh fa25_0 rfl) (Za rfl rfl (Zn o.at_ agg22 rfl rfl) (Za rfl rfl (Zg rfl) (Zl rfl rfl ?_))))
 have F4 := a.ch0 C2
 refine Step.call (Zr (xs := [.tmp 6, .tmp 7]) fk45 rfl) (Zhf F4 _ om om) fun O W5 x => ?_
 obtain ⟨rfl, C5⟩ := x
 have P := C5.size
 have E := E.trans C5
 refine Za rfl rfl (Ze rfl) (Zd (Zb (H3 _ _ ?_)))
 refine Zf fun K6 H6 => ?_
 refine Zf fun K7 H7 => ?_
 refine Zc (Za rfl rfl (Zg rfl) (Za rfl rfl (Yv rfl rfl) (Zd (Zb (H7 _ _ ?_)))))
 refine Zu rfl (fun c => ?_) (fun c => ?_)
 ·have y := c
  have c := Yh c
  refine Zf fun K9 H9 => ?_
  refine Zc (Za rfl rfl (Ze rfl) (Zd (Zb (H9 _ _ ?_))))
  refine Zp (Zk ?_)
  exact Zi [_] ⟨rfl, trivial⟩ ⟨congrArg (Value.int .i64) (by repeat (first | omega | split)), E⟩
 have y := c
 have c := Yg c
 refine Zt ?_
 refine Zb (H6 _ _ ?_)
 refine Zf fun Q z => ?_
 refine Zc (Za rfl rfl (Zh fa25_1 rfl) ?_)
 have A := o.ch0 C5
 refine Za rfl rfl (Zn A.at_ agg23 rfl rfl) (Za rfl rfl (Zg rfl) (Zl rfl rfl ?_))
 have B := (b.ch0 C2).ch0 C5
 refine Step.call (Zr (xs := [.tmp 12, .tmp 13]) fk46 rfl) (Zgc B _ om om) fun C R p => ?_
 obtain ⟨rfl, t⟩ := p
 have D := t.size
 have E := E.trans t
 refine Za rfl rfl (Ze rfl) (Zd (Zb (z _ _ ?_)))
 refine Zf fun S F => ?_
 refine Zf fun T G => ?_
 refine Zc (Za rfl rfl (Zg rfl) (Za rfl rfl (Yv rfl rfl) (Zd (Zb (G _ _ ?_)))))
 refine Zu rfl (fun d => ?_) (fun d => ?_)
 ·have q := d
  have d := Yh d
  refine Zf fun U H => ?_
  refine Zc (Za rfl rfl (Ze rfl) (Zd (Zb (H _ _ ?_))))
  refine Zp (Zk ?_)
  exact Zi [_] ⟨rfl, trivial⟩ ⟨congrArg (Value.int .i64) (by repeat (first | omega | split)), E⟩
 have q := d
 have d := Yg d
 refine Zt ?_
 refine Zb (F _ _ ?_)
 refine Zf fun V I => ?_
 refine Zc (Za rfl rfl (Zg rfl) (Za rfl rfl (Ze rfl) (Zd (Zb (I _ _ ?_)))))
 refine Zp ?_
 exact Zi [_] ⟨rfl, trivial⟩ ⟨congrArg (Value.int .i64) (by repeat (first | omega | split)), E⟩

/-- laws.szGraphS -/
theorem Zfu {w : World} {LL_sa r : Nat} {l : Value} {sa : List Gv} (c : Ls Gv.cs 2 w LL_sa r l sa) {LR_a BB_a : Nat} {a : List GD} (h : RdG w LR_a BB_a sa a) (left : Int) (hl : left ≤ 1048576) (af : 0 ≤ left) :
 Ctr Try.prog 69 #[l, (.int .i64 left)] w (fun v w' => v = .int .i64 (if left < a.length + Xi a then -1 else left - a.length - Xi a) ∧ Ch [] w w') := by
 obtain ⟨n, o, p⟩ := c.val
 subst p
 have F := c.len
 have c := c.here (by decide)
 have h := h.here
 have G := h.1
 have E := Ch.refl [] w
 refine Zx (N := 27) (vs0 := [(.slice n sa.length o), (.int .i64 left)]) Try.func69 rfl rfl rfl ?_
 refine Zf fun K1 H1 => ?_
 refine Zc (Za rfl rfl (Ze rfl) (Zd (Zb (H1 _ _ ?_))))
 refine Zf fun K2 H2 => ?_
 refine Zc (Za rfl rfl (Zg rfl) (Za rfl rfl (Zg rfl) (Za rfl rfl (Yi (by rw [el47]; rfl) rfl) (Za rfl rfl (Zdb om rfl rfl) (Za rfl rfl (Ze rfl) (Zd (Zb (H2 _ _ ?_))))))))
 refine Zf fun K3 H3 => ?_
 refine Zf fun K4 H4 => ?_
 refine Zc (Za rfl rfl (Zg rfl) (Za rfl rfl (Yv rfl rfl) (Zd (Zb (H4 _ _ ?_)))))
 refine Zu rfl (fun e => ?_) (fun e => ?_)
 ·have L := e
  have e := Yh e
  refine Zf fun K6 H6 => ?_
  refine Zc (Za rfl rfl (Ze rfl) (Zd (Zb (H6 _ _ ?_))))
  refine Zp (Zk ?_)
  exact Zi [_] ⟨rfl, trivial⟩ ⟨congrArg (Value.int .i64) (if_pos om).symm, E⟩
 have L := e
 have e := Yg e
 refine Zt ?_
 refine Zb (H3 _ _ ?_)
 refine Zf fun K7 H7 => ?_
 refine Zf fun K8 H8 => ?_
 refine Zc (Za rfl rfl (Ze rfl) (Zd (Zb (H8 _ _ ?_))))
 refine Zz ?_
 refine Xk (σ := Nat × Int) (fun ⟨k, m⟩ => [(0, (.slice n sa.length o)), (1, (.int .i64 m)), (5, (.int .i64 ((k : Nat) : Int)))]) (fun ⟨k, m⟩ wx => Ch [] w wx ∧ w.heap.size ≤ wx.heap.size ∧ (k ≤ a.length) ∧ (m = left - a.length - Xi (a.take k)) ∧ (0 ≤ m)) (fun ⟨k, m⟩ => a.length - k) (0, (left - ((sa.length : Nat) : Int))) (sC2 rfl rfl (sC1 rfl (Sub.nil _))) ⟨E, (Nat.le_refl _), om, (by simp [Xi]; omega), om⟩ ?_
 rintro ⟨k, m⟩ R9 ⟨E, M, ag, hm, hn⟩
 have q := E
 have H := q.size
 refine Zf fun ah O => ?_
 refine Zf fun ai P => ?_
 refine Zc (Za rfl rfl (Zg rfl) (Za rfl rfl (Zg rfl) (Za rfl rfl (Yi (by rw [el47]; rfl) rfl) (Za rfl rfl (Yv rfl rfl) (Zd (Zb (P _ _ ?_)))))))
 refine Zu rfl (fun f => ?_) (fun f => ?_)
 ·have t := f
  have f := Yh f
  refine Zt ?_
  refine Zb (O _ _ ?_)
  refine Zf fun aj I => ?_
  refine Zz ?_
  refine Zf fun ak Q => ?_
  refine Zc (Za rfl rfl (Zg rfl) (Za rfl rfl (Zg rfl) (Zl rfl rfl ?_)))
  have R := c.ch0 q
  refine (Xo R Gv.len el47 sz25 rfl rfl rfl om fun S u s x => ?_)
  have T := h.ch0 q
  obtain ⟨b, i, d, j⟩ := T.get s
  obtain ⟨⟨y, U, z⟩, ⟨A, X, B⟩⟩ := u
  obtain rfl := d.eqn
  obtain rfl := j.eqn
  have Y := d.len
  have Z := j.len
  replace d : Ls ics 1 R9 LR_a w.heap.size (.slice y b.V.length z) b.V := d
  replace j : Ls GEdge.cs 4 R9 LR_a w.heap.size (.slice A b.E.length B) b.E := j
  refine Za rfl rfl (Zj x agg25 sz25 rfl) (Za rfl rfl (Zg rfl) (Zl rfl rfl ?_))
  refine Step.call (Zr (xs := [.tmp 21, .tmp 22]) fk6 rfl) (Zgd d j _ om om) fun aa al C => ?_
  obtain ⟨rfl, J⟩ := C
  have ab := J.size
  have E := E.trans J
  refine Za rfl rfl (Ze rfl) (Zd (Zb (Q _ _ ?_)))
  refine Zf fun am ac => ?_
  refine Zc (Za rfl rfl (Zg rfl) (Za rfl rfl (Yv rfl rfl) (Zd (Zb (ac _ _ ?_)))))
  refine Zu rfl (fun g => ?_) (fun g => ?_)
  ·have D := g
   have g := Yh g
   refine Zf fun an ad => ?_
   refine Zc (Za rfl rfl (Ze rfl) (Zd (Zb (ad _ _ ?_))))
   refine Zp (Zy (Zk (Zk (Zy (Zk ?_)))))
   clear H7 I
   exact Zi [_] ⟨rfl, trivial⟩ ⟨congrArg (Value.int .i64) (if_pos (by have K := Zcx i; omega)).symm, E⟩
  have D := g
  have g := Yg g
  refine Zt ?_
  refine Yr (Zb (I _ _ (Zc (Za rfl rfl (Zg rfl) (Za rfl rfl (Yq om rfl rfl) (Za rfl rfl (Ze rfl) (Zd ?_)))))))
  exact Zb (Exists.intro ((k + 1), if m < b.V.length + b.E.length then -1 else m - b.V.length - b.E.length) ⟨⟨E, om, om, (by have K := Zea i; omega), om⟩, sC2 rfl rfl (sC1 rfl (Sub.nil _)), (by first | omega | (dsimp only; omega))⟩)
 have t := f
 have f := Yg f
 refine Xc (Zv (Zv (Ys ?_)))
 refine Zb (H7 _ _ ?_)
 refine Zf fun ao ae => ?_
 refine Zc (Za rfl rfl (Zg rfl) (Za rfl rfl (Ze rfl) (Zd (Zb (ae _ _ ?_)))))
 refine Zp ?_
 exact Zi [_] ⟨rfl, trivial⟩ ⟨congrArg (Value.int .i64) (by have K := Zkg (show a.length ≤ k by omega); omega), E⟩

/-- laws.szHistory -/
theorem Zeu {w : World} (aF : Int) {LL_saG h : Nat} {d : Value} {saG : List Gv} (a : Ls Gv.cs 2 w LL_saG h d saG) {LR_aG BB_aG : Nat} {aG : List GD} (b : RdG w LR_aG BB_aG saG aG) (left : Int) (hl : left ≤ 1048576) (q : 0 ≤ left) :
 Ctr Try.prog 19 #[(.agg #[(.int .i64 aF), d]), (.int .i64 left)] w (fun v w' => v = .int .i64 (if left < aG.length + Xi aG then -1 else left - aG.length - Xi aG) ∧ Ch [] w w') := by
 obtain ⟨e, f, g⟩ := a.val
 subst g
 have j := a.len
 have a := a.here (by decide)
 have b := b.here
 have k := b.1
 have E := Ch.refl [] w
 refine Zx (N := 12) (vs0 := [(.agg #[(.int .i64 aF), (.slice e saG.length f)]), (.int .i64 left)]) Try.func19 rfl rfl rfl ?_
 refine Zf fun K1 H1 => ?_
 refine Zc (Zl rfl rfl ?_)
 refine Yw rfl fun l W2 i C2 r => ?_
 have s := C2.size
 have E := E.trans C2
 have t := i.lt
 replace i : Blk W2 l 49 [(.int .i64 aF), (.slice e saG.length f)] := i
 refine Za rfl rfl (Ze rfl) (Zd (Zb (H1 _ _ ?_)))
 refine Zf fun K3 H3 => ?_
 refine Zc (Za rfl rfl (Zh fa49_1 rfl) (Za rfl rfl (Zn i.at_ agg47 rfl rfl) (Za rfl rfl (Zg rfl) (Zl rfl rfl ?_))))
 have F4 := a.ch0 C2
 have F5 := b.ch0 C2
 refine Step.call (Zr (xs := [.tmp 6, .tmp 7]) fk69 rfl) (Zfu F4 F5 _ om om) fun u W6 m => ?_
 obtain ⟨rfl, C6⟩ := m
 have x := C6.size
 have E := E.trans C6
 refine Za rfl rfl (Ze rfl) (Zd (Zb (H3 _ _ ?_)))
 refine Zf fun K7 H7 => ?_
 refine Zf fun K8 H8 => ?_
 refine Zc (Za rfl rfl (Zg rfl) (Za rfl rfl (Yv rfl rfl) (Zd (Zb (H8 _ _ ?_)))))
 refine Zu rfl (fun c => ?_) (fun c => ?_)
 ·have n := c
  have c := Yh c
  refine Zf fun y o => ?_
  refine Zc (Za rfl rfl (Ze rfl) (Zd (Zb (o _ _ ?_))))
  refine Zp (Zk ?_)
  exact Zi [_] ⟨rfl, trivial⟩ ⟨congrArg (Value.int .i64) om, E⟩
 have n := c
 have c := Yg c
 refine Zt ?_
 refine Zb (H7 _ _ ?_)
 refine Zf fun z p => ?_
 refine Zc (Za rfl rfl (Zg rfl) (Za rfl rfl (Ze rfl) (Zd (Zb (p _ _ ?_)))))
 refine Zp ?_
 exact Zi [_] ⟨rfl, trivial⟩ ⟨congrArg (Value.int .i64) om, E⟩

/-- laws.toEdge -/
theorem Zdp {w : World} (a : GEdge) :
 Ctr Try.prog 102 #[(.agg #[(.int .i64 a.id), (.int .i64 a.f), (.int .i64 a.t), (.int .i64 a.label)])] w (fun v w' => v = .agg (GEdge.cs (a)).toArray ∧ Ch [] w w') := by
 have E := Ch.refl [] w
 refine Zx (N := 17) (vs0 := [(.agg #[(.int .i64 a.id), (.int .i64 a.f), (.int .i64 a.t), (.int .i64 a.label)])]) Try.func102 rfl rfl rfl ?_
 refine Zf fun K1 H1 => ?_
 refine Zc (Zl rfl rfl ?_)
 refine Yw rfl fun s W2 i C2 L => ?_
 have M := C2.size
 have E := E.trans C2
 have O := i.lt
 replace i : Blk W2 s 137 [(.int .i64 a.id), (.int .i64 a.f), (.int .i64 a.t), (.int .i64 a.label)] := i
 refine Zl rfl rfl ?_
 refine Yb zr129 fun o W3 j C3 P => ?_
 have Q := C3.size
 have E := E.trans C3
 have R := j.lt
 replace j : Blk W3 o 129 [(.int .i64 0), (.int .i64 0), (.int .i64 0), (.int .i64 0)] := j
 refine Zd (Zb (H1 _ _ ?_))
 refine Zf fun K4 H4 => ?_
 refine Zc (Zl rfl rfl ?_)
 refine Yb zr129 fun h W5 k C5 S => ?_
 have T := C5.size
 have E := E.trans C5
 have U := k.lt
 replace k : Blk W5 h 129 [(.int .i64 0), (.int .i64 0), (.int .i64 0), (.int .i64 0)] := k
 refine Zd (Zb (H4 _ _ ?_))
 refine Zf fun K6 H6 => ?_
 refine Zc (Za rfl rfl (Zh fa137_0 rfl) ?_)
 have F7 := (i.ch0 C3).ch0 C5
 refine Za rfl rfl (Zn F7.at_ agg3 rfl rfl) (Za rfl rfl (Zh fa129_0 rfl) (Zl rfl rfl ?_))
 refine Yp (off := 0) k sz3 rfl rfl rfl rfl fun W8 g C8 => ?_
 have V := C8.size
 have E := E.step C8 (lS om)
 replace g : Blk W8 h 129 [(.int .i64 a.id), (.int .i64 0), (.int .i64 0), (.int .i64 0)] := g
 refine Zd (Zb (H6 _ _ ?_))
 refine Zf fun X u => ?_
 refine Zc (Za rfl rfl (Zh fa137_1 rfl) ?_)
 have p := F7.ch C8 (nS om)
 refine Za rfl rfl (Zn p.at_ agg3 rfl rfl) (Za rfl rfl (Zh fa129_1 rfl) (Zl rfl rfl ?_))
 refine Yp (off := 1) g sz3 rfl rfl rfl rfl fun x b l => ?_
 have y := l.size
 have E := E.step l (lS om)
 replace b : Blk x h 129 [(.int .i64 a.id), (.int .i64 a.f), (.int .i64 0), (.int .i64 0)] := b
 refine Zd (Zb (u _ _ ?_))
 refine Zf fun Y z => ?_
 refine Zc (Za rfl rfl (Zh fa137_2 rfl) ?_)
 have q := p.ch l (nS om)
 refine Za rfl rfl (Zn q.at_ agg3 rfl rfl) (Za rfl rfl (Zh fa129_2 rfl) (Zl rfl rfl ?_))
 refine Yp (off := 2) b sz3 rfl rfl rfl rfl fun A c m => ?_
 have B := m.size
 have E := E.step m (lS om)
 replace c : Blk A h 129 [(.int .i64 a.id), (.int .i64 a.f), (.int .i64 a.t), (.int .i64 0)] := c
 refine Zd (Zb (z _ _ ?_))
 refine Zf fun Z C => ?_
 refine Zc (Za rfl rfl (Zh fa137_3 rfl) ?_)
 have D := q.ch m (nS om)
 refine Za rfl rfl (Zn D.at_ agg3 rfl rfl) (Za rfl rfl (Zh fa129_3 rfl) (Zl rfl rfl ?_))
 refine Yp (off := 3) c sz3 rfl rfl rfl rfl fun F d n => ?_
 have G := n.size
 have E := E.step n (lS om)
 replace d : Blk F h 129 [(.int .i64 a.id), (.int .i64 a.f), (.int .i64 a.t), (.int .i64 a.label)] := d
 refine Zd (Zb (C _ _ ?_))
 refine Zf fun aa H => ?_
 refine Zc (Za rfl rfl (Zj d.at_ agg129 sz129 rfl) (Zl rfl rfl ?_))
 have I := ((((j.ch0 C5).ch C8 (nS om)).ch l (nS om)).ch m (nS om)).ch n (nS om)
 refine Zo (off := 0) 4 I sz129 rfl (us := [(.int .i64 a.id), (.int .i64 a.f), (.int .i64 a.t), (.int .i64 a.label)]) rfl rfl rfl rfl fun J e r => ?_
 have K := r.size
 have E := E.step r (lS om)
 replace e : Blk J o 129 [(.int .i64 a.id), (.int .i64 a.f), (.int .i64 a.t), (.int .i64 a.label)] := e
 refine Zd (Zb (H _ _ ?_))
 refine Zp ?_
 exact Zi [_] (Zq e rfl agg129 sz129 trivial) ⟨by simp [Zek, GEdge.cs], E⟩

/-- laws.toChange -/
theorem Zfs {w : World} (a : Chg) :
 Ctr Try.prog 109 #[(.agg #[(.bool a.ins), (.int .i64 a.eid), (.int .i64 a.ef), (.int .i64 a.et), (.int .i64 a.el)])] w (fun v w' => v = .agg (Chg.cs (a)).toArray ∧ Ch [] w w') := by
 have E := Ch.refl [] w
 refine Zx (N := 12) (vs0 := [(.agg #[(.bool a.ins), (.int .i64 a.eid), (.int .i64 a.ef), (.int .i64 a.et), (.int .i64 a.el)])]) Try.func109 rfl rfl rfl ?_
 refine Zf fun K1 H1 => ?_
 refine Zc (Zl rfl rfl ?_)
 refine Yw rfl fun n W2 e C2 C => ?_
 have D := C2.size
 have E := E.trans C2
 have F := e.lt
 replace e : Blk W2 n 145 [(.bool a.ins), (.int .i64 a.eid), (.int .i64 a.ef), (.int .i64 a.et), (.int .i64 a.el)] := e
 refine Zl rfl rfl ?_
 refine Yb zr142 fun l W3 g C3 G => ?_
 have H := C3.size
 have E := E.trans C3
 have I := g.lt
 replace g : Blk W3 l 142 [(.bool false), (.int .i64 0), (.int .i64 0), (.int .i64 0), (.int .i64 0)] := g
 refine Zd (Zb (H1 _ _ ?_))
 refine Zf fun K4 H4 => ?_
 refine Zc (Zl rfl rfl ?_)
 refine Yb zr142 fun j W5 h C5 J => ?_
 have K := C5.size
 have E := E.trans C5
 have L := h.lt
 replace h : Blk W5 j 142 [(.bool false), (.int .i64 0), (.int .i64 0), (.int .i64 0), (.int .i64 0)] := h
 refine Zd (Zb (H4 _ _ ?_))
 refine Zf fun K6 H6 => ?_
 refine Zc (Za rfl rfl (Zh fa145_0 rfl) ?_)
 have F7 := (e.ch0 C3).ch0 C5
 refine Za rfl rfl (Zn F7.at_ agg4 rfl rfl) (Za rfl rfl (Zh fa142_0 rfl) (Zl rfl rfl ?_))
 refine Yp (off := 0) h sz4 rfl rfl rfl rfl fun W8 d C8 => ?_
 have M := C8.size
 have E := E.step C8 (lS om)
 replace d : Blk W8 j 142 [(.bool a.ins), (.int .i64 0), (.int .i64 0), (.int .i64 0), (.int .i64 0)] := d
 refine Zd (Zb (H6 _ _ ?_))
 refine Zf fun O o => ?_
 refine Zc (Za rfl rfl (Zh fa145_1 rfl) ?_)
 have p := F7.ch C8 (nS om)
 refine Za rfl rfl (Zbw 4 p.at_ agg137 sz137 rfl rfl) (Zl rfl rfl ?_)
 refine Step.call (Zr (xs := [.tmp 8]) fk102 rfl) (Zdp ⟨a.eid, a.ef, a.et, a.el⟩ ) fun P Q q => ?_
 obtain ⟨rfl, i⟩ := q
 have r := i.size
 have E := E.trans i
 refine Za rfl rfl (Zh fa142_1 rfl) (Zl rfl rfl ?_)
 have s := d.ch0 i
 refine Zo (off := 1) 4 s sz129 rfl (us := [(.int .i64 ((⟨a.eid, a.ef, a.et, a.el⟩ : GEdge).id)), (.int .i64 ((⟨a.eid, a.ef, a.et, a.el⟩ : GEdge).f)), (.int .i64 ((⟨a.eid, a.ef, a.et, a.el⟩ : GEdge).t)), (.int .i64 ((⟨a.eid, a.ef, a.et, a.el⟩ : GEdge).label))]) rfl rfl rfl rfl fun u b k => ?_
 have x := k.size
 have E := E.step k (lS om)
 replace b : Blk u j 142 [(.bool a.ins), (.int .i64 ((⟨a.eid, a.ef, a.et, a.el⟩ : GEdge).id)), (.int .i64 ((⟨a.eid, a.ef, a.et, a.el⟩ : GEdge).f)), (.int .i64 ((⟨a.eid, a.ef, a.et, a.el⟩ : GEdge).t)), (.int .i64 ((⟨a.eid, a.ef, a.et, a.el⟩ : GEdge).label))] := b
 refine Zd (Zb (o _ _ ?_))
 refine Zf fun R y => ?_
 refine Zc (Za rfl rfl (Zj b.at_ agg142 sz142 rfl) (Zl rfl rfl ?_))
 have z := (((g.ch0 C5).ch C8 (nS om)).ch0 i).ch k (nS om)
 refine Zo (off := 0) 5 z sz142 rfl (us := [(.bool a.ins), (.int .i64 ((⟨a.eid, a.ef, a.et, a.el⟩ : GEdge).id)), (.int .i64 ((⟨a.eid, a.ef, a.et, a.el⟩ : GEdge).f)), (.int .i64 ((⟨a.eid, a.ef, a.et, a.el⟩ : GEdge).t)), (.int .i64 ((⟨a.eid, a.ef, a.et, a.el⟩ : GEdge).label))]) rfl rfl rfl rfl fun A c m => ?_
 have B := m.size
 have E := E.step m (lS om)
 replace c : Blk A l 142 [(.bool a.ins), (.int .i64 ((⟨a.eid, a.ef, a.et, a.el⟩ : GEdge).id)), (.int .i64 ((⟨a.eid, a.ef, a.et, a.el⟩ : GEdge).f)), (.int .i64 ((⟨a.eid, a.ef, a.et, a.el⟩ : GEdge).t)), (.int .i64 ((⟨a.eid, a.ef, a.et, a.el⟩ : GEdge).label))] := c
 refine Zd (Zb (y _ _ ?_))
 refine Zp ?_
 exact Zi [_] (Zq c rfl agg142 sz142 trivial) ⟨by simp [Zek, Chg.cs], E⟩

/-- laws.toChangeS -/
theorem Zet {w : World} {LL_a x : Nat} {h : Value} {a : List Chg} (c : Ls Chg.cs 5 w LL_a x h a) (hb : a.length ≤ 1048576) :
 Ctr Try.prog 73 #[h] w (fun v w' => Ol Chg.cs 142 5 w' v (a) ∧ Lo w.heap.size v ∧ Ch [] w w') := by
 obtain ⟨l, m, n⟩ := c.val
 subst n
 have K := c.len
 have c := c.here (by decide)
 have E := Ch.refl [] w
 refine Zx (N := 23) (vs0 := [(.slice l a.length m)]) Try.func73 rfl rfl rfl ?_
 refine Zf fun K1 H1 => ?_
 refine Zc (Za rfl rfl (Ze rfl) (Zd (Zb (H1 _ _ ?_))))
 refine Zf fun K2 H2 => ?_
 refine Zc (Za rfl rfl (Zg rfl) (Za rfl rfl (Yi (by rw [el50]; rfl) rfl) (Zl rfl rfl ?_)))
 refine Zig (cs := Chg.cs) (⟨false, 0, 0, 0, 0⟩ : Chg) el61 sz142 by142 zr142 Chg.len (by decide) rfl rfl om om fun Z W3 D o C3 => ?_
 have aa := C3.size
 have E := E.trans C3
 obtain ⟨d, e, rfl, L, F⟩ := D.opn
 refine Za rfl rfl (Ze rfl) (Zd (Zb (H2 _ _ ?_)))
 refine Zf fun K4 H4 => ?_
 refine Zf fun K5 H5 => ?_
 refine Zc (Za rfl rfl (Ze rfl) (Zd (Zb (H5 _ _ ?_))))
 refine Zz ?_
 have p : Ol Chg.cs 142 5 W3 (.slice d ((List.replicate a.length (⟨false, 0, 0, 0, 0⟩ : Chg))).length e) (a.take 0 ++ List.replicate (a.length - 0) (⟨false, 0, 0, 0, 0⟩ : Chg)) := by
  have hx := D
  simpa using hx
 refine Xk (σ := Nat) (fun (k : Nat) => [(0, (.slice l a.length m)), (2, (.slice none 0 0)), (3, (.slice d ((List.replicate a.length (⟨false, 0, 0, 0, 0⟩ : Chg))).length e)), (4, (.int .i64 ((k : Nat) : Int)))]) (fun (k : Nat) wx => Ch [] w wx ∧ W3.heap.size ≤ wx.heap.size ∧ (k ≤ a.length) ∧ Ol Chg.cs 142 5 wx (.slice d ((List.replicate a.length (⟨false, 0, 0, 0, 0⟩ : Chg))).length e) (a.take k ++ List.replicate (a.length - k) (⟨false, 0, 0, 0, 0⟩ : Chg))) (fun (k : Nat) => a.length - k) 0 (sC4 rfl rfl rfl rfl (Sub.nil _)) ⟨E, (Nat.le_refl _), om, p⟩ ?_
 rintro k R7 ⟨E, M, ab, f⟩
 have q := E
 have G := q.size
 refine Zf fun K8 H8 => ?_
 refine Zf fun K9 H9 => ?_
 refine Zc (Za rfl rfl (Zg rfl) (Za rfl rfl (Zg rfl) (Za rfl rfl (Yi (by rw [el50]; rfl) rfl) (Za rfl rfl (Yv rfl rfl) (Zd (Zb (H9 _ _ ?_)))))))
 refine Zu rfl (fun b => ?_) (fun b => ?_)
 ·have y := b
  have b := Yh b
  refine Zt ?_
  refine Zb (H8 _ _ ?_)
  refine Zf fun ac O => ?_
  refine Zz ?_
  refine Zc (Za rfl rfl (Zg rfl) (Za rfl rfl (Zg rfl) (Za rfl rfl (Zg rfl) (Za rfl rfl (Zg rfl) (Zl rfl rfl ?_)))))
  have P := c.ch0 q
  refine (Xo P Chg.len el50 sz145 rfl rfl rfl om fun Q r s z => ?_)
  refine Za rfl rfl (Zj z agg145 sz145 rfl) (Zl rfl rfl ?_)
  refine Step.call (Zr (xs := [.tmp 19]) fk109 rfl) (Zfs r ) fun R ad A => ?_
  obtain ⟨rfl, B⟩ := A
  have S := B.size
  have E := E.trans B
  refine Zl rfl rfl ?_
  have H := f.ch0 B
  refine Qw (j := k) H el61 sz142 rfl rfl rfl (by simp; omega) fun T U I C => ?_
  refine Zl rfl rfl ?_
  refine Zdj (j := k) r H C Chg.len sz142 rfl rfl rfl rfl (by simp; omega) fun V t J => ?_
  have X := J.size
  have E := E.step J (fun i hi => .inl (by have ae := o _ hi; omega))
  refine Zd (Yr (Zb (O _ _ (Zc (Za rfl rfl (Zg rfl) (Za rfl rfl (Yq om rfl rfl) (Za rfl rfl (Ze rfl) (Zd ?_))))))))
  have g : Ol Chg.cs 142 5 V (.slice d ((List.replicate a.length (⟨false, 0, 0, 0, 0⟩ : Chg))).length e) (a.take (k + 1) ++ List.replicate (a.length - (k + 1)) (⟨false, 0, 0, 0, 0⟩ : Chg)) := by
   have hx := t
   rwa [Zfm a (⟨false, 0, 0, 0, 0⟩ : Chg) s] at hx
  exact Zb (Exists.intro (k + 1) ⟨⟨E, om, om, g⟩, sC4 rfl rfl rfl rfl (Sub.nil _), (by first | omega | (dsimp only; omega))⟩)
 have y := b
 have b := Yg b
 refine Xc (Zv (Zv (Ys ?_)))
 refine Zb (H4 _ _ ?_)
 refine Zf fun af Y => ?_
 refine Zc (Za rfl rfl (Zg rfl) (Za rfl rfl (Ze rfl) (Zd (Zb (Y _ _ ?_)))))
 refine Zp ?_
 have u : Ol Chg.cs 142 5 R7 (.slice d ((List.replicate a.length (⟨false, 0, 0, 0, 0⟩ : Chg))).length e) (a) := by
  have hx := f
  simpa [List.take_of_length_le (show a.length ≤ k by omega), show a.length - k = 0 by omega] using hx
 exact Zi [_] ⟨rfl, trivial⟩ ⟨u, Lo.down o om, E⟩

/-- laws.toBatch -/
theorem Qb {w : World} {LL_aC m : Nat} {f : Value} {aC : List Chg} (a : Ls Chg.cs 5 w LL_aC m f aC) (hb : aC.length ≤ 1048576) :
 Ctr Try.prog 23 #[(.agg #[f])] w (fun v w' => ∃ (j : Value), v = .agg #[j] ∧ Ol Chg.cs 142 5 w' j (aC) ∧ Lo w.heap.size j ∧ Ch [] w w') := by
 obtain ⟨g, h, k⟩ := a.val
 subst k
 have u := a.len
 have a := a.here (by decide)
 have E := Ch.refl [] w
 refine Zx (N := 9) (vs0 := [(.agg #[(.slice g aC.length h)])]) Try.func23 rfl rfl rfl ?_
 refine Zf fun K1 H1 => ?_
 refine Zc (Zl rfl rfl ?_)
 refine Yw rfl fun A W2 o C2 K => ?_
 have L := C2.size
 have E := E.trans C2
 have M := o.lt
 replace o : Blk W2 A 52 [(.slice g aC.length h)] := o
 refine Zl rfl rfl ?_
 refine Yb zr63 fun x W3 p C3 O => ?_
 have P := C3.size
 have E := E.trans C3
 have Q := p.lt
 replace p : Blk W3 x 63 [(.slice none 0 0)] := p
 refine Zd (Zb (H1 _ _ ?_))
 refine Zf fun K4 H4 => ?_
 refine Zc (Zl rfl rfl ?_)
 refine Yb zr63 fun y W5 q C5 R => ?_
 have S := C5.size
 have E := E.trans C5
 have T := q.lt
 replace q : Blk W5 y 63 [(.slice none 0 0)] := q
 refine Zd (Zb (H4 _ _ ?_))
 refine Zf fun K6 H6 => ?_
 refine Zc (Za rfl rfl (Zh fa52_0 rfl) ?_)
 have F7 := (o.ch0 C3).ch0 C5
 refine Za rfl rfl (Zn F7.at_ agg50 rfl rfl) (Zl rfl rfl ?_)
 have F8 := ((a.ch0 C2).ch0 C3).ch0 C5
 refine Step.call (Zr (xs := [.tmp 5]) fk73 rfl) (Zet F8 om) fun U W9 r => ?_
 obtain ⟨r, l, C9⟩ := r
 have V := C9.size
 have E := E.trans C9
 obtain ⟨b, c, rfl, B, i⟩ := r.opn
 refine Za rfl rfl (Zh fa63_0 rfl) (Zl rfl rfl ?_)
 have C := q.ch0 C9
 refine Yp (off := 0) C sz61 rfl rfl rfl rfl fun D d s => ?_
 have F := s.size
 have E := E.step s (lS om)
 replace d : Blk D y 63 [(.slice b (aC).length c)] := d
 refine Zd (Zb (H6 _ _ ?_))
 refine Zf fun X G => ?_
 refine Zc (Za rfl rfl (Zj d.at_ agg63 sz63 rfl) (Zl rfl rfl ?_))
 have H := ((p.ch0 C5).ch0 C9).ch s (nS om)
 refine Zo (off := 0) 1 H sz63 rfl (us := [(.slice b (aC).length c)]) rfl rfl rfl rfl fun z e t => ?_
 have I := t.size
 have E := E.step t (lS om)
 replace e : Blk z x 63 [(.slice b (aC).length c)] := e
 refine Zd (Zb (G _ _ ?_))
 refine Zp ?_
 have J := (r.ch s (dS l i om)).ch t (dS l i om)
 have n : Ol Chg.cs 142 5 z (.slice b (aC).length c) (aC) := by
  have hx := J
  first | exact hx | simpa using hx
 exact Zi [_] (Zq e rfl agg63 sz63 trivial) ⟨(.slice b (aC).length c), rfl, n, (Lo.down l om), E⟩

/-- laws.toEdgeS -/
theorem Zfy {w : World} {LL_a x : Nat} {h : Value} {a : List GEdge} (c : Ls GEdge.cs 4 w LL_a x h a) (hb : a.length ≤ 1048576) :
 Ctr Try.prog 52 #[h] w (fun v w' => Ol GEdge.cs 129 4 w' v (a) ∧ Lo w.heap.size v ∧ Ch [] w w') := by
 obtain ⟨l, m, n⟩ := c.val
 subst n
 have K := c.len
 have c := c.here (by decide)
 have E := Ch.refl [] w
 refine Zx (N := 23) (vs0 := [(.slice l a.length m)]) Try.func52 rfl rfl rfl ?_
 refine Zf fun K1 H1 => ?_
 refine Zc (Za rfl rfl (Ze rfl) (Zd (Zb (H1 _ _ ?_))))
 refine Zf fun K2 H2 => ?_
 refine Zc (Za rfl rfl (Zg rfl) (Za rfl rfl (Yi (by rw [el23]; rfl) rfl) (Zl rfl rfl ?_)))
 refine Zig (cs := GEdge.cs) (⟨0, 0, 0, 0⟩ : GEdge) el34 sz129 by129 zr129 GEdge.len (by decide) rfl rfl om om fun Z W3 D o C3 => ?_
 have aa := C3.size
 have E := E.trans C3
 obtain ⟨d, e, rfl, L, F⟩ := D.opn
 refine Za rfl rfl (Ze rfl) (Zd (Zb (H2 _ _ ?_)))
 refine Zf fun K4 H4 => ?_
 refine Zf fun K5 H5 => ?_
 refine Zc (Za rfl rfl (Ze rfl) (Zd (Zb (H5 _ _ ?_))))
 refine Zz ?_
 have p : Ol GEdge.cs 129 4 W3 (.slice d ((List.replicate a.length (⟨0, 0, 0, 0⟩ : GEdge))).length e) (a.take 0 ++ List.replicate (a.length - 0) (⟨0, 0, 0, 0⟩ : GEdge)) := by
  have hx := D
  simpa using hx
 refine Xk (σ := Nat) (fun (k : Nat) => [(0, (.slice l a.length m)), (2, (.slice none 0 0)), (3, (.slice d ((List.replicate a.length (⟨0, 0, 0, 0⟩ : GEdge))).length e)), (4, (.int .i64 ((k : Nat) : Int)))]) (fun (k : Nat) wx => Ch [] w wx ∧ W3.heap.size ≤ wx.heap.size ∧ (k ≤ a.length) ∧ Ol GEdge.cs 129 4 wx (.slice d ((List.replicate a.length (⟨0, 0, 0, 0⟩ : GEdge))).length e) (a.take k ++ List.replicate (a.length - k) (⟨0, 0, 0, 0⟩ : GEdge))) (fun (k : Nat) => a.length - k) 0 (sC4 rfl rfl rfl rfl (Sub.nil _)) ⟨E, (Nat.le_refl _), om, p⟩ ?_
 rintro k R7 ⟨E, M, ab, f⟩
 have q := E
 have G := q.size
 refine Zf fun K8 H8 => ?_
 refine Zf fun K9 H9 => ?_
 refine Zc (Za rfl rfl (Zg rfl) (Za rfl rfl (Zg rfl) (Za rfl rfl (Yi (by rw [el23]; rfl) rfl) (Za rfl rfl (Yv rfl rfl) (Zd (Zb (H9 _ _ ?_)))))))
 refine Zu rfl (fun b => ?_) (fun b => ?_)
 ·have y := b
  have b := Yh b
  refine Zt ?_
  refine Zb (H8 _ _ ?_)
  refine Zf fun ac O => ?_
  refine Zz ?_
  refine Zc (Za rfl rfl (Zg rfl) (Za rfl rfl (Zg rfl) (Za rfl rfl (Zg rfl) (Za rfl rfl (Zg rfl) (Zl rfl rfl ?_)))))
  have P := c.ch0 q
  refine (Xo P GEdge.len el23 sz137 rfl rfl rfl om fun Q r s z => ?_)
  refine Za rfl rfl (Zj z agg137 sz137 rfl) (Zl rfl rfl ?_)
  refine Step.call (Zr (xs := [.tmp 19]) fk102 rfl) (Zdp r ) fun R ad A => ?_
  obtain ⟨rfl, B⟩ := A
  have S := B.size
  have E := E.trans B
  refine Zl rfl rfl ?_
  have H := f.ch0 B
  refine Qw (j := k) H el34 sz129 rfl rfl rfl (by simp; omega) fun T U I C => ?_
  refine Zl rfl rfl ?_
  refine Zdj (j := k) r H C GEdge.len sz129 rfl rfl rfl rfl (by simp; omega) fun V t J => ?_
  have X := J.size
  have E := E.step J (fun i hi => .inl (by have ae := o _ hi; omega))
  refine Zd (Yr (Zb (O _ _ (Zc (Za rfl rfl (Zg rfl) (Za rfl rfl (Yq om rfl rfl) (Za rfl rfl (Ze rfl) (Zd ?_))))))))
  have g : Ol GEdge.cs 129 4 V (.slice d ((List.replicate a.length (⟨0, 0, 0, 0⟩ : GEdge))).length e) (a.take (k + 1) ++ List.replicate (a.length - (k + 1)) (⟨0, 0, 0, 0⟩ : GEdge)) := by
   have hx := t
   rwa [Zfm a (⟨0, 0, 0, 0⟩ : GEdge) s] at hx
  exact Zb (Exists.intro (k + 1) ⟨⟨E, om, om, g⟩, sC4 rfl rfl rfl rfl (Sub.nil _), (by first | omega | (dsimp only; omega))⟩)
 have y := b
 have b := Yg b
 refine Xc (Zv (Zv (Ys ?_)))
 refine Zb (H4 _ _ ?_)
 refine Zf fun af Y => ?_
 refine Zc (Za rfl rfl (Zg rfl) (Za rfl rfl (Ze rfl) (Zd (Zb (Y _ _ ?_)))))
 refine Zp ?_
 have u : Ol GEdge.cs 129 4 R7 (.slice d ((List.replicate a.length (⟨0, 0, 0, 0⟩ : GEdge))).length e) (a) := by
  have hx := f
  simpa [List.take_of_length_le (show a.length ≤ k by omega), show a.length - k = 0 by omega] using hx
 exact Zi [_] ⟨rfl, trivial⟩ ⟨u, Lo.down o om, E⟩

/-- laws.toIntS -/
theorem Zhc {w : World} {LL_a u : Nat} {h : Value} {a : List Int} (c : Ls ics 1 w LL_a u h a) (hb : a.length ≤ 1048576) :
 Ctr Try.prog 51 #[h] w (fun v w' => Ol ics 3 1 w' v (a) ∧ Lo w.heap.size v ∧ Ch [] w w') := by
 obtain ⟨l, m, n⟩ := c.val
 subst n
 have H := c.len
 have c := c.here (by decide)
 have E := Ch.refl [] w
 refine Zx (N := 22) (vs0 := [(.slice l a.length m)]) Try.func51 rfl rfl rfl ?_
 refine Zf fun K1 H1 => ?_
 refine Zc (Za rfl rfl (Ze rfl) (Zd (Zb (H1 _ _ ?_))))
 refine Zf fun K2 H2 => ?_
 refine Zc (Za rfl rfl (Zg rfl) (Za rfl rfl (Yi (by rw [el22]; rfl) rfl) (Zl rfl rfl ?_)))
 refine Zig (cs := ics) (0 : Int) el22 sz3 by3 zr3 Qz (by decide) rfl rfl om om fun T W3 B o C3 => ?_
 have U := C3.size
 have E := E.trans C3
 obtain ⟨d, e, rfl, I, C⟩ := B.opn
 refine Za rfl rfl (Ze rfl) (Zd (Zb (H2 _ _ ?_)))
 refine Zf fun K4 H4 => ?_
 refine Zf fun K5 H5 => ?_
 refine Zc (Za rfl rfl (Ze rfl) (Zd (Zb (H5 _ _ ?_))))
 refine Zz ?_
 have p : Ol ics 3 1 W3 (.slice d ((List.replicate a.length (0 : Int))).length e) (a.take 0 ++ List.replicate (a.length - 0) (0 : Int)) := by
  have hx := B
  simpa using hx
 refine Xk (σ := Nat) (fun (k : Nat) => [(0, (.slice l a.length m)), (2, (.slice none 0 0)), (3, (.slice d ((List.replicate a.length (0 : Int))).length e)), (4, (.int .i64 ((k : Nat) : Int)))]) (fun (k : Nat) wx => Ch [] w wx ∧ W3.heap.size ≤ wx.heap.size ∧ (k ≤ a.length) ∧ Ol ics 3 1 wx (.slice d ((List.replicate a.length (0 : Int))).length e) (a.take k ++ List.replicate (a.length - k) (0 : Int))) (fun (k : Nat) => a.length - k) 0 (sC4 rfl rfl rfl rfl (Sub.nil _)) ⟨E, (Nat.le_refl _), om, p⟩ ?_
 rintro k R7 ⟨E, J, V, f⟩
 have q := E
 have D := q.size
 refine Zf fun K8 H8 => ?_
 refine Zf fun K9 H9 => ?_
 refine Zc (Za rfl rfl (Zg rfl) (Za rfl rfl (Zg rfl) (Za rfl rfl (Yi (by rw [el22]; rfl) rfl) (Za rfl rfl (Yv rfl rfl) (Zd (Zb (H9 _ _ ?_)))))))
 refine Zu rfl (fun b => ?_) (fun b => ?_)
 ·have x := b
  have b := Yh b
  refine Zt ?_
  refine Zb (H8 _ _ ?_)
  refine Zf fun X K => ?_
  refine Zz ?_
  refine Zc (Za rfl rfl (Zg rfl) (Za rfl rfl (Zg rfl) (Za rfl rfl (Zg rfl) (Za rfl rfl (Zg rfl) (Zl rfl rfl ?_)))))
  have L := c.ch0 q
  refine (Xo L Qz el22 sz3 rfl rfl rfl om fun M y r z => ?_)
  refine Za rfl rfl (Zbx z agg3 rfl rfl) (Zl rfl rfl ?_)
  refine Qw (j := k) f el22 sz3 rfl rfl rfl (by simp; omega) fun O P F A => ?_
  refine Zl rfl rfl ?_
  refine Zdj (j := k) y f A Qz sz3 rfl rfl rfl rfl (by simp; omega) fun Q s G => ?_
  have R := G.size
  have E := E.step G (fun i hi => .inl (by have Y := o _ hi; omega))
  refine Zd (Yr (Zb (K _ _ (Zc (Za rfl rfl (Zg rfl) (Za rfl rfl (Yq om rfl rfl) (Za rfl rfl (Ze rfl) (Zd ?_))))))))
  have g : Ol ics 3 1 Q (.slice d ((List.replicate a.length (0 : Int))).length e) (a.take (k + 1) ++ List.replicate (a.length - (k + 1)) (0 : Int)) := by
   have hx := s
   rwa [Zfm a (0 : Int) r] at hx
  exact Zb (Exists.intro (k + 1) ⟨⟨E, om, om, g⟩, sC4 rfl rfl rfl rfl (Sub.nil _), (by first | omega | (dsimp only; omega))⟩)
 have x := b
 have b := Yg b
 refine Xc (Zv (Zv (Ys ?_)))
 refine Zb (H4 _ _ ?_)
 refine Zf fun Z S => ?_
 refine Zc (Za rfl rfl (Zg rfl) (Za rfl rfl (Ze rfl) (Zd (Zb (S _ _ ?_)))))
 refine Zp ?_
 have t : Ol ics 3 1 R7 (.slice d ((List.replicate a.length (0 : Int))).length e) (a) := by
  have hx := f
  simpa [List.take_of_length_le (show a.length ≤ k by omega), show a.length - k = 0 by omega] using hx
 exact Zi [_] ⟨rfl, trivial⟩ ⟨t, Lo.down o om, E⟩

/-- laws.toGraph -/
theorem Zfz {w : World} {LL_aV C : Nat} {r : Value} {aV : List Int} (a : Ls ics 1 w LL_aV C r aV) {LL_aE D : Nat} {s : Value} {aE : List GEdge} (b : Ls GEdge.cs 4 w LL_aE D s aE) (hb : aV.length + aE.length ≤ 1048576) :
 Ctr Try.prog 9 #[(.agg #[r, s])] w (fun v w' => ∃ (o : Value) (p : Value), v = .agg #[o, p] ∧ Ol ics 3 1 w' o (aV) ∧ Lo w.heap.size o ∧ Ol GEdge.cs 129 4 w' p (aE) ∧ Lo w.heap.size p ∧ (∀ g ∈ bl o, g ∉ bl p) ∧ Ch [] w w') := by
 obtain ⟨t, u, z⟩ := a.val
 subst z
 have R := a.len
 have a := a.here (by decide)
 obtain ⟨x, y, A⟩ := b.val
 subst A
 have S := b.len
 have b := b.here (by decide)
 have E := Ch.refl [] w
 refine Zx (N := 13) (vs0 := [(.agg #[(.slice t aV.length u), (.slice x aE.length y)])]) Try.func9 rfl rfl rfl ?_
 refine Zf fun K1 H1 => ?_
 refine Zc (Zl rfl rfl ?_)
 refine Yw rfl fun V W2 J C2 ao => ?_
 have ap := C2.size
 have E := E.trans C2
 have aq := J.lt
 replace J : Blk W2 V 25 [(.slice t aV.length u), (.slice x aE.length y)] := J
 refine Zl rfl rfl ?_
 refine Yb zr36 fun T W3 K C3 au => ?_
 have av := C3.size
 have E := E.trans C3
 have aw := K.lt
 replace K : Blk W3 T 36 [(.slice none 0 0), (.slice none 0 0)] := K
 refine Zd (Zb (H1 _ _ ?_))
 refine Zf fun K4 H4 => ?_
 refine Zc (Zl rfl rfl ?_)
 refine Yb zr36 fun P W5 L C5 ax => ?_
 have ay := C5.size
 have E := E.trans C5
 have az := L.lt
 replace L : Blk W5 P 36 [(.slice none 0 0), (.slice none 0 0)] := L
 refine Zd (Zb (H4 _ _ ?_))
 refine Zf fun K6 H6 => ?_
 refine Zc (Za rfl rfl (Zh fa25_0 rfl) ?_)
 have F7 := (J.ch0 C3).ch0 C5
 refine Za rfl rfl (Zn F7.at_ agg22 rfl rfl) (Zl rfl rfl ?_)
 have F8 := ((a.ch0 C2).ch0 C3).ch0 C5
 refine Step.call (Zr (xs := [.tmp 5]) fk51 rfl) (Zhc F8 om) fun aA W9 M => ?_
 obtain ⟨M, k, C9⟩ := M
 have aB := C9.size
 have E := E.trans C9
 obtain ⟨i, j, rfl, X, f⟩ := M.opn
 refine Za rfl rfl (Zh fa36_0 rfl) (Zl rfl rfl ?_)
 have Y := L.ch0 C9
 refine Yp (off := 0) Y sz22 rfl rfl rfl rfl fun Z l B => ?_
 have aa := B.size
 have E := E.step B (lS om)
 replace l : Blk Z P 36 [(.slice i (aV).length j), (.slice none 0 0)] := l
 refine Zd (Zb (H6 _ _ ?_))
 refine Zf fun aC ab => ?_
 refine Zc (Za rfl rfl (Zh fa25_1 rfl) ?_)
 have ac := (F7.ch0 C9).ch B (nS om)
 refine Za rfl rfl (Zn ac.at_ agg23 rfl rfl) (Zl rfl rfl ?_)
 have ad := ((((b.ch0 C2).ch0 C3).ch0 C5).ch0 C9).ch B (oS om)
 refine Step.call (Zr (xs := [.tmp 9]) fk52 rfl) (Zfy ad om) fun ae aD q => ?_
 obtain ⟨q, h, F⟩ := q
 have af := F.size
 have E := E.trans F
 obtain ⟨c, d, rfl, U, e⟩ := q.opn
 refine Za rfl rfl (Zh fa36_1 rfl) (Zl rfl rfl ?_)
 have ag := l.ch0 F
 refine Yp (off := 1) ag sz34 rfl rfl rfl rfl fun ah m G => ?_
 have ai := G.size
 have E := E.step G (lS om)
 replace m : Blk ah P 36 [(.slice i (aV).length j), (.slice c (aE).length d)] := m
 refine Zd (Zb (ab _ _ ?_))
 refine Zf fun aF aj => ?_
 refine Zc (Za rfl rfl (Zj m.at_ agg36 sz36 rfl) (Zl rfl rfl ?_))
 have ak := ((((K.ch0 C5).ch0 C9).ch B (nS om)).ch0 F).ch G (nS om)
 refine Zo (off := 0) 2 ak sz36 rfl (us := [(.slice i (aV).length j), (.slice c (aE).length d)]) rfl rfl rfl rfl fun Q n O => ?_
 have al := O.size
 have E := E.step O (lS om)
 replace n : Blk Q T 36 [(.slice i (aV).length j), (.slice c (aE).length d)] := n
 refine Zd (Zb (aj _ _ ?_))
 refine Zp ?_
 have am := (((M.ch B (dS k f om)).ch0 F).ch G (dS k f om)).ch O (dS k f om)
 have H : Ol ics 3 1 Q (.slice i (aV).length j) (aV) := by
  have hx := am
  first | exact hx | simpa using hx
 have an := (q.ch G (dS h e om)).ch O (dS h e om)
 have I : Ol GEdge.cs 129 4 Q (.slice c (aE).length d) (aE) := by
  have hx := an
  first | exact hx | simpa using hx
 exact Zi [_] (Zq n rfl agg36 sz36 trivial) ⟨(.slice i (aV).length j), (.slice c (aE).length d), rfl, H, (Lo.down k om), I, (Lo.down h om), (fun g hm hg => by have aG := k _ hm; have aH := f _ hm; have aI := h _ hg; have aJ := e _ hg; omega), E⟩

/-- laws.toGraphS -/
theorem Zfv {w : World} {LL_sa O : Nat} {F : Value} {sa : List Gv} (r : Ls Gv.cs 2 w LL_sa O F sa) {LR_a BB_a : Nat} {a : List GD} (u : RdG w LR_a BB_a sa a) (hb : a.length + Xi a ≤ 1048576) :
 Ctr Try.prog 72 #[F] w (fun v w' => ∃ (aa : Value) (vs0 : List Gv), v = aa ∧ Ol Gv.cs 36 2 w' aa vs0 ∧ Lo w.heap.size aa ∧ OdG 3 129 w' w.heap.size w'.heap.size vs0 (a) ∧ SepH aa vs0 ∧ Ch [] w w') := by
 obtain ⟨G, H, J⟩ := r.val
 subst J
 have ao := r.len
 have r := r.here (by decide)
 have u := u.here
 have P := u.1
 have E := Ch.refl [] w
 refine Zx (N := 23) (vs0 := [(.slice G sa.length H)]) Try.func72 rfl rfl rfl ?_
 refine Zf fun K1 H1 => ?_
 refine Zc (Za rfl rfl (Ze rfl) (Zd (Zb (H1 _ _ ?_))))
 refine Zf fun K2 H2 => ?_
 refine Zc (Za rfl rfl (Zg rfl) (Za rfl rfl (Yi (by rw [el47]; rfl) rfl) (Zl rfl rfl ?_)))
 refine Zig (cs := Gv.cs) (⟨⟨none, 0, 0⟩, ⟨none, 0, 0⟩⟩ : Gv) el55 sz36 by36 zr36 Gv.len (by decide) rfl rfl om om fun aS W3 ap z C3 => ?_
 have aT := C3.size
 have E := E.trans C3
 obtain ⟨A, B, rfl, aw, y⟩ := ap.opn
 refine Za rfl rfl (Ze rfl) (Zd (Zb (H2 _ _ ?_)))
 refine Zf fun K4 H4 => ?_
 refine Zf fun K5 H5 => ?_
 refine Zc (Za rfl rfl (Ze rfl) (Zd (Zb (H5 _ _ ?_))))
 refine Zz ?_
 have Q : Ol Gv.cs 36 2 W3 (.slice A ((List.replicate sa.length (⟨⟨none, 0, 0⟩, ⟨none, 0, 0⟩⟩ : Gv))).length B) (([] : List Gv) ++ List.replicate (a.length - 0) (⟨⟨none, 0, 0⟩, ⟨none, 0, 0⟩⟩ : Gv)) := by
  have hx := ap
  simpa [P] using hx
 refine Xk (σ := Nat × List Gv) (fun ⟨k, vs⟩ => [(0, (.slice G sa.length H)), (2, (.slice none 0 0)), (3, (.slice A ((List.replicate sa.length (⟨⟨none, 0, 0⟩, ⟨none, 0, 0⟩⟩ : Gv))).length B)), (4, (.int .i64 ((k : Nat) : Int)))]) (fun ⟨k, vs⟩ wx => Ch [] w wx ∧ W3.heap.size ≤ wx.heap.size ∧ (k ≤ a.length) ∧ (vs.length = k) ∧ Ol Gv.cs 36 2 wx (.slice A ((List.replicate sa.length (⟨⟨none, 0, 0⟩, ⟨none, 0, 0⟩⟩ : Gv))).length B) (vs ++ List.replicate (a.length - k) (⟨⟨none, 0, 0⟩, ⟨none, 0, 0⟩⟩ : Gv)) ∧ OdG 3 129 wx W3.heap.size wx.heap.size vs (a.take k)) (fun ⟨k, vs⟩ => a.length - k) (0, ([] : List Gv)) (sC4 rfl rfl rfl rfl (Sub.nil _)) ⟨E, (Nat.le_refl _), om, rfl, Q, OdG.nil⟩ ?_
 rintro ⟨k, vs⟩ R7 ⟨E, ax, aU, hv, I, od⟩
 have K := E
 have aq := K.size
 refine Zf fun K8 H8 => ?_
 refine Zf fun K9 H9 => ?_
 refine Zc (Za rfl rfl (Zg rfl) (Za rfl rfl (Zg rfl) (Za rfl rfl (Yi (by rw [el47]; rfl) rfl) (Za rfl rfl (Yv rfl rfl) (Zd (Zb (H9 _ _ ?_)))))))
 refine Zu rfl (fun t => ?_) (fun t => ?_)
 ·have ae := t
  have t := Yh t
  refine Zt ?_
  refine Zb (H8 _ _ ?_)
  refine Zf fun aV ay => ?_
  refine Zz ?_
  refine Zc (Za rfl rfl (Zg rfl) (Za rfl rfl (Zg rfl) (Za rfl rfl (Zg rfl) (Za rfl rfl (Zg rfl) (Zl rfl rfl ?_)))))
  have az := r.ch0 K
  refine (Xo az Gv.len el47 sz25 rfl rfl rfl om fun aA af R ag => ?_)
  have aB := u.ch0 K
  obtain ⟨b, C, s, D⟩ := aB.get R
  obtain ⟨⟨ah, aC, ai⟩, ⟨aj, aD, ak⟩⟩ := af
  obtain rfl := s.eqn
  obtain rfl := D.eqn
  have aE := s.len
  have aF := D.len
  replace s : Ls ics 1 R7 LR_a w.heap.size (.slice ah b.V.length ai) b.V := s
  replace D : Ls GEdge.cs 4 R7 LR_a w.heap.size (.slice aj b.E.length ak) b.E := D
  refine Za rfl rfl (Zj ag agg25 sz25 rfl) (Zl rfl rfl ?_)
  refine Step.call (Zr (xs := [.tmp 19]) fk9 rfl) (Zfz s D (by have aW := Zcx C; omega)) fun aG aX al => ?_
  obtain ⟨ab, ac, rfl, f, d, h, e, c, ad⟩ := al
  have aH := ad.size
  have E := E.trans ad
  obtain ⟨l, m, rfl, S, n⟩ := f.opn
  obtain ⟨o, p, rfl, T, q⟩ := h.opn
  refine Zl rfl rfl ?_
  have au := I.ch0 ad
  refine Qw (j := k) au el55 sz36 rfl rfl rfl (by simp; omega) fun aI aJ av am => ?_
  refine Zl rfl rfl ?_
  refine Zdj (j := k) (⟨(⟨l, (b.V).length, m⟩ : Sv), (⟨o, (b.E).length, p⟩ : Sv)⟩ : Gv) au am Gv.len sz36 rfl rfl rfl rfl (by simp; omega) fun aK U X => ?_
  have aL := X.size
  have E := E.step X (fun i hi => .inl (by have M := z _ hi; omega))
  refine Zd (Yr (Zb (ay _ _ (Zc (Za rfl rfl (Zg rfl) (Za rfl rfl (Yq om rfl rfl) (Za rfl rfl (Ze rfl) (Zd ?_))))))))
  have L : Ol Gv.cs 36 2 aK (.slice A ((List.replicate sa.length (⟨⟨none, 0, 0⟩, ⟨none, 0, 0⟩⟩ : Gv))).length B) ((vs ++ [(⟨(⟨l, (b.V).length, m⟩ : Sv), (⟨o, (b.E).length, p⟩ : Sv)⟩ : Gv)]) ++ List.replicate (a.length - (k + 1)) (⟨⟨none, 0, 0⟩, ⟨none, 0, 0⟩⟩ : Gv)) := by
   have hx := U
   rwa [Zml hv om] at hx
  have aM := (od.ch0 ad).ch X (fun i hm => by have M := z _ hm; have an := y _ hm; omega)
  have aN := f.ch X (fun g hg hm => by have M := z _ hm; have an := y _ hm; have aO := d _ hg; have aP := n _ hg; omega)
  have aQ := h.ch X (fun g hg hm => by have M := z _ hm; have an := y _ hm; have aO := e _ hg; have aP := q _ hg; omega)
  exact Zb (Exists.intro ((k + 1), (vs ++ [(⟨(⟨l, (b.V).length, m⟩ : Sv), (⟨o, (b.E).length, p⟩ : Sv)⟩ : Gv)])) ⟨⟨E, om, om, (by simp [hv]), L, (by rw [Qv C]; exact OdG.snoc aM (x := b) aN aQ (Lo.down d om) (Lo.down e om) (fun g hg => by have M := n g hg; omega) (fun g hg => by have M := q g hg; omega) (fun g hm hg => by exact c _ hm hg) om om)⟩, sC4 rfl rfl rfl rfl (Sub.nil _), (by first | omega | (dsimp only; omega))⟩)
 have ae := t
 have t := Yg t
 refine Xc (Zv (Zv (Ys ?_)))
 refine Zb (H4 _ _ ?_)
 refine Zf fun aY aR => ?_
 refine Zc (Za rfl rfl (Zg rfl) (Za rfl rfl (Ze rfl) (Zd (Zb (aR _ _ ?_)))))
 refine Zp ?_
 have Y : Ol Gv.cs 36 2 R7 (.slice A ((List.replicate sa.length (⟨⟨none, 0, 0⟩, ⟨none, 0, 0⟩⟩ : Gv))).length B) vs := by
  have hx := I
  simpa [show a.length - k = 0 by omega, show sa.length - k = 0 by omega] using hx
 have Z : OdG 3 129 R7 w.heap.size R7.heap.size vs (a) := by
  have hx := od.up (lo' := w.heap.size) (hi' := R7.heap.size) om om
  rwa [List.take_of_length_le om] at hx
 exact Zi [_] ⟨rfl, trivial⟩ ⟨(.slice A ((List.replicate sa.length (⟨⟨none, 0, 0⟩, ⟨none, 0, 0⟩⟩ : Gv))).length B), vs, rfl, Y, (Lo.down z om), Z, (OdG.sepH od (fun g hm => by have M := z _ hm; have an := y _ hm; omega)), E⟩

/-- laws.toHistory -/
theorem Qk {w : World} (aF : Int) {LL_saG s : Nat} {j : Value} {saG : List Gv} (b : Ls Gv.cs 2 w LL_saG s j saG) {LR_aG BB_aG : Nat} {aG : List GD} (f : RdG w LR_aG BB_aG saG aG) (hb : aG.length + Xi aG ≤ 1048576) :
 Ctr Try.prog 22 #[(.agg #[(.int .i64 aF), j])] w (fun v w' => ∃ (q : Value) (k : List Gv), v = .agg #[.int .i64 aF, q] ∧ Ol Gv.cs 36 2 w' q k ∧ Lo w.heap.size q ∧ OdG 3 129 w' w.heap.size w'.heap.size k (aG) ∧ SepH q k ∧ Ch [] w w') := by
 obtain ⟨l, m, r⟩ := b.val
 subst r
 have G := b.len
 have b := b.here (by decide)
 have f := f.here
 have H := f.1
 have E := Ch.refl [] w
 refine Zx (N := 12) (vs0 := [(.agg #[(.int .i64 aF), (.slice l saG.length m)])]) Try.func22 rfl rfl rfl ?_
 refine Zf fun K1 H1 => ?_
 refine Zc (Zl rfl rfl ?_)
 refine Yw rfl fun L W2 A C2 ad => ?_
 have ae := C2.size
 have E := E.trans C2
 have af := A.lt
 replace A : Blk W2 L 49 [(.int .i64 aF), (.slice l saG.length m)] := A
 refine Zl rfl rfl ?_
 refine Yb zr57 fun J W3 B C3 ag => ?_
 have ah := C3.size
 have E := E.trans C3
 have ai := B.lt
 replace B : Blk W3 J 57 [(.int .i64 0), (.slice none 0 0)] := B
 refine Zd (Zb (H1 _ _ ?_))
 refine Zf fun K4 H4 => ?_
 refine Zc (Zl rfl rfl ?_)
 refine Yb zr57 fun I W5 C C5 aj => ?_
 have ak := C5.size
 have E := E.trans C5
 have al := C.lt
 replace C : Blk W5 I 57 [(.int .i64 0), (.slice none 0 0)] := C
 refine Zd (Zb (H4 _ _ ?_))
 refine Zf fun K6 H6 => ?_
 refine Zc (Za rfl rfl (Zh fa49_0 rfl) ?_)
 have F7 := (A.ch0 C3).ch0 C5
 refine Za rfl rfl (Zn F7.at_ agg3 rfl rfl) (Za rfl rfl (Zh fa57_0 rfl) (Zl rfl rfl ?_))
 refine Yp (off := 0) C sz3 rfl rfl rfl rfl fun W8 t C8 => ?_
 have am := C8.size
 have E := E.step C8 (lS om)
 replace t : Blk W8 I 57 [(.int .i64 aF), (.slice none 0 0)] := t
 refine Zd (Zb (H6 _ _ ?_))
 refine Zf fun an M => ?_
 refine Zc (Za rfl rfl (Zh fa49_1 rfl) ?_)
 have O := F7.ch C8 (nS om)
 refine Za rfl rfl (Zn O.at_ agg47 rfl rfl) (Zl rfl rfl ?_)
 have P := (((b.ch0 C2).ch0 C3).ch0 C5).ch C8 (oS om)
 have Q := (((f.ch0 C2).ch0 C3).ch0 C5).ch C8 (oS om)
 refine Step.call (Zr (xs := [.tmp 8]) fk72 rfl) (Zfv P Q om) fun ao ap R => ?_
 obtain ⟨S, a, rfl, h, c, n, g, D⟩ := R
 have T := D.size
 have E := E.trans D
 obtain ⟨d, e, rfl, K, i⟩ := h.opn
 refine Za rfl rfl (Zh fa57_1 rfl) (Zl rfl rfl ?_)
 have U := t.ch0 D
 refine Yp (off := 1) U sz55 rfl rfl rfl rfl fun V o u => ?_
 have X := u.size
 have E := E.step u (lS om)
 replace o : Blk V I 57 [(.int .i64 aF), (.slice d (a).length e)] := o
 refine Zd (Zb (M _ _ ?_))
 refine Zf fun aq Y => ?_
 refine Zc (Za rfl rfl (Zj o.at_ agg57 sz57 rfl) (Zl rfl rfl ?_))
 have Z := (((B.ch0 C5).ch C8 (nS om)).ch0 D).ch u (nS om)
 refine Zo (off := 0) 2 Z sz57 rfl (us := [(.int .i64 aF), (.slice d (a).length e)]) rfl rfl rfl rfl fun x p F => ?_
 have aa := F.size
 have E := E.step F (lS om)
 replace p : Blk x J 57 [(.int .i64 aF), (.slice d (a).length e)] := p
 refine Zd (Zb (Y _ _ ?_))
 refine Zp ?_
 have ab := (h.ch u (dS c i om)).ch F (dS c i om)
 have ac := (n.ch u (oS om)).ch F (oS om)
 have y : Ol Gv.cs 36 2 x (.slice d (a).length e) a := by
  have hx := ab
  exact hx
 have z : OdG 3 129 x w.heap.size x.heap.size a (aG) := by
  have hx := ac.up (lo' := w.heap.size) (hi' := x.heap.size) om om
  exact hx
 exact Zi [_] (Zq p rfl agg57 sz57 trivial) ⟨(.slice d (a).length e), a, (congrArg (fun zq => (Value.agg #[.int .i64 zq, (.slice d (a).length e)])) (by first | rfl | simp_all)), y, (Lo.down c om), z, g, E⟩

/-- spec.l1In -/
theorem Zae {w : World} (n : Int) (a : Int) (b : Int) :
 Ctr Try.prog 90 #[(.int .i64 n), (.int .i64 a), (.int .i64 b)] w (fun v w' => v = .bool (decide (a ≤ n ∧ n ≤ b)) ∧ Ch [] w w') := by
 have E := Ch.refl [] w
 refine Zx (N := 15) (vs0 := [(.int .i64 n), (.int .i64 a), (.int .i64 b)]) Try.func90 rfl rfl rfl ?_
 refine Zf fun K1 H1 => ?_
 refine Zc (Za rfl rfl (Ze rfl) (Zd (Zb (H1 _ _ ?_))))
 refine Zf fun K2 H2 => ?_
 refine Zc (Za rfl rfl (Zg rfl) (Za rfl rfl (Zg rfl) (Za rfl rfl (Zhz rfl rfl) (Za rfl rfl (Zg rfl) ?_))))
 refine Yz (d := 10) rfl (fun c => ?_) (fun c => ?_)
 ·have e := c
  have c := Yh c
  refine Za rfl rfl (Zg rfl) (Za rfl rfl (Zg rfl) (Za rfl rfl (Zjh rfl rfl) (Za rfl rfl (Yo rfl rfl) (Za rfl rfl (Ze rfl) (Zd (Zb (H2 _ _ ?_)))))))
  refine Zp ?_
  exact Zi [_] ⟨rfl, trivial⟩ ⟨congrArg Value.bool (by first | rfl | (rw [Bool.eq_iff_iff]; simp <;> omega) | (rw [Bool.eq_iff_iff]; simp_all; done) | simp_all), E⟩
 have e := c
 have c := Yg c
 refine Zm rfl rfl (Zm rfl rfl (Zm rfl rfl (Za rfl rfl (Yn rfl rfl) (Za rfl rfl (Ze rfl) (Zd (Zb (H2 _ _ ?_)))))))
 refine Zp ?_
 exact Zi [_] ⟨rfl, trivial⟩ ⟨congrArg Value.bool (by first | rfl | (rw [Bool.eq_iff_iff]; simp <;> omega) | (rw [Bool.eq_iff_iff]; simp_all; done) | simp_all), E⟩

/-- spec.l3Edge -/
theorem Zdt {w : World} {LL_gV r : Nat} {i : Value} {gV : List Int} (g : Ls ics 1 w LL_gV r i gV) {LL_gE s : Nat} {j : Value} {gE : List GEdge} (h : Ls GEdge.cs 4 w LL_gE s j gE) (e : GEdge) :
 Ctr Try.prog 122 #[(.agg #[i, j]), (.agg #[(.int .i64 e.id), (.int .i64 e.f), (.int .i64 e.t), (.int .i64 e.label)])] w (fun v w' => v = .bool (tt (Xq ((gV.length : Int) - 1) e)) ∧ Ch [] w w') := by
 obtain ⟨k, l, o⟩ := g.val
 subst o
 have H := g.len
 have g := g.here (by decide)
 obtain ⟨m, n, p⟩ := h.val
 subst p
 have I := h.len
 have h := h.here (by decide)
 have E := Ch.refl [] w
 refine Zx (N := 30) (vs0 := [(.agg #[(.slice k gV.length l), (.slice m gE.length n)]), (.agg #[(.int .i64 e.id), (.int .i64 e.f), (.int .i64 e.t), (.int .i64 e.label)])]) Try.func122 rfl rfl rfl ?_
 refine Zf fun K1 H1 => ?_
 refine Zc (Zl rfl rfl ?_)
 refine Yw rfl fun L W2 x C2 Y => ?_
 have Z := C2.size
 have E := E.trans C2
 have aa := x.lt
 replace x : Blk W2 L 36 [(.slice k gV.length l), (.slice m gE.length n)] := x
 refine Zl rfl rfl ?_
 refine Yw rfl fun M W3 u C3 ab => ?_
 have ac := C3.size
 have E := E.trans C3
 have ad := u.lt
 replace u : Blk W3 M 129 [(.int .i64 e.id), (.int .i64 e.f), (.int .i64 e.t), (.int .i64 e.label)] := u
 refine Za rfl rfl (Ze rfl) (Zd (Zb (H1 _ _ ?_)))
 refine Zf fun K4 H4 => ?_
 refine Zc (Za rfl rfl (Zh fa36_0 rfl) ?_)
 have F5 := x.ch0 C3
 refine Za rfl rfl (Zn F5.at_ agg22 rfl rfl) (Za rfl rfl (Yi (by rw [el22]; rfl) rfl) (Za rfl rfl (Zdb om rfl rfl) (Za rfl rfl (Ze rfl) (Zd (Zb (H4 _ _ ?_))))))
 refine Zf fun K6 H6 => ?_
 refine Zc (Za rfl rfl (Zh fa129_0 rfl) (Za rfl rfl (Zn u.at_ agg3 rfl rfl) (Zl rfl rfl ?_)))
 refine Step.call (Zr (xs := [.tmp 11, .const (Go.Value.int Go.IntKind.i64 1), .const (Go.Value.int Go.IntKind.i64 99)]) fk90 rfl) (Zae _ _ _ ) fun O W7 y => ?_
 obtain ⟨rfl, C7⟩ := y
 have ae := C7.size
 have E := E.trans C7
 refine Za rfl rfl (Zg rfl) ?_
 refine Yz (d := 13) rfl (fun a => ?_) (fun a => ?_)
 ·have P := a
  have a := Yh a
  refine Za rfl rfl (Zh fa129_1 rfl) ?_
  have F9 := u.ch0 C7
  refine Za rfl rfl (Zn F9.at_ agg3 rfl rfl) (Za rfl rfl (Zg rfl) (Zl rfl rfl ?_))
  refine Step.call (Zr (xs := [.tmp 15, .const (Go.Value.int Go.IntKind.i64 0), .tmp 16]) fk90 rfl) (Zae _ _ _ ) fun Q af z => ?_
  obtain ⟨rfl, A⟩ := z
  have R := A.size
  have E := E.trans A
  refine Za rfl rfl (Yo rfl rfl) (Za rfl rfl (Zg rfl) ?_)
  refine Yz (d := 19) rfl (fun b => ?_) (fun b => ?_)
  ·have B := b
   have b := Yh b
   refine Za rfl rfl (Zh fa129_2 rfl) ?_
   have J := F9.ch0 A
   refine Za rfl rfl (Zn J.at_ agg3 rfl rfl) (Za rfl rfl (Zg rfl) (Zl rfl rfl ?_))
   refine Step.call (Zr (xs := [.tmp 21, .const (Go.Value.int Go.IntKind.i64 0), .tmp 22]) fk90 rfl) (Zae _ _ _ ) fun S ag C => ?_
   obtain ⟨rfl, D⟩ := C
   have T := D.size
   have E := E.trans D
   refine Za rfl rfl (Yo rfl rfl) (Za rfl rfl (Zg rfl) ?_)
   refine Yz (d := 25) rfl (fun c => ?_) (fun c => ?_)
   ·have F := c
    have c := Yh c
    refine Za rfl rfl (Zh fa129_3 rfl) ?_
    have U := J.ch0 D
    refine Za rfl rfl (Zn U.at_ agg3 rfl rfl) (Zl rfl rfl ?_)
    refine Step.call (Zr (xs := [.tmp 27, .const (Go.Value.int Go.IntKind.i64 0), .const (Go.Value.int Go.IntKind.i64 2)]) fk90 rfl) (Zae _ _ _ ) fun V ah G => ?_
    obtain ⟨rfl, K⟩ := G
    have X := K.size
    have E := E.trans K
    refine Za rfl rfl (Yo rfl rfl) (Za rfl rfl (Ze rfl) (Zd (Zb (H6 _ _ ?_))))
    refine Zp ?_
    exact Zi [_] ⟨rfl, trivial⟩ ⟨congrArg Value.bool (by first | exact Zs (fun q => by unfold Xq at q; omega) | (rw [Zde]; exact Zfw ⟨fun q => by unfold Xq; omega, fun q => by unfold Xq at q; omega⟩)), E⟩
   have F := c
   have c := Yg c
   refine Zm rfl rfl (Zm rfl rfl (Zm rfl rfl (Za rfl rfl (Yn rfl rfl) (Za rfl rfl (Ze rfl) (Zd (Zb (H6 _ _ ?_)))))))
   refine Zp ?_
   exact Zi [_] ⟨rfl, trivial⟩ ⟨congrArg Value.bool (by first | exact Zs (fun q => by unfold Xq at q; omega) | (rw [Zde]; exact Zfw ⟨fun q => by unfold Xq; omega, fun q => by unfold Xq at q; omega⟩)), E⟩
  have B := b
  have b := Yg b
  refine Zm rfl rfl (Zm rfl rfl (Zm rfl rfl (Zm rfl rfl (Za rfl rfl (Yn rfl rfl) (Za rfl rfl (Zg rfl) (Zm rfl rfl (Zm rfl rfl ?_)))))))
  refine Zm rfl rfl (Za rfl rfl (Yn rfl rfl) (Za rfl rfl (Ze rfl) (Zd (Zb (H6 _ _ ?_)))))
  refine Zp ?_
  exact Zi [_] ⟨rfl, trivial⟩ ⟨congrArg Value.bool (by first | exact Zs (fun q => by unfold Xq at q; omega) | (rw [Zde]; exact Zfw ⟨fun q => by unfold Xq; omega, fun q => by unfold Xq at q; omega⟩)), E⟩
 have P := a
 have a := Yg a
 refine Zm rfl rfl (Zm rfl rfl (Zm rfl rfl (Zm rfl rfl (Za rfl rfl (Yn rfl rfl) (Za rfl rfl (Zg rfl) (Zm rfl rfl (Zm rfl rfl ?_)))))))
 refine Zm rfl rfl (Zm rfl rfl (Za rfl rfl (Yn rfl rfl) (Za rfl rfl (Zg rfl) (Zm rfl rfl (Zm rfl rfl (Zm rfl rfl (Za rfl rfl (Yn rfl rfl) ?_)))))))
 refine Za rfl rfl (Ze rfl) (Zd (Zb (H6 _ _ ?_)))
 refine Zp ?_
 exact Zi [_] ⟨rfl, trivial⟩ ⟨congrArg Value.bool (by first | exact Zs (fun q => by unfold Xq at q; omega) | (rw [Zde]; exact Zfw ⟨fun q => by unfold Xq; omega, fun q => by unfold Xq at q; omega⟩)), E⟩

/-- spec.IsValidGraph -/
theorem Zab {w : World} {LL_gV I : Nat} {A : Value} {gV : List Int} (g : Ls ics 1 w LL_gV I A gV) {LL_gE J : Nat} {B : Value} {gE : List GEdge} (l : Ls GEdge.cs 4 w LL_gE J B gE) :
 Ctr Try.prog 88 #[(.agg #[A, B])] w (fun v w' => v = .bool (tt (Qq gV gE)) ∧ Ch [] w w') := by
 obtain ⟨t, u, C⟩ := g.val
 subst C
 have aq := g.len
 have g := g.here (by decide)
 obtain ⟨x, y, D⟩ := l.val
 subst D
 have au := l.len
 have l := l.here (by decide)
 have E := Ch.refl [] w
 refine Zx (N := 64) (vs0 := [(.agg #[(.slice t gV.length u), (.slice x gE.length y)])]) Try.func88 rfl rfl rfl ?_
 refine Zf fun K1 H1 => ?_
 refine Zc (Zl rfl rfl ?_)
 refine Yw rfl fun K W2 Q C2 a3 => ?_
 have a4 := C2.size
 have E := E.trans C2
 have a5 := Q.lt
 replace Q : Blk W2 K 36 [(.slice t gV.length u), (.slice x gE.length y)] := Q
 refine Za rfl rfl (Ze rfl) (Zd (Zb (H1 _ _ ?_)))
 refine Zf fun K3 H3 => ?_
 refine Zf fun K4 H4 => ?_
 refine Zc (Za rfl rfl (Ze rfl) (Zd (Zb (H4 _ _ ?_))))
 refine Zz ?_
 refine Xk (σ := Nat) (fun (k : Nat) => [(1, (.pointer (some ⟨K, 0, none⟩))), (3, (.int .i64 ((k : Nat) : Int)))]) (fun (k : Nat) wx => Ch [] w wx ∧ W2.heap.size ≤ wx.heap.size ∧ (k ≤ gV.length) ∧ (Zia gV k) ∧ Blk wx K 36 [(.slice t gV.length u), (.slice x gE.length y)]) (fun (k : Nat) => gV.length - k) 0 (sC2 rfl rfl (Sub.nil _)) ⟨E, (Nat.le_refl _), om, (Zhr _), Q⟩ ?_
 rintro k R5 ⟨E, ay, a6, hv, m⟩
 have L := E
 have av := L.size
 have T := m.lt
 refine Zf fun K6 H6 => ?_
 refine Zf fun K7 H7 => ?_
 refine Zc (Za rfl rfl (Zg rfl) (Za rfl rfl (Zh fa36_0 rfl) (Za rfl rfl (Zn m.at_ agg22 rfl rfl) (Za rfl rfl (Yi (by rw [el22]; rfl) rfl) (Za rfl rfl (Yv rfl rfl) (Zd (Zb (H7 _ _ ?_))))))))
 refine Zu rfl (fun F => ?_) (fun F => ?_)
 ·have az := F
  have F := Yh F
  refine Zt ?_
  refine Zb (H6 _ _ ?_)
  refine Zf fun K9 H9 => ?_
  refine Zz ?_
  refine Zf fun a7 aA => ?_
  refine Zc (Za rfl rfl (Zh fa36_0 rfl) (Za rfl rfl (Zn m.at_ agg22 rfl rfl) (Za rfl rfl (Zg rfl) (Zl rfl rfl ?_))))
  have aB := g.ch0 L
  refine (Xo aB Qz el22 sz3 rfl rfl rfl om fun aC aD h U => ?_)
  refine Za rfl rfl (Zbx U agg3 rfl rfl) (Zl rfl rfl ?_)
  refine Step.call (Zr (xs := [.tmp 16, .const (Go.Value.int Go.IntKind.i64 0), .const (Go.Value.int Go.IntKind.i64 2)]) fk90 rfl) (Zae _ _ _ ) fun aE a8 V => ?_
  obtain ⟨rfl, X⟩ := V
  have aF := X.size
  have E := E.trans X
  refine Za rfl rfl (Xp rfl) (Zd (Zb (aA _ _ ?_)))
  refine Zu rfl (fun c => ?_) (fun c => ?_)
  ·have Y := c
   have c := Yg (Xv c)
   refine Zf fun a9 aG => ?_
   refine Zc (Za rfl rfl (Ze rfl) (Zd (Zb (aG _ _ ?_))))
   refine Zp (Zy (Zk (Zk (Zy (Zk ?_)))))
   clear H3 H9
   exact Zi [_] ⟨rfl, trivial⟩ ⟨congrArg Value.bool (by first | exact Zs (fun q => c (Zar q h)) | exact Zs (fun q => b (Zat q a)) | exact Zs (fun q => by have z := Qu q e f om; omega) | exact vg_y hv om hE om om | exact Zs (fun q => by have z := q.2.2.1; omega)), E⟩
  have Y := c
  have c := Yh (Xw c)
  refine Zt ?_
  refine Yr (Zb (H9 _ _ (Zc (Za rfl rfl (Zg rfl) (Za rfl rfl (Yq om rfl rfl) (Za rfl rfl (Ze rfl) (Zd ?_)))))))
  have aH := m.ch0 X
  exact Zb (Exists.intro (k + 1) ⟨⟨E, om, om, (Zhm hv h c), aH⟩, sC2 rfl rfl (Sub.nil _), (by first | omega | (dsimp only; omega))⟩)
 have az := F
 have F := Yg F
 refine Xc (Zv (Zv (Ys ?_)))
 refine Zb (H3 _ _ ?_)
 refine Zf fun ba Z => ?_
 refine Zf fun bb aI => ?_
 refine Zc (Za rfl rfl (Ze rfl) (Zd (Zb (aI _ _ ?_))))
 refine Zz ?_
 refine Xk (σ := Nat) (fun (q : Nat) => [(1, (.pointer (some ⟨K, 0, none⟩))), (4, (.int .i64 ((q : Nat) : Int)))]) (fun (q : Nat) wx => Ch [] w wx ∧ R5.heap.size ≤ wx.heap.size ∧ (q ≤ gE.length) ∧ (Zcn ((gV.length : Int) - 1) gE q) ∧ Blk wx K 36 [(.slice t gV.length u), (.slice x gE.length y)]) (fun (q : Nat) => gE.length - q) 0 (sC2 rfl rfl (Sub.nil _)) ⟨E, (Nat.le_refl _), om, (Zgk _ _), m⟩ ?_
 rintro q bc ⟨E, aJ, hq, hE, n⟩
 have G := E
 have aw := G.size
 have aa := n.lt
 refine Zf fun be ab => ?_
 refine Zf fun bf aK => ?_
 refine Zc (Za rfl rfl (Zg rfl) (Za rfl rfl (Zh fa36_1 rfl) (Za rfl rfl (Zn n.at_ agg34 rfl rfl) (Za rfl rfl (Yi (by rw [el34]; rfl) rfl) (Za rfl rfl (Yv rfl rfl) (Zd (Zb (aK _ _ ?_))))))))
 refine Zu rfl (fun o => ?_) (fun o => ?_)
 ·have ac := o
  have o := Yh o
  refine Zt ?_
  refine Zb (ab _ _ ?_)
  refine Zf fun bg R => ?_
  refine Zz ?_
  refine Zf fun bh ad => ?_
  refine Xd [] 28 mixed rfl fun aL M => ?_
  have aM := M.size
  have E := E.trans M
  have H := n.ch0 M
  refine dT 0 rfl rfl rfl (Yl H.at_ (fun i hi => absurd hi List.not_mem_nil) agg36 sz36 rfl ?_)
  refine dV 1 rfl rfl rfl (fun _ => Zh fa36_1 rfl) ?_
  refine dT 2 rfl rfl rfl (Ym H.at_ (fun i hi => absurd hi List.not_mem_nil) agg34 rfl rfl ?_)
  refine dV 3 rfl rfl rfl (fun _ => Zg rfl) ?_
  have S := (l.ch0 G).ch0 M
  refine dT 4 rfl rfl rfl (Xj S GEdge.len el34 sz129 rfl rfl rfl om fun aN ae a af => ?_)
  refine dT 5 rfl rfl rfl (Yl af (fun i hi => absurd hi List.not_mem_nil) agg129 sz129 rfl ?_)
  refine dO 6 (Yf rfl rfl rfl ?_)
  have aO := (g.ch0 G).ch0 M
  refine Step.call (Zr (xs := [.tmp 26, .tmp 31]) fk122 rfl) (Zdt aO S ae ) fun aP aQ ag => ?_
  obtain ⟨rfl, O⟩ := ag
  have aR := O.size
  have E := E.trans O
  have P : Ch [] aL aQ := ((Ch.refl _ _).trans O)
  refine ⟨P, ?_⟩
  refine dV 7 rfl rfl rfl (fun _ => Xp rfl) (dV 8 rfl rfl rfl (fun _ => Zg rfl) ?_)
  refine Zbc (d := 34) rfl (fun b => ?_) (fun b => ?_)
  ·have ah := b
   have b := bf_t (Xv b)
   refine dK 9 rfl rfl rfl (dK 10 rfl rfl rfl (dK 11 rfl rfl rfl (dK 12 rfl rfl rfl (dK 13 rfl rfl rfl (dK 14 rfl rfl rfl (dK 15 rfl rfl rfl (dK 16 rfl rfl rfl ?_)))))))
   refine dK 17 rfl rfl rfl (dK 18 rfl rfl rfl (dK 19 rfl rfl rfl (dK 20 rfl rfl rfl (dK 21 rfl rfl rfl (dK 22 rfl rfl rfl (dK 23 rfl rfl rfl (dK 24 rfl rfl rfl ?_)))))))
   refine dK 25 rfl rfl rfl (dK 26 rfl rfl rfl (dV 27 rfl rfl rfl (fun _ => Yo rfl rfl) ?_))
   refine Ye (by kernel_rfl) ?_
   refine Zb (ad _ _ ?_)
   refine Xy rfl ?_
   refine Zf fun bi aS => ?_
   refine Zc (Za rfl rfl (Ze rfl) (Zd (Zb (aS _ _ ?_))))
   refine Zp (Zy (Zk (Zk (Zy (Zk ?_)))))
   clear H6 Z R
   exact Zi [_] ⟨rfl, trivial⟩ ⟨congrArg Value.bool (by first | exact Zs (fun q => c (Zar q h)) | exact Zs (fun q => b (Zat q a)) | exact Zs (fun q => by have z := Qu q e f om; omega) | exact vg_y hv om hE om om | exact Zs (fun q => by have z := q.2.2.1; omega)), E⟩
  have ah := b
  have b := bt_t (Xw b)
  refine dV 9 rfl rfl rfl (fun _ => Zg rfl) (dV 10 rfl rfl rfl (fun _ => Zeo rfl rfl) (dV 11 rfl rfl rfl (fun _ => Zg rfl) ?_))
  refine Zbc (d := 37) rfl (fun p => ?_) (fun p => ?_)
  ·have ai := p
   have p := Yh p
   refine dV 12 rfl rfl rfl (fun _ => Zh fa36_1 rfl) ?_
   refine dT 13 rfl rfl rfl (Ym H.at_ (fun i hi => absurd hi List.not_mem_nil) agg34 rfl rfl ?_)
   refine dV 14 rfl rfl rfl (fun _ => Zg rfl) (dV 15 rfl rfl rfl (fun _ => Zdb om rfl rfl) ?_)
   refine dT 16 rfl rfl rfl (Xj (j := (((q : Nat) : Int) - 1).toNat) S GEdge.len el34 sz129 rfl rfl om om fun aT aU f aj => ?_)
   refine dV 17 rfl rfl rfl (fun _ => Zh fa129_0 rfl) ?_
   refine dT 18 rfl rfl rfl (Ym aj (fun i hi => absurd hi List.not_mem_nil) agg3 rfl rfl ?_)
   refine dV 19 rfl rfl rfl (fun _ => Zh fa36_1 rfl) ?_
   refine dT 20 rfl rfl rfl (Ym H.at_ (fun i hi => absurd hi List.not_mem_nil) agg34 rfl rfl ?_)
   refine dV 21 rfl rfl rfl (fun _ => Zg rfl) ?_
   refine dT 22 rfl rfl rfl (Xj S GEdge.len el34 sz129 rfl rfl rfl om fun aV aW e ak => ?_)
   refine dV 23 rfl rfl rfl (fun _ => Zh fa129_0 rfl) ?_
   refine dT 24 rfl rfl rfl (Ym ak (fun i hi => absurd hi List.not_mem_nil) agg3 rfl rfl ?_)
   refine dV 25 rfl rfl rfl (fun _ => Zhz rfl rfl) (dV 26 rfl rfl rfl (fun _ => Yo rfl rfl) (dV 27 rfl rfl rfl (fun _ => Yn rfl rfl) ?_))
   refine Ye (by kernel_rfl) ?_
   refine Zb (ad _ _ ?_)
   refine Zu rfl (fun r => ?_) (fun r => ?_)
   ·have al := r
    have r := Yh r
    refine Zf fun bj aX => ?_
    refine Zc (Za rfl rfl (Ze rfl) (Zd (Zb (aX _ _ ?_))))
    refine Zp (Zy (Zk (Zk (Zy (Zk ?_)))))
    clear H6 Z R
    exact Zi [_] ⟨rfl, trivial⟩ ⟨congrArg Value.bool (by first | exact Zs (fun q => c (Zar q h)) | exact Zs (fun q => b (Zat q a)) | exact Zs (fun q => by have z := Qu q e f om; omega) | exact vg_y hv om hE om om | exact Zs (fun q => by have z := q.2.2.1; omega)), E⟩
   have al := r
   have r := Yg r
   refine Zt ?_
   refine Yr (Zb (R _ _ (Zc (Za rfl rfl (Zg rfl) (Za rfl rfl (Yq om rfl rfl) (Za rfl rfl (Ze rfl) (Zd ?_)))))))
   have aY := H.ch0 O
   exact Zb (Exists.intro (q + 1) ⟨⟨E, om, om, (by first | exact Zcg hE a b om | (have am := Zce a e; exact Zch hE a b f om (by first | omega | (rw [am]; omega)))), aY⟩, sC2 rfl rfl (Sub.nil _), (by first | omega | (dsimp only; omega))⟩)
  have ai := p
  have p := Yg p
  refine dK 12 rfl rfl rfl (dK 13 rfl rfl rfl (dK 14 rfl rfl rfl (dK 15 rfl rfl rfl (dK 16 rfl rfl rfl (dK 17 rfl rfl rfl (dK 18 rfl rfl rfl (dK 19 rfl rfl rfl ?_)))))))
  refine dK 20 rfl rfl rfl (dK 21 rfl rfl rfl (dK 22 rfl rfl rfl (dK 23 rfl rfl rfl (dK 24 rfl rfl rfl (dK 25 rfl rfl rfl (dV 26 rfl rfl rfl (fun _ => Yn rfl rfl) (dV 27 rfl rfl rfl (fun _ => Yn rfl rfl) ?_)))))))
  refine Ye (by kernel_rfl) ?_
  refine Zb (ad _ _ ?_)
  refine Zdf rfl ?_
  refine Zt ?_
  refine Yr (Zb (R _ _ (Zc (Za rfl rfl (Zg rfl) (Za rfl rfl (Yq om rfl rfl) (Za rfl rfl (Ze rfl) (Zd ?_)))))))
  have aZ := H.ch0 O
  exact Zb (Exists.intro (q + 1) ⟨⟨E, om, om, (by first | exact Zcg hE a b om | (have am := Zce a e; exact Zch hE a b f om (by first | omega | (rw [am]; omega)))), aZ⟩, sC2 rfl rfl (Sub.nil _), (by first | omega | (dsimp only; omega))⟩)
 have ac := o
 have o := Yg o
 refine Xc (Zv (Zv (Ys ?_)))
 refine Zb (Z _ _ ?_)
 refine Zf fun bk ax => ?_
 refine Zc (Za rfl rfl (Zh fa36_0 rfl) (Za rfl rfl (Zn n.at_ agg22 rfl rfl) (Za rfl rfl (Yi (by rw [el22]; rfl) rfl) (Zl rfl rfl ?_))))
 refine Step.call (Zr (xs := [.tmp 56, .const (Go.Value.int Go.IntKind.i64 1), .const (Go.Value.int Go.IntKind.i64 5)]) fk90 rfl) (Zae _ _ _ ) fun a0 bm an => ?_
 obtain ⟨rfl, ao⟩ := an
 have a1 := ao.size
 have E := E.trans ao
 refine Za rfl rfl (Zg rfl) ?_
 refine Yz (d := 58) rfl (fun s => ?_) (fun s => ?_)
 ·have ap := s
  have s := Yh s
  refine Za rfl rfl (Zh fa36_1 rfl) ?_
  have a2 := n.ch0 ao
  refine Za rfl rfl (Zn a2.at_ agg34 rfl rfl) (Za rfl rfl (Yi (by rw [el34]; rfl) rfl) (Za rfl rfl (Zjh rfl rfl) (Za rfl rfl (Yo rfl rfl) (Za rfl rfl (Ze rfl) (Zd (Zb (ax _ _ ?_)))))))
  refine Zp ?_
  clear H6 ab
  exact Zi [_] ⟨rfl, trivial⟩ ⟨congrArg Value.bool (by first | exact Zs (fun q => c (Zar q h)) | exact Zs (fun q => b (Zat q a)) | exact Zs (fun q => by have z := Qu q e f om; omega) | exact vg_y hv om hE om om | exact Zs (fun q => by have z := q.2.2.1; omega)), E⟩
 have ap := s
 have s := Yg s
 refine Zm rfl rfl (Zm rfl rfl (Zm rfl rfl (Zm rfl rfl (Za rfl rfl (Yn rfl rfl) (Za rfl rfl (Ze rfl) (Zd (Zb (ax _ _ ?_))))))))
 refine Zp ?_
 clear H6 ab
 exact Zi [_] ⟨rfl, trivial⟩ ⟨congrArg Value.bool (by first | exact Zs (fun q => c (Zar q h)) | exact Zs (fun q => b (Zat q a)) | exact Zs (fun q => by have z := Qu q e f om; omega) | exact vg_y hv om hE om om | exact Zs (fun q => by have z := q.2.2.1; omega)), E⟩

/-- spec.l3Copy -/
theorem Xb {w : World} {LL_gV au : Nat} {M : Value} {gV : List Int} (s : Ls ics 1 w LL_gV au M gV) {LL_gE av : Nat} {O : Value} {gE : List GEdge} (t : Ls GEdge.cs 4 w LL_gE av O gE) (hb : gV.length ≤ 4194304 ∧ gE.length ≤ 4194304) :
 Ctr Try.prog 92 #[(.agg #[M, O])] w (fun v w' => ∃ (K : Value) (L : Value), v = .agg #[K, L] ∧ Ol ics 3 1 w' K (gV) ∧ Lo w.heap.size K ∧ Ol GEdge.cs 129 4 w' L (gE) ∧ Lo w.heap.size L ∧ (∀ g ∈ bl K, g ∉ bl L) ∧ Ch [] w w') := by
 obtain ⟨P, Q, ag⟩ := s.val
 subst ag
 have aY := s.len
 have s := s.here (by decide)
 obtain ⟨R, S, ah⟩ := t.val
 subst ah
 have aZ := t.len
 have t := t.here (by decide)
 have E := Ch.refl [] w
 refine Zx (N := 12) (vs0 := [(.agg #[(.slice P gV.length Q), (.slice R gE.length S)])]) Try.func92 rfl rfl rfl ?_
 refine Zf fun K1 H1 => ?_
 refine Zc (Zl rfl rfl ?_)
 refine Yw rfl fun a6 W2 aR C2 bN => ?_
 have bO := C2.size
 have E := E.trans C2
 have y := aR.lt
 replace aR : Blk W2 a6 36 [(.slice P gV.length Q), (.slice R gE.length S)] := aR
 refine Zl rfl rfl ?_
 refine Yb zr36 fun x W3 al C3 bP => ?_
 have bQ := C3.size
 have E := E.trans C3
 have bR := al.lt
 replace al : Blk W3 x 36 [(.slice none 0 0), (.slice none 0 0)] := al
 refine Zd (Zb (H1 _ _ ?_))
 refine Zf fun K4 H4 => ?_
 refine Xd [x] 10 mixed rfl fun W5 C5 => ?_
 have bS := C5.size
 have E := E.trans C5
 refine dV 1 rfl rfl rfl (fun _ => Zh fa36_0 rfl) ?_
 have F6 := (aR.ch0 C3).ch0 C5
 refine dT 2 rfl rfl rfl (Ym F6.at_ (oS om) agg22 rfl rfl ?_)
 refine dV 5 rfl rfl rfl (fun _ => Zh fa36_1 rfl) ?_
 refine dT 6 rfl rfl rfl (Ym F6.at_ (oS om) agg34 rfl rfl ?_)
 refine Zau 0 4 (by kernel_rfl) ?_ ?_
 ·refine Yf rfl rfl rfl ?_
  refine Yt (k := 1) ics el22 sz3 fun a7 W7 am d C7 => ?_
  have bT := C7.size
  have E := E.trans C7
  obtain ⟨aV, aW, rfl, aX, b⟩ := am.opn
  have ai : Ch [x] W5 W7 := ((Ch.refl _ _).trans C7.of_nil)
  refine ⟨ai, ?_⟩
  refine Zau 3 4 (by kernel_rfl) ?_ ?_
  ·refine Yf rfl rfl rfl ?_
   have a8 := (((s.ch0 C2).ch0 C3).ch0 C5).ch0 C7
   refine Yk (cs := ics) el22 sz3 by3 zr3 rfl (by decide) Zdh am a8 rfl rfl bd bd d om fun aw W9 B C u C9 => ?_
   have bU := C9.size
   have E := E.step C9 (fun i hi => .inl (by have o := d _ hi; omega))
   replace B : Ol ics 3 1 W9 aw gV := B
   obtain ⟨j, l, rfl, ax, m⟩ := B.opn
   have T : Ch [x] W5 W9 := (ai.step C9 (fun i hm => by left; have o := d _ hm; have p := b _ hm; omega))
   refine ⟨T, ?_⟩
   refine dO 4 (Yf rfl rfl rfl ?_)
   refine Yt (k := 4) GEdge.cs el34 sz129 fun a0 a9 U c an => ?_
   have ba := an.size
   have E := E.trans an
   obtain ⟨ay, az, rfl, aA, a⟩ := U.opn
   have V : Ch [x] W5 a9 := (T.trans an.of_nil)
   refine ⟨V, ?_⟩
   refine dO 7 (Yf rfl rfl rfl ?_)
   have bb := (((((t.ch0 C2).ch0 C3).ch0 C5).ch0 C7).ch C9 (fun i hi => by have o := d _ hi; omega)).ch0 an
   refine Yk (cs := GEdge.cs) el34 sz129 by129 zr129 rfl (by decide) GEdge.one U bb rfl rfl bd bd c om fun D a1 q z n aB => ?_
   have bc := aB.size
   have E := E.step aB (fun i hi => .inl (by have o := c _ hi; omega))
   replace q : Ol GEdge.cs 129 4 a1 D gE := q
   obtain ⟨e, f, rfl, X, h⟩ := q.opn
   have Y : Ch [x] W5 a1 := (V.step aB (fun i hm => by left; have o := c _ hm; have p := a _ hm; omega))
   refine ⟨Y, ?_⟩
   refine dV 8 rfl rfl rfl (fun _ => Zbq (parts := [(0, .tmp 6), (1, .tmp 10)]) (cells := [(.slice j (gV).length l), (.slice e (gE).length f)]) zr36 pl36 rfl rfl) (dO 9 (Yf rfl rfl rfl ?_))
   have be := ((((al.ch0 C5).ch0 C7).ch C9 (fun hm => by have o := d _ hm; have p := b _ hm; omega)).ch0 an).ch aB (fun hm => by have o := c _ hm; have p := a _ hm; omega)
   refine Zo (off := 0) 2 be sz36 rfl (us := [(.slice j (gV).length l), (.slice e (gE).length f)]) rfl rfl rfl rfl fun aS F aC => ?_
   have bf := aC.size
   have E := E.step aC (lS om)
   replace F : Blk aS x 36 [(.slice j (gV).length l), (.slice e (gE).length f)] := F
   have aD : Ch [x] W5 aS := (Y.step aC (fun i hm => by have G := List.mem_singleton.1 hm; exact .inr (by rw [G]; exact (List.mem_singleton.2 rfl))))
   refine ⟨aD, ?_⟩
   refine Ye (by kernel_rfl) ?_
   refine Zb (H4 _ _ ?_)
   refine Zp ?_
   have bg := ((B.ch0 an).ch aB (fun g hg hm => by rcases u with ea | ea; (rw [ea] at hg; have o := c _ hm; have p := a _ hm; have A := d _ hg; have J := b _ hg; omega); (have r := m _ hg; rw [ea] at hg; have y := List.mem_singleton.1 hg; have o := c _ hm; have p := a _ hm; omega))).ch aC (fun g hg hm => by have G := List.mem_singleton.1 hm; rcases u with ea | ea; (rw [ea] at hg; have p := d _ hg; have A := b _ hg; omega); (have r := m _ hg; rw [ea] at hg; have y := List.mem_singleton.1 hg; omega))
   have aE : Ol ics 3 1 aS (.slice j (gV).length l) (gV) := by
    have hx := bg
    first | exact hx | simpa using hx
   have bh := q.ch aC (fun g hg hm => by have G := List.mem_singleton.1 hm; rcases n with ea | ea; (rw [ea] at hg; have p := c _ hg; have A := a _ hg; omega); (have r := h _ hg; rw [ea] at hg; have y := List.mem_singleton.1 hg; omega))
   have aF : Ol GEdge.cs 129 4 aS (.slice e (gE).length f) (gE) := by
    have hx := bh
    first | exact hx | simpa using hx
   exact Zi [_] (Zq F rfl agg36 sz36 trivial) ⟨(.slice j (gV).length l), (.slice e (gE).length f), rfl, aE, (Lo.down C om), aF, (Lo.down z om), (fun g hm hg => by rcases u with ea | ea; (rw [ea] at hm; rcases n with ea | ea; (rw [ea] at hg; have o := d _ hm; have p := b _ hm; have A := c _ hg; have J := a _ hg; omega); (have r := h _ hg; rw [ea] at hg; have y := List.mem_singleton.1 hg; have o := d _ hm; have p := b _ hm; omega)); (have aG := m _ hm; rw [ea] at hm; have y := List.mem_singleton.1 hm; rcases n with ea | ea; (rw [ea] at hg; have A := c _ hg; have J := a _ hg; omega); (have r := h _ hg; rw [ea] at hg; have y := List.mem_singleton.1 hg; omega))), E⟩
  refine Yf rfl rfl rfl ?_
  refine Yt (k := 4) GEdge.cs el34 sz129 fun a0 bi U c aj => ?_
  have bj := aj.size
  have E := E.trans aj
  obtain ⟨ay, az, rfl, aA, a⟩ := U.opn
  have Z : Ch [x] W5 bi := (ai.trans aj.of_nil)
  refine ⟨Z, ?_⟩
  refine dO 3 (Yf rfl rfl rfl ?_)
  have bk := am.ch0 aj
  have bm := ((((s.ch0 C2).ch0 C3).ch0 C5).ch0 C7).ch0 aj
  refine Yk (cs := ics) el22 sz3 by3 zr3 rfl (by decide) Zdh bk bm rfl rfl bd bd d om fun aw a2 B C u ao => ?_
  have bn := ao.size
  have E := E.step ao (fun i hi => .inl (by have o := d _ hi; omega))
  replace B : Ol ics 3 1 a2 aw gV := B
  obtain ⟨j, l, rfl, ax, m⟩ := B.opn
  have aa : Ch [x] W5 a2 := (Z.step ao (fun i hm => by left; have o := d _ hm; have p := b _ hm; omega))
  refine ⟨aa, ?_⟩
  refine dO 7 (Yf rfl rfl rfl ?_)
  have bp := U.ch ao (fun g hg hm => by have o := d _ hm; have p := b _ hm; have A := c _ hg; have J := a _ hg; omega)
  have bq := (((((t.ch0 C2).ch0 C3).ch0 C5).ch0 C7).ch0 aj).ch ao (fun i hi => by have o := d _ hi; omega)
  refine Yk (cs := GEdge.cs) el34 sz129 by129 zr129 rfl (by decide) GEdge.one bp bq rfl rfl bd bd c om fun D a3 q z n aH => ?_
  have br := aH.size
  have E := E.step aH (fun i hi => .inl (by have o := c _ hi; omega))
  replace q : Ol GEdge.cs 129 4 a3 D gE := q
  obtain ⟨e, f, rfl, X, h⟩ := q.opn
  have ab : Ch [x] W5 a3 := (aa.step aH (fun i hm => by left; have o := c _ hm; have p := a _ hm; omega))
  refine ⟨ab, ?_⟩
  refine dV 8 rfl rfl rfl (fun _ => Zbq (parts := [(0, .tmp 6), (1, .tmp 10)]) (cells := [(.slice j (gV).length l), (.slice e (gE).length f)]) zr36 pl36 rfl rfl) (dO 9 (Yf rfl rfl rfl ?_))
  have bs := ((((al.ch0 C5).ch0 C7).ch0 aj).ch ao (fun hm => by have o := d _ hm; have p := b _ hm; omega)).ch aH (fun hm => by have o := c _ hm; have p := a _ hm; omega)
  refine Zo (off := 0) 2 bs sz36 rfl (us := [(.slice j (gV).length l), (.slice e (gE).length f)]) rfl rfl rfl rfl fun aT H aI => ?_
  have bu := aI.size
  have E := E.step aI (lS om)
  replace H : Blk aT x 36 [(.slice j (gV).length l), (.slice e (gE).length f)] := H
  have aJ : Ch [x] W5 aT := (ab.step aI (fun i hm => by have G := List.mem_singleton.1 hm; exact .inr (by rw [G]; exact (List.mem_singleton.2 rfl))))
  refine ⟨aJ, ?_⟩
  refine Ye (by kernel_rfl) ?_
  refine Zb (H4 _ _ ?_)
  refine Zp ?_
  have bv := (B.ch aH (fun g hg hm => by rcases u with ea | ea; (rw [ea] at hg; have o := c _ hm; have p := a _ hm; have A := d _ hg; have J := b _ hg; omega); (have r := m _ hg; rw [ea] at hg; have y := List.mem_singleton.1 hg; have o := c _ hm; have p := a _ hm; omega))).ch aI (fun g hg hm => by have G := List.mem_singleton.1 hm; rcases u with ea | ea; (rw [ea] at hg; have p := d _ hg; have A := b _ hg; omega); (have r := m _ hg; rw [ea] at hg; have y := List.mem_singleton.1 hg; omega))
  have aK : Ol ics 3 1 aT (.slice j (gV).length l) (gV) := by
   have hx := bv
   first | exact hx | simpa using hx
  have bw := q.ch aI (fun g hg hm => by have G := List.mem_singleton.1 hm; rcases n with ea | ea; (rw [ea] at hg; have p := c _ hg; have A := a _ hg; omega); (have r := h _ hg; rw [ea] at hg; have y := List.mem_singleton.1 hg; omega))
  have aL : Ol GEdge.cs 129 4 aT (.slice e (gE).length f) (gE) := by
   have hx := bw
   first | exact hx | simpa using hx
  exact Zi [_] (Zq H rfl agg36 sz36 trivial) ⟨(.slice j (gV).length l), (.slice e (gE).length f), rfl, aK, (Lo.down C om), aL, (Lo.down z om), (fun g hm hg => by rcases u with ea | ea; (rw [ea] at hm; rcases n with ea | ea; (rw [ea] at hg; have o := d _ hm; have p := b _ hm; have A := c _ hg; have J := a _ hg; omega); (have r := h _ hg; rw [ea] at hg; have y := List.mem_singleton.1 hg; have o := d _ hm; have p := b _ hm; omega)); (have aG := m _ hm; rw [ea] at hm; have y := List.mem_singleton.1 hm; rcases n with ea | ea; (rw [ea] at hg; have A := c _ hg; have J := a _ hg; omega); (have r := h _ hg; rw [ea] at hg; have y := List.mem_singleton.1 hg; omega))), E⟩
 refine Yf rfl rfl rfl ?_
 refine Yt (k := 4) GEdge.cs el34 sz129 fun a0 bz U c ap => ?_
 have bA := ap.size
 have E := E.trans ap
 obtain ⟨ay, az, rfl, aA, a⟩ := U.opn
 have ac : Ch [x] W5 bz := ((Ch.refl _ _).trans ap.of_nil)
 refine ⟨ac, ?_⟩
 refine dO 0 (Yf rfl rfl rfl ?_)
 refine Yt (k := 1) ics el22 sz3 fun a7 bB am d ak => ?_
 have bC := ak.size
 have E := E.trans ak
 obtain ⟨aV, aW, rfl, aX, b⟩ := am.opn
 have ad : Ch [x] W5 bB := (ac.trans ak.of_nil)
 refine ⟨ad, ?_⟩
 refine dO 3 (Yf rfl rfl rfl ?_)
 have bD := ((((s.ch0 C2).ch0 C3).ch0 C5).ch0 ap).ch0 ak
 refine Yk (cs := ics) el22 sz3 by3 zr3 rfl (by decide) Zdh am bD rfl rfl bd bd d om fun aw a4 B C u aq => ?_
 have bF := aq.size
 have E := E.step aq (fun i hi => .inl (by have o := d _ hi; omega))
 replace B : Ol ics 3 1 a4 aw gV := B
 obtain ⟨j, l, rfl, ax, m⟩ := B.opn
 have ae : Ch [x] W5 a4 := (ad.step aq (fun i hm => by left; have o := d _ hm; have p := b _ hm; omega))
 refine ⟨ae, ?_⟩
 refine dO 7 (Yf rfl rfl rfl ?_)
 have bG := (U.ch0 ak).ch aq (fun g hg hm => by have o := d _ hm; have p := b _ hm; have A := c _ hg; have J := a _ hg; omega)
 have bH := (((((t.ch0 C2).ch0 C3).ch0 C5).ch0 ap).ch0 ak).ch aq (fun i hi => by have o := d _ hi; omega)
 refine Yk (cs := GEdge.cs) el34 sz129 by129 zr129 rfl (by decide) GEdge.one bG bH rfl rfl bd bd c om fun D a5 q z n aM => ?_
 have bI := aM.size
 have E := E.step aM (fun i hi => .inl (by have o := c _ hi; omega))
 replace q : Ol GEdge.cs 129 4 a5 D gE := q
 obtain ⟨e, f, rfl, X, h⟩ := q.opn
 have af : Ch [x] W5 a5 := (ae.step aM (fun i hm => by left; have o := c _ hm; have p := a _ hm; omega))
 refine ⟨af, ?_⟩
 refine dV 8 rfl rfl rfl (fun _ => Zbq (parts := [(0, .tmp 6), (1, .tmp 10)]) (cells := [(.slice j (gV).length l), (.slice e (gE).length f)]) zr36 pl36 rfl rfl) (dO 9 (Yf rfl rfl rfl ?_))
 have bJ := ((((al.ch0 C5).ch0 ap).ch0 ak).ch aq (fun hm => by have o := d _ hm; have p := b _ hm; omega)).ch aM (fun hm => by have o := c _ hm; have p := a _ hm; omega)
 refine Zo (off := 0) 2 bJ sz36 rfl (us := [(.slice j (gV).length l), (.slice e (gE).length f)]) rfl rfl rfl rfl fun aU I aN => ?_
 have bK := aN.size
 have E := E.step aN (lS om)
 replace I : Blk aU x 36 [(.slice j (gV).length l), (.slice e (gE).length f)] := I
 have aO : Ch [x] W5 aU := (af.step aN (fun i hm => by have G := List.mem_singleton.1 hm; exact .inr (by rw [G]; exact (List.mem_singleton.2 rfl))))
 refine ⟨aO, ?_⟩
 refine Ye (by kernel_rfl) ?_
 refine Zb (H4 _ _ ?_)
 refine Zp ?_
 have bL := (B.ch aM (fun g hg hm => by rcases u with ea | ea; (rw [ea] at hg; have o := c _ hm; have p := a _ hm; have A := d _ hg; have J := b _ hg; omega); (have r := m _ hg; rw [ea] at hg; have y := List.mem_singleton.1 hg; have o := c _ hm; have p := a _ hm; omega))).ch aN (fun g hg hm => by have G := List.mem_singleton.1 hm; rcases u with ea | ea; (rw [ea] at hg; have p := d _ hg; have A := b _ hg; omega); (have r := m _ hg; rw [ea] at hg; have y := List.mem_singleton.1 hg; omega))
 have aP : Ol ics 3 1 aU (.slice j (gV).length l) (gV) := by
  have hx := bL
  first | exact hx | simpa using hx
 have bM := q.ch aN (fun g hg hm => by have G := List.mem_singleton.1 hm; rcases n with ea | ea; (rw [ea] at hg; have p := c _ hg; have A := a _ hg; omega); (have r := h _ hg; rw [ea] at hg; have y := List.mem_singleton.1 hg; omega))
 have aQ : Ol GEdge.cs 129 4 aU (.slice e (gE).length f) (gE) := by
  have hx := bM
  first | exact hx | simpa using hx
 exact Zi [_] (Zq I rfl agg36 sz36 trivial) ⟨(.slice j (gV).length l), (.slice e (gE).length f), rfl, aP, (Lo.down C om), aQ, (Lo.down z om), (fun g hm hg => by rcases u with ea | ea; (rw [ea] at hm; rcases n with ea | ea; (rw [ea] at hg; have o := d _ hm; have p := b _ hm; have A := c _ hg; have J := a _ hg; omega); (have r := h _ hg; rw [ea] at hg; have y := List.mem_singleton.1 hg; have o := d _ hm; have p := b _ hm; omega)); (have aG := m _ hm; rw [ea] at hm; have y := List.mem_singleton.1 hm; rcases n with ea | ea; (rw [ea] at hg; have A := c _ hg; have J := a _ hg; omega); (have r := h _ hg; rw [ea] at hg; have y := List.mem_singleton.1 hg; omega))), E⟩

/-- spec.EdgeIndex -/
theorem Zbb {w : World} {LL_gV q : Nat} {m : Value} {gV : List Int} (d : Ls ics 1 w LL_gV q m gV) {LL_gE r : Nat} {n : Value} {gE : List GEdge} (b : Ls GEdge.cs 4 w LL_gE r n gE) (id : Int) :
 Ctr Try.prog 99 #[(.agg #[m, n]), (.int .i64 id)] w (fun v w' => v = .int .i64 (eiR gE id) ∧ Ch [] w w') := by
 obtain ⟨g, h, o⟩ := d.val
 subst o
 have B := d.len
 have d := d.here (by decide)
 obtain ⟨i, j, p⟩ := b.val
 subst p
 have C := b.len
 have b := b.here (by decide)
 have E := Ch.refl [] w
 refine Zx (N := 22) (vs0 := [(.agg #[(.slice g gV.length h), (.slice i gE.length j)]), (.int .i64 id)]) Try.func99 rfl rfl rfl ?_
 refine Zf fun K1 H1 => ?_
 refine Zc (Zl rfl rfl ?_)
 refine Yw rfl fun x W2 u C2 O => ?_
 have P := C2.size
 have E := E.trans C2
 have Q := u.lt
 replace u : Blk W2 x 36 [(.slice g gV.length h), (.slice i gE.length j)] := u
 refine Za rfl rfl (Ze rfl) (Zd (Zb (H1 _ _ ?_)))
 refine Zf fun K3 H3 => ?_
 refine Zf fun K4 H4 => ?_
 refine Zc (Za rfl rfl (Ze rfl) (Zd (Zb (H4 _ _ ?_))))
 refine Zz ?_
 refine Xk (σ := Nat) (fun (k : Nat) => [(1, (.int .i64 id)), (2, (.pointer (some ⟨x, 0, none⟩))), (5, (.int .i64 ((k : Nat) : Int)))]) (fun (k : Nat) wx => Ch [] w wx ∧ W2.heap.size ≤ wx.heap.size ∧ (k ≤ gE.length) ∧ ((gE.take k).any (fun e : GEdge => decide (e.id = id)) = false) ∧ Blk wx x 36 [(.slice g gV.length h), (.slice i gE.length j)]) (fun (k : Nat) => gE.length - k) 0 (sC2 rfl rfl (sC1 rfl (Sub.nil _))) ⟨E, (Nat.le_refl _), om, (by simp), u⟩ ?_
 rintro k R5 ⟨E, F, R, s, f⟩
 have t := E
 have D := t.size
 have y := f.lt
 refine Zf fun K6 H6 => ?_
 refine Zf fun K7 H7 => ?_
 refine Zc (Za rfl rfl (Zg rfl) (Za rfl rfl (Zh fa36_1 rfl) (Za rfl rfl (Zn f.at_ agg34 rfl rfl) (Za rfl rfl (Yi (by rw [el34]; rfl) rfl) (Za rfl rfl (Yv rfl rfl) (Zd (Zb (H7 _ _ ?_))))))))
 refine Zu rfl (fun c => ?_) (fun c => ?_)
 ·have G := c
  have c := Yh c
  refine Zt ?_
  refine Zb (H6 _ _ ?_)
  refine Zf fun K9 H9 => ?_
  refine Zz ?_
  refine Zf fun S H => ?_
  refine Zc (Za rfl rfl (Zh fa36_1 rfl) (Za rfl rfl (Zn f.at_ agg34 rfl rfl) (Za rfl rfl (Zg rfl) (Zl rfl rfl ?_))))
  have I := b.ch0 t
  refine (Xo I GEdge.len el34 sz129 rfl rfl rfl om fun J K l z => ?_)
  refine Za rfl rfl (Zh fa129_0 rfl) (Za rfl rfl (Zn z agg3 rfl rfl) (Za rfl rfl (Zg rfl) (Za rfl rfl (Zff rfl rfl) (Zd (Zb (H _ _ ?_))))))
  refine Zu rfl (fun a => ?_) (fun a => ?_)
  ·have A := a
   have a := Yh a
   refine Zf fun T L => ?_
   refine Zc (Za rfl rfl (Zg rfl) (Za rfl rfl (Ze rfl) (Zd (Zb (L _ _ ?_)))))
   refine Zp (Zy (Zk (Zk (Zy (Zk ?_)))))
   clear H3 H9
   exact Zi [_] ⟨rfl, trivial⟩ ⟨congrArg (Value.int .i64) (by unfold eiR; first | exact Ziw s l (decide_eq_true a) | exact Zit s om), E⟩
  have A := a
  have a := Yg a
  refine Zt ?_
  refine Yr (Zb (H9 _ _ (Zc (Za rfl rfl (Zg rfl) (Za rfl rfl (Yq om rfl rfl) (Za rfl rfl (Ze rfl) (Zd ?_)))))))
  exact Zb (Exists.intro (k + 1) ⟨⟨E, om, om, (Zgz s l (decide_eq_false a)), f⟩, sC2 rfl rfl (sC1 rfl (Sub.nil _)), (by first | omega | (dsimp only; omega))⟩)
 have G := c
 have c := Yg c
 refine Xc (Zv (Zv (Ys ?_)))
 refine Zb (H3 _ _ ?_)
 refine Zf fun U M => ?_
 refine Zc (Za rfl rfl (Ze rfl) (Zd (Zb (M _ _ ?_))))
 refine Zp ?_
 exact Zi [_] ⟨rfl, trivial⟩ ⟨congrArg (Value.int .i64) (by unfold eiR; first | exact Ziw s l (decide_eq_true a) | exact Zit s om), E⟩

/-- spec.DeleteEdge -/
theorem Zef {w : World} {LL_gV aL : Nat} {ai : Value} {gV : List Int} (M : Ls ics 1 w LL_gV aL ai gV) {LL_gE aM : Nat} {aj : Value} {gE : List GEdge} (O : Ls GEdge.cs 4 w LL_gE aM aj gE) (n : Int) (hb : gV.length ≤ 4194304 ∧ gE.length ≤ 4194304) :
 Ctr Try.prog 125 #[(.agg #[ai, aj]), (.int .i64 n)] w (fun v w' => ∃ (aa : Value) (ab : Value), v = .tuple #[.agg #[aa, ab], .bool ((delR gV gE n).2)] ∧ Ol ics 3 1 w' aa (gV) ∧ Lo w.heap.size aa ∧ Ol GEdge.cs 129 4 w' ab ((delR gV gE n).1) ∧ Lo w.heap.size ab ∧ (∀ g ∈ bl aa, g ∉ bl ab) ∧ Ch [] w w') := by
 obtain ⟨ak, al, ax⟩ := M.val
 subst ax
 have bs := M.len
 have M := M.here (by decide)
 obtain ⟨am, an, ay⟩ := O.val
 subst ay
 have bu := O.len
 have O := O.here (by decide)
 have E := Ch.refl [] w
 refine Zx (N := 39) (vs0 := [(.agg #[(.slice ak gV.length al), (.slice am gE.length an)]), (.int .i64 n)]) Try.func125 rfl rfl rfl ?_
 refine Zf fun K1 H1 => ?_
 refine Zc (Zl rfl rfl ?_)
 refine Yw rfl fun bT W2 a0 C2 cS => ?_
 have cT := C2.size
 have E := E.trans C2
 have cU := a0.lt
 replace a0 : Blk W2 bT 36 [(.slice ak gV.length al), (.slice am gE.length an)] := a0
 refine Zl rfl rfl ?_
 refine Yb zr36 fun a1 W3 aE C3 cV => ?_
 have cW := C3.size
 have E := E.trans C3
 have cX := aE.lt
 replace aE : Blk W3 a1 36 [(.slice none 0 0), (.slice none 0 0)] := aE
 refine Za rfl rfl (Ze rfl) (Zd (Zb (H1 _ _ ?_)))
 refine Zf fun K4 H4 => ?_
 refine Zc ?_
 have F5 := a0.ch0 C3
 refine Za rfl rfl (Zj F5.at_ agg36 sz36 rfl) (Za rfl rfl (Zg rfl) (Zl rfl rfl ?_))
 have F6 := (M.ch0 C2).ch0 C3
 have F7 := (O.ch0 C2).ch0 C3
 refine Step.call (Zr (xs := [.tmp 8, .tmp 9]) fk99 rfl) (Zbb F6 F7 _ ) fun bU W8 bb => ?_
 obtain ⟨rfl, C8⟩ := bb
 have cY := C8.size
 have E := E.trans C8
 have bV := Zjl gE n
 refine Za rfl rfl (Ze rfl) (Zd (Zb (H4 _ _ ?_)))
 refine Zf fun K9 H9 => ?_
 refine Zf fun cZ bv => ?_
 refine Zc ?_
 have a2 := F5.ch0 C8
 refine Za rfl rfl (Zj a2.at_ agg36 sz36 rfl) (Zl rfl rfl ?_)
 have a3 := F6.ch0 C8
 have a4 := F7.ch0 C8
 refine Step.call (Zr (xs := [.tmp 11]) fk88 rfl) (Zab a3 a4 ) fun bW c0 bc => ?_
 obtain ⟨rfl, Q⟩ := bc
 have bX := Q.size
 have E := E.trans Q
 refine Za rfl rfl (Xp rfl) (Za rfl rfl (Zg rfl) ?_)
 refine Yz (d := 14) rfl (fun t => ?_) (fun t => ?_)
 ·have be := t
  have t := bf_t (Xv t)
  refine Zm rfl rfl (Zm rfl rfl (Za rfl rfl (Yo rfl rfl) (Zd (Zb (bv _ _ ?_)))))
  refine Xy rfl ?_
  refine Zf fun c1 bY => ?_
  refine Zc ?_
  have bZ := a2.ch0 Q
  refine Za rfl rfl (Zj bZ.at_ agg36 sz36 rfl) (Zl rfl rfl ?_)
  have b0 := a3.ch0 Q
  have b1 := a4.ch0 Q
  refine Step.call (Zr (xs := [.tmp 18]) fk92 rfl) (Xb b0 b1 om) fun bf c2 az => ?_
  obtain ⟨ac, ad, rfl, o, j, p, l, f, bg⟩ := az
  have b2 := bg.size
  have E := E.trans bg
  obtain ⟨a, b, rfl, S, x⟩ := o.opn
  obtain ⟨c, e, rfl, T, y⟩ := p.opn
  refine Zl rfl rfl ?_
  have b3 := ((aE.ch0 C8).ch0 Q).ch0 bg
  refine Zo (off := 0) 2 b3 sz36 rfl (us := [(.slice a (gV).length b), (.slice c (gE).length e)]) rfl rfl rfl rfl fun bh U a5 => ?_
  have b4 := a5.size
  have E := E.step a5 (lS om)
  replace U : Blk bh a1 36 [(.slice a (gV).length b), (.slice c (gE).length e)] := U
  refine Za rfl rfl (Ze rfl) (Zd (Zb (bY _ _ ?_)))
  refine Zp (Zk ?_)
  have b5 := o.ch a5 (dS j x om)
  have aN : Ol ics 3 1 bh (.slice a (gV).length b) (gV) := by
   have hx := b5
   first | exact hx | simpa using hx
  have b6 := p.ch a5 (dS l y om)
  have aO : Ol GEdge.cs 129 4 bh (.slice c (gE).length e) ((delR gV gE n).1) := by
   have hx := b6
   first | exact hx.eq (congrArg Prod.fst (Zbj (by first | exact fun q => t q.1 | exact fun q => absurd q.2 om))).symm | exact hx.eq (by rw [Zbu ⟨t, by omega⟩, show (eiR gE n + 1).toNat = (eiR gE n).toNat + 1 by omega])
  exact Zi [_, _] (Zq U rfl agg36 sz36 ⟨rfl, trivial⟩) ⟨(.slice a (gV).length b), (.slice c (gE).length e), (congrArg (fun zq => (Value.tuple #[.agg #[(.slice a (gV).length b), (.slice c (gE).length e)], .bool zq])) (by first | rw [Zbj (by first | exact fun q => t q.1 | exact fun q => absurd q.2 om)] | rw [Zbu ⟨t, by omega⟩])), aN, (Lo.down j om), aO, (Lo.down l om), (fun g hm hg => by exact f _ hm hg), E⟩
 have be := t
 have t := bt_t (Xw t)
 refine Za rfl rfl (Zg rfl) (Za rfl rfl (Yv rfl rfl) (Za rfl rfl (Yn rfl rfl) (Zd (Zb (bv _ _ ?_)))))
 refine Zu rfl (fun P => ?_) (fun P => ?_)
 ·have bi := P
  have P := Yh P
  refine Zf fun c3 b7 => ?_
  refine Zc ?_
  have b8 := a2.ch0 Q
  refine Za rfl rfl (Zj b8.at_ agg36 sz36 rfl) (Zl rfl rfl ?_)
  have b9 := a3.ch0 Q
  have ca := a4.ch0 Q
  refine Step.call (Zr (xs := [.tmp 18]) fk92 rfl) (Xb b9 ca om) fun bf c4 az => ?_
  obtain ⟨ac, ad, rfl, o, j, p, l, f, bj⟩ := az
  have cb := bj.size
  have E := E.trans bj
  obtain ⟨a, b, rfl, S, x⟩ := o.opn
  obtain ⟨c, e, rfl, T, y⟩ := p.opn
  refine Zl rfl rfl ?_
  have cc := ((aE.ch0 C8).ch0 Q).ch0 bj
  refine Zo (off := 0) 2 cc sz36 rfl (us := [(.slice a (gV).length b), (.slice c (gE).length e)]) rfl rfl rfl rfl fun bk V a6 => ?_
  have cd := a6.size
  have E := E.step a6 (lS om)
  replace V : Blk bk a1 36 [(.slice a (gV).length b), (.slice c (gE).length e)] := V
  refine Za rfl rfl (Ze rfl) (Zd (Zb (b7 _ _ ?_)))
  refine Zp (Zk ?_)
  have ce := o.ch a6 (dS j x om)
  have aP : Ol ics 3 1 bk (.slice a (gV).length b) (gV) := by
   have hx := ce
   first | exact hx | simpa using hx
  have cf := p.ch a6 (dS l y om)
  have aQ : Ol GEdge.cs 129 4 bk (.slice c (gE).length e) ((delR gV gE n).1) := by
   have hx := cf
   first | exact hx.eq (congrArg Prod.fst (Zbj (by first | exact fun q => t q.1 | exact fun q => absurd q.2 om))).symm | exact hx.eq (by rw [Zbu ⟨t, by omega⟩, show (eiR gE n + 1).toNat = (eiR gE n).toNat + 1 by omega])
  exact Zi [_, _] (Zq V rfl agg36 sz36 ⟨rfl, trivial⟩) ⟨(.slice a (gV).length b), (.slice c (gE).length e), (congrArg (fun zq => (Value.tuple #[.agg #[(.slice a (gV).length b), (.slice c (gE).length e)], .bool zq])) (by first | rw [Zbj (by first | exact fun q => t q.1 | exact fun q => absurd q.2 om)] | rw [Zbu ⟨t, by omega⟩])), aP, (Lo.down j om), aQ, (Lo.down l om), (fun g hm hg => by exact f _ hm hg), E⟩
 have bi := P
 have P := Yg P
 refine Zt ?_
 refine Zb (H9 _ _ ?_)
 refine Zf fun c5 cg => ?_
 refine Zc (Zl rfl rfl ?_)
 refine Yt (k := 1) ics el22 sz3 fun ci c6 aR s aF => ?_
 have cj := aF.size
 have E := E.trans aF
 obtain ⟨bw, bz, rfl, bA, r⟩ := aR.opn
 refine Za rfl rfl (Zh fa36_0 rfl) ?_
 have bB := (a2.ch0 Q).ch0 aF
 refine Za rfl rfl (Zn bB.at_ agg22 rfl rfl) (Zl rfl rfl ?_)
 have ck := (a3.ch0 Q).ch0 aF
 refine Yk (cs := ics) el22 sz3 by3 zr3 rfl (by decide) Zdh aR ck rfl rfl bd bd s om fun bm cl ae aS F aT => ?_
 have cm := aT.size
 have E := E.step aT (fun i hi => .inl (by have I := s _ hi; omega))
 replace ae : Ol ics 3 1 cl bm gV := ae
 obtain ⟨A, B, rfl, bC, z⟩ := ae.opn
 refine Za rfl rfl (Zbq (parts := [(0, .tmp 23)]) (cells := [(.slice A (gV).length B), (.slice none 0 0)]) zr36 pl36 rfl rfl) (Zl rfl rfl ?_)
 refine Yb zr36 fun ao cn a7 aG c7 => ?_
 have co := aG.size
 have E := E.trans aG
 have c8 := a7.lt
 replace a7 : Blk cn ao 36 [(.slice none 0 0), (.slice none 0 0)] := a7
 refine Zl rfl rfl ?_
 refine Zo (off := 0) 2 a7 sz36 rfl (us := [(.slice A (gV).length B), (.slice none 0 0)]) rfl rfl rfl rfl fun cp X aH => ?_
 have cq := aH.size
 have E := E.step aH (lS om)
 replace X : Blk cp ao 36 [(.slice A (gV).length B), (.slice none 0 0)] := X
 refine Zd (Zb (cg _ _ ?_))
 refine Zf fun c9 cr => ?_
 refine Xd [ao] 14 mixed rfl fun a8 aA => ?_
 have ct := aA.size
 have E := E.trans aA
 refine dV 1 rfl rfl rfl (fun _ => Zh fa36_1 rfl) ?_
 have bD := (((bB.ch aT (fun hm => by have I := s _ hm; have J := r _ hm; omega)).ch0 aG).ch aH (nS om)).ch0 aA
 refine dT 2 rfl rfl rfl (Ym bD.at_ (oS om) agg34 rfl rfl ?_)
 refine dV 3 rfl rfl rfl (fun _ => Zg rfl) ?_
 have bF := (((((a4.ch0 Q).ch0 aF).ch aT (fun i hi => by have I := s _ hi; omega)).ch0 aG).ch aH (oS om)).ch0 aA
 refine dT 4 rfl rfl rfl (Ziv (ys := (gE.take ((eiR gE n).toNat))) 0 ((eiR gE n).toNat) bF GEdge.len el34 sz129 rfl rfl ⟨_, _, rfl, by omega⟩ om om rfl fun cu aB bG bH => ?_)
 obtain ⟨cv, cw, bn⟩ := aB.val
 subst bn
 have cx := aB.len
 refine dV 6 rfl rfl rfl (fun _ => Zh fa36_1 rfl) ?_
 refine dT 7 rfl rfl rfl (Ym bD.at_ (oS om) agg34 rfl rfl ?_)
 refine dV 8 rfl rfl rfl (fun _ => Zg rfl) (dV 9 rfl rfl rfl (fun _ => Yq om rfl rfl) ?_)
 refine dT 10 rfl rfl rfl (Ziv (ys := (gE.drop ((eiR gE n + 1).toNat))) ((eiR gE n + 1).toNat) gE.length bF GEdge.len el34 sz129 rfl ⟨_, _, rfl, by omega⟩ rfl om om (Zcs _ _) fun cy aC bI bJ => ?_)
 obtain ⟨cz, cA, bp⟩ := aC.val
 subst bp
 have cB := aC.len
 refine dO 0 (Yf rfl rfl rfl ?_)
 refine Yt (k := 4) GEdge.cs el34 sz129 fun cC cD aU m ap => ?_
 have cE := ap.size
 have E := E.trans ap
 obtain ⟨bK, bL, rfl, bM, h⟩ := aU.opn
 have aq : Ch [ao] a8 cD := ((Ch.refl _ _).trans ap.of_nil)
 refine ⟨aq, ?_⟩
 refine dO 5 (Yf rfl rfl rfl ?_)
 have cF := aB.ch0 ap
 refine Yk (cs := GEdge.cs) el34 sz129 by129 zr129 rfl (by decide) GEdge.one aU cF rfl rfl bd bd m om fun bq bN af au D aD => ?_
 have cG := aD.size
 have E := E.step aD (fun i hi => .inl (by have I := m _ hi; omega))
 replace af : Ol GEdge.cs 129 4 bN bq (gE.take ((eiR gE n).toNat)) := af
 obtain ⟨bO, bP, rfl, bQ, u⟩ := af.opn
 have av : Ch [ao] a8 bN := (aq.step aD (fun i hm => by left; have I := m _ hm; have J := h _ hm; omega))
 refine ⟨av, ?_⟩
 refine dO 11 (Yf rfl rfl rfl ?_)
 have cH := (aC.ch0 ap).ch aD (fun i hi => by have I := m _ hi; omega)
 refine Yk (cs := GEdge.cs) el34 sz129 by129 zr129 rfl (by decide) GEdge.one af cH rfl rfl bd bd au om fun cI cJ aV aW R aI => ?_
 have cK := aI.size
 have E := E.step aI (fun i hi => .inl (by have I := au _ hi; omega))
 obtain ⟨G, H, rfl, bR, K⟩ := aV.opn
 have aw : Ch [ao] a8 cJ := (av.step aI (fun i hm => by rcases D with ea | ea; (rw [ea] at hm; left; have I := m _ hm; have J := h _ hm; omega); (have ag := u _ hm; rw [ea] at hm; have L := List.mem_singleton.1 hm; left; omega)))
 refine ⟨aw, ?_⟩
 refine dV 12 rfl rfl rfl (fun _ => Zh fa36_1 rfl) (dO 13 (Yf rfl rfl rfl ?_))
 have cL := (((X.ch0 aA).ch0 ap).ch aD (fun hm => by have I := m _ hm; have J := h _ hm; omega)).ch aI (fun hm => by rcases D with ea | ea; (rw [ea] at hm; have I := m _ hm; have J := h _ hm; omega); (have ag := u _ hm; rw [ea] at hm; have L := List.mem_singleton.1 hm; omega))
 refine Yp (off := 1) cL sz34 rfl rfl rfl rfl fun bS Y aJ => ?_
 have cM := aJ.size
 have E := E.step aJ (lS om)
 replace Y : Blk bS ao 36 [(.slice A (gV).length B), (.slice G (((gE.take ((eiR gE n).toNat)) ++ (gE.drop ((eiR gE n + 1).toNat)))).length H)] := Y
 have aX : Ch [ao] a8 bS := (aw.step aJ (fun i hm => by have aK := List.mem_singleton.1 hm; exact .inr (by rw [aK]; exact (List.mem_singleton.2 rfl))))
 refine ⟨aX, ?_⟩
 refine Ye (by kernel_rfl) ?_
 refine Zb (cr _ _ ?_)
 refine Zf fun da cN => ?_
 refine Zc (Za rfl rfl (Zj Y.at_ agg36 sz36 rfl) (Zl rfl rfl ?_))
 have cO := ((((((((((aE.ch0 C8).ch0 Q).ch0 aF).ch aT (fun hm => by have I := s _ hm; have J := r _ hm; omega)).ch0 aG).ch aH (nS om)).ch0 aA).ch0 ap).ch aD (fun hm => by have I := m _ hm; have J := h _ hm; omega)).ch aI (fun hm => by rcases D with ea | ea; (rw [ea] at hm; have I := m _ hm; have J := h _ hm; omega); (have ag := u _ hm; rw [ea] at hm; have L := List.mem_singleton.1 hm; omega))).ch aJ (nS om)
 refine Zo (off := 0) 2 cO sz36 rfl (us := [(.slice A (gV).length B), (.slice G (((gE.take ((eiR gE n).toNat)) ++ (gE.drop ((eiR gE n + 1).toNat)))).length H)]) rfl rfl rfl rfl fun br Z a9 => ?_
 have cP := a9.size
 have E := E.step a9 (lS om)
 replace Z : Blk br a1 36 [(.slice A (gV).length B), (.slice G (((gE.take ((eiR gE n).toNat)) ++ (gE.drop ((eiR gE n + 1).toNat)))).length H)] := Z
 refine Za rfl rfl (Ze rfl) (Zd (Zb (cN _ _ ?_)))
 refine Zp ?_
 have cQ := (((((((ae.ch0 aG).ch aH (fun g hg hm => by have aK := List.mem_singleton.1 hm; rcases F with ea | ea; (rw [ea] at hg; have J := s _ hg; have ah := r _ hg; omega); (have C := z _ hg; rw [ea] at hg; have L := List.mem_singleton.1 hg; omega))).ch0 aA).ch0 ap).ch aD (fun g hg hm => by rcases F with ea | ea; (rw [ea] at hg; have I := m _ hm; have J := h _ hm; have ah := s _ hg; have ba := r _ hg; omega); (have C := z _ hg; rw [ea] at hg; have L := List.mem_singleton.1 hg; have I := m _ hm; have J := h _ hm; omega))).ch aI (fun g hg hm => by rcases D with ea | ea; (rw [ea] at hm; rcases F with ea | ea; (rw [ea] at hg; have I := m _ hm; have J := h _ hm; have ah := s _ hg; have ba := r _ hg; omega); (have C := z _ hg; rw [ea] at hg; have L := List.mem_singleton.1 hg; have I := m _ hm; have J := h _ hm; omega)); (have ag := u _ hm; rw [ea] at hm; have L := List.mem_singleton.1 hm; rcases F with ea | ea; (rw [ea] at hg; have ah := s _ hg; have ba := r _ hg; omega); (have C := z _ hg; rw [ea] at hg; have L := List.mem_singleton.1 hg; omega)))).ch aJ (fun g hg hm => by have aK := List.mem_singleton.1 hm; rcases F with ea | ea; (rw [ea] at hg; have J := s _ hg; have ah := r _ hg; omega); (have C := z _ hg; rw [ea] at hg; have L := List.mem_singleton.1 hg; omega))).ch a9 (fun g hg hm => by have aK := List.mem_singleton.1 hm; rcases F with ea | ea; (rw [ea] at hg; have J := s _ hg; have ah := r _ hg; omega); (have C := z _ hg; rw [ea] at hg; have L := List.mem_singleton.1 hg; omega))
 have aY : Ol ics 3 1 br (.slice A (gV).length B) (gV) := by
  have hx := cQ
  first | exact hx | simpa using hx
 have cR := (aV.ch aJ (fun g hg hm => by have aK := List.mem_singleton.1 hm; rcases R with ea | ea; (rw [ea] at hg; rcases D with ea | ea; (rw [ea] at hg; have J := m _ hg; have ah := h _ hg; omega); (have C := u _ hg; rw [ea] at hg; have L := List.mem_singleton.1 hg; omega)); (have C := K _ hg; rw [ea] at hg; have L := List.mem_singleton.1 hg; omega))).ch a9 (fun g hg hm => by have aK := List.mem_singleton.1 hm; rcases R with ea | ea; (rw [ea] at hg; rcases D with ea | ea; (rw [ea] at hg; have J := m _ hg; have ah := h _ hg; omega); (have C := u _ hg; rw [ea] at hg; have L := List.mem_singleton.1 hg; omega)); (have C := K _ hg; rw [ea] at hg; have L := List.mem_singleton.1 hg; omega))
 have aZ : Ol GEdge.cs 129 4 br (.slice G (((gE.take ((eiR gE n).toNat)) ++ (gE.drop ((eiR gE n + 1).toNat)))).length H) ((delR gV gE n).1) := by
  have hx := cR
  first | exact hx.eq (congrArg Prod.fst (Zbj (by first | exact fun q => t q.1 | exact fun q => absurd q.2 om))).symm | exact hx.eq (by rw [Zbu ⟨t, by omega⟩, show (eiR gE n + 1).toNat = (eiR gE n).toNat + 1 by omega])
 exact Zi [_, _] (Zq Z rfl agg36 sz36 ⟨rfl, trivial⟩) ⟨(.slice A (gV).length B), (.slice G (((gE.take ((eiR gE n).toNat)) ++ (gE.drop ((eiR gE n + 1).toNat)))).length H), (congrArg (fun zq => (Value.tuple #[.agg #[(.slice A (gV).length B), (.slice G (((gE.take ((eiR gE n).toNat)) ++ (gE.drop ((eiR gE n + 1).toNat)))).length H)], .bool zq])) (by first | rw [Zbj (by first | exact fun q => t q.1 | exact fun q => absurd q.2 om)] | rw [Zbu ⟨t, by omega⟩])), aY, (Lo.down aS om), aZ, (Lo.down aW om), (fun g hm hg => by rcases F with ea | ea; (rw [ea] at hm; rcases R with ea | ea; (rw [ea] at hg; rcases D with ea | ea; (rw [ea] at hg; have I := s _ hm; have J := r _ hm; have ah := m _ hg; have ba := h _ hg; omega); (have C := u _ hg; rw [ea] at hg; have L := List.mem_singleton.1 hg; have I := s _ hm; have J := r _ hm; omega)); (have C := K _ hg; rw [ea] at hg; have L := List.mem_singleton.1 hg; have I := s _ hm; have J := r _ hm; omega)); (have ag := z _ hm; rw [ea] at hm; have L := List.mem_singleton.1 hm; rcases R with ea | ea; (rw [ea] at hg; rcases D with ea | ea; (rw [ea] at hg; have ah := m _ hg; have ba := h _ hg; omega); (have C := u _ hg; rw [ea] at hg; have L := List.mem_singleton.1 hg; omega)); (have C := K _ hg; rw [ea] at hg; have L := List.mem_singleton.1 hg; omega))), E⟩

/-- spec.InsertEdge -/
theorem Zec {w : World} {LL_gV du : Nat} {cR : Value} {gV : List Int} (aK : Ls ics 1 w LL_gV du cR gV) {LL_gE dv : Nat} {cS : Value} {gE : List GEdge} (aL : Ls GEdge.cs 4 w LL_gE dv cS gE) (e : GEdge) (hb : gV.length ≤ 4194304 ∧ gE.length ≤ 4194304) :
 Ctr Try.prog 124 #[(.agg #[cR, cS]), (.agg #[(.int .i64 e.id), (.int .i64 e.f), (.int .i64 e.t), (.int .i64 e.label)])] w (fun v w' => ∃ (cH : Value) (cI : Value), v = .tuple #[.agg #[cH, cI], .bool ((Qr gV gE e).2)] ∧ Ol ics 3 1 w' cH (gV) ∧ Lo w.heap.size cH ∧ Ol GEdge.cs 129 4 w' cI ((Qr gV gE e).1) ∧ Lo w.heap.size cI ∧ (∀ g ∈ bl cH, g ∉ bl cI) ∧ Ch [] w w') := by
 obtain ⟨bF, bG, cX⟩ := aK.val
 subst cX
 have gf := aK.len
 have aK := aK.here (by decide)
 obtain ⟨bH, bI, cY⟩ := aL.val
 subst cY
 have gg := aL.len
 have aL := aL.here (by decide)
 have E := Ch.refl [] w
 refine Zx (N := 71) (vs0 := [(.agg #[(.slice bF gV.length bG), (.slice bH gE.length bI)]), (.agg #[(.int .i64 e.id), (.int .i64 e.f), (.int .i64 e.t), (.int .i64 e.label)])]) Try.func124 rfl rfl rfl ?_
 refine Zf fun K1 H1 => ?_
 refine Zc (Zl rfl rfl ?_)
 refine Yw rfl fun ei W2 d9 C2 iw => ?_
 have ix := C2.size
 have E := E.trans C2
 have iy := d9.lt
 replace d9 : Blk W2 ei 36 [(.slice bF gV.length bG), (.slice bH gE.length bI)] := d9
 refine Zl rfl rfl ?_
 refine Yw rfl fun ej W3 eb C3 iz => ?_
 have iA := C3.size
 have E := E.trans C3
 have iB := eb.lt
 replace eb : Blk W3 ej 129 [(.int .i64 e.id), (.int .i64 e.f), (.int .i64 e.t), (.int .i64 e.label)] := eb
 refine Zl rfl rfl ?_
 refine Yb zr36 fun bM W4 cT C4 iC => ?_
 have iD := C4.size
 have E := E.trans C4
 have iE := cT.lt
 replace cT : Blk W4 bM 36 [(.slice none 0 0), (.slice none 0 0)] := cT
 refine Za rfl rfl (Ze rfl) (Zd (Zb (H1 _ _ ?_)))
 refine Zf fun K5 H5 => ?_
 refine Zf fun K6 H6 => ?_
 refine Zc ?_
 have F7 := (d9.ch0 C3).ch0 C4
 refine Za rfl rfl (Zj F7.at_ agg36 sz36 rfl) (Zl rfl rfl ?_)
 have F8 := ((aK.ch0 C2).ch0 C3).ch0 C4
 have F9 := ((aL.ch0 C2).ch0 C3).ch0 C4
 refine Step.call (Zr (xs := [.tmp 8]) fk88 rfl) (Zab F8 F9 ) fun iF iG g9 => ?_
 obtain ⟨rfl, bJ⟩ := g9
 have ha := bJ.size
 have E := E.trans bJ
 refine Za rfl rfl (Xp rfl) (Za rfl rfl (Zg rfl) ?_)
 refine Yz (d := 11) rfl (fun M => ?_) (fun M => ?_)
 ·have ek := M
  have M := bf_t (Xv M)
  refine Zm rfl rfl (Zm rfl rfl (Zm rfl rfl (Zm rfl rfl (Za rfl rfl (Yo rfl rfl) (Za rfl rfl (Zg rfl) (Zm rfl rfl (Zm rfl rfl ?_)))))))
  refine Zm rfl rfl (Zm rfl rfl (Zm rfl rfl (Za rfl rfl (Yo rfl rfl) (Za rfl rfl (Zg rfl) (Zm rfl rfl (Zm rfl rfl (Zm rfl rfl ?_)))))))
  refine Zm rfl rfl (Za rfl rfl (Yo rfl rfl) (Zd (Zb (H6 _ _ ?_))))
  refine Xy rfl ?_
  refine Zf fun iH hc => ?_
  refine Zc ?_
  have hd := F7.ch0 bJ
  refine Za rfl rfl (Zj hd.at_ agg36 sz36 rfl) (Zl rfl rfl ?_)
  have he := F8.ch0 bJ
  have hf := F9.ch0 bJ
  refine Step.call (Zr (xs := [.tmp 30]) fk92 rfl) (Xb he hf om) fun cZ iI a8 => ?_
  obtain ⟨aD, aE, rfl, O, K, P, L, D, el⟩ := a8
  have hh := el.size
  have E := E.trans el
  obtain ⟨z, A, rfl, au, U⟩ := O.opn
  obtain ⟨B, C, rfl, av, V⟩ := P.opn
  refine Zl rfl rfl ?_
  have hj := (cT.ch0 bJ).ch0 el
  refine Zo (off := 0) 2 hj sz36 rfl (us := [(.slice z (gV).length A), (.slice B (gE).length C)]) rfl rfl rfl rfl fun em b0 ec => ?_
  have hk := ec.size
  have E := E.step ec (lS om)
  replace b0 : Blk em bM 36 [(.slice z (gV).length A), (.slice B (gE).length C)] := b0
  refine Za rfl rfl (Ze rfl) (Zd (Zb (hc _ _ ?_)))
  refine Zp (Zk ?_)
  have hl := O.ch ec (dS K U om)
  have dw : Ol ics 3 1 em (.slice z (gV).length A) (gV) := by
   have hx := hl
   first | exact hx | simpa using hx
  have hn := P.ch ec (dS L V om)
  have dx : Ol GEdge.cs 129 4 em (.slice B (gE).length C) ((Qr gV gE e).1) := by
   have hx := hn
   first | exact hx.eq (by rw [Xn (by first | exact fun q => M q.1 | exact fun q => Q q.2.1 | exact fun q => absurd q.2.2.1 om | exact fun q => q.2.2.2 om)]) | exact hx.eq (by rw [Xl ⟨M, Q, by omega, by omega⟩]; unfold insL; rw [(show insK gE e.id = k from (by first | exact Qe hp ae ad | exact Zag hp om om))])
  exact Zi [_, _] (Zq b0 rfl agg36 sz36 ⟨rfl, trivial⟩) ⟨(.slice z (gV).length A), (.slice B (gE).length C), (congrArg (fun zq => (Value.tuple #[.agg #[(.slice z (gV).length A), (.slice B (gE).length C)], .bool zq])) (by first | rw [Xn (by first | exact fun q => M q.1 | exact fun q => Q q.2.1 | exact fun q => absurd q.2.2.1 om | exact fun q => q.2.2.2 om)] | rw [Xl ⟨M, Q, by omega, by omega⟩])), dw, (Lo.down K om), dx, (Lo.down L om), (fun g hm hg => by exact D _ hm hg), E⟩
 have ek := M
 have M := bt_t (Xw M)
 have en := F7.ch0 bJ
 refine Za rfl rfl (Zj en.at_ agg36 sz36 rfl) ?_
 have gh := (eb.ch0 C4).ch0 bJ
 refine Za rfl rfl (Zj gh.at_ agg129 sz129 rfl) (Zl rfl rfl ?_)
 have eo := F8.ch0 bJ
 have ep := F9.ch0 bJ
 refine Step.call (Zr (xs := [.tmp 12, .tmp 13]) fk122 rfl) (Zdt eo ep e ) fun ho iJ er => ?_
 obtain ⟨rfl, bN⟩ := er
 have hq := bN.size
 have E := E.trans bN
 refine Za rfl rfl (Xp rfl) (Za rfl rfl (Yn rfl rfl) (Za rfl rfl (Zg rfl) ?_))
 refine Yz (d := 17) rfl (fun Q => ?_) (fun Q => ?_)
 ·have es := Q
  have Q := bf_t (Xv Q)
  refine Zm rfl rfl (Zm rfl rfl (Zm rfl rfl (Zm rfl rfl (Zm rfl rfl (Za rfl rfl (Yo rfl rfl) (Za rfl rfl (Zg rfl) (Zm rfl rfl ?_)))))))
  refine Zm rfl rfl (Zm rfl rfl (Zm rfl rfl (Za rfl rfl (Yo rfl rfl) (Zd (Zb (H6 _ _ ?_))))))
  refine Xy rfl ?_
  refine Zf fun iK hr => ?_
  refine Zc ?_
  have hs := en.ch0 bN
  refine Za rfl rfl (Zj hs.at_ agg36 sz36 rfl) (Zl rfl rfl ?_)
  have ht := eo.ch0 bN
  have hu := ep.ch0 bN
  refine Step.call (Zr (xs := [.tmp 30]) fk92 rfl) (Xb ht hu om) fun cZ iL a8 => ?_
  obtain ⟨aD, aE, rfl, O, K, P, L, D, et⟩ := a8
  have hv := et.size
  have E := E.trans et
  obtain ⟨z, A, rfl, au, U⟩ := O.opn
  obtain ⟨B, C, rfl, av, V⟩ := P.opn
  refine Zl rfl rfl ?_
  have hw := ((cT.ch0 bJ).ch0 bN).ch0 et
  refine Zo (off := 0) 2 hw sz36 rfl (us := [(.slice z (gV).length A), (.slice B (gE).length C)]) rfl rfl rfl rfl fun eu b1 ed => ?_
  have hy := ed.size
  have E := E.step ed (lS om)
  replace b1 : Blk eu bM 36 [(.slice z (gV).length A), (.slice B (gE).length C)] := b1
  refine Za rfl rfl (Ze rfl) (Zd (Zb (hr _ _ ?_)))
  refine Zp (Zk ?_)
  have hz := O.ch ed (dS K U om)
  have dy : Ol ics 3 1 eu (.slice z (gV).length A) (gV) := by
   have hx := hz
   first | exact hx | simpa using hx
  have hA := P.ch ed (dS L V om)
  have dz : Ol GEdge.cs 129 4 eu (.slice B (gE).length C) ((Qr gV gE e).1) := by
   have hx := hA
   first | exact hx.eq (by rw [Xn (by first | exact fun q => M q.1 | exact fun q => Q q.2.1 | exact fun q => absurd q.2.2.1 om | exact fun q => q.2.2.2 om)]) | exact hx.eq (by rw [Xl ⟨M, Q, by omega, by omega⟩]; unfold insL; rw [(show insK gE e.id = k from (by first | exact Qe hp ae ad | exact Zag hp om om))])
  exact Zi [_, _] (Zq b1 rfl agg36 sz36 ⟨rfl, trivial⟩) ⟨(.slice z (gV).length A), (.slice B (gE).length C), (congrArg (fun zq => (Value.tuple #[.agg #[(.slice z (gV).length A), (.slice B (gE).length C)], .bool zq])) (by first | rw [Xn (by first | exact fun q => M q.1 | exact fun q => Q q.2.1 | exact fun q => absurd q.2.2.1 om | exact fun q => q.2.2.2 om)] | rw [Xl ⟨M, Q, by omega, by omega⟩])), dy, (Lo.down K om), dz, (Lo.down L om), (fun g hm hg => by exact D _ hm hg), E⟩
 have es := Q
 have Q := bt_t (Xw Q)
 have ew := en.ch0 bN
 refine Za rfl rfl (Zj ew.at_ agg36 sz36 rfl) (Za rfl rfl (Zh fa129_0 rfl) ?_)
 have gi := gh.ch0 bN
 refine Za rfl rfl (Zn gi.at_ agg3 rfl rfl) (Zl rfl rfl ?_)
 have ee := eo.ch0 bN
 have ef := ep.ch0 bN
 refine Step.call (Zr (xs := [.tmp 18, .tmp 20]) fk99 rfl) (Zbb ee ef _ ) fun hB hC ex => ?_
 obtain ⟨rfl, bK⟩ := ex
 have hD := bK.size
 have E := E.trans bK
 refine Za rfl rfl (Zhz rfl rfl) (Za rfl rfl (Yn rfl rfl) (Za rfl rfl (Zg rfl) ?_))
 refine Yz (d := 24) rfl (fun a9 => ?_) (fun a9 => ?_)
 ·have ey := a9
  have a9 := Yh a9
  refine Zm rfl rfl (Zm rfl rfl (Zm rfl rfl (Zm rfl rfl (Za rfl rfl (Yo rfl rfl) (Zd (Zb (H6 _ _ ?_)))))))
  refine Xy rfl ?_
  refine Zf fun iM hE => ?_
  refine Zc ?_
  have hF := ew.ch0 bK
  refine Za rfl rfl (Zj hF.at_ agg36 sz36 rfl) (Zl rfl rfl ?_)
  have hG := ee.ch0 bK
  have hH := ef.ch0 bK
  refine Step.call (Zr (xs := [.tmp 30]) fk92 rfl) (Xb hG hH om) fun cZ iN a8 => ?_
  obtain ⟨aD, aE, rfl, O, K, P, L, D, ez⟩ := a8
  have hI := ez.size
  have E := E.trans ez
  obtain ⟨z, A, rfl, au, U⟩ := O.opn
  obtain ⟨B, C, rfl, av, V⟩ := P.opn
  refine Zl rfl rfl ?_
  have hJ := (((cT.ch0 bJ).ch0 bN).ch0 bK).ch0 ez
  refine Zo (off := 0) 2 hJ sz36 rfl (us := [(.slice z (gV).length A), (.slice B (gE).length C)]) rfl rfl rfl rfl fun eA b2 eg => ?_
  have hK := eg.size
  have E := E.step eg (lS om)
  replace b2 : Blk eA bM 36 [(.slice z (gV).length A), (.slice B (gE).length C)] := b2
  refine Za rfl rfl (Ze rfl) (Zd (Zb (hE _ _ ?_)))
  refine Zp (Zk ?_)
  have hL := O.ch eg (dS K U om)
  have dA : Ol ics 3 1 eA (.slice z (gV).length A) (gV) := by
   have hx := hL
   first | exact hx | simpa using hx
  have hM := P.ch eg (dS L V om)
  have dB : Ol GEdge.cs 129 4 eA (.slice B (gE).length C) ((Qr gV gE e).1) := by
   have hx := hM
   first | exact hx.eq (by rw [Xn (by first | exact fun q => M q.1 | exact fun q => Q q.2.1 | exact fun q => absurd q.2.2.1 om | exact fun q => q.2.2.2 om)]) | exact hx.eq (by rw [Xl ⟨M, Q, by omega, by omega⟩]; unfold insL; rw [(show insK gE e.id = k from (by first | exact Qe hp ae ad | exact Zag hp om om))])
  exact Zi [_, _] (Zq b2 rfl agg36 sz36 ⟨rfl, trivial⟩) ⟨(.slice z (gV).length A), (.slice B (gE).length C), (congrArg (fun zq => (Value.tuple #[.agg #[(.slice z (gV).length A), (.slice B (gE).length C)], .bool zq])) (by first | rw [Xn (by first | exact fun q => M q.1 | exact fun q => Q q.2.1 | exact fun q => absurd q.2.2.1 om | exact fun q => q.2.2.2 om)] | rw [Xl ⟨M, Q, by omega, by omega⟩])), dA, (Lo.down K om), dB, (Lo.down L om), (fun g hm hg => by exact D _ hm hg), E⟩
 have ey := a9
 have a9 := Yg a9
 refine Za rfl rfl (Zh fa36_1 rfl) ?_
 have eB := ew.ch0 bK
 refine Za rfl rfl (Zn eB.at_ agg34 rfl rfl) (Za rfl rfl (Yi (by rw [el34]; rfl) rfl) (Za rfl rfl (Zff rfl rfl) (Za rfl rfl (Yn rfl rfl) (Zd (Zb (H6 _ _ ?_))))))
 refine Zu rfl (fun ba => ?_) (fun ba => ?_)
 ·have eC := ba
  have ba := Yh ba
  refine Zf fun iO hN => ?_
  refine Zc (Za rfl rfl (Zj eB.at_ agg36 sz36 rfl) (Zl rfl rfl ?_))
  have hO := ee.ch0 bK
  have hP := ef.ch0 bK
  refine Step.call (Zr (xs := [.tmp 30]) fk92 rfl) (Xb hO hP om) fun cZ iP a8 => ?_
  obtain ⟨aD, aE, rfl, O, K, P, L, D, eD⟩ := a8
  have hQ := eD.size
  have E := E.trans eD
  obtain ⟨z, A, rfl, au, U⟩ := O.opn
  obtain ⟨B, C, rfl, av, V⟩ := P.opn
  refine Zl rfl rfl ?_
  have hR := (((cT.ch0 bJ).ch0 bN).ch0 bK).ch0 eD
  refine Zo (off := 0) 2 hR sz36 rfl (us := [(.slice z (gV).length A), (.slice B (gE).length C)]) rfl rfl rfl rfl fun eE b3 eh => ?_
  have hS := eh.size
  have E := E.step eh (lS om)
  replace b3 : Blk eE bM 36 [(.slice z (gV).length A), (.slice B (gE).length C)] := b3
  refine Za rfl rfl (Ze rfl) (Zd (Zb (hN _ _ ?_)))
  refine Zp (Zk ?_)
  have hT := O.ch eh (dS K U om)
  have dC : Ol ics 3 1 eE (.slice z (gV).length A) (gV) := by
   have hx := hT
   first | exact hx | simpa using hx
  have hU := P.ch eh (dS L V om)
  have dD : Ol GEdge.cs 129 4 eE (.slice B (gE).length C) ((Qr gV gE e).1) := by
   have hx := hU
   first | exact hx.eq (by rw [Xn (by first | exact fun q => M q.1 | exact fun q => Q q.2.1 | exact fun q => absurd q.2.2.1 om | exact fun q => q.2.2.2 om)]) | exact hx.eq (by rw [Xl ⟨M, Q, by omega, by omega⟩]; unfold insL; rw [(show insK gE e.id = k from (by first | exact Qe hp ae ad | exact Zag hp om om))])
  exact Zi [_, _] (Zq b3 rfl agg36 sz36 ⟨rfl, trivial⟩) ⟨(.slice z (gV).length A), (.slice B (gE).length C), (congrArg (fun zq => (Value.tuple #[.agg #[(.slice z (gV).length A), (.slice B (gE).length C)], .bool zq])) (by first | rw [Xn (by first | exact fun q => M q.1 | exact fun q => Q q.2.1 | exact fun q => absurd q.2.2.1 om | exact fun q => q.2.2.2 om)] | rw [Xl ⟨M, Q, by omega, by omega⟩])), dC, (Lo.down K om), dD, (Lo.down L om), (fun g hm hg => by exact D _ hm hg), E⟩
 have eC := ba
 have ba := Yg ba
 refine Zt ?_
 refine Zb (H5 _ _ ?_)
 refine Zf fun iQ hV => ?_
 refine Zc (Za rfl rfl (Ze rfl) (Zd (Zb (hV _ _ ?_))))
 refine Zf fun iR gj => ?_
 refine Zz ?_
 have hW := ee.ch0 bK
 have hX := ef.ch0 bK
 have hY := gi.ch0 bK
 have hZ := ((cT.ch0 bJ).ch0 bN).ch0 bK
 refine Xk (σ := Nat) (fun (k : Nat) => [(2, (.pointer (some ⟨ei, 0, none⟩))), (3, (.pointer (some ⟨ej, 0, none⟩))), (4, (.pointer (some ⟨bM, 0, none⟩))), (5, (.bool false)), (6, (.int .i64 ((k : Nat) : Int)))]) (fun (k : Nat) wx => Ch [] w wx ∧ hC.heap.size ≤ wx.heap.size ∧ (k ≤ gE.length) ∧ (InsP gE e.id k) ∧ Blk wx ei 36 [(.slice bF gV.length bG), (.slice bH gE.length bI)] ∧ Ls ics 1 wx LL_gV w.heap.size (.slice bF gV.length bG) gV ∧ Ls GEdge.cs 4 wx LL_gE w.heap.size (.slice bH gE.length bI) gE ∧ Blk wx ej 129 [(.int .i64 e.id), (.int .i64 e.f), (.int .i64 e.t), (.int .i64 e.label)] ∧ Blk wx bM 36 [(.slice none 0 0), (.slice none 0 0)]) (fun (k : Nat) => gE.length - k) 0 (sC4 rfl rfl rfl rfl (sC1 rfl (Sub.nil _))) ⟨E, (Nat.le_refl _), om, (Zil), eB, hW, hX, hY, hZ⟩ ?_
 rintro k iS ⟨E, h0, iT, hp, cU, b4, cV, b5, aq⟩
 have eF := E
 have gk := eF.size
 have eG := cU.lt
 have eH := b5.lt
 have eI := aq.lt
 refine Zf fun iU h1 => ?_
 refine Zf fun iV gl => ?_
 refine Xd [] 16 mixed rfl fun iW aM => ?_
 have h2 := aM.size
 have E := E.trans aM
 refine dV 0 rfl rfl rfl (fun _ => Zg rfl) (dV 1 rfl rfl rfl (fun _ => Zh fa36_1 rfl) ?_)
 have dE := cU.ch0 aM
 refine dT 2 rfl rfl rfl (Ym dE.at_ (fun i hi => absurd hi List.not_mem_nil) agg34 rfl rfl ?_)
 refine dV 3 rfl rfl rfl (fun _ => Yi (by rw [el34]; rfl) rfl) (dV 4 rfl rfl rfl (fun _ => Yv rfl rfl) (dV 5 rfl rfl rfl (fun _ => Zg rfl) ?_))
 refine Zbc (d := 37) rfl (fun bb => ?_) (fun bb => ?_)
 ·have eJ := bb
  have bb := Yh bb
  refine dV 6 rfl rfl rfl (fun _ => Zh fa36_1 rfl) ?_
  refine dT 7 rfl rfl rfl (Ym dE.at_ (fun i hi => absurd hi List.not_mem_nil) agg34 rfl rfl ?_)
  refine dV 8 rfl rfl rfl (fun _ => Zg rfl) ?_
  have eK := cV.ch0 aM
  refine dT 9 rfl rfl rfl (Xj eK GEdge.len el34 sz129 rfl rfl rfl om fun h3 h4 ae eL => ?_)
  refine dV 10 rfl rfl rfl (fun _ => Zh fa129_0 rfl) ?_
  refine dT 11 rfl rfl rfl (Ym eL (fun i hi => absurd hi List.not_mem_nil) agg3 rfl rfl ?_)
  refine dV 12 rfl rfl rfl (fun _ => Zh fa129_0 rfl) ?_
  have eM := b5.ch0 aM
  refine dT 13 rfl rfl rfl (Ym eM.at_ (fun i hi => absurd hi List.not_mem_nil) agg3 rfl rfl ?_)
  refine dV 14 rfl rfl rfl (fun _ => Yv rfl rfl) (dV 15 rfl rfl rfl (fun _ => Yo rfl rfl) ?_)
  refine Ye (by kernel_rfl) ?_
  refine Zb (gl _ _ ?_)
  refine Zu rfl (fun ad => ?_) (fun ad => ?_)
  ·have eN := ad
   have ad := Yh ad
   refine Zt ?_
   refine Zb (h1 _ _ ?_)
   refine Zz ?_
   refine Zc (Za rfl rfl (Zg rfl) (Za rfl rfl (Yq om rfl rfl) (Za rfl rfl (Ze rfl) (Zd (Yr ?_)))))
   have h5 := b4.ch0 aM
   have h6 := aq.ch0 aM
   exact Zb (Exists.intro (k + 1) ⟨⟨E, om, om, (Zio hp ae ad), dE, h5, eK, eM, h6⟩, sC4 rfl rfl rfl rfl (sC1 rfl (Sub.nil _)), (by first | omega | (dsimp only; omega))⟩)
  have eN := ad
  have ad := Yg ad
  refine Xc (Zv (Zv (Ys ?_)))
  refine Zb (gj _ _ ?_)
  refine Zf fun iX h7 => ?_
  refine Zc (Zl rfl rfl ?_)
  refine Yt (k := 1) ics el22 sz3 fun eO iY b6 j cJ => ?_
  have h8 := cJ.size
  have E := E.trans cJ
  obtain ⟨dF, dG, rfl, dH, c⟩ := b6.opn
  refine Za rfl rfl (Zh fa36_0 rfl) ?_
  have gm := dE.ch0 cJ
  refine Za rfl rfl (Zn gm.at_ agg22 rfl rfl) (Zl rfl rfl ?_)
  have h9 := (b4.ch0 aM).ch0 cJ
  refine Yk (cs := ics) el22 sz3 by3 zr3 rfl (by decide) Zdh b6 h9 rfl rfl bd bd j om fun c0 ia am aw r cW => ?_
  have ib := cW.size
  have E := E.step cW (fun i hi => .inl (by have s := j _ hi; omega))
  replace am : Ol ics 3 1 ia c0 gV := am
  obtain ⟨F, G, rfl, dI, m⟩ := am.opn
  refine Za rfl rfl (Zbq (parts := [(0, .tmp 53)]) (cells := [(.slice F (gV).length G), (.slice none 0 0)]) zr36 pl36 rfl rfl) (Zl rfl rfl ?_)
  refine Yb zr36 fun aa ic cK b7 ie => ?_
  have ig := b7.size
  have E := E.trans b7
  have ih := cK.lt
  replace cK : Blk ic aa 36 [(.slice none 0 0), (.slice none 0 0)] := cK
  refine Zl rfl rfl ?_
  refine Zo (off := 0) 2 cK sz36 rfl (us := [(.slice F (gV).length G), (.slice none 0 0)]) rfl rfl rfl rfl fun ii aN b8 => ?_
  have ij := b8.size
  have E := E.step b8 (lS om)
  replace aN : Blk ii aa 36 [(.slice F (gV).length G), (.slice none 0 0)] := aN
  refine Zd (Zb (h7 _ _ ?_))
  refine Zf fun iZ eP => ?_
  refine Xd [aa] 16 mixed rfl fun aO bL => ?_
  have ik := bL.size
  have E := E.trans bL
  refine dV 1 rfl rfl rfl (fun _ => Zh fa36_1 rfl) ?_
  have dJ := (((gm.ch cW (fun hm => by have s := j _ hm; have x := c _ hm; omega)).ch0 b7).ch b8 (nS om)).ch0 bL
  refine dT 2 rfl rfl rfl (Ym dJ.at_ (oS om) agg34 rfl rfl ?_)
  refine dV 3 rfl rfl rfl (fun _ => Zg rfl) ?_
  have dL := ((((eK.ch0 cJ).ch cW (fun i hi => by have s := j _ hi; omega)).ch0 b7).ch b8 (oS om)).ch0 bL
  refine dT 4 rfl rfl rfl (Ziv (ys := (gE.take k)) 0 k dL GEdge.len el34 sz129 rfl rfl ⟨_, _, rfl, by omega⟩ om om rfl fun eQ ax dM dN => ?_)
  obtain ⟨eR, eS, c1⟩ := ax.val
  subst c1
  have eT := ax.len
  have eU := ((((eM.ch0 cJ).ch cW (fun hm => by have s := j _ hm; have x := c _ hm; omega)).ch0 b7).ch b8 (nS om)).ch0 bL
  refine dT 6 rfl rfl rfl (Yl eU.at_ (oS om) agg129 sz129 rfl ?_)
  refine dV 9 rfl rfl rfl (fun _ => Zh fa36_1 rfl) ?_
  refine dT 10 rfl rfl rfl (Ym dJ.at_ (oS om) agg34 rfl rfl ?_)
  refine dV 11 rfl rfl rfl (fun _ => Zg rfl) ?_
  refine dT 12 rfl rfl rfl (Ziv (ys := (gE.drop k)) k gE.length dL GEdge.len el34 sz129 rfl ⟨_, _, rfl, by omega⟩ rfl om om (Zcs _ _) fun eV ay dP dQ => ?_)
  obtain ⟨eW, eX, c2⟩ := ay.val
  subst c2
  have eY := ay.len
  refine Zau 0 7 (by kernel_rfl) ?_ ?_
  ·refine Yf rfl rfl rfl ?_
   refine Yt (k := 4) GEdge.cs el34 sz129 fun c3 eZ an b ao => ?_
   have gn := ao.size
   have E := E.trans ao
   obtain ⟨b9, ca, rfl, cb, a⟩ := an.opn
   have bc : Ch [aa] aO eZ := ((Ch.refl _ _).trans ao.of_nil)
   refine ⟨bc, ?_⟩
   refine Zau 5 7 (by kernel_rfl) ?_ ?_
   ·refine Yf rfl rfl rfl ?_
    have e0 := ax.ch0 ao
    refine Yk (cs := GEdge.cs) el34 sz129 by129 zr129 rfl (by decide) GEdge.one an e0 rfl rfl bd bd b om fun az dR X T n be => ?_
    have gp := be.size
    have E := E.step be (fun i hi => .inl (by have s := b _ hi; omega))
    replace X : Ol GEdge.cs 129 4 dR az (gE.take k) := X
    obtain ⟨aP, aQ, rfl, aR, h⟩ := X.opn
    have cc : Ch [aa] aO dR := (bc.step be (fun i hm => by left; have s := b _ hm; have x := a _ hm; omega))
    refine ⟨cc, ?_⟩
    refine dO 7 (Yf rfl rfl rfl ?_)
    refine Xa (cs := GEdge.cs) (parts := [(0, .tmp 61)]) (⟨0, 0, 0, 0⟩ : GEdge) [e] el34 sz129 zr129 GEdge.len (by decide) rfl rfl rfl (by decide) (by decide) rfl fun cd e1 af ak aS => ?_
    have gq := aS.size
    have E := E.trans aS
    obtain ⟨aT, aU, rfl, aV, ac⟩ := af.opn
    have ce : Ch [aa] aO e1 := (cc.trans aS.of_nil)
    refine ⟨ce, ?_⟩
    refine dO 8 (Yf rfl rfl rfl ?_)
    have e2 := X.ch0 aS
    refine Yk (cs := GEdge.cs) el34 sz129 by129 zr129 rfl (by decide) GEdge.one e2 af.ls rfl rfl bd bd T om fun cf e3 ag Y u bf => ?_
    have gr := bf.size
    have E := E.step bf (fun i hi => .inl (by have s := T _ hi; omega))
    obtain ⟨aW, aX, rfl, aY, o⟩ := ag.opn
    have cg : Ch [aa] aO e3 := (ce.step bf (fun i hm => by rcases n with ea | ea; (rw [ea] at hm; left; have s := b _ hm; have x := a _ hm; omega); (have y := h _ hm; rw [ea] at hm; have p := List.mem_singleton.1 hm; left; omega)))
    refine ⟨cg, ?_⟩
    refine dO 13 (Yf rfl rfl rfl ?_)
    have e4 := (((ay.ch0 ao).ch be (fun i hi => by have s := b _ hi; omega)).ch0 aS).ch bf (fun i hi => by have s := T _ hi; omega)
    refine Yk (cs := GEdge.cs) el34 sz129 by129 zr129 rfl (by decide) GEdge.one ag e4 rfl rfl bd bd Y om fun ci e5 ah ai R bO => ?_
    have gs := bO.size
    have E := E.step bO (fun i hi => .inl (by have s := Y _ hi; omega))
    obtain ⟨H, I, rfl, aZ, J⟩ := ah.opn
    have cj : Ch [aa] aO e5 := (cg.step bO (fun i hm => by rcases u with ea | ea; (rw [ea] at hm; rcases n with ea | ea; (rw [ea] at hm; left; have s := b _ hm; have x := a _ hm; omega); (have y := h _ hm; rw [ea] at hm; have p := List.mem_singleton.1 hm; left; omega)); (have y := o _ hm; rw [ea] at hm; have p := List.mem_singleton.1 hm; left; omega)))
    refine ⟨cj, ?_⟩
    refine dV 14 rfl rfl rfl (fun _ => Zh fa36_1 rfl) (dO 15 (Yf rfl rfl rfl ?_))
    have e6 := (((((aN.ch0 bL).ch0 ao).ch be (fun hm => by have s := b _ hm; have x := a _ hm; omega)).ch0 aS).ch bf (fun hm => by rcases n with ea | ea; (rw [ea] at hm; have s := b _ hm; have x := a _ hm; omega); (have y := h _ hm; rw [ea] at hm; have p := List.mem_singleton.1 hm; omega))).ch bO (fun hm => by rcases u with ea | ea; (rw [ea] at hm; rcases n with ea | ea; (rw [ea] at hm; have s := b _ hm; have x := a _ hm; omega); (have y := h _ hm; rw [ea] at hm; have p := List.mem_singleton.1 hm; omega)); (have y := o _ hm; rw [ea] at hm; have p := List.mem_singleton.1 hm; omega))
    refine Yp (off := 1) e6 sz34 rfl rfl rfl rfl fun dU bg bP => ?_
    have gt := bP.size
    have E := E.step bP (lS om)
    replace bg : Blk dU aa 36 [(.slice F (gV).length G), (.slice H ((((gE.take k) ++ [e]) ++ (gE.drop k))).length I)] := bg
    have c4 : Ch [aa] aO dU := (cj.step bP (fun i hm => by have ab := List.mem_singleton.1 hm; exact .inr (by rw [ab]; exact (List.mem_singleton.2 rfl))))
    refine ⟨c4, ?_⟩
    refine Ye (by kernel_rfl) ?_
    refine Zb (eP _ _ ?_)
    refine Zf fun il e7 => ?_
    refine Zc (Za rfl rfl (Zj bg.at_ agg36 sz36 rfl) (Zl rfl rfl ?_))
    have e8 := (((((((((((aq.ch0 aM).ch0 cJ).ch cW (fun hm => by have s := j _ hm; have x := c _ hm; omega)).ch0 b7).ch b8 (nS om)).ch0 bL).ch0 ao).ch be (fun hm => by have s := b _ hm; have x := a _ hm; omega)).ch0 aS).ch bf (fun hm => by rcases n with ea | ea; (rw [ea] at hm; have s := b _ hm; have x := a _ hm; omega); (have y := h _ hm; rw [ea] at hm; have p := List.mem_singleton.1 hm; omega))).ch bO (fun hm => by rcases u with ea | ea; (rw [ea] at hm; rcases n with ea | ea; (rw [ea] at hm; have s := b _ hm; have x := a _ hm; omega); (have y := h _ hm; rw [ea] at hm; have p := List.mem_singleton.1 hm; omega)); (have y := o _ hm; rw [ea] at hm; have p := List.mem_singleton.1 hm; omega))).ch bP (nS om)
    refine Zo (off := 0) 2 e8 sz36 rfl (us := [(.slice F (gV).length G), (.slice H ((((gE.take k) ++ [e]) ++ (gE.drop k))).length I)]) rfl rfl rfl rfl fun c5 bh cL => ?_
    have gu := cL.size
    have E := E.step cL (lS om)
    replace bh : Blk c5 bM 36 [(.slice F (gV).length G), (.slice H ((((gE.take k) ++ [e]) ++ (gE.drop k))).length I)] := bh
    refine Za rfl rfl (Ze rfl) (Zd (Zb (e7 _ _ ?_)))
    refine Zp ?_
    have e9 := (((((((((am.ch0 b7).ch b8 (fun g hg hm => by have ab := List.mem_singleton.1 hm; rcases r with ea | ea; (rw [ea] at hg; have x := j _ hg; have S := c _ hg; omega); (have l := m _ hg; rw [ea] at hg; have p := List.mem_singleton.1 hg; omega))).ch0 bL).ch0 ao).ch be (fun g hg hm => by rcases r with ea | ea; (rw [ea] at hg; have s := b _ hm; have x := a _ hm; have S := j _ hg; have Z := c _ hg; omega); (have l := m _ hg; rw [ea] at hg; have p := List.mem_singleton.1 hg; have s := b _ hm; have x := a _ hm; omega))).ch0 aS).ch bf (fun g hg hm => by rcases n with ea | ea; (rw [ea] at hm; rcases r with ea | ea; (rw [ea] at hg; have s := b _ hm; have x := a _ hm; have S := j _ hg; have Z := c _ hg; omega); (have l := m _ hg; rw [ea] at hg; have p := List.mem_singleton.1 hg; have s := b _ hm; have x := a _ hm; omega)); (have y := h _ hm; rw [ea] at hm; have p := List.mem_singleton.1 hm; rcases r with ea | ea; (rw [ea] at hg; have S := j _ hg; have Z := c _ hg; omega); (have l := m _ hg; rw [ea] at hg; have p := List.mem_singleton.1 hg; omega)))).ch bO (fun g hg hm => by rcases u with ea | ea; (rw [ea] at hm; rcases n with ea | ea; (rw [ea] at hm; rcases r with ea | ea; (rw [ea] at hg; have s := b _ hm; have x := a _ hm; have S := j _ hg; have Z := c _ hg; omega); (have l := m _ hg; rw [ea] at hg; have p := List.mem_singleton.1 hg; have s := b _ hm; have x := a _ hm; omega)); (have y := h _ hm; rw [ea] at hm; have p := List.mem_singleton.1 hm; rcases r with ea | ea; (rw [ea] at hg; have S := j _ hg; have Z := c _ hg; omega); (have l := m _ hg; rw [ea] at hg; have p := List.mem_singleton.1 hg; omega))); (have y := o _ hm; rw [ea] at hm; have p := List.mem_singleton.1 hm; rcases r with ea | ea; (rw [ea] at hg; have S := j _ hg; have Z := c _ hg; omega); (have l := m _ hg; rw [ea] at hg; have p := List.mem_singleton.1 hg; omega)))).ch bP (fun g hg hm => by have ab := List.mem_singleton.1 hm; rcases r with ea | ea; (rw [ea] at hg; have x := j _ hg; have S := c _ hg; omega); (have l := m _ hg; rw [ea] at hg; have p := List.mem_singleton.1 hg; omega))).ch cL (fun g hg hm => by have ab := List.mem_singleton.1 hm; rcases r with ea | ea; (rw [ea] at hg; have x := j _ hg; have S := c _ hg; omega); (have l := m _ hg; rw [ea] at hg; have p := List.mem_singleton.1 hg; omega))
    have c6 : Ol ics 3 1 c5 (.slice F (gV).length G) (gV) := by
     have hx := e9
     first | exact hx | simpa using hx
    have fa := (ah.ch bP (fun g hg hm => by have ab := List.mem_singleton.1 hm; rcases R with ea | ea; (rw [ea] at hg; rcases u with ea | ea; (rw [ea] at hg; rcases n with ea | ea; (rw [ea] at hg; have x := b _ hg; have S := a _ hg; omega); (have l := h _ hg; rw [ea] at hg; have p := List.mem_singleton.1 hg; omega)); (have l := o _ hg; rw [ea] at hg; have p := List.mem_singleton.1 hg; omega)); (have l := J _ hg; rw [ea] at hg; have p := List.mem_singleton.1 hg; omega))).ch cL (fun g hg hm => by have ab := List.mem_singleton.1 hm; rcases R with ea | ea; (rw [ea] at hg; rcases u with ea | ea; (rw [ea] at hg; rcases n with ea | ea; (rw [ea] at hg; have x := b _ hg; have S := a _ hg; omega); (have l := h _ hg; rw [ea] at hg; have p := List.mem_singleton.1 hg; omega)); (have l := o _ hg; rw [ea] at hg; have p := List.mem_singleton.1 hg; omega)); (have l := J _ hg; rw [ea] at hg; have p := List.mem_singleton.1 hg; omega))
    have c7 : Ol GEdge.cs 129 4 c5 (.slice H ((((gE.take k) ++ [e]) ++ (gE.drop k))).length I) ((Qr gV gE e).1) := by
     have hx := fa
     first | exact hx.eq (by rw [Xn (by first | exact fun q => M q.1 | exact fun q => Q q.2.1 | exact fun q => absurd q.2.2.1 om | exact fun q => q.2.2.2 om)]) | exact hx.eq (by rw [Xl ⟨M, Q, by omega, by omega⟩]; unfold insL; rw [(show insK gE e.id = k from (by first | exact Qe hp ae ad | exact Zag hp om om))])
    exact Zi [_, _] (Zq bh rfl agg36 sz36 ⟨rfl, trivial⟩) ⟨(.slice F (gV).length G), (.slice H ((((gE.take k) ++ [e]) ++ (gE.drop k))).length I), (congrArg (fun zq => (Value.tuple #[.agg #[(.slice F (gV).length G), (.slice H ((((gE.take k) ++ [e]) ++ (gE.drop k))).length I)], .bool zq])) (by first | rw [Xn (by first | exact fun q => M q.1 | exact fun q => Q q.2.1 | exact fun q => absurd q.2.2.1 om | exact fun q => q.2.2.2 om)] | rw [Xl ⟨M, Q, by omega, by omega⟩])), c6, (Lo.down aw om), c7, (Lo.down ai om), (fun g hm hg => by rcases r with ea | ea; (rw [ea] at hm; rcases R with ea | ea; (rw [ea] at hg; rcases u with ea | ea; (rw [ea] at hg; rcases n with ea | ea; (rw [ea] at hg; have s := j _ hm; have x := c _ hm; have S := b _ hg; have Z := a _ hg; omega); (have l := h _ hg; rw [ea] at hg; have p := List.mem_singleton.1 hg; have s := j _ hm; have x := c _ hm; omega)); (have l := o _ hg; rw [ea] at hg; have p := List.mem_singleton.1 hg; have s := j _ hm; have x := c _ hm; omega)); (have l := J _ hg; rw [ea] at hg; have p := List.mem_singleton.1 hg; have s := j _ hm; have x := c _ hm; omega)); (have y := m _ hm; rw [ea] at hm; have p := List.mem_singleton.1 hm; rcases R with ea | ea; (rw [ea] at hg; rcases u with ea | ea; (rw [ea] at hg; rcases n with ea | ea; (rw [ea] at hg; have S := b _ hg; have Z := a _ hg; omega); (have l := h _ hg; rw [ea] at hg; have p := List.mem_singleton.1 hg; omega)); (have l := o _ hg; rw [ea] at hg; have p := List.mem_singleton.1 hg; omega)); (have l := J _ hg; rw [ea] at hg; have p := List.mem_singleton.1 hg; omega))), E⟩
   refine Yf rfl rfl rfl ?_
   refine Xa (cs := GEdge.cs) (parts := [(0, .tmp 61)]) (⟨0, 0, 0, 0⟩ : GEdge) [e] el34 sz129 zr129 GEdge.len (by decide) rfl rfl rfl (by decide) (by decide) rfl fun cd fb af ak aF => ?_
   have gv := aF.size
   have E := E.trans aF
   obtain ⟨aT, aU, rfl, aV, ac⟩ := af.opn
   have ck : Ch [aa] aO fb := (bc.trans aF.of_nil)
   refine ⟨ck, ?_⟩
   refine dO 5 (Yf rfl rfl rfl ?_)
   have fc := an.ch0 aF
   have fd := (ax.ch0 ao).ch0 aF
   refine Yk (cs := GEdge.cs) el34 sz129 by129 zr129 rfl (by decide) GEdge.one fc fd rfl rfl bd bd b om fun az dW X T n a0 => ?_
   have gw := a0.size
   have E := E.step a0 (fun i hi => .inl (by have s := b _ hi; omega))
   replace X : Ol GEdge.cs 129 4 dW az (gE.take k) := X
   obtain ⟨aP, aQ, rfl, aR, h⟩ := X.opn
   have cl : Ch [aa] aO dW := (ck.step a0 (fun i hm => by left; have s := b _ hm; have x := a _ hm; omega))
   refine ⟨cl, ?_⟩
   refine dO 8 (Yf rfl rfl rfl ?_)
   have fe := af.ch a0 (fun g hg hm => by have s := b _ hm; have x := a _ hm; have S := ak _ hg; have Z := ac _ hg; omega)
   refine Yk (cs := GEdge.cs) el34 sz129 by129 zr129 rfl (by decide) GEdge.one X fe.ls rfl rfl bd bd T om fun cf ff ag Y u bi => ?_
   have gx := bi.size
   have E := E.step bi (fun i hi => .inl (by have s := T _ hi; omega))
   obtain ⟨aW, aX, rfl, aY, o⟩ := ag.opn
   have cm : Ch [aa] aO ff := (cl.step bi (fun i hm => by rcases n with ea | ea; (rw [ea] at hm; left; have s := b _ hm; have x := a _ hm; omega); (have y := h _ hm; rw [ea] at hm; have p := List.mem_singleton.1 hm; left; omega)))
   refine ⟨cm, ?_⟩
   refine dO 13 (Yf rfl rfl rfl ?_)
   have fg := (((ay.ch0 ao).ch0 aF).ch a0 (fun i hi => by have s := b _ hi; omega)).ch bi (fun i hi => by have s := T _ hi; omega)
   refine Yk (cs := GEdge.cs) el34 sz129 by129 zr129 rfl (by decide) GEdge.one ag fg rfl rfl bd bd Y om fun ci fh ah ai R bQ => ?_
   have gy := bQ.size
   have E := E.step bQ (fun i hi => .inl (by have s := Y _ hi; omega))
   obtain ⟨H, I, rfl, aZ, J⟩ := ah.opn
   have cn : Ch [aa] aO fh := (cm.step bQ (fun i hm => by rcases u with ea | ea; (rw [ea] at hm; rcases n with ea | ea; (rw [ea] at hm; left; have s := b _ hm; have x := a _ hm; omega); (have y := h _ hm; rw [ea] at hm; have p := List.mem_singleton.1 hm; left; omega)); (have y := o _ hm; rw [ea] at hm; have p := List.mem_singleton.1 hm; left; omega)))
   refine ⟨cn, ?_⟩
   refine dV 14 rfl rfl rfl (fun _ => Zh fa36_1 rfl) (dO 15 (Yf rfl rfl rfl ?_))
   have fi := (((((aN.ch0 bL).ch0 ao).ch0 aF).ch a0 (fun hm => by have s := b _ hm; have x := a _ hm; omega)).ch bi (fun hm => by rcases n with ea | ea; (rw [ea] at hm; have s := b _ hm; have x := a _ hm; omega); (have y := h _ hm; rw [ea] at hm; have p := List.mem_singleton.1 hm; omega))).ch bQ (fun hm => by rcases u with ea | ea; (rw [ea] at hm; rcases n with ea | ea; (rw [ea] at hm; have s := b _ hm; have x := a _ hm; omega); (have y := h _ hm; rw [ea] at hm; have p := List.mem_singleton.1 hm; omega)); (have y := o _ hm; rw [ea] at hm; have p := List.mem_singleton.1 hm; omega))
   refine Yp (off := 1) fi sz34 rfl rfl rfl rfl fun dX bj bR => ?_
   have gz := bR.size
   have E := E.step bR (lS om)
   replace bj : Blk dX aa 36 [(.slice F (gV).length G), (.slice H ((((gE.take k) ++ [e]) ++ (gE.drop k))).length I)] := bj
   have c8 : Ch [aa] aO dX := (cn.step bR (fun i hm => by have ab := List.mem_singleton.1 hm; exact .inr (by rw [ab]; exact (List.mem_singleton.2 rfl))))
   refine ⟨c8, ?_⟩
   refine Ye (by kernel_rfl) ?_
   refine Zb (eP _ _ ?_)
   refine Zf fun im fj => ?_
   refine Zc (Za rfl rfl (Zj bj.at_ agg36 sz36 rfl) (Zl rfl rfl ?_))
   have fk := (((((((((((aq.ch0 aM).ch0 cJ).ch cW (fun hm => by have s := j _ hm; have x := c _ hm; omega)).ch0 b7).ch b8 (nS om)).ch0 bL).ch0 ao).ch0 aF).ch a0 (fun hm => by have s := b _ hm; have x := a _ hm; omega)).ch bi (fun hm => by rcases n with ea | ea; (rw [ea] at hm; have s := b _ hm; have x := a _ hm; omega); (have y := h _ hm; rw [ea] at hm; have p := List.mem_singleton.1 hm; omega))).ch bQ (fun hm => by rcases u with ea | ea; (rw [ea] at hm; rcases n with ea | ea; (rw [ea] at hm; have s := b _ hm; have x := a _ hm; omega); (have y := h _ hm; rw [ea] at hm; have p := List.mem_singleton.1 hm; omega)); (have y := o _ hm; rw [ea] at hm; have p := List.mem_singleton.1 hm; omega))).ch bR (nS om)
   refine Zo (off := 0) 2 fk sz36 rfl (us := [(.slice F (gV).length G), (.slice H ((((gE.take k) ++ [e]) ++ (gE.drop k))).length I)]) rfl rfl rfl rfl fun c9 bk cM => ?_
   have gA := cM.size
   have E := E.step cM (lS om)
   replace bk : Blk c9 bM 36 [(.slice F (gV).length G), (.slice H ((((gE.take k) ++ [e]) ++ (gE.drop k))).length I)] := bk
   refine Za rfl rfl (Ze rfl) (Zd (Zb (fj _ _ ?_)))
   refine Zp ?_
   have fl := (((((((((am.ch0 b7).ch b8 (fun g hg hm => by have ab := List.mem_singleton.1 hm; rcases r with ea | ea; (rw [ea] at hg; have x := j _ hg; have S := c _ hg; omega); (have l := m _ hg; rw [ea] at hg; have p := List.mem_singleton.1 hg; omega))).ch0 bL).ch0 ao).ch0 aF).ch a0 (fun g hg hm => by rcases r with ea | ea; (rw [ea] at hg; have s := b _ hm; have x := a _ hm; have S := j _ hg; have Z := c _ hg; omega); (have l := m _ hg; rw [ea] at hg; have p := List.mem_singleton.1 hg; have s := b _ hm; have x := a _ hm; omega))).ch bi (fun g hg hm => by rcases n with ea | ea; (rw [ea] at hm; rcases r with ea | ea; (rw [ea] at hg; have s := b _ hm; have x := a _ hm; have S := j _ hg; have Z := c _ hg; omega); (have l := m _ hg; rw [ea] at hg; have p := List.mem_singleton.1 hg; have s := b _ hm; have x := a _ hm; omega)); (have y := h _ hm; rw [ea] at hm; have p := List.mem_singleton.1 hm; rcases r with ea | ea; (rw [ea] at hg; have S := j _ hg; have Z := c _ hg; omega); (have l := m _ hg; rw [ea] at hg; have p := List.mem_singleton.1 hg; omega)))).ch bQ (fun g hg hm => by rcases u with ea | ea; (rw [ea] at hm; rcases n with ea | ea; (rw [ea] at hm; rcases r with ea | ea; (rw [ea] at hg; have s := b _ hm; have x := a _ hm; have S := j _ hg; have Z := c _ hg; omega); (have l := m _ hg; rw [ea] at hg; have p := List.mem_singleton.1 hg; have s := b _ hm; have x := a _ hm; omega)); (have y := h _ hm; rw [ea] at hm; have p := List.mem_singleton.1 hm; rcases r with ea | ea; (rw [ea] at hg; have S := j _ hg; have Z := c _ hg; omega); (have l := m _ hg; rw [ea] at hg; have p := List.mem_singleton.1 hg; omega))); (have y := o _ hm; rw [ea] at hm; have p := List.mem_singleton.1 hm; rcases r with ea | ea; (rw [ea] at hg; have S := j _ hg; have Z := c _ hg; omega); (have l := m _ hg; rw [ea] at hg; have p := List.mem_singleton.1 hg; omega)))).ch bR (fun g hg hm => by have ab := List.mem_singleton.1 hm; rcases r with ea | ea; (rw [ea] at hg; have x := j _ hg; have S := c _ hg; omega); (have l := m _ hg; rw [ea] at hg; have p := List.mem_singleton.1 hg; omega))).ch cM (fun g hg hm => by have ab := List.mem_singleton.1 hm; rcases r with ea | ea; (rw [ea] at hg; have x := j _ hg; have S := c _ hg; omega); (have l := m _ hg; rw [ea] at hg; have p := List.mem_singleton.1 hg; omega))
   have da : Ol ics 3 1 c9 (.slice F (gV).length G) (gV) := by
    have hx := fl
    first | exact hx | simpa using hx
   have fm := (ah.ch bR (fun g hg hm => by have ab := List.mem_singleton.1 hm; rcases R with ea | ea; (rw [ea] at hg; rcases u with ea | ea; (rw [ea] at hg; rcases n with ea | ea; (rw [ea] at hg; have x := b _ hg; have S := a _ hg; omega); (have l := h _ hg; rw [ea] at hg; have p := List.mem_singleton.1 hg; omega)); (have l := o _ hg; rw [ea] at hg; have p := List.mem_singleton.1 hg; omega)); (have l := J _ hg; rw [ea] at hg; have p := List.mem_singleton.1 hg; omega))).ch cM (fun g hg hm => by have ab := List.mem_singleton.1 hm; rcases R with ea | ea; (rw [ea] at hg; rcases u with ea | ea; (rw [ea] at hg; rcases n with ea | ea; (rw [ea] at hg; have x := b _ hg; have S := a _ hg; omega); (have l := h _ hg; rw [ea] at hg; have p := List.mem_singleton.1 hg; omega)); (have l := o _ hg; rw [ea] at hg; have p := List.mem_singleton.1 hg; omega)); (have l := J _ hg; rw [ea] at hg; have p := List.mem_singleton.1 hg; omega))
   have db : Ol GEdge.cs 129 4 c9 (.slice H ((((gE.take k) ++ [e]) ++ (gE.drop k))).length I) ((Qr gV gE e).1) := by
    have hx := fm
    first | exact hx.eq (by rw [Xn (by first | exact fun q => M q.1 | exact fun q => Q q.2.1 | exact fun q => absurd q.2.2.1 om | exact fun q => q.2.2.2 om)]) | exact hx.eq (by rw [Xl ⟨M, Q, by omega, by omega⟩]; unfold insL; rw [(show insK gE e.id = k from (by first | exact Qe hp ae ad | exact Zag hp om om))])
   exact Zi [_, _] (Zq bk rfl agg36 sz36 ⟨rfl, trivial⟩) ⟨(.slice F (gV).length G), (.slice H ((((gE.take k) ++ [e]) ++ (gE.drop k))).length I), (congrArg (fun zq => (Value.tuple #[.agg #[(.slice F (gV).length G), (.slice H ((((gE.take k) ++ [e]) ++ (gE.drop k))).length I)], .bool zq])) (by first | rw [Xn (by first | exact fun q => M q.1 | exact fun q => Q q.2.1 | exact fun q => absurd q.2.2.1 om | exact fun q => q.2.2.2 om)] | rw [Xl ⟨M, Q, by omega, by omega⟩])), da, (Lo.down aw om), db, (Lo.down ai om), (fun g hm hg => by rcases r with ea | ea; (rw [ea] at hm; rcases R with ea | ea; (rw [ea] at hg; rcases u with ea | ea; (rw [ea] at hg; rcases n with ea | ea; (rw [ea] at hg; have s := j _ hm; have x := c _ hm; have S := b _ hg; have Z := a _ hg; omega); (have l := h _ hg; rw [ea] at hg; have p := List.mem_singleton.1 hg; have s := j _ hm; have x := c _ hm; omega)); (have l := o _ hg; rw [ea] at hg; have p := List.mem_singleton.1 hg; have s := j _ hm; have x := c _ hm; omega)); (have l := J _ hg; rw [ea] at hg; have p := List.mem_singleton.1 hg; have s := j _ hm; have x := c _ hm; omega)); (have y := m _ hm; rw [ea] at hm; have p := List.mem_singleton.1 hm; rcases R with ea | ea; (rw [ea] at hg; rcases u with ea | ea; (rw [ea] at hg; rcases n with ea | ea; (rw [ea] at hg; have S := b _ hg; have Z := a _ hg; omega); (have l := h _ hg; rw [ea] at hg; have p := List.mem_singleton.1 hg; omega)); (have l := o _ hg; rw [ea] at hg; have p := List.mem_singleton.1 hg; omega)); (have l := J _ hg; rw [ea] at hg; have p := List.mem_singleton.1 hg; omega))), E⟩
  refine Yf rfl rfl rfl ?_
  refine Xa (cs := GEdge.cs) (parts := [(0, .tmp 61)]) (⟨0, 0, 0, 0⟩ : GEdge) [e] el34 sz129 zr129 GEdge.len (by decide) rfl rfl rfl (by decide) (by decide) rfl fun cd fn af ak a1 => ?_
  have gB := a1.size
  have E := E.trans a1
  obtain ⟨aT, aU, rfl, aV, ac⟩ := af.opn
  have co : Ch [aa] aO fn := ((Ch.refl _ _).trans a1.of_nil)
  refine ⟨co, ?_⟩
  refine dO 0 (Yf rfl rfl rfl ?_)
  refine Yt (k := 4) GEdge.cs el34 sz129 fun c3 fo an b aG => ?_
  have gC := aG.size
  have E := E.trans aG
  obtain ⟨b9, ca, rfl, cb, a⟩ := an.opn
  have cp : Ch [aa] aO fo := (co.trans aG.of_nil)
  refine ⟨cp, ?_⟩
  refine dO 5 (Yf rfl rfl rfl ?_)
  have fp := (ax.ch0 a1).ch0 aG
  refine Yk (cs := GEdge.cs) el34 sz129 by129 zr129 rfl (by decide) GEdge.one an fp rfl rfl bd bd b om fun az dY X T n a2 => ?_
  have gD := a2.size
  have E := E.step a2 (fun i hi => .inl (by have s := b _ hi; omega))
  replace X : Ol GEdge.cs 129 4 dY az (gE.take k) := X
  obtain ⟨aP, aQ, rfl, aR, h⟩ := X.opn
  have cq : Ch [aa] aO dY := (cp.step a2 (fun i hm => by left; have s := b _ hm; have x := a _ hm; omega))
  refine ⟨cq, ?_⟩
  refine dO 8 (Yf rfl rfl rfl ?_)
  have fq := (af.ch0 aG).ch a2 (fun g hg hm => by have s := b _ hm; have x := a _ hm; have S := ak _ hg; have Z := ac _ hg; omega)
  refine Yk (cs := GEdge.cs) el34 sz129 by129 zr129 rfl (by decide) GEdge.one X fq.ls rfl rfl bd bd T om fun cf fr ag Y u bm => ?_
  have gF := bm.size
  have E := E.step bm (fun i hi => .inl (by have s := T _ hi; omega))
  obtain ⟨aW, aX, rfl, aY, o⟩ := ag.opn
  have cr : Ch [aa] aO fr := (cq.step bm (fun i hm => by rcases n with ea | ea; (rw [ea] at hm; left; have s := b _ hm; have x := a _ hm; omega); (have y := h _ hm; rw [ea] at hm; have p := List.mem_singleton.1 hm; left; omega)))
  refine ⟨cr, ?_⟩
  refine dO 13 (Yf rfl rfl rfl ?_)
  have fs := (((ay.ch0 a1).ch0 aG).ch a2 (fun i hi => by have s := b _ hi; omega)).ch bm (fun i hi => by have s := T _ hi; omega)
  refine Yk (cs := GEdge.cs) el34 sz129 by129 zr129 rfl (by decide) GEdge.one ag fs rfl rfl bd bd Y om fun ci ft ah ai R bS => ?_
  have gG := bS.size
  have E := E.step bS (fun i hi => .inl (by have s := Y _ hi; omega))
  obtain ⟨H, I, rfl, aZ, J⟩ := ah.opn
  have ct : Ch [aa] aO ft := (cr.step bS (fun i hm => by rcases u with ea | ea; (rw [ea] at hm; rcases n with ea | ea; (rw [ea] at hm; left; have s := b _ hm; have x := a _ hm; omega); (have y := h _ hm; rw [ea] at hm; have p := List.mem_singleton.1 hm; left; omega)); (have y := o _ hm; rw [ea] at hm; have p := List.mem_singleton.1 hm; left; omega)))
  refine ⟨ct, ?_⟩
  refine dV 14 rfl rfl rfl (fun _ => Zh fa36_1 rfl) (dO 15 (Yf rfl rfl rfl ?_))
  have fu := (((((aN.ch0 bL).ch0 a1).ch0 aG).ch a2 (fun hm => by have s := b _ hm; have x := a _ hm; omega)).ch bm (fun hm => by rcases n with ea | ea; (rw [ea] at hm; have s := b _ hm; have x := a _ hm; omega); (have y := h _ hm; rw [ea] at hm; have p := List.mem_singleton.1 hm; omega))).ch bS (fun hm => by rcases u with ea | ea; (rw [ea] at hm; rcases n with ea | ea; (rw [ea] at hm; have s := b _ hm; have x := a _ hm; omega); (have y := h _ hm; rw [ea] at hm; have p := List.mem_singleton.1 hm; omega)); (have y := o _ hm; rw [ea] at hm; have p := List.mem_singleton.1 hm; omega))
  refine Yp (off := 1) fu sz34 rfl rfl rfl rfl fun dZ bn bT => ?_
  have gH := bT.size
  have E := E.step bT (lS om)
  replace bn : Blk dZ aa 36 [(.slice F (gV).length G), (.slice H ((((gE.take k) ++ [e]) ++ (gE.drop k))).length I)] := bn
  have dc : Ch [aa] aO dZ := (ct.step bT (fun i hm => by have ab := List.mem_singleton.1 hm; exact .inr (by rw [ab]; exact (List.mem_singleton.2 rfl))))
  refine ⟨dc, ?_⟩
  refine Ye (by kernel_rfl) ?_
  refine Zb (eP _ _ ?_)
  refine Zf fun io fv => ?_
  refine Zc (Za rfl rfl (Zj bn.at_ agg36 sz36 rfl) (Zl rfl rfl ?_))
  have fw := (((((((((((aq.ch0 aM).ch0 cJ).ch cW (fun hm => by have s := j _ hm; have x := c _ hm; omega)).ch0 b7).ch b8 (nS om)).ch0 bL).ch0 a1).ch0 aG).ch a2 (fun hm => by have s := b _ hm; have x := a _ hm; omega)).ch bm (fun hm => by rcases n with ea | ea; (rw [ea] at hm; have s := b _ hm; have x := a _ hm; omega); (have y := h _ hm; rw [ea] at hm; have p := List.mem_singleton.1 hm; omega))).ch bS (fun hm => by rcases u with ea | ea; (rw [ea] at hm; rcases n with ea | ea; (rw [ea] at hm; have s := b _ hm; have x := a _ hm; omega); (have y := h _ hm; rw [ea] at hm; have p := List.mem_singleton.1 hm; omega)); (have y := o _ hm; rw [ea] at hm; have p := List.mem_singleton.1 hm; omega))).ch bT (nS om)
  refine Zo (off := 0) 2 fw sz36 rfl (us := [(.slice F (gV).length G), (.slice H ((((gE.take k) ++ [e]) ++ (gE.drop k))).length I)]) rfl rfl rfl rfl fun dd bp cN => ?_
  have gI := cN.size
  have E := E.step cN (lS om)
  replace bp : Blk dd bM 36 [(.slice F (gV).length G), (.slice H ((((gE.take k) ++ [e]) ++ (gE.drop k))).length I)] := bp
  refine Za rfl rfl (Ze rfl) (Zd (Zb (fv _ _ ?_)))
  refine Zp ?_
  have fx := (((((((((am.ch0 b7).ch b8 (fun g hg hm => by have ab := List.mem_singleton.1 hm; rcases r with ea | ea; (rw [ea] at hg; have x := j _ hg; have S := c _ hg; omega); (have l := m _ hg; rw [ea] at hg; have p := List.mem_singleton.1 hg; omega))).ch0 bL).ch0 a1).ch0 aG).ch a2 (fun g hg hm => by rcases r with ea | ea; (rw [ea] at hg; have s := b _ hm; have x := a _ hm; have S := j _ hg; have Z := c _ hg; omega); (have l := m _ hg; rw [ea] at hg; have p := List.mem_singleton.1 hg; have s := b _ hm; have x := a _ hm; omega))).ch bm (fun g hg hm => by rcases n with ea | ea; (rw [ea] at hm; rcases r with ea | ea; (rw [ea] at hg; have s := b _ hm; have x := a _ hm; have S := j _ hg; have Z := c _ hg; omega); (have l := m _ hg; rw [ea] at hg; have p := List.mem_singleton.1 hg; have s := b _ hm; have x := a _ hm; omega)); (have y := h _ hm; rw [ea] at hm; have p := List.mem_singleton.1 hm; rcases r with ea | ea; (rw [ea] at hg; have S := j _ hg; have Z := c _ hg; omega); (have l := m _ hg; rw [ea] at hg; have p := List.mem_singleton.1 hg; omega)))).ch bS (fun g hg hm => by rcases u with ea | ea; (rw [ea] at hm; rcases n with ea | ea; (rw [ea] at hm; rcases r with ea | ea; (rw [ea] at hg; have s := b _ hm; have x := a _ hm; have S := j _ hg; have Z := c _ hg; omega); (have l := m _ hg; rw [ea] at hg; have p := List.mem_singleton.1 hg; have s := b _ hm; have x := a _ hm; omega)); (have y := h _ hm; rw [ea] at hm; have p := List.mem_singleton.1 hm; rcases r with ea | ea; (rw [ea] at hg; have S := j _ hg; have Z := c _ hg; omega); (have l := m _ hg; rw [ea] at hg; have p := List.mem_singleton.1 hg; omega))); (have y := o _ hm; rw [ea] at hm; have p := List.mem_singleton.1 hm; rcases r with ea | ea; (rw [ea] at hg; have S := j _ hg; have Z := c _ hg; omega); (have l := m _ hg; rw [ea] at hg; have p := List.mem_singleton.1 hg; omega)))).ch bT (fun g hg hm => by have ab := List.mem_singleton.1 hm; rcases r with ea | ea; (rw [ea] at hg; have x := j _ hg; have S := c _ hg; omega); (have l := m _ hg; rw [ea] at hg; have p := List.mem_singleton.1 hg; omega))).ch cN (fun g hg hm => by have ab := List.mem_singleton.1 hm; rcases r with ea | ea; (rw [ea] at hg; have x := j _ hg; have S := c _ hg; omega); (have l := m _ hg; rw [ea] at hg; have p := List.mem_singleton.1 hg; omega))
  have de : Ol ics 3 1 dd (.slice F (gV).length G) (gV) := by
   have hx := fx
   first | exact hx | simpa using hx
  have fy := (ah.ch bT (fun g hg hm => by have ab := List.mem_singleton.1 hm; rcases R with ea | ea; (rw [ea] at hg; rcases u with ea | ea; (rw [ea] at hg; rcases n with ea | ea; (rw [ea] at hg; have x := b _ hg; have S := a _ hg; omega); (have l := h _ hg; rw [ea] at hg; have p := List.mem_singleton.1 hg; omega)); (have l := o _ hg; rw [ea] at hg; have p := List.mem_singleton.1 hg; omega)); (have l := J _ hg; rw [ea] at hg; have p := List.mem_singleton.1 hg; omega))).ch cN (fun g hg hm => by have ab := List.mem_singleton.1 hm; rcases R with ea | ea; (rw [ea] at hg; rcases u with ea | ea; (rw [ea] at hg; rcases n with ea | ea; (rw [ea] at hg; have x := b _ hg; have S := a _ hg; omega); (have l := h _ hg; rw [ea] at hg; have p := List.mem_singleton.1 hg; omega)); (have l := o _ hg; rw [ea] at hg; have p := List.mem_singleton.1 hg; omega)); (have l := J _ hg; rw [ea] at hg; have p := List.mem_singleton.1 hg; omega))
  have df : Ol GEdge.cs 129 4 dd (.slice H ((((gE.take k) ++ [e]) ++ (gE.drop k))).length I) ((Qr gV gE e).1) := by
   have hx := fy
   first | exact hx.eq (by rw [Xn (by first | exact fun q => M q.1 | exact fun q => Q q.2.1 | exact fun q => absurd q.2.2.1 om | exact fun q => q.2.2.2 om)]) | exact hx.eq (by rw [Xl ⟨M, Q, by omega, by omega⟩]; unfold insL; rw [(show insK gE e.id = k from (by first | exact Qe hp ae ad | exact Zag hp om om))])
  exact Zi [_, _] (Zq bp rfl agg36 sz36 ⟨rfl, trivial⟩) ⟨(.slice F (gV).length G), (.slice H ((((gE.take k) ++ [e]) ++ (gE.drop k))).length I), (congrArg (fun zq => (Value.tuple #[.agg #[(.slice F (gV).length G), (.slice H ((((gE.take k) ++ [e]) ++ (gE.drop k))).length I)], .bool zq])) (by first | rw [Xn (by first | exact fun q => M q.1 | exact fun q => Q q.2.1 | exact fun q => absurd q.2.2.1 om | exact fun q => q.2.2.2 om)] | rw [Xl ⟨M, Q, by omega, by omega⟩])), de, (Lo.down aw om), df, (Lo.down ai om), (fun g hm hg => by rcases r with ea | ea; (rw [ea] at hm; rcases R with ea | ea; (rw [ea] at hg; rcases u with ea | ea; (rw [ea] at hg; rcases n with ea | ea; (rw [ea] at hg; have s := j _ hm; have x := c _ hm; have S := b _ hg; have Z := a _ hg; omega); (have l := h _ hg; rw [ea] at hg; have p := List.mem_singleton.1 hg; have s := j _ hm; have x := c _ hm; omega)); (have l := o _ hg; rw [ea] at hg; have p := List.mem_singleton.1 hg; have s := j _ hm; have x := c _ hm; omega)); (have l := J _ hg; rw [ea] at hg; have p := List.mem_singleton.1 hg; have s := j _ hm; have x := c _ hm; omega)); (have y := m _ hm; rw [ea] at hm; have p := List.mem_singleton.1 hm; rcases R with ea | ea; (rw [ea] at hg; rcases u with ea | ea; (rw [ea] at hg; rcases n with ea | ea; (rw [ea] at hg; have S := b _ hg; have Z := a _ hg; omega); (have l := h _ hg; rw [ea] at hg; have p := List.mem_singleton.1 hg; omega)); (have l := o _ hg; rw [ea] at hg; have p := List.mem_singleton.1 hg; omega)); (have l := J _ hg; rw [ea] at hg; have p := List.mem_singleton.1 hg; omega))), E⟩
 have eJ := bb
 have bb := Yg bb
 refine dK 6 rfl rfl rfl (dK 7 rfl rfl rfl (dK 8 rfl rfl rfl (dK 9 rfl rfl rfl (dK 10 rfl rfl rfl (dK 11 rfl rfl rfl (dK 12 rfl rfl rfl (dK 13 rfl rfl rfl ?_)))))))
 refine dK 14 rfl rfl rfl (dV 15 rfl rfl rfl (fun _ => Yn rfl rfl) ?_)
 refine Ye (by kernel_rfl) ?_
 refine Zb (gl _ _ ?_)
 refine Zdf rfl ?_
 refine Xc (Zv (Zv (Ys ?_)))
 refine Zb (gj _ _ ?_)
 refine Zf fun ip fz => ?_
 refine Zc (Zl rfl rfl ?_)
 refine Yt (k := 1) ics el22 sz3 fun eO iq b6 j aH => ?_
 have gJ := aH.size
 have E := E.trans aH
 obtain ⟨dF, dG, rfl, dH, c⟩ := b6.opn
 refine Za rfl rfl (Zh fa36_0 rfl) ?_
 have d0 := dE.ch0 aH
 refine Za rfl rfl (Zn d0.at_ agg22 rfl rfl) (Zl rfl rfl ?_)
 have fA := (b4.ch0 aM).ch0 aH
 refine Yk (cs := ics) el22 sz3 by3 zr3 rfl (by decide) Zdh b6 fA rfl rfl bd bd j om fun c0 fB am aw r a3 => ?_
 have gK := a3.size
 have E := E.step a3 (fun i hi => .inl (by have s := j _ hi; omega))
 replace am : Ol ics 3 1 fB c0 gV := am
 obtain ⟨F, G, rfl, dI, m⟩ := am.opn
 refine Za rfl rfl (Zbq (parts := [(0, .tmp 53)]) (cells := [(.slice F (gV).length G), (.slice none 0 0)]) zr36 pl36 rfl rfl) (Zl rfl rfl ?_)
 refine Yb zr36 fun aa fC cK aA ie => ?_
 have gL := aA.size
 have E := E.trans aA
 have ih := cK.lt
 replace cK : Blk fC aa 36 [(.slice none 0 0), (.slice none 0 0)] := cK
 refine Zl rfl rfl ?_
 refine Zo (off := 0) 2 cK sz36 rfl (us := [(.slice F (gV).length G), (.slice none 0 0)]) rfl rfl rfl rfl fun fD aB aC => ?_
 have gM := aC.size
 have E := E.step aC (lS om)
 replace aB : Blk fD aa 36 [(.slice F (gV).length G), (.slice none 0 0)] := aB
 refine Zd (Zb (fz _ _ ?_))
 refine Zf fun ir dg => ?_
 refine Xd [aa] 16 mixed rfl fun aj al => ?_
 have gN := al.size
 have E := E.trans al
 refine dV 1 rfl rfl rfl (fun _ => Zh fa36_1 rfl) ?_
 have d1 := (((d0.ch a3 (fun hm => by have s := j _ hm; have x := c _ hm; omega)).ch0 aA).ch aC (nS om)).ch0 al
 refine dT 2 rfl rfl rfl (Ym d1.at_ (oS om) agg34 rfl rfl ?_)
 refine dV 3 rfl rfl rfl (fun _ => Zg rfl) ?_
 have d2 := (((((cV.ch0 aM).ch0 aH).ch a3 (fun i hi => by have s := j _ hi; omega)).ch0 aA).ch aC (oS om)).ch0 al
 refine dT 4 rfl rfl rfl (Ziv (ys := (gE.take k)) 0 k d2 GEdge.len el34 sz129 rfl rfl ⟨_, _, rfl, by omega⟩ om om rfl fun eQ ax dM dN => ?_)
 obtain ⟨eR, eS, c1⟩ := ax.val
 subst c1
 have eT := ax.len
 have fE := (((((b5.ch0 aM).ch0 aH).ch a3 (fun hm => by have s := j _ hm; have x := c _ hm; omega)).ch0 aA).ch aC (nS om)).ch0 al
 refine dT 6 rfl rfl rfl (Yl fE.at_ (oS om) agg129 sz129 rfl ?_)
 refine dV 9 rfl rfl rfl (fun _ => Zh fa36_1 rfl) ?_
 refine dT 10 rfl rfl rfl (Ym d1.at_ (oS om) agg34 rfl rfl ?_)
 refine dV 11 rfl rfl rfl (fun _ => Zg rfl) ?_
 refine dT 12 rfl rfl rfl (Ziv (ys := (gE.drop k)) k gE.length d2 GEdge.len el34 sz129 rfl ⟨_, _, rfl, by omega⟩ rfl om om (Zcs _ _) fun eV ay dP dQ => ?_)
 obtain ⟨eW, eX, c2⟩ := ay.val
 subst c2
 have eY := ay.len
 refine Zau 0 7 (by kernel_rfl) ?_ ?_
 ·refine Yf rfl rfl rfl ?_
  refine Yt (k := 4) GEdge.cs el34 sz129 fun c3 fF an b ap => ?_
  have gO := ap.size
  have E := E.trans ap
  obtain ⟨b9, ca, rfl, cb, a⟩ := an.opn
  have bq : Ch [aa] aj fF := ((Ch.refl _ _).trans ap.of_nil)
  refine ⟨bq, ?_⟩
  refine Zau 5 7 (by kernel_rfl) ?_ ?_
  ·refine Yf rfl rfl rfl ?_
   have fG := ax.ch0 ap
   refine Yk (cs := GEdge.cs) el34 sz129 by129 zr129 rfl (by decide) GEdge.one an fG rfl rfl bd bd b om fun az d3 X T n br => ?_
   have gP := br.size
   have E := E.step br (fun i hi => .inl (by have s := b _ hi; omega))
   replace X : Ol GEdge.cs 129 4 d3 az (gE.take k) := X
   obtain ⟨aP, aQ, rfl, aR, h⟩ := X.opn
   have cu : Ch [aa] aj d3 := (bq.step br (fun i hm => by left; have s := b _ hm; have x := a _ hm; omega))
   refine ⟨cu, ?_⟩
   refine dO 7 (Yf rfl rfl rfl ?_)
   refine Xa (cs := GEdge.cs) (parts := [(0, .tmp 61)]) (⟨0, 0, 0, 0⟩ : GEdge) [e] el34 sz129 zr129 GEdge.len (by decide) rfl rfl rfl (by decide) (by decide) rfl fun cd fH af ak a4 => ?_
   have gQ := a4.size
   have E := E.trans a4
   obtain ⟨aT, aU, rfl, aV, ac⟩ := af.opn
   have cv : Ch [aa] aj fH := (cu.trans a4.of_nil)
   refine ⟨cv, ?_⟩
   refine dO 8 (Yf rfl rfl rfl ?_)
   have fI := X.ch0 a4
   refine Yk (cs := GEdge.cs) el34 sz129 by129 zr129 rfl (by decide) GEdge.one fI af.ls rfl rfl bd bd T om fun cf fJ ag Y u bs => ?_
   have gR := bs.size
   have E := E.step bs (fun i hi => .inl (by have s := T _ hi; omega))
   obtain ⟨aW, aX, rfl, aY, o⟩ := ag.opn
   have cw : Ch [aa] aj fJ := (cv.step bs (fun i hm => by rcases n with ea | ea; (rw [ea] at hm; left; have s := b _ hm; have x := a _ hm; omega); (have y := h _ hm; rw [ea] at hm; have p := List.mem_singleton.1 hm; left; omega)))
   refine ⟨cw, ?_⟩
   refine dO 13 (Yf rfl rfl rfl ?_)
   have fK := (((ay.ch0 ap).ch br (fun i hi => by have s := b _ hi; omega)).ch0 a4).ch bs (fun i hi => by have s := T _ hi; omega)
   refine Yk (cs := GEdge.cs) el34 sz129 by129 zr129 rfl (by decide) GEdge.one ag fK rfl rfl bd bd Y om fun ci fL ah ai R bU => ?_
   have gS := bU.size
   have E := E.step bU (fun i hi => .inl (by have s := Y _ hi; omega))
   obtain ⟨H, I, rfl, aZ, J⟩ := ah.opn
   have cx : Ch [aa] aj fL := (cw.step bU (fun i hm => by rcases u with ea | ea; (rw [ea] at hm; rcases n with ea | ea; (rw [ea] at hm; left; have s := b _ hm; have x := a _ hm; omega); (have y := h _ hm; rw [ea] at hm; have p := List.mem_singleton.1 hm; left; omega)); (have y := o _ hm; rw [ea] at hm; have p := List.mem_singleton.1 hm; left; omega)))
   refine ⟨cx, ?_⟩
   refine dV 14 rfl rfl rfl (fun _ => Zh fa36_1 rfl) (dO 15 (Yf rfl rfl rfl ?_))
   have fM := (((((aB.ch0 al).ch0 ap).ch br (fun hm => by have s := b _ hm; have x := a _ hm; omega)).ch0 a4).ch bs (fun hm => by rcases n with ea | ea; (rw [ea] at hm; have s := b _ hm; have x := a _ hm; omega); (have y := h _ hm; rw [ea] at hm; have p := List.mem_singleton.1 hm; omega))).ch bU (fun hm => by rcases u with ea | ea; (rw [ea] at hm; rcases n with ea | ea; (rw [ea] at hm; have s := b _ hm; have x := a _ hm; omega); (have y := h _ hm; rw [ea] at hm; have p := List.mem_singleton.1 hm; omega)); (have y := o _ hm; rw [ea] at hm; have p := List.mem_singleton.1 hm; omega))
   refine Yp (off := 1) fM sz34 rfl rfl rfl rfl fun d4 bu bV => ?_
   have gT := bV.size
   have E := E.step bV (lS om)
   replace bu : Blk d4 aa 36 [(.slice F (gV).length G), (.slice H ((((gE.take k) ++ [e]) ++ (gE.drop k))).length I)] := bu
   have dh : Ch [aa] aj d4 := (cx.step bV (fun i hm => by have ab := List.mem_singleton.1 hm; exact .inr (by rw [ab]; exact (List.mem_singleton.2 rfl))))
   refine ⟨dh, ?_⟩
   refine Ye (by kernel_rfl) ?_
   refine Zb (dg _ _ ?_)
   refine Zf fun it fN => ?_
   refine Zc (Za rfl rfl (Zj bu.at_ agg36 sz36 rfl) (Zl rfl rfl ?_))
   have fO := (((((((((((aq.ch0 aM).ch0 aH).ch a3 (fun hm => by have s := j _ hm; have x := c _ hm; omega)).ch0 aA).ch aC (nS om)).ch0 al).ch0 ap).ch br (fun hm => by have s := b _ hm; have x := a _ hm; omega)).ch0 a4).ch bs (fun hm => by rcases n with ea | ea; (rw [ea] at hm; have s := b _ hm; have x := a _ hm; omega); (have y := h _ hm; rw [ea] at hm; have p := List.mem_singleton.1 hm; omega))).ch bU (fun hm => by rcases u with ea | ea; (rw [ea] at hm; rcases n with ea | ea; (rw [ea] at hm; have s := b _ hm; have x := a _ hm; omega); (have y := h _ hm; rw [ea] at hm; have p := List.mem_singleton.1 hm; omega)); (have y := o _ hm; rw [ea] at hm; have p := List.mem_singleton.1 hm; omega))).ch bV (nS om)
   refine Zo (off := 0) 2 fO sz36 rfl (us := [(.slice F (gV).length G), (.slice H ((((gE.take k) ++ [e]) ++ (gE.drop k))).length I)]) rfl rfl rfl rfl fun di bv cO => ?_
   have gU := cO.size
   have E := E.step cO (lS om)
   replace bv : Blk di bM 36 [(.slice F (gV).length G), (.slice H ((((gE.take k) ++ [e]) ++ (gE.drop k))).length I)] := bv
   refine Za rfl rfl (Ze rfl) (Zd (Zb (fN _ _ ?_)))
   refine Zp ?_
   have fP := (((((((((am.ch0 aA).ch aC (fun g hg hm => by have ab := List.mem_singleton.1 hm; rcases r with ea | ea; (rw [ea] at hg; have x := j _ hg; have S := c _ hg; omega); (have l := m _ hg; rw [ea] at hg; have p := List.mem_singleton.1 hg; omega))).ch0 al).ch0 ap).ch br (fun g hg hm => by rcases r with ea | ea; (rw [ea] at hg; have s := b _ hm; have x := a _ hm; have S := j _ hg; have Z := c _ hg; omega); (have l := m _ hg; rw [ea] at hg; have p := List.mem_singleton.1 hg; have s := b _ hm; have x := a _ hm; omega))).ch0 a4).ch bs (fun g hg hm => by rcases n with ea | ea; (rw [ea] at hm; rcases r with ea | ea; (rw [ea] at hg; have s := b _ hm; have x := a _ hm; have S := j _ hg; have Z := c _ hg; omega); (have l := m _ hg; rw [ea] at hg; have p := List.mem_singleton.1 hg; have s := b _ hm; have x := a _ hm; omega)); (have y := h _ hm; rw [ea] at hm; have p := List.mem_singleton.1 hm; rcases r with ea | ea; (rw [ea] at hg; have S := j _ hg; have Z := c _ hg; omega); (have l := m _ hg; rw [ea] at hg; have p := List.mem_singleton.1 hg; omega)))).ch bU (fun g hg hm => by rcases u with ea | ea; (rw [ea] at hm; rcases n with ea | ea; (rw [ea] at hm; rcases r with ea | ea; (rw [ea] at hg; have s := b _ hm; have x := a _ hm; have S := j _ hg; have Z := c _ hg; omega); (have l := m _ hg; rw [ea] at hg; have p := List.mem_singleton.1 hg; have s := b _ hm; have x := a _ hm; omega)); (have y := h _ hm; rw [ea] at hm; have p := List.mem_singleton.1 hm; rcases r with ea | ea; (rw [ea] at hg; have S := j _ hg; have Z := c _ hg; omega); (have l := m _ hg; rw [ea] at hg; have p := List.mem_singleton.1 hg; omega))); (have y := o _ hm; rw [ea] at hm; have p := List.mem_singleton.1 hm; rcases r with ea | ea; (rw [ea] at hg; have S := j _ hg; have Z := c _ hg; omega); (have l := m _ hg; rw [ea] at hg; have p := List.mem_singleton.1 hg; omega)))).ch bV (fun g hg hm => by have ab := List.mem_singleton.1 hm; rcases r with ea | ea; (rw [ea] at hg; have x := j _ hg; have S := c _ hg; omega); (have l := m _ hg; rw [ea] at hg; have p := List.mem_singleton.1 hg; omega))).ch cO (fun g hg hm => by have ab := List.mem_singleton.1 hm; rcases r with ea | ea; (rw [ea] at hg; have x := j _ hg; have S := c _ hg; omega); (have l := m _ hg; rw [ea] at hg; have p := List.mem_singleton.1 hg; omega))
   have dj : Ol ics 3 1 di (.slice F (gV).length G) (gV) := by
    have hx := fP
    first | exact hx | simpa using hx
   have fQ := (ah.ch bV (fun g hg hm => by have ab := List.mem_singleton.1 hm; rcases R with ea | ea; (rw [ea] at hg; rcases u with ea | ea; (rw [ea] at hg; rcases n with ea | ea; (rw [ea] at hg; have x := b _ hg; have S := a _ hg; omega); (have l := h _ hg; rw [ea] at hg; have p := List.mem_singleton.1 hg; omega)); (have l := o _ hg; rw [ea] at hg; have p := List.mem_singleton.1 hg; omega)); (have l := J _ hg; rw [ea] at hg; have p := List.mem_singleton.1 hg; omega))).ch cO (fun g hg hm => by have ab := List.mem_singleton.1 hm; rcases R with ea | ea; (rw [ea] at hg; rcases u with ea | ea; (rw [ea] at hg; rcases n with ea | ea; (rw [ea] at hg; have x := b _ hg; have S := a _ hg; omega); (have l := h _ hg; rw [ea] at hg; have p := List.mem_singleton.1 hg; omega)); (have l := o _ hg; rw [ea] at hg; have p := List.mem_singleton.1 hg; omega)); (have l := J _ hg; rw [ea] at hg; have p := List.mem_singleton.1 hg; omega))
   have dk : Ol GEdge.cs 129 4 di (.slice H ((((gE.take k) ++ [e]) ++ (gE.drop k))).length I) ((Qr gV gE e).1) := by
    have hx := fQ
    first | exact hx.eq (by rw [Xn (by first | exact fun q => M q.1 | exact fun q => Q q.2.1 | exact fun q => absurd q.2.2.1 om | exact fun q => q.2.2.2 om)]) | exact hx.eq (by rw [Xl ⟨M, Q, by omega, by omega⟩]; unfold insL; rw [(show insK gE e.id = k from (by first | exact Qe hp ae ad | exact Zag hp om om))])
   exact Zi [_, _] (Zq bv rfl agg36 sz36 ⟨rfl, trivial⟩) ⟨(.slice F (gV).length G), (.slice H ((((gE.take k) ++ [e]) ++ (gE.drop k))).length I), (congrArg (fun zq => (Value.tuple #[.agg #[(.slice F (gV).length G), (.slice H ((((gE.take k) ++ [e]) ++ (gE.drop k))).length I)], .bool zq])) (by first | rw [Xn (by first | exact fun q => M q.1 | exact fun q => Q q.2.1 | exact fun q => absurd q.2.2.1 om | exact fun q => q.2.2.2 om)] | rw [Xl ⟨M, Q, by omega, by omega⟩])), dj, (Lo.down aw om), dk, (Lo.down ai om), (fun g hm hg => by rcases r with ea | ea; (rw [ea] at hm; rcases R with ea | ea; (rw [ea] at hg; rcases u with ea | ea; (rw [ea] at hg; rcases n with ea | ea; (rw [ea] at hg; have s := j _ hm; have x := c _ hm; have S := b _ hg; have Z := a _ hg; omega); (have l := h _ hg; rw [ea] at hg; have p := List.mem_singleton.1 hg; have s := j _ hm; have x := c _ hm; omega)); (have l := o _ hg; rw [ea] at hg; have p := List.mem_singleton.1 hg; have s := j _ hm; have x := c _ hm; omega)); (have l := J _ hg; rw [ea] at hg; have p := List.mem_singleton.1 hg; have s := j _ hm; have x := c _ hm; omega)); (have y := m _ hm; rw [ea] at hm; have p := List.mem_singleton.1 hm; rcases R with ea | ea; (rw [ea] at hg; rcases u with ea | ea; (rw [ea] at hg; rcases n with ea | ea; (rw [ea] at hg; have S := b _ hg; have Z := a _ hg; omega); (have l := h _ hg; rw [ea] at hg; have p := List.mem_singleton.1 hg; omega)); (have l := o _ hg; rw [ea] at hg; have p := List.mem_singleton.1 hg; omega)); (have l := J _ hg; rw [ea] at hg; have p := List.mem_singleton.1 hg; omega))), E⟩
  refine Yf rfl rfl rfl ?_
  refine Xa (cs := GEdge.cs) (parts := [(0, .tmp 61)]) (⟨0, 0, 0, 0⟩ : GEdge) [e] el34 sz129 zr129 GEdge.len (by decide) rfl rfl rfl (by decide) (by decide) rfl fun cd fR af ak aI => ?_
  have gW := aI.size
  have E := E.trans aI
  obtain ⟨aT, aU, rfl, aV, ac⟩ := af.opn
  have cy : Ch [aa] aj fR := (bq.trans aI.of_nil)
  refine ⟨cy, ?_⟩
  refine dO 5 (Yf rfl rfl rfl ?_)
  have fS := an.ch0 aI
  have fT := (ax.ch0 ap).ch0 aI
  refine Yk (cs := GEdge.cs) el34 sz129 by129 zr129 rfl (by decide) GEdge.one fS fT rfl rfl bd bd b om fun az d5 X T n a5 => ?_
  have gX := a5.size
  have E := E.step a5 (fun i hi => .inl (by have s := b _ hi; omega))
  replace X : Ol GEdge.cs 129 4 d5 az (gE.take k) := X
  obtain ⟨aP, aQ, rfl, aR, h⟩ := X.opn
  have cz : Ch [aa] aj d5 := (cy.step a5 (fun i hm => by left; have s := b _ hm; have x := a _ hm; omega))
  refine ⟨cz, ?_⟩
  refine dO 8 (Yf rfl rfl rfl ?_)
  have fU := af.ch a5 (fun g hg hm => by have s := b _ hm; have x := a _ hm; have S := ak _ hg; have Z := ac _ hg; omega)
  refine Yk (cs := GEdge.cs) el34 sz129 by129 zr129 rfl (by decide) GEdge.one X fU.ls rfl rfl bd bd T om fun cf fV ag Y u bw => ?_
  have gY := bw.size
  have E := E.step bw (fun i hi => .inl (by have s := T _ hi; omega))
  obtain ⟨aW, aX, rfl, aY, o⟩ := ag.opn
  have cA : Ch [aa] aj fV := (cz.step bw (fun i hm => by rcases n with ea | ea; (rw [ea] at hm; left; have s := b _ hm; have x := a _ hm; omega); (have y := h _ hm; rw [ea] at hm; have p := List.mem_singleton.1 hm; left; omega)))
  refine ⟨cA, ?_⟩
  refine dO 13 (Yf rfl rfl rfl ?_)
  have fW := (((ay.ch0 ap).ch0 aI).ch a5 (fun i hi => by have s := b _ hi; omega)).ch bw (fun i hi => by have s := T _ hi; omega)
  refine Yk (cs := GEdge.cs) el34 sz129 by129 zr129 rfl (by decide) GEdge.one ag fW rfl rfl bd bd Y om fun ci fX ah ai R bW => ?_
  have gZ := bW.size
  have E := E.step bW (fun i hi => .inl (by have s := Y _ hi; omega))
  obtain ⟨H, I, rfl, aZ, J⟩ := ah.opn
  have cB : Ch [aa] aj fX := (cA.step bW (fun i hm => by rcases u with ea | ea; (rw [ea] at hm; rcases n with ea | ea; (rw [ea] at hm; left; have s := b _ hm; have x := a _ hm; omega); (have y := h _ hm; rw [ea] at hm; have p := List.mem_singleton.1 hm; left; omega)); (have y := o _ hm; rw [ea] at hm; have p := List.mem_singleton.1 hm; left; omega)))
  refine ⟨cB, ?_⟩
  refine dV 14 rfl rfl rfl (fun _ => Zh fa36_1 rfl) (dO 15 (Yf rfl rfl rfl ?_))
  have fY := (((((aB.ch0 al).ch0 ap).ch0 aI).ch a5 (fun hm => by have s := b _ hm; have x := a _ hm; omega)).ch bw (fun hm => by rcases n with ea | ea; (rw [ea] at hm; have s := b _ hm; have x := a _ hm; omega); (have y := h _ hm; rw [ea] at hm; have p := List.mem_singleton.1 hm; omega))).ch bW (fun hm => by rcases u with ea | ea; (rw [ea] at hm; rcases n with ea | ea; (rw [ea] at hm; have s := b _ hm; have x := a _ hm; omega); (have y := h _ hm; rw [ea] at hm; have p := List.mem_singleton.1 hm; omega)); (have y := o _ hm; rw [ea] at hm; have p := List.mem_singleton.1 hm; omega))
  refine Yp (off := 1) fY sz34 rfl rfl rfl rfl fun d6 bz bX => ?_
  have g0 := bX.size
  have E := E.step bX (lS om)
  replace bz : Blk d6 aa 36 [(.slice F (gV).length G), (.slice H ((((gE.take k) ++ [e]) ++ (gE.drop k))).length I)] := bz
  have dl : Ch [aa] aj d6 := (cB.step bX (fun i hm => by have ab := List.mem_singleton.1 hm; exact .inr (by rw [ab]; exact (List.mem_singleton.2 rfl))))
  refine ⟨dl, ?_⟩
  refine Ye (by kernel_rfl) ?_
  refine Zb (dg _ _ ?_)
  refine Zf fun iu fZ => ?_
  refine Zc (Za rfl rfl (Zj bz.at_ agg36 sz36 rfl) (Zl rfl rfl ?_))
  have f0 := (((((((((((aq.ch0 aM).ch0 aH).ch a3 (fun hm => by have s := j _ hm; have x := c _ hm; omega)).ch0 aA).ch aC (nS om)).ch0 al).ch0 ap).ch0 aI).ch a5 (fun hm => by have s := b _ hm; have x := a _ hm; omega)).ch bw (fun hm => by rcases n with ea | ea; (rw [ea] at hm; have s := b _ hm; have x := a _ hm; omega); (have y := h _ hm; rw [ea] at hm; have p := List.mem_singleton.1 hm; omega))).ch bW (fun hm => by rcases u with ea | ea; (rw [ea] at hm; rcases n with ea | ea; (rw [ea] at hm; have s := b _ hm; have x := a _ hm; omega); (have y := h _ hm; rw [ea] at hm; have p := List.mem_singleton.1 hm; omega)); (have y := o _ hm; rw [ea] at hm; have p := List.mem_singleton.1 hm; omega))).ch bX (nS om)
  refine Zo (off := 0) 2 f0 sz36 rfl (us := [(.slice F (gV).length G), (.slice H ((((gE.take k) ++ [e]) ++ (gE.drop k))).length I)]) rfl rfl rfl rfl fun dm bA cP => ?_
  have g1 := cP.size
  have E := E.step cP (lS om)
  replace bA : Blk dm bM 36 [(.slice F (gV).length G), (.slice H ((((gE.take k) ++ [e]) ++ (gE.drop k))).length I)] := bA
  refine Za rfl rfl (Ze rfl) (Zd (Zb (fZ _ _ ?_)))
  refine Zp ?_
  have f1 := (((((((((am.ch0 aA).ch aC (fun g hg hm => by have ab := List.mem_singleton.1 hm; rcases r with ea | ea; (rw [ea] at hg; have x := j _ hg; have S := c _ hg; omega); (have l := m _ hg; rw [ea] at hg; have p := List.mem_singleton.1 hg; omega))).ch0 al).ch0 ap).ch0 aI).ch a5 (fun g hg hm => by rcases r with ea | ea; (rw [ea] at hg; have s := b _ hm; have x := a _ hm; have S := j _ hg; have Z := c _ hg; omega); (have l := m _ hg; rw [ea] at hg; have p := List.mem_singleton.1 hg; have s := b _ hm; have x := a _ hm; omega))).ch bw (fun g hg hm => by rcases n with ea | ea; (rw [ea] at hm; rcases r with ea | ea; (rw [ea] at hg; have s := b _ hm; have x := a _ hm; have S := j _ hg; have Z := c _ hg; omega); (have l := m _ hg; rw [ea] at hg; have p := List.mem_singleton.1 hg; have s := b _ hm; have x := a _ hm; omega)); (have y := h _ hm; rw [ea] at hm; have p := List.mem_singleton.1 hm; rcases r with ea | ea; (rw [ea] at hg; have S := j _ hg; have Z := c _ hg; omega); (have l := m _ hg; rw [ea] at hg; have p := List.mem_singleton.1 hg; omega)))).ch bW (fun g hg hm => by rcases u with ea | ea; (rw [ea] at hm; rcases n with ea | ea; (rw [ea] at hm; rcases r with ea | ea; (rw [ea] at hg; have s := b _ hm; have x := a _ hm; have S := j _ hg; have Z := c _ hg; omega); (have l := m _ hg; rw [ea] at hg; have p := List.mem_singleton.1 hg; have s := b _ hm; have x := a _ hm; omega)); (have y := h _ hm; rw [ea] at hm; have p := List.mem_singleton.1 hm; rcases r with ea | ea; (rw [ea] at hg; have S := j _ hg; have Z := c _ hg; omega); (have l := m _ hg; rw [ea] at hg; have p := List.mem_singleton.1 hg; omega))); (have y := o _ hm; rw [ea] at hm; have p := List.mem_singleton.1 hm; rcases r with ea | ea; (rw [ea] at hg; have S := j _ hg; have Z := c _ hg; omega); (have l := m _ hg; rw [ea] at hg; have p := List.mem_singleton.1 hg; omega)))).ch bX (fun g hg hm => by have ab := List.mem_singleton.1 hm; rcases r with ea | ea; (rw [ea] at hg; have x := j _ hg; have S := c _ hg; omega); (have l := m _ hg; rw [ea] at hg; have p := List.mem_singleton.1 hg; omega))).ch cP (fun g hg hm => by have ab := List.mem_singleton.1 hm; rcases r with ea | ea; (rw [ea] at hg; have x := j _ hg; have S := c _ hg; omega); (have l := m _ hg; rw [ea] at hg; have p := List.mem_singleton.1 hg; omega))
  have dn : Ol ics 3 1 dm (.slice F (gV).length G) (gV) := by
   have hx := f1
   first | exact hx | simpa using hx
  have f2 := (ah.ch bX (fun g hg hm => by have ab := List.mem_singleton.1 hm; rcases R with ea | ea; (rw [ea] at hg; rcases u with ea | ea; (rw [ea] at hg; rcases n with ea | ea; (rw [ea] at hg; have x := b _ hg; have S := a _ hg; omega); (have l := h _ hg; rw [ea] at hg; have p := List.mem_singleton.1 hg; omega)); (have l := o _ hg; rw [ea] at hg; have p := List.mem_singleton.1 hg; omega)); (have l := J _ hg; rw [ea] at hg; have p := List.mem_singleton.1 hg; omega))).ch cP (fun g hg hm => by have ab := List.mem_singleton.1 hm; rcases R with ea | ea; (rw [ea] at hg; rcases u with ea | ea; (rw [ea] at hg; rcases n with ea | ea; (rw [ea] at hg; have x := b _ hg; have S := a _ hg; omega); (have l := h _ hg; rw [ea] at hg; have p := List.mem_singleton.1 hg; omega)); (have l := o _ hg; rw [ea] at hg; have p := List.mem_singleton.1 hg; omega)); (have l := J _ hg; rw [ea] at hg; have p := List.mem_singleton.1 hg; omega))
  have dp : Ol GEdge.cs 129 4 dm (.slice H ((((gE.take k) ++ [e]) ++ (gE.drop k))).length I) ((Qr gV gE e).1) := by
   have hx := f2
   first | exact hx.eq (by rw [Xn (by first | exact fun q => M q.1 | exact fun q => Q q.2.1 | exact fun q => absurd q.2.2.1 om | exact fun q => q.2.2.2 om)]) | exact hx.eq (by rw [Xl ⟨M, Q, by omega, by omega⟩]; unfold insL; rw [(show insK gE e.id = k from (by first | exact Qe hp ae ad | exact Zag hp om om))])
  exact Zi [_, _] (Zq bA rfl agg36 sz36 ⟨rfl, trivial⟩) ⟨(.slice F (gV).length G), (.slice H ((((gE.take k) ++ [e]) ++ (gE.drop k))).length I), (congrArg (fun zq => (Value.tuple #[.agg #[(.slice F (gV).length G), (.slice H ((((gE.take k) ++ [e]) ++ (gE.drop k))).length I)], .bool zq])) (by first | rw [Xn (by first | exact fun q => M q.1 | exact fun q => Q q.2.1 | exact fun q => absurd q.2.2.1 om | exact fun q => q.2.2.2 om)] | rw [Xl ⟨M, Q, by omega, by omega⟩])), dn, (Lo.down aw om), dp, (Lo.down ai om), (fun g hm hg => by rcases r with ea | ea; (rw [ea] at hm; rcases R with ea | ea; (rw [ea] at hg; rcases u with ea | ea; (rw [ea] at hg; rcases n with ea | ea; (rw [ea] at hg; have s := j _ hm; have x := c _ hm; have S := b _ hg; have Z := a _ hg; omega); (have l := h _ hg; rw [ea] at hg; have p := List.mem_singleton.1 hg; have s := j _ hm; have x := c _ hm; omega)); (have l := o _ hg; rw [ea] at hg; have p := List.mem_singleton.1 hg; have s := j _ hm; have x := c _ hm; omega)); (have l := J _ hg; rw [ea] at hg; have p := List.mem_singleton.1 hg; have s := j _ hm; have x := c _ hm; omega)); (have y := m _ hm; rw [ea] at hm; have p := List.mem_singleton.1 hm; rcases R with ea | ea; (rw [ea] at hg; rcases u with ea | ea; (rw [ea] at hg; rcases n with ea | ea; (rw [ea] at hg; have S := b _ hg; have Z := a _ hg; omega); (have l := h _ hg; rw [ea] at hg; have p := List.mem_singleton.1 hg; omega)); (have l := o _ hg; rw [ea] at hg; have p := List.mem_singleton.1 hg; omega)); (have l := J _ hg; rw [ea] at hg; have p := List.mem_singleton.1 hg; omega))), E⟩
 refine Yf rfl rfl rfl ?_
 refine Xa (cs := GEdge.cs) (parts := [(0, .tmp 61)]) (⟨0, 0, 0, 0⟩ : GEdge) [e] el34 sz129 zr129 GEdge.len (by decide) rfl rfl rfl (by decide) (by decide) rfl fun cd f3 af ak a6 => ?_
 have g2 := a6.size
 have E := E.trans a6
 obtain ⟨aT, aU, rfl, aV, ac⟩ := af.opn
 have cC : Ch [aa] aj f3 := ((Ch.refl _ _).trans a6.of_nil)
 refine ⟨cC, ?_⟩
 refine dO 0 (Yf rfl rfl rfl ?_)
 refine Yt (k := 4) GEdge.cs el34 sz129 fun c3 f4 an b aJ => ?_
 have g3 := aJ.size
 have E := E.trans aJ
 obtain ⟨b9, ca, rfl, cb, a⟩ := an.opn
 have cD : Ch [aa] aj f4 := (cC.trans aJ.of_nil)
 refine ⟨cD, ?_⟩
 refine dO 5 (Yf rfl rfl rfl ?_)
 have f5 := (ax.ch0 a6).ch0 aJ
 refine Yk (cs := GEdge.cs) el34 sz129 by129 zr129 rfl (by decide) GEdge.one an f5 rfl rfl bd bd b om fun az d7 X T n a7 => ?_
 have g4 := a7.size
 have E := E.step a7 (fun i hi => .inl (by have s := b _ hi; omega))
 replace X : Ol GEdge.cs 129 4 d7 az (gE.take k) := X
 obtain ⟨aP, aQ, rfl, aR, h⟩ := X.opn
 have cE : Ch [aa] aj d7 := (cD.step a7 (fun i hm => by left; have s := b _ hm; have x := a _ hm; omega))
 refine ⟨cE, ?_⟩
 refine dO 8 (Yf rfl rfl rfl ?_)
 have f6 := (af.ch0 aJ).ch a7 (fun g hg hm => by have s := b _ hm; have x := a _ hm; have S := ak _ hg; have Z := ac _ hg; omega)
 refine Yk (cs := GEdge.cs) el34 sz129 by129 zr129 rfl (by decide) GEdge.one X f6.ls rfl rfl bd bd T om fun cf f7 ag Y u bB => ?_
 have g5 := bB.size
 have E := E.step bB (fun i hi => .inl (by have s := T _ hi; omega))
 obtain ⟨aW, aX, rfl, aY, o⟩ := ag.opn
 have cF : Ch [aa] aj f7 := (cE.step bB (fun i hm => by rcases n with ea | ea; (rw [ea] at hm; left; have s := b _ hm; have x := a _ hm; omega); (have y := h _ hm; rw [ea] at hm; have p := List.mem_singleton.1 hm; left; omega)))
 refine ⟨cF, ?_⟩
 refine dO 13 (Yf rfl rfl rfl ?_)
 have f8 := (((ay.ch0 a6).ch0 aJ).ch a7 (fun i hi => by have s := b _ hi; omega)).ch bB (fun i hi => by have s := T _ hi; omega)
 refine Yk (cs := GEdge.cs) el34 sz129 by129 zr129 rfl (by decide) GEdge.one ag f8 rfl rfl bd bd Y om fun ci f9 ah ai R bY => ?_
 have g6 := bY.size
 have E := E.step bY (fun i hi => .inl (by have s := Y _ hi; omega))
 obtain ⟨H, I, rfl, aZ, J⟩ := ah.opn
 have cG : Ch [aa] aj f9 := (cF.step bY (fun i hm => by rcases u with ea | ea; (rw [ea] at hm; rcases n with ea | ea; (rw [ea] at hm; left; have s := b _ hm; have x := a _ hm; omega); (have y := h _ hm; rw [ea] at hm; have p := List.mem_singleton.1 hm; left; omega)); (have y := o _ hm; rw [ea] at hm; have p := List.mem_singleton.1 hm; left; omega)))
 refine ⟨cG, ?_⟩
 refine dV 14 rfl rfl rfl (fun _ => Zh fa36_1 rfl) (dO 15 (Yf rfl rfl rfl ?_))
 have ga := (((((aB.ch0 al).ch0 a6).ch0 aJ).ch a7 (fun hm => by have s := b _ hm; have x := a _ hm; omega)).ch bB (fun hm => by rcases n with ea | ea; (rw [ea] at hm; have s := b _ hm; have x := a _ hm; omega); (have y := h _ hm; rw [ea] at hm; have p := List.mem_singleton.1 hm; omega))).ch bY (fun hm => by rcases u with ea | ea; (rw [ea] at hm; rcases n with ea | ea; (rw [ea] at hm; have s := b _ hm; have x := a _ hm; omega); (have y := h _ hm; rw [ea] at hm; have p := List.mem_singleton.1 hm; omega)); (have y := o _ hm; rw [ea] at hm; have p := List.mem_singleton.1 hm; omega))
 refine Yp (off := 1) ga sz34 rfl rfl rfl rfl fun d8 bC bZ => ?_
 have g7 := bZ.size
 have E := E.step bZ (lS om)
 replace bC : Blk d8 aa 36 [(.slice F (gV).length G), (.slice H ((((gE.take k) ++ [e]) ++ (gE.drop k))).length I)] := bC
 have dq : Ch [aa] aj d8 := (cG.step bZ (fun i hm => by have ab := List.mem_singleton.1 hm; exact .inr (by rw [ab]; exact (List.mem_singleton.2 rfl))))
 refine ⟨dq, ?_⟩
 refine Ye (by kernel_rfl) ?_
 refine Zb (dg _ _ ?_)
 refine Zf fun iv gb => ?_
 refine Zc (Za rfl rfl (Zj bC.at_ agg36 sz36 rfl) (Zl rfl rfl ?_))
 have gc := (((((((((((aq.ch0 aM).ch0 aH).ch a3 (fun hm => by have s := j _ hm; have x := c _ hm; omega)).ch0 aA).ch aC (nS om)).ch0 al).ch0 a6).ch0 aJ).ch a7 (fun hm => by have s := b _ hm; have x := a _ hm; omega)).ch bB (fun hm => by rcases n with ea | ea; (rw [ea] at hm; have s := b _ hm; have x := a _ hm; omega); (have y := h _ hm; rw [ea] at hm; have p := List.mem_singleton.1 hm; omega))).ch bY (fun hm => by rcases u with ea | ea; (rw [ea] at hm; rcases n with ea | ea; (rw [ea] at hm; have s := b _ hm; have x := a _ hm; omega); (have y := h _ hm; rw [ea] at hm; have p := List.mem_singleton.1 hm; omega)); (have y := o _ hm; rw [ea] at hm; have p := List.mem_singleton.1 hm; omega))).ch bZ (nS om)
 refine Zo (off := 0) 2 gc sz36 rfl (us := [(.slice F (gV).length G), (.slice H ((((gE.take k) ++ [e]) ++ (gE.drop k))).length I)]) rfl rfl rfl rfl fun dr bD cQ => ?_
 have g8 := cQ.size
 have E := E.step cQ (lS om)
 replace bD : Blk dr bM 36 [(.slice F (gV).length G), (.slice H ((((gE.take k) ++ [e]) ++ (gE.drop k))).length I)] := bD
 refine Za rfl rfl (Ze rfl) (Zd (Zb (gb _ _ ?_)))
 refine Zp ?_
 have gd := (((((((((am.ch0 aA).ch aC (fun g hg hm => by have ab := List.mem_singleton.1 hm; rcases r with ea | ea; (rw [ea] at hg; have x := j _ hg; have S := c _ hg; omega); (have l := m _ hg; rw [ea] at hg; have p := List.mem_singleton.1 hg; omega))).ch0 al).ch0 a6).ch0 aJ).ch a7 (fun g hg hm => by rcases r with ea | ea; (rw [ea] at hg; have s := b _ hm; have x := a _ hm; have S := j _ hg; have Z := c _ hg; omega); (have l := m _ hg; rw [ea] at hg; have p := List.mem_singleton.1 hg; have s := b _ hm; have x := a _ hm; omega))).ch bB (fun g hg hm => by rcases n with ea | ea; (rw [ea] at hm; rcases r with ea | ea; (rw [ea] at hg; have s := b _ hm; have x := a _ hm; have S := j _ hg; have Z := c _ hg; omega); (have l := m _ hg; rw [ea] at hg; have p := List.mem_singleton.1 hg; have s := b _ hm; have x := a _ hm; omega)); (have y := h _ hm; rw [ea] at hm; have p := List.mem_singleton.1 hm; rcases r with ea | ea; (rw [ea] at hg; have S := j _ hg; have Z := c _ hg; omega); (have l := m _ hg; rw [ea] at hg; have p := List.mem_singleton.1 hg; omega)))).ch bY (fun g hg hm => by rcases u with ea | ea; (rw [ea] at hm; rcases n with ea | ea; (rw [ea] at hm; rcases r with ea | ea; (rw [ea] at hg; have s := b _ hm; have x := a _ hm; have S := j _ hg; have Z := c _ hg; omega); (have l := m _ hg; rw [ea] at hg; have p := List.mem_singleton.1 hg; have s := b _ hm; have x := a _ hm; omega)); (have y := h _ hm; rw [ea] at hm; have p := List.mem_singleton.1 hm; rcases r with ea | ea; (rw [ea] at hg; have S := j _ hg; have Z := c _ hg; omega); (have l := m _ hg; rw [ea] at hg; have p := List.mem_singleton.1 hg; omega))); (have y := o _ hm; rw [ea] at hm; have p := List.mem_singleton.1 hm; rcases r with ea | ea; (rw [ea] at hg; have S := j _ hg; have Z := c _ hg; omega); (have l := m _ hg; rw [ea] at hg; have p := List.mem_singleton.1 hg; omega)))).ch bZ (fun g hg hm => by have ab := List.mem_singleton.1 hm; rcases r with ea | ea; (rw [ea] at hg; have x := j _ hg; have S := c _ hg; omega); (have l := m _ hg; rw [ea] at hg; have p := List.mem_singleton.1 hg; omega))).ch cQ (fun g hg hm => by have ab := List.mem_singleton.1 hm; rcases r with ea | ea; (rw [ea] at hg; have x := j _ hg; have S := c _ hg; omega); (have l := m _ hg; rw [ea] at hg; have p := List.mem_singleton.1 hg; omega))
 have ds : Ol ics 3 1 dr (.slice F (gV).length G) (gV) := by
  have hx := gd
  first | exact hx | simpa using hx
 have ge := (ah.ch bZ (fun g hg hm => by have ab := List.mem_singleton.1 hm; rcases R with ea | ea; (rw [ea] at hg; rcases u with ea | ea; (rw [ea] at hg; rcases n with ea | ea; (rw [ea] at hg; have x := b _ hg; have S := a _ hg; omega); (have l := h _ hg; rw [ea] at hg; have p := List.mem_singleton.1 hg; omega)); (have l := o _ hg; rw [ea] at hg; have p := List.mem_singleton.1 hg; omega)); (have l := J _ hg; rw [ea] at hg; have p := List.mem_singleton.1 hg; omega))).ch cQ (fun g hg hm => by have ab := List.mem_singleton.1 hm; rcases R with ea | ea; (rw [ea] at hg; rcases u with ea | ea; (rw [ea] at hg; rcases n with ea | ea; (rw [ea] at hg; have x := b _ hg; have S := a _ hg; omega); (have l := h _ hg; rw [ea] at hg; have p := List.mem_singleton.1 hg; omega)); (have l := o _ hg; rw [ea] at hg; have p := List.mem_singleton.1 hg; omega)); (have l := J _ hg; rw [ea] at hg; have p := List.mem_singleton.1 hg; omega))
 have dt : Ol GEdge.cs 129 4 dr (.slice H ((((gE.take k) ++ [e]) ++ (gE.drop k))).length I) ((Qr gV gE e).1) := by
  have hx := ge
  first | exact hx.eq (by rw [Xn (by first | exact fun q => M q.1 | exact fun q => Q q.2.1 | exact fun q => absurd q.2.2.1 om | exact fun q => q.2.2.2 om)]) | exact hx.eq (by rw [Xl ⟨M, Q, by omega, by omega⟩]; unfold insL; rw [(show insK gE e.id = k from (by first | exact Qe hp ae ad | exact Zag hp om om))])
 exact Zi [_, _] (Zq bD rfl agg36 sz36 ⟨rfl, trivial⟩) ⟨(.slice F (gV).length G), (.slice H ((((gE.take k) ++ [e]) ++ (gE.drop k))).length I), (congrArg (fun zq => (Value.tuple #[.agg #[(.slice F (gV).length G), (.slice H ((((gE.take k) ++ [e]) ++ (gE.drop k))).length I)], .bool zq])) (by first | rw [Xn (by first | exact fun q => M q.1 | exact fun q => Q q.2.1 | exact fun q => absurd q.2.2.1 om | exact fun q => q.2.2.2 om)] | rw [Xl ⟨M, Q, by omega, by omega⟩])), ds, (Lo.down aw om), dt, (Lo.down ai om), (fun g hm hg => by rcases r with ea | ea; (rw [ea] at hm; rcases R with ea | ea; (rw [ea] at hg; rcases u with ea | ea; (rw [ea] at hg; rcases n with ea | ea; (rw [ea] at hg; have s := j _ hm; have x := c _ hm; have S := b _ hg; have Z := a _ hg; omega); (have l := h _ hg; rw [ea] at hg; have p := List.mem_singleton.1 hg; have s := j _ hm; have x := c _ hm; omega)); (have l := o _ hg; rw [ea] at hg; have p := List.mem_singleton.1 hg; have s := j _ hm; have x := c _ hm; omega)); (have l := J _ hg; rw [ea] at hg; have p := List.mem_singleton.1 hg; have s := j _ hm; have x := c _ hm; omega)); (have y := m _ hm; rw [ea] at hm; have p := List.mem_singleton.1 hm; rcases R with ea | ea; (rw [ea] at hg; rcases u with ea | ea; (rw [ea] at hg; rcases n with ea | ea; (rw [ea] at hg; have S := b _ hg; have Z := a _ hg; omega); (have l := h _ hg; rw [ea] at hg; have p := List.mem_singleton.1 hg; omega)); (have l := o _ hg; rw [ea] at hg; have p := List.mem_singleton.1 hg; omega)); (have l := J _ hg; rw [ea] at hg; have p := List.mem_singleton.1 hg; omega))), E⟩

end Go.Proofs.Ytkmhgeppenifoaa
