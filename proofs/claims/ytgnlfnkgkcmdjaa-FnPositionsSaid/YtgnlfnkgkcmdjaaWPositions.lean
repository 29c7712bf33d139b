/- Walks of functions that FnPositions reaches: what each returns, and that it leaves the memory that was there alone. -/
import Derived.Test.YtgnlfnkgkcmdjaaLibA
import Derived.Test.YtgnlfnkgkcmdjaaLibB
import Derived.Test.YtgnlfnkgkcmdjaaProg
namespace Go.Proofs.Ytgnlfnkgkcmdjaa
open Go.KLib Go.Shelf
set_option maxHeartbeats 1000000
set_option maxRecDepth 20000
set_option linter.unusedVariables false
set_option linter.unusedSimpArgs false
namespace TPositions
theorem agg129 : Yv Try.prog 129 = some false := by kernel_rfl
theorem agg3 : Yv Try.prog 3 = some false := by kernel_rfl
theorem agg30 : Yv Try.prog 30 = some false := by kernel_rfl
theorem agg4 : Yv Try.prog 4 = some false := by kernel_rfl
theorem agg42 : Yv Try.prog 42 = some false := by kernel_rfl
theorem agg44 : Yv Try.prog 44 = some true := by kernel_rfl
theorem agg48 : Yv Try.prog 48 = some true := by kernel_rfl
theorem agg84 : Yv Try.prog 84 = some true := by kernel_rfl
theorem agg88 : Yv Try.prog 88 = some false := by kernel_rfl
theorem by84 : Zar Try.prog 84 = some 32 := by kernel_rfl
theorem by88 : Zar Try.prog 88 = some 8 := by kernel_rfl
theorem el129 : elB Try.prog 129 = some 88 := by kernel_rfl
theorem el30 : elB Try.prog 30 = some 3 := by kernel_rfl
theorem el42 : elB Try.prog 42 = some 84 := by kernel_rfl
theorem fa131_0 : faB Try.prog 131 0 = some 0 := by kernel_rfl
theorem fa131_1 : faB Try.prog 131 1 = some 4 := by kernel_rfl
theorem fa44_0 : faB Try.prog 44 0 = some 0 := by kernel_rfl
theorem fa48_0 : faB Try.prog 48 0 = some 0 := by kernel_rfl
theorem fa48_1 : faB Try.prog 48 1 = some 1 := by kernel_rfl
theorem fa48_2 : faB Try.prog 48 2 = some 2 := by kernel_rfl
theorem fa48_3 : faB Try.prog 48 3 = some 3 := by kernel_rfl
theorem fa48_4 : faB Try.prog 48 4 = some 4 := by kernel_rfl
theorem fa84_0 : faB Try.prog 84 0 = some 0 := by kernel_rfl
theorem fa84_1 : faB Try.prog 84 1 = some 1 := by kernel_rfl
theorem fa84_2 : faB Try.prog 84 2 = some 2 := by kernel_rfl
theorem fa84_3 : faB Try.prog 84 3 = some 3 := by kernel_rfl
theorem fk104 : fnB Try.prog 104 = true := by kernel_rfl
theorem fk105 : fnB Try.prog 105 = true := by kernel_rfl
theorem fk108 : fnB Try.prog 108 = true := by kernel_rfl
theorem fk109 : fnB Try.prog 109 = true := by kernel_rfl
theorem fk110 : fnB Try.prog 110 = true := by kernel_rfl
theorem fk128 : fnB Try.prog 128 = true := by kernel_rfl
theorem fk37 : fnB Try.prog 37 = true := by kernel_rfl
theorem fk44 : fnB Try.prog 44 = true := by kernel_rfl
theorem fk66 : fnB Try.prog 66 = true := by kernel_rfl
theorem fk68 : fnB Try.prog 68 = true := by kernel_rfl
theorem fk69 : fnB Try.prog 69 = true := by kernel_rfl
theorem fk70 : fnB Try.prog 70 = true := by kernel_rfl
theorem fk71 : fnB Try.prog 71 = true := by kernel_rfl
theorem fk80 : fnB Try.prog 80 = true := by kernel_rfl
theorem fk81 : fnB Try.prog 81 = true := by kernel_rfl
theorem fk82 : fnB Try.prog 82 = true := by kernel_rfl
theorem fk83 : fnB Try.prog 83 = true := by kernel_rfl
theorem ist84 : Zce Try.prog 84 4 = true := by kernel_rfl
theorem mixed : Try.prog.follows .mixedOrders = true := by kernel_rfl
theorem pl131 : Xz Try.prog 131 = some [(0, 4), (4, 1)] := by kernel_rfl
theorem pl44 : Xz Try.prog 44 = some [(0, 1)] := by kernel_rfl
theorem pl84 : Xz Try.prog 84 = some [(0, 1), (1, 1), (2, 1), (3, 1)] := by kernel_rfl
theorem ptr88 : ptrB Try.prog 88 = true := by kernel_rfl
theorem sz129 : Yg Try.prog 129 = some 1 := by kernel_rfl
theorem sz3 : Yg Try.prog 3 = some 1 := by kernel_rfl
theorem sz42 : Yg Try.prog 42 = some 1 := by kernel_rfl
theorem sz44 : Yg Try.prog 44 = some 1 := by kernel_rfl
theorem sz48 : Yg Try.prog 48 = some 5 := by kernel_rfl
theorem sz84 : Yg Try.prog 84 = some 4 := by kernel_rfl
theorem sz88 : Yg Try.prog 88 = some 1 := by kernel_rfl
theorem zr131 : Xf Try.prog 131 = some (.agg #[.int .i64 0, .int .i64 0, .int .i64 0, .int .i64 0, .slice none 0 0]) := by kernel_rfl
theorem zr3 : Xf Try.prog 3 = some (.int .i64 0) := by kernel_rfl
theorem zr44 : Xf Try.prog 44 = some (.agg #[.slice none 0 0]) := by kernel_rfl
theorem zr84 : Xf Try.prog 84 = some (.agg #[.int .i64 0, .int .i64 0, .int .i64 0, .int .i64 0]) := by kernel_rfl
theorem zr88 : Xf Try.prog 88 = some (.pointer none) := by kernel_rfl
end TPositions
open TPositions

/-- impl.Positions).accepts -/
theorem Zag {w : World} {LL_pL o : Nat} {c : Value} {pL : List Int} (a : Ls ics 1 w LL_pL o c pL) (pfirst : Int) (plast : Int) {LL_pF p : Nat} {e : Value} {pF : List Int} (b : Ls ics 1 w LL_pF p e pF) (pnull : Bool) (set : Int) :
 Ctr Try.prog 80 #[(.agg #[c, (.int .i64 pfirst), (.int .i64 plast), e, (.bool pnull)]), (.int .i64 set)] w (fun v w' => v = .bool (accB plast pnull set) ∧ Ch [] w w') := by
 obtain ⟨f, g, j⟩ := a.val
 subst j
 have q := a.len
 have a := a.here (by decide)
 obtain ⟨h, i, k⟩ := b.val
 subst k
 have r := b.len
 have b := b.here (by decide)
 have E := Ch.refl [] w
 refine Ye (N := 20) (vs0 := [(.agg #[(.slice f pL.length g), (.int .i64 pfirst), (.int .i64 plast), (.slice h pF.length i), (.bool pnull)]), (.int .i64 set)]) Try.func80 rfl rfl rfl ?_
 refine Zg fun K1 H1 => ?_
 refine Zc (Zm rfl rfl ?_)
 refine Qw rfl fun s W2 n C2 x => ?_
 have y := C2.size
 have E := E.trans C2
 have z := n.lt
 replace n : Blk W2 s 48 [(.slice f pL.length g), (.int .i64 pfirst), (.int .i64 plast), (.slice h pF.length i), (.bool pnull)] := n
 refine Za rfl rfl (Zf rfl) (Ze (Zb (H1 _ _ ?_)))
 refine Zg fun K3 H3 => ?_
 refine Zc (Za rfl rfl (Zd rfl) (Za rfl rfl (Zeg rfl rfl) (Za rfl rfl (Yy rfl rfl) (Za rfl rfl (Zd rfl) ?_))))
 refine Yp (d := 8) rfl (fun l => ?_) (fun l => ?_)
 ·have t := l
  have l := Yi l
  refine Za rfl rfl (Zh fa48_4 rfl) (Za rfl rfl (Zk n.at_ agg4 rfl rfl) (Za rfl rfl (Ya rfl rfl) (Za rfl rfl (Zd rfl) ?_)))
  refine Yp (d := 12) rfl (fun m => ?_) (fun m => ?_)
  ·have u := m
   refine Zj rfl rfl (Zj rfl rfl (Zj rfl rfl (Zj rfl rfl (Zj rfl rfl (Zj rfl rfl (Za rfl rfl (Ya rfl rfl) (Za rfl rfl (Zf rfl) ?_)))))))
   refine Ze (Zb (H3 _ _ ?_))
   refine Zq ?_
   exact Zi [_] ⟨rfl, trivial⟩ ⟨congrArg Value.bool (by unfold accB; simp_all), E⟩
  have u := m
  refine Za rfl rfl (Zd rfl) (Za rfl rfl (Zgp om rfl rfl) (Za rfl rfl (Zh fa48_2 rfl) (Za rfl rfl (Zk n.at_ agg3 rfl rfl) (Za rfl rfl (Zeg rfl rfl) (Za rfl rfl (Zbg rfl rfl) (Za rfl rfl (Yb rfl rfl) (Za rfl rfl (Zf rfl) ?_)))))))
  refine Ze (Zb (H3 _ _ ?_))
  refine Zq ?_
  exact Zi [_] ⟨rfl, trivial⟩ ⟨congrArg Value.bool (by unfold accB; simp_all), E⟩
 have t := l
 have l := Yj l
 refine Zj rfl rfl (Zj rfl rfl (Za rfl rfl (Yb rfl rfl) (Za rfl rfl (Zd rfl) (Za rfl rfl (Zd rfl) (Za rfl rfl (Zgp om rfl rfl) (Za rfl rfl (Zh fa48_2 rfl) (Za rfl rfl (Zk n.at_ agg3 rfl rfl) ?_)))))))
 refine Za rfl rfl (Zeg rfl rfl) (Za rfl rfl (Zbg rfl rfl) (Za rfl rfl (Yb rfl rfl) (Za rfl rfl (Zf rfl) (Ze (Zb (H3 _ _ ?_))))))
 refine Zq ?_
 exact Zi [_] ⟨rfl, trivial⟩ ⟨congrArg Value.bool (by unfold accB; simp_all), E⟩

/-- impl.within -/
theorem Zbm {w : World} (n : Int) (a : Int) (b : Int) :
 Ctr Try.prog 44 #[(.int .i64 n), (.int .i64 a), (.int .i64 b)] w (fun v w' => v = .bool (decide (a ≤ n ∧ n ≤ b)) ∧ Ch [] w w') := by
 have E := Ch.refl [] w
 refine Ye (N := 15) (vs0 := [(.int .i64 n), (.int .i64 a), (.int .i64 b)]) Try.func44 rfl rfl rfl ?_
 refine Zg fun K1 H1 => ?_
 refine Zc (Za rfl rfl (Zf rfl) (Ze (Zb (H1 _ _ ?_))))
 refine Zg fun K2 H2 => ?_
 refine Zc (Za rfl rfl (Zd rfl) (Za rfl rfl (Zd rfl) (Za rfl rfl (Zra rfl rfl) (Za rfl rfl (Zd rfl) ?_))))
 refine Yp (d := 10) rfl (fun c => ?_) (fun c => ?_)
 ·have e := c
  have c := Yi c
  refine Za rfl rfl (Zd rfl) (Za rfl rfl (Zd rfl) (Za rfl rfl (Zgl rfl rfl) (Za rfl rfl (Ya rfl rfl) (Za rfl rfl (Zf rfl) (Ze (Zb (H2 _ _ ?_)))))))
  refine Zq ?_
  exact Zi [_] ⟨rfl, trivial⟩ ⟨congrArg Value.bool (by first | rfl | (rw [Bool.eq_iff_iff]; simp <;> omega) | (rw [Bool.eq_iff_iff]; simp_all; done) | simp_all), E⟩
 have e := c
 have c := Yj c
 refine Zj rfl rfl (Zj rfl rfl (Zj rfl rfl (Za rfl rfl (Yb rfl rfl) (Za rfl rfl (Zf rfl) (Ze (Zb (H2 _ _ ?_)))))))
 refine Zq ?_
 exact Zi [_] ⟨rfl, trivial⟩ ⟨congrArg Value.bool (by first | rfl | (rw [Bool.eq_iff_iff]; simp <;> omega) | (rw [Bool.eq_iff_iff]; simp_all; done) | simp_all), E⟩

/-- impl.IsValidPositions$1 -/
theorem Zaf {w : World} (s : Int) {b_n t_n : Nat} {n : Int} (a : Blk w b_n t_n [.int .i64 n]) (hn : 0 ≤ n) :
 Ctr Try.prog 82 #[(.int .i64 s), (.pointer (some ⟨b_n, 0, none⟩))] w (fun v w' => v = .bool (tt (inM n s)) ∧ Ch [] w w') := by
 have E := Ch.refl [] w
 refine Ye (N := 9) (vs0 := [(.int .i64 s), (.pointer (some ⟨b_n, 0, none⟩))]) Try.func82 rfl rfl rfl ?_
 refine Zg fun K1 H1 => ?_
 refine Zc (Za rfl rfl (Zf rfl) (Ze (Zb (H1 _ _ ?_))))
 refine Zg fun K2 H2 => ?_
 refine Zc (Za rfl rfl (Zd rfl) (Za rfl rfl (Yr a.at_ agg3 rfl rfl) (Za rfl rfl (Zjf om rfl rfl) (Za rfl rfl (Zpm rfl rfl) (Zm rfl rfl ?_)))))
 refine Step.call (Zl (xs := [.tmp 4, .const (Go.Value.int Go.IntKind.i64 0), .tmp 7]) fk44 rfl) (Zbm _ _ _ ) fun c W3 b => ?_
 obtain ⟨rfl, C3⟩ := b
 have d := C3.size
 have E := E.trans C3
 refine Za rfl rfl (Zf rfl) (Ze (Zb (H2 _ _ ?_)))
 refine Zq ?_
 exact Zi [_] ⟨rfl, trivial⟩ ⟨congrArg Value.bool Zhl, E⟩

/-- impl.isLetter -/
theorem Zcj {w : World} (n : Int) :
 Ctr Try.prog 83 #[(.int .i64 n)] w (fun v w' => v = .bool (decide (0 ≤ n ∧ n ≤ 8)) ∧ Ch [] w w') := by
 have E := Ch.refl [] w
 refine Ye (N := 5) (vs0 := [(.int .i64 n)]) Try.func83 rfl rfl rfl ?_
 refine Zg fun K1 H1 => ?_
 refine Zc (Za rfl rfl (Zf rfl) (Ze (Zb (H1 _ _ ?_))))
 refine Zg fun K2 H2 => ?_
 refine Zc (Za rfl rfl (Zd rfl) (Zm rfl rfl ?_))
 refine Step.call (Zl (xs := [.tmp 3, .const (Go.Value.int Go.IntKind.i64 0), .const (Go.Value.int Go.IntKind.i64 8)]) fk44 rfl) (Zbm _ _ _ ) fun b W3 a => ?_
 obtain ⟨rfl, C3⟩ := a
 have c := C3.size
 have E := E.trans C3
 refine Za rfl rfl (Zf rfl) (Ze (Zb (H2 _ _ ?_)))
 refine Zq ?_
 exact Zi [_] ⟨rfl, trivial⟩ ⟨congrArg Value.bool rfl, E⟩

/-- impl.IsValidPositions -/
theorem Xu {w : World} {LL_pL G : Nat} {x : Value} {pL : List Int} (h : Ls ics 1 w LL_pL G x pL) (pfirst : Int) (plast : Int) {LL_pF H : Nat} {y : Value} {pF : List Int} (i : Ls ics 1 w LL_pF H y pF) (pnull : Bool) :
 Ctr Try.prog 37 #[(.agg #[x, (.int .i64 pfirst), (.int .i64 plast), y, (.bool pnull)])] w (fun v w' => v = .bool (tt (Zcf pL pfirst plast pF)) ∧ Ch [] w w') := by
 obtain ⟨o, p, z⟩ := h.val
 subst z
 have ah := h.len
 have h := h.here (by decide)
 obtain ⟨s, t, A⟩ := i.val
 subst A
 have ai := i.len
 have i := i.here (by decide)
 have E := Ch.refl [] w
 refine Ye (N := 52) (vs0 := [(.agg #[(.slice o pL.length p), (.int .i64 pfirst), (.int .i64 plast), (.slice s pF.length t), (.bool pnull)])]) Try.func37 rfl rfl rfl ?_
 refine Zg fun K1 H1 => ?_
 refine Zc (Zm rfl rfl ?_)
 refine Qw rfl fun O W2 I C2 F => ?_
 have aU := C2.size
 have E := E.trans C2
 have aV := I.lt
 replace I : Blk W2 O 48 [(.slice o pL.length p), (.int .i64 pfirst), (.int .i64 plast), (.slice s pF.length t), (.bool pnull)] := I
 refine Za rfl rfl (Zf rfl) (Ze (Zb (H1 _ _ ?_)))
 refine Zg fun K3 H3 => ?_
 refine Zc (Za rfl rfl (Zh fa48_0 rfl) (Za rfl rfl (Zk I.at_ agg30 rfl rfl) (Za rfl rfl (Xc (by rw [el30]; rfl) rfl) (Zm rfl rfl ?_))))
 refine Yh zr3 fun B W4 K C4 aW => ?_
 have aX := C4.size
 have E := E.trans C4
 have aY := K.lt
 replace K : Blk W4 B 3 [(.int .i64 0)] := K
 refine Zm rfl rfl ?_
 refine Xm (off := 0) K sz3 rfl rfl rfl rfl fun W5 u C5 => ?_
 have aZ := C5.size
 have E := E.step C5 (lS om)
 replace u : Blk W5 B 3 [(.int .i64 ((pL.length : Nat) : Int))] := u
 refine Ze (Zb (H3 _ _ ?_))
 refine Zg fun K7 H7 => ?_
 refine Zg fun K8 H8 => ?_
 refine Zc (Za rfl rfl (Yr u.at_ agg3 rfl rfl) (Za rfl rfl (Zcp rfl rfl) (Za rfl rfl (Zd rfl) ?_)))
 refine Yp (d := 12) rfl (fun l => ?_) (fun l => ?_)
 ·have ap := l
  have l := Yi l
  refine Zj rfl rfl (Zj rfl rfl (Zj rfl rfl (Zj rfl rfl (Zj rfl rfl (Za rfl rfl (Ya rfl rfl) (Ze (Zb (H8 _ _ ?_))))))))
  refine Qf rfl ?_
  refine Zg fun a0 aq => ?_
  refine Zc (Za rfl rfl (Zf rfl) (Ze (Zb (aq _ _ ?_))))
  refine Zq (Zo ?_)
  exact Zi [_] ⟨rfl, trivial⟩ ⟨congrArg Value.bool (by first | exact Zgn ⟨fun e => ⟨by omega, by omega, a, e, Zfo C om⟩, fun e => e.2.2.2.1⟩ | exact Xp (fun e => by first | exact a e.2.2.1 | (have F := e.1; have b := e.2.1; omega) | (have b := Znv e f; unfold isL at b; omega) | (have b := Zob e g; exact c b))), E⟩
 have ap := l
 have l := Yj l
 refine Za rfl rfl (Zh fa48_3 rfl) ?_
 have P := (I.ch0 C4).ch C5 (nS om)
 refine Za rfl rfl (Zk P.at_ agg30 rfl rfl) (Za rfl rfl (Xc (by rw [el30]; rfl) rfl) (Za rfl rfl (Yr u.at_ agg3 rfl rfl) (Za rfl rfl (Zbg rfl rfl) (Za rfl rfl (Yb rfl rfl) (Ze (Zb (H8 _ _ ?_)))))))
 refine Zp rfl (fun m => ?_) (fun m => ?_)
 ·have Q := m
  have m := Yj (Qu m)
  refine Zg fun a1 au => ?_
  refine Zc (Za rfl rfl (Zf rfl) (Ze (Zb (au _ _ ?_))))
  refine Zq (Zo ?_)
  exact Zi [_] ⟨rfl, trivial⟩ ⟨congrArg Value.bool (by first | exact Zgn ⟨fun e => ⟨by omega, by omega, a, e, Zfo C om⟩, fun e => e.2.2.2.1⟩ | exact Xp (fun e => by first | exact a e.2.2.1 | (have F := e.1; have b := e.2.1; omega) | (have b := Znv e f; unfold isL at b; omega) | (have b := Zob e g; exact c b))), E⟩
 have Q := m
 have m := Yi (Qv m)
 refine Zu ?_
 refine Zb (H7 _ _ ?_)
 refine Zg fun a2 av => ?_
 refine Zc (Za rfl rfl (Zoc (xs := []) (ys := [.tmp 3]) rfl rfl) (Za rfl rfl (Zf rfl) (Ze (Zb (av _ _ ?_)))))
 refine Zg fun a3 R => ?_
 refine Zg fun a4 aw => ?_
 refine Zc (Za rfl rfl (Zh fa48_0 rfl) (Za rfl rfl (Zk P.at_ agg30 rfl rfl) (Za rfl rfl (Xc (by rw [el30]; rfl) rfl) (Za rfl rfl (Zd rfl) (Ze (Zb (aw _ _ ?_)))))))
 refine Zx ?_
 refine Xi (σ := Nat) (fun (k : Nat) => [(1, (.pointer (some ⟨O, 0, none⟩))), (4, (.func (.func 82) #[] #[(.pointer (some ⟨B, 0, none⟩))])), (21, (.slice o pL.length p)), (22, (.int .i64 ((pL.length : Nat) : Int))), (23, (.int .i64 ((k : Nat) : Int)))]) (fun (k : Nat) wx => Ch [] w wx ∧ W5.heap.size ≤ wx.heap.size ∧ (k ≤ pL.length) ∧ (PosP pL pF pL.length k) ∧ Blk wx O 48 [(.slice o pL.length p), (.int .i64 pfirst), (.int .i64 plast), (.slice s pF.length t), (.bool pnull)] ∧ Blk wx B 3 [(.int .i64 ((pL.length : Nat) : Int))]) (fun (k : Nat) => pL.length - k) 0 (sC4 rfl rfl rfl rfl (sC1 rfl (Sub.nil _))) ⟨E, (Nat.le_refl _), om, (Zsi _ _ _), P, u⟩ ?_
 rintro k a5 ⟨E, ax, a6, C, q, r⟩
 have D := E
 have aj := D.size
 have S := q.lt
 have T := r.lt
 refine Zg fun a7 ay => ?_
 refine Zc (Za rfl rfl (Xs rfl rfl) (Ze (Zb (ay _ _ ?_))))
 refine Zg fun a8 az => ?_
 refine Zp rfl (fun n => ?_) (fun n => ?_)
 ·have U := n
  have n := Yi n
  refine Zu ?_
  refine Zb (az _ _ ?_)
  refine Zg fun a9 V => ?_
  refine Zx ?_
  refine Zg fun ba aA => ?_
  refine Zc (Za rfl rfl (Zd rfl) (Zm rfl rfl ?_))
  have aB := h.ch0 D
  refine (Yw aB Xg el30 sz3 rfl rfl rfl om fun aC aD f X => ?_)
  refine Za rfl rfl (Yr X agg3 rfl rfl) (Za rfl rfl (Zf rfl) (Za rfl rfl (Zf rfl) (Ze (Zb (aA _ _ ?_)))))
  refine Zg fun bb ak => ?_
  refine Zc (Za rfl rfl (Zd rfl) (Zm rfl rfl ?_))
  refine Step.call (Zl (xs := [.tmp 28]) fk83 rfl) (Zcj _ ) fun aE bc Y => ?_
  obtain ⟨rfl, J⟩ := Y
  have aF := J.size
  have E := E.trans J
  refine Za rfl rfl (Zbh rfl) (Za rfl rfl (Zd rfl) ?_)
  refine Yp (d := 31) rfl (fun j => ?_) (fun j => ?_)
  ·have Z := j
   have j := Yj (Qu j)
   refine Zj rfl rfl (Zj rfl rfl (Zj rfl rfl (Zj rfl rfl (Zj rfl rfl (Zj rfl rfl (Zj rfl rfl (Zj rfl rfl ?_)))))))
   refine Za rfl rfl (Ya rfl rfl) (Ze (Zb (ak _ _ ?_)))
   refine Qf rfl ?_
   refine Zg fun be aG => ?_
   refine Zc (Za rfl rfl (Zf rfl) (Ze (Zb (aG _ _ ?_))))
   refine Zq (Yd (Zo (Zo (Yd (Zo ?_)))))
   clear R V
   exact Zi [_] ⟨rfl, trivial⟩ ⟨congrArg Value.bool (by first | exact Zgn ⟨fun e => ⟨by omega, by omega, a, e, Zfo C om⟩, fun e => e.2.2.2.1⟩ | exact Xp (fun e => by first | exact a e.2.2.1 | (have F := e.1; have b := e.2.1; omega) | (have b := Znv e f; unfold isL at b; omega) | (have b := Zob e g; exact c b))), E⟩
  have Z := j
  have j := Yi (Qv j)
  refine Za rfl rfl (Zd rfl) (Za rfl rfl (Zh fa48_3 rfl) ?_)
  have al := q.ch0 J
  refine Za rfl rfl (Zk al.at_ agg30 rfl rfl) (Za rfl rfl (Zd rfl) (Zm rfl rfl ?_))
  have aH := (i.ch0 D).ch0 J
  refine (Yw aH Xg el30 sz3 rfl rfl rfl om fun aI aa g ab => ?_)
  refine Za rfl rfl (Yr ab agg3 rfl rfl) (Zm rfl rfl ?_)
  have am := r.ch0 J
  refine Step.call (Zmm (xs := [.tmp 37]) (as' := [(.int .i64 aa), (.pointer (some ⟨B, 0, none⟩))]) fk82 rfl rfl rfl) (Zaf _ am om) fun aJ bf ac => ?_
  obtain ⟨rfl, L⟩ := ac
  have aK := L.size
  have E := E.trans L
  refine Za rfl rfl (Zbh rfl) (Za rfl rfl (Yb rfl rfl) (Ze (Zb (ak _ _ ?_))))
  refine Zp rfl (fun c => ?_) (fun c => ?_)
  ·have ad := c
   have c := bf_t (Qu c)
   refine Zg fun bg aL => ?_
   refine Zc (Za rfl rfl (Zf rfl) (Ze (Zb (aL _ _ ?_))))
   refine Zq (Yd (Zo (Zo (Yd (Zo ?_)))))
   clear R V
   exact Zi [_] ⟨rfl, trivial⟩ ⟨congrArg Value.bool (by first | exact Zgn ⟨fun e => ⟨by omega, by omega, a, e, Zfo C om⟩, fun e => e.2.2.2.1⟩ | exact Xp (fun e => by first | exact a e.2.2.1 | (have F := e.1; have b := e.2.1; omega) | (have b := Znv e f; unfold isL at b; omega) | (have b := Zob e g; exact c b))), E⟩
  have ad := c
  have c := bt_t (Qv c)
  refine Zu ?_
  refine Zw (Zb (V _ _ (Zc (Za rfl rfl (Yo om rfl rfl) (Za rfl rfl (Zd rfl) (Ze ?_))))))
  have aM := al.ch0 L
  have aN := am.ch0 L
  exact Zb (Exists.intro (k + 1) ⟨⟨E, om, om, (Zsd C f g j c), aM, aN⟩, sC4 rfl rfl rfl rfl (sC1 rfl (Sub.nil _)), (by first | omega | (dsimp only; omega))⟩)
 have U := n
 have n := Yj n
 refine Xe (Zr (Zr (Yu ?_)))
 refine Zb (R _ _ ?_)
 refine Zg fun bh an => ?_
 refine Zc (Za rfl rfl (Zd rfl) (Za rfl rfl (Zh fa48_1 rfl) (Za rfl rfl (Zk q.at_ agg3 rfl rfl) (Zm rfl rfl ?_))))
 refine Step.call (Zmm (xs := [.tmp 44]) (as' := [(.int .i64 pfirst), (.pointer (some ⟨B, 0, none⟩))]) fk82 rfl rfl rfl) (Zaf _ r om) fun aO bi ae => ?_
 obtain ⟨rfl, M⟩ := ae
 have aP := M.size
 have E := E.trans M
 refine Za rfl rfl (Zd rfl) ?_
 refine Yp (d := 46) rfl (fun a => ?_) (fun a => ?_)
 ·have af := a
  have a := bt_t a
  refine Za rfl rfl (Zd rfl) (Za rfl rfl (Zh fa48_2 rfl) ?_)
  have aQ := q.ch0 M
  refine Za rfl rfl (Zk aQ.at_ agg3 rfl rfl) (Zm rfl rfl ?_)
  have aR := r.ch0 M
  refine Step.call (Zmm (xs := [.tmp 49]) (as' := [(.int .i64 plast), (.pointer (some ⟨B, 0, none⟩))]) fk82 rfl rfl rfl) (Zaf _ aR om) fun aS bj ag => ?_
  obtain ⟨rfl, ao⟩ := ag
  have aT := ao.size
  have E := E.trans ao
  refine Za rfl rfl (Ya rfl rfl) (Za rfl rfl (Zf rfl) (Ze (Zb (an _ _ ?_))))
  refine Zq ?_
  exact Zi [_] ⟨rfl, trivial⟩ ⟨congrArg Value.bool (by first | exact Zgn ⟨fun e => ⟨by omega, by omega, a, e, Zfo C om⟩, fun e => e.2.2.2.1⟩ | exact Xp (fun e => by first | exact a e.2.2.1 | (have F := e.1; have b := e.2.1; omega) | (have b := Znv e f; unfold isL at b; omega) | (have b := Zob e g; exact c b))), E⟩
 have af := a
 have a := bf_t a
 refine Zj rfl rfl (Zj rfl rfl (Zj rfl rfl (Zj rfl rfl (Za rfl rfl (Yb rfl rfl) (Za rfl rfl (Zf rfl) (Ze (Zb (an _ _ ?_))))))))
 refine Zq ?_
 exact Zi [_] ⟨rfl, trivial⟩ ⟨congrArg Value.bool (by first | exact Zgn ⟨fun e => ⟨by omega, by omega, a, e, Zfo C om⟩, fun e => e.2.2.2.1⟩ | exact Xp (fun e => by first | exact a e.2.2.1 | (have F := e.1; have b := e.2.1; omega) | (have b := Znv e f; unfold isL at b; omega) | (have b := Zob e g; exact c b))), E⟩

/-- impl.stateSetOk -/
theorem Zcu {w : World} {LL_pL n : Nat} {f : Value} {pL : List Int} (a : Ls ics 1 w LL_pL n f pL) (pfirst : Int) (plast : Int) {LL_pF o : Nat} {g : Value} {pF : List Int} (b : Ls ics 1 w LL_pF o g pF) (pnull : Bool) (set : Int) :
 Ctr Try.prog 81 #[(.agg #[f, (.int .i64 pfirst), (.int .i64 plast), g, (.bool pnull)]), (.int .i64 set)] w (fun v w' => v = .bool (tt (Zcf pL pfirst plast pF ∧ inM (pL.length + 1) set)) ∧ Ch [] w w') := by
 obtain ⟨h, i, l⟩ := a.val
 subst l
 have r := a.len
 have a := a.here (by decide)
 obtain ⟨j, k, m⟩ := b.val
 subst m
 have s := b.len
 have b := b.here (by decide)
 have E := Ch.refl [] w
 refine Ye (N := 17) (vs0 := [(.agg #[(.slice h pL.length i), (.int .i64 pfirst), (.int .i64 plast), (.slice j pF.length k), (.bool pnull)]), (.int .i64 set)]) Try.func81 rfl rfl rfl ?_
 refine Zg fun K1 H1 => ?_
 refine Zc (Zm rfl rfl ?_)
 refine Qw rfl fun t W2 p C2 z => ?_
 have A := C2.size
 have E := E.trans C2
 have B := p.lt
 replace p : Blk W2 t 48 [(.slice h pL.length i), (.int .i64 pfirst), (.int .i64 plast), (.slice j pF.length k), (.bool pnull)] := p
 refine Za rfl rfl (Zf rfl) (Ze (Zb (H1 _ _ ?_)))
 refine Zg fun K3 H3 => ?_
 refine Zc (Za rfl rfl (Zy p.at_ agg48 sz48 rfl) (Zm rfl rfl ?_))
 have F4 := a.ch0 C2
 have F5 := b.ch0 C2
 refine Step.call (Zl (xs := [.tmp 5]) fk37 rfl) (Xu F4 _ _ F5 _ ) fun C W6 u => ?_
 obtain ⟨rfl, C6⟩ := u
 have D := C6.size
 have E := E.trans C6
 refine Za rfl rfl (Zd rfl) ?_
 refine Yp (d := 7) rfl (fun c => ?_) (fun c => ?_)
 ·have x := c
  have c := bt_t c
  first | have x7 := c.1 | skip
  refine Za rfl rfl (Zd rfl) (Za rfl rfl (Zh fa48_0 rfl) ?_)
  have F8 := p.ch0 C6
  refine Za rfl rfl (Zk F8.at_ agg30 rfl rfl) (Za rfl rfl (Xc (by rw [el30]; rfl) rfl) (Za rfl rfl (Yo om rfl rfl) (Za rfl rfl (Zjf om rfl rfl) (Za rfl rfl (Zpm rfl rfl) (Zm rfl rfl ?_)))))
  refine Step.call (Zl (xs := [.tmp 8, .const (Go.Value.int Go.IntKind.i64 0), .tmp 14]) fk44 rfl) (Zbm _ _ _ ) fun y W9 q => ?_
  obtain ⟨rfl, C9⟩ := q
  have F := C9.size
  have E := E.trans C9
  refine Za rfl rfl (Ya rfl rfl) (Za rfl rfl (Zf rfl) (Ze (Zb (H3 _ _ ?_))))
  refine Zq ?_
  exact Zi [_] ⟨rfl, trivial⟩ ⟨congrArg Value.bool (by first | exact Xp (fun e => c e.1) | (rw [Zhl]; exact Zgn ⟨fun e => ⟨c, e⟩, fun e => e.2⟩)), E⟩
 have x := c
 have c := bf_t c
 first | have x7 := c.1 | skip
 refine Zj rfl rfl (Zj rfl rfl (Zj rfl rfl (Zj rfl rfl (Zj rfl rfl (Zj rfl rfl (Zj rfl rfl (Zj rfl rfl ?_)))))))
 refine Za rfl rfl (Yb rfl rfl) (Za rfl rfl (Zf rfl) (Ze (Zb (H3 _ _ ?_))))
 refine Zq ?_
 exact Zi [_] ⟨rfl, trivial⟩ ⟨congrArg Value.bool (by first | exact Xp (fun e => c e.1) | (rw [Zhl]; exact Zgn ⟨fun e => ⟨c, e⟩, fun e => e.2⟩)), E⟩

/-- impl.AcceptsSet -/
theorem Zay {w : World} {LL_pL n : Nat} {f : Value} {pL : List Int} (a : Ls ics 1 w LL_pL n f pL) (pfirst : Int) (plast : Int) {LL_pF o : Nat} {g : Value} {pF : List Int} (b : Ls ics 1 w LL_pF o g pF) (pnull : Bool) (set : Int) :
 Ctr Try.prog 39 #[(.agg #[f, (.int .i64 pfirst), (.int .i64 plast), g, (.bool pnull)]), (.int .i64 set)] w (fun v w' => v = .bool (tt ((Zcf pL pfirst plast pF ∧ inM (pL.length + 1) set) ∧ accB plast pnull set = true)) ∧ Ch [] w w') := by
 obtain ⟨h, i, l⟩ := a.val
 subst l
 have r := a.len
 have a := a.here (by decide)
 obtain ⟨j, k, m⟩ := b.val
 subst m
 have s := b.len
 have b := b.here (by decide)
 have E := Ch.refl [] w
 refine Ye (N := 13) (vs0 := [(.agg #[(.slice h pL.length i), (.int .i64 pfirst), (.int .i64 plast), (.slice j pF.length k), (.bool pnull)]), (.int .i64 set)]) Try.func39 rfl rfl rfl ?_
 refine Zg fun K1 H1 => ?_
 refine Zc (Zm rfl rfl ?_)
 refine Qw rfl fun u W2 p C2 C => ?_
 have D := C2.size
 have E := E.trans C2
 have F := p.lt
 replace p : Blk W2 u 48 [(.slice h pL.length i), (.int .i64 pfirst), (.int .i64 plast), (.slice j pF.length k), (.bool pnull)] := p
 refine Za rfl rfl (Zf rfl) (Ze (Zb (H1 _ _ ?_)))
 refine Zg fun K3 H3 => ?_
 refine Zc (Za rfl rfl (Zy p.at_ agg48 sz48 rfl) (Za rfl rfl (Zd rfl) (Zm rfl rfl ?_)))
 have F4 := a.ch0 C2
 have F5 := b.ch0 C2
 refine Step.call (Zl (xs := [.tmp 5, .tmp 6]) fk81 rfl) (Zcu F4 _ _ F5 _ _ ) fun G W6 x => ?_
 obtain ⟨rfl, C6⟩ := x
 have H := C6.size
 have E := E.trans C6
 refine Za rfl rfl (Zd rfl) ?_
 refine Yp (d := 8) rfl (fun c => ?_) (fun c => ?_)
 ·have y := c
  have c := bt_t c
  have F8 := p.ch0 C6
  refine Za rfl rfl (Zy F8.at_ agg48 sz48 rfl) (Za rfl rfl (Zd rfl) (Zm rfl rfl ?_))
  have F9 := F4.ch0 C6
  have z := F5.ch0 C6
  refine Step.call (Zl (xs := [.tmp 9, .tmp 10]) fk80 rfl) (Zag F9 _ _ z _ _ ) fun A I q => ?_
  obtain ⟨rfl, t⟩ := q
  have B := t.size
  have E := E.trans t
  refine Za rfl rfl (Ya rfl rfl) (Za rfl rfl (Zf rfl) (Ze (Zb (H3 _ _ ?_))))
  refine Zq ?_
  exact Zi [_] ⟨rfl, trivial⟩ ⟨congrArg Value.bool (by first | exact Xp (fun e => c e.1) | (cases hb : accB plast pnull set <;> first | exact Zbl ⟨c, rfl⟩ | exact Xp (fun e => by cases e.2))), E⟩
 have y := c
 have c := bf_t c
 refine Zj rfl rfl (Zj rfl rfl (Zj rfl rfl (Za rfl rfl (Yb rfl rfl) (Za rfl rfl (Zf rfl) (Ze (Zb (H3 _ _ ?_)))))))
 refine Zq ?_
 exact Zi [_] ⟨rfl, trivial⟩ ⟨congrArg Value.bool (by first | exact Xp (fun e => c e.1) | (cases hb : accB plast pnull set <;> first | exact Zbl ⟨c, rfl⟩ | exact Xp (fun e => by cases e.2))), E⟩

/-- impl.tokenOk -/
theorem Ziq {w : World} (t : Token) :
 Ctr Try.prog 104 #[(.agg #[(.int .i64 t.kind), (.int .i64 t.letter), (.int .i64 t.low), (.int .i64 t.high)])] w (fun v w' => v = .bool (Zeh t) ∧ Ch [] w w') := by
 have E := Ch.refl [] w
 refine Ye (N := 48) (vs0 := [(.agg #[(.int .i64 t.kind), (.int .i64 t.letter), (.int .i64 t.low), (.int .i64 t.high)])]) Try.func104 rfl rfl rfl ?_
 refine Zg fun K1 H1 => ?_
 refine Zc (Zm rfl rfl ?_)
 refine Qw rfl fun C W2 b C2 Z => ?_
 have aa := C2.size
 have E := E.trans C2
 have ab := b.lt
 replace b : Blk W2 C 84 [(.int .i64 t.kind), (.int .i64 t.letter), (.int .i64 t.low), (.int .i64 t.high)] := b
 refine Za rfl rfl (Zf rfl) (Ze (Zb (H1 _ _ ?_)))
 refine Zg fun K3 H3 => ?_
 refine Zg fun K4 H4 => ?_
 refine Zc (Za rfl rfl (Zh fa84_0 rfl) (Za rfl rfl (Zk b.at_ agg3 rfl rfl) (Ze (Zb (H4 _ _ ?_)))))
 refine Zx ?_
 refine Zg fun K5 H5 => ?_
 refine Zc (Za rfl rfl (Yy rfl rfl) (Za rfl rfl (Zf rfl) (Ze (Zb (H5 _ _ ?_)))))
 refine Zp rfl (fun i => ?_) (fun i => ?_)
 ·have D := i
  have i := Yi i
  refine Zg fun K7 H7 => ?_
  refine Zc (Za rfl rfl (Zh fa84_1 rfl) (Za rfl rfl (Zk b.at_ agg3 rfl rfl) (Zm rfl rfl ?_)))
  refine Step.call (Zl (xs := [.tmp 8]) fk83 rfl) (Zcj _ ) fun ac W8 F => ?_
  obtain ⟨rfl, C8⟩ := F
  have ad := C8.size
  have E := E.trans C8
  refine Za rfl rfl (Zd rfl) ?_
  refine Yp (d := 10) rfl (fun c => ?_) (fun c => ?_)
  ·have G := c
   have c := Yi c
   refine Za rfl rfl (Zh fa84_2 rfl) ?_
   have A := b.ch0 C8
   refine Za rfl rfl (Zk A.at_ agg3 rfl rfl) (Za rfl rfl (Yy rfl rfl) (Za rfl rfl (Ya rfl rfl) (Za rfl rfl (Zd rfl) ?_)))
   refine Yp (d := 15) rfl (fun e => ?_) (fun e => ?_)
   ·have o := e
    have e := Yi e
    refine Za rfl rfl (Zh fa84_3 rfl) (Za rfl rfl (Zk A.at_ agg3 rfl rfl) (Za rfl rfl (Yy rfl rfl) (Za rfl rfl (Ya rfl rfl) (Za rfl rfl (Zf rfl) (Ze (Zb (H7 _ _ ?_)))))))
    refine Zq (Yd (Zo ?_))
    exact Zi [_] ⟨rfl, trivial⟩ ⟨congrArg Value.bool (by rw [Bool.eq_iff_iff]; simp only [Zeh, decide_eq_true_eq, Bool.false_eq_true, false_iff, true_iff, Bool.and_eq_true, List.cons.injEq, and_true, true_and, Int.not_le]; unfold arT; (repeat' split) <;> omega), E⟩
   have o := e
   have e := Yj e
   refine Zj rfl rfl (Zj rfl rfl (Zj rfl rfl (Za rfl rfl (Yb rfl rfl) (Za rfl rfl (Zf rfl) (Ze (Zb (H7 _ _ ?_)))))))
   refine Zq (Yd (Zo ?_))
   exact Zi [_] ⟨rfl, trivial⟩ ⟨congrArg Value.bool (by rw [Bool.eq_iff_iff]; simp only [Zeh, decide_eq_true_eq, Bool.false_eq_true, false_iff, true_iff, Bool.and_eq_true, List.cons.injEq, and_true, true_and, Int.not_le]; unfold arT; (repeat' split) <;> omega), E⟩
  have G := c
  have c := Yj c
  refine Zj rfl rfl (Zj rfl rfl (Zj rfl rfl (Za rfl rfl (Yb rfl rfl) (Za rfl rfl (Zd rfl) (Zj rfl rfl (Zj rfl rfl (Zj rfl rfl ?_)))))))
  refine Za rfl rfl (Yb rfl rfl) (Za rfl rfl (Zf rfl) (Ze (Zb (H7 _ _ ?_))))
  refine Zq (Yd (Zo ?_))
  exact Zi [_] ⟨rfl, trivial⟩ ⟨congrArg Value.bool (by rw [Bool.eq_iff_iff]; simp only [Zeh, decide_eq_true_eq, Bool.false_eq_true, false_iff, true_iff, Bool.and_eq_true, List.cons.injEq, and_true, true_and, Int.not_le]; unfold arT; (repeat' split) <;> omega), E⟩
 have D := i
 have i := Yj i
 refine Zg fun ae H => ?_
 refine Zc (Za rfl rfl (Yy rfl rfl) (Za rfl rfl (Zf rfl) (Ze (Zb (H _ _ ?_)))))
 refine Zp rfl (fun f => ?_) (fun f => ?_)
 ·have p := f
  have f := Yi f
  refine Zg fun af q => ?_
  refine Zc (Za rfl rfl (Zh fa84_1 rfl) (Za rfl rfl (Zk b.at_ agg3 rfl rfl) (Za rfl rfl (Yy rfl rfl) (Za rfl rfl (Zd rfl) ?_))))
  refine Yp (d := 25) rfl (fun g => ?_) (fun g => ?_)
  ·have r := g
   have g := Yi g
   refine Za rfl rfl (Zh fa84_2 rfl) (Za rfl rfl (Zk b.at_ agg3 rfl rfl) (Za rfl rfl (Zh fa84_3 rfl) (Za rfl rfl (Zk b.at_ agg3 rfl rfl) (Zm rfl rfl ?_))))
   refine Step.call (Zl (xs := [.tmp 27, .const (Go.Value.int Go.IntKind.i64 0), .tmp 29]) fk44 rfl) (Zbm _ _ _ ) fun I ag s => ?_
   obtain ⟨rfl, u⟩ := s
   have J := u.size
   have E := E.trans u
   refine Za rfl rfl (Ya rfl rfl) (Za rfl rfl (Zd rfl) ?_)
   refine Yp (d := 32) rfl (fun h => ?_) (fun h => ?_)
   ·have x := h
    have h := Yi h
    refine Za rfl rfl (Zh fa84_3 rfl) ?_
    have K := b.ch0 u
    refine Za rfl rfl (Zk K.at_ agg3 rfl rfl) (Zm rfl rfl ?_)
    refine Step.call (Zl (xs := [.tmp 34, .const (Go.Value.int Go.IntKind.i64 1), .const (Go.Value.int Go.IntKind.i64 3)]) fk44 rfl) (Zbm _ _ _ ) fun L ah y => ?_
    obtain ⟨rfl, B⟩ := y
    have M := B.size
    have E := E.trans B
    refine Za rfl rfl (Ya rfl rfl) (Za rfl rfl (Zf rfl) (Ze (Zb (q _ _ ?_))))
    refine Zq (Yd (Zo ?_))
    exact Zi [_] ⟨rfl, trivial⟩ ⟨congrArg Value.bool (by rw [Bool.eq_iff_iff]; simp only [Zeh, decide_eq_true_eq, Bool.false_eq_true, false_iff, true_iff, Bool.and_eq_true, List.cons.injEq, and_true, true_and, Int.not_le]; unfold arT; (repeat' split) <;> omega), E⟩
   have x := h
   have h := Yj h
   refine Zj rfl rfl (Zj rfl rfl (Zj rfl rfl (Za rfl rfl (Yb rfl rfl) (Za rfl rfl (Zf rfl) (Ze (Zb (q _ _ ?_)))))))
   refine Zq (Yd (Zo ?_))
   exact Zi [_] ⟨rfl, trivial⟩ ⟨congrArg Value.bool (by rw [Bool.eq_iff_iff]; simp only [Zeh, decide_eq_true_eq, Bool.false_eq_true, false_iff, true_iff, Bool.and_eq_true, List.cons.injEq, and_true, true_and, Int.not_le]; unfold arT; (repeat' split) <;> omega), E⟩
  have r := g
  have g := Yj g
  refine Zj rfl rfl (Zj rfl rfl (Zj rfl rfl (Zj rfl rfl (Zj rfl rfl (Za rfl rfl (Yb rfl rfl) (Za rfl rfl (Zd rfl) (Zj rfl rfl ?_)))))))
  refine Zj rfl rfl (Zj rfl rfl (Za rfl rfl (Yb rfl rfl) (Za rfl rfl (Zf rfl) (Ze (Zb (q _ _ ?_))))))
  refine Zq (Yd (Zo ?_))
  exact Zi [_] ⟨rfl, trivial⟩ ⟨congrArg Value.bool (by rw [Bool.eq_iff_iff]; simp only [Zeh, decide_eq_true_eq, Bool.false_eq_true, false_iff, true_iff, Bool.and_eq_true, List.cons.injEq, and_true, true_and, Int.not_le]; unfold arT; (repeat' split) <;> omega), E⟩
 have p := f
 have f := Yj f
 refine Zg fun ai j => ?_
 refine Zg fun aj O => ?_
 refine Zc (Za rfl rfl (Yy rfl rfl) (Za rfl rfl (Zf rfl) (Ze (Zb (O _ _ ?_)))))
 refine Zp rfl (fun a => ?_) (fun a => ?_)
 ·have k := a
  have a := Yi a
  refine Zu ?_
  refine Zb (j _ _ ?_)
  refine Zas rfl k ?_
  refine Zg fun ak P => ?_
  refine Zc (Za rfl rfl (Zy b.at_ agg84 sz84 rfl) (Za rfl rfl (Zh fa84_0 rfl) (Za rfl rfl (Zk b.at_ agg3 rfl rfl) (Za rfl rfl (Yn (parts := [(0, .tmp 45)]) (cells := [(.int .i64 t.kind), (.int .i64 0), (.int .i64 0), (.int .i64 0)]) zr84 pl84 rfl rfl) (Za rfl rfl (Zkq [t.kind, t.letter, t.low, t.high] [t.kind, 0, 0, 0] ist84 rfl rfl rfl) (Za rfl rfl (Zf rfl) (Ze ?_)))))))
  refine Zb (P _ _ ?_)
  refine Zq (Yd (Zo ?_))
  exact Zi [_] ⟨rfl, trivial⟩ ⟨congrArg Value.bool (by rw [Bool.eq_iff_iff]; simp only [Zeh, decide_eq_true_eq, Bool.false_eq_true, false_iff, true_iff, Bool.and_eq_true, List.cons.injEq, and_true, true_and, Int.not_le]; unfold arT; (repeat' split) <;> omega), E⟩
 have k := a
 have a := Yj a
 refine Zg fun al Q => ?_
 refine Zc (Za rfl rfl (Yy rfl rfl) (Za rfl rfl (Zf rfl) (Ze (Zb (Q _ _ ?_)))))
 refine Zp rfl (fun a => ?_) (fun a => ?_)
 ·have l := a
  have a := Yi a
  refine Zu ?_
  refine Zb (j _ _ ?_)
  refine Zas rfl l ?_
  refine Zg fun am R => ?_
  refine Zc (Za rfl rfl (Zy b.at_ agg84 sz84 rfl) (Za rfl rfl (Zh fa84_0 rfl) (Za rfl rfl (Zk b.at_ agg3 rfl rfl) (Za rfl rfl (Yn (parts := [(0, .tmp 45)]) (cells := [(.int .i64 t.kind), (.int .i64 0), (.int .i64 0), (.int .i64 0)]) zr84 pl84 rfl rfl) (Za rfl rfl (Zkq [t.kind, t.letter, t.low, t.high] [t.kind, 0, 0, 0] ist84 rfl rfl rfl) (Za rfl rfl (Zf rfl) (Ze ?_)))))))
  refine Zb (R _ _ ?_)
  refine Zq (Yd (Zo ?_))
  exact Zi [_] ⟨rfl, trivial⟩ ⟨congrArg Value.bool (by rw [Bool.eq_iff_iff]; simp only [Zeh, decide_eq_true_eq, Bool.false_eq_true, false_iff, true_iff, Bool.and_eq_true, List.cons.injEq, and_true, true_and, Int.not_le]; unfold arT; (repeat' split) <;> omega), E⟩
 have l := a
 have a := Yj a
 refine Zg fun an S => ?_
 refine Zc (Za rfl rfl (Yy rfl rfl) (Za rfl rfl (Zf rfl) (Ze (Zb (S _ _ ?_)))))
 refine Zp rfl (fun a => ?_) (fun a => ?_)
 ·have m := a
  have a := Yi a
  refine Zu ?_
  refine Zb (j _ _ ?_)
  refine Zas rfl m ?_
  refine Zg fun ao T => ?_
  refine Zc (Za rfl rfl (Zy b.at_ agg84 sz84 rfl) (Za rfl rfl (Zh fa84_0 rfl) (Za rfl rfl (Zk b.at_ agg3 rfl rfl) (Za rfl rfl (Yn (parts := [(0, .tmp 45)]) (cells := [(.int .i64 t.kind), (.int .i64 0), (.int .i64 0), (.int .i64 0)]) zr84 pl84 rfl rfl) (Za rfl rfl (Zkq [t.kind, t.letter, t.low, t.high] [t.kind, 0, 0, 0] ist84 rfl rfl rfl) (Za rfl rfl (Zf rfl) (Ze ?_)))))))
  refine Zb (T _ _ ?_)
  refine Zq (Yd (Zo ?_))
  exact Zi [_] ⟨rfl, trivial⟩ ⟨congrArg Value.bool (by rw [Bool.eq_iff_iff]; simp only [Zeh, decide_eq_true_eq, Bool.false_eq_true, false_iff, true_iff, Bool.and_eq_true, List.cons.injEq, and_true, true_and, Int.not_le]; unfold arT; (repeat' split) <;> omega), E⟩
 have m := a
 have a := Yj a
 refine Zg fun ap U => ?_
 refine Zc (Za rfl rfl (Yy rfl rfl) (Za rfl rfl (Zf rfl) (Ze (Zb (U _ _ ?_)))))
 refine Zp rfl (fun a => ?_) (fun a => ?_)
 ·have n := a
  have a := Yi a
  refine Zu ?_
  refine Zb (j _ _ ?_)
  refine Zas rfl n ?_
  refine Zg fun aq V => ?_
  refine Zc (Za rfl rfl (Zy b.at_ agg84 sz84 rfl) (Za rfl rfl (Zh fa84_0 rfl) (Za rfl rfl (Zk b.at_ agg3 rfl rfl) (Za rfl rfl (Yn (parts := [(0, .tmp 45)]) (cells := [(.int .i64 t.kind), (.int .i64 0), (.int .i64 0), (.int .i64 0)]) zr84 pl84 rfl rfl) (Za rfl rfl (Zkq [t.kind, t.letter, t.low, t.high] [t.kind, 0, 0, 0] ist84 rfl rfl rfl) (Za rfl rfl (Zf rfl) (Ze ?_)))))))
  refine Zb (V _ _ ?_)
  refine Zq (Yd (Zo ?_))
  exact Zi [_] ⟨rfl, trivial⟩ ⟨congrArg Value.bool (by rw [Bool.eq_iff_iff]; simp only [Zeh, decide_eq_true_eq, Bool.false_eq_true, false_iff, true_iff, Bool.and_eq_true, List.cons.injEq, and_true, true_and, Int.not_le]; unfold arT; (repeat' split) <;> omega), E⟩
 have n := a
 have a := Yj a
 refine Zc (Za rfl rfl (Yy rfl rfl) (Za rfl rfl (Zf rfl) (Ze (Zb (j _ _ ?_)))))
 refine Zp rfl (fun a => ?_) (fun a => ?_)
 ·have z := a
  have a := Yi a
  refine Zg fun au X => ?_
  refine Zc (Za rfl rfl (Zy b.at_ agg84 sz84 rfl) (Za rfl rfl (Zh fa84_0 rfl) (Za rfl rfl (Zk b.at_ agg3 rfl rfl) (Za rfl rfl (Yn (parts := [(0, .tmp 45)]) (cells := [(.int .i64 t.kind), (.int .i64 0), (.int .i64 0), (.int .i64 0)]) zr84 pl84 rfl rfl) (Za rfl rfl (Zkq [t.kind, t.letter, t.low, t.high] [t.kind, 0, 0, 0] ist84 rfl rfl rfl) (Za rfl rfl (Zf rfl) (Ze ?_)))))))
  refine Zb (X _ _ ?_)
  refine Zq (Yd (Zo ?_))
  exact Zi [_] ⟨rfl, trivial⟩ ⟨congrArg Value.bool (by rw [Bool.eq_iff_iff]; simp only [Zeh, decide_eq_true_eq, Bool.false_eq_true, false_iff, true_iff, Bool.and_eq_true, List.cons.injEq, and_true, true_and, Int.not_le]; unfold arT; (repeat' split) <;> omega), E⟩
 have z := a
 have a := Yj a
 refine Zu ?_
 refine Zw (Zb (H3 _ _ ?_))
 refine Zg fun av Y => ?_
 refine Zc (Za rfl rfl (Zf rfl) (Ze (Zb (Y _ _ ?_))))
 refine Zq ?_
 exact Zi [_] ⟨rfl, trivial⟩ ⟨congrArg Value.bool (by rw [Bool.eq_iff_iff]; simp only [Zeh, decide_eq_true_eq, Bool.false_eq_true, false_iff, true_iff, Bool.and_eq_true, List.cons.injEq, and_true, true_and, Int.not_le]; unfold arT; (repeat' split) <;> omega), E⟩

/-- slices.Clone[[]*impl.tree,*impl.tree] -/
theorem Zbe {w : World} {LL_s j : Nat} {b : Value} {s : List Addr} (a : Ls acs 1 w LL_s j b s) (hb : s.length ≤ 1048576) :
 Ctr Try.prog 105 #[b] w (fun v w' => Ol acs 88 1 w' v (s) ∧ Lo w.heap.size v ∧ Ch [] w w') := by
 obtain ⟨l, m, c⟩ := a.val
 subst c
 have x := a.len
 have a := a.here (by decide)
 have E := Ch.refl [] w
 refine Ye (N := 8) (vs0 := [(.slice l s.length m)]) Try.func105 rfl rfl rfl ?_
 refine Zg fun K1 H1 => ?_
 refine Zc (Za rfl rfl (Zf rfl) (Ze (Zb (H1 _ _ ?_))))
 refine Zg fun K2 H2 => ?_
 refine Zg fun K3 H3 => ?_
 refine Zc (Za rfl rfl (Zd rfl) (Za rfl rfl (Zum (by rw [el129]; rfl) rfl rfl) (Ze (Zb (H3 _ _ ?_)))))
 refine Zp rfl (fun d => ?_) (fun d => ?_)
 ·have y := d
  refine Zg fun K5 H5 => ?_
  refine Zc (Za rfl rfl (Zf rfl) (Ze (Zb (H5 _ _ ?_))))
  refine Zq (Zo ?_)
  have n : Ol acs 88 1 w (.slice none 0 0) (s) := by
   have hx := Ol.nil (cs := acs) (e := 88) (k := 1) w
   first | (have hn := Ls.none a d; subst hn; exact hx) | exact hx
  exact Zi [_] ⟨rfl, trivial⟩ ⟨n, Lo.nil _, E⟩
 have y := d
 refine Zu ?_
 refine Zb (H2 _ _ ?_)
 refine Zg fun K7 H7 => ?_
 refine Zc (Zm rfl rfl ?_)
 refine Zab (k := 1) acs el129 sz88 fun H W8 r f C8 => ?_
 have I := C8.size
 have E := E.trans C8
 obtain ⟨z, A, rfl, B, t⟩ := r.opn
 refine Za rfl rfl (Zd rfl) (Zm rfl rfl ?_)
 have C := a.ch0 C8
 refine Xn (cs := acs) el129 sz88 by88 zr88 rfl (by decide) Zhq r C rfl rfl bd bd f om fun D W9 h o F C9 => ?_
 have J := C9.size
 have E := E.step C9 (fun i hi => .inl (by have K := f _ hi; omega))
 replace h : Ol acs 88 1 W9 D s := h
 obtain ⟨p, q, rfl, G, u⟩ := h.opn
 refine Za rfl rfl (Zf rfl) (Ze (Zb (H7 _ _ ?_)))
 refine Zq ?_
 have g : Ol acs 88 1 W9 (.slice p (s).length q) (s) := by
  have hx := h
  first | (have hn := Ls.none a d; subst hn; exact hx) | exact hx
 exact Zi [_] ⟨rfl, trivial⟩ ⟨g, Lo.down o om, E⟩

/-- impl.treeOf -/
theorem Zca {w : World} {LL_e ao : Nat} {O : Value} {e : List Token} (u : Ls Token.cs 4 w LL_e ao O e) (hb : e.length ≤ 1048576) :
 Ctr Try.prog 66 #[(.agg #[O])] w (fun v w' => ((Qx e) = none ∧ v = .pointer none ∨ ∃ t p, (Qx e) = some t ∧ v = .pointer (some p) ∧ TrAt w' w.heap.size w'.heap.size p t) ∧ Ch [] w w') := by
 obtain ⟨z, A, P⟩ := u.val
 subst P
 have a6 := u.len
 have u := u.here (by decide)
 have E := Ch.refl [] w
 refine Ye (N := 56) (vs0 := [(.agg #[(.slice z e.length A)])]) Try.func66 rfl rfl rfl ?_
 refine Zg fun K1 H1 => ?_
 refine Zc (Zm rfl rfl ?_)
 refine Qw rfl fun a7 W2 ak C2 b4 => ?_
 have b5 := C2.size
 have E := E.trans C2
 have b6 := ak.lt
 replace ak : Blk W2 a7 44 [(.slice z e.length A)] := ak
 refine Za rfl rfl (Zf rfl) (Ze (Zb (H1 _ _ ?_)))
 refine Zg fun K3 H3 => ?_
 refine Zc (Zm rfl rfl ?_)
 refine Zab (k := 1) acs el129 sz88 fun b7 W4 aL ap C4 => ?_
 have b8 := C4.size
 have E := E.trans C4
 obtain ⟨Q, R, rfl, a8, aM⟩ := aL.opn
 refine Za rfl rfl (Zf rfl) (Ze (Zb (H3 _ _ ?_)))
 refine Zg fun K5 H5 => ?_
 refine Zg fun K6 H6 => ?_
 refine Zc (Za rfl rfl (Zh fa44_0 rfl) ?_)
 have F7 := ak.ch0 C4
 refine Za rfl rfl (Zk F7.at_ agg42 rfl rfl) (Za rfl rfl (Xc (by rw [el42]; rfl) rfl) (Za rfl rfl (Zd rfl) (Ze (Zb (H6 _ _ ?_)))))
 refine Zx ?_
 have S : Ol acs 88 1 W4 (.slice Q (([] : List Addr)).length R) (([] : List Addr)) := by
  have hx := aL
  exact hx
 refine Xi (σ := Nat × List Addr × List Tr × Value) (fun ⟨i, ps, st, sv⟩ => [(3, sv), (11, (.slice z e.length A)), (12, (.int .i64 ((e.length : Nat) : Int))), (13, (.int .i64 ((i : Nat) : Int)))]) (fun ⟨i, ps, st, sv⟩ wx => Ch [] w wx ∧ W4.heap.size ≤ wx.heap.size ∧ (i ≤ e.length) ∧ (ps.length = st.length) ∧ (st.length ≤ i) ∧ (prs [] (e.take i) = some st) ∧ Ol acs 88 1 wx sv ps ∧ Lo W2.heap.size sv ∧ Tks wx w.heap.size sv ps st) (fun ⟨i, ps, st, sv⟩ => e.length - i) (0, ([] : List Addr), ([] : List Tr), (.slice Q (([] : List Addr)).length R)) (sC4 rfl rfl rfl rfl (Sub.nil _)) ⟨E, (Nat.le_refl _), om, rfl, (Nat.le_refl _), rfl, S, ap, (Tks.nil _ _ _)⟩ ?_
 rintro ⟨i, ps, st, sv⟩ R9 ⟨E, a9, hi, hl, hs, hp, x, m, tks⟩
 have T := E
 have aN := T.size
 obtain ⟨Asv, Csv, rfl, lsv, hisv⟩ := x.opn
 refine Zg fun b9 ba => ?_
 refine Zc (Za rfl rfl (Xs rfl rfl) (Ze (Zb (ba _ _ ?_))))
 refine Zg fun ca aO => ?_
 refine Zp rfl (fun n => ?_) (fun n => ?_)
 ·have aq := n
  have n := Yi n
  refine Zu ?_
  refine Zb (aO _ _ ?_)
  refine Zg fun cb au => ?_
  refine Zx ?_
  refine Zg fun cc bb => ?_
  refine Zc (Zm rfl rfl ?_)
  have bc := u.ch0 T
  refine (Yw bc Token.len el42 sz84 rfl rfl rfl om fun av a r aw => ?_)
  have cd := Ztq a.kind
  refine Za rfl rfl (Zy aw agg84 sz84 rfl) (Zm rfl rfl ?_)
  refine Yh zr84 fun ax be al am ce => ?_
  have bf := am.size
  have E := E.trans am
  have cf := al.lt
  replace al : Blk be ax 84 [(.int .i64 0), (.int .i64 0), (.int .i64 0), (.int .i64 0)] := al
  refine Zm rfl rfl ?_
  refine Zn (off := 0) 4 al sz84 rfl (us := [(.int .i64 a.kind), (.int .i64 a.letter), (.int .i64 a.low), (.int .i64 a.high)]) rfl rfl rfl rfl fun aP h an => ?_
  have bg := an.size
  have E := E.step an (lS om)
  replace h : Blk aP ax 84 [(.int .i64 a.kind), (.int .i64 a.letter), (.int .i64 a.low), (.int .i64 a.high)] := h
  refine Ze (Zb (bb _ _ ?_))
  refine Zg fun cg bh => ?_
  refine Zc (Za rfl rfl (Zf rfl) (Ze (Zb (bh _ _ ?_))))
  refine Zg fun bi bj => ?_
  have l : ∀ (lj : KL), Go.KLib.Sub [(3, (.slice Asv (ps).length Csv)), (5, (.pointer (some ⟨ax, 0, none⟩))), (6, (.int .i64 (arK a.kind))), (11, (.slice z e.length A)), (12, (.int .i64 ((e.length : Nat) : Int))), (13, (.int .i64 ((i : Nat) : Int))), (14, (.bool (decide (((i : Nat) : Int) < ((e.length : Nat) : Int))))), (15, (.pointer (some av))), (16, (.agg #[(.int .i64 a.kind), (.int .i64 a.letter), (.int .i64 a.low), (.int .i64 a.high)]))] lj → bi lj aP := by
   intro lj U
   refine bj _ _ (Znx U ?_)
   refine Zg fun ci bk => ?_
   refine Zc (Za rfl rfl (Zd rfl) (Za rfl rfl (Xc (by rw [el129]; rfl) rfl) (Za rfl rfl (Zd rfl) (Za rfl rfl (Zav om rfl rfl) (Za rfl rfl (Zf rfl) (Ze (Zb (bk _ _ ?_))))))))
   refine Zg fun cj ay => ?_
   refine Zg fun ck aQ => ?_
   refine Zc (Za rfl rfl (Zy h.at_ agg84 sz84 rfl) (Zm rfl rfl ?_))
   refine Step.call (Zl (xs := [.tmp 29]) fk104 rfl) (Ziq a ) fun bm cl az => ?_
   obtain ⟨rfl, V⟩ := az
   have bn := V.size
   have E := E.trans V
   refine Za rfl rfl (Zbh rfl) (Za rfl rfl (Zd rfl) ?_)
   refine Yp (d := 32) rfl (fun f => ?_) (fun f => ?_)
   ·have aA := f
    have f := Qu f
    refine Zj rfl rfl (Zj rfl rfl (Za rfl rfl (Ya rfl rfl) (Ze (Zb (aQ _ _ ?_)))))
    refine Qf rfl ?_
    refine Zg fun cm bp => ?_
    refine Zc (Za rfl rfl (Zf rfl) (Ze (Zb (bp _ _ ?_))))
    refine Zq (Zo (Yd (Zo (Zo (Yd (Zo ?_))))))
    clear H5 au ay
    exact Zi [_] ⟨rfl, trivial⟩ ⟨.inl ⟨(by first | exact Zfs hp om om | exact Zit hp r (Zjw (by first | exact .inl f | (right; omega)))), rfl⟩, E⟩
   have aA := f
   have f := Qv f
   refine Za rfl rfl (Zd rfl) (Za rfl rfl (Xs rfl rfl) (Za rfl rfl (Yb rfl rfl) (Ze (Zb (aQ _ _ ?_)))))
   refine Zp rfl (fun o => ?_) (fun o => ?_)
   ·have aB := o
    have o := Yi o
    refine Zg fun cn bq => ?_
    refine Zc (Za rfl rfl (Zf rfl) (Ze (Zb (bq _ _ ?_))))
    refine Zq (Zo (Yd (Zo (Zo (Yd (Zo ?_))))))
    clear H5 au ay
    exact Zi [_] ⟨rfl, trivial⟩ ⟨.inl ⟨(by first | exact Zfs hp om om | exact Zit hp r (Zjw (by first | exact .inl f | (right; omega)))), rfl⟩, E⟩
   have aB := o
   have o := Yj o
   refine Zu ?_
   refine Zb (ay _ _ ?_)
   refine Zg fun co br => ?_
   refine Xb [] 8 mixed rfl fun aR X => ?_
   have bs := X.size
   have E := E.trans X
   have bu := (h.ch0 V).ch0 X
   refine dT 0 rfl rfl rfl (Yq bu.at_ (fun i hi => absurd hi List.not_mem_nil) agg84 sz84 rfl ?_)
   refine dV 1 rfl rfl rfl (fun _ => Zd rfl) (dV 2 rfl rfl rfl (fun _ => Zd rfl) ?_)
   have aS := (((x.ch0 am).ch an (dS m hisv om)).ch0 V).ch0 X
   refine dT 3 rfl rfl rfl (Zwi (ys := (ps.drop ((((ps.length : Nat) : Int) - (arK a.kind)).toNat))) ((((ps.length : Nat) : Int) - (arK a.kind)).toNat) ps.length aS Zao el129 sz88 rfl ⟨_, _, rfl, by omega⟩ rfl om om (Zow _ _) fun bv Y aT aU => ?_)
   obtain ⟨bw, bx, rfl, bz, bA⟩ := Y.opn
   refine dO 4 (Zz rfl rfl rfl ?_)
   refine Step.call (Zl (xs := [.tmp 39]) fk105 rfl) (Zbe Y.ls om) fun bB bC B => ?_
   obtain ⟨B, Z, aa⟩ := B
   have bD := aa.size
   have E := E.trans aa
   obtain ⟨D, F, rfl, aV, aC⟩ := B.opn
   have G : Ch [] aR bC := ((Ch.refl _ _).trans aa)
   refine ⟨G, ?_⟩
   refine dV 5 rfl rfl rfl (fun _ => Yn (parts := [(0, .tmp 36), (1, .tmp 40)]) (cells := [(.int .i64 a.kind), (.int .i64 a.letter), (.int .i64 a.low), (.int .i64 a.high), (.slice D ((ps.drop ((((ps.length : Nat) : Int) - (arK a.kind)).toNat))).length F)]) zr131 pl131 rfl rfl) (dO 6 (Zz rfl rfl rfl ?_))
   refine Qw rfl fun s aW C L bE => ?_
   have bF := L.size
   have E := E.trans L
   have bG := C.lt
   replace C : Blk aW s 131 [(.int .i64 a.kind), (.int .i64 a.letter), (.int .i64 a.low), (.int .i64 a.high), (.slice D ((ps.drop ((((ps.length : Nat) : Int) - (arK a.kind)).toNat))).length F)] := C
   have ab : Ch [] aR aW := (G.trans L)
   refine ⟨ab, ?_⟩
   refine dV 7 rfl rfl rfl (fun _ => Zf rfl) ?_
   refine Yc (by kernel_rfl) ?_
   refine Zb (br _ _ (Zc (Za rfl rfl (Zd rfl) (Za rfl rfl (Zd rfl) (Zm rfl rfl ?_)))))
   have bH := (aS.ch0 aa).ch0 L
   refine (Zmx (ys := (ps.take ((((ps.length : Nat) : Int) - (arK a.kind)).toNat))) 0 ((((ps.length : Nat) : Int) - (arK a.kind)).toNat) bH Zao el129 sz88 rfl rfl ⟨_, _, rfl, by omega⟩ om om rfl fun bI ac y aX => ?_)
   obtain ⟨bJ, bK, rfl, bL, bM⟩ := ac.opn
   refine Za rfl rfl (Zd rfl) (Zm rfl rfl ?_)
   refine Zax (parts := [(0, .tmp 46)]) [(⟨s, 0, none⟩ : Addr)] el129 sz88 zr88 rfl rfl (by decide) (by decide) rfl fun bN cp ad aY M => ?_
   have bO := M.size
   have E := E.trans M
   obtain ⟨aZ, a0, rfl, a1, aD⟩ := ad.opn
   refine Zm rfl rfl ?_
   have bP := ac.ch0 M
   refine Xn (cs := acs) el129 sz88 by88 zr88 rfl (by decide) Zhq bP ad.ls rfl rfl bd bd (fun g hg => m g (y ▸ hg)) om fun bQ bR ae af ag aE => ?_
   have bS := aE.size
   have E := E.step aE (fun i hi => .inl (by have bT := (fun g hg => m g (y ▸ hg)) _ hi; omega))
   obtain ⟨H, I, rfl, a2, aF⟩ := ae.opn
   refine Za rfl rfl (Zf rfl) (Ze (Zw (Zb (au _ _ (Zc (Za rfl rfl (Yo om rfl rfl) (Za rfl rfl (Zd rfl) (Ze ?_))))))))
   have bU := C.ch0 M
   have bV := (B.ch0 L).ch0 M
   obtain ⟨s2, bW, k2, j2⟩ := Tks.push (tok := a) tks om hisv ((((((((Ch.refl [] R9).trans am).step an (lS om)).trans V).trans X).trans aa).trans L).trans M) bU om bV (fun g hg => by have bT := Z g hg; omega) y aE ag (Yi f) om
   have J : Ol acs 88 1 bR (.slice H (((ps.take ((((ps.length : Nat) : Int) - (arK a.kind)).toNat)) ++ [(⟨s, 0, none⟩ : Addr)])).length I) (((ps.take ((((ps.length : Nat) : Int) - (arK a.kind)).toNat)) ++ [(⟨s, 0, none⟩ : Addr)])) := by
    have hx := ae
    exact hx
   exact Zb (Exists.intro ((i + 1), ((ps.take ((((ps.length : Nat) : Int) - (arK a.kind)).toNat)) ++ [(⟨s, 0, none⟩ : Addr)]), s2, (.slice H (((ps.take ((((ps.length : Nat) : Int) - (arK a.kind)).toNat)) ++ [(⟨s, 0, none⟩ : Addr)])).length I)) ⟨⟨E, om, om, (by simp only [List.length_append, List.length_take, List.length_singleton]; omega), om, ((Zgy hp r).trans bW), J, (Lo.down af om), k2⟩, sC4 rfl rfl rfl rfl (Sub.nil _), (by first | omega | (dsimp only; omega))⟩)
  refine Zg fun cq bX => ?_
  refine Zc (Za rfl rfl (Zh fa84_0 rfl) (Za rfl rfl (Zk h.at_ agg3 rfl rfl) (Ze (Zb (bX _ _ ?_)))))
  refine Zx ?_
  refine Zg fun cr a3 => ?_
  refine Zg fun ct bY => ?_
  refine Zc (Za rfl rfl (Yy rfl rfl) (Za rfl rfl (Zf rfl) (Ze (Zb (bY _ _ ?_)))))
  refine Zp rfl (fun b => ?_) (fun b => ?_)
  ·have ah := b
   have b := Yi b
   refine Zu ?_
   refine Zb (a3 _ _ ?_)
   refine Zas rfl ah ?_
   refine Zc (Za rfl rfl (Zf rfl) (Ze (Zw (Zb ?_))))
   exact l _ (Sub.cons rfl (Sub.cons rfl (Sub.cons (by unfold arK; first | rfl | (repeat (first | rw [if_pos om] | rw [if_neg om])) <;> rfl) (sC4 rfl rfl rfl rfl (sC2 rfl rfl (Sub.nil _))))))
  have ah := b
  have b := Yj b
  refine Zc (Za rfl rfl (Yy rfl rfl) (Za rfl rfl (Zf rfl) (Ze (Zb (a3 _ _ ?_)))))
  refine Zp rfl (fun b => ?_) (fun b => ?_)
  ·have aG := b
   have b := Yi b
   refine Zc (Za rfl rfl (Zf rfl) (Ze (Zw (Zb ?_))))
   exact l _ (Sub.cons rfl (Sub.cons rfl (Sub.cons (by unfold arK; first | rfl | (repeat (first | rw [if_pos om] | rw [if_neg om])) <;> rfl) (sC4 rfl rfl rfl rfl (sC2 rfl rfl (Sub.nil _))))))
  have aG := b
  have b := Yj b
  refine Zg fun cu a4 => ?_
  refine Zg fun cv bZ => ?_
  refine Zc (Za rfl rfl (Yy rfl rfl) (Za rfl rfl (Zf rfl) (Ze (Zb (bZ _ _ ?_)))))
  refine Zp rfl (fun c => ?_) (fun c => ?_)
  ·have ai := c
   have c := Yi c
   refine Zu ?_
   refine Zb (a4 _ _ ?_)
   refine Zas rfl ai ?_
   refine Zc (Za rfl rfl (Zf rfl) (Ze (Zw (Zb ?_))))
   exact l _ (Sub.cons rfl (Sub.cons rfl (Sub.cons (by unfold arK; first | rfl | (repeat (first | rw [if_pos om] | rw [if_neg om])) <;> rfl) (sC4 rfl rfl rfl rfl (sC2 rfl rfl (Sub.nil _))))))
  have ai := c
  have c := Yj c
  refine Zc (Za rfl rfl (Yy rfl rfl) (Za rfl rfl (Zf rfl) (Ze (Zb (a4 _ _ ?_)))))
  refine Zp rfl (fun c => ?_) (fun c => ?_)
  ·have aH := c
   have c := Yi c
   refine Zc (Za rfl rfl (Zf rfl) (Ze (Zw (Zb ?_))))
   exact l _ (Sub.cons rfl (Sub.cons rfl (Sub.cons (by unfold arK; first | rfl | (repeat (first | rw [if_pos om] | rw [if_neg om])) <;> rfl) (sC4 rfl rfl rfl rfl (sC2 rfl rfl (Sub.nil _))))))
  have aH := c
  have c := Yj c
  refine Zu ?_
  refine Zw (Zb ?_)
  exact l _ (Sub.cons rfl (Sub.cons rfl (Sub.cons (by unfold arK; first | rfl | (repeat (first | rw [if_pos om] | rw [if_neg om])) <;> rfl) (sC4 rfl rfl rfl rfl (sC2 rfl rfl (Sub.nil _))))))
 have aq := n
 have n := Yj n
 refine Xe (Zr (Zr (Yu ?_)))
 refine Zb (H5 _ _ ?_)
 refine Zg fun cw a5 => ?_
 refine Zg fun cx b0 => ?_
 refine Zc (Za rfl rfl (Zd rfl) (Za rfl rfl (Xc (by rw [el129]; rfl) rfl) (Za rfl rfl (Zbg rfl rfl) (Ze (Zb (b0 _ _ ?_))))))
 refine Zp rfl (fun q => ?_) (fun q => ?_)
 ·have aI := q
  have q := Yj (Qu q)
  refine Zg fun cy b1 => ?_
  refine Zc (Za rfl rfl (Zf rfl) (Ze (Zb (b1 _ _ ?_))))
  refine Zq (Zo ?_)
  clear aO a5
  exact Zi [_] ⟨rfl, trivial⟩ ⟨.inl ⟨(by first | exact Zfs hp om om | exact Zit hp r (Zjw (by first | exact .inl f | (right; omega)))), rfl⟩, E⟩
 have aI := q
 have q := Yi (Qv q)
 refine Zu ?_
 refine Zb (a5 _ _ ?_)
 refine Zg fun cz b2 => ?_
 refine Zc (Za rfl rfl (Zd rfl) (Zm rfl rfl ?_))
 refine (Yw (j := 0) x.ls Zao el129 sz88 rfl rfl rfl om fun aJ aK aj K => ?_)
 replace K : At R9 0 R9.heap.size aJ ([(.pointer (some aK))]) := K
 obtain ⟨cA, b3, k9⟩ := tks.one om aj
 subst b3
 refine Za rfl rfl (Yr K agg88 rfl rfl) (Za rfl rfl (Zf rfl) (Ze (Zb (b2 _ _ ?_))))
 refine Zq ?_
 exact Zi [_] ⟨rfl, trivial⟩ ⟨.inr ⟨_, _, (Zoh hp om), rfl, k9⟩, E⟩

/-- impl.IsExpr -/
theorem Zkh {w : World} {LL_e k : Nat} {c : Value} {e : List Token} (a : Ls Token.cs 4 w LL_e k c e) (hb : e.length ≤ 1048576) :
 Ctr Try.prog 108 #[(.agg #[c])] w (fun v w' => v = .bool (isE e) ∧ Ch [] w w') := by
 obtain ⟨d, f, g⟩ := a.val
 subst g
 have q := a.len
 have a := a.here (by decide)
 have E := Ch.refl [] w
 refine Ye (N := 6) (vs0 := [(.agg #[(.slice d e.length f)])]) Try.func108 rfl rfl rfl ?_
 refine Zg fun K1 H1 => ?_
 refine Zc (Zm rfl rfl ?_)
 refine Qw rfl fun r W2 j C2 y => ?_
 have z := C2.size
 have E := E.trans C2
 have A := j.lt
 replace j : Blk W2 r 44 [(.slice d e.length f)] := j
 refine Za rfl rfl (Zf rfl) (Ze (Zb (H1 _ _ ?_)))
 refine Zg fun K3 H3 => ?_
 refine Zc (Za rfl rfl (Zy j.at_ agg44 sz44 rfl) (Zm rfl rfl ?_))
 have F4 := a.ch0 C2
 refine Step.call (Zl (xs := [.tmp 3]) fk66 rfl) (Zca F4 om) fun B W5 l => ?_
 obtain ⟨l, C5⟩ := l
 have C := C5.size
 have E := E.trans C5
 rcases l with ⟨h, rfl⟩ | ⟨s, t, h, rfl, b⟩
 ·refine Za rfl rfl (Zsl ptr88 rfl rfl) ?_
  refine Za rfl rfl (Zf rfl) (Ze (Zb (H3 _ _ ?_)))
  refine Zq ?_
  exact Zi [_] ⟨rfl, trivial⟩ ⟨congrArg Value.bool (by first | exact Zke h | exact Zes h), E⟩
 replace b : TrAt W5 W2.heap.size W5.heap.size t s := b
 obtain ⟨u, x, m, n, o, i⟩ := b.open
 have p := i.1
 refine Za rfl rfl (Zsl ptr88 rfl rfl) (Za rfl rfl (Zf rfl) (Ze (Zb (H3 _ _ ?_))))
 refine Zq ?_
 exact Zi [_] ⟨rfl, trivial⟩ ⟨congrArg Value.bool (by first | exact Zke h | exact Zes h), E⟩

/-- impl.IsValidExpr -/
theorem Zcn {w : World} {LL_e j : Nat} {c : Value} {e : List Token} (a : Ls Token.cs 4 w LL_e j c e) (hb : e.length ≤ 1048576) :
 Ctr Try.prog 68 #[(.agg #[c])] w (fun v w' => v = .bool (ivE e) ∧ Ch [] w w') := by
 obtain ⟨f, g, h⟩ := a.val
 subst h
 have k := a.len
 have a := a.here (by decide)
 have E := Ch.refl [] w
 refine Ye (N := 11) (vs0 := [(.agg #[(.slice f e.length g)])]) Try.func68 rfl rfl rfl ?_
 refine Zg fun K1 H1 => ?_
 refine Zc (Zm rfl rfl ?_)
 refine Qw rfl fun l W2 i C2 o => ?_
 have p := C2.size
 have E := E.trans C2
 have q := i.lt
 replace i : Blk W2 l 44 [(.slice f e.length g)] := i
 refine Za rfl rfl (Zf rfl) (Ze (Zb (H1 _ _ ?_)))
 refine Zg fun K3 H3 => ?_
 refine Zc (Za rfl rfl (Zh fa44_0 rfl) (Za rfl rfl (Zk i.at_ agg42 rfl rfl) (Za rfl rfl (Xc (by rw [el42]; rfl) rfl) (Za rfl rfl (Zgl rfl rfl) (Za rfl rfl (Zd rfl) ?_)))))
 refine Yp (d := 7) rfl (fun b => ?_) (fun b => ?_)
 ·have m := b
  have b := Yi b
  refine Za rfl rfl (Zy i.at_ agg44 sz44 rfl) (Zm rfl rfl ?_)
  have F5 := a.ch0 C2
  refine Step.call (Zl (xs := [.tmp 8]) fk108 rfl) (Zkh F5 om) fun r W6 n => ?_
  obtain ⟨rfl, C6⟩ := n
  have s := C6.size
  have E := E.trans C6
  refine Za rfl rfl (Ya rfl rfl) (Za rfl rfl (Zf rfl) (Ze (Zb (H3 _ _ ?_))))
  refine Zq ?_
  exact Zi [_] ⟨rfl, trivial⟩ ⟨congrArg Value.bool (by unfold ivE; first | (rw [decide_eq_true om]; rfl) | (rw [decide_eq_false om]; rfl)), E⟩
 have m := b
 have b := Yj b
 refine Zj rfl rfl (Zj rfl rfl (Za rfl rfl (Yb rfl rfl) (Za rfl rfl (Zf rfl) (Ze (Zb (H3 _ _ ?_))))))
 refine Zq ?_
 exact Zi [_] ⟨rfl, trivial⟩ ⟨congrArg Value.bool (by unfold ivE; first | (rw [decide_eq_true om]; rfl) | (rw [decide_eq_false om]; rfl)), E⟩

/-- impl.tree).bound -/
theorem Zep : ∀ (n : Nat) {w : World} {LT_x o : Nat} {p_x : Addr} {x : Tr} (e : TrAt w LT_x o p_x x) (hok : Okd x) (hsz : x.sz < n),
 Ctr Try.prog 69 #[(.pointer (some p_x))] w (fun v w' => v = .int .i64 (Xt x) ∧ Ch [] w w') := by
 intro n
 induction n with
 | zero => intros; omega
 | succ n ih =>
 intro w LT_x o p_x x e hok hsz
 have e := e.here
 obtain ⟨t, u, h, j, p, k⟩ := e.open
 have J := k.1
 have E := Ch.refl [] w
 have k2 := x.kids_le
 refine Ye (N := 39) (vs0 := [(.pointer (some p_x))]) Try.func69 rfl rfl rfl ?_
 refine Zg fun K1 H1 => ?_
 refine Zc (Za rfl rfl (Zf rfl) (Ze (Zb (H1 _ _ ?_))))
 refine Zg fun K2 H2 => ?_
 refine Zc (Za rfl rfl (Zf rfl) (Ze (Zb (H2 _ _ ?_))))
 refine Zg fun K3 H3 => ?_
 refine Zg fun K4 H4 => ?_
 refine Zc (Za rfl rfl (Zd rfl) (Za rfl rfl (Yf rfl) (Za rfl rfl (Zh fa131_1 rfl) (Za rfl rfl (Zk j agg129 rfl rfl) (Za rfl rfl (Xc (by rw [el129]; rfl) rfl) (Za rfl rfl (Zd rfl) (Ze ?_)))))))
 refine Zb (H4 _ _ ?_)
 refine Zx ?_
 refine Xi (σ := Nat × Int) (fun ⟨i, n⟩ => [(0, (.pointer (some p_x))), (2, (.int .i64 0)), (3, (.int .i64 n)), (9, (.slice t h.length u)), (10, (.int .i64 ((h.length : Nat) : Int))), (11, (.int .i64 ((i : Nat) : Int)))]) (fun ⟨i, n⟩ wx => Ch [] w wx ∧ w.heap.size ≤ wx.heap.size ∧ (i ≤ x.kids.length) ∧ (n = 1 + bndS x i)) (fun ⟨i, n⟩ => x.kids.length - i) (0, 1) (sC4 rfl rfl rfl rfl (sC2 rfl rfl (Sub.nil _))) ⟨E, (Nat.le_refl _), om, (by simp [bndS])⟩ ?_
 rintro ⟨i, n⟩ R5 ⟨E, Q, hi, hn⟩
 have f := E
 have K := f.size
 have rs := Zrl (i := i) hok
 refine Zg fun K6 H6 => ?_
 refine Zc (Za rfl rfl (Xs rfl rfl) (Ze (Zb (H6 _ _ ?_))))
 refine Zg fun K7 H7 => ?_
 refine Zp rfl (fun a => ?_) (fun a => ?_)
 ·have R := a
  have a := Yi a
  refine Zu ?_
  refine Zb (H7 _ _ ?_)
  refine Zg fun K9 H9 => ?_
  refine Zx ?_
  refine Zg fun ah S => ?_
  refine Zc (Zm rfl rfl ?_)
  have T := p.ch0 f
  refine (Yw T Zao el129 sz88 rfl rfl rfl om fun y z q l => ?_)
  have U := k.ch0 f
  obtain ⟨g, b, d⟩ := U.get q
  obtain ⟨L, M, A, B, C, m⟩ := d.open
  have D := m.1
  replace l : At R5 LT_x w.heap.size y ([(.pointer (some z))]) := l
  have rk := Xv (hok.kid b)
  refine Za rfl rfl (Yr l agg88 rfl rfl) (Za rfl rfl (Zf rfl) (Ze (Zb (S _ _ ?_))))
  refine Zg fun ai V => ?_
  refine Zc (Za rfl rfl (Zd rfl) (Za rfl rfl (Yf rfl) (Za rfl rfl (Zh fa131_0 rfl) (Za rfl rfl (Qo (n := 0) fa84_0 rfl rfl) ?_))))
  have O := j.ch0 f
  refine Za rfl rfl (Zk O agg3 rfl rfl) (Za rfl rfl (Yy rfl rfl) (Ze (Zb (V _ _ ?_))))
  refine Zp rfl (fun c => ?_) (fun c => ?_)
  ·have F := c
   have c := Yi c
   have r7 := hok.r7 om
   have aj := Int.mul_nonneg (show 0 ≤ Xt g + 3 by omega) (show 0 ≤ x.tok.high by omega)
   have ak := Int.mul_le_mul (show Xt g + 3 ≤ 100003 by omega) (show x.tok.high ≤ 3 by omega) om om
   refine Xb [] 12 mixed rfl fun X s => ?_
   have Y := s.size
   have E := E.trans s
   refine dV 0 rfl rfl rfl (fun _ => Zd rfl) (dV 1 rfl rfl rfl (fun _ => Zd rfl) (dV 4 rfl rfl rfl (fun _ => Zd rfl) (dV 5 rfl rfl rfl (fun _ => Yf rfl) (dV 6 rfl rfl rfl (fun _ => Zh fa131_0 rfl) (dV 7 rfl rfl rfl (fun _ => Qo (n := 3) fa84_3 rfl rfl) ?_)))))
   have Z := O.ch0 s
   refine dT 8 rfl rfl rfl (Xh Z (fun i hi => absurd hi List.not_mem_nil) agg3 rfl rfl ?_)
   refine dO 2 (Zz rfl rfl rfl ?_)
   have aa := d.ch0 s
   refine Step.call (Zl (xs := [.tmp 22]) fk69 rfl) (ih aa (hok.kid b) (by have := Tr.kid_sz b; omega)) fun ab ac G => ?_
   obtain ⟨rfl, H⟩ := G
   have ad := H.size
   have E := E.trans H
   have r : Ch [] X ac := ((Ch.refl _ _).trans H)
   refine ⟨r, ?_⟩
   refine dV 3 rfl rfl rfl (fun _ => Yo om rfl rfl) (dV 9 rfl rfl rfl (fun _ => Zok om rfl rfl) (dV 10 rfl rfl rfl (fun _ => Yo om rfl rfl) (dV 11 rfl rfl rfl (fun _ => Zf rfl) ?_)))
   refine Yc (by kernel_rfl) ?_
   refine Zw (Zb (H9 _ _ (Zc (Za rfl rfl (Yo om rfl rfl) (Za rfl rfl (Zd rfl) (Ze ?_))))))
   exact Zb (Exists.intro ((i + 1), (n + ((Xt g + 3) * x.tok.high))) ⟨⟨E, om, om, (by rw [Zlh b]; first | (rw [if_pos om]; omega) | (rw [if_neg om]; omega))⟩, sC4 rfl rfl rfl rfl (sC2 rfl rfl (Sub.nil _)), (by first | omega | (dsimp only; omega))⟩)
  have F := c
  have c := Yj c
  refine Zc (Za rfl rfl (Zd rfl) (Za rfl rfl (Zd rfl) (Zm rfl rfl ?_)))
  refine Step.call (Zl (xs := [.tmp 33]) fk69 rfl) (ih d (hok.kid b) (by have := Tr.kid_sz b; omega)) fun ae al I => ?_
  obtain ⟨rfl, P⟩ := I
  have af := P.size
  have E := E.trans P
  refine Za rfl rfl (Yo om rfl rfl) (Za rfl rfl (Zf rfl) (Ze (Zw (Zb (H9 _ _ (Zc (Za rfl rfl (Yo om rfl rfl) (Za rfl rfl (Zd rfl) ?_))))))))
  refine Ze ?_
  exact Zb (Exists.intro ((i + 1), (n + Xt g)) ⟨⟨E, om, om, (by rw [Zlh b]; first | (rw [if_pos om]; omega) | (rw [if_neg om]; omega))⟩, sC4 rfl rfl rfl rfl (sC2 rfl rfl (Sub.nil _)), (by first | omega | (dsimp only; omega))⟩)
 have R := a
 have a := Yj a
 refine Xe (Zr (Zr (Yu ?_)))
 refine Zb (H3 _ _ ?_)
 refine Zg fun am ag => ?_
 refine Zc (Za rfl rfl (Zd rfl) (Za rfl rfl (Zlv rfl rfl) (Za rfl rfl (Zf rfl) (Ze (Zb (ag _ _ ?_))))))
 refine Zq ?_
 exact Zi [_] ⟨rfl, trivial⟩ ⟨congrArg (Value.int .i64) (by rw [hn]; exact Zsg hok om), E⟩
theorem Zfu {w : World} {LT_x a : Nat} {p_x : Addr} {x : Tr} (b : TrAt w LT_x a p_x x) (hok : Okd x) :
 Ctr Try.prog 69 #[(.pointer (some p_x))] w (fun v w' => v = .int .i64 (Xt x) ∧ Ch [] w w') := Zep _ b hok (Nat.lt_succ_self _)

/-- impl.leaf -/
theorem Zic {w : World} (kind : Int) :
 Ctr Try.prog 128 #[(.int .i64 kind)] w (fun v w' => ∃ p, v = .pointer (some p) ∧ TrAt w' w.heap.size w'.heap.size p (.l0 ⟨kind, 0, 0, 0⟩) ∧ Ch [] w w') := by
 have E := Ch.refl [] w
 refine Ye (N := 7) (vs0 := [(.int .i64 kind)]) Try.func128 rfl rfl rfl ?_
 refine Zg fun K1 H1 => ?_
 refine Zc (Za rfl rfl (Zf rfl) (Ze (Zb (H1 _ _ ?_))))
 refine Zg fun K2 H2 => ?_
 refine Zc (Za rfl rfl (Zd rfl) (Za rfl rfl (Yn (parts := [(0, .tmp 3)]) (cells := [(.int .i64 kind), (.int .i64 0), (.int .i64 0), (.int .i64 0)]) zr84 pl84 rfl rfl) (Za rfl rfl (Yn (parts := [(0, .tmp 4)]) (cells := [(.int .i64 kind), (.int .i64 0), (.int .i64 0), (.int .i64 0), (.slice none 0 0)]) zr131 pl131 rfl rfl) (Zm rfl rfl ?_))))
 refine Qw rfl fun b W3 a C3 c => ?_
 have d := C3.size
 have E := E.trans C3
 have f := a.lt
 replace a : Blk W3 b 131 [(.int .i64 kind), (.int .i64 0), (.int .i64 0), (.int .i64 0), (.slice none 0 0)] := a
 refine Za rfl rfl (Zf rfl) (Ze (Zb (H2 _ _ ?_)))
 refine Zq ?_
 exact Zi [_] ⟨rfl, trivial⟩ ⟨_, rfl, (TrAt.mk (k := ⟨kind, 0, 0, 0⟩) (L := w.heap.size) (B := w.heap.size) a om (Ol.nil (cs := acs) (e := 0) _) (Lo.nil _) Kd.nil (by decide) om), E⟩

/-- impl.repeated -/
theorem Zfz : ∀ (n : Nat) {w : World} {LT_x H : Nat} {p_x : Addr} {x : Tr} (a : TrAt w LT_x H p_x x) (low : Int) (high : Int) (aB : 0 ≤ low) (hh : 0 ≤ high) (aC : low ≤ 3) (aD : high ≤ 3) (hsz : high.toNat < n),
 Ctr Try.prog 109 #[(.pointer (some p_x)), (.int .i64 low), (.int .i64 high)] w (fun v w' => ∃ p, v = .pointer (some p) ∧ TrAt w' LT_x w'.heap.size p (Qz x low (high).toNat) ∧ Ch [] w w') := by
 intro n
 induction n with
 | zero => intros; omega
 | succ n ih =>
 intro w LT_x H p_x x a low high aB hh aC aD hsz
 have a := a.here
 obtain ⟨aE, aF, ak, al, am, I⟩ := a.open
 have an := I.1
 have E := Ch.refl [] w
 have lbx := a.lb
 refine Ye (N := 32) (vs0 := [(.pointer (some p_x)), (.int .i64 low), (.int .i64 high)]) Try.func109 rfl rfl rfl ?_
 refine Zg fun K1 H1 => ?_
 refine Zc (Za rfl rfl (Zf rfl) (Ze (Zb (H1 _ _ ?_))))
 refine Zg fun K2 H2 => ?_
 refine Zg fun K3 H3 => ?_
 refine Zc (Za rfl rfl (Zd rfl) (Za rfl rfl (Yy rfl rfl) (Ze (Zb (H3 _ _ ?_)))))
 refine Zp rfl (fun y => ?_) (fun y => ?_)
 ·have aG := y
  have y := Yi y
  refine Zg fun K5 H5 => ?_
  refine Zc (Zm rfl rfl ?_)
  refine Step.call (Zl (xs := [.const (Go.Value.int Go.IntKind.i64 2)]) fk128 rfl) (Zic _ ) fun aH W6 M => ?_
  obtain ⟨O, rfl, d, C6⟩ := M
  have a7 := C6.size
  have E := E.trans C6
  replace d : TrAt W6 w.heap.size W6.heap.size O (.l0 ⟨2, 0, 0, 0⟩) := d
  obtain ⟨ao, ap, P, Q, R, z⟩ := d.open
  have S := z.1
  refine Za rfl rfl (Zf rfl) (Ze (Zb (H5 _ _ ?_)))
  refine Zq (Zo ?_)
  exact Zi [_] ⟨rfl, trivial⟩ ⟨_, rfl, (tim0 (x := x) (low := low) (high := high) om ▸ (d.up om om)), E⟩
 have aG := y
 have y := Yj y
 refine Zu ?_
 refine Zb (H2 _ _ ?_)
 refine Zg fun K7 H7 => ?_
 refine Zc (Za rfl rfl (Yn (parts := [(0, .const (Go.Value.int Go.IntKind.i64 4))]) (cells := [(.int .i64 4), (.int .i64 0), (.int .i64 0), (.int .i64 0)]) zr84 pl84 rfl rfl) (Za rfl rfl (Zd rfl) (Za rfl rfl (Zd rfl) (Za rfl rfl (Zd rfl) (Za rfl rfl (Zav om rfl rfl) (Za rfl rfl (Zvj rfl rfl) (Za rfl rfl (Zd rfl) ?_)))))))
 refine Za rfl rfl (Zav om rfl rfl) (Zm rfl rfl ?_)
 refine Step.call (Zl (xs := [.tmp 13, .tmp 16, .tmp 18]) fk109 rfl) (ih a _ _ (by split <;> omega) om (by split <;> omega) om om) fun aI W8 T => ?_
 obtain ⟨h, rfl, b, C8⟩ := T
 have a8 := C8.size
 have E := E.trans C8
 replace b : TrAt W8 LT_x W8.heap.size h (Qz x (if (low - 1) > 0 then (low - 1) else 0) ((high - 1)).toNat) := b
 obtain ⟨aq, au, U, V, X, A⟩ := b.open
 have Y := A.1
 refine Zm rfl rfl ?_
 refine Zax (parts := [(0, .tmp 12), (1, .tmp 19)]) [(p_x : Addr), (h : Addr)] el129 sz88 zr88 rfl rfl (by decide) (by decide) rfl fun aJ W9 C m C9 => ?_
 have a9 := C9.size
 have E := E.trans C9
 obtain ⟨o, q, rfl, av, Z⟩ := C.opn
 refine Za rfl rfl (Yn (parts := [(0, .tmp 11), (1, .tmp 20)]) (cells := [(.int .i64 4), (.int .i64 0), (.int .i64 0), (.int .i64 0), (.slice o ([(p_x : Addr), (h : Addr)]).length q)]) zr131 pl131 rfl rfl) (Zm rfl rfl ?_)
 refine Qw rfl fun i aa f r aK => ?_
 have aL := r.size
 have E := E.trans r
 have aM := f.lt
 replace f : Blk aa i 131 [(.int .i64 4), (.int .i64 0), (.int .i64 0), (.int .i64 0), (.slice o ([(p_x : Addr), (h : Addr)]).length q)] := f
 refine Za rfl rfl (Zf rfl) (Ze (Zb (H7 _ _ ?_)))
 refine Zg fun ba aN => ?_
 refine Zg fun bb aO => ?_
 refine Zc (Za rfl rfl (Zd rfl) (Za rfl rfl (Zcp rfl rfl) (Ze (Zb (aO _ _ ?_)))))
 refine Zp rfl (fun c => ?_) (fun c => ?_)
 ·have ab := c
  have c := Yi c
  refine Zg fun bc aP => ?_
  refine Zc (Za rfl rfl (Zd rfl) (Za rfl rfl (Zf rfl) (Ze (Zb (aP _ _ ?_)))))
  refine Zq (Zo ?_)
  have aQ := ((a.ch0 C8).ch0 C9).ch0 r
  have aR := (b.ch0 C9).ch0 r
  have aS := C.ch0 r
  exact Zi [_] ⟨rfl, trivial⟩ ⟨_, rfl, (timp (x := x) (low := low) (high := high) om om om ▸ (TrAt.mk (k := ⟨4, 0, 0, 0⟩) (L := LT_x) (B := aa.heap.size) f om aS (fun g hg => by have aw := m g hg; omega) (Kd.cons (aQ.up om om) (Kd.cons (aR.up om om) Kd.nil)) (by simp) om)), E⟩
 have ab := c
 have c := Yj c
 refine Zu ?_
 refine Zb (aN _ _ ?_)
 refine Zg fun be aT => ?_
 refine Zc (Za rfl rfl (Yn (parts := [(0, .const (Go.Value.int Go.IntKind.i64 5))]) (cells := [(.int .i64 5), (.int .i64 0), (.int .i64 0), (.int .i64 0)]) zr84 pl84 rfl rfl) (Za rfl rfl (Zd rfl) (Zm rfl rfl ?_)))
 refine Step.call (Zl (xs := [.const (Go.Value.int Go.IntKind.i64 2)]) fk128 rfl) (Zic _ ) fun aU ax ac => ?_
 obtain ⟨j, rfl, e, G⟩ := ac
 have aV := G.size
 have E := E.trans G
 replace e : TrAt ax aa.heap.size ax.heap.size j (.l0 ⟨2, 0, 0, 0⟩) := e
 obtain ⟨ay, az, ad, ae, af, D⟩ := e.open
 have ag := D.1
 refine Zm rfl rfl ?_
 refine Zax (parts := [(0, .tmp 27), (1, .tmp 28)]) [(⟨i, 0, none⟩ : Addr), (j : Addr)] el129 sz88 zr88 rfl rfl (by decide) (by decide) rfl fun aW bf J K F => ?_
 have aX := F.size
 have E := E.trans F
 obtain ⟨s, t, rfl, aA, ah⟩ := J.opn
 refine Za rfl rfl (Yn (parts := [(0, .tmp 26), (1, .tmp 29)]) (cells := [(.int .i64 5), (.int .i64 0), (.int .i64 0), (.int .i64 0), (.slice s ([(⟨i, 0, none⟩ : Addr), (j : Addr)]).length t)]) zr131 pl131 rfl rfl) (Zm rfl rfl ?_)
 refine Qw rfl fun ai aj l u aY => ?_
 have aZ := u.size
 have E := E.trans u
 have a0 := l.lt
 replace l : Blk aj ai 131 [(.int .i64 5), (.int .i64 0), (.int .i64 0), (.int .i64 0), (.slice s ([(⟨i, 0, none⟩ : Addr), (j : Addr)]).length t)] := l
 refine Za rfl rfl (Zf rfl) (Ze (Zb (aT _ _ ?_)))
 refine Zq ?_
 have a1 := (((((a.ch0 C8).ch0 C9).ch0 r).ch0 G).ch0 F).ch0 u
 have a2 := ((((b.ch0 C9).ch0 r).ch0 G).ch0 F).ch0 u
 have a3 := (e.ch0 F).ch0 u
 have a4 := ((f.ch0 G).ch0 F).ch0 u
 have a5 := (((C.ch0 r).ch0 G).ch0 F).ch0 u
 have a6 := J.ch0 u
 exact Zi [_] ⟨rfl, trivial⟩ ⟨_, rfl, (timn (x := x) (low := low) (high := high) om om om ▸ (TrAt.mk (k := ⟨5, 0, 0, 0⟩) (L := LT_x) (B := aj.heap.size) l om a6 (fun g hg => by have aw := K g hg; omega) (Kd.cons (TrAt.mk (k := ⟨4, 0, 0, 0⟩) (L := LT_x) (B := aj.heap.size) a4 om a5 (fun g hg => by have aw := m g hg; omega) (Kd.cons (a1.up om om) (Kd.cons (a2.up om om) Kd.nil)) (by simp) om) (Kd.cons (a3.up om om) Kd.nil)) (by simp) om)), E⟩
theorem Zij {w : World} {LT_x a : Nat} {p_x : Addr} {x : Tr} (b : TrAt w LT_x a p_x x) (low : Int) (high : Int) (c : 0 ≤ low) (hh : 0 ≤ high) (d : low ≤ 3) (e : high ≤ 3) :
 Ctr Try.prog 109 #[(.pointer (some p_x)), (.int .i64 low), (.int .i64 high)] w (fun v w' => ∃ p, v = .pointer (some p) ∧ TrAt w' LT_x w'.heap.size p (Qz x low (high).toNat) ∧ Ch [] w w') := Zfz _ b low high c hh d e (Nat.lt_succ_self _)

/-- impl.tree).expand -/
theorem Zea : ∀ (n : Nat) {w : World} {LT_x aK : Nat} {p_x : Addr} {x : Tr} (T : TrAt w LT_x aK p_x x) (hok : Okd x) (hsz : x.sz < n),
 Ctr Try.prog 70 #[(.pointer (some p_x))] w (fun v w' => ∃ p, v = .pointer (some p) ∧ TrAt w' w.heap.size w'.heap.size p (Xl x) ∧ Ch [] w w') := by
 intro n
 induction n with
 | zero => intros; omega
 | succ n ih =>
 intro w LT_x aK p_x x T hok hsz
 have T := T.here
 obtain ⟨a5, a6, X, B, Y, J⟩ := T.open
 have bN := J.1
 have E := Ch.refl [] w
 have k2 := x.kids_le; have k3 := hok.len
 refine Ye (N := 58) (vs0 := [(.pointer (some p_x))]) Try.func70 rfl rfl rfl ?_
 refine Zg fun K1 H1 => ?_
 refine Zc (Za rfl rfl (Zf rfl) (Ze (Zb (H1 _ _ ?_))))
 refine Zg fun K2 H2 => ?_
 refine Zg fun K3 H3 => ?_
 refine Zc (Za rfl rfl (Zd rfl) (Za rfl rfl (Yf rfl) (Za rfl rfl (Zh fa131_0 rfl) (Za rfl rfl (Qo (n := 0) fa84_0 rfl rfl) (Za rfl rfl (Zk B agg3 rfl rfl) (Za rfl rfl (Yy rfl rfl) (Ze ?_)))))))
 refine Zb (H3 _ _ ?_)
 refine Zp rfl (fun u => ?_) (fun u => ?_)
 ·have b1 := u
  have u := Yi u
  obtain ⟨ta, am, oa, sab, ga⟩ := hok.kk1 om
  have r7 := hok.r7 om
  refine Zg fun K5 H5 => ?_
  refine Xb [] 19 mixed rfl fun W6 C6 => ?_
  have cT := C6.size
  have E := E.trans C6
  refine dV 0 rfl rfl rfl (fun _ => Zd rfl) (dV 1 rfl rfl rfl (fun _ => Yf rfl) (dV 2 rfl rfl rfl (fun _ => Zh fa131_1 rfl) ?_))
  have F7 := B.ch0 C6
  refine dT 3 rfl rfl rfl (Xh F7 (fun i hi => absurd hi List.not_mem_nil) agg129 rfl rfl ?_)
  have F8 := Y.ch0 C6
  have F9 := J.ch0 C6
  refine dT 4 rfl rfl rfl (Xo (j := 0) F8 Zao el129 sz88 rfl rfl rfl om fun a7 a8 aL an => ?_)
  have b2 := am
  have Z := F9.2 _ _ _ aL am
  obtain ⟨bO, bP, a9, ba, bb, ao⟩ := Z.open
  have bc := ao.1
  replace an : At W6 LT_x w.heap.size a7 ([(.pointer (some a8))]) := an
  refine dT 5 rfl rfl rfl (Yx an (fun i hi => absurd hi List.not_mem_nil) agg88 rfl rfl ?_)
  refine dV 7 rfl rfl rfl (fun _ => Zd rfl) (dV 8 rfl rfl rfl (fun _ => Yf rfl) (dV 9 rfl rfl rfl (fun _ => Zh fa131_0 rfl) (dV 10 rfl rfl rfl (fun _ => Qo (n := 2) fa84_2 rfl rfl) ?_)))
  refine dT 11 rfl rfl rfl (Xh F7 (fun i hi => absurd hi List.not_mem_nil) agg3 rfl rfl ?_)
  refine dV 12 rfl rfl rfl (fun _ => Zd rfl) (dV 13 rfl rfl rfl (fun _ => Yf rfl) (dV 14 rfl rfl rfl (fun _ => Zh fa131_0 rfl) (dV 15 rfl rfl rfl (fun _ => Qo (n := 3) fa84_3 rfl rfl) ?_)))
  refine dT 16 rfl rfl rfl (Xh F7 (fun i hi => absurd hi List.not_mem_nil) agg3 rfl rfl ?_)
  refine dO 6 (Zz rfl rfl rfl ?_)
  refine Step.call (Zl (xs := [.tmp 17]) fk70 rfl) (ih Z oa om) fun b3 be bf => ?_
  obtain ⟨bg, rfl, C, bh⟩ := bf
  have b4 := bh.size
  have E := E.trans bh
  replace C : TrAt be W6.heap.size be.heap.size bg (Xl ta) := C
  obtain ⟨bQ, bR, bi, bj, bk, ap⟩ := C.open
  have bm := ap.1
  have aa : Ch [] W6 be := ((Ch.refl _ _).trans bh)
  refine ⟨aa, ?_⟩
  refine dO 17 (Zz rfl rfl rfl ?_)
  refine Step.call (Zl (xs := [.tmp 18, .tmp 23, .tmp 28]) fk109 rfl) (Zij C _ _ om om om om) fun b5 bn bp => ?_
  obtain ⟨bq, rfl, D, br⟩ := bp
  have b6 := br.size
  have E := E.trans br
  replace D : TrAt bn W6.heap.size bn.heap.size bq (Qz (Xl ta) x.tok.low (x.tok.high).toNat) := D
  obtain ⟨bS, bT, bs, bu, bv, aq⟩ := D.open
  have bw := aq.1
  have aM : Ch [] W6 bn := (aa.trans br)
  refine ⟨aM, ?_⟩
  refine dV 18 rfl rfl rfl (fun _ => Zf rfl) ?_
  refine Yc (by kernel_rfl) ?_
  refine Zb (H5 _ _ ?_)
  refine Zq (Zo ?_)
  exact Zi [_] ⟨rfl, trivial⟩ ⟨_, rfl, (exp7 hok om am ▸ (D.up om om)), E⟩
 have b1 := u
 have u := Yj u
 refine Zu ?_
 refine Zb (H2 _ _ ?_)
 refine Zg fun cU b7 => ?_
 refine Zc (Za rfl rfl (Zd rfl) (Za rfl rfl (Yf rfl) (Za rfl rfl (Zh fa131_0 rfl) (Za rfl rfl (Zll 4 B agg84 sz84 rfl rfl) (Za rfl rfl (Yn (parts := [(0, .tmp 33)]) (cells := [(.int .i64 x.tok.kind), (.int .i64 x.tok.letter), (.int .i64 x.tok.low), (.int .i64 x.tok.high), (.slice none 0 0)]) zr131 pl131 rfl rfl) (Zm rfl rfl ?_))))))
 refine Qw rfl fun c aN U bx b8 => ?_
 have b9 := bx.size
 have E := E.trans bx
 have ca := U.lt
 replace U : Blk aN c 131 [(.int .i64 x.tok.kind), (.int .i64 x.tok.letter), (.int .i64 x.tok.low), (.int .i64 x.tok.high), (.slice none 0 0)] := U
 refine Za rfl rfl (Zf rfl) (Ze (Zb (b7 _ _ ?_)))
 refine Zg fun cV cb => ?_
 refine Zg fun cW cc => ?_
 refine Zc (Za rfl rfl (Zd rfl) (Za rfl rfl (Yf rfl) (Za rfl rfl (Zh fa131_1 rfl) ?_)))
 have cd := B.ch0 bx
 refine Za rfl rfl (Zk cd agg129 rfl rfl) (Za rfl rfl (Xc (by rw [el129]; rfl) rfl) (Za rfl rfl (Zd rfl) (Ze (Zb (cc _ _ ?_)))))
 refine Zx ?_
 have au : Ol acs 88 1 aN (.slice none 0 0) (([] : List Addr)) := by
  have hx := Ol.nil (cs := acs) (e := 88) (k := 1) aN
  exact hx
 refine Xi (σ := Nat × List Addr × Value) (fun ⟨i, ps, sv⟩ => [(2, (.pointer none)), (3, (.pointer (some ⟨c, 0, none⟩))), (39, (.slice a5 X.length a6)), (40, (.int .i64 ((X.length : Nat) : Int))), (41, (.int .i64 ((i : Nat) : Int)))]) (fun ⟨i, ps, sv⟩ wx => Ch [] w wx ∧ aN.heap.size ≤ wx.heap.size ∧ (i ≤ x.kids.length) ∧ Ol acs 88 1 wx sv ps ∧ Lo aN.heap.size sv ∧ KdN wx w.heap.size c sv ps ((x.kids.take i).map Xl) ∧ Blk wx c 131 [(.int .i64 x.tok.kind), (.int .i64 x.tok.letter), (.int .i64 x.tok.low), (.int .i64 x.tok.high), sv] ∧ (c ∉ bl sv)) (fun ⟨i, ps, sv⟩ => x.kids.length - i) (0, ([] : List Addr), (.slice none 0 0)) (sC4 rfl rfl rfl rfl (sC1 rfl (Sub.nil _))) ⟨E, (Nat.le_refl _), om, au, (Lo.nil _), (by simpa using KdN.nil _ _ _ _), U, (fun hm => by cases hm)⟩ ?_
 rintro ⟨i, ps, sv⟩ a4 ⟨E, ce, hi, o, d, kds, F, a⟩
 have av := E
 have bU := av.size
 obtain ⟨Asv, Csv, rfl, lsv, hisv⟩ := o.opn
 refine Zg fun cX cf => ?_
 refine Zc (Za rfl rfl (Xs rfl rfl) (Ze (Zb (cf _ _ ?_))))
 refine Zg fun cY cg => ?_
 refine Zp rfl (fun y => ?_) (fun y => ?_)
 ·have bz := y
  have y := Yi y
  refine Zu ?_
  refine Zb (cg _ _ ?_)
  refine Zg fun cZ bA => ?_
  refine Zx ?_
  refine Zg fun c0 ci => ?_
  refine Zc (Zm rfl rfl ?_)
  have cj := Y.ch0 av
  refine (Yw cj Zao el129 sz88 rfl rfl rfl om fun bB bC aO aw => ?_)
  have ck := J.ch0 av
  obtain ⟨aP, z, K⟩ := ck.get aO
  obtain ⟨bV, bW, bD, bE, bF, ax⟩ := K.open
  have bG := ax.1
  replace aw : At a4 LT_x w.heap.size bB ([(.pointer (some bC))]) := aw
  refine Za rfl rfl (Yr aw agg88 rfl rfl) (Za rfl rfl (Zf rfl) (Ze (Zb (ci _ _ ?_))))
  refine Xb ((bl (.slice Asv (ps).length Csv)) ++ [c]) 12 mixed rfl fun H I => ?_
  have cl := I.size
  have E := E.trans I
  refine dV 0 rfl rfl rfl (fun _ => Zd rfl) (dV 1 rfl rfl rfl (fun _ => Zd rfl) (dV 2 rfl rfl rfl (fun _ => Yf rfl) (dV 3 rfl rfl rfl (fun _ => Zh fa131_1 rfl) (dV 5 rfl rfl rfl (fun _ => Zd rfl) ?_))))
  refine Zat 4 6 (by kernel_rfl) ?_ ?_
  ·refine Zz rfl rfl rfl ?_
   have bX := F.ch0 I
   refine s_v (Zk bX.at_ agg129 rfl rfl) ?_
   refine ⟨(Ch.refl _ _), ?_⟩
   refine dO 6 (Zz rfl rfl rfl ?_)
   have cm := K.ch0 I
   refine Step.call (Zl (xs := [.tmp 50]) fk70 rfl) (ih cm (hok.kid z) (by have := Tr.kid_sz z; omega)) fun bH bI ay => ?_
   obtain ⟨b, rfl, m, aJ⟩ := ay
   have cn := aJ.size
   have E := E.trans aJ
   replace m : TrAt bI H.heap.size bI.heap.size b (Xl aP) := m
   obtain ⟨aQ, aR, az, aA, aB, A⟩ := m.open
   have aC := A.1
   have ab : Ch ((bl (.slice Asv (ps).length Csv)) ++ [c]) H bI := ((Ch.refl _ _).trans aJ.of_nil)
   refine ⟨ab, ?_⟩
   refine dO 7 (Zz rfl rfl rfl ?_)
   refine Zax (parts := [(0, .tmp 51)]) [(b : Addr)] el129 sz88 zr88 rfl rfl (by decide) (by decide) rfl fun aS co q ac aD => ?_
   have cp := aD.size
   have E := E.trans aD
   obtain ⟨ad, ae, rfl, af, L⟩ := q.opn
   have ag : Ch ((bl (.slice Asv (ps).length Csv)) ++ [c]) H co := (ab.trans aD.of_nil)
   refine ⟨ag, ?_⟩
   refine dO 8 (Zz rfl rfl rfl ?_)
   have cq := ((o.ch0 I).ch0 aJ).ch0 aD
   refine Xn (cs := acs) el129 sz88 by88 zr88 rfl (by decide) Zhq cq q.ls rfl rfl (by have M := kds.1; simp only [List.length_map, List.length_take] at M; simp only [List.length_singleton]; omega) (by have M := kds.1; simp only [List.length_map, List.length_take] at M; simp only [List.length_singleton]; omega) d om fun aT cr r s f aU => ?_
   have ct := aU.size
   have E := E.step aU (fun i hi => .inl (by have bY := d _ hi; omega))
   obtain ⟨h, l, rfl, ah, O⟩ := r.opn
   have ai : Ch ((bl (.slice Asv (ps).length Csv)) ++ [c]) H cr := (ag.step aU (fun i hm => by exact .inr (List.mem_append_left _ hm)))
   refine ⟨ai, ?_⟩
   refine dV 9 rfl rfl rfl (fun _ => Yf rfl) (dV 10 rfl rfl rfl (fun _ => Zh fa131_1 rfl) (dO 11 (Zz rfl rfl rfl ?_)))
   have cu := ((bX.ch0 aJ).ch0 aD).ch aU (fun hm => by exact a (by first | exact hm | exact t ▸ hm))
   refine Xm (off := 4) cu sz129 rfl rfl rfl rfl fun bJ P aV => ?_
   have cv := aV.size
   have E := E.step aV (lS om)
   replace P : Blk bJ c 131 [(.int .i64 x.tok.kind), (.int .i64 x.tok.letter), (.int .i64 x.tok.low), (.int .i64 x.tok.high), (.slice h ((ps ++ [(b : Addr)])).length l)] := P
   have aW : Ch ((bl (.slice Asv (ps).length Csv)) ++ [c]) H bJ := (ai.step aV (fun i hm => by have t := List.mem_singleton.1 hm; exact .inr (by rw [t]; exact (List.mem_append_right _ (List.mem_singleton.2 rfl)))))
   refine ⟨aW, ?_⟩
   refine Yc (by kernel_rfl) ?_
   refine Zw (Zb (bA _ _ (Zc (Za rfl rfl (Yo om rfl rfl) (Za rfl rfl (Zd rfl) (Ze ?_))))))
   have cw := m.ch0 aD
   have k9 := (KdN.grow kds om hisv om ((((Ch.refl [] a4).trans I).trans aJ).trans aD) cw om om aU f).bo aV
   have cx := r.ch aV (fun g hg hm => by have t := List.mem_singleton.1 hm; rcases f with ea | ea; (rw [ea] at hg; exact a (by first | exact hg | exact t ▸ hg)); (rw [ea] at hg; have aX := List.mem_singleton.1 hg; omega))
   have aE : Ol acs 88 1 bJ (.slice h ((ps ++ [(b : Addr)])).length l) ((ps ++ [(b : Addr)])) := by
    have hx := cx
    exact hx
   exact Zb (Exists.intro ((i + 1), (ps ++ [(b : Addr)]), (.slice h ((ps ++ [(b : Addr)])).length l)) ⟨⟨E, om, om, aE, (Lo.down s om), (by rw [Zaa z, List.map_append]; exact k9), P, (fun hm => by rcases f with ea | ea; (rw [ea] at hm; exact a (by first | exact hm | exact t ▸ hm)); (rw [ea] at hm; have aX := List.mem_singleton.1 hm; omega))⟩, sC4 rfl rfl rfl rfl (sC1 rfl (Sub.nil _)), (by first | omega | (dsimp only; omega))⟩)
  refine Zz rfl rfl rfl ?_
  have cy := K.ch0 I
  refine Step.call (Zl (xs := [.tmp 50]) fk70 rfl) (ih cy (hok.kid z) (by have := Tr.kid_sz z; omega)) fun bH bK ay => ?_
  obtain ⟨b, rfl, m, V⟩ := ay
  have cz := V.size
  have E := E.trans V
  replace m : TrAt bK H.heap.size bK.heap.size b (Xl aP) := m
  obtain ⟨aQ, aR, az, aA, aB, A⟩ := m.open
  have aC := A.1
  have G : Ch ((bl (.slice Asv (ps).length Csv)) ++ [c]) H bK := ((Ch.refl _ _).trans V.of_nil)
  refine ⟨G, ?_⟩
  refine Zat 4 7 (by kernel_rfl) ?_ ?_
  ·refine Zz rfl rfl rfl ?_
   have bZ := (F.ch0 I).ch0 V
   refine s_v (Zk bZ.at_ agg129 rfl rfl) ?_
   refine ⟨G, ?_⟩
   refine dO 7 (Zz rfl rfl rfl ?_)
   refine Zax (parts := [(0, .tmp 51)]) [(b : Addr)] el129 sz88 zr88 rfl rfl (by decide) (by decide) rfl fun aS cA q ac aF => ?_
   have cB := aF.size
   have E := E.trans aF
   obtain ⟨ad, ae, rfl, af, L⟩ := q.opn
   have aj : Ch ((bl (.slice Asv (ps).length Csv)) ++ [c]) H cA := (G.trans aF.of_nil)
   refine ⟨aj, ?_⟩
   refine dO 8 (Zz rfl rfl rfl ?_)
   have cC := ((o.ch0 I).ch0 V).ch0 aF
   refine Xn (cs := acs) el129 sz88 by88 zr88 rfl (by decide) Zhq cC q.ls rfl rfl (by have M := kds.1; simp only [List.length_map, List.length_take] at M; simp only [List.length_singleton]; omega) (by have M := kds.1; simp only [List.length_map, List.length_take] at M; simp only [List.length_singleton]; omega) d om fun aT cD r s f aY => ?_
   have cE := aY.size
   have E := E.step aY (fun i hi => .inl (by have bY := d _ hi; omega))
   obtain ⟨h, l, rfl, ah, O⟩ := r.opn
   have ak : Ch ((bl (.slice Asv (ps).length Csv)) ++ [c]) H cD := (aj.step aY (fun i hm => by exact .inr (List.mem_append_left _ hm)))
   refine ⟨ak, ?_⟩
   refine dV 9 rfl rfl rfl (fun _ => Yf rfl) (dV 10 rfl rfl rfl (fun _ => Zh fa131_1 rfl) (dO 11 (Zz rfl rfl rfl ?_)))
   have cF := (bZ.ch0 aF).ch aY (fun hm => by exact a (by first | exact hm | exact t ▸ hm))
   refine Xm (off := 4) cF sz129 rfl rfl rfl rfl fun bL Q aZ => ?_
   have cG := aZ.size
   have E := E.step aZ (lS om)
   replace Q : Blk bL c 131 [(.int .i64 x.tok.kind), (.int .i64 x.tok.letter), (.int .i64 x.tok.low), (.int .i64 x.tok.high), (.slice h ((ps ++ [(b : Addr)])).length l)] := Q
   have a0 : Ch ((bl (.slice Asv (ps).length Csv)) ++ [c]) H bL := (ak.step aZ (fun i hm => by have t := List.mem_singleton.1 hm; exact .inr (by rw [t]; exact (List.mem_append_right _ (List.mem_singleton.2 rfl)))))
   refine ⟨a0, ?_⟩
   refine Yc (by kernel_rfl) ?_
   refine Zw (Zb (bA _ _ (Zc (Za rfl rfl (Yo om rfl rfl) (Za rfl rfl (Zd rfl) (Ze ?_))))))
   have cH := m.ch0 aF
   have k9 := (KdN.grow kds om hisv om ((((Ch.refl [] a4).trans I).trans V).trans aF) cH om om aY f).bo aZ
   have cI := r.ch aZ (fun g hg hm => by have t := List.mem_singleton.1 hm; rcases f with ea | ea; (rw [ea] at hg; exact a (by first | exact hg | exact t ▸ hg)); (rw [ea] at hg; have aX := List.mem_singleton.1 hg; omega))
   have aG : Ol acs 88 1 bL (.slice h ((ps ++ [(b : Addr)])).length l) ((ps ++ [(b : Addr)])) := by
    have hx := cI
    exact hx
   exact Zb (Exists.intro ((i + 1), (ps ++ [(b : Addr)]), (.slice h ((ps ++ [(b : Addr)])).length l)) ⟨⟨E, om, om, aG, (Lo.down s om), (by rw [Zaa z, List.map_append]; exact k9), Q, (fun hm => by rcases f with ea | ea; (rw [ea] at hm; exact a (by first | exact hm | exact t ▸ hm)); (rw [ea] at hm; have aX := List.mem_singleton.1 hm; omega))⟩, sC4 rfl rfl rfl rfl (sC1 rfl (Sub.nil _)), (by first | omega | (dsimp only; omega))⟩)
  refine Zz rfl rfl rfl ?_
  refine Zax (parts := [(0, .tmp 51)]) [(b : Addr)] el129 sz88 zr88 rfl rfl (by decide) (by decide) rfl fun aS cJ q ac aH => ?_
  have cK := aH.size
  have E := E.trans aH
  obtain ⟨ad, ae, rfl, af, L⟩ := q.opn
  have R : Ch ((bl (.slice Asv (ps).length Csv)) ++ [c]) H cJ := (G.trans aH.of_nil)
  refine ⟨R, ?_⟩
  refine dO 4 (Zz rfl rfl rfl ?_)
  have b0 := ((F.ch0 I).ch0 V).ch0 aH
  refine s_v (Zk b0.at_ agg129 rfl rfl) ?_
  refine ⟨R, ?_⟩
  refine dO 8 (Zz rfl rfl rfl ?_)
  have cL := ((o.ch0 I).ch0 V).ch0 aH
  refine Xn (cs := acs) el129 sz88 by88 zr88 rfl (by decide) Zhq cL q.ls rfl rfl (by have M := kds.1; simp only [List.length_map, List.length_take] at M; simp only [List.length_singleton]; omega) (by have M := kds.1; simp only [List.length_map, List.length_take] at M; simp only [List.length_singleton]; omega) d om fun aT cM r s f a1 => ?_
  have cN := a1.size
  have E := E.step a1 (fun i hi => .inl (by have bY := d _ hi; omega))
  obtain ⟨h, l, rfl, ah, O⟩ := r.opn
  have al : Ch ((bl (.slice Asv (ps).length Csv)) ++ [c]) H cM := (R.step a1 (fun i hm => by exact .inr (List.mem_append_left _ hm)))
  refine ⟨al, ?_⟩
  refine dV 9 rfl rfl rfl (fun _ => Yf rfl) (dV 10 rfl rfl rfl (fun _ => Zh fa131_1 rfl) (dO 11 (Zz rfl rfl rfl ?_)))
  have cO := b0.ch a1 (fun hm => by exact a (by first | exact hm | exact t ▸ hm))
  refine Xm (off := 4) cO sz129 rfl rfl rfl rfl fun bM S a2 => ?_
  have cP := a2.size
  have E := E.step a2 (lS om)
  replace S : Blk bM c 131 [(.int .i64 x.tok.kind), (.int .i64 x.tok.letter), (.int .i64 x.tok.low), (.int .i64 x.tok.high), (.slice h ((ps ++ [(b : Addr)])).length l)] := S
  have a3 : Ch ((bl (.slice Asv (ps).length Csv)) ++ [c]) H bM := (al.step a2 (fun i hm => by have t := List.mem_singleton.1 hm; exact .inr (by rw [t]; exact (List.mem_append_right _ (List.mem_singleton.2 rfl)))))
  refine ⟨a3, ?_⟩
  refine Yc (by kernel_rfl) ?_
  refine Zw (Zb (bA _ _ (Zc (Za rfl rfl (Yo om rfl rfl) (Za rfl rfl (Zd rfl) (Ze ?_))))))
  have cQ := m.ch0 aH
  have k9 := (KdN.grow kds om hisv om ((((Ch.refl [] a4).trans I).trans V).trans aH) cQ om om a1 f).bo a2
  have cR := r.ch a2 (fun g hg hm => by have t := List.mem_singleton.1 hm; rcases f with ea | ea; (rw [ea] at hg; exact a (by first | exact hg | exact t ▸ hg)); (rw [ea] at hg; have aX := List.mem_singleton.1 hg; omega))
  have aI : Ol acs 88 1 bM (.slice h ((ps ++ [(b : Addr)])).length l) ((ps ++ [(b : Addr)])) := by
   have hx := cR
   exact hx
  exact Zb (Exists.intro ((i + 1), (ps ++ [(b : Addr)]), (.slice h ((ps ++ [(b : Addr)])).length l)) ⟨⟨E, om, om, aI, (Lo.down s om), (by rw [Zaa z, List.map_append]; exact k9), S, (fun hm => by rcases f with ea | ea; (rw [ea] at hm; exact a (by first | exact hm | exact t ▸ hm)); (rw [ea] at hm; have aX := List.mem_singleton.1 hm; omega))⟩, sC4 rfl rfl rfl rfl (sC1 rfl (Sub.nil _)), (by first | omega | (dsimp only; omega))⟩)
 have bz := y
 have y := Yj y
 refine Xe (Zr (Zr (Yu ?_)))
 refine Zb (cb _ _ ?_)
 refine Zg fun c1 cS => ?_
 refine Zc (Za rfl rfl (Zd rfl) (Za rfl rfl (Zf rfl) (Ze (Zb (cS _ _ ?_)))))
 refine Zq ?_
 exact Zi [_] ⟨rfl, trivial⟩ ⟨_, rfl, (Zrq (show KdN _ _ _ _ _ (x.kids.map Xl) from (by rw [List.take_of_length_le om] at kds; exact kds)) F om o (Lo.down d om) om om), E⟩
theorem Zfh {w : World} {LT_x a : Nat} {p_x : Addr} {x : Tr} (b : TrAt w LT_x a p_x x) (hok : Okd x) :
 Ctr Try.prog 70 #[(.pointer (some p_x))] w (fun v w' => ∃ p, v = .pointer (some p) ∧ TrAt w' w.heap.size w'.heap.size p (Xl x) ∧ Ch [] w w') := Zea _ b hok (Nat.lt_succ_self _)

/-- impl.tree).collect -/
theorem Zdt : ∀ (n : Nat) {w : World} {LT_x L_out : Nat} {p_x : Addr} {x : Tr} (aj : TrAt w LT_x L_out p_x x) {b_out t_out : Nat} {c : Value} {a : List Token} (m_out : Blk w b_out t_out [c]) (P : L_out ≤ b_out) (y : Ol Token.cs 84 4 w c a) (z : b_out ∉ bl c) (f : Lo L_out c) (hb : a.length + x.sz ≤ 4194304) (hsz : x.sz < n),
 Ctr Try.prog 110 #[(.pointer (some p_x)), (.pointer (some ⟨b_out, 0, none⟩))] w (fun v w' => ∃ (C : Value), v = .tuple #[] ∧ Blk w' b_out t_out [C] ∧ Ol Token.cs 84 4 w' C (a ++ x.flat) ∧ (∀ g ∈ bl C, w.heap.size ≤ g ∨ g ∈ (b_out :: bl c)) ∧ b_out ∉ bl C ∧ Ch (b_out :: bl c) w w') := by
 intro n
 induction n with
 | zero => intros; omega
 | succ n ih =>
 intro w LT_x L_out p_x x aj b_out t_out c a m_out P y z f hb hsz
 obtain ⟨aK, aL, S, T, ak, U⟩ := aj.open
 have a0 := U.1
 obtain ⟨d, e, rfl, aD, j⟩ := y.opn
 have aE := m_out.lt
 have E := Ch.refl (b_out :: bl (.slice d a.length e)) w
 have k2 := x.kids_le
 refine Ye (N := 32) (vs0 := [(.pointer (some p_x)), (.pointer (some ⟨b_out, 0, none⟩))]) Try.func110 rfl rfl rfl ?_
 refine Zg fun K1 H1 => ?_
 refine Zg fun K2 H2 => ?_
 refine Zc (Za rfl rfl (Zd rfl) (Za rfl rfl (Yf rfl) (Za rfl rfl (Zh fa131_1 rfl) (Za rfl rfl (Zk T agg129 rfl rfl) (Za rfl rfl (Xc (by rw [el129]; rfl) rfl) (Za rfl rfl (Zd rfl) (Ze ?_)))))))
 refine Zb (H2 _ _ ?_)
 refine Zx ?_
 have al : Ol Token.cs 84 4 w (.slice d a.length e) (a ++ Xy (x.kids.take 0)) := by
  have hx := y
  simpa [Xy] using hx
 refine Xi (σ := Nat × Value) (fun ⟨i, sv⟩ => [(0, (.pointer (some p_x))), (1, (.pointer (some ⟨b_out, 0, none⟩))), (9, (.slice aK S.length aL)), (10, (.int .i64 ((S.length : Nat) : Int))), (11, (.int .i64 ((i : Nat) : Int)))]) (fun ⟨i, sv⟩ wx => Ch (b_out :: bl (.slice d a.length e)) w wx ∧ w.heap.size ≤ wx.heap.size ∧ (i ≤ x.kids.length) ∧ Ol Token.cs 84 4 wx sv (a ++ Xy (x.kids.take i)) ∧ Lo L_out sv ∧ Blk wx b_out t_out [sv] ∧ (∀ g ∈ bl sv, w.heap.size ≤ g ∨ g ∈ (b_out :: bl (.slice d a.length e))) ∧ (b_out ∉ bl sv)) (fun ⟨i, sv⟩ => x.kids.length - i) (0, (.slice d a.length e)) (sC4 rfl rfl rfl rfl (sC1 rfl (Sub.nil _))) ⟨E, (Nat.le_refl _), om, al, f, m_out, (fun g hm => by exact (.inr (List.mem_cons_of_mem _ hm))), (fun hm => by exact z (by first | exact hm | exact k ▸ hm))⟩ ?_
 rintro ⟨i, sv⟩ R4 ⟨E, a8, hi, D, l, G, b, h⟩
 have Q := E
 have a1 := Q.size
 obtain ⟨Asv, Csv, rfl, lsv, hisv⟩ := D.opn
 refine Zg fun K5 H5 => ?_
 refine Zc (Za rfl rfl (Xs rfl rfl) (Ze (Zb (H5 _ _ ?_))))
 refine Zg fun K6 H6 => ?_
 refine Zp rfl (fun B => ?_) (fun B => ?_)
 ·have a9 := B
  have B := Yi B
  refine Zu ?_
  refine Zb (H6 _ _ ?_)
  refine Zg fun K8 H8 => ?_
  refine Zx ?_
  refine Zg fun K9 H9 => ?_
  refine Zc (Zm rfl rfl ?_)
  have ba := ak.ch Q (fun i hm => by rcases List.mem_cons.1 hm with k | hm; (omega); (have R := f _ hm; have aM := j _ hm; omega))
  refine (Yw ba Zao el129 sz88 rfl rfl rfl om fun aN aO am aa => ?_)
  have bb := U.ch Q (fun i hm => by rcases List.mem_cons.1 hm with k | hm; (omega); (have R := f _ hm; have aM := j _ hm; omega))
  obtain ⟨H, ab, V⟩ := bb.get am
  obtain ⟨a2, a3, aP, aQ, aR, ac⟩ := V.open
  have aS := ac.1
  replace aa : At R4 LT_x L_out aN ([(.pointer (some aO))]) := aa
  refine Za rfl rfl (Yr aa agg88 rfl rfl) (Za rfl rfl (Zf rfl) (Ze (Zb (H9 _ _ (Zc (Za rfl rfl (Zd rfl) (Za rfl rfl (Zd rfl) (Zm rfl rfl ?_))))))))
  refine Step.call (Zl (xs := [.tmp 15, .tmp 16]) fk110 rfl) (ih V G om D (fun hm => by exact h (by first | exact hm | exact k ▸ hm)) (Lo.down l om) (by have R := Zrr ab; simp only [List.length_append]; omega) (by have := Tr.kid_sz ab; omega)) fun bc a4 aT => ?_
  obtain ⟨aU, rfl, ad, F, A, o, a5⟩ := aT
  have be := a5.size
  have E := E.step a5 (fun i hm => by rcases List.mem_cons.1 hm with k | hm; (right; exact k ▸ List.mem_cons_self ..); (exact b _ hm))
  obtain ⟨p, q, rfl, aV, aF⟩ := F.opn
  have I : Lo L_out (.slice p ((a ++ Xy (x.kids.take i)) ++ H.flat).length q) := Yz A o om l
  have u : ∀ g ∈ bl (.slice p ((a ++ Xy (x.kids.take i)) ++ H.flat).length q), w.heap.size ≤ g ∨ g ∈ (b_out :: bl (.slice d a.length e)) := Zvo (m := w.heap.size) (W := (b_out :: bl (.slice d a.length e))) A o om (fun g hm => b _ hm)
  replace ad : Blk a4 b_out t_out [(.slice p ((a ++ Xy (x.kids.take i)) ++ H.flat).length q)] := ad
  refine Ze (Zw (Zb (H8 _ _ (Zc (Za rfl rfl (Yo om rfl rfl) (Za rfl rfl (Zd rfl) (Ze ?_)))))))
  have ae : Ol Token.cs 84 4 a4 (.slice p ((a ++ Xy (x.kids.take i)) ++ H.flat).length q) (a ++ Xy (x.kids.take (i + 1))) := by
   have hx := F
   exact hx.eq (by rw [List.append_assoc, ← Zoi ab])
  exact Zb (Exists.intro ((i + 1), (.slice p ((a ++ Xy (x.kids.take i)) ++ H.flat).length q)) ⟨⟨E, om, om, ae, (Lo.down I om), ad, (fun g hm => by exact (u _ hm)), (fun hm => by exact o (by first | exact hm | exact k ▸ hm))⟩, sC4 rfl rfl rfl rfl (sC1 rfl (Sub.nil _)), (by first | omega | (dsimp only; omega))⟩)
 have a9 := B
 have B := Yj B
 refine Xe (Zr (Zr (Yu ?_)))
 refine Zb (H1 _ _ ?_)
 refine Xb ((bl (.slice Asv (a ++ Xy (x.kids.take i)).length Csv)) ++ [b_out]) 14 mixed rfl fun ai af => ?_
 have bf := af.size
 have E := E.trans af.of_nil
 refine dV 0 rfl rfl rfl (fun _ => Zd rfl) (dV 1 rfl rfl rfl (fun _ => Zd rfl) (dV 2 rfl rfl rfl (fun _ => Yf rfl) (dV 3 rfl rfl rfl (fun _ => Zh fa44_0 rfl) (dV 5 rfl rfl rfl (fun _ => Zd rfl) (dV 6 rfl rfl rfl (fun _ => Yf rfl) (dV 7 rfl rfl rfl (fun _ => Zh fa131_0 rfl) ?_))))))
 have bg := (T.ch Q (fun i hm => by rcases List.mem_cons.1 hm with k | hm; (omega); (have R := f _ hm; have aM := j _ hm; omega))).ch0 af
 refine dT 8 rfl rfl rfl (Zqm 4 bg (fun i hm => by rcases List.mem_append.1 hm with hm | hm; (have R := l _ hm; have aM := hisv _ hm; omega); (have R := List.mem_singleton.1 hm; omega)) agg84 sz84 rfl rfl ?_)
 refine Zat 4 9 (by kernel_rfl) ?_ ?_
 ·refine Zz rfl rfl rfl ?_
  have a6 := G.ch0 af
  refine s_v (Zk a6.at_ agg42 rfl rfl) ?_
  refine ⟨(Ch.refl _ _), ?_⟩
  refine dO 9 (Zz rfl rfl rfl ?_)
  refine Ym (cs := Token.cs) (parts := [(0, .tmp 27)]) (⟨0, 0, 0, 0⟩ : Token) [x.tok] el42 sz84 zr84 Token.len (by decide) rfl rfl rfl (by decide) (by decide) rfl fun aW bh J an ao => ?_
  have bi := ao.size
  have E := E.trans ao.of_nil
  obtain ⟨ap, aq, rfl, au, ag⟩ := J.opn
  have X : Ch ((bl (.slice Asv (a ++ Xy (x.kids.take i)).length Csv)) ++ [b_out]) ai bh := ((Ch.refl _ _).trans ao.of_nil)
  refine ⟨X, ?_⟩
  refine dO 10 (Zz rfl rfl rfl ?_)
  have bj := (D.ch0 af).ch0 ao
  refine Xn (cs := Token.cs) el42 sz84 by84 zr84 rfl (by decide) Token.one bj J.ls rfl rfl (by have R := Zew x i; simp only [List.length_append, List.length_singleton]; omega) (by have R := Zew x i; simp only [List.length_append, List.length_singleton]; omega) l om fun aX bk K av r aG => ?_
  have bm := aG.size
  have E := E.step aG (fun i hm => by exact b _ hm)
  obtain ⟨s, t, rfl, aw, ah⟩ := K.opn
  have Y : Ch ((bl (.slice Asv (a ++ Xy (x.kids.take i)).length Csv)) ++ [b_out]) ai bk := (X.step aG (fun i hm => by exact .inr (List.mem_append_left _ hm)))
  refine ⟨Y, ?_⟩
  refine dV 11 rfl rfl rfl (fun _ => Yf rfl) (dV 12 rfl rfl rfl (fun _ => Zh fa44_0 rfl) (dO 13 (Zz rfl rfl rfl ?_)))
  have bn := (a6.ch0 ao).ch aG (fun hm => by exact h (by first | exact hm | exact k ▸ hm))
  refine Xm (off := 0) bn sz42 rfl rfl rfl rfl fun aY L aH => ?_
  have bp := aH.size
  have E := E.step aH (fun i hm => by have k := List.mem_singleton.1 hm; right; exact k ▸ List.mem_cons_self ..)
  replace L : Blk aY b_out t_out [(.slice s ((a ++ Xy (x.kids.take i) ++ [x.tok])).length t)] := L
  have ax : Ch ((bl (.slice Asv (a ++ Xy (x.kids.take i)).length Csv)) ++ [b_out]) ai aY := (Y.step aH (fun i hm => by have k := List.mem_singleton.1 hm; exact .inr (by rw [k]; exact (List.mem_append_right _ (List.mem_singleton.2 rfl)))))
  refine ⟨ax, ?_⟩
  refine Yc (by kernel_rfl) ?_
  have bq := K.ch aH (fun g hg hm => by have k := List.mem_singleton.1 hm; rcases r with ea | ea; (rw [ea] at hg; exact h (by first | exact hg | exact k ▸ hg)); (rw [ea] at hg; have ay := List.mem_singleton.1 hg; omega))
  have az : Ol Token.cs 84 4 aY (.slice s ((a ++ Xy (x.kids.take i) ++ [x.tok])).length t) (a ++ x.flat) := by
   have hx := bq
   exact hx.eq (by rw [List.append_assoc, Zky om])
  exact Zev [] trivial ⟨(.slice s ((a ++ Xy (x.kids.take i) ++ [x.tok])).length t), rfl, L, az, (fun g hm => by rcases r with ea | ea; (rw [ea] at hm; exact b _ hm); (rw [ea] at hm; have ay := List.mem_singleton.1 hm; left; omega)), (fun hm => by rcases r with ea | ea; (rw [ea] at hm; exact h (by first | exact hm | exact k ▸ hm)); (rw [ea] at hm; have ay := List.mem_singleton.1 hm; omega)), E⟩
 refine Zz rfl rfl rfl ?_
 refine Ym (cs := Token.cs) (parts := [(0, .tmp 27)]) (⟨0, 0, 0, 0⟩ : Token) [x.tok] el42 sz84 zr84 Token.len (by decide) rfl rfl rfl (by decide) (by decide) rfl fun aW br J an aA => ?_
 have bs := aA.size
 have E := E.trans aA.of_nil
 obtain ⟨ap, aq, rfl, au, ag⟩ := J.opn
 have M : Ch ((bl (.slice Asv (a ++ Xy (x.kids.take i)).length Csv)) ++ [b_out]) ai br := ((Ch.refl _ _).trans aA.of_nil)
 refine ⟨M, ?_⟩
 refine dO 4 (Zz rfl rfl rfl ?_)
 have a7 := (G.ch0 af).ch0 aA
 refine s_v (Zk a7.at_ agg42 rfl rfl) ?_
 refine ⟨M, ?_⟩
 refine dO 10 (Zz rfl rfl rfl ?_)
 have bu := (D.ch0 af).ch0 aA
 refine Xn (cs := Token.cs) el42 sz84 by84 zr84 rfl (by decide) Token.one bu J.ls rfl rfl (by have R := Zew x i; simp only [List.length_append, List.length_singleton]; omega) (by have R := Zew x i; simp only [List.length_append, List.length_singleton]; omega) l om fun aX bv K av r aI => ?_
 have bw := aI.size
 have E := E.step aI (fun i hm => by exact b _ hm)
 obtain ⟨s, t, rfl, aw, ah⟩ := K.opn
 have Z : Ch ((bl (.slice Asv (a ++ Xy (x.kids.take i)).length Csv)) ++ [b_out]) ai bv := (M.step aI (fun i hm => by exact .inr (List.mem_append_left _ hm)))
 refine ⟨Z, ?_⟩
 refine dV 11 rfl rfl rfl (fun _ => Yf rfl) (dV 12 rfl rfl rfl (fun _ => Zh fa44_0 rfl) (dO 13 (Zz rfl rfl rfl ?_)))
 have bx := a7.ch aI (fun hm => by exact h (by first | exact hm | exact k ▸ hm))
 refine Xm (off := 0) bx sz42 rfl rfl rfl rfl fun aZ O aJ => ?_
 have bz := aJ.size
 have E := E.step aJ (fun i hm => by have k := List.mem_singleton.1 hm; right; exact k ▸ List.mem_cons_self ..)
 replace O : Blk aZ b_out t_out [(.slice s ((a ++ Xy (x.kids.take i) ++ [x.tok])).length t)] := O
 have aB : Ch ((bl (.slice Asv (a ++ Xy (x.kids.take i)).length Csv)) ++ [b_out]) ai aZ := (Z.step aJ (fun i hm => by have k := List.mem_singleton.1 hm; exact .inr (by rw [k]; exact (List.mem_append_right _ (List.mem_singleton.2 rfl)))))
 refine ⟨aB, ?_⟩
 refine Yc (by kernel_rfl) ?_
 have bA := K.ch aJ (fun g hg hm => by have k := List.mem_singleton.1 hm; rcases r with ea | ea; (rw [ea] at hg; exact h (by first | exact hg | exact k ▸ hg)); (rw [ea] at hg; have ay := List.mem_singleton.1 hg; omega))
 have aC : Ol Token.cs 84 4 aZ (.slice s ((a ++ Xy (x.kids.take i) ++ [x.tok])).length t) (a ++ x.flat) := by
  have hx := bA
  exact hx.eq (by rw [List.append_assoc, Zky om])
 exact Zev [] trivial ⟨(.slice s ((a ++ Xy (x.kids.take i) ++ [x.tok])).length t), rfl, O, aC, (fun g hm => by rcases r with ea | ea; (rw [ea] at hm; exact b _ hm); (rw [ea] at hm; have ay := List.mem_singleton.1 hm; left; omega)), (fun hm => by rcases r with ea | ea; (rw [ea] at hm; exact h (by first | exact hm | exact k ▸ hm)); (rw [ea] at hm; have ay := List.mem_singleton.1 hm; omega)), E⟩
theorem Zem {w : World} {LT_x L_out : Nat} {p_x : Addr} {x : Tr} (i : TrAt w LT_x L_out p_x x) {b_out t_out : Nat} {a : Value} {h : List Token} (m_out : Blk w b_out t_out [a]) (e : L_out ≤ b_out) (f : Ol Token.cs 84 4 w a h) (c : b_out ∉ bl a) (d : Lo L_out a) (hb : h.length + x.sz ≤ 4194304) :
 Ctr Try.prog 110 #[(.pointer (some p_x)), (.pointer (some ⟨b_out, 0, none⟩))] w (fun v w' => ∃ (b : Value), v = .tuple #[] ∧ Blk w' b_out t_out [b] ∧ Ol Token.cs 84 4 w' b (h ++ x.flat) ∧ (∀ g ∈ bl b, w.heap.size ≤ g ∨ g ∈ (b_out :: bl a)) ∧ b_out ∉ bl b ∧ Ch (b_out :: bl a) w w') := Zdt _ i m_out e f c d hb (Nat.lt_succ_self _)

/-- impl.tree).expr -/
theorem Zgv {w : World} {LT_x s : Nat} {p_x : Addr} {x : Tr} (l : TrAt w LT_x s p_x x) (hb : x.sz ≤ 4194304) :
 Ctr Try.prog 71 #[(.pointer (some p_x))] w (fun v w' => ∃ u, v = .agg #[u] ∧ Ol Token.cs 84 4 w' u (x.flat) ∧ Lo w.heap.size u ∧ Ch [] w w') := by
 have l := l.here
 obtain ⟨L, M, D, F, G, o⟩ := l.open
 have H := o.1
 have E := Ch.refl [] w
 refine Ye (N := 8) (vs0 := [(.pointer (some p_x))]) Try.func71 rfl rfl rfl ?_
 refine Zg fun K1 H1 => ?_
 refine Zc (Zm rfl rfl ?_)
 refine Yh zr44 fun t W2 q C2 T => ?_
 have U := C2.size
 have E := E.trans C2
 have V := q.lt
 replace q : Blk W2 t 44 [(.slice none 0 0)] := q
 refine Ze (Zb (H1 _ _ ?_))
 refine Zg fun K3 H3 => ?_
 refine Zc (Za rfl rfl (Yn (parts := []) (cells := [(.slice none 0 0)]) zr44 pl44 rfl rfl) (Zm rfl rfl ?_))
 refine Yh zr44 fun y W4 r C4 X => ?_
 have Y := C4.size
 have E := E.trans C4
 have Z := r.lt
 replace r : Blk W4 y 44 [(.slice none 0 0)] := r
 refine Zm rfl rfl ?_
 refine Zn (off := 0) 1 r sz44 rfl (us := [(.slice none 0 0)]) rfl rfl rfl rfl fun W5 n C5 => ?_
 have aa := C5.size
 have E := E.step C5 (lS om)
 replace n : Blk W5 y 44 [(.slice none 0 0)] := n
 refine Ze (Zb (H3 _ _ ?_))
 refine Zg fun K7 H7 => ?_
 refine Zc (Za rfl rfl (Zd rfl) (Zm rfl rfl ?_))
 have F8 := ((l.ch0 C2).ch0 C4).ch C5 (oS om)
 refine Step.call (Zl (xs := [.tmp 5, .tmp 3]) fk110 rfl) (Zem F8 n om (Ol.nil (cs := Token.cs) (e := 84) (k := 4) W5) (fun hm => by cases hm) (Lo.nil _) (by simp only [List.length_nil]; omega)) fun ab W9 O => ?_
 obtain ⟨I, rfl, z, h, d, f, C9⟩ := O
 have ac := C9.size
 have E := E.step C9 (fun i hm => .inl (by rcases List.mem_cons.1 hm with A | hm; (omega); (cases hm)))
 obtain ⟨b, c, rfl, J, B⟩ := h.opn
 have m : Lo W5.heap.size (.slice b ([] ++ x.flat).length c) := Yz d f om (fun g hm => by cases hm)
 have a := Zv d f (show t < _ by omega) (fun hm => by cases hm)
 replace z : Blk W9 y 44 [(.slice b ([] ++ x.flat).length c)] := z
 refine Ze (Zb (H7 _ _ ?_))
 refine Zg fun ad P => ?_
 refine Zc (Za rfl rfl (Zy z.at_ agg44 sz44 rfl) (Zm rfl rfl ?_))
 have Q := ((q.ch0 C4).ch C5 (nS om)).ch C9 (fun hm => by rcases List.mem_cons.1 hm with A | hm; (omega); (cases hm))
 refine Zn (off := 0) 1 Q sz44 rfl (us := [(.slice b ([] ++ x.flat).length c)]) rfl rfl rfl rfl fun K j C => ?_
 have R := C.size
 have E := E.step C (lS om)
 replace j : Blk K t 44 [(.slice b ([] ++ x.flat).length c)] := j
 refine Ze (Zb (P _ _ ?_))
 refine Zq ?_
 have S := h.ch C (fun g hg hm => by have A := List.mem_singleton.1 hm; exact a (by first | exact hg | exact A ▸ hg))
 have p : Ol Token.cs 84 4 K (.slice b ([] ++ x.flat).length c) (x.flat) := by
  have hx := S
  simpa using hx
 exact Zi [_] (Zt j rfl agg44 sz44 trivial) ⟨_, rfl, p, Lo.down m om, E⟩

/-- impl.ExpandExpr -/
theorem Zct {w : World} {LL_e U : Nat} {C : Value} {e : List Token} (m : Ls Token.cs 4 w LL_e U C e) (hb : e.length ≤ 1048576) :
 Ctr Try.prog 28 #[(.agg #[C])] w (fun v w' => ∃ (u : Value), v = .tuple #[.agg #[u], .bool ((Qc e).2)] ∧ Ol Token.cs 84 4 w' u ((Qc e).1) ∧ Lo w.heap.size u ∧ Ch [] w w') := by
 obtain ⟨D, F, G⟩ := m.val
 subst G
 have aD := m.len
 have m := m.here (by decide)
 have E := Ch.refl [] w
 refine Ye (N := 25) (vs0 := [(.agg #[(.slice D e.length F)])]) Try.func28 rfl rfl rfl ?_
 refine Zg fun K1 H1 => ?_
 refine Zc (Zm rfl rfl ?_)
 refine Qw rfl fun aE W2 Q C2 bm => ?_
 have bn := C2.size
 have E := E.trans C2
 have bp := Q.lt
 replace Q : Blk W2 aE 44 [(.slice D e.length F)] := Q
 refine Zm rfl rfl ?_
 refine Yh zr44 fun H W3 x C3 bq => ?_
 have br := C3.size
 have E := E.trans C3
 have bs := x.lt
 replace x : Blk W3 H 44 [(.slice none 0 0)] := x
 refine Za rfl rfl (Zf rfl) (Ze (Zb (H1 _ _ ?_)))
 refine Zg fun K4 H4 => ?_
 refine Zg fun K5 H5 => ?_
 refine Zc ?_
 have F6 := Q.ch0 C3
 refine Za rfl rfl (Zy F6.at_ agg44 sz44 rfl) (Zm rfl rfl ?_)
 have F7 := (m.ch0 C2).ch0 C3
 refine Step.call (Zl (xs := [.tmp 6]) fk68 rfl) (Zcn F7 om) fun bu W8 aF => ?_
 obtain ⟨rfl, C8⟩ := aF
 have bv := C8.size
 have E := E.trans C8
 refine Za rfl rfl (Zbh rfl) (Ze (Zb (H5 _ _ ?_)))
 refine Zp rfl (fun f => ?_) (fun f => ?_)
 ·have aG := f
  have f := Qu f
  refine Zg fun bw aH => ?_
  refine Zc (Za rfl rfl (Yn (parts := []) (cells := [(.slice none 0 0)]) zr44 pl44 rfl rfl) (Zm rfl rfl ?_))
  have aI := x.ch0 C8
  refine Zn (off := 0) 1 aI sz44 rfl (us := [(.slice none 0 0)]) rfl rfl rfl rfl fun V n ao => ?_
  have aJ := ao.size
  have E := E.step ao (lS om)
  replace n : Blk V H 44 [(.slice none 0 0)] := n
  refine Za rfl rfl (Zf rfl) (Ze (Zb (aH _ _ ?_)))
  refine Zq (Zo ?_)
  have I : Ol Token.cs 84 4 V (.slice none 0 0) ((Qc e).1) := by
   have hx := Ol.nil (cs := Token.cs) (e := 84) (k := 4) V
   first | (rw [Zbj f]; exact hx) | (rw [Zah a om]; exact hx) | (rw [Zaj a (by rw [← Tr.flat_len]; omega)]; exact hx) | (rw [Zbk a om om (by rw [← Tr.flat_len]; omega)]; exact hx)
  exact Zi [_, _] (Zt n rfl agg44 sz44 ⟨rfl, trivial⟩) ⟨(.slice none 0 0), (congrArg (fun zq => (Value.tuple #[.agg #[(.slice none 0 0)], .bool zq])) (by first | (rw [Zbj f]; done) | (rw [Zah a om]; done) | (rw [Zaj a (by rw [← Tr.flat_len]; omega)]; done) | (rw [Zbk a om om (by rw [← Tr.flat_len]; omega)]; done))), I, (Lo.nil _), E⟩
 have aG := f
 have f := Qv f
 obtain ⟨bx, aK, hok, hl, aL⟩ := Zkn f
 refine Zu ?_
 refine Zb (H4 _ _ ?_)
 refine Zg fun bz aM => ?_
 refine Zc ?_
 have aN := F6.ch0 C8
 refine Za rfl rfl (Zy aN.at_ agg44 sz44 rfl) (Zm rfl rfl ?_)
 have aO := F7.ch0 C8
 refine Step.call (Zl (xs := [.tmp 10]) fk66 rfl) (Zca aO om) fun aP ap y => ?_
 obtain ⟨y, J⟩ := y
 have aQ := J.size
 have E := E.trans J
 rcases y with ⟨a, rfl⟩ | ⟨d, X, a, rfl, g⟩
 ·exact (Zsq f a).elim
 replace g : TrAt ap W8.heap.size ap.heap.size X d := g
 obtain ⟨aq, au, Y, Z, aa, z⟩ := g.open
 have ab := z.1
 refine Za rfl rfl (Zf rfl) (Ze (Zb (aM _ _ ?_)))
 refine Zg fun bA aR => ?_
 refine Zg fun bB aS => ?_
 refine Zc (Za rfl rfl (Zd rfl) (Zm rfl rfl ?_))
 refine Step.call (Zl (xs := [.tmp 12]) fk69 rfl) (Zfu g (Zdv a).1) fun aT aU ac => ?_
 obtain ⟨rfl, B⟩ := ac
 have aV := B.size
 have E := E.trans B
 have aW := Zbu (Zdv a).1
 refine Za rfl rfl (Zcp rfl rfl) (Ze (Zb (aS _ _ ?_)))
 refine Zp rfl (fun h => ?_) (fun h => ?_)
 ·have ad := h
  have h := Yi h
  refine Zg fun bC aX => ?_
  refine Zc (Za rfl rfl (Yn (parts := []) (cells := [(.slice none 0 0)]) zr44 pl44 rfl rfl) (Zm rfl rfl ?_))
  have aY := ((x.ch0 C8).ch0 J).ch0 B
  refine Zn (off := 0) 1 aY sz44 rfl (us := [(.slice none 0 0)]) rfl rfl rfl rfl fun ae o av => ?_
  have aZ := av.size
  have E := E.step av (lS om)
  replace o : Blk ae H 44 [(.slice none 0 0)] := o
  refine Za rfl rfl (Zf rfl) (Ze (Zb (aX _ _ ?_)))
  refine Zq (Zo ?_)
  have K : Ol Token.cs 84 4 ae (.slice none 0 0) ((Qc e).1) := by
   have hx := Ol.nil (cs := Token.cs) (e := 84) (k := 4) ae
   first | (rw [Zbj f]; exact hx) | (rw [Zah a om]; exact hx) | (rw [Zaj a (by rw [← Tr.flat_len]; omega)]; exact hx) | (rw [Zbk a om om (by rw [← Tr.flat_len]; omega)]; exact hx)
  exact Zi [_, _] (Zt o rfl agg44 sz44 ⟨rfl, trivial⟩) ⟨(.slice none 0 0), (congrArg (fun zq => (Value.tuple #[.agg #[(.slice none 0 0)], .bool zq])) (by first | (rw [Zbj f]; done) | (rw [Zah a om]; done) | (rw [Zaj a (by rw [← Tr.flat_len]; omega)]; done) | (rw [Zbk a om om (by rw [← Tr.flat_len]; omega)]; done))), K, (Lo.nil _), E⟩
 have ad := h
 have h := Yj h
 refine Zu ?_
 refine Zb (aR _ _ ?_)
 refine Zg fun bD a0 => ?_
 refine Zc (Za rfl rfl (Zd rfl) (Zm rfl rfl ?_))
 have a1 := g.ch0 B
 refine Step.call (Zl (xs := [.tmp 16]) fk70 rfl) (Zfh a1 (Zdv a).1) fun a2 aw af => ?_
 obtain ⟨ag, rfl, j, R⟩ := af
 have a3 := R.size
 have E := E.trans R
 replace j : TrAt aw aU.heap.size aw.heap.size ag (Xl d) := j
 obtain ⟨ax, ay, ah, ai, aj, A⟩ := j.open
 have ak := A.1
 refine Zm rfl rfl ?_
 refine Step.call (Zl (xs := [.tmp 17]) fk71 rfl) (Zgv j (by have aW := Zbu (Zdv a).1 om; omega)) fun a4 bE t => ?_
 obtain ⟨a5, rfl, t, p, S⟩ := t
 have a6 := S.size
 have E := E.trans S
 obtain ⟨b, c, rfl, az, q⟩ := t.opn
 refine Zm rfl rfl ?_
 refine Yh zr44 fun aA a7 T L aK => ?_
 have a8 := L.size
 have E := E.trans L
 have bF := T.lt
 replace T : Blk a7 aA 44 [(.slice none 0 0)] := T
 refine Zm rfl rfl ?_
 refine Zn (off := 0) 1 T sz44 rfl (us := [(.slice b ((Xl d).flat).length c)]) rfl rfl rfl rfl fun a9 l M => ?_
 have ba := M.size
 have E := E.step M (lS om)
 replace l : Blk a9 aA 44 [(.slice b ((Xl d).flat).length c)] := l
 refine Ze (Zb (a0 _ _ ?_))
 refine Zg fun bG bb => ?_
 refine Zg fun bH bc => ?_
 refine Zc (Za rfl rfl (Zh fa44_0 rfl) (Za rfl rfl (Zk l.at_ agg42 rfl rfl) (Za rfl rfl (Xc (by rw [el42]; rfl) rfl) (Za rfl rfl (Zcp rfl rfl) (Ze (Zb (bc _ _ ?_)))))))
 refine Zp rfl (fun i => ?_) (fun i => ?_)
 ·have al := i
  have i := Yi i
  refine Zg fun bI be => ?_
  refine Zc (Za rfl rfl (Yn (parts := []) (cells := [(.slice none 0 0)]) zr44 pl44 rfl rfl) (Zm rfl rfl ?_))
  have bf := ((((((x.ch0 C8).ch0 J).ch0 B).ch0 R).ch0 S).ch0 L).ch M (nS om)
  refine Zn (off := 0) 1 bf sz44 rfl (us := [(.slice none 0 0)]) rfl rfl rfl rfl fun am r aB => ?_
  have bg := aB.size
  have E := E.step aB (lS om)
  replace r : Blk am H 44 [(.slice none 0 0)] := r
  refine Za rfl rfl (Zf rfl) (Ze (Zb (be _ _ ?_)))
  refine Zq (Zo ?_)
  have O : Ol Token.cs 84 4 am (.slice none 0 0) ((Qc e).1) := by
   have hx := Ol.nil (cs := Token.cs) (e := 84) (k := 4) am
   first | (rw [Zbj f]; exact hx) | (rw [Zah a om]; exact hx) | (rw [Zaj a (by rw [← Tr.flat_len]; omega)]; exact hx) | (rw [Zbk a om om (by rw [← Tr.flat_len]; omega)]; exact hx)
  exact Zi [_, _] (Zt r rfl agg44 sz44 ⟨rfl, trivial⟩) ⟨(.slice none 0 0), (congrArg (fun zq => (Value.tuple #[.agg #[(.slice none 0 0)], .bool zq])) (by first | (rw [Zbj f]; done) | (rw [Zah a om]; done) | (rw [Zaj a (by rw [← Tr.flat_len]; omega)]; done) | (rw [Zbk a om om (by rw [← Tr.flat_len]; omega)]; done))), O, (Lo.nil _), E⟩
 have al := i
 have i := Yj i
 refine Zu ?_
 refine Zb (bb _ _ ?_)
 refine Zg fun bJ bh => ?_
 refine Zc (Za rfl rfl (Zy l.at_ agg44 sz44 rfl) (Zm rfl rfl ?_))
 have bi := ((((((x.ch0 C8).ch0 J).ch0 B).ch0 R).ch0 S).ch0 L).ch M (nS om)
 refine Zn (off := 0) 1 bi sz44 rfl (us := [(.slice b ((Xl d).flat).length c)]) rfl rfl rfl rfl fun aC s an => ?_
 have bj := an.size
 have E := E.step an (lS om)
 replace s : Blk aC H 44 [(.slice b ((Xl d).flat).length c)] := s
 refine Za rfl rfl (Zf rfl) (Ze (Zb (bh _ _ ?_)))
 refine Zq ?_
 have bk := ((t.ch0 L).ch M (dS p q om)).ch an (dS p q om)
 have P : Ol Token.cs 84 4 aC (.slice b ((Xl d).flat).length c) ((Qc e).1) := by
  have hx := bk
  first | (rw [Zbj f]; exact hx) | (rw [Zah a om]; exact hx) | (rw [Zaj a (by rw [← Tr.flat_len]; omega)]; exact hx) | (rw [Zbk a om om (by rw [← Tr.flat_len]; omega)]; exact hx)
 exact Zi [_, _] (Zt s rfl agg44 sz44 ⟨rfl, trivial⟩) ⟨(.slice b ((Xl d).flat).length c), (congrArg (fun zq => (Value.tuple #[.agg #[(.slice b ((Xl d).flat).length c)], .bool zq])) (by first | (rw [Zbj f]; done) | (rw [Zah a om]; done) | (rw [Zaj a (by rw [← Tr.flat_len]; omega)]; done) | (rw [Zbk a om om (by rw [← Tr.flat_len]; omega)]; done))), P, (Lo.down p om), E⟩

/-- impl.Positions).follow -/
theorem Zbo {w : World} {b_p t_p L_p : Nat} {c : Value} {s : List Int} {L : Int} {M : Int} {d : Value} {e : List Int} {O : Bool} (m_p : Blk w b_p t_p [c, (.int .i64 L), (.int .i64 M), d, (.bool O)]) (ab : L_p ≤ b_p) (x : Ol ics 3 1 w c s) (A : b_p ∉ bl c) (Q : Lo L_p c) (y : Ol ics 3 1 w d e) (t : b_p ∉ bl d) (R : Lo L_p d) (p : ∀ g ∈ bl c, g ∉ bl d) (l : Int) (f : Int) (hb : e.length ≤ 4194304) :
 Ctr Try.prog 103 #[(.pointer (some ⟨b_p, 0, none⟩)), (.int .i64 l), (.int .i64 f)] w (fun v w' => ∃ (D F : Value), v = .tuple #[] ∧ Blk w' b_p t_p [D, .int .i64 L, .int .i64 M, F, .bool O] ∧ Ol ics 3 1 w' D (s) ∧ (∀ g ∈ bl D, w.heap.size ≤ g ∨ g ∈ (b_p :: (bl c ++ bl d))) ∧ b_p ∉ bl D ∧ Ol ics 3 1 w' F (lkL l f e) ∧ (∀ g ∈ bl F, w.heap.size ≤ g ∨ g ∈ (b_p :: (bl c ++ bl d))) ∧ b_p ∉ bl F ∧ (∀ g ∈ bl D, g ∉ bl F) ∧ Ch (b_p :: (bl c ++ bl d)) w w') := by
 obtain ⟨h, m, rfl, ac, S⟩ := x.opn
 obtain ⟨a, b, rfl, ad, T⟩ := y.opn
 have ae := m_p.lt
 have E := Ch.refl (b_p :: (bl (.slice h s.length m) ++ bl (.slice a e.length b))) w
 refine Ye (N := 31) (vs0 := [(.pointer (some ⟨b_p, 0, none⟩)), (.int .i64 l), (.int .i64 f)]) Try.func103 rfl rfl rfl ?_
 refine Zg fun K1 H1 => ?_
 refine Zc (Za rfl rfl (Zd rfl) (Za rfl rfl (Yf rfl) (Za rfl rfl (Zh fa48_3 rfl) (Za rfl rfl (Zk m_p.at_ agg30 rfl rfl) (Za rfl rfl (Xc (by rw [el30]; rfl) rfl) (Za rfl rfl (Zd rfl) (Ze ?_)))))))
 refine Zb (H1 _ _ ?_)
 refine Zx ?_
 have G : Ol ics 3 1 w (.slice a e.length b) (lkN l f e 0) := by
  have hx := y
  exact hx
 refine Xi (σ := Nat) (fun (k : Nat) => [(0, (.pointer (some ⟨b_p, 0, none⟩))), (1, (.int .i64 l)), (2, (.int .i64 f)), (11, (.int .i64 ((e.length : Nat) : Int))), (12, (.int .i64 ((k : Nat) : Int)))]) (fun (k : Nat) wx => Ch (b_p :: (bl (.slice h s.length m) ++ bl (.slice a e.length b))) w wx ∧ w.heap.size ≤ wx.heap.size ∧ (k ≤ e.length) ∧ Blk wx b_p t_p [(.slice h s.length m), (.int .i64 L), (.int .i64 M), (.slice a e.length b), (.bool O)] ∧ Ol ics 3 1 wx (.slice h s.length m) s ∧ Ol ics 3 1 wx (.slice a e.length b) (lkN l f e k)) (fun (k : Nat) => e.length - k) 0 (sC4 rfl rfl rfl rfl (sC1 rfl (Sub.nil _))) ⟨E, (Nat.le_refl _), om, m_p, x, G⟩ ?_
 rintro k R3 ⟨E, ai, aw, q, u, n⟩
 have U := E
 have af := U.size
 have V := q.lt
 have aj := Zda l f e k
 refine Zg fun K4 H4 => ?_
 refine Zc (Za rfl rfl (Xs rfl rfl) (Ze (Zb (H4 _ _ ?_))))
 refine Zg fun K5 H5 => ?_
 refine Zp rfl (fun r => ?_) (fun r => ?_)
 ·have ak := r
  have r := Yi r
  refine Zu ?_
  refine Zb (H5 _ _ ?_)
  refine Zg fun K7 H7 => ?_
  refine Zx ?_
  refine Zg fun K8 H8 => ?_
  refine Zc (Za rfl rfl (Zd rfl) (Za rfl rfl (Zf rfl) (Ze (Zb (H8 _ _ ?_)))))
  refine Zg fun K9 H9 => ?_
  refine Zc (Za rfl rfl (Zd rfl) (Za rfl rfl (Zd rfl) (Za rfl rfl (Zgp om rfl rfl) (Za rfl rfl (Zeg rfl rfl) (Za rfl rfl (Yy rfl rfl) (Ze (Zb (H9 _ _ ?_))))))))
  refine Zp rfl (fun o => ?_) (fun o => ?_)
  ·have X := o
   have o := Yi o
   refine Zc (Za rfl rfl (Zd rfl) (Za rfl rfl (Yf rfl) (Za rfl rfl (Zh fa48_3 rfl) (Za rfl rfl (Zk q.at_ agg30 rfl rfl) (Za rfl rfl (Zd rfl) (Zm rfl rfl ?_))))))
   refine (Yw n.ls Xg el30 sz3 rfl rfl rfl om fun al Y z Z => ?_)
   refine Za rfl rfl (Yr Z agg3 rfl rfl) (Za rfl rfl (Zd rfl) (Za rfl rfl (r_or rfl rfl) (Zm rfl rfl ?_)))
   refine Qj (j := k) n el30 sz3 rfl rfl rfl (by have am := Zda l f e k; omega) fun an ao ag aa => ?_
   refine Zm rfl rfl ?_
   refine Qk (j := k) (ior Y f) n aa Xg sz3 rfl rfl rfl rfl (by have am := Zda l f e k; omega) fun ap H P => ?_
   have aq := P.size
   have E := E.step P (fun i hm => by exact (.inr (List.mem_cons_of_mem _ (List.mem_append_right _ hm))))
   refine Ze (Zw (Zb (H7 _ _ (Zc (Za rfl rfl (Yo om rfl rfl) (Za rfl rfl (Zd rfl) (Ze ?_)))))))
   have B : Ol ics 3 1 ap (.slice a e.length b) (lkN l f e (k + 1)) := by
    have hx := H
    first | exact hx.eq (Zrf o z) | exact hx.eq (Zqv o)
   have au := q.ch P (fun hm => by exact t (by first | exact hm | exact ah ▸ hm))
   have av := u.ch P (fun g hg hm => by exact p _ hg hm)
   exact Zb (Exists.intro (k + 1) ⟨⟨E, om, om, au, av, B⟩, sC4 rfl rfl rfl rfl (sC1 rfl (Sub.nil _)), (by first | omega | (dsimp only; omega))⟩)
  have X := o
  have o := Yj o
  refine Zu ?_
  refine Zw (Zb (H7 _ _ (Zc (Za rfl rfl (Yo om rfl rfl) (Za rfl rfl (Zd rfl) (Ze ?_))))))
  have C : Ol ics 3 1 R3 (.slice a e.length b) (lkN l f e (k + 1)) := by
   have hx := n
   first | exact hx.eq (Zrf o z) | exact hx.eq (Zqv o)
  exact Zb (Exists.intro (k + 1) ⟨⟨E, om, om, q, u, C⟩, sC4 rfl rfl rfl rfl (sC1 rfl (Sub.nil _)), (by first | omega | (dsimp only; omega))⟩)
 have ak := r
 have r := Yj r
 refine Xe (Zr (Zr (Yu ?_)))
 have I : Ol ics 3 1 R3 (.slice h s.length m) (s) := by
  have hx := u
  first | exact hx | simpa using hx
 have J : Ol ics 3 1 R3 (.slice a e.length b) (lkL l f e) := by
  have hx := n
  exact hx.eq (by rw [show k = e.length by omega]; rfl)
 have K : Blk R3 b_p t_p [(.slice h s.length m), .int .i64 L, .int .i64 M, (.slice a e.length b), .bool O] := by
  have hx := q
  exact hx
 exact Zev [] trivial ⟨(.slice h s.length m), (.slice a e.length b), rfl, K, I, (fun g hm => by exact (.inr (List.mem_cons_of_mem _ (List.mem_append_left _ hm)))), (fun hm => by exact A (by first | exact hm | exact ah ▸ hm)), J, (fun g hm => by exact (.inr (List.mem_cons_of_mem _ (List.mem_append_right _ hm)))), (fun hm => by exact t (by first | exact hm | exact ah ▸ hm)), (fun g hm hg => by exact p _ hm hg), E⟩

end Go.Proofs.Ytgnlfnkgkcmdjaa
