/- Walks of functions that FnHistories reaches: what each returns, and that it leaves the memory that was there alone. -/
import Derived.Test.YtkmhgeppenifoaaLibA
import Derived.Test.YtkmhgeppenifoaaLibB
import Derived.Test.YtkmhgeppenifoaaWHistories
import Derived.Test.YtkmhgeppenifoaaProg
namespace Go.Proofs.Ytkmhgeppenifoaa
open Go.KLib Go.Shelf
set_option maxHeartbeats 1000000
set_option maxRecDepth 20000
set_option linter.unusedVariables false
set_option linter.unusedSimpArgs false
namespace THistoriesb
theorem agg129 : Yk Try.prog 129 = some true := by kernel_rfl
theorem agg22 : Yk Try.prog 22 = some false := by kernel_rfl
theorem agg3 : Yk Try.prog 3 = some false := by kernel_rfl
theorem agg34 : Yk Try.prog 34 = some false := by kernel_rfl
theorem agg36 : Yk Try.prog 36 = some true := by kernel_rfl
theorem agg4 : Yk Try.prog 4 = some false := by kernel_rfl
theorem agg55 : Yk Try.prog 55 = some false := by kernel_rfl
theorem agg57 : Yk Try.prog 57 = some true := by kernel_rfl
theorem agg61 : Yk Try.prog 61 = some false := by kernel_rfl
theorem agg63 : Yk Try.prog 63 = some true := by kernel_rfl
theorem by129 : Qo Try.prog 129 = some 32 := by kernel_rfl
theorem by3 : Qo Try.prog 3 = some 8 := by kernel_rfl
theorem by36 : Qo Try.prog 36 = some 48 := by kernel_rfl
theorem el22 : elB Try.prog 22 = some 3 := by kernel_rfl
theorem el34 : elB Try.prog 34 = some 129 := by kernel_rfl
theorem el55 : elB Try.prog 55 = some 36 := by kernel_rfl
theorem el61 : elB Try.prog 61 = some 142 := by kernel_rfl
theorem el70 : elB Try.prog 70 = some 5 := by kernel_rfl
theorem fa129_0 : faB Try.prog 129 0 = some 0 := by kernel_rfl
theorem fa129_1 : faB Try.prog 129 1 = some 1 := by kernel_rfl
theorem fa129_2 : faB Try.prog 129 2 = some 2 := by kernel_rfl
theorem fa129_3 : faB Try.prog 129 3 = some 3 := by kernel_rfl
theorem fa142_0 : faB Try.prog 142 0 = some 0 := by kernel_rfl
theorem fa142_1 : faB Try.prog 142 1 = some 1 := by kernel_rfl
theorem fa36_0 : faB Try.prog 36 0 = some 0 := by kernel_rfl
theorem fa36_1 : faB Try.prog 36 1 = some 1 := by kernel_rfl
theorem fa57_0 : faB Try.prog 57 0 = some 0 := by kernel_rfl
theorem fa57_1 : faB Try.prog 57 1 = some 1 := by kernel_rfl
theorem fa63_0 : faB Try.prog 63 0 = some 0 := by kernel_rfl
theorem fk122 : fnB Try.prog 122 = true := by kernel_rfl
theorem fk124 : fnB Try.prog 124 = true := by kernel_rfl
theorem fk125 : fnB Try.prog 125 = true := by kernel_rfl
theorem fk34 : fnB Try.prog 34 = true := by kernel_rfl
theorem fk84 : fnB Try.prog 84 = true := by kernel_rfl
theorem fk88 : fnB Try.prog 88 = true := by kernel_rfl
theorem fk89 : fnB Try.prog 89 = true := by kernel_rfl
theorem fk90 : fnB Try.prog 90 = true := by kernel_rfl
theorem fk92 : fnB Try.prog 92 = true := by kernel_rfl
theorem fk93 : fnB Try.prog 93 = true := by kernel_rfl
theorem fk99 : fnB Try.prog 99 = true := by kernel_rfl
theorem ist129 : Zat Try.prog 129 4 = true := by kernel_rfl
theorem mixed : Try.prog.follows .mixedOrders = true := by kernel_rfl
theorem pl36 : Qu Try.prog 36 = some [(0, 1), (1, 1)] := by kernel_rfl
theorem pl57 : Qu Try.prog 57 = some [(0, 1), (1, 1)] := by kernel_rfl
theorem sz129 : Ya Try.prog 129 = some 4 := by kernel_rfl
theorem sz142 : Ya Try.prog 142 = some 5 := by kernel_rfl
theorem sz3 : Ya Try.prog 3 = some 1 := by kernel_rfl
theorem sz34 : Ya Try.prog 34 = some 1 := by kernel_rfl
theorem sz36 : Ya Try.prog 36 = some 2 := by kernel_rfl
theorem sz55 : Ya Try.prog 55 = some 1 := by kernel_rfl
theorem sz57 : Ya Try.prog 57 = some 2 := by kernel_rfl
theorem sz63 : Ya Try.prog 63 = some 1 := by kernel_rfl
theorem zr129 : Yw Try.prog 129 = some (.agg #[.int .i64 0, .int .i64 0, .int .i64 0, .int .i64 0]) := by kernel_rfl
theorem zr3 : Yw Try.prog 3 = some (.int .i64 0) := by kernel_rfl
theorem zr36 : Yw Try.prog 36 = some (.agg #[.slice none 0 0, .slice none 0 0]) := by kernel_rfl
theorem zr57 : Yw Try.prog 57 = some (.agg #[.int .i64 0, .slice none 0 0]) := by kernel_rfl
end THistoriesb
open THistoriesb

/-- impl.EqualHistories -/
theorem Zcz {w : World} (aF : Int) {LL_saG o : Nat} {g : Value} {saG : List Gv} (a : Ls Gv.cs 2 w LL_saG o g saG) {LR_aG BB_aG : Nat} {aG : List GD} (e : RdG w LR_aG BB_aG saG aG) (bF : Int) {LL_sbG p : Nat} {h : Value} {sbG : List Gv} (b : Ls Gv.cs 2 w LL_sbG p h sbG) {LR_bG BB_bG : Nat} {bG : List GD} (f : RdG w LR_bG BB_bG sbG bG) :
 Ctr Try.prog 32 #[(.agg #[(.int .i64 aF), g]), (.agg #[(.int .i64 bF), h])] w (fun v w' => v = .bool (tt (aF = bF ∧ aG = bG)) ∧ Ch [] w w') := by
 obtain ⟨i, j, m⟩ := a.val
 subst m
 have t := a.len
 have a := a.here (by decide)
 have e := e.here
 have u := e.1
 obtain ⟨k, l, n⟩ := b.val
 subst n
 have x := b.len
 have b := b.here (by decide)
 have f := f.here
 have y := f.1
 have E := Ch.refl [] w
 refine Yj (N := 17) (vs0 := [(.agg #[(.int .i64 aF), (.slice i saG.length j)]), (.agg #[(.int .i64 bF), (.slice k sbG.length l)])]) Try.func32 rfl rfl rfl ?_
 refine Zh fun K1 H1 => ?_
 refine Zc (Zl rfl rfl ?_)
 refine Xm rfl fun B W2 s C2 I => ?_
 have J := C2.size
 have E := E.trans C2
 have K := s.lt
 replace s : Blk W2 B 57 [(.int .i64 aF), (.slice i saG.length j)] := s
 refine Zl rfl rfl ?_
 refine Xm rfl fun C W3 r C3 L => ?_
 have M := C3.size
 have E := E.trans C3
 have O := r.lt
 replace r : Blk W3 C 57 [(.int .i64 bF), (.slice k sbG.length l)] := r
 refine Za rfl rfl (Zf rfl) (Ze (Zb (H1 _ _ ?_)))
 refine Zh fun K4 H4 => ?_
 refine Zc (Za rfl rfl (Zd fa57_0 rfl) ?_)
 have F5 := s.ch0 C3
 refine Za rfl rfl (Zp F5.at_ agg3 rfl rfl) (Za rfl rfl (Zd fa57_0 rfl) (Za rfl rfl (Zp r.at_ agg3 rfl rfl) (Za rfl rfl (Qg rfl rfl) (Za rfl rfl (Zg rfl) ?_))))
 refine Yy (d := 10) rfl (fun c => ?_) (fun c => ?_)
 ·have D := c
  have c := Yt c
  refine Za rfl rfl (Zd fa57_1 rfl) (Za rfl rfl (Zp F5.at_ agg55 rfl rfl) (Za rfl rfl (Zd fa57_1 rfl) (Za rfl rfl (Zp r.at_ agg55 rfl rfl) (Zl rfl rfl ?_))))
  have F7 := (a.ch0 C2).ch0 C3
  have F8 := (e.ch0 C2).ch0 C3
  have F9 := (b.ch0 C2).ch0 C3
  have F := (f.ch0 C2).ch0 C3
  refine Step.call (Zm (xs := [.tmp 12, .tmp 14, .func 38]) fk84 rfl) (Qc F7 F8 F9 F ) fun G P z => ?_
  obtain ⟨rfl, A⟩ := z
  have H := A.size
  have E := E.trans A
  refine Za rfl rfl (Ym rfl rfl) (Za rfl rfl (Zf rfl) (Ze (Zb (H4 _ _ ?_))))
  refine Zv ?_
  exact Zj [_] ⟨rfl, trivial⟩ ⟨congrArg Value.bool (by first | exact Zeo ⟨fun q => ⟨c, q⟩, fun q => q.2⟩ | exact Zu (fun q => c q.1)), E⟩
 have D := c
 have c := Yu c
 refine Zo rfl rfl (Zo rfl rfl (Zo rfl rfl (Zo rfl rfl (Zo rfl rfl (Za rfl rfl (Yl rfl rfl) (Za rfl rfl (Zf rfl) (Ze ?_)))))))
 refine Zb (H4 _ _ ?_)
 refine Zv ?_
 exact Zj [_] ⟨rfl, trivial⟩ ⟨congrArg Value.bool (by first | exact Zeo ⟨fun q => ⟨c, q⟩, fun q => q.2⟩ | exact Zu (fun q => c q.1)), E⟩

/-- laws.big -/
theorem Zic {w : World} {LL_code d : Nat} {b : Value} {code : List Int} (a : Ls ucs 1 w LL_code d b code) :
 Ctr Try.prog 30 #[b] w (fun v w' => v = .bool (decide (1048576 < (code.length : Int))) ∧ Ch [] w w') := by
 obtain ⟨e, f, c⟩ := a.val
 subst c
 have g := a.len
 have a := a.here (by decide)
 have E := Ch.refl [] w
 refine Yj (N := 6) (vs0 := [(.slice e code.length f)]) Try.func30 rfl rfl rfl ?_
 refine Zh fun K1 H1 => ?_
 refine Zc (Za rfl rfl (Zf rfl) (Ze (Zb (H1 _ _ ?_))))
 refine Zh fun K2 H2 => ?_
 refine Zc (Za rfl rfl (Zg rfl) (Za rfl rfl (Yr (by rw [el70]; rfl) rfl) (Za rfl rfl (Zcj rfl rfl) (Za rfl rfl (Zf rfl) (Ze (Zb (H2 _ _ ?_)))))))
 refine Zv ?_
 exact Zj [_] ⟨rfl, trivial⟩ ⟨congrArg Value.bool rfl, E⟩

/-- spec.l1In -/
theorem Qv {w : World} (n : Int) (a : Int) (b : Int) :
 Ctr Try.prog 90 #[(.int .i64 n), (.int .i64 a), (.int .i64 b)] w (fun v w' => v = .bool (decide (a ≤ n ∧ n ≤ b)) ∧ Ch [] w w') := by
 have E := Ch.refl [] w
 refine Yj (N := 15) (vs0 := [(.int .i64 n), (.int .i64 a), (.int .i64 b)]) Try.func90 rfl rfl rfl ?_
 refine Zh fun K1 H1 => ?_
 refine Zc (Za rfl rfl (Zf rfl) (Ze (Zb (H1 _ _ ?_))))
 refine Zh fun K2 H2 => ?_
 refine Zc (Za rfl rfl (Zg rfl) (Za rfl rfl (Zg rfl) (Za rfl rfl (Zgt rfl rfl) (Za rfl rfl (Zg rfl) ?_))))
 refine Yy (d := 10) rfl (fun c => ?_) (fun c => ?_)
 ·have e := c
  have c := Yt c
  refine Za rfl rfl (Zg rfl) (Za rfl rfl (Zg rfl) (Za rfl rfl (Zga rfl rfl) (Za rfl rfl (Ym rfl rfl) (Za rfl rfl (Zf rfl) (Ze (Zb (H2 _ _ ?_)))))))
  refine Zv ?_
  exact Zj [_] ⟨rfl, trivial⟩ ⟨congrArg Value.bool (by first | rfl | (rw [Bool.eq_iff_iff]; simp <;> omega) | (rw [Bool.eq_iff_iff]; simp_all; done) | simp_all), E⟩
 have e := c
 have c := Yu c
 refine Zo rfl rfl (Zo rfl rfl (Zo rfl rfl (Za rfl rfl (Yl rfl rfl) (Za rfl rfl (Zf rfl) (Ze (Zb (H2 _ _ ?_)))))))
 refine Zv ?_
 exact Zj [_] ⟨rfl, trivial⟩ ⟨congrArg Value.bool (by first | rfl | (rw [Bool.eq_iff_iff]; simp <;> omega) | (rw [Bool.eq_iff_iff]; simp_all; done) | simp_all), E⟩

/-- spec.l3Edge -/
theorem Zdp {w : World} {LL_gV r : Nat} {i : Value} {gV : List Int} (g : Ls ics 1 w LL_gV r i gV) {LL_gE s : Nat} {j : Value} {gE : List GEdge} (h : Ls GEdge.cs 4 w LL_gE s j gE) (e : GEdge) :
 Ctr Try.prog 122 #[(.agg #[i, j]), (.agg #[(.int .i64 e.id), (.int .i64 e.f), (.int .i64 e.t), (.int .i64 e.label)])] w (fun v w' => v = .bool (tt (Xq ((gV.length : Int) - 1) e)) ∧ Ch [] w w') := by
 obtain ⟨k, l, o⟩ := g.val
 subst o
 have H := g.len
 have g := g.here (by decide)
 obtain ⟨m, n, p⟩ := h.val
 subst p
 have I := h.len
 have h := h.here (by decide)
 have E := Ch.refl [] w
 refine Yj (N := 30) (vs0 := [(.agg #[(.slice k gV.length l), (.slice m gE.length n)]), (.agg #[(.int .i64 e.id), (.int .i64 e.f), (.int .i64 e.t), (.int .i64 e.label)])]) Try.func122 rfl rfl rfl ?_
 refine Zh fun K1 H1 => ?_
 refine Zc (Zl rfl rfl ?_)
 refine Xm rfl fun L W2 x C2 Y => ?_
 have Z := C2.size
 have E := E.trans C2
 have aa := x.lt
 replace x : Blk W2 L 36 [(.slice k gV.length l), (.slice m gE.length n)] := x
 refine Zl rfl rfl ?_
 refine Xm rfl fun M W3 u C3 ab => ?_
 have ac := C3.size
 have E := E.trans C3
 have ad := u.lt
 replace u : Blk W3 M 129 [(.int .i64 e.id), (.int .i64 e.f), (.int .i64 e.t), (.int .i64 e.label)] := u
 refine Za rfl rfl (Zf rfl) (Ze (Zb (H1 _ _ ?_)))
 refine Zh fun K4 H4 => ?_
 refine Zc (Za rfl rfl (Zd fa36_0 rfl) ?_)
 have F5 := x.ch0 C3
 refine Za rfl rfl (Zp F5.at_ agg22 rfl rfl) (Za rfl rfl (Yr (by rw [el22]; rfl) rfl) (Za rfl rfl (Xe om rfl rfl) (Za rfl rfl (Zf rfl) (Ze (Zb (H4 _ _ ?_))))))
 refine Zh fun K6 H6 => ?_
 refine Zc (Za rfl rfl (Zd fa129_0 rfl) (Za rfl rfl (Zp u.at_ agg3 rfl rfl) (Zl rfl rfl ?_)))
 refine Step.call (Zm (xs := [.tmp 11, .const (Go.Value.int Go.IntKind.i64 1), .const (Go.Value.int Go.IntKind.i64 99)]) fk90 rfl) (Qv _ _ _ ) fun O W7 y => ?_
 obtain ⟨rfl, C7⟩ := y
 have ae := C7.size
 have E := E.trans C7
 refine Za rfl rfl (Zg rfl) ?_
 refine Yy (d := 13) rfl (fun a => ?_) (fun a => ?_)
 ·have P := a
  have a := Yt a
  refine Za rfl rfl (Zd fa129_1 rfl) ?_
  have F9 := u.ch0 C7
  refine Za rfl rfl (Zp F9.at_ agg3 rfl rfl) (Za rfl rfl (Zg rfl) (Zl rfl rfl ?_))
  refine Step.call (Zm (xs := [.tmp 15, .const (Go.Value.int Go.IntKind.i64 0), .tmp 16]) fk90 rfl) (Qv _ _ _ ) fun Q af z => ?_
  obtain ⟨rfl, A⟩ := z
  have R := A.size
  have E := E.trans A
  refine Za rfl rfl (Ym rfl rfl) (Za rfl rfl (Zg rfl) ?_)
  refine Yy (d := 19) rfl (fun b => ?_) (fun b => ?_)
  ·have B := b
   have b := Yt b
   refine Za rfl rfl (Zd fa129_2 rfl) ?_
   have J := F9.ch0 A
   refine Za rfl rfl (Zp J.at_ agg3 rfl rfl) (Za rfl rfl (Zg rfl) (Zl rfl rfl ?_))
   refine Step.call (Zm (xs := [.tmp 21, .const (Go.Value.int Go.IntKind.i64 0), .tmp 22]) fk90 rfl) (Qv _ _ _ ) fun S ag C => ?_
   obtain ⟨rfl, D⟩ := C
   have T := D.size
   have E := E.trans D
   refine Za rfl rfl (Ym rfl rfl) (Za rfl rfl (Zg rfl) ?_)
   refine Yy (d := 25) rfl (fun c => ?_) (fun c => ?_)
   ·have F := c
    have c := Yt c
    refine Za rfl rfl (Zd fa129_3 rfl) ?_
    have U := J.ch0 D
    refine Za rfl rfl (Zp U.at_ agg3 rfl rfl) (Zl rfl rfl ?_)
    refine Step.call (Zm (xs := [.tmp 27, .const (Go.Value.int Go.IntKind.i64 0), .const (Go.Value.int Go.IntKind.i64 2)]) fk90 rfl) (Qv _ _ _ ) fun V ah G => ?_
    obtain ⟨rfl, K⟩ := G
    have X := K.size
    have E := E.trans K
    refine Za rfl rfl (Ym rfl rfl) (Za rfl rfl (Zf rfl) (Ze (Zb (H6 _ _ ?_))))
    refine Zv ?_
    exact Zj [_] ⟨rfl, trivial⟩ ⟨congrArg Value.bool (by first | exact Zu (fun q => by unfold Xq at q; omega) | (rw [Zdc]; exact Zeo ⟨fun q => by unfold Xq; omega, fun q => by unfold Xq at q; omega⟩)), E⟩
   have F := c
   have c := Yu c
   refine Zo rfl rfl (Zo rfl rfl (Zo rfl rfl (Za rfl rfl (Yl rfl rfl) (Za rfl rfl (Zf rfl) (Ze (Zb (H6 _ _ ?_)))))))
   refine Zv ?_
   exact Zj [_] ⟨rfl, trivial⟩ ⟨congrArg Value.bool (by first | exact Zu (fun q => by unfold Xq at q; omega) | (rw [Zdc]; exact Zeo ⟨fun q => by unfold Xq; omega, fun q => by unfold Xq at q; omega⟩)), E⟩
  have B := b
  have b := Yu b
  refine Zo rfl rfl (Zo rfl rfl (Zo rfl rfl (Zo rfl rfl (Za rfl rfl (Yl rfl rfl) (Za rfl rfl (Zg rfl) (Zo rfl rfl (Zo rfl rfl ?_)))))))
  refine Zo rfl rfl (Za rfl rfl (Yl rfl rfl) (Za rfl rfl (Zf rfl) (Ze (Zb (H6 _ _ ?_)))))
  refine Zv ?_
  exact Zj [_] ⟨rfl, trivial⟩ ⟨congrArg Value.bool (by first | exact Zu (fun q => by unfold Xq at q; omega) | (rw [Zdc]; exact Zeo ⟨fun q => by unfold Xq; omega, fun q => by unfold Xq at q; omega⟩)), E⟩
 have P := a
 have a := Yu a
 refine Zo rfl rfl (Zo rfl rfl (Zo rfl rfl (Zo rfl rfl (Za rfl rfl (Yl rfl rfl) (Za rfl rfl (Zg rfl) (Zo rfl rfl (Zo rfl rfl ?_)))))))
 refine Zo rfl rfl (Zo rfl rfl (Za rfl rfl (Yl rfl rfl) (Za rfl rfl (Zg rfl) (Zo rfl rfl (Zo rfl rfl (Zo rfl rfl (Za rfl rfl (Yl rfl rfl) ?_)))))))
 refine Za rfl rfl (Zf rfl) (Ze (Zb (H6 _ _ ?_)))
 refine Zv ?_
 exact Zj [_] ⟨rfl, trivial⟩ ⟨congrArg Value.bool (by first | exact Zu (fun q => by unfold Xq at q; omega) | (rw [Zdc]; exact Zeo ⟨fun q => by unfold Xq; omega, fun q => by unfold Xq at q; omega⟩)), E⟩

/-- spec.IsValidGraph -/
theorem Zad {w : World} {LL_gV I : Nat} {A : Value} {gV : List Int} (g : Ls ics 1 w LL_gV I A gV) {LL_gE J : Nat} {B : Value} {gE : List GEdge} (l : Ls GEdge.cs 4 w LL_gE J B gE) :
 Ctr Try.prog 88 #[(.agg #[A, B])] w (fun v w' => v = .bool (tt (Xn gV gE)) ∧ Ch [] w w') := by
 obtain ⟨t, u, C⟩ := g.val
 subst C
 have aq := g.len
 have g := g.here (by decide)
 obtain ⟨x, y, D⟩ := l.val
 subst D
 have au := l.len
 have l := l.here (by decide)
 have E := Ch.refl [] w
 refine Yj (N := 64) (vs0 := [(.agg #[(.slice t gV.length u), (.slice x gE.length y)])]) Try.func88 rfl rfl rfl ?_
 refine Zh fun K1 H1 => ?_
 refine Zc (Zl rfl rfl ?_)
 refine Xm rfl fun K W2 Q C2 a3 => ?_
 have a4 := C2.size
 have E := E.trans C2
 have a5 := Q.lt
 replace Q : Blk W2 K 36 [(.slice t gV.length u), (.slice x gE.length y)] := Q
 refine Za rfl rfl (Zf rfl) (Ze (Zb (H1 _ _ ?_)))
 refine Zh fun K3 H3 => ?_
 refine Zh fun K4 H4 => ?_
 refine Zc (Za rfl rfl (Zf rfl) (Ze (Zb (H4 _ _ ?_))))
 refine Yn ?_
 refine Ql (σ := Nat) (fun (k : Nat) => [(1, (.pointer (some ⟨K, 0, none⟩))), (3, (.int .i64 ((k : Nat) : Int)))]) (fun (k : Nat) wx => Ch [] w wx ∧ W2.heap.size ≤ wx.heap.size ∧ (k ≤ gV.length) ∧ (Zgs gV k) ∧ Blk wx K 36 [(.slice t gV.length u), (.slice x gE.length y)]) (fun (k : Nat) => gV.length - k) 0 (sC2 rfl rfl (Sub.nil _)) ⟨E, (Nat.le_refl _), om, (Zgn _), Q⟩ ?_
 rintro k R5 ⟨E, ay, a6, hv, m⟩
 have L := E
 have av := L.size
 have T := m.lt
 refine Zh fun K6 H6 => ?_
 refine Zh fun K7 H7 => ?_
 refine Zc (Za rfl rfl (Zg rfl) (Za rfl rfl (Zd fa36_0 rfl) (Za rfl rfl (Zp m.at_ agg22 rfl rfl) (Za rfl rfl (Yr (by rw [el22]; rfl) rfl) (Za rfl rfl (Qw rfl rfl) (Ze (Zb (H7 _ _ ?_))))))))
 refine Zz rfl (fun F => ?_) (fun F => ?_)
 ·have az := F
  have F := Yt F
  refine Yf ?_
  refine Zb (H6 _ _ ?_)
  refine Zh fun K9 H9 => ?_
  refine Yn ?_
  refine Zh fun a7 aA => ?_
  refine Zc (Za rfl rfl (Zd fa36_0 rfl) (Za rfl rfl (Zp m.at_ agg22 rfl rfl) (Za rfl rfl (Zg rfl) (Zl rfl rfl ?_))))
  have aB := g.ch0 L
  refine (Qm aB Yx el22 sz3 rfl rfl rfl om fun aC aD h U => ?_)
  refine Za rfl rfl (Zce U agg3 rfl rfl) (Zl rfl rfl ?_)
  refine Step.call (Zm (xs := [.tmp 16, .const (Go.Value.int Go.IntKind.i64 0), .const (Go.Value.int Go.IntKind.i64 2)]) fk90 rfl) (Qv _ _ _ ) fun aE a8 V => ?_
  obtain ⟨rfl, X⟩ := V
  have aF := X.size
  have E := E.trans X
  refine Za rfl rfl (Xp rfl) (Ze (Zb (aA _ _ ?_)))
  refine Zz rfl (fun c => ?_) (fun c => ?_)
  ·have Y := c
   have c := Yu (Qj c)
   refine Zh fun a9 aG => ?_
   refine Zc (Za rfl rfl (Zf rfl) (Ze (Zb (aG _ _ ?_))))
   refine Zv (Yq (Zt (Zt (Yq (Zt ?_)))))
   clear H3 H9
   exact Zj [_] ⟨rfl, trivial⟩ ⟨congrArg Value.bool (by first | exact Zu (fun q => c (Zbg q h)) | exact Zu (fun q => b (Zbh q a)) | exact Zu (fun q => by have z := Zae q e f om; omega) | exact vg_y hv om hE om om | exact Zu (fun q => by have z := q.2.2.1; omega)), E⟩
  have Y := c
  have c := Yt (Qk c)
  refine Yf ?_
  refine Yc (Zb (H9 _ _ (Zc (Za rfl rfl (Zg rfl) (Za rfl rfl (Xc om rfl rfl) (Za rfl rfl (Zf rfl) (Ze ?_)))))))
  have aH := m.ch0 X
  exact Zb (Exists.intro (k + 1) ⟨⟨E, om, om, (Zgg hv h c), aH⟩, sC2 rfl rfl (Sub.nil _), (by first | omega | (dsimp only; omega))⟩)
 have az := F
 have F := Yu F
 refine Xx (Yh (Yh (Xg ?_)))
 refine Zb (H3 _ _ ?_)
 refine Zh fun ba Z => ?_
 refine Zh fun bb aI => ?_
 refine Zc (Za rfl rfl (Zf rfl) (Ze (Zb (aI _ _ ?_))))
 refine Yn ?_
 refine Ql (σ := Nat) (fun (q : Nat) => [(1, (.pointer (some ⟨K, 0, none⟩))), (4, (.int .i64 ((q : Nat) : Int)))]) (fun (q : Nat) wx => Ch [] w wx ∧ R5.heap.size ≤ wx.heap.size ∧ (q ≤ gE.length) ∧ (Zco ((gV.length : Int) - 1) gE q) ∧ Blk wx K 36 [(.slice t gV.length u), (.slice x gE.length y)]) (fun (q : Nat) => gE.length - q) 0 (sC2 rfl rfl (Sub.nil _)) ⟨E, (Nat.le_refl _), om, (Zfk _ _), m⟩ ?_
 rintro q bc ⟨E, aJ, hq, hE, n⟩
 have G := E
 have aw := G.size
 have aa := n.lt
 refine Zh fun be ab => ?_
 refine Zh fun bf aK => ?_
 refine Zc (Za rfl rfl (Zg rfl) (Za rfl rfl (Zd fa36_1 rfl) (Za rfl rfl (Zp n.at_ agg34 rfl rfl) (Za rfl rfl (Yr (by rw [el34]; rfl) rfl) (Za rfl rfl (Qw rfl rfl) (Ze (Zb (aK _ _ ?_))))))))
 refine Zz rfl (fun o => ?_) (fun o => ?_)
 ·have ac := o
  have o := Yt o
  refine Yf ?_
  refine Zb (ab _ _ ?_)
  refine Zh fun bg R => ?_
  refine Yn ?_
  refine Zh fun bh ad => ?_
  refine Yv [] 28 mixed rfl fun aL M => ?_
  have aM := M.size
  have E := E.trans M
  have H := n.ch0 M
  refine dT 0 rfl rfl rfl (Ye H.at_ (fun i hi => absurd hi List.not_mem_nil) agg36 sz36 rfl ?_)
  refine dV 1 rfl rfl rfl (fun _ => Zd fa36_1 rfl) ?_
  refine dT 2 rfl rfl rfl (Yi H.at_ (fun i hi => absurd hi List.not_mem_nil) agg34 rfl rfl ?_)
  refine dV 3 rfl rfl rfl (fun _ => Zg rfl) ?_
  have S := (l.ch0 G).ch0 M
  refine dT 4 rfl rfl rfl (Xh S GEdge.len el34 sz129 rfl rfl rfl om fun aN ae a af => ?_)
  refine dT 5 rfl rfl rfl (Ye af (fun i hi => absurd hi List.not_mem_nil) agg129 sz129 rfl ?_)
  refine dO 6 (Zr rfl rfl rfl ?_)
  have aO := (g.ch0 G).ch0 M
  refine Step.call (Zm (xs := [.tmp 26, .tmp 31]) fk122 rfl) (Zdp aO S ae ) fun aP aQ ag => ?_
  obtain ⟨rfl, O⟩ := ag
  have aR := O.size
  have E := E.trans O
  have P : Ch [] aL aQ := ((Ch.refl _ _).trans O)
  refine ⟨P, ?_⟩
  refine dV 7 rfl rfl rfl (fun _ => Xp rfl) (dV 8 rfl rfl rfl (fun _ => Zg rfl) ?_)
  refine Qq (d := 34) rfl (fun b => ?_) (fun b => ?_)
  ·have ah := b
   have b := bf_t (Qj b)
   refine dK 9 rfl rfl rfl (dK 10 rfl rfl rfl (dK 11 rfl rfl rfl (dK 12 rfl rfl rfl (dK 13 rfl rfl rfl (dK 14 rfl rfl rfl (dK 15 rfl rfl rfl (dK 16 rfl rfl rfl ?_)))))))
   refine dK 17 rfl rfl rfl (dK 18 rfl rfl rfl (dK 19 rfl rfl rfl (dK 20 rfl rfl rfl (dK 21 rfl rfl rfl (dK 22 rfl rfl rfl (dK 23 rfl rfl rfl (dK 24 rfl rfl rfl ?_)))))))
   refine dK 25 rfl rfl rfl (dK 26 rfl rfl rfl (dV 27 rfl rfl rfl (fun _ => Ym rfl rfl) ?_))
   refine Zw (by kernel_rfl) ?_
   refine Zb (ad _ _ ?_)
   refine Xr rfl ?_
   refine Zh fun bi aS => ?_
   refine Zc (Za rfl rfl (Zf rfl) (Ze (Zb (aS _ _ ?_))))
   refine Zv (Yq (Zt (Zt (Yq (Zt ?_)))))
   clear H6 Z R
   exact Zj [_] ⟨rfl, trivial⟩ ⟨congrArg Value.bool (by first | exact Zu (fun q => c (Zbg q h)) | exact Zu (fun q => b (Zbh q a)) | exact Zu (fun q => by have z := Zae q e f om; omega) | exact vg_y hv om hE om om | exact Zu (fun q => by have z := q.2.2.1; omega)), E⟩
  have ah := b
  have b := bt_t (Qk b)
  refine dV 9 rfl rfl rfl (fun _ => Zg rfl) (dV 10 rfl rfl rfl (fun _ => Zcj rfl rfl) (dV 11 rfl rfl rfl (fun _ => Zg rfl) ?_))
  refine Qq (d := 37) rfl (fun p => ?_) (fun p => ?_)
  ·have ai := p
   have p := Yt p
   refine dV 12 rfl rfl rfl (fun _ => Zd fa36_1 rfl) ?_
   refine dT 13 rfl rfl rfl (Yi H.at_ (fun i hi => absurd hi List.not_mem_nil) agg34 rfl rfl ?_)
   refine dV 14 rfl rfl rfl (fun _ => Zg rfl) (dV 15 rfl rfl rfl (fun _ => Xe om rfl rfl) ?_)
   refine dT 16 rfl rfl rfl (Xh (j := (((q : Nat) : Int) - 1).toNat) S GEdge.len el34 sz129 rfl rfl om om fun aT aU f aj => ?_)
   refine dV 17 rfl rfl rfl (fun _ => Zd fa129_0 rfl) ?_
   refine dT 18 rfl rfl rfl (Yi aj (fun i hi => absurd hi List.not_mem_nil) agg3 rfl rfl ?_)
   refine dV 19 rfl rfl rfl (fun _ => Zd fa36_1 rfl) ?_
   refine dT 20 rfl rfl rfl (Yi H.at_ (fun i hi => absurd hi List.not_mem_nil) agg34 rfl rfl ?_)
   refine dV 21 rfl rfl rfl (fun _ => Zg rfl) ?_
   refine dT 22 rfl rfl rfl (Xh S GEdge.len el34 sz129 rfl rfl rfl om fun aV aW e ak => ?_)
   refine dV 23 rfl rfl rfl (fun _ => Zd fa129_0 rfl) ?_
   refine dT 24 rfl rfl rfl (Yi ak (fun i hi => absurd hi List.not_mem_nil) agg3 rfl rfl ?_)
   refine dV 25 rfl rfl rfl (fun _ => Zgt rfl rfl) (dV 26 rfl rfl rfl (fun _ => Ym rfl rfl) (dV 27 rfl rfl rfl (fun _ => Yl rfl rfl) ?_))
   refine Zw (by kernel_rfl) ?_
   refine Zb (ad _ _ ?_)
   refine Zz rfl (fun r => ?_) (fun r => ?_)
   ·have al := r
    have r := Yt r
    refine Zh fun bj aX => ?_
    refine Zc (Za rfl rfl (Zf rfl) (Ze (Zb (aX _ _ ?_))))
    refine Zv (Yq (Zt (Zt (Yq (Zt ?_)))))
    clear H6 Z R
    exact Zj [_] ⟨rfl, trivial⟩ ⟨congrArg Value.bool (by first | exact Zu (fun q => c (Zbg q h)) | exact Zu (fun q => b (Zbh q a)) | exact Zu (fun q => by have z := Zae q e f om; omega) | exact vg_y hv om hE om om | exact Zu (fun q => by have z := q.2.2.1; omega)), E⟩
   have al := r
   have r := Yu r
   refine Yf ?_
   refine Yc (Zb (R _ _ (Zc (Za rfl rfl (Zg rfl) (Za rfl rfl (Xc om rfl rfl) (Za rfl rfl (Zf rfl) (Ze ?_)))))))
   have aY := H.ch0 O
   exact Zb (Exists.intro (q + 1) ⟨⟨E, om, om, (by first | exact Zcm hE a b om | (have am := Zdb a e; exact Zcl hE a b f om (by first | omega | (rw [am]; omega)))), aY⟩, sC2 rfl rfl (Sub.nil _), (by first | omega | (dsimp only; omega))⟩)
  have ai := p
  have p := Yu p
  refine dK 12 rfl rfl rfl (dK 13 rfl rfl rfl (dK 14 rfl rfl rfl (dK 15 rfl rfl rfl (dK 16 rfl rfl rfl (dK 17 rfl rfl rfl (dK 18 rfl rfl rfl (dK 19 rfl rfl rfl ?_)))))))
  refine dK 20 rfl rfl rfl (dK 21 rfl rfl rfl (dK 22 rfl rfl rfl (dK 23 rfl rfl rfl (dK 24 rfl rfl rfl (dK 25 rfl rfl rfl (dV 26 rfl rfl rfl (fun _ => Yl rfl rfl) (dV 27 rfl rfl rfl (fun _ => Yl rfl rfl) ?_)))))))
  refine Zw (by kernel_rfl) ?_
  refine Zb (ad _ _ ?_)
  refine Zck rfl ?_
  refine Yf ?_
  refine Yc (Zb (R _ _ (Zc (Za rfl rfl (Zg rfl) (Za rfl rfl (Xc om rfl rfl) (Za rfl rfl (Zf rfl) (Ze ?_)))))))
  have aZ := H.ch0 O
  exact Zb (Exists.intro (q + 1) ⟨⟨E, om, om, (by first | exact Zcm hE a b om | (have am := Zdb a e; exact Zcl hE a b f om (by first | omega | (rw [am]; omega)))), aZ⟩, sC2 rfl rfl (Sub.nil _), (by first | omega | (dsimp only; omega))⟩)
 have ac := o
 have o := Yu o
 refine Xx (Yh (Yh (Xg ?_)))
 refine Zb (Z _ _ ?_)
 refine Zh fun bk ax => ?_
 refine Zc (Za rfl rfl (Zd fa36_0 rfl) (Za rfl rfl (Zp n.at_ agg22 rfl rfl) (Za rfl rfl (Yr (by rw [el22]; rfl) rfl) (Zl rfl rfl ?_))))
 refine Step.call (Zm (xs := [.tmp 56, .const (Go.Value.int Go.IntKind.i64 1), .const (Go.Value.int Go.IntKind.i64 5)]) fk90 rfl) (Qv _ _ _ ) fun a0 bm an => ?_
 obtain ⟨rfl, ao⟩ := an
 have a1 := ao.size
 have E := E.trans ao
 refine Za rfl rfl (Zg rfl) ?_
 refine Yy (d := 58) rfl (fun s => ?_) (fun s => ?_)
 ·have ap := s
  have s := Yt s
  refine Za rfl rfl (Zd fa36_1 rfl) ?_
  have a2 := n.ch0 ao
  refine Za rfl rfl (Zp a2.at_ agg34 rfl rfl) (Za rfl rfl (Yr (by rw [el34]; rfl) rfl) (Za rfl rfl (Zga rfl rfl) (Za rfl rfl (Ym rfl rfl) (Za rfl rfl (Zf rfl) (Ze (Zb (ax _ _ ?_)))))))
  refine Zv ?_
  clear H6 ab
  exact Zj [_] ⟨rfl, trivial⟩ ⟨congrArg Value.bool (by first | exact Zu (fun q => c (Zbg q h)) | exact Zu (fun q => b (Zbh q a)) | exact Zu (fun q => by have z := Zae q e f om; omega) | exact vg_y hv om hE om om | exact Zu (fun q => by have z := q.2.2.1; omega)), E⟩
 have ap := s
 have s := Yu s
 refine Zo rfl rfl (Zo rfl rfl (Zo rfl rfl (Zo rfl rfl (Za rfl rfl (Yl rfl rfl) (Za rfl rfl (Zf rfl) (Ze (Zb (ax _ _ ?_))))))))
 refine Zv ?_
 clear H6 ab
 exact Zj [_] ⟨rfl, trivial⟩ ⟨congrArg Value.bool (by first | exact Zu (fun q => c (Zbg q h)) | exact Zu (fun q => b (Zbh q a)) | exact Zu (fun q => by have z := Zae q e f om; omega) | exact vg_y hv om hE om om | exact Zu (fun q => by have z := q.2.2.1; omega)), E⟩

/-- spec.l3Copy -/
theorem Yz {w : World} {LL_gV au : Nat} {M : Value} {gV : List Int} (s : Ls ics 1 w LL_gV au M gV) {LL_gE av : Nat} {O : Value} {gE : List GEdge} (t : Ls GEdge.cs 4 w LL_gE av O gE) (hb : gV.length ≤ 4194304 ∧ gE.length ≤ 4194304) :
 Ctr Try.prog 92 #[(.agg #[M, O])] w (fun v w' => ∃ (K : Value) (L : Value), v = .agg #[K, L] ∧ Ol ics 3 1 w' K (gV) ∧ Lo w.heap.size K ∧ Ol GEdge.cs 129 4 w' L (gE) ∧ Lo w.heap.size L ∧ (∀ g ∈ bl K, g ∉ bl L) ∧ Ch [] w w') := by
 obtain ⟨P, Q, ag⟩ := s.val
 subst ag
 have aY := s.len
 have s := s.here (by decide)
 obtain ⟨R, S, ah⟩ := t.val
 subst ah
 have aZ := t.len
 have t := t.here (by decide)
 have E := Ch.refl [] w
 refine Yj (N := 12) (vs0 := [(.agg #[(.slice P gV.length Q), (.slice R gE.length S)])]) Try.func92 rfl rfl rfl ?_
 refine Zh fun K1 H1 => ?_
 refine Zc (Zl rfl rfl ?_)
 refine Xm rfl fun a6 W2 aR C2 bN => ?_
 have bO := C2.size
 have E := E.trans C2
 have y := aR.lt
 replace aR : Blk W2 a6 36 [(.slice P gV.length Q), (.slice R gE.length S)] := aR
 refine Zl rfl rfl ?_
 refine Yd zr36 fun x W3 al C3 bP => ?_
 have bQ := C3.size
 have E := E.trans C3
 have bR := al.lt
 replace al : Blk W3 x 36 [(.slice none 0 0), (.slice none 0 0)] := al
 refine Ze (Zb (H1 _ _ ?_))
 refine Zh fun K4 H4 => ?_
 refine Yv [x] 10 mixed rfl fun W5 C5 => ?_
 have bS := C5.size
 have E := E.trans C5
 refine dV 1 rfl rfl rfl (fun _ => Zd fa36_0 rfl) ?_
 have F6 := (aR.ch0 C3).ch0 C5
 refine dT 2 rfl rfl rfl (Yi F6.at_ (oS om) agg22 rfl rfl ?_)
 refine dV 5 rfl rfl rfl (fun _ => Zd fa36_1 rfl) ?_
 refine dT 6 rfl rfl rfl (Yi F6.at_ (oS om) agg34 rfl rfl ?_)
 refine Xd 0 4 (by kernel_rfl) ?_ ?_
 ·refine Zr rfl rfl rfl ?_
  refine Xb (k := 1) ics el22 sz3 fun a7 W7 am d C7 => ?_
  have bT := C7.size
  have E := E.trans C7
  obtain ⟨aV, aW, rfl, aX, b⟩ := am.opn
  have ai : Ch [x] W5 W7 := ((Ch.refl _ _).trans C7.of_nil)
  refine ⟨ai, ?_⟩
  refine Xd 3 4 (by kernel_rfl) ?_ ?_
  ·refine Zr rfl rfl rfl ?_
   have a8 := (((s.ch0 C2).ch0 C3).ch0 C5).ch0 C7
   refine Yg (cs := ics) el22 sz3 by3 zr3 rfl (by decide) Zca am a8 rfl rfl bd bd d om fun aw W9 B C u C9 => ?_
   have bU := C9.size
   have E := E.step C9 (fun i hi => .inl (by have o := d _ hi; omega))
   replace B : Ol ics 3 1 W9 aw gV := B
   obtain ⟨j, l, rfl, ax, m⟩ := B.opn
   have T : Ch [x] W5 W9 := (ai.step C9 (fun i hm => by left; have o := d _ hm; have p := b _ hm; omega))
   refine ⟨T, ?_⟩
   refine dO 4 (Zr rfl rfl rfl ?_)
   refine Xb (k := 4) GEdge.cs el34 sz129 fun a0 a9 U c an => ?_
   have ba := an.size
   have E := E.trans an
   obtain ⟨ay, az, rfl, aA, a⟩ := U.opn
   have V : Ch [x] W5 a9 := (T.trans an.of_nil)
   refine ⟨V, ?_⟩
   refine dO 7 (Zr rfl rfl rfl ?_)
   have bb := (((((t.ch0 C2).ch0 C3).ch0 C5).ch0 C7).ch C9 (fun i hi => by have o := d _ hi; omega)).ch0 an
   refine Yg (cs := GEdge.cs) el34 sz129 by129 zr129 rfl (by decide) GEdge.one U bb rfl rfl bd bd c om fun D a1 q z n aB => ?_
   have bc := aB.size
   have E := E.step aB (fun i hi => .inl (by have o := c _ hi; omega))
   replace q : Ol GEdge.cs 129 4 a1 D gE := q
   obtain ⟨e, f, rfl, X, h⟩ := q.opn
   have Y : Ch [x] W5 a1 := (V.step aB (fun i hm => by left; have o := c _ hm; have p := a _ hm; omega))
   refine ⟨Y, ?_⟩
   refine dV 8 rfl rfl rfl (fun _ => Ys (parts := [(0, .tmp 6), (1, .tmp 10)]) (cells := [(.slice j (gV).length l), (.slice e (gE).length f)]) zr36 pl36 rfl rfl) (dO 9 (Zr rfl rfl rfl ?_))
   have be := ((((al.ch0 C5).ch0 C7).ch C9 (fun hm => by have o := d _ hm; have p := b _ hm; omega)).ch0 an).ch aB (fun hm => by have o := c _ hm; have p := a _ hm; omega)
   refine Zk (off := 0) 2 be sz36 rfl (us := [(.slice j (gV).length l), (.slice e (gE).length f)]) rfl rfl rfl rfl fun aS F aC => ?_
   have bf := aC.size
   have E := E.step aC (lS om)
   replace F : Blk aS x 36 [(.slice j (gV).length l), (.slice e (gE).length f)] := F
   have aD : Ch [x] W5 aS := (Y.step aC (fun i hm => by have G := List.mem_singleton.1 hm; exact .inr (by rw [G]; exact (List.mem_singleton.2 rfl))))
   refine ⟨aD, ?_⟩
   refine Zw (by kernel_rfl) ?_
   refine Zb (H4 _ _ ?_)
   refine Zv ?_
   have bg := ((B.ch0 an).ch aB (fun g hg hm => by rcases u with ea | ea; (rw [ea] at hg; have o := c _ hm; have p := a _ hm; have A := d _ hg; have J := b _ hg; omega); (have r := m _ hg; rw [ea] at hg; have y := List.mem_singleton.1 hg; have o := c _ hm; have p := a _ hm; omega))).ch aC (fun g hg hm => by have G := List.mem_singleton.1 hm; rcases u with ea | ea; (rw [ea] at hg; have p := d _ hg; have A := b _ hg; omega); (have r := m _ hg; rw [ea] at hg; have y := List.mem_singleton.1 hg; omega))
   have aE : Ol ics 3 1 aS (.slice j (gV).length l) (gV) := by
    have hx := bg
    first | exact hx | simpa using hx
   have bh := q.ch aC (fun g hg hm => by have G := List.mem_singleton.1 hm; rcases n with ea | ea; (rw [ea] at hg; have p := c _ hg; have A := a _ hg; omega); (have r := h _ hg; rw [ea] at hg; have y := List.mem_singleton.1 hg; omega))
   have aF : Ol GEdge.cs 129 4 aS (.slice e (gE).length f) (gE) := by
    have hx := bh
    first | exact hx | simpa using hx
   exact Zj [_] (Zn F rfl agg36 sz36 trivial) ⟨(.slice j (gV).length l), (.slice e (gE).length f), rfl, aE, (Lo.down C om), aF, (Lo.down z om), (fun g hm hg => by rcases u with ea | ea; (rw [ea] at hm; rcases n with ea | ea; (rw [ea] at hg; have o := d _ hm; have p := b _ hm; have A := c _ hg; have J := a _ hg; omega); (have r := h _ hg; rw [ea] at hg; have y := List.mem_singleton.1 hg; have o := d _ hm; have p := b _ hm; omega)); (have aG := m _ hm; rw [ea] at hm; have y := List.mem_singleton.1 hm; rcases n with ea | ea; (rw [ea] at hg; have A := c _ hg; have J := a _ hg; omega); (have r := h _ hg; rw [ea] at hg; have y := List.mem_singleton.1 hg; omega))), E⟩
  refine Zr rfl rfl rfl ?_
  refine Xb (k := 4) GEdge.cs el34 sz129 fun a0 bi U c aj => ?_
  have bj := aj.size
  have E := E.trans aj
  obtain ⟨ay, az, rfl, aA, a⟩ := U.opn
  have Z : Ch [x] W5 bi := (ai.trans aj.of_nil)
  refine ⟨Z, ?_⟩
  refine dO 3 (Zr rfl rfl rfl ?_)
  have bk := am.ch0 aj
  have bm := ((((s.ch0 C2).ch0 C3).ch0 C5).ch0 C7).ch0 aj
  refine Yg (cs := ics) el22 sz3 by3 zr3 rfl (by decide) Zca bk bm rfl rfl bd bd d om fun aw a2 B C u ao => ?_
  have bn := ao.size
  have E := E.step ao (fun i hi => .inl (by have o := d _ hi; omega))
  replace B : Ol ics 3 1 a2 aw gV := B
  obtain ⟨j, l, rfl, ax, m⟩ := B.opn
  have aa : Ch [x] W5 a2 := (Z.step ao (fun i hm => by left; have o := d _ hm; have p := b _ hm; omega))
  refine ⟨aa, ?_⟩
  refine dO 7 (Zr rfl rfl rfl ?_)
  have bp := U.ch ao (fun g hg hm => by have o := d _ hm; have p := b _ hm; have A := c _ hg; have J := a _ hg; omega)
  have bq := (((((t.ch0 C2).ch0 C3).ch0 C5).ch0 C7).ch0 aj).ch ao (fun i hi => by have o := d _ hi; omega)
  refine Yg (cs := GEdge.cs) el34 sz129 by129 zr129 rfl (by decide) GEdge.one bp bq rfl rfl bd bd c om fun D a3 q z n aH => ?_
  have br := aH.size
  have E := E.step aH (fun i hi => .inl (by have o := c _ hi; omega))
  replace q : Ol GEdge.cs 129 4 a3 D gE := q
  obtain ⟨e, f, rfl, X, h⟩ := q.opn
  have ab : Ch [x] W5 a3 := (aa.step aH (fun i hm => by left; have o := c _ hm; have p := a _ hm; omega))
  refine ⟨ab, ?_⟩
  refine dV 8 rfl rfl rfl (fun _ => Ys (parts := [(0, .tmp 6), (1, .tmp 10)]) (cells := [(.slice j (gV).length l), (.slice e (gE).length f)]) zr36 pl36 rfl rfl) (dO 9 (Zr rfl rfl rfl ?_))
  have bs := ((((al.ch0 C5).ch0 C7).ch0 aj).ch ao (fun hm => by have o := d _ hm; have p := b _ hm; omega)).ch aH (fun hm => by have o := c _ hm; have p := a _ hm; omega)
  refine Zk (off := 0) 2 bs sz36 rfl (us := [(.slice j (gV).length l), (.slice e (gE).length f)]) rfl rfl rfl rfl fun aT H aI => ?_
  have bu := aI.size
  have E := E.step aI (lS om)
  replace H : Blk aT x 36 [(.slice j (gV).length l), (.slice e (gE).length f)] := H
  have aJ : Ch [x] W5 aT := (ab.step aI (fun i hm => by have G := List.mem_singleton.1 hm; exact .inr (by rw [G]; exact (List.mem_singleton.2 rfl))))
  refine ⟨aJ, ?_⟩
  refine Zw (by kernel_rfl) ?_
  refine Zb (H4 _ _ ?_)
  refine Zv ?_
  have bv := (B.ch aH (fun g hg hm => by rcases u with ea | ea; (rw [ea] at hg; have o := c _ hm; have p := a _ hm; have A := d _ hg; have J := b _ hg; omega); (have r := m _ hg; rw [ea] at hg; have y := List.mem_singleton.1 hg; have o := c _ hm; have p := a _ hm; omega))).ch aI (fun g hg hm => by have G := List.mem_singleton.1 hm; rcases u with ea | ea; (rw [ea] at hg; have p := d _ hg; have A := b _ hg; omega); (have r := m _ hg; rw [ea] at hg; have y := List.mem_singleton.1 hg; omega))
  have aK : Ol ics 3 1 aT (.slice j (gV).length l) (gV) := by
   have hx := bv
   first | exact hx | simpa using hx
  have bw := q.ch aI (fun g hg hm => by have G := List.mem_singleton.1 hm; rcases n with ea | ea; (rw [ea] at hg; have p := c _ hg; have A := a _ hg; omega); (have r := h _ hg; rw [ea] at hg; have y := List.mem_singleton.1 hg; omega))
  have aL : Ol GEdge.cs 129 4 aT (.slice e (gE).length f) (gE) := by
   have hx := bw
   first | exact hx | simpa using hx
  exact Zj [_] (Zn H rfl agg36 sz36 trivial) ⟨(.slice j (gV).length l), (.slice e (gE).length f), rfl, aK, (Lo.down C om), aL, (Lo.down z om), (fun g hm hg => by rcases u with ea | ea; (rw [ea] at hm; rcases n with ea | ea; (rw [ea] at hg; have o := d _ hm; have p := b _ hm; have A := c _ hg; have J := a _ hg; omega); (have r := h _ hg; rw [ea] at hg; have y := List.mem_singleton.1 hg; have o := d _ hm; have p := b _ hm; omega)); (have aG := m _ hm; rw [ea] at hm; have y := List.mem_singleton.1 hm; rcases n with ea | ea; (rw [ea] at hg; have A := c _ hg; have J := a _ hg; omega); (have r := h _ hg; rw [ea] at hg; have y := List.mem_singleton.1 hg; omega))), E⟩
 refine Zr rfl rfl rfl ?_
 refine Xb (k := 4) GEdge.cs el34 sz129 fun a0 bz U c ap => ?_
 have bA := ap.size
 have E := E.trans ap
 obtain ⟨ay, az, rfl, aA, a⟩ := U.opn
 have ac : Ch [x] W5 bz := ((Ch.refl _ _).trans ap.of_nil)
 refine ⟨ac, ?_⟩
 refine dO 0 (Zr rfl rfl rfl ?_)
 refine Xb (k := 1) ics el22 sz3 fun a7 bB am d ak => ?_
 have bC := ak.size
 have E := E.trans ak
 obtain ⟨aV, aW, rfl, aX, b⟩ := am.opn
 have ad : Ch [x] W5 bB := (ac.trans ak.of_nil)
 refine ⟨ad, ?_⟩
 refine dO 3 (Zr rfl rfl rfl ?_)
 have bD := ((((s.ch0 C2).ch0 C3).ch0 C5).ch0 ap).ch0 ak
 refine Yg (cs := ics) el22 sz3 by3 zr3 rfl (by decide) Zca am bD rfl rfl bd bd d om fun aw a4 B C u aq => ?_
 have bF := aq.size
 have E := E.step aq (fun i hi => .inl (by have o := d _ hi; omega))
 replace B : Ol ics 3 1 a4 aw gV := B
 obtain ⟨j, l, rfl, ax, m⟩ := B.opn
 have ae : Ch [x] W5 a4 := (ad.step aq (fun i hm => by left; have o := d _ hm; have p := b _ hm; omega))
 refine ⟨ae, ?_⟩
 refine dO 7 (Zr rfl rfl rfl ?_)
 have bG := (U.ch0 ak).ch aq (fun g hg hm => by have o := d _ hm; have p := b _ hm; have A := c _ hg; have J := a _ hg; omega)
 have bH := (((((t.ch0 C2).ch0 C3).ch0 C5).ch0 ap).ch0 ak).ch aq (fun i hi => by have o := d _ hi; omega)
 refine Yg (cs := GEdge.cs) el34 sz129 by129 zr129 rfl (by decide) GEdge.one bG bH rfl rfl bd bd c om fun D a5 q z n aM => ?_
 have bI := aM.size
 have E := E.step aM (fun i hi => .inl (by have o := c _ hi; omega))
 replace q : Ol GEdge.cs 129 4 a5 D gE := q
 obtain ⟨e, f, rfl, X, h⟩ := q.opn
 have af : Ch [x] W5 a5 := (ae.step aM (fun i hm => by left; have o := c _ hm; have p := a _ hm; omega))
 refine ⟨af, ?_⟩
 refine dV 8 rfl rfl rfl (fun _ => Ys (parts := [(0, .tmp 6), (1, .tmp 10)]) (cells := [(.slice j (gV).length l), (.slice e (gE).length f)]) zr36 pl36 rfl rfl) (dO 9 (Zr rfl rfl rfl ?_))
 have bJ := ((((al.ch0 C5).ch0 ap).ch0 ak).ch aq (fun hm => by have o := d _ hm; have p := b _ hm; omega)).ch aM (fun hm => by have o := c _ hm; have p := a _ hm; omega)
 refine Zk (off := 0) 2 bJ sz36 rfl (us := [(.slice j (gV).length l), (.slice e (gE).length f)]) rfl rfl rfl rfl fun aU I aN => ?_
 have bK := aN.size
 have E := E.step aN (lS om)
 replace I : Blk aU x 36 [(.slice j (gV).length l), (.slice e (gE).length f)] := I
 have aO : Ch [x] W5 aU := (af.step aN (fun i hm => by have G := List.mem_singleton.1 hm; exact .inr (by rw [G]; exact (List.mem_singleton.2 rfl))))
 refine ⟨aO, ?_⟩
 refine Zw (by kernel_rfl) ?_
 refine Zb (H4 _ _ ?_)
 refine Zv ?_
 have bL := (B.ch aM (fun g hg hm => by rcases u with ea | ea; (rw [ea] at hg; have o := c _ hm; have p := a _ hm; have A := d _ hg; have J := b _ hg; omega); (have r := m _ hg; rw [ea] at hg; have y := List.mem_singleton.1 hg; have o := c _ hm; have p := a _ hm; omega))).ch aN (fun g hg hm => by have G := List.mem_singleton.1 hm; rcases u with ea | ea; (rw [ea] at hg; have p := d _ hg; have A := b _ hg; omega); (have r := m _ hg; rw [ea] at hg; have y := List.mem_singleton.1 hg; omega))
 have aP : Ol ics 3 1 aU (.slice j (gV).length l) (gV) := by
  have hx := bL
  first | exact hx | simpa using hx
 have bM := q.ch aN (fun g hg hm => by have G := List.mem_singleton.1 hm; rcases n with ea | ea; (rw [ea] at hg; have p := c _ hg; have A := a _ hg; omega); (have r := h _ hg; rw [ea] at hg; have y := List.mem_singleton.1 hg; omega))
 have aQ : Ol GEdge.cs 129 4 aU (.slice e (gE).length f) (gE) := by
  have hx := bM
  first | exact hx | simpa using hx
 exact Zj [_] (Zn I rfl agg36 sz36 trivial) ⟨(.slice j (gV).length l), (.slice e (gE).length f), rfl, aP, (Lo.down C om), aQ, (Lo.down z om), (fun g hm hg => by rcases u with ea | ea; (rw [ea] at hm; rcases n with ea | ea; (rw [ea] at hg; have o := d _ hm; have p := b _ hm; have A := c _ hg; have J := a _ hg; omega); (have r := h _ hg; rw [ea] at hg; have y := List.mem_singleton.1 hg; have o := d _ hm; have p := b _ hm; omega)); (have aG := m _ hm; rw [ea] at hm; have y := List.mem_singleton.1 hm; rcases n with ea | ea; (rw [ea] at hg; have A := c _ hg; have J := a _ hg; omega); (have r := h _ hg; rw [ea] at hg; have y := List.mem_singleton.1 hg; omega))), E⟩

/-- spec.EdgeIndex -/
theorem Zbn {w : World} {LL_gV q : Nat} {m : Value} {gV : List Int} (d : Ls ics 1 w LL_gV q m gV) {LL_gE r : Nat} {n : Value} {gE : List GEdge} (b : Ls GEdge.cs 4 w LL_gE r n gE) (id : Int) :
 Ctr Try.prog 99 #[(.agg #[m, n]), (.int .i64 id)] w (fun v w' => v = .int .i64 (eiR gE id) ∧ Ch [] w w') := by
 obtain ⟨g, h, o⟩ := d.val
 subst o
 have B := d.len
 have d := d.here (by decide)
 obtain ⟨i, j, p⟩ := b.val
 subst p
 have C := b.len
 have b := b.here (by decide)
 have E := Ch.refl [] w
 refine Yj (N := 22) (vs0 := [(.agg #[(.slice g gV.length h), (.slice i gE.length j)]), (.int .i64 id)]) Try.func99 rfl rfl rfl ?_
 refine Zh fun K1 H1 => ?_
 refine Zc (Zl rfl rfl ?_)
 refine Xm rfl fun x W2 u C2 O => ?_
 have P := C2.size
 have E := E.trans C2
 have Q := u.lt
 replace u : Blk W2 x 36 [(.slice g gV.length h), (.slice i gE.length j)] := u
 refine Za rfl rfl (Zf rfl) (Ze (Zb (H1 _ _ ?_)))
 refine Zh fun K3 H3 => ?_
 refine Zh fun K4 H4 => ?_
 refine Zc (Za rfl rfl (Zf rfl) (Ze (Zb (H4 _ _ ?_))))
 refine Yn ?_
 refine Ql (σ := Nat) (fun (k : Nat) => [(1, (.int .i64 id)), (2, (.pointer (some ⟨x, 0, none⟩))), (5, (.int .i64 ((k : Nat) : Int)))]) (fun (k : Nat) wx => Ch [] w wx ∧ W2.heap.size ≤ wx.heap.size ∧ (k ≤ gE.length) ∧ ((gE.take k).any (fun e : GEdge => decide (e.id = id)) = false) ∧ Blk wx x 36 [(.slice g gV.length h), (.slice i gE.length j)]) (fun (k : Nat) => gE.length - k) 0 (sC2 rfl rfl (sC1 rfl (Sub.nil _))) ⟨E, (Nat.le_refl _), om, (by simp), u⟩ ?_
 rintro k R5 ⟨E, F, R, s, f⟩
 have t := E
 have D := t.size
 have y := f.lt
 refine Zh fun K6 H6 => ?_
 refine Zh fun K7 H7 => ?_
 refine Zc (Za rfl rfl (Zg rfl) (Za rfl rfl (Zd fa36_1 rfl) (Za rfl rfl (Zp f.at_ agg34 rfl rfl) (Za rfl rfl (Yr (by rw [el34]; rfl) rfl) (Za rfl rfl (Qw rfl rfl) (Ze (Zb (H7 _ _ ?_))))))))
 refine Zz rfl (fun c => ?_) (fun c => ?_)
 ·have G := c
  have c := Yt c
  refine Yf ?_
  refine Zb (H6 _ _ ?_)
  refine Zh fun K9 H9 => ?_
  refine Yn ?_
  refine Zh fun S H => ?_
  refine Zc (Za rfl rfl (Zd fa36_1 rfl) (Za rfl rfl (Zp f.at_ agg34 rfl rfl) (Za rfl rfl (Zg rfl) (Zl rfl rfl ?_))))
  have I := b.ch0 t
  refine (Qm I GEdge.len el34 sz129 rfl rfl rfl om fun J K l z => ?_)
  refine Za rfl rfl (Zd fa129_0 rfl) (Za rfl rfl (Zp z agg3 rfl rfl) (Za rfl rfl (Zg rfl) (Za rfl rfl (Qg rfl rfl) (Ze (Zb (H _ _ ?_))))))
  refine Zz rfl (fun a => ?_) (fun a => ?_)
  ·have A := a
   have a := Yt a
   refine Zh fun T L => ?_
   refine Zc (Za rfl rfl (Zg rfl) (Za rfl rfl (Zf rfl) (Ze (Zb (L _ _ ?_)))))
   refine Zv (Yq (Zt (Zt (Yq (Zt ?_)))))
   clear H3 H9
   exact Zj [_] ⟨rfl, trivial⟩ ⟨congrArg (Value.int .i64) (by unfold eiR; first | exact Zhw s l (decide_eq_true a) | exact Zhx s om), E⟩
  have A := a
  have a := Yu a
  refine Yf ?_
  refine Yc (Zb (H9 _ _ (Zc (Za rfl rfl (Zg rfl) (Za rfl rfl (Xc om rfl rfl) (Za rfl rfl (Zf rfl) (Ze ?_)))))))
  exact Zb (Exists.intro (k + 1) ⟨⟨E, om, om, (Zfu s l (decide_eq_false a)), f⟩, sC2 rfl rfl (sC1 rfl (Sub.nil _)), (by first | omega | (dsimp only; omega))⟩)
 have G := c
 have c := Yu c
 refine Xx (Yh (Yh (Xg ?_)))
 refine Zb (H3 _ _ ?_)
 refine Zh fun U M => ?_
 refine Zc (Za rfl rfl (Zf rfl) (Ze (Zb (M _ _ ?_))))
 refine Zv ?_
 exact Zj [_] ⟨rfl, trivial⟩ ⟨congrArg (Value.int .i64) (by unfold eiR; first | exact Zhw s l (decide_eq_true a) | exact Zhx s om), E⟩

/-- spec.DeleteEdge -/
theorem Zee {w : World} {LL_gV aL : Nat} {ai : Value} {gV : List Int} (M : Ls ics 1 w LL_gV aL ai gV) {LL_gE aM : Nat} {aj : Value} {gE : List GEdge} (O : Ls GEdge.cs 4 w LL_gE aM aj gE) (n : Int) (hb : gV.length ≤ 4194304 ∧ gE.length ≤ 4194304) :
 Ctr Try.prog 125 #[(.agg #[ai, aj]), (.int .i64 n)] w (fun v w' => ∃ (aa : Value) (ab : Value), v = .tuple #[.agg #[aa, ab], .bool ((delR gV gE n).2)] ∧ Ol ics 3 1 w' aa (gV) ∧ Lo w.heap.size aa ∧ Ol GEdge.cs 129 4 w' ab ((delR gV gE n).1) ∧ Lo w.heap.size ab ∧ (∀ g ∈ bl aa, g ∉ bl ab) ∧ Ch [] w w') := by
 obtain ⟨ak, al, ax⟩ := M.val
 subst ax
 have bs := M.len
 have M := M.here (by decide)
 obtain ⟨am, an, ay⟩ := O.val
 subst ay
 have bu := O.len
 have O := O.here (by decide)
 have E := Ch.refl [] w
 refine Yj (N := 39) (vs0 := [(.agg #[(.slice ak gV.length al), (.slice am gE.length an)]), (.int .i64 n)]) Try.func125 rfl rfl rfl ?_
 refine Zh fun K1 H1 => ?_
 refine Zc (Zl rfl rfl ?_)
 refine Xm rfl fun bT W2 a0 C2 cS => ?_
 have cT := C2.size
 have E := E.trans C2
 have cU := a0.lt
 replace a0 : Blk W2 bT 36 [(.slice ak gV.length al), (.slice am gE.length an)] := a0
 refine Zl rfl rfl ?_
 refine Yd zr36 fun a1 W3 aE C3 cV => ?_
 have cW := C3.size
 have E := E.trans C3
 have cX := aE.lt
 replace aE : Blk W3 a1 36 [(.slice none 0 0), (.slice none 0 0)] := aE
 refine Za rfl rfl (Zf rfl) (Ze (Zb (H1 _ _ ?_)))
 refine Zh fun K4 H4 => ?_
 refine Zc ?_
 have F5 := a0.ch0 C3
 refine Za rfl rfl (Zi F5.at_ agg36 sz36 rfl) (Za rfl rfl (Zg rfl) (Zl rfl rfl ?_))
 have F6 := (M.ch0 C2).ch0 C3
 have F7 := (O.ch0 C2).ch0 C3
 refine Step.call (Zm (xs := [.tmp 8, .tmp 9]) fk99 rfl) (Zbn F6 F7 _ ) fun bU W8 bb => ?_
 obtain ⟨rfl, C8⟩ := bb
 have cY := C8.size
 have E := E.trans C8
 have bV := Zip gE n
 refine Za rfl rfl (Zf rfl) (Ze (Zb (H4 _ _ ?_)))
 refine Zh fun K9 H9 => ?_
 refine Zh fun cZ bv => ?_
 refine Zc ?_
 have a2 := F5.ch0 C8
 refine Za rfl rfl (Zi a2.at_ agg36 sz36 rfl) (Zl rfl rfl ?_)
 have a3 := F6.ch0 C8
 have a4 := F7.ch0 C8
 refine Step.call (Zm (xs := [.tmp 11]) fk88 rfl) (Zad a3 a4 ) fun bW c0 bc => ?_
 obtain ⟨rfl, Q⟩ := bc
 have bX := Q.size
 have E := E.trans Q
 refine Za rfl rfl (Xp rfl) (Za rfl rfl (Zg rfl) ?_)
 refine Yy (d := 14) rfl (fun t => ?_) (fun t => ?_)
 ·have be := t
  have t := bf_t (Qj t)
  refine Zo rfl rfl (Zo rfl rfl (Za rfl rfl (Ym rfl rfl) (Ze (Zb (bv _ _ ?_)))))
  refine Xr rfl ?_
  refine Zh fun c1 bY => ?_
  refine Zc ?_
  have bZ := a2.ch0 Q
  refine Za rfl rfl (Zi bZ.at_ agg36 sz36 rfl) (Zl rfl rfl ?_)
  have b0 := a3.ch0 Q
  have b1 := a4.ch0 Q
  refine Step.call (Zm (xs := [.tmp 18]) fk92 rfl) (Yz b0 b1 om) fun bf c2 az => ?_
  obtain ⟨ac, ad, rfl, o, j, p, l, f, bg⟩ := az
  have b2 := bg.size
  have E := E.trans bg
  obtain ⟨a, b, rfl, S, x⟩ := o.opn
  obtain ⟨c, e, rfl, T, y⟩ := p.opn
  refine Zl rfl rfl ?_
  have b3 := ((aE.ch0 C8).ch0 Q).ch0 bg
  refine Zk (off := 0) 2 b3 sz36 rfl (us := [(.slice a (gV).length b), (.slice c (gE).length e)]) rfl rfl rfl rfl fun bh U a5 => ?_
  have b4 := a5.size
  have E := E.step a5 (lS om)
  replace U : Blk bh a1 36 [(.slice a (gV).length b), (.slice c (gE).length e)] := U
  refine Za rfl rfl (Zf rfl) (Ze (Zb (bY _ _ ?_)))
  refine Zv (Zt ?_)
  have b5 := o.ch a5 (dS j x om)
  have aN : Ol ics 3 1 bh (.slice a (gV).length b) (gV) := by
   have hx := b5
   first | exact hx | simpa using hx
  have b6 := p.ch a5 (dS l y om)
  have aO : Ol GEdge.cs 129 4 bh (.slice c (gE).length e) ((delR gV gE n).1) := by
   have hx := b6
   first | exact hx.eq (congrArg Prod.fst (Zbs (by first | exact fun q => t q.1 | exact fun q => absurd q.2 om))).symm | exact hx.eq (by rw [Zbw ⟨t, by omega⟩, show (eiR gE n + 1).toNat = (eiR gE n).toNat + 1 by omega])
  exact Zj [_, _] (Zn U rfl agg36 sz36 ⟨rfl, trivial⟩) ⟨(.slice a (gV).length b), (.slice c (gE).length e), (congrArg (fun zq => (Value.tuple #[.agg #[(.slice a (gV).length b), (.slice c (gE).length e)], .bool zq])) (by first | rw [Zbs (by first | exact fun q => t q.1 | exact fun q => absurd q.2 om)] | rw [Zbw ⟨t, by omega⟩])), aN, (Lo.down j om), aO, (Lo.down l om), (fun g hm hg => by exact f _ hm hg), E⟩
 have be := t
 have t := bt_t (Qk t)
 refine Za rfl rfl (Zg rfl) (Za rfl rfl (Qw rfl rfl) (Za rfl rfl (Yl rfl rfl) (Ze (Zb (bv _ _ ?_)))))
 refine Zz rfl (fun P => ?_) (fun P => ?_)
 ·have bi := P
  have P := Yt P
  refine Zh fun c3 b7 => ?_
  refine Zc ?_
  have b8 := a2.ch0 Q
  refine Za rfl rfl (Zi b8.at_ agg36 sz36 rfl) (Zl rfl rfl ?_)
  have b9 := a3.ch0 Q
  have ca := a4.ch0 Q
  refine Step.call (Zm (xs := [.tmp 18]) fk92 rfl) (Yz b9 ca om) fun bf c4 az => ?_
  obtain ⟨ac, ad, rfl, o, j, p, l, f, bj⟩ := az
  have cb := bj.size
  have E := E.trans bj
  obtain ⟨a, b, rfl, S, x⟩ := o.opn
  obtain ⟨c, e, rfl, T, y⟩ := p.opn
  refine Zl rfl rfl ?_
  have cc := ((aE.ch0 C8).ch0 Q).ch0 bj
  refine Zk (off := 0) 2 cc sz36 rfl (us := [(.slice a (gV).length b), (.slice c (gE).length e)]) rfl rfl rfl rfl fun bk V a6 => ?_
  have cd := a6.size
  have E := E.step a6 (lS om)
  replace V : Blk bk a1 36 [(.slice a (gV).length b), (.slice c (gE).length e)] := V
  refine Za rfl rfl (Zf rfl) (Ze (Zb (b7 _ _ ?_)))
  refine Zv (Zt ?_)
  have ce := o.ch a6 (dS j x om)
  have aP : Ol ics 3 1 bk (.slice a (gV).length b) (gV) := by
   have hx := ce
   first | exact hx | simpa using hx
  have cf := p.ch a6 (dS l y om)
  have aQ : Ol GEdge.cs 129 4 bk (.slice c (gE).length e) ((delR gV gE n).1) := by
   have hx := cf
   first | exact hx.eq (congrArg Prod.fst (Zbs (by first | exact fun q => t q.1 | exact fun q => absurd q.2 om))).symm | exact hx.eq (by rw [Zbw ⟨t, by omega⟩, show (eiR gE n + 1).toNat = (eiR gE n).toNat + 1 by omega])
  exact Zj [_, _] (Zn V rfl agg36 sz36 ⟨rfl, trivial⟩) ⟨(.slice a (gV).length b), (.slice c (gE).length e), (congrArg (fun zq => (Value.tuple #[.agg #[(.slice a (gV).length b), (.slice c (gE).length e)], .bool zq])) (by first | rw [Zbs (by first | exact fun q => t q.1 | exact fun q => absurd q.2 om)] | rw [Zbw ⟨t, by omega⟩])), aP, (Lo.down j om), aQ, (Lo.down l om), (fun g hm hg => by exact f _ hm hg), E⟩
 have bi := P
 have P := Yu P
 refine Yf ?_
 refine Zb (H9 _ _ ?_)
 refine Zh fun c5 cg => ?_
 refine Zc (Zl rfl rfl ?_)
 refine Xb (k := 1) ics el22 sz3 fun ci c6 aR s aF => ?_
 have cj := aF.size
 have E := E.trans aF
 obtain ⟨bw, bz, rfl, bA, r⟩ := aR.opn
 refine Za rfl rfl (Zd fa36_0 rfl) ?_
 have bB := (a2.ch0 Q).ch0 aF
 refine Za rfl rfl (Zp bB.at_ agg22 rfl rfl) (Zl rfl rfl ?_)
 have ck := (a3.ch0 Q).ch0 aF
 refine Yg (cs := ics) el22 sz3 by3 zr3 rfl (by decide) Zca aR ck rfl rfl bd bd s om fun bm cl ae aS F aT => ?_
 have cm := aT.size
 have E := E.step aT (fun i hi => .inl (by have I := s _ hi; omega))
 replace ae : Ol ics 3 1 cl bm gV := ae
 obtain ⟨A, B, rfl, bC, z⟩ := ae.opn
 refine Za rfl rfl (Ys (parts := [(0, .tmp 23)]) (cells := [(.slice A (gV).length B), (.slice none 0 0)]) zr36 pl36 rfl rfl) (Zl rfl rfl ?_)
 refine Yd zr36 fun ao cn a7 aG c7 => ?_
 have co := aG.size
 have E := E.trans aG
 have c8 := a7.lt
 replace a7 : Blk cn ao 36 [(.slice none 0 0), (.slice none 0 0)] := a7
 refine Zl rfl rfl ?_
 refine Zk (off := 0) 2 a7 sz36 rfl (us := [(.slice A (gV).length B), (.slice none 0 0)]) rfl rfl rfl rfl fun cp X aH => ?_
 have cq := aH.size
 have E := E.step aH (lS om)
 replace X : Blk cp ao 36 [(.slice A (gV).length B), (.slice none 0 0)] := X
 refine Ze (Zb (cg _ _ ?_))
 refine Zh fun c9 cr => ?_
 refine Yv [ao] 14 mixed rfl fun a8 aA => ?_
 have ct := aA.size
 have E := E.trans aA
 refine dV 1 rfl rfl rfl (fun _ => Zd fa36_1 rfl) ?_
 have bD := (((bB.ch aT (fun hm => by have I := s _ hm; have J := r _ hm; omega)).ch0 aG).ch aH (nS om)).ch0 aA
 refine dT 2 rfl rfl rfl (Yi bD.at_ (oS om) agg34 rfl rfl ?_)
 refine dV 3 rfl rfl rfl (fun _ => Zg rfl) ?_
 have bF := (((((a4.ch0 Q).ch0 aF).ch aT (fun i hi => by have I := s _ hi; omega)).ch0 aG).ch aH (oS om)).ch0 aA
 refine dT 4 rfl rfl rfl (Zht (ys := (gE.take ((eiR gE n).toNat))) 0 ((eiR gE n).toNat) bF GEdge.len el34 sz129 rfl rfl ⟨_, _, rfl, by omega⟩ om om rfl fun cu aB bG bH => ?_)
 obtain ⟨cv, cw, bn⟩ := aB.val
 subst bn
 have cx := aB.len
 refine dV 6 rfl rfl rfl (fun _ => Zd fa36_1 rfl) ?_
 refine dT 7 rfl rfl rfl (Yi bD.at_ (oS om) agg34 rfl rfl ?_)
 refine dV 8 rfl rfl rfl (fun _ => Zg rfl) (dV 9 rfl rfl rfl (fun _ => Xc om rfl rfl) ?_)
 refine dT 10 rfl rfl rfl (Zht (ys := (gE.drop ((eiR gE n + 1).toNat))) ((eiR gE n + 1).toNat) gE.length bF GEdge.len el34 sz129 rfl ⟨_, _, rfl, by omega⟩ rfl om om (Zcb _ _) fun cy aC bI bJ => ?_)
 obtain ⟨cz, cA, bp⟩ := aC.val
 subst bp
 have cB := aC.len
 refine dO 0 (Zr rfl rfl rfl ?_)
 refine Xb (k := 4) GEdge.cs el34 sz129 fun cC cD aU m ap => ?_
 have cE := ap.size
 have E := E.trans ap
 obtain ⟨bK, bL, rfl, bM, h⟩ := aU.opn
 have aq : Ch [ao] a8 cD := ((Ch.refl _ _).trans ap.of_nil)
 refine ⟨aq, ?_⟩
 refine dO 5 (Zr rfl rfl rfl ?_)
 have cF := aB.ch0 ap
 refine Yg (cs := GEdge.cs) el34 sz129 by129 zr129 rfl (by decide) GEdge.one aU cF rfl rfl bd bd m om fun bq bN af au D aD => ?_
 have cG := aD.size
 have E := E.step aD (fun i hi => .inl (by have I := m _ hi; omega))
 replace af : Ol GEdge.cs 129 4 bN bq (gE.take ((eiR gE n).toNat)) := af
 obtain ⟨bO, bP, rfl, bQ, u⟩ := af.opn
 have av : Ch [ao] a8 bN := (aq.step aD (fun i hm => by left; have I := m _ hm; have J := h _ hm; omega))
 refine ⟨av, ?_⟩
 refine dO 11 (Zr rfl rfl rfl ?_)
 have cH := (aC.ch0 ap).ch aD (fun i hi => by have I := m _ hi; omega)
 refine Yg (cs := GEdge.cs) el34 sz129 by129 zr129 rfl (by decide) GEdge.one af cH rfl rfl bd bd au om fun cI cJ aV aW R aI => ?_
 have cK := aI.size
 have E := E.step aI (fun i hi => .inl (by have I := au _ hi; omega))
 obtain ⟨G, H, rfl, bR, K⟩ := aV.opn
 have aw : Ch [ao] a8 cJ := (av.step aI (fun i hm => by rcases D with ea | ea; (rw [ea] at hm; left; have I := m _ hm; have J := h _ hm; omega); (have ag := u _ hm; rw [ea] at hm; have L := List.mem_singleton.1 hm; left; omega)))
 refine ⟨aw, ?_⟩
 refine dV 12 rfl rfl rfl (fun _ => Zd fa36_1 rfl) (dO 13 (Zr rfl rfl rfl ?_))
 have cL := (((X.ch0 aA).ch0 ap).ch aD (fun hm => by have I := m _ hm; have J := h _ hm; omega)).ch aI (fun hm => by rcases D with ea | ea; (rw [ea] at hm; have I := m _ hm; have J := h _ hm; omega); (have ag := u _ hm; rw [ea] at hm; have L := List.mem_singleton.1 hm; omega))
 refine Zy (off := 1) cL sz34 rfl rfl rfl rfl fun bS Y aJ => ?_
 have cM := aJ.size
 have E := E.step aJ (lS om)
 replace Y : Blk bS ao 36 [(.slice A (gV).length B), (.slice G (((gE.take ((eiR gE n).toNat)) ++ (gE.drop ((eiR gE n + 1).toNat)))).length H)] := Y
 have aX : Ch [ao] a8 bS := (aw.step aJ (fun i hm => by have aK := List.mem_singleton.1 hm; exact .inr (by rw [aK]; exact (List.mem_singleton.2 rfl))))
 refine ⟨aX, ?_⟩
 refine Zw (by kernel_rfl) ?_
 refine Zb (cr _ _ ?_)
 refine Zh fun da cN => ?_
 refine Zc (Za rfl rfl (Zi Y.at_ agg36 sz36 rfl) (Zl rfl rfl ?_))
 have cO := ((((((((((aE.ch0 C8).ch0 Q).ch0 aF).ch aT (fun hm => by have I := s _ hm; have J := r _ hm; omega)).ch0 aG).ch aH (nS om)).ch0 aA).ch0 ap).ch aD (fun hm => by have I := m _ hm; have J := h _ hm; omega)).ch aI (fun hm => by rcases D with ea | ea; (rw [ea] at hm; have I := m _ hm; have J := h _ hm; omega); (have ag := u _ hm; rw [ea] at hm; have L := List.mem_singleton.1 hm; omega))).ch aJ (nS om)
 refine Zk (off := 0) 2 cO sz36 rfl (us := [(.slice A (gV).length B), (.slice G (((gE.take ((eiR gE n).toNat)) ++ (gE.drop ((eiR gE n + 1).toNat)))).length H)]) rfl rfl rfl rfl fun br Z a9 => ?_
 have cP := a9.size
 have E := E.step a9 (lS om)
 replace Z : Blk br a1 36 [(.slice A (gV).length B), (.slice G (((gE.take ((eiR gE n).toNat)) ++ (gE.drop ((eiR gE n + 1).toNat)))).length H)] := Z
 refine Za rfl rfl (Zf rfl) (Ze (Zb (cN _ _ ?_)))
 refine Zv ?_
 have cQ := (((((((ae.ch0 aG).ch aH (fun g hg hm => by have aK := List.mem_singleton.1 hm; rcases F with ea | ea; (rw [ea] at hg; have J := s _ hg; have ah := r _ hg; omega); (have C := z _ hg; rw [ea] at hg; have L := List.mem_singleton.1 hg; omega))).ch0 aA).ch0 ap).ch aD (fun g hg hm => by rcases F with ea | ea; (rw [ea] at hg; have I := m _ hm; have J := h _ hm; have ah := s _ hg; have ba := r _ hg; omega); (have C := z _ hg; rw [ea] at hg; have L := List.mem_singleton.1 hg; have I := m _ hm; have J := h _ hm; omega))).ch aI (fun g hg hm => by rcases D with ea | ea; (rw [ea] at hm; rcases F with ea | ea; (rw [ea] at hg; have I := m _ hm; have J := h _ hm; have ah := s _ hg; have ba := r _ hg; omega); (have C := z _ hg; rw [ea] at hg; have L := List.mem_singleton.1 hg; have I := m _ hm; have J := h _ hm; omega)); (have ag := u _ hm; rw [ea] at hm; have L := List.mem_singleton.1 hm; rcases F with ea | ea; (rw [ea] at hg; have ah := s _ hg; have ba := r _ hg; omega); (have C := z _ hg; rw [ea] at hg; have L := List.mem_singleton.1 hg; omega)))).ch aJ (fun g hg hm => by have aK := List.mem_singleton.1 hm; rcases F with ea | ea; (rw [ea] at hg; have J := s _ hg; have ah := r _ hg; omega); (have C := z _ hg; rw [ea] at hg; have L := List.mem_singleton.1 hg; omega))).ch a9 (fun g hg hm => by have aK := List.mem_singleton.1 hm; rcases F with ea | ea; (rw [ea] at hg; have J := s _ hg; have ah := r _ hg; omega); (have C := z _ hg; rw [ea] at hg; have L := List.mem_singleton.1 hg; omega))
 have aY : Ol ics 3 1 br (.slice A (gV).length B) (gV) := by
  have hx := cQ
  first | exact hx | simpa using hx
 have cR := (aV.ch aJ (fun g hg hm => by have aK := List.mem_singleton.1 hm; rcases R with ea | ea; (rw [ea] at hg; rcases D with ea | ea; (rw [ea] at hg; have J := m _ hg; have ah := h _ hg; omega); (have C := u _ hg; rw [ea] at hg; have L := List.mem_singleton.1 hg; omega)); (have C := K _ hg; rw [ea] at hg; have L := List.mem_singleton.1 hg; omega))).ch a9 (fun g hg hm => by have aK := List.mem_singleton.1 hm; rcases R with ea | ea; (rw [ea] at hg; rcases D with ea | ea; (rw [ea] at hg; have J := m _ hg; have ah := h _ hg; omega); (have C := u _ hg; rw [ea] at hg; have L := List.mem_singleton.1 hg; omega)); (have C := K _ hg; rw [ea] at hg; have L := List.mem_singleton.1 hg; omega))
 have aZ : Ol GEdge.cs 129 4 br (.slice G (((gE.take ((eiR gE n).toNat)) ++ (gE.drop ((eiR gE n + 1).toNat)))).length H) ((delR gV gE n).1) := by
  have hx := cR
  first | exact hx.eq (congrArg Prod.fst (Zbs (by first | exact fun q => t q.1 | exact fun q => absurd q.2 om))).symm | exact hx.eq (by rw [Zbw ⟨t, by omega⟩, show (eiR gE n + 1).toNat = (eiR gE n).toNat + 1 by omega])
 exact Zj [_, _] (Zn Z rfl agg36 sz36 ⟨rfl, trivial⟩) ⟨(.slice A (gV).length B), (.slice G (((gE.take ((eiR gE n).toNat)) ++ (gE.drop ((eiR gE n + 1).toNat)))).length H), (congrArg (fun zq => (Value.tuple #[.agg #[(.slice A (gV).length B), (.slice G (((gE.take ((eiR gE n).toNat)) ++ (gE.drop ((eiR gE n + 1).toNat)))).length H)], .bool zq])) (by first | rw [Zbs (by first | exact fun q => t q.1 | exact fun q => absurd q.2 om)] | rw [Zbw ⟨t, by omega⟩])), aY, (Lo.down aS om), aZ, (Lo.down aW om), (fun g hm hg => by rcases F with ea | ea; (rw [ea] at hm; rcases R with ea | ea; (rw [ea] at hg; rcases D with ea | ea; (rw [ea] at hg; have I := s _ hm; have J := r _ hm; have ah := m _ hg; have ba := h _ hg; omega); (have C := u _ hg; rw [ea] at hg; have L := List.mem_singleton.1 hg; have I := s _ hm; have J := r _ hm; omega)); (have C := K _ hg; rw [ea] at hg; have L := List.mem_singleton.1 hg; have I := s _ hm; have J := r _ hm; omega)); (have ag := z _ hm; rw [ea] at hm; have L := List.mem_singleton.1 hm; rcases R with ea | ea; (rw [ea] at hg; rcases D with ea | ea; (rw [ea] at hg; have ah := m _ hg; have ba := h _ hg; omega); (have C := u _ hg; rw [ea] at hg; have L := List.mem_singleton.1 hg; omega)); (have C := K _ hg; rw [ea] at hg; have L := List.mem_singleton.1 hg; omega))), E⟩

/-- spec.InsertEdge -/
theorem Zeb {w : World} {LL_gV du : Nat} {cR : Value} {gV : List Int} (aK : Ls ics 1 w LL_gV du cR gV) {LL_gE dv : Nat} {cS : Value} {gE : List GEdge} (aL : Ls GEdge.cs 4 w LL_gE dv cS gE) (e : GEdge) (hb : gV.length ≤ 4194304 ∧ gE.length ≤ 4194304) :
 Ctr Try.prog 124 #[(.agg #[cR, cS]), (.agg #[(.int .i64 e.id), (.int .i64 e.f), (.int .i64 e.t), (.int .i64 e.label)])] w (fun v w' => ∃ (cH : Value) (cI : Value), v = .tuple #[.agg #[cH, cI], .bool ((insR gV gE e).2)] ∧ Ol ics 3 1 w' cH (gV) ∧ Lo w.heap.size cH ∧ Ol GEdge.cs 129 4 w' cI ((insR gV gE e).1) ∧ Lo w.heap.size cI ∧ (∀ g ∈ bl cH, g ∉ bl cI) ∧ Ch [] w w') := by
 obtain ⟨bF, bG, cX⟩ := aK.val
 subst cX
 have gf := aK.len
 have aK := aK.here (by decide)
 obtain ⟨bH, bI, cY⟩ := aL.val
 subst cY
 have gg := aL.len
 have aL := aL.here (by decide)
 have E := Ch.refl [] w
 refine Yj (N := 71) (vs0 := [(.agg #[(.slice bF gV.length bG), (.slice bH gE.length bI)]), (.agg #[(.int .i64 e.id), (.int .i64 e.f), (.int .i64 e.t), (.int .i64 e.label)])]) Try.func124 rfl rfl rfl ?_
 refine Zh fun K1 H1 => ?_
 refine Zc (Zl rfl rfl ?_)
 refine Xm rfl fun ei W2 d9 C2 iw => ?_
 have ix := C2.size
 have E := E.trans C2
 have iy := d9.lt
 replace d9 : Blk W2 ei 36 [(.slice bF gV.length bG), (.slice bH gE.length bI)] := d9
 refine Zl rfl rfl ?_
 refine Xm rfl fun ej W3 eb C3 iz => ?_
 have iA := C3.size
 have E := E.trans C3
 have iB := eb.lt
 replace eb : Blk W3 ej 129 [(.int .i64 e.id), (.int .i64 e.f), (.int .i64 e.t), (.int .i64 e.label)] := eb
 refine Zl rfl rfl ?_
 refine Yd zr36 fun bM W4 cT C4 iC => ?_
 have iD := C4.size
 have E := E.trans C4
 have iE := cT.lt
 replace cT : Blk W4 bM 36 [(.slice none 0 0), (.slice none 0 0)] := cT
 refine Za rfl rfl (Zf rfl) (Ze (Zb (H1 _ _ ?_)))
 refine Zh fun K5 H5 => ?_
 refine Zh fun K6 H6 => ?_
 refine Zc ?_
 have F7 := (d9.ch0 C3).ch0 C4
 refine Za rfl rfl (Zi F7.at_ agg36 sz36 rfl) (Zl rfl rfl ?_)
 have F8 := ((aK.ch0 C2).ch0 C3).ch0 C4
 have F9 := ((aL.ch0 C2).ch0 C3).ch0 C4
 refine Step.call (Zm (xs := [.tmp 8]) fk88 rfl) (Zad F8 F9 ) fun iF iG g9 => ?_
 obtain ⟨rfl, bJ⟩ := g9
 have ha := bJ.size
 have E := E.trans bJ
 refine Za rfl rfl (Xp rfl) (Za rfl rfl (Zg rfl) ?_)
 refine Yy (d := 11) rfl (fun M => ?_) (fun M => ?_)
 ·have ek := M
  have M := bf_t (Qj M)
  refine Zo rfl rfl (Zo rfl rfl (Zo rfl rfl (Zo rfl rfl (Za rfl rfl (Ym rfl rfl) (Za rfl rfl (Zg rfl) (Zo rfl rfl (Zo rfl rfl ?_)))))))
  refine Zo rfl rfl (Zo rfl rfl (Zo rfl rfl (Za rfl rfl (Ym rfl rfl) (Za rfl rfl (Zg rfl) (Zo rfl rfl (Zo rfl rfl (Zo rfl rfl ?_)))))))
  refine Zo rfl rfl (Za rfl rfl (Ym rfl rfl) (Ze (Zb (H6 _ _ ?_))))
  refine Xr rfl ?_
  refine Zh fun iH hc => ?_
  refine Zc ?_
  have hd := F7.ch0 bJ
  refine Za rfl rfl (Zi hd.at_ agg36 sz36 rfl) (Zl rfl rfl ?_)
  have he := F8.ch0 bJ
  have hf := F9.ch0 bJ
  refine Step.call (Zm (xs := [.tmp 30]) fk92 rfl) (Yz he hf om) fun cZ iI a8 => ?_
  obtain ⟨aD, aE, rfl, O, K, P, L, D, el⟩ := a8
  have hh := el.size
  have E := E.trans el
  obtain ⟨z, A, rfl, au, U⟩ := O.opn
  obtain ⟨B, C, rfl, av, V⟩ := P.opn
  refine Zl rfl rfl ?_
  have hj := (cT.ch0 bJ).ch0 el
  refine Zk (off := 0) 2 hj sz36 rfl (us := [(.slice z (gV).length A), (.slice B (gE).length C)]) rfl rfl rfl rfl fun em b0 ec => ?_
  have hk := ec.size
  have E := E.step ec (lS om)
  replace b0 : Blk em bM 36 [(.slice z (gV).length A), (.slice B (gE).length C)] := b0
  refine Za rfl rfl (Zf rfl) (Ze (Zb (hc _ _ ?_)))
  refine Zv (Zt ?_)
  have hl := O.ch ec (dS K U om)
  have dw : Ol ics 3 1 em (.slice z (gV).length A) (gV) := by
   have hx := hl
   first | exact hx | simpa using hx
  have hn := P.ch ec (dS L V om)
  have dx : Ol GEdge.cs 129 4 em (.slice B (gE).length C) ((insR gV gE e).1) := by
   have hx := hn
   first | exact hx.eq (by rw [Xu (by first | exact fun q => M q.1 | exact fun q => Q q.2.1 | exact fun q => absurd q.2.2.1 om | exact fun q => q.2.2.2 om)]) | exact hx.eq (by rw [Xs ⟨M, Q, by omega, by omega⟩]; unfold insL; rw [(show insK gE e.id = k from (by first | exact Qp hp ae ad | exact Zao hp om om))])
  exact Zj [_, _] (Zn b0 rfl agg36 sz36 ⟨rfl, trivial⟩) ⟨(.slice z (gV).length A), (.slice B (gE).length C), (congrArg (fun zq => (Value.tuple #[.agg #[(.slice z (gV).length A), (.slice B (gE).length C)], .bool zq])) (by first | rw [Xu (by first | exact fun q => M q.1 | exact fun q => Q q.2.1 | exact fun q => absurd q.2.2.1 om | exact fun q => q.2.2.2 om)] | rw [Xs ⟨M, Q, by omega, by omega⟩])), dw, (Lo.down K om), dx, (Lo.down L om), (fun g hm hg => by exact D _ hm hg), E⟩
 have ek := M
 have M := bt_t (Qk M)
 have en := F7.ch0 bJ
 refine Za rfl rfl (Zi en.at_ agg36 sz36 rfl) ?_
 have gh := (eb.ch0 C4).ch0 bJ
 refine Za rfl rfl (Zi gh.at_ agg129 sz129 rfl) (Zl rfl rfl ?_)
 have eo := F8.ch0 bJ
 have ep := F9.ch0 bJ
 refine Step.call (Zm (xs := [.tmp 12, .tmp 13]) fk122 rfl) (Zdp eo ep e ) fun ho iJ er => ?_
 obtain ⟨rfl, bN⟩ := er
 have hq := bN.size
 have E := E.trans bN
 refine Za rfl rfl (Xp rfl) (Za rfl rfl (Yl rfl rfl) (Za rfl rfl (Zg rfl) ?_))
 refine Yy (d := 17) rfl (fun Q => ?_) (fun Q => ?_)
 ·have es := Q
  have Q := bf_t (Qj Q)
  refine Zo rfl rfl (Zo rfl rfl (Zo rfl rfl (Zo rfl rfl (Zo rfl rfl (Za rfl rfl (Ym rfl rfl) (Za rfl rfl (Zg rfl) (Zo rfl rfl ?_)))))))
  refine Zo rfl rfl (Zo rfl rfl (Zo rfl rfl (Za rfl rfl (Ym rfl rfl) (Ze (Zb (H6 _ _ ?_))))))
  refine Xr rfl ?_
  refine Zh fun iK hr => ?_
  refine Zc ?_
  have hs := en.ch0 bN
  refine Za rfl rfl (Zi hs.at_ agg36 sz36 rfl) (Zl rfl rfl ?_)
  have ht := eo.ch0 bN
  have hu := ep.ch0 bN
  refine Step.call (Zm (xs := [.tmp 30]) fk92 rfl) (Yz ht hu om) fun cZ iL a8 => ?_
  obtain ⟨aD, aE, rfl, O, K, P, L, D, et⟩ := a8
  have hv := et.size
  have E := E.trans et
  obtain ⟨z, A, rfl, au, U⟩ := O.opn
  obtain ⟨B, C, rfl, av, V⟩ := P.opn
  refine Zl rfl rfl ?_
  have hw := ((cT.ch0 bJ).ch0 bN).ch0 et
  refine Zk (off := 0) 2 hw sz36 rfl (us := [(.slice z (gV).length A), (.slice B (gE).length C)]) rfl rfl rfl rfl fun eu b1 ed => ?_
  have hy := ed.size
  have E := E.step ed (lS om)
  replace b1 : Blk eu bM 36 [(.slice z (gV).length A), (.slice B (gE).length C)] := b1
  refine Za rfl rfl (Zf rfl) (Ze (Zb (hr _ _ ?_)))
  refine Zv (Zt ?_)
  have hz := O.ch ed (dS K U om)
  have dy : Ol ics 3 1 eu (.slice z (gV).length A) (gV) := by
   have hx := hz
   first | exact hx | simpa using hx
  have hA := P.ch ed (dS L V om)
  have dz : Ol GEdge.cs 129 4 eu (.slice B (gE).length C) ((insR gV gE e).1) := by
   have hx := hA
   first | exact hx.eq (by rw [Xu (by first | exact fun q => M q.1 | exact fun q => Q q.2.1 | exact fun q => absurd q.2.2.1 om | exact fun q => q.2.2.2 om)]) | exact hx.eq (by rw [Xs ⟨M, Q, by omega, by omega⟩]; unfold insL; rw [(show insK gE e.id = k from (by first | exact Qp hp ae ad | exact Zao hp om om))])
  exact Zj [_, _] (Zn b1 rfl agg36 sz36 ⟨rfl, trivial⟩) ⟨(.slice z (gV).length A), (.slice B (gE).length C), (congrArg (fun zq => (Value.tuple #[.agg #[(.slice z (gV).length A), (.slice B (gE).length C)], .bool zq])) (by first | rw [Xu (by first | exact fun q => M q.1 | exact fun q => Q q.2.1 | exact fun q => absurd q.2.2.1 om | exact fun q => q.2.2.2 om)] | rw [Xs ⟨M, Q, by omega, by omega⟩])), dy, (Lo.down K om), dz, (Lo.down L om), (fun g hm hg => by exact D _ hm hg), E⟩
 have es := Q
 have Q := bt_t (Qk Q)
 have ew := en.ch0 bN
 refine Za rfl rfl (Zi ew.at_ agg36 sz36 rfl) (Za rfl rfl (Zd fa129_0 rfl) ?_)
 have gi := gh.ch0 bN
 refine Za rfl rfl (Zp gi.at_ agg3 rfl rfl) (Zl rfl rfl ?_)
 have ee := eo.ch0 bN
 have ef := ep.ch0 bN
 refine Step.call (Zm (xs := [.tmp 18, .tmp 20]) fk99 rfl) (Zbn ee ef _ ) fun hB hC ex => ?_
 obtain ⟨rfl, bK⟩ := ex
 have hD := bK.size
 have E := E.trans bK
 refine Za rfl rfl (Zgt rfl rfl) (Za rfl rfl (Yl rfl rfl) (Za rfl rfl (Zg rfl) ?_))
 refine Yy (d := 24) rfl (fun a9 => ?_) (fun a9 => ?_)
 ·have ey := a9
  have a9 := Yt a9
  refine Zo rfl rfl (Zo rfl rfl (Zo rfl rfl (Zo rfl rfl (Za rfl rfl (Ym rfl rfl) (Ze (Zb (H6 _ _ ?_)))))))
  refine Xr rfl ?_
  refine Zh fun iM hE => ?_
  refine Zc ?_
  have hF := ew.ch0 bK
  refine Za rfl rfl (Zi hF.at_ agg36 sz36 rfl) (Zl rfl rfl ?_)
  have hG := ee.ch0 bK
  have hH := ef.ch0 bK
  refine Step.call (Zm (xs := [.tmp 30]) fk92 rfl) (Yz hG hH om) fun cZ iN a8 => ?_
  obtain ⟨aD, aE, rfl, O, K, P, L, D, ez⟩ := a8
  have hI := ez.size
  have E := E.trans ez
  obtain ⟨z, A, rfl, au, U⟩ := O.opn
  obtain ⟨B, C, rfl, av, V⟩ := P.opn
  refine Zl rfl rfl ?_
  have hJ := (((cT.ch0 bJ).ch0 bN).ch0 bK).ch0 ez
  refine Zk (off := 0) 2 hJ sz36 rfl (us := [(.slice z (gV).length A), (.slice B (gE).length C)]) rfl rfl rfl rfl fun eA b2 eg => ?_
  have hK := eg.size
  have E := E.step eg (lS om)
  replace b2 : Blk eA bM 36 [(.slice z (gV).length A), (.slice B (gE).length C)] := b2
  refine Za rfl rfl (Zf rfl) (Ze (Zb (hE _ _ ?_)))
  refine Zv (Zt ?_)
  have hL := O.ch eg (dS K U om)
  have dA : Ol ics 3 1 eA (.slice z (gV).length A) (gV) := by
   have hx := hL
   first | exact hx | simpa using hx
  have hM := P.ch eg (dS L V om)
  have dB : Ol GEdge.cs 129 4 eA (.slice B (gE).length C) ((insR gV gE e).1) := by
   have hx := hM
   first | exact hx.eq (by rw [Xu (by first | exact fun q => M q.1 | exact fun q => Q q.2.1 | exact fun q => absurd q.2.2.1 om | exact fun q => q.2.2.2 om)]) | exact hx.eq (by rw [Xs ⟨M, Q, by omega, by omega⟩]; unfold insL; rw [(show insK gE e.id = k from (by first | exact Qp hp ae ad | exact Zao hp om om))])
  exact Zj [_, _] (Zn b2 rfl agg36 sz36 ⟨rfl, trivial⟩) ⟨(.slice z (gV).length A), (.slice B (gE).length C), (congrArg (fun zq => (Value.tuple #[.agg #[(.slice z (gV).length A), (.slice B (gE).length C)], .bool zq])) (by first | rw [Xu (by first | exact fun q => M q.1 | exact fun q => Q q.2.1 | exact fun q => absurd q.2.2.1 om | exact fun q => q.2.2.2 om)] | rw [Xs ⟨M, Q, by omega, by omega⟩])), dA, (Lo.down K om), dB, (Lo.down L om), (fun g hm hg => by exact D _ hm hg), E⟩
 have ey := a9
 have a9 := Yu a9
 refine Za rfl rfl (Zd fa36_1 rfl) ?_
 have eB := ew.ch0 bK
 refine Za rfl rfl (Zp eB.at_ agg34 rfl rfl) (Za rfl rfl (Yr (by rw [el34]; rfl) rfl) (Za rfl rfl (Qg rfl rfl) (Za rfl rfl (Yl rfl rfl) (Ze (Zb (H6 _ _ ?_))))))
 refine Zz rfl (fun ba => ?_) (fun ba => ?_)
 ·have eC := ba
  have ba := Yt ba
  refine Zh fun iO hN => ?_
  refine Zc (Za rfl rfl (Zi eB.at_ agg36 sz36 rfl) (Zl rfl rfl ?_))
  have hO := ee.ch0 bK
  have hP := ef.ch0 bK
  refine Step.call (Zm (xs := [.tmp 30]) fk92 rfl) (Yz hO hP om) fun cZ iP a8 => ?_
  obtain ⟨aD, aE, rfl, O, K, P, L, D, eD⟩ := a8
  have hQ := eD.size
  have E := E.trans eD
  obtain ⟨z, A, rfl, au, U⟩ := O.opn
  obtain ⟨B, C, rfl, av, V⟩ := P.opn
  refine Zl rfl rfl ?_
  have hR := (((cT.ch0 bJ).ch0 bN).ch0 bK).ch0 eD
  refine Zk (off := 0) 2 hR sz36 rfl (us := [(.slice z (gV).length A), (.slice B (gE).length C)]) rfl rfl rfl rfl fun eE b3 eh => ?_
  have hS := eh.size
  have E := E.step eh (lS om)
  replace b3 : Blk eE bM 36 [(.slice z (gV).length A), (.slice B (gE).length C)] := b3
  refine Za rfl rfl (Zf rfl) (Ze (Zb (hN _ _ ?_)))
  refine Zv (Zt ?_)
  have hT := O.ch eh (dS K U om)
  have dC : Ol ics 3 1 eE (.slice z (gV).length A) (gV) := by
   have hx := hT
   first | exact hx | simpa using hx
  have hU := P.ch eh (dS L V om)
  have dD : Ol GEdge.cs 129 4 eE (.slice B (gE).length C) ((insR gV gE e).1) := by
   have hx := hU
   first | exact hx.eq (by rw [Xu (by first | exact fun q => M q.1 | exact fun q => Q q.2.1 | exact fun q => absurd q.2.2.1 om | exact fun q => q.2.2.2 om)]) | exact hx.eq (by rw [Xs ⟨M, Q, by omega, by omega⟩]; unfold insL; rw [(show insK gE e.id = k from (by first | exact Qp hp ae ad | exact Zao hp om om))])
  exact Zj [_, _] (Zn b3 rfl agg36 sz36 ⟨rfl, trivial⟩) ⟨(.slice z (gV).length A), (.slice B (gE).length C), (congrArg (fun zq => (Value.tuple #[.agg #[(.slice z (gV).length A), (.slice B (gE).length C)], .bool zq])) (by first | rw [Xu (by first | exact fun q => M q.1 | exact fun q => Q q.2.1 | exact fun q => absurd q.2.2.1 om | exact fun q => q.2.2.2 om)] | rw [Xs ⟨M, Q, by omega, by omega⟩])), dC, (Lo.down K om), dD, (Lo.down L om), (fun g hm hg => by exact D _ hm hg), E⟩
 have eC := ba
 have ba := Yu ba
 refine Yf ?_
 refine Zb (H5 _ _ ?_)
 refine Zh fun iQ hV => ?_
 refine Zc (Za rfl rfl (Zf rfl) (Ze (Zb (hV _ _ ?_))))
 refine Zh fun iR gj => ?_
 refine Yn ?_
 have hW := ee.ch0 bK
 have hX := ef.ch0 bK
 have hY := gi.ch0 bK
 have hZ := ((cT.ch0 bJ).ch0 bN).ch0 bK
 refine Ql (σ := Nat) (fun (k : Nat) => [(2, (.pointer (some ⟨ei, 0, none⟩))), (3, (.pointer (some ⟨ej, 0, none⟩))), (4, (.pointer (some ⟨bM, 0, none⟩))), (5, (.bool false)), (6, (.int .i64 ((k : Nat) : Int)))]) (fun (k : Nat) wx => Ch [] w wx ∧ hC.heap.size ≤ wx.heap.size ∧ (k ≤ gE.length) ∧ (InsP gE e.id k) ∧ Blk wx ei 36 [(.slice bF gV.length bG), (.slice bH gE.length bI)] ∧ Ls ics 1 wx LL_gV w.heap.size (.slice bF gV.length bG) gV ∧ Ls GEdge.cs 4 wx LL_gE w.heap.size (.slice bH gE.length bI) gE ∧ Blk wx ej 129 [(.int .i64 e.id), (.int .i64 e.f), (.int .i64 e.t), (.int .i64 e.label)] ∧ Blk wx bM 36 [(.slice none 0 0), (.slice none 0 0)]) (fun (k : Nat) => gE.length - k) 0 (sC4 rfl rfl rfl rfl (sC1 rfl (Sub.nil _))) ⟨E, (Nat.le_refl _), om, (Zhg), eB, hW, hX, hY, hZ⟩ ?_
 rintro k iS ⟨E, h0, iT, hp, cU, b4, cV, b5, aq⟩
 have eF := E
 have gk := eF.size
 have eG := cU.lt
 have eH := b5.lt
 have eI := aq.lt
 refine Zh fun iU h1 => ?_
 refine Zh fun iV gl => ?_
 refine Yv [] 16 mixed rfl fun iW aM => ?_
 have h2 := aM.size
 have E := E.trans aM
 refine dV 0 rfl rfl rfl (fun _ => Zg rfl) (dV 1 rfl rfl rfl (fun _ => Zd fa36_1 rfl) ?_)
 have dE := cU.ch0 aM
 refine dT 2 rfl rfl rfl (Yi dE.at_ (fun i hi => absurd hi List.not_mem_nil) agg34 rfl rfl ?_)
 refine dV 3 rfl rfl rfl (fun _ => Yr (by rw [el34]; rfl) rfl) (dV 4 rfl rfl rfl (fun _ => Qw rfl rfl) (dV 5 rfl rfl rfl (fun _ => Zg rfl) ?_))
 refine Qq (d := 37) rfl (fun bb => ?_) (fun bb => ?_)
 ·have eJ := bb
  have bb := Yt bb
  refine dV 6 rfl rfl rfl (fun _ => Zd fa36_1 rfl) ?_
  refine dT 7 rfl rfl rfl (Yi dE.at_ (fun i hi => absurd hi List.not_mem_nil) agg34 rfl rfl ?_)
  refine dV 8 rfl rfl rfl (fun _ => Zg rfl) ?_
  have eK := cV.ch0 aM
  refine dT 9 rfl rfl rfl (Xh eK GEdge.len el34 sz129 rfl rfl rfl om fun h3 h4 ae eL => ?_)
  refine dV 10 rfl rfl rfl (fun _ => Zd fa129_0 rfl) ?_
  refine dT 11 rfl rfl rfl (Yi eL (fun i hi => absurd hi List.not_mem_nil) agg3 rfl rfl ?_)
  refine dV 12 rfl rfl rfl (fun _ => Zd fa129_0 rfl) ?_
  have eM := b5.ch0 aM
  refine dT 13 rfl rfl rfl (Yi eM.at_ (fun i hi => absurd hi List.not_mem_nil) agg3 rfl rfl ?_)
  refine dV 14 rfl rfl rfl (fun _ => Qw rfl rfl) (dV 15 rfl rfl rfl (fun _ => Ym rfl rfl) ?_)
  refine Zw (by kernel_rfl) ?_
  refine Zb (gl _ _ ?_)
  refine Zz rfl (fun ad => ?_) (fun ad => ?_)
  ·have eN := ad
   have ad := Yt ad
   refine Yf ?_
   refine Zb (h1 _ _ ?_)
   refine Yn ?_
   refine Zc (Za rfl rfl (Zg rfl) (Za rfl rfl (Xc om rfl rfl) (Za rfl rfl (Zf rfl) (Ze (Yc ?_)))))
   have h5 := b4.ch0 aM
   have h6 := aq.ch0 aM
   exact Zb (Exists.intro (k + 1) ⟨⟨E, om, om, (Zhh hp ae ad), dE, h5, eK, eM, h6⟩, sC4 rfl rfl rfl rfl (sC1 rfl (Sub.nil _)), (by first | omega | (dsimp only; omega))⟩)
  have eN := ad
  have ad := Yu ad
  refine Xx (Yh (Yh (Xg ?_)))
  refine Zb (gj _ _ ?_)
  refine Zh fun iX h7 => ?_
  refine Zc (Zl rfl rfl ?_)
  refine Xb (k := 1) ics el22 sz3 fun eO iY b6 j cJ => ?_
  have h8 := cJ.size
  have E := E.trans cJ
  obtain ⟨dF, dG, rfl, dH, c⟩ := b6.opn
  refine Za rfl rfl (Zd fa36_0 rfl) ?_
  have gm := dE.ch0 cJ
  refine Za rfl rfl (Zp gm.at_ agg22 rfl rfl) (Zl rfl rfl ?_)
  have h9 := (b4.ch0 aM).ch0 cJ
  refine Yg (cs := ics) el22 sz3 by3 zr3 rfl (by decide) Zca b6 h9 rfl rfl bd bd j om fun c0 ia am aw r cW => ?_
  have ib := cW.size
  have E := E.step cW (fun i hi => .inl (by have s := j _ hi; omega))
  replace am : Ol ics 3 1 ia c0 gV := am
  obtain ⟨F, G, rfl, dI, m⟩ := am.opn
  refine Za rfl rfl (Ys (parts := [(0, .tmp 53)]) (cells := [(.slice F (gV).length G), (.slice none 0 0)]) zr36 pl36 rfl rfl) (Zl rfl rfl ?_)
  refine Yd zr36 fun aa ic cK b7 ie => ?_
  have ig := b7.size
  have E := E.trans b7
  have ih := cK.lt
  replace cK : Blk ic aa 36 [(.slice none 0 0), (.slice none 0 0)] := cK
  refine Zl rfl rfl ?_
  refine Zk (off := 0) 2 cK sz36 rfl (us := [(.slice F (gV).length G), (.slice none 0 0)]) rfl rfl rfl rfl fun ii aN b8 => ?_
  have ij := b8.size
  have E := E.step b8 (lS om)
  replace aN : Blk ii aa 36 [(.slice F (gV).length G), (.slice none 0 0)] := aN
  refine Ze (Zb (h7 _ _ ?_))
  refine Zh fun iZ eP => ?_
  refine Yv [aa] 16 mixed rfl fun aO bL => ?_
  have ik := bL.size
  have E := E.trans bL
  refine dV 1 rfl rfl rfl (fun _ => Zd fa36_1 rfl) ?_
  have dJ := (((gm.ch cW (fun hm => by have s := j _ hm; have x := c _ hm; omega)).ch0 b7).ch b8 (nS om)).ch0 bL
  refine dT 2 rfl rfl rfl (Yi dJ.at_ (oS om) agg34 rfl rfl ?_)
  refine dV 3 rfl rfl rfl (fun _ => Zg rfl) ?_
  have dL := ((((eK.ch0 cJ).ch cW (fun i hi => by have s := j _ hi; omega)).ch0 b7).ch b8 (oS om)).ch0 bL
  refine dT 4 rfl rfl rfl (Zht (ys := (gE.take k)) 0 k dL GEdge.len el34 sz129 rfl rfl ⟨_, _, rfl, by omega⟩ om om rfl fun eQ ax dM dN => ?_)
  obtain ⟨eR, eS, c1⟩ := ax.val
  subst c1
  have eT := ax.len
  have eU := ((((eM.ch0 cJ).ch cW (fun hm => by have s := j _ hm; have x := c _ hm; omega)).ch0 b7).ch b8 (nS om)).ch0 bL
  refine dT 6 rfl rfl rfl (Ye eU.at_ (oS om) agg129 sz129 rfl ?_)
  refine dV 9 rfl rfl rfl (fun _ => Zd fa36_1 rfl) ?_
  refine dT 10 rfl rfl rfl (Yi dJ.at_ (oS om) agg34 rfl rfl ?_)
  refine dV 11 rfl rfl rfl (fun _ => Zg rfl) ?_
  refine dT 12 rfl rfl rfl (Zht (ys := (gE.drop k)) k gE.length dL GEdge.len el34 sz129 rfl ⟨_, _, rfl, by omega⟩ rfl om om (Zcb _ _) fun eV ay dP dQ => ?_)
  obtain ⟨eW, eX, c2⟩ := ay.val
  subst c2
  have eY := ay.len
  refine Xd 0 7 (by kernel_rfl) ?_ ?_
  ·refine Zr rfl rfl rfl ?_
   refine Xb (k := 4) GEdge.cs el34 sz129 fun c3 eZ an b ao => ?_
   have gn := ao.size
   have E := E.trans ao
   obtain ⟨b9, ca, rfl, cb, a⟩ := an.opn
   have bc : Ch [aa] aO eZ := ((Ch.refl _ _).trans ao.of_nil)
   refine ⟨bc, ?_⟩
   refine Xd 5 7 (by kernel_rfl) ?_ ?_
   ·refine Zr rfl rfl rfl ?_
    have e0 := ax.ch0 ao
    refine Yg (cs := GEdge.cs) el34 sz129 by129 zr129 rfl (by decide) GEdge.one an e0 rfl rfl bd bd b om fun az dR X T n be => ?_
    have gp := be.size
    have E := E.step be (fun i hi => .inl (by have s := b _ hi; omega))
    replace X : Ol GEdge.cs 129 4 dR az (gE.take k) := X
    obtain ⟨aP, aQ, rfl, aR, h⟩ := X.opn
    have cc : Ch [aa] aO dR := (bc.step be (fun i hm => by left; have s := b _ hm; have x := a _ hm; omega))
    refine ⟨cc, ?_⟩
    refine dO 7 (Zr rfl rfl rfl ?_)
    refine Zq (cs := GEdge.cs) (parts := [(0, .tmp 61)]) (⟨0, 0, 0, 0⟩ : GEdge) [e] el34 sz129 zr129 GEdge.len (by decide) rfl rfl rfl (by decide) (by decide) rfl fun cd e1 af ak aS => ?_
    have gq := aS.size
    have E := E.trans aS
    obtain ⟨aT, aU, rfl, aV, ac⟩ := af.opn
    have ce : Ch [aa] aO e1 := (cc.trans aS.of_nil)
    refine ⟨ce, ?_⟩
    refine dO 8 (Zr rfl rfl rfl ?_)
    have e2 := X.ch0 aS
    refine Yg (cs := GEdge.cs) el34 sz129 by129 zr129 rfl (by decide) GEdge.one e2 af.ls rfl rfl bd bd T om fun cf e3 ag Y u bf => ?_
    have gr := bf.size
    have E := E.step bf (fun i hi => .inl (by have s := T _ hi; omega))
    obtain ⟨aW, aX, rfl, aY, o⟩ := ag.opn
    have cg : Ch [aa] aO e3 := (ce.step bf (fun i hm => by rcases n with ea | ea; (rw [ea] at hm; left; have s := b _ hm; have x := a _ hm; omega); (have y := h _ hm; rw [ea] at hm; have p := List.mem_singleton.1 hm; left; omega)))
    refine ⟨cg, ?_⟩
    refine dO 13 (Zr rfl rfl rfl ?_)
    have e4 := (((ay.ch0 ao).ch be (fun i hi => by have s := b _ hi; omega)).ch0 aS).ch bf (fun i hi => by have s := T _ hi; omega)
    refine Yg (cs := GEdge.cs) el34 sz129 by129 zr129 rfl (by decide) GEdge.one ag e4 rfl rfl bd bd Y om fun ci e5 ah ai R bO => ?_
    have gs := bO.size
    have E := E.step bO (fun i hi => .inl (by have s := Y _ hi; omega))
    obtain ⟨H, I, rfl, aZ, J⟩ := ah.opn
    have cj : Ch [aa] aO e5 := (cg.step bO (fun i hm => by rcases u with ea | ea; (rw [ea] at hm; rcases n with ea | ea; (rw [ea] at hm; left; have s := b _ hm; have x := a _ hm; omega); (have y := h _ hm; rw [ea] at hm; have p := List.mem_singleton.1 hm; left; omega)); (have y := o _ hm; rw [ea] at hm; have p := List.mem_singleton.1 hm; left; omega)))
    refine ⟨cj, ?_⟩
    refine dV 14 rfl rfl rfl (fun _ => Zd fa36_1 rfl) (dO 15 (Zr rfl rfl rfl ?_))
    have e6 := (((((aN.ch0 bL).ch0 ao).ch be (fun hm => by have s := b _ hm; have x := a _ hm; omega)).ch0 aS).ch bf (fun hm => by rcases n with ea | ea; (rw [ea] at hm; have s := b _ hm; have x := a _ hm; omega); (have y := h _ hm; rw [ea] at hm; have p := List.mem_singleton.1 hm; omega))).ch bO (fun hm => by rcases u with ea | ea; (rw [ea] at hm; rcases n with ea | ea; (rw [ea] at hm; have s := b _ hm; have x := a _ hm; omega); (have y := h _ hm; rw [ea] at hm; have p := List.mem_singleton.1 hm; omega)); (have y := o _ hm; rw [ea] at hm; have p := List.mem_singleton.1 hm; omega))
    refine Zy (off := 1) e6 sz34 rfl rfl rfl rfl fun dU bg bP => ?_
    have gt := bP.size
    have E := E.step bP (lS om)
    replace bg : Blk dU aa 36 [(.slice F (gV).length G), (.slice H ((((gE.take k) ++ [e]) ++ (gE.drop k))).length I)] := bg
    have c4 : Ch [aa] aO dU := (cj.step bP (fun i hm => by have ab := List.mem_singleton.1 hm; exact .inr (by rw [ab]; exact (List.mem_singleton.2 rfl))))
    refine ⟨c4, ?_⟩
    refine Zw (by kernel_rfl) ?_
    refine Zb (eP _ _ ?_)
    refine Zh fun il e7 => ?_
    refine Zc (Za rfl rfl (Zi bg.at_ agg36 sz36 rfl) (Zl rfl rfl ?_))
    have e8 := (((((((((((aq.ch0 aM).ch0 cJ).ch cW (fun hm => by have s := j _ hm; have x := c _ hm; omega)).ch0 b7).ch b8 (nS om)).ch0 bL).ch0 ao).ch be (fun hm => by have s := b _ hm; have x := a _ hm; omega)).ch0 aS).ch bf (fun hm => by rcases n with ea | ea; (rw [ea] at hm; have s := b _ hm; have x := a _ hm; omega); (have y := h _ hm; rw [ea] at hm; have p := List.mem_singleton.1 hm; omega))).ch bO (fun hm => by rcases u with ea | ea; (rw [ea] at hm; rcases n with ea | ea; (rw [ea] at hm; have s := b _ hm; have x := a _ hm; omega); (have y := h _ hm; rw [ea] at hm; have p := List.mem_singleton.1 hm; omega)); (have y := o _ hm; rw [ea] at hm; have p := List.mem_singleton.1 hm; omega))).ch bP (nS om)
    refine Zk (off := 0) 2 e8 sz36 rfl (us := [(.slice F (gV).length G), (.slice H ((((gE.take k) ++ [e]) ++ (gE.drop k))).length I)]) rfl rfl rfl rfl fun c5 bh cL => ?_
    have gu := cL.size
    have E := E.step cL (lS om)
    replace bh : Blk c5 bM 36 [(.slice F (gV).length G), (.slice H ((((gE.take k) ++ [e]) ++ (gE.drop k))).length I)] := bh
    refine Za rfl rfl (Zf rfl) (Ze (Zb (e7 _ _ ?_)))
    refine Zv ?_
    have e9 := (((((((((am.ch0 b7).ch b8 (fun g hg hm => by have ab := List.mem_singleton.1 hm; rcases r with ea | ea; (rw [ea] at hg; have x := j _ hg; have S := c _ hg; omega); (have l := m _ hg; rw [ea] at hg; have p := List.mem_singleton.1 hg; omega))).ch0 bL).ch0 ao).ch be (fun g hg hm => by rcases r with ea | ea; (rw [ea] at hg; have s := b _ hm; have x := a _ hm; have S := j _ hg; have Z := c _ hg; omega); (have l := m _ hg; rw [ea] at hg; have p := List.mem_singleton.1 hg; have s := b _ hm; have x := a _ hm; omega))).ch0 aS).ch bf (fun g hg hm => by rcases n with ea | ea; (rw [ea] at hm; rcases r with ea | ea; (rw [ea] at hg; have s := b _ hm; have x := a _ hm; have S := j _ hg; have Z := c _ hg; omega); (have l := m _ hg; rw [ea] at hg; have p := List.mem_singleton.1 hg; have s := b _ hm; have x := a _ hm; omega)); (have y := h _ hm; rw [ea] at hm; have p := List.mem_singleton.1 hm; rcases r with ea | ea; (rw [ea] at hg; have S := j _ hg; have Z := c _ hg; omega); (have l := m _ hg; rw [ea] at hg; have p := List.mem_singleton.1 hg; omega)))).ch bO (fun g hg hm => by rcases u with ea | ea; (rw [ea] at hm; rcases n with ea | ea; (rw [ea] at hm; rcases r with ea | ea; (rw [ea] at hg; have s := b _ hm; have x := a _ hm; have S := j _ hg; have Z := c _ hg; omega); (have l := m _ hg; rw [ea] at hg; have p := List.mem_singleton.1 hg; have s := b _ hm; have x := a _ hm; omega)); (have y := h _ hm; rw [ea] at hm; have p := List.mem_singleton.1 hm; rcases r with ea | ea; (rw [ea] at hg; have S := j _ hg; have Z := c _ hg; omega); (have l := m _ hg; rw [ea] at hg; have p := List.mem_singleton.1 hg; omega))); (have y := o _ hm; rw [ea] at hm; have p := List.mem_singleton.1 hm; rcases r with ea | ea; (rw [ea] at hg; have S := j _ hg; have Z := c _ hg; omega); (have l := m _ hg; rw [ea] at hg; have p := List.mem_singleton.1 hg; omega)))).ch bP (fun g hg hm => by have ab := List.mem_singleton.1 hm; rcases r with ea | ea; (rw [ea] at hg; have x := j _ hg; have S := c _ hg; omega); (have l := m _ hg; rw [ea] at hg; have p := List.mem_singleton.1 hg; omega))).ch cL (fun g hg hm => by have ab := List.mem_singleton.1 hm; rcases r with ea | ea; (rw [ea] at hg; have x := j _ hg; have S := c _ hg; omega); (have l := m _ hg; rw [ea] at hg; have p := List.mem_singleton.1 hg; omega))
    have c6 : Ol ics 3 1 c5 (.slice F (gV).length G) (gV) := by
     have hx := e9
     first | exact hx | simpa using hx
    have fa := (ah.ch bP (fun g hg hm => by have ab := List.mem_singleton.1 hm; rcases R with ea | ea; (rw [ea] at hg; rcases u with ea | ea; (rw [ea] at hg; rcases n with ea | ea; (rw [ea] at hg; have x := b _ hg; have S := a _ hg; omega); (have l := h _ hg; rw [ea] at hg; have p := List.mem_singleton.1 hg; omega)); (have l := o _ hg; rw [ea] at hg; have p := List.mem_singleton.1 hg; omega)); (have l := J _ hg; rw [ea] at hg; have p := List.mem_singleton.1 hg; omega))).ch cL (fun g hg hm => by have ab := List.mem_singleton.1 hm; rcases R with ea | ea; (rw [ea] at hg; rcases u with ea | ea; (rw [ea] at hg; rcases n with ea | ea; (rw [ea] at hg; have x := b _ hg; have S := a _ hg; omega); (have l := h _ hg; rw [ea] at hg; have p := List.mem_singleton.1 hg; omega)); (have l := o _ hg; rw [ea] at hg; have p := List.mem_singleton.1 hg; omega)); (have l := J _ hg; rw [ea] at hg; have p := List.mem_singleton.1 hg; omega))
    have c7 : Ol GEdge.cs 129 4 c5 (.slice H ((((gE.take k) ++ [e]) ++ (gE.drop k))).length I) ((insR gV gE e).1) := by
     have hx := fa
     first | exact hx.eq (by rw [Xu (by first | exact fun q => M q.1 | exact fun q => Q q.2.1 | exact fun q => absurd q.2.2.1 om | exact fun q => q.2.2.2 om)]) | exact hx.eq (by rw [Xs ⟨M, Q, by omega, by omega⟩]; unfold insL; rw [(show insK gE e.id = k from (by first | exact Qp hp ae ad | exact Zao hp om om))])
    exact Zj [_, _] (Zn bh rfl agg36 sz36 ⟨rfl, trivial⟩) ⟨(.slice F (gV).length G), (.slice H ((((gE.take k) ++ [e]) ++ (gE.drop k))).length I), (congrArg (fun zq => (Value.tuple #[.agg #[(.slice F (gV).length G), (.slice H ((((gE.take k) ++ [e]) ++ (gE.drop k))).length I)], .bool zq])) (by first | rw [Xu (by first | exact fun q => M q.1 | exact fun q => Q q.2.1 | exact fun q => absurd q.2.2.1 om | exact fun q => q.2.2.2 om)] | rw [Xs ⟨M, Q, by omega, by omega⟩])), c6, (Lo.down aw om), c7, (Lo.down ai om), (fun g hm hg => by rcases r with ea | ea; (rw [ea] at hm; rcases R with ea | ea; (rw [ea] at hg; rcases u with ea | ea; (rw [ea] at hg; rcases n with ea | ea; (rw [ea] at hg; have s := j _ hm; have x := c _ hm; have S := b _ hg; have Z := a _ hg; omega); (have l := h _ hg; rw [ea] at hg; have p := List.mem_singleton.1 hg; have s := j _ hm; have x := c _ hm; omega)); (have l := o _ hg; rw [ea] at hg; have p := List.mem_singleton.1 hg; have s := j _ hm; have x := c _ hm; omega)); (have l := J _ hg; rw [ea] at hg; have p := List.mem_singleton.1 hg; have s := j _ hm; have x := c _ hm; omega)); (have y := m _ hm; rw [ea] at hm; have p := List.mem_singleton.1 hm; rcases R with ea | ea; (rw [ea] at hg; rcases u with ea | ea; (rw [ea] at hg; rcases n with ea | ea; (rw [ea] at hg; have S := b _ hg; have Z := a _ hg; omega); (have l := h _ hg; rw [ea] at hg; have p := List.mem_singleton.1 hg; omega)); (have l := o _ hg; rw [ea] at hg; have p := List.mem_singleton.1 hg; omega)); (have l := J _ hg; rw [ea] at hg; have p := List.mem_singleton.1 hg; omega))), E⟩
   refine Zr rfl rfl rfl ?_
   refine Zq (cs := GEdge.cs) (parts := [(0, .tmp 61)]) (⟨0, 0, 0, 0⟩ : GEdge) [e] el34 sz129 zr129 GEdge.len (by decide) rfl rfl rfl (by decide) (by decide) rfl fun cd fb af ak aF => ?_
   have gv := aF.size
   have E := E.trans aF
   obtain ⟨aT, aU, rfl, aV, ac⟩ := af.opn
   have ck : Ch [aa] aO fb := (bc.trans aF.of_nil)
   refine ⟨ck, ?_⟩
   refine dO 5 (Zr rfl rfl rfl ?_)
   have fc := an.ch0 aF
   have fd := (ax.ch0 ao).ch0 aF
   refine Yg (cs := GEdge.cs) el34 sz129 by129 zr129 rfl (by decide) GEdge.one fc fd rfl rfl bd bd b om fun az dW X T n a0 => ?_
   have gw := a0.size
   have E := E.step a0 (fun i hi => .inl (by have s := b _ hi; omega))
   replace X : Ol GEdge.cs 129 4 dW az (gE.take k) := X
   obtain ⟨aP, aQ, rfl, aR, h⟩ := X.opn
   have cl : Ch [aa] aO dW := (ck.step a0 (fun i hm => by left; have s := b _ hm; have x := a _ hm; omega))
   refine ⟨cl, ?_⟩
   refine dO 8 (Zr rfl rfl rfl ?_)
   have fe := af.ch a0 (fun g hg hm => by have s := b _ hm; have x := a _ hm; have S := ak _ hg; have Z := ac _ hg; omega)
   refine Yg (cs := GEdge.cs) el34 sz129 by129 zr129 rfl (by decide) GEdge.one X fe.ls rfl rfl bd bd T om fun cf ff ag Y u bi => ?_
   have gx := bi.size
   have E := E.step bi (fun i hi => .inl (by have s := T _ hi; omega))
   obtain ⟨aW, aX, rfl, aY, o⟩ := ag.opn
   have cm : Ch [aa] aO ff := (cl.step bi (fun i hm => by rcases n with ea | ea; (rw [ea] at hm; left; have s := b _ hm; have x := a _ hm; omega); (have y := h _ hm; rw [ea] at hm; have p := List.mem_singleton.1 hm; left; omega)))
   refine ⟨cm, ?_⟩
   refine dO 13 (Zr rfl rfl rfl ?_)
   have fg := (((ay.ch0 ao).ch0 aF).ch a0 (fun i hi => by have s := b _ hi; omega)).ch bi (fun i hi => by have s := T _ hi; omega)
   refine Yg (cs := GEdge.cs) el34 sz129 by129 zr129 rfl (by decide) GEdge.one ag fg rfl rfl bd bd Y om fun ci fh ah ai R bQ => ?_
   have gy := bQ.size
   have E := E.step bQ (fun i hi => .inl (by have s := Y _ hi; omega))
   obtain ⟨H, I, rfl, aZ, J⟩ := ah.opn
   have cn : Ch [aa] aO fh := (cm.step bQ (fun i hm => by rcases u with ea | ea; (rw [ea] at hm; rcases n with ea | ea; (rw [ea] at hm; left; have s := b _ hm; have x := a _ hm; omega); (have y := h _ hm; rw [ea] at hm; have p := List.mem_singleton.1 hm; left; omega)); (have y := o _ hm; rw [ea] at hm; have p := List.mem_singleton.1 hm; left; omega)))
   refine ⟨cn, ?_⟩
   refine dV 14 rfl rfl rfl (fun _ => Zd fa36_1 rfl) (dO 15 (Zr rfl rfl rfl ?_))
   have fi := (((((aN.ch0 bL).ch0 ao).ch0 aF).ch a0 (fun hm => by have s := b _ hm; have x := a _ hm; omega)).ch bi (fun hm => by rcases n with ea | ea; (rw [ea] at hm; have s := b _ hm; have x := a _ hm; omega); (have y := h _ hm; rw [ea] at hm; have p := List.mem_singleton.1 hm; omega))).ch bQ (fun hm => by rcases u with ea | ea; (rw [ea] at hm; rcases n with ea | ea; (rw [ea] at hm; have s := b _ hm; have x := a _ hm; omega); (have y := h _ hm; rw [ea] at hm; have p := List.mem_singleton.1 hm; omega)); (have y := o _ hm; rw [ea] at hm; have p := List.mem_singleton.1 hm; omega))
   refine Zy (off := 1) fi sz34 rfl rfl rfl rfl fun dX bj bR => ?_
   have gz := bR.size
   have E := E.step bR (lS om)
   replace bj : Blk dX aa 36 [(.slice F (gV).length G), (.slice H ((((gE.take k) ++ [e]) ++ (gE.drop k))).length I)] := bj
   have c8 : Ch [aa] aO dX := (cn.step bR (fun i hm => by have ab := List.mem_singleton.1 hm; exact .inr (by rw [ab]; exact (List.mem_singleton.2 rfl))))
   refine ⟨c8, ?_⟩
   refine Zw (by kernel_rfl) ?_
   refine Zb (eP _ _ ?_)
   refine Zh fun im fj => ?_
   refine Zc (Za rfl rfl (Zi bj.at_ agg36 sz36 rfl) (Zl rfl rfl ?_))
   have fk := (((((((((((aq.ch0 aM).ch0 cJ).ch cW (fun hm => by have s := j _ hm; have x := c _ hm; omega)).ch0 b7).ch b8 (nS om)).ch0 bL).ch0 ao).ch0 aF).ch a0 (fun hm => by have s := b _ hm; have x := a _ hm; omega)).ch bi (fun hm => by rcases n with ea | ea; (rw [ea] at hm; have s := b _ hm; have x := a _ hm; omega); (have y := h _ hm; rw [ea] at hm; have p := List.mem_singleton.1 hm; omega))).ch bQ (fun hm => by rcases u with ea | ea; (rw [ea] at hm; rcases n with ea | ea; (rw [ea] at hm; have s := b _ hm; have x := a _ hm; omega); (have y := h _ hm; rw [ea] at hm; have p := List.mem_singleton.1 hm; omega)); (have y := o _ hm; rw [ea] at hm; have p := List.mem_singleton.1 hm; omega))).ch bR (nS om)
   refine Zk (off := 0) 2 fk sz36 rfl (us := [(.slice F (gV).length G), (.slice H ((((gE.take k) ++ [e]) ++ (gE.drop k))).length I)]) rfl rfl rfl rfl fun c9 bk cM => ?_
   have gA := cM.size
   have E := E.step cM (lS om)
   replace bk : Blk c9 bM 36 [(.slice F (gV).length G), (.slice H ((((gE.take k) ++ [e]) ++ (gE.drop k))).length I)] := bk
   refine Za rfl rfl (Zf rfl) (Ze (Zb (fj _ _ ?_)))
   refine Zv ?_
   have fl := (((((((((am.ch0 b7).ch b8 (fun g hg hm => by have ab := List.mem_singleton.1 hm; rcases r with ea | ea; (rw [ea] at hg; have x := j _ hg; have S := c _ hg; omega); (have l := m _ hg; rw [ea] at hg; have p := List.mem_singleton.1 hg; omega))).ch0 bL).ch0 ao).ch0 aF).ch a0 (fun g hg hm => by rcases r with ea | ea; (rw [ea] at hg; have s := b _ hm; have x := a _ hm; have S := j _ hg; have Z := c _ hg; omega); (have l := m _ hg; rw [ea] at hg; have p := List.mem_singleton.1 hg; have s := b _ hm; have x := a _ hm; omega))).ch bi (fun g hg hm => by rcases n with ea | ea; (rw [ea] at hm; rcases r with ea | ea; (rw [ea] at hg; have s := b _ hm; have x := a _ hm; have S := j _ hg; have Z := c _ hg; omega); (have l := m _ hg; rw [ea] at hg; have p := List.mem_singleton.1 hg; have s := b _ hm; have x := a _ hm; omega)); (have y := h _ hm; rw [ea] at hm; have p := List.mem_singleton.1 hm; rcases r with ea | ea; (rw [ea] at hg; have S := j _ hg; have Z := c _ hg; omega); (have l := m _ hg; rw [ea] at hg; have p := List.mem_singleton.1 hg; omega)))).ch bQ (fun g hg hm => by rcases u with ea | ea; (rw [ea] at hm; rcases n with ea | ea; (rw [ea] at hm; rcases r with ea | ea; (rw [ea] at hg; have s := b _ hm; have x := a _ hm; have S := j _ hg; have Z := c _ hg; omega); (have l := m _ hg; rw [ea] at hg; have p := List.mem_singleton.1 hg; have s := b _ hm; have x := a _ hm; omega)); (have y := h _ hm; rw [ea] at hm; have p := List.mem_singleton.1 hm; rcases r with ea | ea; (rw [ea] at hg; have S := j _ hg; have Z := c _ hg; omega); (have l := m _ hg; rw [ea] at hg; have p := List.mem_singleton.1 hg; omega))); (have y := o _ hm; rw [ea] at hm; have p := List.mem_singleton.1 hm; rcases r with ea | ea; (rw [ea] at hg; have S := j _ hg; have Z := c _ hg; omega); (have l := m _ hg; rw [ea] at hg; have p := List.mem_singleton.1 hg; omega)))).ch bR (fun g hg hm => by have ab := List.mem_singleton.1 hm; rcases r with ea | ea; (rw [ea] at hg; have x := j _ hg; have S := c _ hg; omega); (have l := m _ hg; rw [ea] at hg; have p := List.mem_singleton.1 hg; omega))).ch cM (fun g hg hm => by have ab := List.mem_singleton.1 hm; rcases r with ea | ea; (rw [ea] at hg; have x := j _ hg; have S := c _ hg; omega); (have l := m _ hg; rw [ea] at hg; have p := List.mem_singleton.1 hg; omega))
   have da : Ol ics 3 1 c9 (.slice F (gV).length G) (gV) := by
    have hx := fl
    first | exact hx | simpa using hx
   have fm := (ah.ch bR (fun g hg hm => by have ab := List.mem_singleton.1 hm; rcases R with ea | ea; (rw [ea] at hg; rcases u with ea | ea; (rw [ea] at hg; rcases n with ea | ea; (rw [ea] at hg; have x := b _ hg; have S := a _ hg; omega); (have l := h _ hg; rw [ea] at hg; have p := List.mem_singleton.1 hg; omega)); (have l := o _ hg; rw [ea] at hg; have p := List.mem_singleton.1 hg; omega)); (have l := J _ hg; rw [ea] at hg; have p := List.mem_singleton.1 hg; omega))).ch cM (fun g hg hm => by have ab := List.mem_singleton.1 hm; rcases R with ea | ea; (rw [ea] at hg; rcases u with ea | ea; (rw [ea] at hg; rcases n with ea | ea; (rw [ea] at hg; have x := b _ hg; have S := a _ hg; omega); (have l := h _ hg; rw [ea] at hg; have p := List.mem_singleton.1 hg; omega)); (have l := o _ hg; rw [ea] at hg; have p := List.mem_singleton.1 hg; omega)); (have l := J _ hg; rw [ea] at hg; have p := List.mem_singleton.1 hg; omega))
   have db : Ol GEdge.cs 129 4 c9 (.slice H ((((gE.take k) ++ [e]) ++ (gE.drop k))).length I) ((insR gV gE e).1) := by
    have hx := fm
    first | exact hx.eq (by rw [Xu (by first | exact fun q => M q.1 | exact fun q => Q q.2.1 | exact fun q => absurd q.2.2.1 om | exact fun q => q.2.2.2 om)]) | exact hx.eq (by rw [Xs ⟨M, Q, by omega, by omega⟩]; unfold insL; rw [(show insK gE e.id = k from (by first | exact Qp hp ae ad | exact Zao hp om om))])
   exact Zj [_, _] (Zn bk rfl agg36 sz36 ⟨rfl, trivial⟩) ⟨(.slice F (gV).length G), (.slice H ((((gE.take k) ++ [e]) ++ (gE.drop k))).length I), (congrArg (fun zq => (Value.tuple #[.agg #[(.slice F (gV).length G), (.slice H ((((gE.take k) ++ [e]) ++ (gE.drop k))).length I)], .bool zq])) (by first | rw [Xu (by first | exact fun q => M q.1 | exact fun q => Q q.2.1 | exact fun q => absurd q.2.2.1 om | exact fun q => q.2.2.2 om)] | rw [Xs ⟨M, Q, by omega, by omega⟩])), da, (Lo.down aw om), db, (Lo.down ai om), (fun g hm hg => by rcases r with ea | ea; (rw [ea] at hm; rcases R with ea | ea; (rw [ea] at hg; rcases u with ea | ea; (rw [ea] at hg; rcases n with ea | ea; (rw [ea] at hg; have s := j _ hm; have x := c _ hm; have S := b _ hg; have Z := a _ hg; omega); (have l := h _ hg; rw [ea] at hg; have p := List.mem_singleton.1 hg; have s := j _ hm; have x := c _ hm; omega)); (have l := o _ hg; rw [ea] at hg; have p := List.mem_singleton.1 hg; have s := j _ hm; have x := c _ hm; omega)); (have l := J _ hg; rw [ea] at hg; have p := List.mem_singleton.1 hg; have s := j _ hm; have x := c _ hm; omega)); (have y := m _ hm; rw [ea] at hm; have p := List.mem_singleton.1 hm; rcases R with ea | ea; (rw [ea] at hg; rcases u with ea | ea; (rw [ea] at hg; rcases n with ea | ea; (rw [ea] at hg; have S := b _ hg; have Z := a _ hg; omega); (have l := h _ hg; rw [ea] at hg; have p := List.mem_singleton.1 hg; omega)); (have l := o _ hg; rw [ea] at hg; have p := List.mem_singleton.1 hg; omega)); (have l := J _ hg; rw [ea] at hg; have p := List.mem_singleton.1 hg; omega))), E⟩
  refine Zr rfl rfl rfl ?_
  refine Zq (cs := GEdge.cs) (parts := [(0, .tmp 61)]) (⟨0, 0, 0, 0⟩ : GEdge) [e] el34 sz129 zr129 GEdge.len (by decide) rfl rfl rfl (by decide) (by decide) rfl fun cd fn af ak a1 => ?_
  have gB := a1.size
  have E := E.trans a1
  obtain ⟨aT, aU, rfl, aV, ac⟩ := af.opn
  have co : Ch [aa] aO fn := ((Ch.refl _ _).trans a1.of_nil)
  refine ⟨co, ?_⟩
  refine dO 0 (Zr rfl rfl rfl ?_)
  refine Xb (k := 4) GEdge.cs el34 sz129 fun c3 fo an b aG => ?_
  have gC := aG.size
  have E := E.trans aG
  obtain ⟨b9, ca, rfl, cb, a⟩ := an.opn
  have cp : Ch [aa] aO fo := (co.trans aG.of_nil)
  refine ⟨cp, ?_⟩
  refine dO 5 (Zr rfl rfl rfl ?_)
  have fp := (ax.ch0 a1).ch0 aG
  refine Yg (cs := GEdge.cs) el34 sz129 by129 zr129 rfl (by decide) GEdge.one an fp rfl rfl bd bd b om fun az dY X T n a2 => ?_
  have gD := a2.size
  have E := E.step a2 (fun i hi => .inl (by have s := b _ hi; omega))
  replace X : Ol GEdge.cs 129 4 dY az (gE.take k) := X
  obtain ⟨aP, aQ, rfl, aR, h⟩ := X.opn
  have cq : Ch [aa] aO dY := (cp.step a2 (fun i hm => by left; have s := b _ hm; have x := a _ hm; omega))
  refine ⟨cq, ?_⟩
  refine dO 8 (Zr rfl rfl rfl ?_)
  have fq := (af.ch0 aG).ch a2 (fun g hg hm => by have s := b _ hm; have x := a _ hm; have S := ak _ hg; have Z := ac _ hg; omega)
  refine Yg (cs := GEdge.cs) el34 sz129 by129 zr129 rfl (by decide) GEdge.one X fq.ls rfl rfl bd bd T om fun cf fr ag Y u bm => ?_
  have gF := bm.size
  have E := E.step bm (fun i hi => .inl (by have s := T _ hi; omega))
  obtain ⟨aW, aX, rfl, aY, o⟩ := ag.opn
  have cr : Ch [aa] aO fr := (cq.step bm (fun i hm => by rcases n with ea | ea; (rw [ea] at hm; left; have s := b _ hm; have x := a _ hm; omega); (have y := h _ hm; rw [ea] at hm; have p := List.mem_singleton.1 hm; left; omega)))
  refine ⟨cr, ?_⟩
  refine dO 13 (Zr rfl rfl rfl ?_)
  have fs := (((ay.ch0 a1).ch0 aG).ch a2 (fun i hi => by have s := b _ hi; omega)).ch bm (fun i hi => by have s := T _ hi; omega)
  refine Yg (cs := GEdge.cs) el34 sz129 by129 zr129 rfl (by decide) GEdge.one ag fs rfl rfl bd bd Y om fun ci ft ah ai R bS => ?_
  have gG := bS.size
  have E := E.step bS (fun i hi => .inl (by have s := Y _ hi; omega))
  obtain ⟨H, I, rfl, aZ, J⟩ := ah.opn
  have ct : Ch [aa] aO ft := (cr.step bS (fun i hm => by rcases u with ea | ea; (rw [ea] at hm; rcases n with ea | ea; (rw [ea] at hm; left; have s := b _ hm; have x := a _ hm; omega); (have y := h _ hm; rw [ea] at hm; have p := List.mem_singleton.1 hm; left; omega)); (have y := o _ hm; rw [ea] at hm; have p := List.mem_singleton.1 hm; left; omega)))
  refine ⟨ct, ?_⟩
  refine dV 14 rfl rfl rfl (fun _ => Zd fa36_1 rfl) (dO 15 (Zr rfl rfl rfl ?_))
  have fu := (((((aN.ch0 bL).ch0 a1).ch0 aG).ch a2 (fun hm => by have s := b _ hm; have x := a _ hm; omega)).ch bm (fun hm => by rcases n with ea | ea; (rw [ea] at hm; have s := b _ hm; have x := a _ hm; omega); (have y := h _ hm; rw [ea] at hm; have p := List.mem_singleton.1 hm; omega))).ch bS (fun hm => by rcases u with ea | ea; (rw [ea] at hm; rcases n with ea | ea; (rw [ea] at hm; have s := b _ hm; have x := a _ hm; omega); (have y := h _ hm; rw [ea] at hm; have p := List.mem_singleton.1 hm; omega)); (have y := o _ hm; rw [ea] at hm; have p := List.mem_singleton.1 hm; omega))
  refine Zy (off := 1) fu sz34 rfl rfl rfl rfl fun dZ bn bT => ?_
  have gH := bT.size
  have E := E.step bT (lS om)
  replace bn : Blk dZ aa 36 [(.slice F (gV).length G), (.slice H ((((gE.take k) ++ [e]) ++ (gE.drop k))).length I)] := bn
  have dc : Ch [aa] aO dZ := (ct.step bT (fun i hm => by have ab := List.mem_singleton.1 hm; exact .inr (by rw [ab]; exact (List.mem_singleton.2 rfl))))
  refine ⟨dc, ?_⟩
  refine Zw (by kernel_rfl) ?_
  refine Zb (eP _ _ ?_)
  refine Zh fun io fv => ?_
  refine Zc (Za rfl rfl (Zi bn.at_ agg36 sz36 rfl) (Zl rfl rfl ?_))
  have fw := (((((((((((aq.ch0 aM).ch0 cJ).ch cW (fun hm => by have s := j _ hm; have x := c _ hm; omega)).ch0 b7).ch b8 (nS om)).ch0 bL).ch0 a1).ch0 aG).ch a2 (fun hm => by have s := b _ hm; have x := a _ hm; omega)).ch bm (fun hm => by rcases n with ea | ea; (rw [ea] at hm; have s := b _ hm; have x := a _ hm; omega); (have y := h _ hm; rw [ea] at hm; have p := List.mem_singleton.1 hm; omega))).ch bS (fun hm => by rcases u with ea | ea; (rw [ea] at hm; rcases n with ea | ea; (rw [ea] at hm; have s := b _ hm; have x := a _ hm; omega); (have y := h _ hm; rw [ea] at hm; have p := List.mem_singleton.1 hm; omega)); (have y := o _ hm; rw [ea] at hm; have p := List.mem_singleton.1 hm; omega))).ch bT (nS om)
  refine Zk (off := 0) 2 fw sz36 rfl (us := [(.slice F (gV).length G), (.slice H ((((gE.take k) ++ [e]) ++ (gE.drop k))).length I)]) rfl rfl rfl rfl fun dd bp cN => ?_
  have gI := cN.size
  have E := E.step cN (lS om)
  replace bp : Blk dd bM 36 [(.slice F (gV).length G), (.slice H ((((gE.take k) ++ [e]) ++ (gE.drop k))).length I)] := bp
  refine Za rfl rfl (Zf rfl) (Ze (Zb (fv _ _ ?_)))
  refine Zv ?_
  have fx := (((((((((am.ch0 b7).ch b8 (fun g hg hm => by have ab := List.mem_singleton.1 hm; rcases r with ea | ea; (rw [ea] at hg; have x := j _ hg; have S := c _ hg; omega); (have l := m _ hg; rw [ea] at hg; have p := List.mem_singleton.1 hg; omega))).ch0 bL).ch0 a1).ch0 aG).ch a2 (fun g hg hm => by rcases r with ea | ea; (rw [ea] at hg; have s := b _ hm; have x := a _ hm; have S := j _ hg; have Z := c _ hg; omega); (have l := m _ hg; rw [ea] at hg; have p := List.mem_singleton.1 hg; have s := b _ hm; have x := a _ hm; omega))).ch bm (fun g hg hm => by rcases n with ea | ea; (rw [ea] at hm; rcases r with ea | ea; (rw [ea] at hg; have s := b _ hm; have x := a _ hm; have S := j _ hg; have Z := c _ hg; omega); (have l := m _ hg; rw [ea] at hg; have p := List.mem_singleton.1 hg; have s := b _ hm; have x := a _ hm; omega)); (have y := h _ hm; rw [ea] at hm; have p := List.mem_singleton.1 hm; rcases r with ea | ea; (rw [ea] at hg; have S := j _ hg; have Z := c _ hg; omega); (have l := m _ hg; rw [ea] at hg; have p := List.mem_singleton.1 hg; omega)))).ch bS (fun g hg hm => by rcases u with ea | ea; (rw [ea] at hm; rcases n with ea | ea; (rw [ea] at hm; rcases r with ea | ea; (rw [ea] at hg; have s := b _ hm; have x := a _ hm; have S := j _ hg; have Z := c _ hg; omega); (have l := m _ hg; rw [ea] at hg; have p := List.mem_singleton.1 hg; have s := b _ hm; have x := a _ hm; omega)); (have y := h _ hm; rw [ea] at hm; have p := List.mem_singleton.1 hm; rcases r with ea | ea; (rw [ea] at hg; have S := j _ hg; have Z := c _ hg; omega); (have l := m _ hg; rw [ea] at hg; have p := List.mem_singleton.1 hg; omega))); (have y := o _ hm; rw [ea] at hm; have p := List.mem_singleton.1 hm; rcases r with ea | ea; (rw [ea] at hg; have S := j _ hg; have Z := c _ hg; omega); (have l := m _ hg; rw [ea] at hg; have p := List.mem_singleton.1 hg; omega)))).ch bT (fun g hg hm => by have ab := List.mem_singleton.1 hm; rcases r with ea | ea; (rw [ea] at hg; have x := j _ hg; have S := c _ hg; omega); (have l := m _ hg; rw [ea] at hg; have p := List.mem_singleton.1 hg; omega))).ch cN (fun g hg hm => by have ab := List.mem_singleton.1 hm; rcases r with ea | ea; (rw [ea] at hg; have x := j _ hg; have S := c _ hg; omega); (have l := m _ hg; rw [ea] at hg; have p := List.mem_singleton.1 hg; omega))
  have de : Ol ics 3 1 dd (.slice F (gV).length G) (gV) := by
   have hx := fx
   first | exact hx | simpa using hx
  have fy := (ah.ch bT (fun g hg hm => by have ab := List.mem_singleton.1 hm; rcases R with ea | ea; (rw [ea] at hg; rcases u with ea | ea; (rw [ea] at hg; rcases n with ea | ea; (rw [ea] at hg; have x := b _ hg; have S := a _ hg; omega); (have l := h _ hg; rw [ea] at hg; have p := List.mem_singleton.1 hg; omega)); (have l := o _ hg; rw [ea] at hg; have p := List.mem_singleton.1 hg; omega)); (have l := J _ hg; rw [ea] at hg; have p := List.mem_singleton.1 hg; omega))).ch cN (fun g hg hm => by have ab := List.mem_singleton.1 hm; rcases R with ea | ea; (rw [ea] at hg; rcases u with ea | ea; (rw [ea] at hg; rcases n with ea | ea; (rw [ea] at hg; have x := b _ hg; have S := a _ hg; omega); (have l := h _ hg; rw [ea] at hg; have p := List.mem_singleton.1 hg; omega)); (have l := o _ hg; rw [ea] at hg; have p := List.mem_singleton.1 hg; omega)); (have l := J _ hg; rw [ea] at hg; have p := List.mem_singleton.1 hg; omega))
  have df : Ol GEdge.cs 129 4 dd (.slice H ((((gE.take k) ++ [e]) ++ (gE.drop k))).length I) ((insR gV gE e).1) := by
   have hx := fy
   first | exact hx.eq (by rw [Xu (by first | exact fun q => M q.1 | exact fun q => Q q.2.1 | exact fun q => absurd q.2.2.1 om | exact fun q => q.2.2.2 om)]) | exact hx.eq (by rw [Xs ⟨M, Q, by omega, by omega⟩]; unfold insL; rw [(show insK gE e.id = k from (by first | exact Qp hp ae ad | exact Zao hp om om))])
  exact Zj [_, _] (Zn bp rfl agg36 sz36 ⟨rfl, trivial⟩) ⟨(.slice F (gV).length G), (.slice H ((((gE.take k) ++ [e]) ++ (gE.drop k))).length I), (congrArg (fun zq => (Value.tuple #[.agg #[(.slice F (gV).length G), (.slice H ((((gE.take k) ++ [e]) ++ (gE.drop k))).length I)], .bool zq])) (by first | rw [Xu (by first | exact fun q => M q.1 | exact fun q => Q q.2.1 | exact fun q => absurd q.2.2.1 om | exact fun q => q.2.2.2 om)] | rw [Xs ⟨M, Q, by omega, by omega⟩])), de, (Lo.down aw om), df, (Lo.down ai om), (fun g hm hg => by rcases r with ea | ea; (rw [ea] at hm; rcases R with ea | ea; (rw [ea] at hg; rcases u with ea | ea; (rw [ea] at hg; rcases n with ea | ea; (rw [ea] at hg; have s := j _ hm; have x := c _ hm; have S := b _ hg; have Z := a _ hg; omega); (have l := h _ hg; rw [ea] at hg; have p := List.mem_singleton.1 hg; have s := j _ hm; have x := c _ hm; omega)); (have l := o _ hg; rw [ea] at hg; have p := List.mem_singleton.1 hg; have s := j _ hm; have x := c _ hm; omega)); (have l := J _ hg; rw [ea] at hg; have p := List.mem_singleton.1 hg; have s := j _ hm; have x := c _ hm; omega)); (have y := m _ hm; rw [ea] at hm; have p := List.mem_singleton.1 hm; rcases R with ea | ea; (rw [ea] at hg; rcases u with ea | ea; (rw [ea] at hg; rcases n with ea | ea; (rw [ea] at hg; have S := b _ hg; have Z := a _ hg; omega); (have l := h _ hg; rw [ea] at hg; have p := List.mem_singleton.1 hg; omega)); (have l := o _ hg; rw [ea] at hg; have p := List.mem_singleton.1 hg; omega)); (have l := J _ hg; rw [ea] at hg; have p := List.mem_singleton.1 hg; omega))), E⟩
 have eJ := bb
 have bb := Yu bb
 refine dK 6 rfl rfl rfl (dK 7 rfl rfl rfl (dK 8 rfl rfl rfl (dK 9 rfl rfl rfl (dK 10 rfl rfl rfl (dK 11 rfl rfl rfl (dK 12 rfl rfl rfl (dK 13 rfl rfl rfl ?_)))))))
 refine dK 14 rfl rfl rfl (dV 15 rfl rfl rfl (fun _ => Yl rfl rfl) ?_)
 refine Zw (by kernel_rfl) ?_
 refine Zb (gl _ _ ?_)
 refine Zck rfl ?_
 refine Xx (Yh (Yh (Xg ?_)))
 refine Zb (gj _ _ ?_)
 refine Zh fun ip fz => ?_
 refine Zc (Zl rfl rfl ?_)
 refine Xb (k := 1) ics el22 sz3 fun eO iq b6 j aH => ?_
 have gJ := aH.size
 have E := E.trans aH
 obtain ⟨dF, dG, rfl, dH, c⟩ := b6.opn
 refine Za rfl rfl (Zd fa36_0 rfl) ?_
 have d0 := dE.ch0 aH
 refine Za rfl rfl (Zp d0.at_ agg22 rfl rfl) (Zl rfl rfl ?_)
 have fA := (b4.ch0 aM).ch0 aH
 refine Yg (cs := ics) el22 sz3 by3 zr3 rfl (by decide) Zca b6 fA rfl rfl bd bd j om fun c0 fB am aw r a3 => ?_
 have gK := a3.size
 have E := E.step a3 (fun i hi => .inl (by have s := j _ hi; omega))
 replace am : Ol ics 3 1 fB c0 gV := am
 obtain ⟨F, G, rfl, dI, m⟩ := am.opn
 refine Za rfl rfl (Ys (parts := [(0, .tmp 53)]) (cells := [(.slice F (gV).length G), (.slice none 0 0)]) zr36 pl36 rfl rfl) (Zl rfl rfl ?_)
 refine Yd zr36 fun aa fC cK aA ie => ?_
 have gL := aA.size
 have E := E.trans aA
 have ih := cK.lt
 replace cK : Blk fC aa 36 [(.slice none 0 0), (.slice none 0 0)] := cK
 refine Zl rfl rfl ?_
 refine Zk (off := 0) 2 cK sz36 rfl (us := [(.slice F (gV).length G), (.slice none 0 0)]) rfl rfl rfl rfl fun fD aB aC => ?_
 have gM := aC.size
 have E := E.step aC (lS om)
 replace aB : Blk fD aa 36 [(.slice F (gV).length G), (.slice none 0 0)] := aB
 refine Ze (Zb (fz _ _ ?_))
 refine Zh fun ir dg => ?_
 refine Yv [aa] 16 mixed rfl fun aj al => ?_
 have gN := al.size
 have E := E.trans al
 refine dV 1 rfl rfl rfl (fun _ => Zd fa36_1 rfl) ?_
 have d1 := (((d0.ch a3 (fun hm => by have s := j _ hm; have x := c _ hm; omega)).ch0 aA).ch aC (nS om)).ch0 al
 refine dT 2 rfl rfl rfl (Yi d1.at_ (oS om) agg34 rfl rfl ?_)
 refine dV 3 rfl rfl rfl (fun _ => Zg rfl) ?_
 have d2 := (((((cV.ch0 aM).ch0 aH).ch a3 (fun i hi => by have s := j _ hi; omega)).ch0 aA).ch aC (oS om)).ch0 al
 refine dT 4 rfl rfl rfl (Zht (ys := (gE.take k)) 0 k d2 GEdge.len el34 sz129 rfl rfl ⟨_, _, rfl, by omega⟩ om om rfl fun eQ ax dM dN => ?_)
 obtain ⟨eR, eS, c1⟩ := ax.val
 subst c1
 have eT := ax.len
 have fE := (((((b5.ch0 aM).ch0 aH).ch a3 (fun hm => by have s := j _ hm; have x := c _ hm; omega)).ch0 aA).ch aC (nS om)).ch0 al
 refine dT 6 rfl rfl rfl (Ye fE.at_ (oS om) agg129 sz129 rfl ?_)
 refine dV 9 rfl rfl rfl (fun _ => Zd fa36_1 rfl) ?_
 refine dT 10 rfl rfl rfl (Yi d1.at_ (oS om) agg34 rfl rfl ?_)
 refine dV 11 rfl rfl rfl (fun _ => Zg rfl) ?_
 refine dT 12 rfl rfl rfl (Zht (ys := (gE.drop k)) k gE.length d2 GEdge.len el34 sz129 rfl ⟨_, _, rfl, by omega⟩ rfl om om (Zcb _ _) fun eV ay dP dQ => ?_)
 obtain ⟨eW, eX, c2⟩ := ay.val
 subst c2
 have eY := ay.len
 refine Xd 0 7 (by kernel_rfl) ?_ ?_
 ·refine Zr rfl rfl rfl ?_
  refine Xb (k := 4) GEdge.cs el34 sz129 fun c3 fF an b ap => ?_
  have gO := ap.size
  have E := E.trans ap
  obtain ⟨b9, ca, rfl, cb, a⟩ := an.opn
  have bq : Ch [aa] aj fF := ((Ch.refl _ _).trans ap.of_nil)
  refine ⟨bq, ?_⟩
  refine Xd 5 7 (by kernel_rfl) ?_ ?_
  ·refine Zr rfl rfl rfl ?_
   have fG := ax.ch0 ap
   refine Yg (cs := GEdge.cs) el34 sz129 by129 zr129 rfl (by decide) GEdge.one an fG rfl rfl bd bd b om fun az d3 X T n br => ?_
   have gP := br.size
   have E := E.step br (fun i hi => .inl (by have s := b _ hi; omega))
   replace X : Ol GEdge.cs 129 4 d3 az (gE.take k) := X
   obtain ⟨aP, aQ, rfl, aR, h⟩ := X.opn
   have cu : Ch [aa] aj d3 := (bq.step br (fun i hm => by left; have s := b _ hm; have x := a _ hm; omega))
   refine ⟨cu, ?_⟩
   refine dO 7 (Zr rfl rfl rfl ?_)
   refine Zq (cs := GEdge.cs) (parts := [(0, .tmp 61)]) (⟨0, 0, 0, 0⟩ : GEdge) [e] el34 sz129 zr129 GEdge.len (by decide) rfl rfl rfl (by decide) (by decide) rfl fun cd fH af ak a4 => ?_
   have gQ := a4.size
   have E := E.trans a4
   obtain ⟨aT, aU, rfl, aV, ac⟩ := af.opn
   have cv : Ch [aa] aj fH := (cu.trans a4.of_nil)
   refine ⟨cv, ?_⟩
   refine dO 8 (Zr rfl rfl rfl ?_)
   have fI := X.ch0 a4
   refine Yg (cs := GEdge.cs) el34 sz129 by129 zr129 rfl (by decide) GEdge.one fI af.ls rfl rfl bd bd T om fun cf fJ ag Y u bs => ?_
   have gR := bs.size
   have E := E.step bs (fun i hi => .inl (by have s := T _ hi; omega))
   obtain ⟨aW, aX, rfl, aY, o⟩ := ag.opn
   have cw : Ch [aa] aj fJ := (cv.step bs (fun i hm => by rcases n with ea | ea; (rw [ea] at hm; left; have s := b _ hm; have x := a _ hm; omega); (have y := h _ hm; rw [ea] at hm; have p := List.mem_singleton.1 hm; left; omega)))
   refine ⟨cw, ?_⟩
   refine dO 13 (Zr rfl rfl rfl ?_)
   have fK := (((ay.ch0 ap).ch br (fun i hi => by have s := b _ hi; omega)).ch0 a4).ch bs (fun i hi => by have s := T _ hi; omega)
   refine Yg (cs := GEdge.cs) el34 sz129 by129 zr129 rfl (by decide) GEdge.one ag fK rfl rfl bd bd Y om fun ci fL ah ai R bU => ?_
   have gS := bU.size
   have E := E.step bU (fun i hi => .inl (by have s := Y _ hi; omega))
   obtain ⟨H, I, rfl, aZ, J⟩ := ah.opn
   have cx : Ch [aa] aj fL := (cw.step bU (fun i hm => by rcases u with ea | ea; (rw [ea] at hm; rcases n with ea | ea; (rw [ea] at hm; left; have s := b _ hm; have x := a _ hm; omega); (have y := h _ hm; rw [ea] at hm; have p := List.mem_singleton.1 hm; left; omega)); (have y := o _ hm; rw [ea] at hm; have p := List.mem_singleton.1 hm; left; omega)))
   refine ⟨cx, ?_⟩
   refine dV 14 rfl rfl rfl (fun _ => Zd fa36_1 rfl) (dO 15 (Zr rfl rfl rfl ?_))
   have fM := (((((aB.ch0 al).ch0 ap).ch br (fun hm => by have s := b _ hm; have x := a _ hm; omega)).ch0 a4).ch bs (fun hm => by rcases n with ea | ea; (rw [ea] at hm; have s := b _ hm; have x := a _ hm; omega); (have y := h _ hm; rw [ea] at hm; have p := List.mem_singleton.1 hm; omega))).ch bU (fun hm => by rcases u with ea | ea; (rw [ea] at hm; rcases n with ea | ea; (rw [ea] at hm; have s := b _ hm; have x := a _ hm; omega); (have y := h _ hm; rw [ea] at hm; have p := List.mem_singleton.1 hm; omega)); (have y := o _ hm; rw [ea] at hm; have p := List.mem_singleton.1 hm; omega))
   refine Zy (off := 1) fM sz34 rfl rfl rfl rfl fun d4 bu bV => ?_
   have gT := bV.size
   have E := E.step bV (lS om)
   replace bu : Blk d4 aa 36 [(.slice F (gV).length G), (.slice H ((((gE.take k) ++ [e]) ++ (gE.drop k))).length I)] := bu
   have dh : Ch [aa] aj d4 := (cx.step bV (fun i hm => by have ab := List.mem_singleton.1 hm; exact .inr (by rw [ab]; exact (List.mem_singleton.2 rfl))))
   refine ⟨dh, ?_⟩
   refine Zw (by kernel_rfl) ?_
   refine Zb (dg _ _ ?_)
   refine Zh fun it fN => ?_
   refine Zc (Za rfl rfl (Zi bu.at_ agg36 sz36 rfl) (Zl rfl rfl ?_))
   have fO := (((((((((((aq.ch0 aM).ch0 aH).ch a3 (fun hm => by have s := j _ hm; have x := c _ hm; omega)).ch0 aA).ch aC (nS om)).ch0 al).ch0 ap).ch br (fun hm => by have s := b _ hm; have x := a _ hm; omega)).ch0 a4).ch bs (fun hm => by rcases n with ea | ea; (rw [ea] at hm; have s := b _ hm; have x := a _ hm; omega); (have y := h _ hm; rw [ea] at hm; have p := List.mem_singleton.1 hm; omega))).ch bU (fun hm => by rcases u with ea | ea; (rw [ea] at hm; rcases n with ea | ea; (rw [ea] at hm; have s := b _ hm; have x := a _ hm; omega); (have y := h _ hm; rw [ea] at hm; have p := List.mem_singleton.1 hm; omega)); (have y := o _ hm; rw [ea] at hm; have p := List.mem_singleton.1 hm; omega))).ch bV (nS om)
   refine Zk (off := 0) 2 fO sz36 rfl (us := [(.slice F (gV).length G), (.slice H ((((gE.take k) ++ [e]) ++ (gE.drop k))).length I)]) rfl rfl rfl rfl fun di bv cO => ?_
   have gU := cO.size
   have E := E.step cO (lS om)
   replace bv : Blk di bM 36 [(.slice F (gV).length G), (.slice H ((((gE.take k) ++ [e]) ++ (gE.drop k))).length I)] := bv
   refine Za rfl rfl (Zf rfl) (Ze (Zb (fN _ _ ?_)))
   refine Zv ?_
   have fP := (((((((((am.ch0 aA).ch aC (fun g hg hm => by have ab := List.mem_singleton.1 hm; rcases r with ea | ea; (rw [ea] at hg; have x := j _ hg; have S := c _ hg; omega); (have l := m _ hg; rw [ea] at hg; have p := List.mem_singleton.1 hg; omega))).ch0 al).ch0 ap).ch br (fun g hg hm => by rcases r with ea | ea; (rw [ea] at hg; have s := b _ hm; have x := a _ hm; have S := j _ hg; have Z := c _ hg; omega); (have l := m _ hg; rw [ea] at hg; have p := List.mem_singleton.1 hg; have s := b _ hm; have x := a _ hm; omega))).ch0 a4).ch bs (fun g hg hm => by rcases n with ea | ea; (rw [ea] at hm; rcases r with ea | ea; (rw [ea] at hg; have s := b _ hm; have x := a _ hm; have S := j _ hg; have Z := c _ hg; omega); (have l := m _ hg; rw [ea] at hg; have p := List.mem_singleton.1 hg; have s := b _ hm; have x := a _ hm; omega)); (have y := h _ hm; rw [ea] at hm; have p := List.mem_singleton.1 hm; rcases r with ea | ea; (rw [ea] at hg; have S := j _ hg; have Z := c _ hg; omega); (have l := m _ hg; rw [ea] at hg; have p := List.mem_singleton.1 hg; omega)))).ch bU (fun g hg hm => by rcases u with ea | ea; (rw [ea] at hm; rcases n with ea | ea; (rw [ea] at hm; rcases r with ea | ea; (rw [ea] at hg; have s := b _ hm; have x := a _ hm; have S := j _ hg; have Z := c _ hg; omega); (have l := m _ hg; rw [ea] at hg; have p := List.mem_singleton.1 hg; have s := b _ hm; have x := a _ hm; omega)); (have y := h _ hm; rw [ea] at hm; have p := List.mem_singleton.1 hm; rcases r with ea | ea; (rw [ea] at hg; have S := j _ hg; have Z := c _ hg; omega); (have l := m _ hg; rw [ea] at hg; have p := List.mem_singleton.1 hg; omega))); (have y := o _ hm; rw [ea] at hm; have p := List.mem_singleton.1 hm; rcases r with ea | ea; (rw [ea] at hg; have S := j _ hg; have Z := c _ hg; omega); (have l := m _ hg; rw [ea] at hg; have p := List.mem_singleton.1 hg; omega)))).ch bV (fun g hg hm => by have ab := List.mem_singleton.1 hm; rcases r with ea | ea; (rw [ea] at hg; have x := j _ hg; have S := c _ hg; omega); (have l := m _ hg; rw [ea] at hg; have p := List.mem_singleton.1 hg; omega))).ch cO (fun g hg hm => by have ab := List.mem_singleton.1 hm; rcases r with ea | ea; (rw [ea] at hg; have x := j _ hg; have S := c _ hg; omega); (have l := m _ hg; rw [ea] at hg; have p := List.mem_singleton.1 hg; omega))
   have dj : Ol ics 3 1 di (.slice F (gV).length G) (gV) := by
    have hx := fP
    first | exact hx | simpa using hx
   have fQ := (ah.ch bV (fun g hg hm => by have ab := List.mem_singleton.1 hm; rcases R with ea | ea; (rw [ea] at hg; rcases u with ea | ea; (rw [ea] at hg; rcases n with ea | ea; (rw [ea] at hg; have x := b _ hg; have S := a _ hg; omega); (have l := h _ hg; rw [ea] at hg; have p := List.mem_singleton.1 hg; omega)); (have l := o _ hg; rw [ea] at hg; have p := List.mem_singleton.1 hg; omega)); (have l := J _ hg; rw [ea] at hg; have p := List.mem_singleton.1 hg; omega))).ch cO (fun g hg hm => by have ab := List.mem_singleton.1 hm; rcases R with ea | ea; (rw [ea] at hg; rcases u with ea | ea; (rw [ea] at hg; rcases n with ea | ea; (rw [ea] at hg; have x := b _ hg; have S := a _ hg; omega); (have l := h _ hg; rw [ea] at hg; have p := List.mem_singleton.1 hg; omega)); (have l := o _ hg; rw [ea] at hg; have p := List.mem_singleton.1 hg; omega)); (have l := J _ hg; rw [ea] at hg; have p := List.mem_singleton.1 hg; omega))
   have dk : Ol GEdge.cs 129 4 di (.slice H ((((gE.take k) ++ [e]) ++ (gE.drop k))).length I) ((insR gV gE e).1) := by
    have hx := fQ
    first | exact hx.eq (by rw [Xu (by first | exact fun q => M q.1 | exact fun q => Q q.2.1 | exact fun q => absurd q.2.2.1 om | exact fun q => q.2.2.2 om)]) | exact hx.eq (by rw [Xs ⟨M, Q, by omega, by omega⟩]; unfold insL; rw [(show insK gE e.id = k from (by first | exact Qp hp ae ad | exact Zao hp om om))])
   exact Zj [_, _] (Zn bv rfl agg36 sz36 ⟨rfl, trivial⟩) ⟨(.slice F (gV).length G), (.slice H ((((gE.take k) ++ [e]) ++ (gE.drop k))).length I), (congrArg (fun zq => (Value.tuple #[.agg #[(.slice F (gV).length G), (.slice H ((((gE.take k) ++ [e]) ++ (gE.drop k))).length I)], .bool zq])) (by first | rw [Xu (by first | exact fun q => M q.1 | exact fun q => Q q.2.1 | exact fun q => absurd q.2.2.1 om | exact fun q => q.2.2.2 om)] | rw [Xs ⟨M, Q, by omega, by omega⟩])), dj, (Lo.down aw om), dk, (Lo.down ai om), (fun g hm hg => by rcases r with ea | ea; (rw [ea] at hm; rcases R with ea | ea; (rw [ea] at hg; rcases u with ea | ea; (rw [ea] at hg; rcases n with ea | ea; (rw [ea] at hg; have s := j _ hm; have x := c _ hm; have S := b _ hg; have Z := a _ hg; omega); (have l := h _ hg; rw [ea] at hg; have p := List.mem_singleton.1 hg; have s := j _ hm; have x := c _ hm; omega)); (have l := o _ hg; rw [ea] at hg; have p := List.mem_singleton.1 hg; have s := j _ hm; have x := c _ hm; omega)); (have l := J _ hg; rw [ea] at hg; have p := List.mem_singleton.1 hg; have s := j _ hm; have x := c _ hm; omega)); (have y := m _ hm; rw [ea] at hm; have p := List.mem_singleton.1 hm; rcases R with ea | ea; (rw [ea] at hg; rcases u with ea | ea; (rw [ea] at hg; rcases n with ea | ea; (rw [ea] at hg; have S := b _ hg; have Z := a _ hg; omega); (have l := h _ hg; rw [ea] at hg; have p := List.mem_singleton.1 hg; omega)); (have l := o _ hg; rw [ea] at hg; have p := List.mem_singleton.1 hg; omega)); (have l := J _ hg; rw [ea] at hg; have p := List.mem_singleton.1 hg; omega))), E⟩
  refine Zr rfl rfl rfl ?_
  refine Zq (cs := GEdge.cs) (parts := [(0, .tmp 61)]) (⟨0, 0, 0, 0⟩ : GEdge) [e] el34 sz129 zr129 GEdge.len (by decide) rfl rfl rfl (by decide) (by decide) rfl fun cd fR af ak aI => ?_
  have gW := aI.size
  have E := E.trans aI
  obtain ⟨aT, aU, rfl, aV, ac⟩ := af.opn
  have cy : Ch [aa] aj fR := (bq.trans aI.of_nil)
  refine ⟨cy, ?_⟩
  refine dO 5 (Zr rfl rfl rfl ?_)
  have fS := an.ch0 aI
  have fT := (ax.ch0 ap).ch0 aI
  refine Yg (cs := GEdge.cs) el34 sz129 by129 zr129 rfl (by decide) GEdge.one fS fT rfl rfl bd bd b om fun az d5 X T n a5 => ?_
  have gX := a5.size
  have E := E.step a5 (fun i hi => .inl (by have s := b _ hi; omega))
  replace X : Ol GEdge.cs 129 4 d5 az (gE.take k) := X
  obtain ⟨aP, aQ, rfl, aR, h⟩ := X.opn
  have cz : Ch [aa] aj d5 := (cy.step a5 (fun i hm => by left; have s := b _ hm; have x := a _ hm; omega))
  refine ⟨cz, ?_⟩
  refine dO 8 (Zr rfl rfl rfl ?_)
  have fU := af.ch a5 (fun g hg hm => by have s := b _ hm; have x := a _ hm; have S := ak _ hg; have Z := ac _ hg; omega)
  refine Yg (cs := GEdge.cs) el34 sz129 by129 zr129 rfl (by decide) GEdge.one X fU.ls rfl rfl bd bd T om fun cf fV ag Y u bw => ?_
  have gY := bw.size
  have E := E.step bw (fun i hi => .inl (by have s := T _ hi; omega))
  obtain ⟨aW, aX, rfl, aY, o⟩ := ag.opn
  have cA : Ch [aa] aj fV := (cz.step bw (fun i hm => by rcases n with ea | ea; (rw [ea] at hm; left; have s := b _ hm; have x := a _ hm; omega); (have y := h _ hm; rw [ea] at hm; have p := List.mem_singleton.1 hm; left; omega)))
  refine ⟨cA, ?_⟩
  refine dO 13 (Zr rfl rfl rfl ?_)
  have fW := (((ay.ch0 ap).ch0 aI).ch a5 (fun i hi => by have s := b _ hi; omega)).ch bw (fun i hi => by have s := T _ hi; omega)
  refine Yg (cs := GEdge.cs) el34 sz129 by129 zr129 rfl (by decide) GEdge.one ag fW rfl rfl bd bd Y om fun ci fX ah ai R bW => ?_
  have gZ := bW.size
  have E := E.step bW (fun i hi => .inl (by have s := Y _ hi; omega))
  obtain ⟨H, I, rfl, aZ, J⟩ := ah.opn
  have cB : Ch [aa] aj fX := (cA.step bW (fun i hm => by rcases u with ea | ea; (rw [ea] at hm; rcases n with ea | ea; (rw [ea] at hm; left; have s := b _ hm; have x := a _ hm; omega); (have y := h _ hm; rw [ea] at hm; have p := List.mem_singleton.1 hm; left; omega)); (have y := o _ hm; rw [ea] at hm; have p := List.mem_singleton.1 hm; left; omega)))
  refine ⟨cB, ?_⟩
  refine dV 14 rfl rfl rfl (fun _ => Zd fa36_1 rfl) (dO 15 (Zr rfl rfl rfl ?_))
  have fY := (((((aB.ch0 al).ch0 ap).ch0 aI).ch a5 (fun hm => by have s := b _ hm; have x := a _ hm; omega)).ch bw (fun hm => by rcases n with ea | ea; (rw [ea] at hm; have s := b _ hm; have x := a _ hm; omega); (have y := h _ hm; rw [ea] at hm; have p := List.mem_singleton.1 hm; omega))).ch bW (fun hm => by rcases u with ea | ea; (rw [ea] at hm; rcases n with ea | ea; (rw [ea] at hm; have s := b _ hm; have x := a _ hm; omega); (have y := h _ hm; rw [ea] at hm; have p := List.mem_singleton.1 hm; omega)); (have y := o _ hm; rw [ea] at hm; have p := List.mem_singleton.1 hm; omega))
  refine Zy (off := 1) fY sz34 rfl rfl rfl rfl fun d6 bz bX => ?_
  have g0 := bX.size
  have E := E.step bX (lS om)
  replace bz : Blk d6 aa 36 [(.slice F (gV).length G), (.slice H ((((gE.take k) ++ [e]) ++ (gE.drop k))).length I)] := bz
  have dl : Ch [aa] aj d6 := (cB.step bX (fun i hm => by have ab := List.mem_singleton.1 hm; exact .inr (by rw [ab]; exact (List.mem_singleton.2 rfl))))
  refine ⟨dl, ?_⟩
  refine Zw (by kernel_rfl) ?_
  refine Zb (dg _ _ ?_)
  refine Zh fun iu fZ => ?_
  refine Zc (Za rfl rfl (Zi bz.at_ agg36 sz36 rfl) (Zl rfl rfl ?_))
  have f0 := (((((((((((aq.ch0 aM).ch0 aH).ch a3 (fun hm => by have s := j _ hm; have x := c _ hm; omega)).ch0 aA).ch aC (nS om)).ch0 al).ch0 ap).ch0 aI).ch a5 (fun hm => by have s := b _ hm; have x := a _ hm; omega)).ch bw (fun hm => by rcases n with ea | ea; (rw [ea] at hm; have s := b _ hm; have x := a _ hm; omega); (have y := h _ hm; rw [ea] at hm; have p := List.mem_singleton.1 hm; omega))).ch bW (fun hm => by rcases u with ea | ea; (rw [ea] at hm; rcases n with ea | ea; (rw [ea] at hm; have s := b _ hm; have x := a _ hm; omega); (have y := h _ hm; rw [ea] at hm; have p := List.mem_singleton.1 hm; omega)); (have y := o _ hm; rw [ea] at hm; have p := List.mem_singleton.1 hm; omega))).ch bX (nS om)
  refine Zk (off := 0) 2 f0 sz36 rfl (us := [(.slice F (gV).length G), (.slice H ((((gE.take k) ++ [e]) ++ (gE.drop k))).length I)]) rfl rfl rfl rfl fun dm bA cP => ?_
  have g1 := cP.size
  have E := E.step cP (lS om)
  replace bA : Blk dm bM 36 [(.slice F (gV).length G), (.slice H ((((gE.take k) ++ [e]) ++ (gE.drop k))).length I)] := bA
  refine Za rfl rfl (Zf rfl) (Ze (Zb (fZ _ _ ?_)))
  refine Zv ?_
  have f1 := (((((((((am.ch0 aA).ch aC (fun g hg hm => by have ab := List.mem_singleton.1 hm; rcases r with ea | ea; (rw [ea] at hg; have x := j _ hg; have S := c _ hg; omega); (have l := m _ hg; rw [ea] at hg; have p := List.mem_singleton.1 hg; omega))).ch0 al).ch0 ap).ch0 aI).ch a5 (fun g hg hm => by rcases r with ea | ea; (rw [ea] at hg; have s := b _ hm; have x := a _ hm; have S := j _ hg; have Z := c _ hg; omega); (have l := m _ hg; rw [ea] at hg; have p := List.mem_singleton.1 hg; have s := b _ hm; have x := a _ hm; omega))).ch bw (fun g hg hm => by rcases n with ea | ea; (rw [ea] at hm; rcases r with ea | ea; (rw [ea] at hg; have s := b _ hm; have x := a _ hm; have S := j _ hg; have Z := c _ hg; omega); (have l := m _ hg; rw [ea] at hg; have p := List.mem_singleton.1 hg; have s := b _ hm; have x := a _ hm; omega)); (have y := h _ hm; rw [ea] at hm; have p := List.mem_singleton.1 hm; rcases r with ea | ea; (rw [ea] at hg; have S := j _ hg; have Z := c _ hg; omega); (have l := m _ hg; rw [ea] at hg; have p := List.mem_singleton.1 hg; omega)))).ch bW (fun g hg hm => by rcases u with ea | ea; (rw [ea] at hm; rcases n with ea | ea; (rw [ea] at hm; rcases r with ea | ea; (rw [ea] at hg; have s := b _ hm; have x := a _ hm; have S := j _ hg; have Z := c _ hg; omega); (have l := m _ hg; rw [ea] at hg; have p := List.mem_singleton.1 hg; have s := b _ hm; have x := a _ hm; omega)); (have y := h _ hm; rw [ea] at hm; have p := List.mem_singleton.1 hm; rcases r with ea | ea; (rw [ea] at hg; have S := j _ hg; have Z := c _ hg; omega); (have l := m _ hg; rw [ea] at hg; have p := List.mem_singleton.1 hg; omega))); (have y := o _ hm; rw [ea] at hm; have p := List.mem_singleton.1 hm; rcases r with ea | ea; (rw [ea] at hg; have S := j _ hg; have Z := c _ hg; omega); (have l := m _ hg; rw [ea] at hg; have p := List.mem_singleton.1 hg; omega)))).ch bX (fun g hg hm => by have ab := List.mem_singleton.1 hm; rcases r with ea | ea; (rw [ea] at hg; have x := j _ hg; have S := c _ hg; omega); (have l := m _ hg; rw [ea] at hg; have p := List.mem_singleton.1 hg; omega))).ch cP (fun g hg hm => by have ab := List.mem_singleton.1 hm; rcases r with ea | ea; (rw [ea] at hg; have x := j _ hg; have S := c _ hg; omega); (have l := m _ hg; rw [ea] at hg; have p := List.mem_singleton.1 hg; omega))
  have dn : Ol ics 3 1 dm (.slice F (gV).length G) (gV) := by
   have hx := f1
   first | exact hx | simpa using hx
  have f2 := (ah.ch bX (fun g hg hm => by have ab := List.mem_singleton.1 hm; rcases R with ea | ea; (rw [ea] at hg; rcases u with ea | ea; (rw [ea] at hg; rcases n with ea | ea; (rw [ea] at hg; have x := b _ hg; have S := a _ hg; omega); (have l := h _ hg; rw [ea] at hg; have p := List.mem_singleton.1 hg; omega)); (have l := o _ hg; rw [ea] at hg; have p := List.mem_singleton.1 hg; omega)); (have l := J _ hg; rw [ea] at hg; have p := List.mem_singleton.1 hg; omega))).ch cP (fun g hg hm => by have ab := List.mem_singleton.1 hm; rcases R with ea | ea; (rw [ea] at hg; rcases u with ea | ea; (rw [ea] at hg; rcases n with ea | ea; (rw [ea] at hg; have x := b _ hg; have S := a _ hg; omega); (have l := h _ hg; rw [ea] at hg; have p := List.mem_singleton.1 hg; omega)); (have l := o _ hg; rw [ea] at hg; have p := List.mem_singleton.1 hg; omega)); (have l := J _ hg; rw [ea] at hg; have p := List.mem_singleton.1 hg; omega))
  have dp : Ol GEdge.cs 129 4 dm (.slice H ((((gE.take k) ++ [e]) ++ (gE.drop k))).length I) ((insR gV gE e).1) := by
   have hx := f2
   first | exact hx.eq (by rw [Xu (by first | exact fun q => M q.1 | exact fun q => Q q.2.1 | exact fun q => absurd q.2.2.1 om | exact fun q => q.2.2.2 om)]) | exact hx.eq (by rw [Xs ⟨M, Q, by omega, by omega⟩]; unfold insL; rw [(show insK gE e.id = k from (by first | exact Qp hp ae ad | exact Zao hp om om))])
  exact Zj [_, _] (Zn bA rfl agg36 sz36 ⟨rfl, trivial⟩) ⟨(.slice F (gV).length G), (.slice H ((((gE.take k) ++ [e]) ++ (gE.drop k))).length I), (congrArg (fun zq => (Value.tuple #[.agg #[(.slice F (gV).length G), (.slice H ((((gE.take k) ++ [e]) ++ (gE.drop k))).length I)], .bool zq])) (by first | rw [Xu (by first | exact fun q => M q.1 | exact fun q => Q q.2.1 | exact fun q => absurd q.2.2.1 om | exact fun q => q.2.2.2 om)] | rw [Xs ⟨M, Q, by omega, by omega⟩])), dn, (Lo.down aw om), dp, (Lo.down ai om), (fun g hm hg => by rcases r with ea | ea; (rw [ea] at hm; rcases R with ea | ea; (rw [ea] at hg; rcases u with ea | ea; (rw [ea] at hg; rcases n with ea | ea; (rw [ea] at hg; have s := j _ hm; have x := c _ hm; have S := b _ hg; have Z := a _ hg; omega); (have l := h _ hg; rw [ea] at hg; have p := List.mem_singleton.1 hg; have s := j _ hm; have x := c _ hm; omega)); (have l := o _ hg; rw [ea] at hg; have p := List.mem_singleton.1 hg; have s := j _ hm; have x := c _ hm; omega)); (have l := J _ hg; rw [ea] at hg; have p := List.mem_singleton.1 hg; have s := j _ hm; have x := c _ hm; omega)); (have y := m _ hm; rw [ea] at hm; have p := List.mem_singleton.1 hm; rcases R with ea | ea; (rw [ea] at hg; rcases u with ea | ea; (rw [ea] at hg; rcases n with ea | ea; (rw [ea] at hg; have S := b _ hg; have Z := a _ hg; omega); (have l := h _ hg; rw [ea] at hg; have p := List.mem_singleton.1 hg; omega)); (have l := o _ hg; rw [ea] at hg; have p := List.mem_singleton.1 hg; omega)); (have l := J _ hg; rw [ea] at hg; have p := List.mem_singleton.1 hg; omega))), E⟩
 refine Zr rfl rfl rfl ?_
 refine Zq (cs := GEdge.cs) (parts := [(0, .tmp 61)]) (⟨0, 0, 0, 0⟩ : GEdge) [e] el34 sz129 zr129 GEdge.len (by decide) rfl rfl rfl (by decide) (by decide) rfl fun cd f3 af ak a6 => ?_
 have g2 := a6.size
 have E := E.trans a6
 obtain ⟨aT, aU, rfl, aV, ac⟩ := af.opn
 have cC : Ch [aa] aj f3 := ((Ch.refl _ _).trans a6.of_nil)
 refine ⟨cC, ?_⟩
 refine dO 0 (Zr rfl rfl rfl ?_)
 refine Xb (k := 4) GEdge.cs el34 sz129 fun c3 f4 an b aJ => ?_
 have g3 := aJ.size
 have E := E.trans aJ
 obtain ⟨b9, ca, rfl, cb, a⟩ := an.opn
 have cD : Ch [aa] aj f4 := (cC.trans aJ.of_nil)
 refine ⟨cD, ?_⟩
 refine dO 5 (Zr rfl rfl rfl ?_)
 have f5 := (ax.ch0 a6).ch0 aJ
 refine Yg (cs := GEdge.cs) el34 sz129 by129 zr129 rfl (by decide) GEdge.one an f5 rfl rfl bd bd b om fun az d7 X T n a7 => ?_
 have g4 := a7.size
 have E := E.step a7 (fun i hi => .inl (by have s := b _ hi; omega))
 replace X : Ol GEdge.cs 129 4 d7 az (gE.take k) := X
 obtain ⟨aP, aQ, rfl, aR, h⟩ := X.opn
 have cE : Ch [aa] aj d7 := (cD.step a7 (fun i hm => by left; have s := b _ hm; have x := a _ hm; omega))
 refine ⟨cE, ?_⟩
 refine dO 8 (Zr rfl rfl rfl ?_)
 have f6 := (af.ch0 aJ).ch a7 (fun g hg hm => by have s := b _ hm; have x := a _ hm; have S := ak _ hg; have Z := ac _ hg; omega)
 refine Yg (cs := GEdge.cs) el34 sz129 by129 zr129 rfl (by decide) GEdge.one X f6.ls rfl rfl bd bd T om fun cf f7 ag Y u bB => ?_
 have g5 := bB.size
 have E := E.step bB (fun i hi => .inl (by have s := T _ hi; omega))
 obtain ⟨aW, aX, rfl, aY, o⟩ := ag.opn
 have cF : Ch [aa] aj f7 := (cE.step bB (fun i hm => by rcases n with ea | ea; (rw [ea] at hm; left; have s := b _ hm; have x := a _ hm; omega); (have y := h _ hm; rw [ea] at hm; have p := List.mem_singleton.1 hm; left; omega)))
 refine ⟨cF, ?_⟩
 refine dO 13 (Zr rfl rfl rfl ?_)
 have f8 := (((ay.ch0 a6).ch0 aJ).ch a7 (fun i hi => by have s := b _ hi; omega)).ch bB (fun i hi => by have s := T _ hi; omega)
 refine Yg (cs := GEdge.cs) el34 sz129 by129 zr129 rfl (by decide) GEdge.one ag f8 rfl rfl bd bd Y om fun ci f9 ah ai R bY => ?_
 have g6 := bY.size
 have E := E.step bY (fun i hi => .inl (by have s := Y _ hi; omega))
 obtain ⟨H, I, rfl, aZ, J⟩ := ah.opn
 have cG : Ch [aa] aj f9 := (cF.step bY (fun i hm => by rcases u with ea | ea; (rw [ea] at hm; rcases n with ea | ea; (rw [ea] at hm; left; have s := b _ hm; have x := a _ hm; omega); (have y := h _ hm; rw [ea] at hm; have p := List.mem_singleton.1 hm; left; omega)); (have y := o _ hm; rw [ea] at hm; have p := List.mem_singleton.1 hm; left; omega)))
 refine ⟨cG, ?_⟩
 refine dV 14 rfl rfl rfl (fun _ => Zd fa36_1 rfl) (dO 15 (Zr rfl rfl rfl ?_))
 have ga := (((((aB.ch0 al).ch0 a6).ch0 aJ).ch a7 (fun hm => by have s := b _ hm; have x := a _ hm; omega)).ch bB (fun hm => by rcases n with ea | ea; (rw [ea] at hm; have s := b _ hm; have x := a _ hm; omega); (have y := h _ hm; rw [ea] at hm; have p := List.mem_singleton.1 hm; omega))).ch bY (fun hm => by rcases u with ea | ea; (rw [ea] at hm; rcases n with ea | ea; (rw [ea] at hm; have s := b _ hm; have x := a _ hm; omega); (have y := h _ hm; rw [ea] at hm; have p := List.mem_singleton.1 hm; omega)); (have y := o _ hm; rw [ea] at hm; have p := List.mem_singleton.1 hm; omega))
 refine Zy (off := 1) ga sz34 rfl rfl rfl rfl fun d8 bC bZ => ?_
 have g7 := bZ.size
 have E := E.step bZ (lS om)
 replace bC : Blk d8 aa 36 [(.slice F (gV).length G), (.slice H ((((gE.take k) ++ [e]) ++ (gE.drop k))).length I)] := bC
 have dq : Ch [aa] aj d8 := (cG.step bZ (fun i hm => by have ab := List.mem_singleton.1 hm; exact .inr (by rw [ab]; exact (List.mem_singleton.2 rfl))))
 refine ⟨dq, ?_⟩
 refine Zw (by kernel_rfl) ?_
 refine Zb (dg _ _ ?_)
 refine Zh fun iv gb => ?_
 refine Zc (Za rfl rfl (Zi bC.at_ agg36 sz36 rfl) (Zl rfl rfl ?_))
 have gc := (((((((((((aq.ch0 aM).ch0 aH).ch a3 (fun hm => by have s := j _ hm; have x := c _ hm; omega)).ch0 aA).ch aC (nS om)).ch0 al).ch0 a6).ch0 aJ).ch a7 (fun hm => by have s := b _ hm; have x := a _ hm; omega)).ch bB (fun hm => by rcases n with ea | ea; (rw [ea] at hm; have s := b _ hm; have x := a _ hm; omega); (have y := h _ hm; rw [ea] at hm; have p := List.mem_singleton.1 hm; omega))).ch bY (fun hm => by rcases u with ea | ea; (rw [ea] at hm; rcases n with ea | ea; (rw [ea] at hm; have s := b _ hm; have x := a _ hm; omega); (have y := h _ hm; rw [ea] at hm; have p := List.mem_singleton.1 hm; omega)); (have y := o _ hm; rw [ea] at hm; have p := List.mem_singleton.1 hm; omega))).ch bZ (nS om)
 refine Zk (off := 0) 2 gc sz36 rfl (us := [(.slice F (gV).length G), (.slice H ((((gE.take k) ++ [e]) ++ (gE.drop k))).length I)]) rfl rfl rfl rfl fun dr bD cQ => ?_
 have g8 := cQ.size
 have E := E.step cQ (lS om)
 replace bD : Blk dr bM 36 [(.slice F (gV).length G), (.slice H ((((gE.take k) ++ [e]) ++ (gE.drop k))).length I)] := bD
 refine Za rfl rfl (Zf rfl) (Ze (Zb (gb _ _ ?_)))
 refine Zv ?_
 have gd := (((((((((am.ch0 aA).ch aC (fun g hg hm => by have ab := List.mem_singleton.1 hm; rcases r with ea | ea; (rw [ea] at hg; have x := j _ hg; have S := c _ hg; omega); (have l := m _ hg; rw [ea] at hg; have p := List.mem_singleton.1 hg; omega))).ch0 al).ch0 a6).ch0 aJ).ch a7 (fun g hg hm => by rcases r with ea | ea; (rw [ea] at hg; have s := b _ hm; have x := a _ hm; have S := j _ hg; have Z := c _ hg; omega); (have l := m _ hg; rw [ea] at hg; have p := List.mem_singleton.1 hg; have s := b _ hm; have x := a _ hm; omega))).ch bB (fun g hg hm => by rcases n with ea | ea; (rw [ea] at hm; rcases r with ea | ea; (rw [ea] at hg; have s := b _ hm; have x := a _ hm; have S := j _ hg; have Z := c _ hg; omega); (have l := m _ hg; rw [ea] at hg; have p := List.mem_singleton.1 hg; have s := b _ hm; have x := a _ hm; omega)); (have y := h _ hm; rw [ea] at hm; have p := List.mem_singleton.1 hm; rcases r with ea | ea; (rw [ea] at hg; have S := j _ hg; have Z := c _ hg; omega); (have l := m _ hg; rw [ea] at hg; have p := List.mem_singleton.1 hg; omega)))).ch bY (fun g hg hm => by rcases u with ea | ea; (rw [ea] at hm; rcases n with ea | ea; (rw [ea] at hm; rcases r with ea | ea; (rw [ea] at hg; have s := b _ hm; have x := a _ hm; have S := j _ hg; have Z := c _ hg; omega); (have l := m _ hg; rw [ea] at hg; have p := List.mem_singleton.1 hg; have s := b _ hm; have x := a _ hm; omega)); (have y := h _ hm; rw [ea] at hm; have p := List.mem_singleton.1 hm; rcases r with ea | ea; (rw [ea] at hg; have S := j _ hg; have Z := c _ hg; omega); (have l := m _ hg; rw [ea] at hg; have p := List.mem_singleton.1 hg; omega))); (have y := o _ hm; rw [ea] at hm; have p := List.mem_singleton.1 hm; rcases r with ea | ea; (rw [ea] at hg; have S := j _ hg; have Z := c _ hg; omega); (have l := m _ hg; rw [ea] at hg; have p := List.mem_singleton.1 hg; omega)))).ch bZ (fun g hg hm => by have ab := List.mem_singleton.1 hm; rcases r with ea | ea; (rw [ea] at hg; have x := j _ hg; have S := c _ hg; omega); (have l := m _ hg; rw [ea] at hg; have p := List.mem_singleton.1 hg; omega))).ch cQ (fun g hg hm => by have ab := List.mem_singleton.1 hm; rcases r with ea | ea; (rw [ea] at hg; have x := j _ hg; have S := c _ hg; omega); (have l := m _ hg; rw [ea] at hg; have p := List.mem_singleton.1 hg; omega))
 have ds : Ol ics 3 1 dr (.slice F (gV).length G) (gV) := by
  have hx := gd
  first | exact hx | simpa using hx
 have ge := (ah.ch bZ (fun g hg hm => by have ab := List.mem_singleton.1 hm; rcases R with ea | ea; (rw [ea] at hg; rcases u with ea | ea; (rw [ea] at hg; rcases n with ea | ea; (rw [ea] at hg; have x := b _ hg; have S := a _ hg; omega); (have l := h _ hg; rw [ea] at hg; have p := List.mem_singleton.1 hg; omega)); (have l := o _ hg; rw [ea] at hg; have p := List.mem_singleton.1 hg; omega)); (have l := J _ hg; rw [ea] at hg; have p := List.mem_singleton.1 hg; omega))).ch cQ (fun g hg hm => by have ab := List.mem_singleton.1 hm; rcases R with ea | ea; (rw [ea] at hg; rcases u with ea | ea; (rw [ea] at hg; rcases n with ea | ea; (rw [ea] at hg; have x := b _ hg; have S := a _ hg; omega); (have l := h _ hg; rw [ea] at hg; have p := List.mem_singleton.1 hg; omega)); (have l := o _ hg; rw [ea] at hg; have p := List.mem_singleton.1 hg; omega)); (have l := J _ hg; rw [ea] at hg; have p := List.mem_singleton.1 hg; omega))
 have dt : Ol GEdge.cs 129 4 dr (.slice H ((((gE.take k) ++ [e]) ++ (gE.drop k))).length I) ((insR gV gE e).1) := by
  have hx := ge
  first | exact hx.eq (by rw [Xu (by first | exact fun q => M q.1 | exact fun q => Q q.2.1 | exact fun q => absurd q.2.2.1 om | exact fun q => q.2.2.2 om)]) | exact hx.eq (by rw [Xs ⟨M, Q, by omega, by omega⟩]; unfold insL; rw [(show insK gE e.id = k from (by first | exact Qp hp ae ad | exact Zao hp om om))])
 exact Zj [_, _] (Zn bD rfl agg36 sz36 ⟨rfl, trivial⟩) ⟨(.slice F (gV).length G), (.slice H ((((gE.take k) ++ [e]) ++ (gE.drop k))).length I), (congrArg (fun zq => (Value.tuple #[.agg #[(.slice F (gV).length G), (.slice H ((((gE.take k) ++ [e]) ++ (gE.drop k))).length I)], .bool zq])) (by first | rw [Xu (by first | exact fun q => M q.1 | exact fun q => Q q.2.1 | exact fun q => absurd q.2.2.1 om | exact fun q => q.2.2.2 om)] | rw [Xs ⟨M, Q, by omega, by omega⟩])), ds, (Lo.down aw om), dt, (Lo.down ai om), (fun g hm hg => by rcases r with ea | ea; (rw [ea] at hm; rcases R with ea | ea; (rw [ea] at hg; rcases u with ea | ea; (rw [ea] at hg; rcases n with ea | ea; (rw [ea] at hg; have s := j _ hm; have x := c _ hm; have S := b _ hg; have Z := a _ hg; omega); (have l := h _ hg; rw [ea] at hg; have p := List.mem_singleton.1 hg; have s := j _ hm; have x := c _ hm; omega)); (have l := o _ hg; rw [ea] at hg; have p := List.mem_singleton.1 hg; have s := j _ hm; have x := c _ hm; omega)); (have l := J _ hg; rw [ea] at hg; have p := List.mem_singleton.1 hg; have s := j _ hm; have x := c _ hm; omega)); (have y := m _ hm; rw [ea] at hm; have p := List.mem_singleton.1 hm; rcases R with ea | ea; (rw [ea] at hg; rcases u with ea | ea; (rw [ea] at hg; rcases n with ea | ea; (rw [ea] at hg; have S := b _ hg; have Z := a _ hg; omega); (have l := h _ hg; rw [ea] at hg; have p := List.mem_singleton.1 hg; omega)); (have l := o _ hg; rw [ea] at hg; have p := List.mem_singleton.1 hg; omega)); (have l := J _ hg; rw [ea] at hg; have p := List.mem_singleton.1 hg; omega))), E⟩

/-- spec.l6Apply -/
theorem Zde {w : World} {LL_gV cq : Nat} {bW : Value} {gV : List Int} (aY : Ls ics 1 w LL_gV cq bW gV) {LL_gE cr : Nat} {bX : Value} {gE : List GEdge} (aZ : Ls GEdge.cs 4 w LL_gE cr bX gE) {LL_bC ct : Nat} {bY : Value} {bC : List Chg} (a0 : Ls Chg.cs 5 w LL_bC ct bY bC) (hg : gV.length ≤ 1000000 ∧ gE.length ≤ 1000000) (hc : bC.length ≤ 6) :
 Ctr Try.prog 93 #[(.agg #[bW, bX]), (.agg #[bY])] w (fun v w' => ∃ (bG : Value) (bH : Value), v = .tuple #[.agg #[bG, bH], .bool ((apL gV gE bC).isSome)] ∧ Ol ics 3 1 w' bG (gV) ∧ Lo w.heap.size bG ∧ Ol GEdge.cs 129 4 w' bH ((apL gV gE bC).getD gE) ∧ Lo w.heap.size bH ∧ (∀ g ∈ bl bG, g ∉ bl bH) ∧ Ch [] w w') := by
 obtain ⟨bg, bh, b0⟩ := aY.val
 subst b0
 have eh := aY.len
 have aY := aY.here (by decide)
 obtain ⟨bi, bj, b1⟩ := aZ.val
 subst b1
 have ei := aZ.len
 have aZ := aZ.here (by decide)
 obtain ⟨bs, bu, b2⟩ := a0.val
 subst b2
 have ej := a0.len
 have a0 := a0.here (by decide)
 have E := Ch.refl [] w
 refine Yj (N := 80) (vs0 := [(.agg #[(.slice bg gV.length bh), (.slice bi gE.length bj)]), (.agg #[(.slice bs bC.length bu)])]) Try.func93 rfl rfl rfl ?_
 refine Zh fun K1 H1 => ?_
 refine Zc (Zl rfl rfl ?_)
 refine Xm rfl fun da W2 cR C2 f9 => ?_
 have ga := C2.size
 have E := E.trans C2
 have gb := cR.lt
 replace cR : Blk W2 da 36 [(.slice bg gV.length bh), (.slice bi gE.length bj)] := cR
 refine Zl rfl rfl ?_
 refine Xm rfl fun db W3 cS C3 gc => ?_
 have gd := C3.size
 have E := E.trans C3
 have ge := cS.lt
 replace cS : Blk W3 db 63 [(.slice bs bC.length bu)] := cS
 refine Zl rfl rfl ?_
 refine Yd zr36 fun bI W4 cT C4 gf => ?_
 have gg := C4.size
 have E := E.trans C4
 have gh := cT.lt
 replace cT : Blk W4 bI 36 [(.slice none 0 0), (.slice none 0 0)] := cT
 refine Za rfl rfl (Zf rfl) (Ze (Zb (H1 _ _ ?_)))
 refine Zh fun K5 H5 => ?_
 refine Zc ?_
 have F6 := (cR.ch0 C3).ch0 C4
 refine Za rfl rfl (Zi F6.at_ agg36 sz36 rfl) (Zl rfl rfl ?_)
 have F7 := ((aY.ch0 C2).ch0 C3).ch0 C4
 have F8 := ((aZ.ch0 C2).ch0 C3).ch0 C4
 refine Step.call (Zm (xs := [.tmp 14]) fk92 rfl) (Yz F7 F8 om) fun eM W9 dc => ?_
 obtain ⟨cU, cV, rfl, aE, P, aF, Q, ad, C9⟩ := dc
 have gi := C9.size
 have E := E.trans C9
 obtain ⟨ao, ap, rfl, cu, aG⟩ := aE.opn
 obtain ⟨aq, au, rfl, cv, aH⟩ := aF.opn
 refine Zl rfl rfl ?_
 refine Yd zr36 fun bZ eN cW bJ gj => ?_
 have eO := bJ.size
 have E := E.trans bJ
 have gk := cW.lt
 replace cW : Blk eN bZ 36 [(.slice none 0 0), (.slice none 0 0)] := cW
 refine Zl rfl rfl ?_
 refine Zk (off := 0) 2 cW sz36 rfl (us := [(.slice ao (gV).length ap), (.slice aq (gE).length au)]) rfl rfl rfl rfl fun cX bv bK => ?_
 have eP := bK.size
 have E := E.step bK (lS om)
 replace bv : Blk cX bZ 36 [(.slice ao (gV).length ap), (.slice aq (gE).length au)] := bv
 refine Ze (Zb (H5 _ _ ?_))
 refine Zh fun gl co => ?_
 refine Zh fun gm eQ => ?_
 refine Zc (Za rfl rfl (Zf rfl) (Ze (Zb (eQ _ _ ?_))))
 refine Yn ?_
 have eR := (aE.ch0 bJ).ch bK (dS P aG om)
 have b3 : Ol ics 3 1 cX (.slice ao (gV).length ap) (gV) := by
  have hx := eR
  first | exact hx | simpa using hx
 have eS := (aF.ch0 bJ).ch bK (dS Q aH om)
 have b4 : Ol GEdge.cs 129 4 cX (.slice aq (gE).length au) (gE) := by
  have hx := eS
  first | exact hx | simpa using hx
 have eT := ((F6.ch0 C9).ch0 bJ).ch bK (nS om)
 have eU := ((F7.ch0 C9).ch0 bJ).ch bK (oS om)
 have eV := ((F8.ch0 C9).ch0 bJ).ch bK (oS om)
 have eW := (((cS.ch0 C4).ch0 C9).ch0 bJ).ch bK (nS om)
 have eX := ((cT.ch0 C9).ch0 bJ).ch bK (nS om)
 refine Ql (σ := Nat × List GEdge × Value × Value) (fun ⟨i, F, vv, ev⟩ => [(2, (.pointer (some ⟨da, 0, none⟩))), (3, (.pointer (some ⟨db, 0, none⟩))), (4, (.pointer (some ⟨bI, 0, none⟩))), (6, (.pointer (some ⟨bZ, 0, none⟩))), (7, (.int .i64 ((i : Nat) : Int)))]) (fun ⟨i, F, vv, ev⟩ wx => Ch [] w wx ∧ cX.heap.size ≤ wx.heap.size ∧ (i ≤ bC.length) ∧ (apL gV gE (bC.take i) = some F) ∧ (F.length ≤ gE.length + i) ∧ Blk wx da 36 [(.slice bg gV.length bh), (.slice bi gE.length bj)] ∧ Ls ics 1 wx LL_gV w.heap.size (.slice bg gV.length bh) gV ∧ Ls GEdge.cs 4 wx LL_gE w.heap.size (.slice bi gE.length bj) gE ∧ Blk wx db 63 [(.slice bs bC.length bu)] ∧ Blk wx bI 36 [(.slice none 0 0), (.slice none 0 0)] ∧ Ol ics 3 1 wx vv gV ∧ Lo W4.heap.size vv ∧ Ol GEdge.cs 129 4 wx ev F ∧ Lo W4.heap.size ev ∧ Blk wx bZ 36 [vv, ev] ∧ (bZ ∉ bl vv) ∧ (∀ g ∈ bl ev, g ∉ bl vv) ∧ (bZ ∉ bl ev)) (fun ⟨i, F, vv, ev⟩ => bC.length - i) (0, gE, (.slice ao (gV).length ap), (.slice aq (gE).length au)) (sC4 rfl rfl rfl rfl (sC1 rfl (Sub.nil _))) ⟨E, (Nat.le_refl _), om, rfl, om, eT, eU, eV, eW, eX, b3, P, b4, Q, bv, (fun hm => by have cw := P _ hm; have cx := aG _ hm; omega), (fun g hm hg => by exact ad _ hg hm), (fun hm => by have cw := Q _ hm; have cx := aH _ hm; omega)⟩ ?_
 rintro ⟨i, F, vv, ev⟩ gn ⟨E, eY, hi, hF, hl, aI, aV, aW, bk, av, a1, ay, aJ, aa, bm, dd, aK, cy⟩
 have cz := E
 have ek := cz.size
 have de := aI.lt
 have df := bk.lt
 have dg := av.lt
 obtain ⟨Avv, Cvv, rfl, lvv, bn⟩ := a1.opn
 obtain ⟨Aev, Cev, rfl, lev, hiev⟩ := aJ.opn
 refine Zh fun gp eZ => ?_
 refine Zh fun gq em => ?_
 refine Zc (Za rfl rfl (Zg rfl) (Za rfl rfl (Zd fa63_0 rfl) (Za rfl rfl (Zp bk.at_ agg61 rfl rfl) (Za rfl rfl (Yr (by rw [el61]; rfl) rfl) (Za rfl rfl (Qw rfl rfl) (Za rfl rfl (Zg rfl) ?_))))))
 refine Yy (d := 21) rfl (fun a3 => ?_) (fun a3 => ?_)
 ·have dh := a3
  have a3 := Yt a3
  refine Za rfl rfl (Zg rfl) (Za rfl rfl (Zga rfl rfl) (Za rfl rfl (Ym rfl rfl) (Ze (Zb (em _ _ ?_)))))
  refine Zz rfl (fun a4 => ?_) (fun a4 => ?_)
  ·have di := a4
   have a4 := Yt a4
   refine Yf ?_
   refine Zb (eZ _ _ ?_)
   refine Zh fun gr cp => ?_
   refine Yn ?_
   refine Zh fun gs e0 => ?_
   refine Zc (Za rfl rfl (Zd fa63_0 rfl) (Za rfl rfl (Zp bk.at_ agg61 rfl rfl) (Za rfl rfl (Zg rfl) (Zl rfl rfl ?_))))
   have en := a0.ch0 cz
   refine (Qm en Chg.len el61 sz142 rfl rfl rfl om fun e1 a cA dj => ?_)
   refine Za rfl rfl (Zd fa142_1 rfl) (Za rfl rfl (Zdl 4 dj agg129 sz129 rfl rfl) (Zl rfl rfl ?_))
   refine Yd zr129 fun eo e2 cY ab gt => ?_
   have e3 := ab.size
   have E := E.trans ab
   have gu := cY.lt
   replace cY : Blk e2 eo 129 [(.int .i64 0), (.int .i64 0), (.int .i64 0), (.int .i64 0)] := cY
   refine Zl rfl rfl ?_
   refine Zk (off := 0) 4 cY sz129 rfl (us := [(.int .i64 a.eid), (.int .i64 a.ef), (.int .i64 a.et), (.int .i64 a.el)]) rfl rfl rfl rfl fun e4 a2 ac => ?_
   have e5 := ac.size
   have E := E.step ac (lS om)
   replace a2 : Blk e4 eo 129 [(.int .i64 a.eid), (.int .i64 a.ef), (.int .i64 a.et), (.int .i64 a.el)] := a2
   refine Ze (Zb (e0 _ _ ?_))
   refine Zh fun gv ep => ?_
   refine Zh fun gw e6 => ?_
   refine Zc (Za rfl rfl (Zd fa63_0 rfl) ?_)
   have dk := (bk.ch0 ab).ch ac (nS om)
   refine Za rfl rfl (Zp dk.at_ agg61 rfl rfl) (Za rfl rfl (Zg rfl) (Zl rfl rfl ?_))
   have e7 := (en.ch0 ab).ch ac (oS om)
   refine (Qm e7 Chg.len el61 sz142 rfl rfl rfl om fun e8 e9 p dl => ?_)
   cases Zdb p cA
   refine Za rfl rfl (Zd fa142_0 rfl) (Za rfl rfl (Zp dl agg4 rfl rfl) (Ze (Zb (e6 _ _ ?_))))
   refine Zz rfl (fun b => ?_) (fun b => ?_)
   ·have dm := b
    refine Zh fun gx fa => ?_
    refine Zc ?_
    have er := (bm.ch0 ab).ch ac (nS om)
    refine Za rfl rfl (Zi er.at_ agg36 sz36 rfl) (Za rfl rfl (Zi a2.at_ agg129 sz129 rfl) (Zl rfl rfl ?_))
    have fb := (a1.ch0 ab).ch ac (dS ay bn om)
    have fc := (aJ.ch0 ab).ch ac (dS aa hiev om)
    refine Step.call (Zm (xs := [.tmp 40, .tmp 41]) fk124 rfl) (Zeb fb.ls fc.ls ⟨a.eid, a.ef, a.et, a.el⟩ om) fun fd gy dn => ?_
    obtain ⟨cZ, c0, rfl, aL, s, aM, u, ae, br⟩ := dn
    have fe := br.size
    have E := E.trans br
    obtain ⟨D, G, rfl, cB, ai⟩ := aL.opn
    obtain ⟨H, I, rfl, cC, aj⟩ := aM.opn
    have ff := Zew gV F a.edge
    refine Za rfl rfl (Zg rfl) (Za rfl rfl (Yb rfl rfl) (Za rfl rfl (Yb rfl rfl) (Zl rfl rfl ?_)))
    refine Yd zr36 fun es fg c1 bp gz => ?_
    have fh := bp.size
    have E := E.trans bp
    have gA := c1.lt
    replace c1 : Blk fg es 36 [(.slice none 0 0), (.slice none 0 0)] := c1
    refine Zl rfl rfl ?_
    refine Zk (off := 0) 2 c1 sz36 rfl (us := [(.slice D (gV).length G), (.slice H ((insR gV F (⟨a.eid, a.ef, a.et, a.el⟩ : GEdge)).1).length I)]) rfl rfl rfl rfl fun fi bw bq => ?_
    have fj := bq.size
    have E := E.step bq (lS om)
    replace bw : Blk fi es 36 [(.slice D (gV).length G), (.slice H ((insR gV F (⟨a.eid, a.ef, a.et, a.el⟩ : GEdge)).1).length I)] := bw
    refine Za rfl rfl (Zf rfl) (Ze (Zb (fa _ _ ?_)))
    refine Zh fun gB eu => ?_
    refine Zh fun gC fk => ?_
    refine Zc (Za rfl rfl (Zg rfl) (Za rfl rfl (Xp rfl) (Ze (Zb (fk _ _ ?_)))))
    refine Zz rfl (fun A => ?_) (fun A => ?_)
    ·have dp := A
     have A := Qj A
     refine Zh fun gD fl => ?_
     refine Zc ?_
     have fm := ((((aI.ch0 ab).ch ac (nS om)).ch0 br).ch0 bp).ch bq (nS om)
     refine Za rfl rfl (Zi fm.at_ agg36 sz36 rfl) (Zl rfl rfl ?_)
     have fn := ((((aV.ch0 ab).ch ac (oS om)).ch0 br).ch0 bp).ch bq (oS om)
     have fo := ((((aW.ch0 ab).ch ac (oS om)).ch0 br).ch0 bp).ch bq (oS om)
     refine Step.call (Zm (xs := [.tmp 47]) fk92 rfl) (Yz fn fo om) fun fp gF dq => ?_
     obtain ⟨c2, c3, rfl, aN, az, aO, aA, af, dr⟩ := dq
     have fq := dr.size
     have E := E.trans dr
     obtain ⟨R, S, rfl, cD, a5⟩ := aN.opn
     obtain ⟨T, U, rfl, cE, a6⟩ := aO.opn
     refine Zl rfl rfl ?_
     have fr := (((((av.ch0 ab).ch ac (nS om)).ch0 br).ch0 bp).ch bq (nS om)).ch0 dr
     refine Zk (off := 0) 2 fr sz36 rfl (us := [(.slice R (gV).length S), (.slice T (gE).length U)]) rfl rfl rfl rfl fun ds bz c4 => ?_
     have fs := c4.size
     have E := E.step c4 (lS om)
     replace bz : Blk ds bI 36 [(.slice R (gV).length S), (.slice T (gE).length U)] := bz
     refine Za rfl rfl (Zf rfl) (Ze (Zb (fl _ _ ?_)))
     refine Zv (Zt (Zt (Yq (Zt (Zt (Yq (Zt ?_)))))))
     clear co cp ep eu
     have ft := aN.ch c4 (dS az a5 om)
     have cF : Ol ics 3 1 ds (.slice R (gV).length S) (gV) := by
      have hx := ft
      first | exact hx | simpa using hx
     have fu := aO.ch c4 (dS aA a6 om)
     have cG : Ol GEdge.cs 129 4 ds (.slice T (gE).length U) ((apL gV gE bC).getD gE) := by
      have hx := fu
      first | exact hx.eq (by rw [Qa hF om]; rfl) | exact hx.eq (by rw [(Xo (k := i + 1) (by rw [Xf hF p]; first | exact Qb b A | exact Zbl b O | exact Zbm b x B | exact Xz b C))]; rfl)
     exact Zj [_, _] (Zn bz rfl agg36 sz36 ⟨rfl, trivial⟩) ⟨(.slice R (gV).length S), (.slice T (gE).length U), (congrArg (fun zq => (Value.tuple #[.agg #[(.slice R (gV).length S), (.slice T (gE).length U)], .bool zq])) (by first | (rw [(Xo (k := i + 1) (by rw [Xf hF p]; first | exact Qb b A | exact Zbl b O | exact Zbm b x B | exact Xz b C))]; rfl) | (rw [Qa hF om]; rfl))), cF, (Lo.down az om), cG, (Lo.down aA om), (fun g hm hg => by exact af _ hm hg), E⟩
    have dp := A
    have A := Qk A
    refine Yf ?_
    refine Zb (eu _ _ ?_)
    refine Zh fun gG fv => ?_
    refine Zc (Za rfl rfl (Zi bw.at_ agg36 sz36 rfl) (Zl rfl rfl ?_))
    have fw := ((er.ch0 br).ch0 bp).ch bq (nS om)
    refine Zk (off := 0) 2 fw sz36 rfl (us := [(.slice D (gV).length G), (.slice H ((insR gV F (⟨a.eid, a.ef, a.et, a.el⟩ : GEdge)).1).length I)]) rfl rfl rfl rfl fun dt bA bL => ?_
    have fx := bL.size
    have E := E.step bL (lS om)
    replace bA : Blk dt bZ 36 [(.slice D (gV).length G), (.slice H ((insR gV F (⟨a.eid, a.ef, a.et, a.el⟩ : GEdge)).1).length I)] := bA
    refine Ze (Zb (fv _ _ ?_))
    refine Xx (Yh (Xg ?_))
    refine Zb (cp _ _ (Zc (Za rfl rfl (Zg rfl) (Za rfl rfl (Xc om rfl rfl) (Za rfl rfl (Zf rfl) (Ze ?_))))))
    have fy := ((aL.ch0 bp).ch bq (dS s ai om)).ch bL (dS s ai om)
    have b5 : Ol ics 3 1 dt (.slice D (gV).length G) (gV) := by
     have hx := fy
     exact hx
    have fz := ((aM.ch0 bp).ch bq (dS u aj om)).ch bL (dS u aj om)
    have b6 : Ol GEdge.cs 129 4 dt (.slice H ((insR gV F (⟨a.eid, a.ef, a.et, a.el⟩ : GEdge)).1).length I) ((insR gV F (⟨a.eid, a.ef, a.et, a.el⟩ : GEdge)).1) := by
     have hx := fz
     exact hx
    have fA := (((((aI.ch0 ab).ch ac (nS om)).ch0 br).ch0 bp).ch bq (nS om)).ch bL (nS om)
    have fB := (((((aV.ch0 ab).ch ac (oS om)).ch0 br).ch0 bp).ch bq (oS om)).ch bL (oS om)
    have fC := (((((aW.ch0 ab).ch ac (oS om)).ch0 br).ch0 bp).ch bq (oS om)).ch bL (oS om)
    have fD := (((dk.ch0 br).ch0 bp).ch bq (nS om)).ch bL (nS om)
    have fE := (((((av.ch0 ab).ch ac (nS om)).ch0 br).ch0 bp).ch bq (nS om)).ch bL (nS om)
    exact Zb (Exists.intro ((i + 1), (insR gV F (⟨a.eid, a.ef, a.et, a.el⟩ : GEdge)).1, (.slice D (gV).length G), (.slice H ((insR gV F (⟨a.eid, a.ef, a.et, a.el⟩ : GEdge)).1).length I)) ⟨⟨E, om, om, (by rw [Xf hF p]; first | exact Zfp b A | exact Zfs b (Zfl x B) C), (by first | exact Nat.le_trans (Zew _ _ _) om | exact Nat.le_trans (Zev _ _ _) om), fA, fB, fC, fD, fE, b5, (Lo.down s om), b6, (Lo.down u om), bA, (fun hm => by have cw := s _ hm; have cx := ai _ hm; omega), (fun g hm hg => by exact ae _ hg hm), (fun hm => by have cw := u _ hm; have cx := aj _ hm; omega)⟩, sC4 rfl rfl rfl rfl (sC1 rfl (Sub.nil _)), (by first | omega | (dsimp only; omega))⟩)
   have dm := b
   refine Yf ?_
   refine Zb (ep _ _ ?_)
   refine Zh fun gH fF => ?_
   refine Zc ?_
   have ew := (bm.ch0 ab).ch ac (nS om)
   refine Za rfl rfl (Zi ew.at_ agg36 sz36 rfl) (Za rfl rfl (Zd fa129_0 rfl) (Za rfl rfl (Zp a2.at_ agg3 rfl rfl) (Zl rfl rfl ?_)))
   have ex := (a1.ch0 ab).ch ac (dS ay bn om)
   have ey := (aJ.ch0 ab).ch ac (dS aa hiev om)
   refine Step.call (Zm (xs := [.tmp 50, .tmp 52]) fk99 rfl) (Zbn ex.ls ey.ls _ ) fun fG gI du => ?_
   obtain ⟨rfl, aP⟩ := du
   have fH := aP.size
   have E := E.trans aP
   have fI := Zip F a.eid
   refine Za rfl rfl (Zf rfl) (Ze (Zb (fF _ _ ?_)))
   refine Zh fun gJ dv => ?_
   refine Zh fun gK ez => ?_
   refine Yv [] 11 mixed rfl fun gL aQ => ?_
   have fJ := aQ.size
   have E := E.trans aQ
   refine dV 0 rfl rfl rfl (fun _ => Zg rfl) (dV 1 rfl rfl rfl (fun _ => Qw rfl rfl) (dV 2 rfl rfl rfl (fun _ => Zg rfl) ?_))
   refine Qq (d := 56) rfl (fun O => ?_) (fun O => ?_)
   ·have dw := O
    have O := Yt O
    refine dK 3 rfl rfl rfl (dK 4 rfl rfl rfl (dK 5 rfl rfl rfl (dK 6 rfl rfl rfl (dK 7 rfl rfl rfl (dK 8 rfl rfl rfl (dK 9 rfl rfl rfl (dV 10 rfl rfl rfl (fun _ => Ym rfl rfl) ?_)))))))
    refine Zw (by kernel_rfl) ?_
    refine Zb (ez _ _ ?_)
    refine Xr rfl ?_
    refine Zh fun gM fK => ?_
    refine Zc ?_
    have fL := (((aI.ch0 ab).ch ac (nS om)).ch0 aP).ch0 aQ
    refine Za rfl rfl (Zi fL.at_ agg36 sz36 rfl) (Zl rfl rfl ?_)
    have fM := (((aV.ch0 ab).ch ac (oS om)).ch0 aP).ch0 aQ
    have fN := (((aW.ch0 ab).ch ac (oS om)).ch0 aP).ch0 aQ
    refine Step.call (Zm (xs := [.tmp 65]) fk92 rfl) (Yz fM fN om) fun dx gN b7 => ?_
    obtain ⟨bM, bN, rfl, q, n, r, o, m, dy⟩ := b7
    have fO := dy.size
    have E := E.trans dy
    obtain ⟨c, e, rfl, bB, ak⟩ := q.opn
    obtain ⟨h, l, rfl, bD, al⟩ := r.opn
    refine Zl rfl rfl ?_
    have fP := ((((av.ch0 ab).ch ac (nS om)).ch0 aP).ch0 aQ).ch0 dy
    refine Zk (off := 0) 2 fP sz36 rfl (us := [(.slice c (gV).length e), (.slice h (gE).length l)]) rfl rfl rfl rfl fun dz bF c5 => ?_
    have fQ := c5.size
    have E := E.step c5 (lS om)
    replace bF : Blk dz bI 36 [(.slice c (gV).length e), (.slice h (gE).length l)] := bF
    refine Za rfl rfl (Zf rfl) (Ze (Zb (fK _ _ ?_)))
    refine Zv (Zt (Yq (Zt (Zt (Yq (Zt ?_))))))
    clear co cp dv
    have fR := q.ch c5 (dS n ak om)
    have cH : Ol ics 3 1 dz (.slice c (gV).length e) (gV) := by
     have hx := fR
     first | exact hx | simpa using hx
    have fS := r.ch c5 (dS o al om)
    have cI : Ol GEdge.cs 129 4 dz (.slice h (gE).length l) ((apL gV gE bC).getD gE) := by
     have hx := fS
     first | exact hx.eq (by rw [Qa hF om]; rfl) | exact hx.eq (by rw [(Xo (k := i + 1) (by rw [Xf hF p]; first | exact Qb b A | exact Zbl b O | exact Zbm b x B | exact Xz b C))]; rfl)
    exact Zj [_, _] (Zn bF rfl agg36 sz36 ⟨rfl, trivial⟩) ⟨(.slice c (gV).length e), (.slice h (gE).length l), (congrArg (fun zq => (Value.tuple #[.agg #[(.slice c (gV).length e), (.slice h (gE).length l)], .bool zq])) (by first | (rw [(Xo (k := i + 1) (by rw [Xf hF p]; first | exact Qb b A | exact Zbl b O | exact Zbm b x B | exact Xz b C))]; rfl) | (rw [Qa hF om]; rfl))), cH, (Lo.down n om), cI, (Lo.down o om), (fun g hm hg => by exact m _ hm hg), E⟩
   have dw := O
   have O := Yu O
   refine dV 3 rfl rfl rfl (fun _ => Zd fa36_1 rfl) ?_
   have dA := (ew.ch0 aP).ch0 aQ
   refine dT 4 rfl rfl rfl (Yi dA.at_ (fun i hi => absurd hi List.not_mem_nil) agg34 rfl rfl ?_)
   refine dV 5 rfl rfl rfl (fun _ => Zg rfl) ?_
   have eA := (a2.ch0 aP).ch0 aQ
   refine dT 8 rfl rfl rfl (Ye eA.at_ (fun i hi => absurd hi List.not_mem_nil) agg129 sz129 rfl ?_)
   refine dO 6 (Zr rfl rfl rfl ?_)
   have eB := (ey.ch0 aP).ch0 aQ
   refine (Qm (j := (eiR F a.eid).toNat) eB.ls GEdge.len el34 sz129 rfl rfl om om fun fT bO x dB => ?_)
   refine ⟨(Ch.refl _ _), ?_⟩
   refine dT 7 rfl rfl rfl (Ye dB (fun i hi => absurd hi List.not_mem_nil) agg129 sz129 rfl ?_)
   refine dV 9 rfl rfl rfl (fun _ => Zim [bO.id, bO.f, bO.t, bO.label] [a.eid, a.ef, a.et, a.el] ist129 rfl rfl rfl) (dV 10 rfl rfl rfl (fun _ => Yl rfl rfl) ?_)
   refine Zw (by kernel_rfl) ?_
   refine Zb (ez _ _ ?_)
   refine Zz rfl (fun B => ?_) (fun B => ?_)
   ·have cJ := B
    have B := Yu (Qj B)
    refine Zh fun fU dC => ?_
    refine Zc ?_
    have dD := (((aI.ch0 ab).ch ac (nS om)).ch0 aP).ch0 aQ
    refine Za rfl rfl (Zi dD.at_ agg36 sz36 rfl) (Zl rfl rfl ?_)
    have dE := (((aV.ch0 ab).ch ac (oS om)).ch0 aP).ch0 aQ
    have dF := (((aW.ch0 ab).ch ac (oS om)).ch0 aP).ch0 aQ
    refine Step.call (Zm (xs := [.tmp 65]) fk92 rfl) (Yz dE dF om) fun dx fV b7 => ?_
    obtain ⟨bM, bN, rfl, q, n, r, o, m, b8⟩ := b7
    have eC := b8.size
    have E := E.trans b8
    obtain ⟨c, e, rfl, bB, ak⟩ := q.opn
    obtain ⟨h, l, rfl, bD, al⟩ := r.opn
    refine Zl rfl rfl ?_
    have dG := ((((av.ch0 ab).ch ac (nS om)).ch0 aP).ch0 aQ).ch0 b8
    refine Zk (off := 0) 2 dG sz36 rfl (us := [(.slice c (gV).length e), (.slice h (gE).length l)]) rfl rfl rfl rfl fun b9 a7 bP => ?_
    have eD := bP.size
    have E := E.step bP (lS om)
    replace a7 : Blk b9 bI 36 [(.slice c (gV).length e), (.slice h (gE).length l)] := a7
    refine Za rfl rfl (Zf rfl) (Ze (Zb (dC _ _ ?_)))
    refine Zv (Zt (Yq (Zt (Zt (Yq (Zt ?_))))))
    clear co cp dv
    have dH := q.ch bP (dS n ak om)
    have ca : Ol ics 3 1 b9 (.slice c (gV).length e) (gV) := by
     have hx := dH
     first | exact hx | simpa using hx
    have dI := r.ch bP (dS o al om)
    have cb : Ol GEdge.cs 129 4 b9 (.slice h (gE).length l) ((apL gV gE bC).getD gE) := by
     have hx := dI
     first | exact hx.eq (by rw [Qa hF om]; rfl) | exact hx.eq (by rw [(Xo (k := i + 1) (by rw [Xf hF p]; first | exact Qb b A | exact Zbl b O | exact Zbm b x B | exact Xz b C))]; rfl)
    exact Zj [_, _] (Zn a7 rfl agg36 sz36 ⟨rfl, trivial⟩) ⟨(.slice c (gV).length e), (.slice h (gE).length l), (congrArg (fun zq => (Value.tuple #[.agg #[(.slice c (gV).length e), (.slice h (gE).length l)], .bool zq])) (by first | (rw [(Xo (k := i + 1) (by rw [Xf hF p]; first | exact Qb b A | exact Zbl b O | exact Zbm b x B | exact Xz b C))]; rfl) | (rw [Qa hF om]; rfl))), ca, (Lo.down n om), cb, (Lo.down o om), (fun g hm hg => by exact m _ hm hg), E⟩
   have cJ := B
   have B := Yt (Qk B)
   refine Yf ?_
   refine Zb (dv _ _ ?_)
   refine Zh fun fW dJ => ?_
   refine Zc (Za rfl rfl (Zi dA.at_ agg36 sz36 rfl) (Za rfl rfl (Zd fa129_0 rfl) (Za rfl rfl (Zp eA.at_ agg3 rfl rfl) (Zl rfl rfl ?_))))
   have dL := (ex.ch0 aP).ch0 aQ
   refine Step.call (Zm (xs := [.tmp 68, .tmp 70]) fk125 rfl) (Zee dL.ls eB.ls _ om) fun fX fY dM => ?_
   obtain ⟨c6, c7, rfl, aR, y, aS, z, ag, aD⟩ := dM
   have eE := aD.size
   have E := E.trans aD
   obtain ⟨J, K, rfl, cK, am⟩ := aR.opn
   obtain ⟨L, M, rfl, cL, an⟩ := aS.opn
   have fZ := Zev gV F a.eid
   refine Za rfl rfl (Zg rfl) (Za rfl rfl (Yb rfl rfl) (Za rfl rfl (Yb rfl rfl) (Zl rfl rfl ?_)))
   refine Yd zr36 fun cM dN bQ aw f0 => ?_
   have eF := aw.size
   have E := E.trans aw
   have f1 := bQ.lt
   replace bQ : Blk dN cM 36 [(.slice none 0 0), (.slice none 0 0)] := bQ
   refine Zl rfl rfl ?_
   refine Zk (off := 0) 2 bQ sz36 rfl (us := [(.slice J (gV).length K), (.slice L ((delR gV F a.eid).1).length M)]) rfl rfl rfl rfl fun dP a8 ax => ?_
   have eG := ax.size
   have E := E.step ax (lS om)
   replace a8 : Blk dP cM 36 [(.slice J (gV).length K), (.slice L ((delR gV F a.eid).1).length M)] := a8
   refine Za rfl rfl (Zf rfl) (Ze (Zb (dJ _ _ ?_)))
   refine Zh fun f2 cN => ?_
   refine Zh fun f3 dQ => ?_
   refine Zc (Za rfl rfl (Zg rfl) (Za rfl rfl (Xp rfl) (Ze (Zb (dQ _ _ ?_)))))
   refine Zz rfl (fun C => ?_) (fun C => ?_)
   ·have cO := C
    have C := Qj C
    refine Zh fun f4 dR => ?_
    refine Zc ?_
    have dU := ((((((aI.ch0 ab).ch ac (nS om)).ch0 aP).ch0 aQ).ch0 aD).ch0 aw).ch ax (nS om)
    refine Za rfl rfl (Zi dU.at_ agg36 sz36 rfl) (Zl rfl rfl ?_)
    have dW := ((((((aV.ch0 ab).ch ac (oS om)).ch0 aP).ch0 aQ).ch0 aD).ch0 aw).ch ax (oS om)
    have dX := ((((((aW.ch0 ab).ch ac (oS om)).ch0 aP).ch0 aQ).ch0 aD).ch0 aw).ch ax (oS om)
    refine Step.call (Zm (xs := [.tmp 76]) fk92 rfl) (Yz dW dX om) fun f5 f6 dY => ?_
    obtain ⟨c8, c9, rfl, aT, aB, aU, aC, ah, cc⟩ := dY
    have eH := cc.size
    have E := E.trans cc
    obtain ⟨V, X, rfl, cP, a9⟩ := aT.opn
    obtain ⟨Y, Z, rfl, cQ, ba⟩ := aU.opn
    refine Zl rfl rfl ?_
    have dZ := (((((((av.ch0 ab).ch ac (nS om)).ch0 aP).ch0 aQ).ch0 aD).ch0 aw).ch ax (nS om)).ch0 cc
    refine Zk (off := 0) 2 dZ sz36 rfl (us := [(.slice V (gV).length X), (.slice Y (gE).length Z)]) rfl rfl rfl rfl fun cd bb bR => ?_
    have eI := bR.size
    have E := E.step bR (lS om)
    replace bb : Blk cd bI 36 [(.slice V (gV).length X), (.slice Y (gE).length Z)] := bb
    refine Za rfl rfl (Zf rfl) (Ze (Zb (dR _ _ ?_)))
    refine Zv (Zt (Yq (Zt (Zt (Yq (Zt ?_))))))
    clear co cp cN
    have d0 := aT.ch bR (dS aB a9 om)
    have ce : Ol ics 3 1 cd (.slice V (gV).length X) (gV) := by
     have hx := d0
     first | exact hx | simpa using hx
    have d1 := aU.ch bR (dS aC ba om)
    have cf : Ol GEdge.cs 129 4 cd (.slice Y (gE).length Z) ((apL gV gE bC).getD gE) := by
     have hx := d1
     first | exact hx.eq (by rw [Qa hF om]; rfl) | exact hx.eq (by rw [(Xo (k := i + 1) (by rw [Xf hF p]; first | exact Qb b A | exact Zbl b O | exact Zbm b x B | exact Xz b C))]; rfl)
    exact Zj [_, _] (Zn bb rfl agg36 sz36 ⟨rfl, trivial⟩) ⟨(.slice V (gV).length X), (.slice Y (gE).length Z), (congrArg (fun zq => (Value.tuple #[.agg #[(.slice V (gV).length X), (.slice Y (gE).length Z)], .bool zq])) (by first | (rw [(Xo (k := i + 1) (by rw [Xf hF p]; first | exact Qb b A | exact Zbl b O | exact Zbm b x B | exact Xz b C))]; rfl) | (rw [Qa hF om]; rfl))), ce, (Lo.down aB om), cf, (Lo.down aC om), (fun g hm hg => by exact ah _ hm hg), E⟩
   have cO := C
   have C := Qk C
   refine Yf ?_
   refine Zb (cN _ _ (Zc (Za rfl rfl (Zi a8.at_ agg36 sz36 rfl) (Zl rfl rfl ?_))))
   have d2 := ((dA.ch0 aD).ch0 aw).ch ax (nS om)
   refine Zk (off := 0) 2 d2 sz36 rfl (us := [(.slice J (gV).length K), (.slice L ((delR gV F a.eid).1).length M)]) rfl rfl rfl rfl fun cg bc aX => ?_
   have eJ := aX.size
   have E := E.step aX (lS om)
   replace bc : Blk cg bZ 36 [(.slice J (gV).length K), (.slice L ((delR gV F a.eid).1).length M)] := bc
   refine Ze (Yc (Zb (cp _ _ (Zc (Za rfl rfl (Zg rfl) (Za rfl rfl (Xc om rfl rfl) (Za rfl rfl (Zf rfl) (Ze ?_))))))))
   have d3 := ((aR.ch0 aw).ch ax (dS y am om)).ch aX (dS y am om)
   have bS : Ol ics 3 1 cg (.slice J (gV).length K) (gV) := by
    have hx := d3
    exact hx
   have d4 := ((aS.ch0 aw).ch ax (dS z an om)).ch aX (dS z an om)
   have bT : Ol GEdge.cs 129 4 cg (.slice L ((delR gV F a.eid).1).length M) ((delR gV F a.eid).1) := by
    have hx := d4
    exact hx
   have d5 := (((((((aI.ch0 ab).ch ac (nS om)).ch0 aP).ch0 aQ).ch0 aD).ch0 aw).ch ax (nS om)).ch aX (nS om)
   have d6 := (((((((aV.ch0 ab).ch ac (oS om)).ch0 aP).ch0 aQ).ch0 aD).ch0 aw).ch ax (oS om)).ch aX (oS om)
   have d7 := (((((((aW.ch0 ab).ch ac (oS om)).ch0 aP).ch0 aQ).ch0 aD).ch0 aw).ch ax (oS om)).ch aX (oS om)
   have d8 := (((((dk.ch0 aP).ch0 aQ).ch0 aD).ch0 aw).ch ax (nS om)).ch aX (nS om)
   have d9 := (((((((av.ch0 ab).ch ac (nS om)).ch0 aP).ch0 aQ).ch0 aD).ch0 aw).ch ax (nS om)).ch aX (nS om)
   exact Zb (Exists.intro ((i + 1), (delR gV F a.eid).1, (.slice J (gV).length K), (.slice L ((delR gV F a.eid).1).length M)) ⟨⟨E, om, om, (by rw [Xf hF p]; first | exact Zfp b A | exact Zfs b (Zfl x B) C), (by first | exact Nat.le_trans (Zew _ _ _) om | exact Nat.le_trans (Zev _ _ _) om), d5, d6, d7, d8, d9, bS, (Lo.down y om), bT, (Lo.down z om), bc, (fun hm => by have cw := y _ hm; have cx := am _ hm; omega), (fun g hm hg => by exact ag _ hg hm), (fun hm => by have cw := z _ hm; have cx := an _ hm; omega)⟩, sC4 rfl rfl rfl rfl (sC1 rfl (Sub.nil _)), (by first | omega | (dsimp only; omega))⟩)
  have di := a4
  have a4 := Yu a4
  refine Xx (Yh (Yh (Xg ?_)))
  refine Zb (co _ _ ?_)
  refine Zh fun f7 ea => ?_
  refine Zc (Za rfl rfl (Zi bm.at_ agg36 sz36 rfl) (Zl rfl rfl ?_))
  refine Zk (off := 0) 2 av sz36 rfl (us := [(.slice Avv (gV).length Cvv), (.slice Aev (F).length Cev)]) rfl rfl rfl rfl fun ci be bU => ?_
  have eK := bU.size
  have E := E.step bU (lS om)
  replace be : Blk ci bI 36 [(.slice Avv (gV).length Cvv), (.slice Aev (F).length Cev)] := be
  refine Za rfl rfl (Zf rfl) (Ze (Zb (ea _ _ ?_)))
  refine Zv ?_
  have eb := a1.ch bU (dS ay bn om)
  have cj : Ol ics 3 1 ci (.slice Avv (gV).length Cvv) (gV) := by
   have hx := eb
   first | exact hx | simpa using hx
  have ec := aJ.ch bU (dS aa hiev om)
  have ck : Ol GEdge.cs 129 4 ci (.slice Aev (F).length Cev) ((apL gV gE bC).getD gE) := by
   have hx := ec
   first | exact hx.eq (by rw [Qa hF om]; rfl) | exact hx.eq (by rw [(Xo (k := i + 1) (by rw [Xf hF p]; first | exact Qb b A | exact Zbl b O | exact Zbm b x B | exact Xz b C))]; rfl)
  exact Zj [_, _] (Zn be rfl agg36 sz36 ⟨rfl, trivial⟩) ⟨(.slice Avv (gV).length Cvv), (.slice Aev (F).length Cev), (congrArg (fun zq => (Value.tuple #[.agg #[(.slice Avv (gV).length Cvv), (.slice Aev (F).length Cev)], .bool zq])) (by first | (rw [(Xo (k := i + 1) (by rw [Xf hF p]; first | exact Qb b A | exact Zbl b O | exact Zbm b x B | exact Xz b C))]; rfl) | (rw [Qa hF om]; rfl))), cj, (Lo.down ay om), ck, (Lo.down aa om), (fun g hm hg => by exact aK _ hg hm), E⟩
 have dh := a3
 have a3 := Yu a3
 refine Zo rfl rfl (Zo rfl rfl (Za rfl rfl (Yl rfl rfl) (Ze (Zb (em _ _ ?_)))))
 refine Zck rfl ?_
 refine Xx (Yh (Yh (Xg ?_)))
 refine Zb (co _ _ ?_)
 refine Zh fun f8 ed => ?_
 refine Zc (Za rfl rfl (Zi bm.at_ agg36 sz36 rfl) (Zl rfl rfl ?_))
 refine Zk (off := 0) 2 av sz36 rfl (us := [(.slice Avv (gV).length Cvv), (.slice Aev (F).length Cev)]) rfl rfl rfl rfl fun cl bf bV => ?_
 have eL := bV.size
 have E := E.step bV (lS om)
 replace bf : Blk cl bI 36 [(.slice Avv (gV).length Cvv), (.slice Aev (F).length Cev)] := bf
 refine Za rfl rfl (Zf rfl) (Ze (Zb (ed _ _ ?_)))
 refine Zv ?_
 have ee := a1.ch bV (dS ay bn om)
 have cm : Ol ics 3 1 cl (.slice Avv (gV).length Cvv) (gV) := by
  have hx := ee
  first | exact hx | simpa using hx
 have eg := aJ.ch bV (dS aa hiev om)
 have cn : Ol GEdge.cs 129 4 cl (.slice Aev (F).length Cev) ((apL gV gE bC).getD gE) := by
  have hx := eg
  first | exact hx.eq (by rw [Qa hF om]; rfl) | exact hx.eq (by rw [(Xo (k := i + 1) (by rw [Xf hF p]; first | exact Qb b A | exact Zbl b O | exact Zbm b x B | exact Xz b C))]; rfl)
 exact Zj [_, _] (Zn bf rfl agg36 sz36 ⟨rfl, trivial⟩) ⟨(.slice Avv (gV).length Cvv), (.slice Aev (F).length Cev), (congrArg (fun zq => (Value.tuple #[.agg #[(.slice Avv (gV).length Cvv), (.slice Aev (F).length Cev)], .bool zq])) (by first | (rw [(Xo (k := i + 1) (by rw [Xf hF p]; first | exact Qb b A | exact Zbl b O | exact Zbm b x B | exact Xz b C))]; rfl) | (rw [Qa hF om]; rfl))), cm, (Lo.down ay om), cn, (Lo.down aa om), (fun g hm hg => by exact aK _ hg hm), E⟩

/-- spec.ApplyBatch -/
theorem Zal {w : World} {LL_gV ai : Nat} {T : Value} {gV : List Int} (C : Ls ics 1 w LL_gV ai T gV) {LL_gE aj : Nat} {U : Value} {gE : List GEdge} (D : Ls GEdge.cs 4 w LL_gE aj U gE) {LL_bC ak : Nat} {V : Value} {bC : List Chg} (F : Ls Chg.cs 5 w LL_bC ak V bC) (hb : gV.length ≤ 4194304 ∧ gE.length ≤ 4194304) :
 Ctr Try.prog 37 #[(.agg #[T, U]), (.agg #[V])] w (fun v w' => ∃ (P : Value) (Q : Value), v = .tuple #[.agg #[P, Q], .bool (tt (ApOk gV gE bC 6))] ∧ Ol ics 3 1 w' P (gV) ∧ Lo w.heap.size P ∧ Ol GEdge.cs 129 4 w' Q ((apE gV gE bC 6)) ∧ Lo w.heap.size Q ∧ (∀ g ∈ bl P, g ∉ bl Q) ∧ Ch [] w w') := by
 obtain ⟨X, Y, ad⟩ := C.val
 subst ad
 have aR := C.len
 have C := C.here (by decide)
 obtain ⟨Z, aa, ae⟩ := D.val
 subst ae
 have aS := D.len
 have D := D.here (by decide)
 obtain ⟨ab, ac, af⟩ := F.val
 subst af
 have aT := F.len
 have F := F.here (by decide)
 have E := Ch.refl [] w
 refine Yj (N := 27) (vs0 := [(.agg #[(.slice X gV.length Y), (.slice Z gE.length aa)]), (.agg #[(.slice ab bC.length ac)])]) Try.func37 rfl rfl rfl ?_
 refine Zh fun K1 H1 => ?_
 refine Zc (Zl rfl rfl ?_)
 refine Xm rfl fun aW W2 ay C2 bG => ?_
 have bH := C2.size
 have E := E.trans C2
 have bI := ay.lt
 replace ay : Blk W2 aW 36 [(.slice X gV.length Y), (.slice Z gE.length aa)] := ay
 refine Zl rfl rfl ?_
 refine Xm rfl fun aX W3 az C3 bJ => ?_
 have bK := C3.size
 have E := E.trans C3
 have bL := az.lt
 replace az : Blk W3 aX 63 [(.slice ab bC.length ac)] := az
 refine Zl rfl rfl ?_
 refine Yd zr36 fun aA W4 ah C4 bM => ?_
 have bN := C4.size
 have E := E.trans C4
 have bO := ah.lt
 replace ah : Blk W4 aA 36 [(.slice none 0 0), (.slice none 0 0)] := ah
 refine Za rfl rfl (Zf rfl) (Ze (Zb (H1 _ _ ?_)))
 refine Zh fun K5 H5 => ?_
 refine Zh fun K6 H6 => ?_
 refine Zc ?_
 have F7 := (ay.ch0 C3).ch0 C4
 refine Za rfl rfl (Zi F7.at_ agg36 sz36 rfl) (Zl rfl rfl ?_)
 have F8 := ((C.ch0 C2).ch0 C3).ch0 C4
 have F9 := ((D.ch0 C2).ch0 C3).ch0 C4
 refine Step.call (Zm (xs := [.tmp 8]) fk88 rfl) (Zad F8 F9 ) fun bP bQ aY => ?_
 obtain ⟨rfl, G⟩ := aY
 have aZ := G.size
 have E := E.trans G
 refine Za rfl rfl (Xp rfl) (Za rfl rfl (Zg rfl) ?_)
 refine Yy (d := 11) rfl (fun p => ?_) (fun p => ?_)
 ·have aH := p
  have p := bf_t (Qj p)
  refine Zo rfl rfl (Zo rfl rfl (Zo rfl rfl (Zo rfl rfl (Za rfl rfl (Ym rfl rfl) (Ze (Zb (H6 _ _ ?_)))))))
  refine Xr rfl ?_
  refine Zh fun bR a0 => ?_
  refine Zc ?_
  have a1 := F7.ch0 G
  refine Za rfl rfl (Zi a1.at_ agg36 sz36 rfl) (Zl rfl rfl ?_)
  have a2 := F8.ch0 G
  have a3 := F9.ch0 G
  refine Step.call (Zm (xs := [.tmp 17]) fk92 rfl) (Yz a2 a3 om) fun aI bS ag => ?_
  obtain ⟨R, S, rfl, j, h, k, i, f, aJ⟩ := ag
  have a4 := aJ.size
  have E := E.trans aJ
  obtain ⟨a, b, rfl, I, u⟩ := j.opn
  obtain ⟨c, e, rfl, J, x⟩ := k.opn
  refine Zl rfl rfl ?_
  have a5 := (ah.ch0 G).ch0 aJ
  refine Zk (off := 0) 2 a5 sz36 rfl (us := [(.slice a (gV).length b), (.slice c (gE).length e)]) rfl rfl rfl rfl fun aK K aB => ?_
  have a6 := aB.size
  have E := E.step aB (lS om)
  replace K : Blk aK aA 36 [(.slice a (gV).length b), (.slice c (gE).length e)] := K
  refine Za rfl rfl (Zf rfl) (Ze (Zb (a0 _ _ ?_)))
  refine Zv (Zt ?_)
  have a7 := j.ch aB (dS h u om)
  have al : Ol ics 3 1 aK (.slice a (gV).length b) (gV) := by
   have hx := a7
   first | exact hx | simpa using hx
  have a8 := k.ch aB (dS i x om)
  have am : Ol GEdge.cs 129 4 aK (.slice c (gE).length e) ((apE gV gE bC 6)) := by
   have hx := a8
   first | exact hx.eq (ap_n (by first | exact fun q => p q.1 | exact fun q => absurd q.2.1 om)).1.symm | exact hx.eq (Zfi p om).1.symm
  exact Zj [_, _] (Zn K rfl agg36 sz36 ⟨rfl, trivial⟩) ⟨(.slice a (gV).length b), (.slice c (gE).length e), (congrArg (fun zq => (Value.tuple #[.agg #[(.slice a (gV).length b), (.slice c (gE).length e)], .bool zq])) (by first | exact (ap_n (by first | exact fun q => p q.1 | exact fun q => absurd q.2.1 om)).2.symm | exact (Zfi p om).2.symm)), al, (Lo.down h om), am, (Lo.down i om), (fun g hm hg => by exact f _ hm hg), E⟩
 have aH := p
 have p := bt_t (Qk p)
 refine Za rfl rfl (Zd fa63_0 rfl) ?_
 have aU := (az.ch0 C4).ch0 G
 refine Za rfl rfl (Zp aU.at_ agg61 rfl rfl) (Za rfl rfl (Yr (by rw [el61]; rfl) rfl) (Za rfl rfl (Zcj rfl rfl) (Za rfl rfl (Yl rfl rfl) (Ze (Zb (H6 _ _ ?_))))))
 refine Zz rfl (fun H => ?_) (fun H => ?_)
 ·have aL := H
  have H := Yt H
  refine Zh fun bT a9 => ?_
  refine Zc ?_
  have ba := F7.ch0 G
  refine Za rfl rfl (Zi ba.at_ agg36 sz36 rfl) (Zl rfl rfl ?_)
  have bb := F8.ch0 G
  have bc := F9.ch0 G
  refine Step.call (Zm (xs := [.tmp 17]) fk92 rfl) (Yz bb bc om) fun aI bU ag => ?_
  obtain ⟨R, S, rfl, j, h, k, i, f, aM⟩ := ag
  have be := aM.size
  have E := E.trans aM
  obtain ⟨a, b, rfl, I, u⟩ := j.opn
  obtain ⟨c, e, rfl, J, x⟩ := k.opn
  refine Zl rfl rfl ?_
  have bf := (ah.ch0 G).ch0 aM
  refine Zk (off := 0) 2 bf sz36 rfl (us := [(.slice a (gV).length b), (.slice c (gE).length e)]) rfl rfl rfl rfl fun aN L aC => ?_
  have bg := aC.size
  have E := E.step aC (lS om)
  replace L : Blk aN aA 36 [(.slice a (gV).length b), (.slice c (gE).length e)] := L
  refine Za rfl rfl (Zf rfl) (Ze (Zb (a9 _ _ ?_)))
  refine Zv (Zt ?_)
  have bh := j.ch aC (dS h u om)
  have an : Ol ics 3 1 aN (.slice a (gV).length b) (gV) := by
   have hx := bh
   first | exact hx | simpa using hx
  have bi := k.ch aC (dS i x om)
  have ao : Ol GEdge.cs 129 4 aN (.slice c (gE).length e) ((apE gV gE bC 6)) := by
   have hx := bi
   first | exact hx.eq (ap_n (by first | exact fun q => p q.1 | exact fun q => absurd q.2.1 om)).1.symm | exact hx.eq (Zfi p om).1.symm
  exact Zj [_, _] (Zn L rfl agg36 sz36 ⟨rfl, trivial⟩) ⟨(.slice a (gV).length b), (.slice c (gE).length e), (congrArg (fun zq => (Value.tuple #[.agg #[(.slice a (gV).length b), (.slice c (gE).length e)], .bool zq])) (by first | exact (ap_n (by first | exact fun q => p q.1 | exact fun q => absurd q.2.1 om)).2.symm | exact (Zfi p om).2.symm)), an, (Lo.down h om), ao, (Lo.down i om), (fun g hm hg => by exact f _ hm hg), E⟩
 have aL := H
 have H := Yu H
 refine Yf ?_
 refine Zb (H5 _ _ ?_)
 refine Zh fun bV bj => ?_
 refine Zc ?_
 have bk := F7.ch0 G
 refine Za rfl rfl (Zi bk.at_ agg36 sz36 rfl) (Za rfl rfl (Zi aU.at_ agg63 sz63 rfl) (Zl rfl rfl ?_))
 have bm := F8.ch0 G
 have bn := F9.ch0 G
 have bp := (((F.ch0 C2).ch0 C3).ch0 C4).ch0 G
 refine Step.call (Zm (xs := [.tmp 20, .tmp 21]) fk93 rfl) (Zde bm bn bp (by have bW := p.2.2.1; have bX := p.2.2.2; omega) om) fun bq bY aO => ?_
 obtain ⟨aD, aE, rfl, y, r, z, s, t, aP⟩ := aO
 have br := aP.size
 have E := E.trans aP
 obtain ⟨l, m, rfl, ap, A⟩ := y.opn
 obtain ⟨n, o, rfl, aq, B⟩ := z.opn
 refine Za rfl rfl (Zg rfl) (Za rfl rfl (Yb rfl rfl) (Za rfl rfl (Yb rfl rfl) (Zl rfl rfl ?_)))
 refine Yd zr36 fun aV bs aF au bZ => ?_
 have bu := au.size
 have E := E.trans au
 have b0 := aF.lt
 replace aF : Blk bs aV 36 [(.slice none 0 0), (.slice none 0 0)] := aF
 refine Zl rfl rfl ?_
 refine Zk (off := 0) 2 aF sz36 rfl (us := [(.slice l (gV).length m), (.slice n ((apL gV gE bC).getD gE).length o)]) rfl rfl rfl rfl fun bv M av => ?_
 have bw := av.size
 have E := E.step av (lS om)
 replace M : Blk bv aV 36 [(.slice l (gV).length m), (.slice n ((apL gV gE bC).getD gE).length o)] := M
 refine Za rfl rfl (Zf rfl) (Ze (Zb (bj _ _ ?_)))
 refine Zh fun b1 bz => ?_
 refine Zc (Za rfl rfl (Zi M.at_ agg36 sz36 rfl) (Za rfl rfl (Zg rfl) (Zl rfl rfl ?_)))
 have bA := (((ah.ch0 G).ch0 aP).ch0 au).ch av (nS om)
 refine Zk (off := 0) 2 bA sz36 rfl (us := [(.slice l (gV).length m), (.slice n ((apL gV gE bC).getD gE).length o)]) rfl rfl rfl rfl fun aQ O aG => ?_
 have bB := aG.size
 have E := E.step aG (lS om)
 replace O : Blk aQ aA 36 [(.slice l (gV).length m), (.slice n ((apL gV gE bC).getD gE).length o)] := O
 refine Za rfl rfl (Zf rfl) (Ze (Zb (bz _ _ ?_)))
 refine Zv ?_
 have bD := ((y.ch0 au).ch av (dS r A om)).ch aG (dS r A om)
 have aw : Ol ics 3 1 aQ (.slice l (gV).length m) (gV) := by
  have hx := bD
  first | exact hx | simpa using hx
 have bF := ((z.ch0 au).ch av (dS s B om)).ch aG (dS s B om)
 have ax : Ol GEdge.cs 129 4 aQ (.slice n ((apL gV gE bC).getD gE).length o) ((apE gV gE bC 6)) := by
  have hx := bF
  first | exact hx.eq (ap_n (by first | exact fun q => p q.1 | exact fun q => absurd q.2.1 om)).1.symm | exact hx.eq (Zfi p om).1.symm
 exact Zj [_, _] (Zn O rfl agg36 sz36 ⟨rfl, trivial⟩) ⟨(.slice l (gV).length m), (.slice n ((apL gV gE bC).getD gE).length o), (congrArg (fun zq => (Value.tuple #[.agg #[(.slice l (gV).length m), (.slice n ((apL gV gE bC).getD gE).length o)], .bool zq])) (by first | exact (ap_n (by first | exact fun q => p q.1 | exact fun q => absurd q.2.1 om)).2.symm | exact (Zfi p om).2.symm)), aw, (Lo.down r om), ax, (Lo.down s om), (fun g hm hg => by exact t _ hm hg), E⟩

/-- spec.l2Cmp -/
theorem Zem {w : World} {LL_a G : Nat} {t : Value} {a : List Int} (q : Ls ics 1 w LL_a G t a) {LL_b H : Nat} {u : Value} {b : List Int} (r : Ls ics 1 w LL_b H u b) :
 Ctr Try.prog 89 #[t, u] w (fun v w' => v = .int .i64 (cmpL a b) ∧ Ch [] w w') := by
 obtain ⟨x, y, z⟩ := q.val
 subst z
 have ac := q.len
 have q := q.here (by decide)
 obtain ⟨A, B, C⟩ := r.val
 subst C
 have ad := r.len
 have r := r.here (by decide)
 have E := Ch.refl [] w
 refine Yj (N := 46) (vs0 := [(.slice x a.length y), (.slice A b.length B)]) Try.func89 rfl rfl rfl ?_
 refine Zh fun K1 H1 => ?_
 refine Zc (Za rfl rfl (Zf rfl) (Ze (Zb (H1 _ _ ?_))))
 refine Zh fun K2 H2 => ?_
 refine Zh fun K3 H3 => ?_
 refine Zc (Za rfl rfl (Zf rfl) (Ze (Zb (H3 _ _ ?_))))
 refine Yn ?_
 refine Ql (σ := Nat) (fun (k : Nat) => [(0, (.slice x a.length y)), (1, (.slice A b.length B)), (5, (.int .i64 ((k : Nat) : Int)))]) (fun (k : Nat) wx => Ch [] w wx ∧ w.heap.size ≤ wx.heap.size ∧ (k ≤ a.length) ∧ (k ≤ b.length) ∧ (a.take k = b.take k)) (fun (k : Nat) => a.length - k) 0 (sC2 rfl rfl (sC1 rfl (Sub.nil _))) ⟨E, (Nat.le_refl _), om, om, rfl⟩ ?_
 rintro k R4 ⟨E, ae, aL, af, n⟩
 have s := E
 have T := s.size
 refine Zh fun K5 H5 => ?_
 refine Zh fun K6 H6 => ?_
 refine Zc (Za rfl rfl (Zg rfl) (Za rfl rfl (Zg rfl) (Za rfl rfl (Yr (by rw [el22]; rfl) rfl) (Za rfl rfl (Qw rfl rfl) (Za rfl rfl (Zg rfl) ?_)))))
 refine Yy (d := 10) rfl (fun o => ?_) (fun o => ?_)
 ·have ag := o
  have o := Yt o
  refine Za rfl rfl (Zg rfl) (Za rfl rfl (Zg rfl) (Za rfl rfl (Yr (by rw [el22]; rfl) rfl) (Za rfl rfl (Qw rfl rfl) (Za rfl rfl (Ym rfl rfl) (Ze (Zb (H6 _ _ ?_)))))))
  refine Zz rfl (fun p => ?_) (fun p => ?_)
  ·have ah := p
   have p := Yt p
   refine Yf ?_
   refine Zb (H5 _ _ ?_)
   refine Zh fun K9 H9 => ?_
   refine Yn ?_
   refine Zh fun aM U => ?_
   refine Zh fun aN ai => ?_
   refine Yv [] 9 mixed rfl fun aO D => ?_
   have aj := D.size
   have E := E.trans D
   refine dV 0 rfl rfl rfl (fun _ => Zg rfl) (dV 1 rfl rfl rfl (fun _ => Zg rfl) ?_)
   have V := (q.ch0 s).ch0 D
   refine dT 2 rfl rfl rfl (Xh V Yx el22 sz3 rfl rfl rfl om fun ak al c I => ?_)
   refine dT 3 rfl rfl rfl (Zbt I (fun i hi => absurd hi List.not_mem_nil) agg3 rfl rfl ?_)
   refine dV 4 rfl rfl rfl (fun _ => Zg rfl) (dV 5 rfl rfl rfl (fun _ => Zg rfl) ?_)
   have X := (r.ch0 s).ch0 D
   refine dT 6 rfl rfl rfl (Xh X Yx el22 sz3 rfl rfl rfl om fun am an e J => ?_)
   refine dT 7 rfl rfl rfl (Zbt J (fun i hi => absurd hi List.not_mem_nil) agg3 rfl rfl ?_)
   refine dV 8 rfl rfl rfl (fun _ => Qw rfl rfl) ?_
   refine Zw (by kernel_rfl) ?_
   refine Zb (ai _ _ ?_)
   refine Zz rfl (fun f => ?_) (fun f => ?_)
   ·have K := f
    have f := Yt f
    refine Zh fun aP ao => ?_
    refine Zc (Za rfl rfl (Zf rfl) (Ze (Zb (ao _ _ ?_))))
    refine Zv (Zt (Yq (Zt (Zt (Yq (Zt ?_))))))
    clear H2 H9 U
    exact Zj [_] ⟨rfl, trivial⟩ ⟨congrArg (Value.int .i64) (by first | exact Zcv n c e f | exact Zct n l m g | (have hc := Zbx n om om om; rw [hc]; first | (rw [if_pos om]; done) | (rw [if_neg om, if_pos om]; done) | (rw [if_neg om, if_neg om]; done))), E⟩
   have K := f
   have f := Yu f
   refine Yf ?_
   refine Zb (U _ _ ?_)
   refine Zh fun aQ ap => ?_
   refine Yv [] 9 mixed rfl fun aR F => ?_
   have aq := F.size
   have E := E.trans F
   refine dV 0 rfl rfl rfl (fun _ => Zg rfl) (dV 1 rfl rfl rfl (fun _ => Zg rfl) ?_)
   have au := V.ch0 F
   refine dT 2 rfl rfl rfl (Xh au Yx el22 sz3 rfl rfl rfl om fun av aw l L => ?_)
   refine dT 3 rfl rfl rfl (Zbt L (fun i hi => absurd hi List.not_mem_nil) agg3 rfl rfl ?_)
   refine dV 4 rfl rfl rfl (fun _ => Zg rfl) (dV 5 rfl rfl rfl (fun _ => Zg rfl) ?_)
   have ax := X.ch0 F
   refine dT 6 rfl rfl rfl (Xh ax Yx el22 sz3 rfl rfl rfl om fun ay az m M => ?_)
   refine dT 7 rfl rfl rfl (Zbt M (fun i hi => absurd hi List.not_mem_nil) agg3 rfl rfl ?_)
   refine dV 8 rfl rfl rfl (fun _ => Zcj rfl rfl) ?_
   refine Zw (by kernel_rfl) ?_
   refine Zb (ap _ _ ?_)
   refine Zz rfl (fun g => ?_) (fun g => ?_)
   ·have O := g
    have g := Yt g
    refine Zh fun aS aA => ?_
    refine Zc (Za rfl rfl (Zf rfl) (Ze (Zb (aA _ _ ?_))))
    refine Zv (Yq (Zt (Zt (Yq (Zt ?_)))))
    clear H2 H9
    exact Zj [_] ⟨rfl, trivial⟩ ⟨congrArg (Value.int .i64) (by first | exact Zcv n c e f | exact Zct n l m g | (have hc := Zbx n om om om; rw [hc]; first | (rw [if_pos om]; done) | (rw [if_neg om, if_pos om]; done) | (rw [if_neg om, if_neg om]; done))), E⟩
   have O := g
   have g := Yu g
   refine Yf ?_
   refine Yc (Zb (H9 _ _ (Zc (Za rfl rfl (Zg rfl) (Za rfl rfl (Xc om rfl rfl) (Za rfl rfl (Zf rfl) (Ze ?_)))))))
   exact Zb (Exists.intro (k + 1) ⟨⟨E, om, om, om, (Zbk n c e (by have aT := Zdb c l; have aU := Zdb e m; omega))⟩, sC2 rfl rfl (sC1 rfl (Sub.nil _)), (by first | omega | (dsimp only; omega))⟩)
  have ah := p
  have p := Yu p
  refine Xx (Yh (Yh (Xg ?_)))
  refine Zb (H2 _ _ ?_)
  refine Zh fun aV Y => ?_
  refine Zh fun aW aB => ?_
  refine Zc (Za rfl rfl (Zg rfl) (Za rfl rfl (Yr (by rw [el22]; rfl) rfl) (Za rfl rfl (Zg rfl) (Za rfl rfl (Yr (by rw [el22]; rfl) rfl) (Za rfl rfl (Qw rfl rfl) (Ze (Zb (aB _ _ ?_))))))))
  refine Zz rfl (fun h => ?_) (fun h => ?_)
  ·have P := h
   have h := Yt h
   refine Zh fun aX aC => ?_
   refine Zc (Za rfl rfl (Zf rfl) (Ze (Zb (aC _ _ ?_))))
   refine Zv (Zt ?_)
   clear H5 Y
   exact Zj [_] ⟨rfl, trivial⟩ ⟨congrArg (Value.int .i64) (by first | exact Zcv n c e f | exact Zct n l m g | (have hc := Zbx n om om om; rw [hc]; first | (rw [if_pos om]; done) | (rw [if_neg om, if_pos om]; done) | (rw [if_neg om, if_neg om]; done))), E⟩
  have P := h
  have h := Yu h
  refine Yf ?_
  refine Zb (Y _ _ ?_)
  refine Zh fun aY Z => ?_
  refine Zh fun aZ aD => ?_
  refine Zc (Za rfl rfl (Zg rfl) (Za rfl rfl (Yr (by rw [el22]; rfl) rfl) (Za rfl rfl (Zg rfl) (Za rfl rfl (Yr (by rw [el22]; rfl) rfl) (Za rfl rfl (Zcj rfl rfl) (Ze (Zb (aD _ _ ?_))))))))
  refine Zz rfl (fun j => ?_) (fun j => ?_)
  ·have Q := j
   have j := Yt j
   refine Zh fun a0 aE => ?_
   refine Zc (Za rfl rfl (Zf rfl) (Ze (Zb (aE _ _ ?_))))
   refine Zv (Zt ?_)
   clear H5 Z
   exact Zj [_] ⟨rfl, trivial⟩ ⟨congrArg (Value.int .i64) (by first | exact Zcv n c e f | exact Zct n l m g | (have hc := Zbx n om om om; rw [hc]; first | (rw [if_pos om]; done) | (rw [if_neg om, if_pos om]; done) | (rw [if_neg om, if_neg om]; done))), E⟩
  have Q := j
  have j := Yu j
  refine Yf ?_
  refine Zb (Z _ _ ?_)
  refine Zh fun a1 aF => ?_
  refine Zc (Za rfl rfl (Zf rfl) (Ze (Zb (aF _ _ ?_))))
  refine Zv ?_
  exact Zj [_] ⟨rfl, trivial⟩ ⟨congrArg (Value.int .i64) (by first | exact Zcv n c e f | exact Zct n l m g | (have hc := Zbx n om om om; rw [hc]; first | (rw [if_pos om]; done) | (rw [if_neg om, if_pos om]; done) | (rw [if_neg om, if_neg om]; done))), E⟩
 have ag := o
 have o := Yu o
 refine Zo rfl rfl (Zo rfl rfl (Zo rfl rfl (Zo rfl rfl (Za rfl rfl (Yl rfl rfl) (Ze (Zb (H6 _ _ ?_)))))))
 refine Zck rfl ?_
 refine Xx (Yh (Yh (Xg ?_)))
 refine Zb (H2 _ _ ?_)
 refine Zh fun a2 aa => ?_
 refine Zh fun a3 aG => ?_
 refine Zc (Za rfl rfl (Zg rfl) (Za rfl rfl (Yr (by rw [el22]; rfl) rfl) (Za rfl rfl (Zg rfl) (Za rfl rfl (Yr (by rw [el22]; rfl) rfl) (Za rfl rfl (Qw rfl rfl) (Ze (Zb (aG _ _ ?_))))))))
 refine Zz rfl (fun h => ?_) (fun h => ?_)
 ·have R := h
  have h := Yt h
  refine Zh fun a4 aH => ?_
  refine Zc (Za rfl rfl (Zf rfl) (Ze (Zb (aH _ _ ?_))))
  refine Zv (Zt ?_)
  clear H5 aa
  exact Zj [_] ⟨rfl, trivial⟩ ⟨congrArg (Value.int .i64) (by first | exact Zcv n c e f | exact Zct n l m g | (have hc := Zbx n om om om; rw [hc]; first | (rw [if_pos om]; done) | (rw [if_neg om, if_pos om]; done) | (rw [if_neg om, if_neg om]; done))), E⟩
 have R := h
 have h := Yu h
 refine Yf ?_
 refine Zb (aa _ _ ?_)
 refine Zh fun a5 ab => ?_
 refine Zh fun a6 aI => ?_
 refine Zc (Za rfl rfl (Zg rfl) (Za rfl rfl (Yr (by rw [el22]; rfl) rfl) (Za rfl rfl (Zg rfl) (Za rfl rfl (Yr (by rw [el22]; rfl) rfl) (Za rfl rfl (Zcj rfl rfl) (Ze (Zb (aI _ _ ?_))))))))
 refine Zz rfl (fun j => ?_) (fun j => ?_)
 ·have S := j
  have j := Yt j
  refine Zh fun a7 aJ => ?_
  refine Zc (Za rfl rfl (Zf rfl) (Ze (Zb (aJ _ _ ?_))))
  refine Zv (Zt ?_)
  clear H5 ab
  exact Zj [_] ⟨rfl, trivial⟩ ⟨congrArg (Value.int .i64) (by first | exact Zcv n c e f | exact Zct n l m g | (have hc := Zbx n om om om; rw [hc]; first | (rw [if_pos om]; done) | (rw [if_neg om, if_pos om]; done) | (rw [if_neg om, if_neg om]; done))), E⟩
 have S := j
 have j := Yu j
 refine Yf ?_
 refine Zb (ab _ _ ?_)
 refine Zh fun a8 aK => ?_
 refine Zc (Za rfl rfl (Zf rfl) (Ze (Zb (aK _ _ ?_))))
 refine Zv ?_
 exact Zj [_] ⟨rfl, trivial⟩ ⟨congrArg (Value.int .i64) (by first | exact Zcv n c e f | exact Zct n l m g | (have hc := Zbx n om om om; rw [hc]; first | (rw [if_pos om]; done) | (rw [if_neg om, if_pos om]; done) | (rw [if_neg om, if_neg om]; done))), E⟩

/-- spec.IsValidHistory -/
theorem Xy {w : World} (hF : Int) {LL_shG H : Nat} {z : Value} {shG : List Gv} (c : Ls Gv.cs 2 w LL_shG H z shG) {LR_hG BB_hG : Nat} {hG : List GD} (h : RdG w LR_hG BB_hG shG hG) :
 Ctr Try.prog 34 #[(.agg #[(.int .i64 hF), z])] w (fun v w' => v = .bool (tt (Xw hF hG)) ∧ Ch [] w w') := by
 obtain ⟨r, s, B⟩ := c.val
 subst B
 have U := c.len
 have c := c.here (by decide)
 have h := h.here
 have l := h.1
 have E := Ch.refl [] w
 refine Yj (N := 47) (vs0 := [(.agg #[(.int .i64 hF), (.slice r shG.length s)])]) Try.func34 rfl rfl rfl ?_
 refine Zh fun K1 H1 => ?_
 refine Zc (Zl rfl rfl ?_)
 refine Xm rfl fun X W2 R C2 bj => ?_
 have bk := C2.size
 have E := E.trans C2
 have bm := R.lt
 replace R : Blk W2 X 57 [(.int .i64 hF), (.slice r shG.length s)] := R
 refine Za rfl rfl (Zf rfl) (Ze (Zb (H1 _ _ ?_)))
 refine Zh fun K3 H3 => ?_
 refine Zh fun K4 H4 => ?_
 refine Zc (Za rfl rfl (Zf rfl) (Ze (Zb (H4 _ _ ?_))))
 refine Yn ?_
 refine Ql (σ := Nat) (fun (k : Nat) => [(1, (.pointer (some ⟨X, 0, none⟩))), (3, (.int .i64 ((k : Nat) : Int)))]) (fun (k : Nat) wx => Ch [] w wx ∧ W2.heap.size ≤ wx.heap.size ∧ (k ≤ hG.length) ∧ (Zdx hG k) ∧ Blk wx X 57 [(.int .i64 hF), (.slice r shG.length s)]) (fun (k : Nat) => hG.length - k) 0 (sC2 rfl rfl (Sub.nil _)) ⟨E, (Nat.le_refl _), om, (Zgo _), R⟩ ?_
 rintro k R5 ⟨E, aK, bn, hs, m⟩
 have I := E
 have aF := I.size
 have Y := m.lt
 refine Zh fun K6 H6 => ?_
 refine Zh fun K7 H7 => ?_
 refine Zc (Za rfl rfl (Zg rfl) (Za rfl rfl (Zd fa57_1 rfl) (Za rfl rfl (Zp m.at_ agg55 rfl rfl) (Za rfl rfl (Yr (by rw [el55]; rfl) rfl) (Za rfl rfl (Qw rfl rfl) (Ze (Zb (H7 _ _ ?_))))))))
 refine Zz rfl (fun J => ?_) (fun J => ?_)
 ·have aL := J
  have J := Yt J
  refine Yf ?_
  refine Zb (H6 _ _ ?_)
  refine Zh fun K9 H9 => ?_
  refine Yn ?_
  refine Zh fun bp aG => ?_
  refine Yv [] 22 mixed rfl fun F L => ?_
  have aM := L.size
  have E := E.trans L
  refine dV 0 rfl rfl rfl (fun _ => Zd fa57_1 rfl) ?_
  have S := m.ch0 L
  refine dT 1 rfl rfl rfl (Yi S.at_ (fun i hi => absurd hi List.not_mem_nil) agg55 rfl rfl ?_)
  refine dV 2 rfl rfl rfl (fun _ => Zg rfl) ?_
  have Z := (c.ch0 I).ch0 L
  have aa := (h.ch0 I).ch0 L
  refine dT 3 rfl rfl rfl (Xh Z Gv.len el55 sz36 rfl rfl rfl om fun aN ab M ac => ?_)
  obtain ⟨u, a, n, A⟩ := aa.get M
  obtain ⟨⟨ad, aO, ae⟩, ⟨af, aP, ag⟩⟩ := ab
  obtain rfl := n.eqn
  obtain rfl := A.eqn
  have aQ := n.len
  have aR := A.len
  replace n : Ls ics 1 F LR_hG w.heap.size (.slice ad u.V.length ae) u.V := n
  replace A : Ls GEdge.cs 4 F LR_hG w.heap.size (.slice af u.E.length ag) u.E := A
  refine dT 4 rfl rfl rfl (Ye ac (fun i hi => absurd hi List.not_mem_nil) agg36 sz36 rfl ?_)
  refine dO 5 (Zr rfl rfl rfl ?_)
  refine Step.call (Zm (xs := [.tmp 15]) fk88 rfl) (Zad n A ) fun aS aT ah => ?_
  obtain ⟨rfl, K⟩ := ah
  have aU := K.size
  have E := E.trans K
  have G : Ch [] F aT := ((Ch.refl _ _).trans K)
  refine ⟨G, ?_⟩
  refine dV 6 rfl rfl rfl (fun _ => Xp rfl) (dV 7 rfl rfl rfl (fun _ => Zg rfl) ?_)
  refine Qq (d := 18) rfl (fun b => ?_) (fun b => ?_)
  ·have ai := b
   have b := bf_t (Qj b)
   refine dK 8 rfl rfl rfl (dK 9 rfl rfl rfl (dK 10 rfl rfl rfl (dK 11 rfl rfl rfl (dK 12 rfl rfl rfl (dK 13 rfl rfl rfl (dK 14 rfl rfl rfl (dK 15 rfl rfl rfl ?_)))))))
   refine dK 16 rfl rfl rfl (dK 17 rfl rfl rfl (dK 18 rfl rfl rfl (dK 19 rfl rfl rfl (dK 20 rfl rfl rfl (dV 21 rfl rfl rfl (fun _ => Ym rfl rfl) ?_)))))
   refine Zw (by kernel_rfl) ?_
   refine Zb (aG _ _ ?_)
   refine Xr rfl ?_
   refine Zh fun bq aV => ?_
   refine Zc (Za rfl rfl (Zf rfl) (Ze (Zb (aV _ _ ?_))))
   refine Zv (Yq (Zt (Zt (Yq (Zt ?_)))))
   clear H3 H9
   exact Zj [_] ⟨rfl, trivial⟩ ⟨congrArg Value.bool (by first | exact Zu (fun q => b (Zbi q a)) | exact Zu (fun q => e (Zay.2 (Zaz q f g))) | (rw [l]; exact vh_y hs om om) | exact Zu (fun q => by have aj := q.2.1; omega)), E⟩
  have ai := b
  have b := bt_t (Qk b)
  refine dV 8 rfl rfl rfl (fun _ => Zd fa57_1 rfl) ?_
  refine dT 9 rfl rfl rfl (Yi S.at_ (fun i hi => absurd hi List.not_mem_nil) agg55 rfl rfl ?_)
  refine dV 10 rfl rfl rfl (fun _ => Zg rfl) ?_
  refine dT 11 rfl rfl rfl (Xh Z Gv.len el55 sz36 rfl rfl rfl om fun aW ak O al => ?_)
  obtain ⟨x, f, o, C⟩ := aa.get O
  obtain ⟨⟨am, aX, an⟩, ⟨ao, aY, ap⟩⟩ := ak
  obtain rfl := o.eqn
  obtain rfl := C.eqn
  have aZ := o.len
  have a0 := C.len
  replace o : Ls ics 1 F LR_hG w.heap.size (.slice am x.V.length an) x.V := o
  replace C : Ls GEdge.cs 4 F LR_hG w.heap.size (.slice ao x.E.length ap) x.E := C
  refine dV 12 rfl rfl rfl (fun _ => Zd fa36_0 rfl) ?_
  refine dT 13 rfl rfl rfl (Yi al (fun i hi => absurd hi List.not_mem_nil) agg22 rfl rfl ?_)
  refine dV 14 rfl rfl rfl (fun _ => Zd fa57_1 rfl) ?_
  refine dT 15 rfl rfl rfl (Yi S.at_ (fun i hi => absurd hi List.not_mem_nil) agg55 rfl rfl ?_)
  refine dT 16 rfl rfl rfl (Xh (j := 0) Z Gv.len el55 sz36 rfl rfl rfl om fun a1 aq P au => ?_)
  obtain ⟨y, g, p, D⟩ := aa.get P
  obtain ⟨⟨av, a2, aw⟩, ⟨ax, a3, ay⟩⟩ := aq
  obtain rfl := p.eqn
  obtain rfl := D.eqn
  have a4 := p.len
  have a5 := D.len
  replace p : Ls ics 1 F LR_hG w.heap.size (.slice av y.V.length aw) y.V := p
  replace D : Ls GEdge.cs 4 F LR_hG w.heap.size (.slice ax y.E.length ay) y.E := D
  refine dV 17 rfl rfl rfl (fun _ => Zd fa36_0 rfl) ?_
  refine dT 18 rfl rfl rfl (Yi au (fun i hi => absurd hi List.not_mem_nil) agg22 rfl rfl ?_)
  refine dO 19 (Zr rfl rfl rfl ?_)
  have a6 := o.ch0 K
  have a7 := p.ch0 K
  refine Step.call (Zm (xs := [.tmp 24, .tmp 29]) fk89 rfl) (Zem a6 a7 ) fun a8 a9 az => ?_
  obtain ⟨rfl, T⟩ := az
  have ba := T.size
  have E := E.trans T
  have Q : Ch [] F a9 := (G.trans T)
  refine ⟨Q, ?_⟩
  refine dV 20 rfl rfl rfl (fun _ => Zfn rfl rfl) (dV 21 rfl rfl rfl (fun _ => Yl rfl rfl) ?_)
  refine Zw (by kernel_rfl) ?_
  refine Zb (aG _ _ ?_)
  refine Zz rfl (fun e => ?_) (fun e => ?_)
  ·have aA := e
   have e := Yu (Qj e)
   refine Zh fun br bb => ?_
   refine Zc (Za rfl rfl (Zf rfl) (Ze (Zb (bb _ _ ?_))))
   refine Zv (Yq (Zt (Zt (Yq (Zt ?_)))))
   clear H3 H9
   exact Zj [_] ⟨rfl, trivial⟩ ⟨congrArg Value.bool (by first | exact Zu (fun q => b (Zbi q a)) | exact Zu (fun q => e (Zay.2 (Zaz q f g))) | (rw [l]; exact vh_y hs om om) | exact Zu (fun q => by have aj := q.2.1; omega)), E⟩
  have aA := e
  have e := Yt (Qk e)
  refine Yf ?_
  refine Yc (Zb (H9 _ _ (Zc (Za rfl rfl (Zg rfl) (Za rfl rfl (Xc om rfl rfl) (Za rfl rfl (Zf rfl) (Ze ?_)))))))
  have bc := (S.ch0 K).ch0 T
  exact Zb (Exists.intro (k + 1) ⟨⟨E, om, om, (by have be := Zdb a f; exact Zgi hs a g b (by rw [be]; exact Zay.1 om)), bc⟩, sC2 rfl rfl (Sub.nil _), (by first | omega | (dsimp only; omega))⟩)
 have aL := J
 have J := Yu J
 refine Xx (Yh (Yh (Xg ?_)))
 refine Zb (H3 _ _ ?_)
 refine Zh fun bs aH => ?_
 refine Zc (Za rfl rfl (Zd fa57_1 rfl) (Za rfl rfl (Zp m.at_ agg55 rfl rfl) (Za rfl rfl (Yr (by rw [el55]; rfl) rfl) (Zl rfl rfl ?_))))
 refine Step.call (Zm (xs := [.tmp 35, .const (Go.Value.int Go.IntKind.i64 1), .const (Go.Value.int Go.IntKind.i64 8)]) fk90 rfl) (Qv _ _ _ ) fun bf bu aB => ?_
 obtain ⟨rfl, aC⟩ := aB
 have bg := aC.size
 have E := E.trans aC
 refine Za rfl rfl (Zg rfl) ?_
 refine Yy (d := 37) rfl (fun t => ?_) (fun t => ?_)
 ·have aD := t
  have t := Yt t
  refine Za rfl rfl (Zd fa57_0 rfl) ?_
  have aI := m.ch0 aC
  refine Za rfl rfl (Zp aI.at_ agg3 rfl rfl) (Za rfl rfl (Zd fa57_1 rfl) (Za rfl rfl (Zp aI.at_ agg55 rfl rfl) (Za rfl rfl (Yr (by rw [el55]; rfl) rfl) (Za rfl rfl (Xe om rfl rfl) (Za rfl rfl (Xc om rfl rfl) (Zl rfl rfl ?_))))))
  refine Step.call (Zm (xs := [.tmp 39, .const (Go.Value.int Go.IntKind.i64 1), .tmp 44]) fk90 rfl) (Qv _ _ _ ) fun bh bv aE => ?_
  obtain ⟨rfl, aJ⟩ := aE
  have bi := aJ.size
  have E := E.trans aJ
  refine Za rfl rfl (Ym rfl rfl) (Za rfl rfl (Zf rfl) (Ze (Zb (aH _ _ ?_))))
  refine Zv ?_
  exact Zj [_] ⟨rfl, trivial⟩ ⟨congrArg Value.bool (by first | exact Zu (fun q => b (Zbi q a)) | exact Zu (fun q => e (Zay.2 (Zaz q f g))) | (rw [l]; exact vh_y hs om om) | exact Zu (fun q => by have aj := q.2.1; omega)), E⟩
 have aD := t
 have t := Yu t
 refine Zo rfl rfl (Zo rfl rfl (Zo rfl rfl (Zo rfl rfl (Zo rfl rfl (Zo rfl rfl (Zo rfl rfl (Zo rfl rfl ?_)))))))
 refine Za rfl rfl (Yl rfl rfl) (Za rfl rfl (Zf rfl) (Ze (Zb (aH _ _ ?_))))
 refine Zv ?_
 exact Zj [_] ⟨rfl, trivial⟩ ⟨congrArg Value.bool (by first | exact Zu (fun q => b (Zbi q a)) | exact Zu (fun q => e (Zay.2 (Zaz q f g))) | (rw [l]; exact vh_y hs om om) | exact Zu (fun q => by have aj := q.2.1; omega)), E⟩

/-- spec.LatestVersion -/
theorem Zaa {w : World} (hF : Int) {LL_shG i : Nat} {d : Value} {shG : List Gv} (a : Ls Gv.cs 2 w LL_shG i d shG) {LR_hG BB_hG : Nat} {hG : List GD} (b : RdG w LR_hG BB_hG shG hG) :
 Ctr Try.prog 44 #[(.agg #[(.int .i64 hF), d])] w (fun v w' => v = .int .i64 (lvR hF hG) ∧ Ch [] w w') := by
 obtain ⟨e, f, h⟩ := a.val
 subst h
 have k := a.len
 have a := a.here (by decide)
 have b := b.here
 have g := b.1
 have E := Ch.refl [] w
 refine Yj (N := 13) (vs0 := [(.agg #[(.int .i64 hF), (.slice e shG.length f)])]) Try.func44 rfl rfl rfl ?_
 refine Zh fun K1 H1 => ?_
 refine Zc (Zl rfl rfl ?_)
 refine Xm rfl fun m W2 j C2 r => ?_
 have s := C2.size
 have E := E.trans C2
 have t := j.lt
 replace j : Blk W2 m 57 [(.int .i64 hF), (.slice e shG.length f)] := j
 refine Za rfl rfl (Zf rfl) (Ze (Zb (H1 _ _ ?_)))
 refine Zh fun K3 H3 => ?_
 refine Zh fun K4 H4 => ?_
 refine Zc (Za rfl rfl (Zi j.at_ agg57 sz57 rfl) (Zl rfl rfl ?_))
 have F5 := a.ch0 C2
 have F6 := b.ch0 C2
 refine Step.call (Zm (xs := [.tmp 3]) fk34 rfl) (Xy _ F5 F6 ) fun u W7 n => ?_
 obtain ⟨rfl, C7⟩ := n
 have x := C7.size
 have E := E.trans C7
 refine Za rfl rfl (Xp rfl) (Ze (Zb (H4 _ _ ?_)))
 refine Zz rfl (fun c => ?_) (fun c => ?_)
 ·have o := c
  have c := bf_t (Qj c)
  first | have p := c.2 | skip
  refine Zh fun K9 H9 => ?_
  refine Zc (Za rfl rfl (Zf rfl) (Ze (Zb (H9 _ _ ?_))))
  refine Zv (Zt ?_)
  exact Zj [_] ⟨rfl, trivial⟩ ⟨congrArg (Value.int .i64) (by first | exact lv_n c | (rw [g]; exact lv_y c)), E⟩
 have o := c
 have c := bt_t (Qk c)
 first | have p := c.2 | skip
 refine Yf ?_
 refine Zb (H3 _ _ ?_)
 refine Zh fun y q => ?_
 refine Zc (Za rfl rfl (Zd fa57_0 rfl) ?_)
 have l := j.ch0 C7
 refine Za rfl rfl (Zp l.at_ agg3 rfl rfl) (Za rfl rfl (Zd fa57_1 rfl) (Za rfl rfl (Zp l.at_ agg55 rfl rfl) (Za rfl rfl (Yr (by rw [el55]; rfl) rfl) (Za rfl rfl (Xc om rfl rfl) (Za rfl rfl (Xe om rfl rfl) (Za rfl rfl (Zf rfl) (Ze ?_)))))))
 refine Zb (q _ _ ?_)
 refine Zv ?_
 exact Zj [_] ⟨rfl, trivial⟩ ⟨congrArg (Value.int .i64) (by first | exact lv_n c | (rw [g]; exact lv_y c)), E⟩

/-- spec.l7Copy -/
theorem Zdr {w : World} (hF : Int) {LL_shG ae : Nat} {I : Value} {shG : List Gv} (q : Ls Gv.cs 2 w LL_shG ae I shG) {LR_hG BB_hG : Nat} {hG : List GD} (z : RdG w LR_hG BB_hG shG hG) (hb : hG.length + Zau hG ≤ 4194304) :
 Ctr Try.prog 71 #[(.agg #[(.int .i64 hF), I])] w (fun v w' => ∃ (T : Value) (J : List Gv), v = .agg #[.int .i64 hF, T] ∧ Ol Gv.cs 36 2 w' T J ∧ Lo w.heap.size T ∧ OdG 3 129 w' w.heap.size w'.heap.size J (hG) ∧ SepH T J ∧ Ch [] w w') := by
 obtain ⟨B, C, U⟩ := q.val
 subst U
 have aM := q.len
 have q := q.here (by decide)
 have z := z.here
 have aN := z.1
 have E := Ch.refl [] w
 refine Yj (N := 29) (vs0 := [(.agg #[(.int .i64 hF), (.slice B shG.length C)])]) Try.func71 rfl rfl rfl ?_
 refine Zh fun K1 H1 => ?_
 refine Zc (Zl rfl rfl ?_)
 refine Xm rfl fun aO W2 aD C2 bX => ?_
 have bY := C2.size
 have E := E.trans C2
 have al := aD.lt
 replace aD : Blk W2 aO 57 [(.int .i64 hF), (.slice B shG.length C)] := aD
 refine Zl rfl rfl ?_
 refine Yd zr57 fun aE W3 aF C3 bZ => ?_
 have b0 := C3.size
 have E := E.trans C3
 have b1 := aF.lt
 replace aF : Blk W3 aE 57 [(.int .i64 0), (.slice none 0 0)] := aF
 refine Ze (Zb (H1 _ _ ?_))
 refine Zh fun K4 H4 => ?_
 refine Zc (Za rfl rfl (Zd fa57_0 rfl) ?_)
 have F5 := aD.ch0 C3
 refine Za rfl rfl (Zp F5.at_ agg3 rfl rfl) (Za rfl rfl (Ys (parts := [(0, .tmp 7)]) (cells := [(.int .i64 hF), (.slice none 0 0)]) zr57 pl57 rfl rfl) (Zl rfl rfl ?_))
 refine Yd zr57 fun am W6 aG C6 b2 => ?_
 have b3 := C6.size
 have E := E.trans C6
 have b4 := aG.lt
 replace aG : Blk W6 am 57 [(.int .i64 0), (.slice none 0 0)] := aG
 refine Zl rfl rfl ?_
 refine Zk (off := 0) 2 aG sz57 rfl (us := [(.int .i64 hF), (.slice none 0 0)]) rfl rfl rfl rfl fun W7 af C7 => ?_
 have b5 := C7.size
 have E := E.step C7 (lS om)
 replace af : Blk W7 am 57 [(.int .i64 hF), (.slice none 0 0)] := af
 refine Ze (Zb (H4 _ _ ?_))
 refine Zh fun K9 H9 => ?_
 refine Zh fun b6 bf => ?_
 refine Zc (Za rfl rfl (Zf rfl) (Ze (Zb (bf _ _ ?_))))
 refine Yn ?_
 have ag : Ol Gv.cs 36 2 W7 (.slice none 0 0) (([] : List Gv)) := by
  have hx := Ol.nil (cs := Gv.cs) (e := 36) (k := 2) W7
  exact hx
 have bg := (F5.ch0 C6).ch C7 (nS om)
 have bh := (aF.ch0 C6).ch C7 (nS om)
 refine Ql (σ := Nat × List Gv × Value) (fun ⟨k, vs, kv⟩ => [(1, (.pointer (some ⟨aO, 0, none⟩))), (2, (.pointer (some ⟨aE, 0, none⟩))), (3, (.pointer (some ⟨am, 0, none⟩))), (4, (.int .i64 ((k : Nat) : Int)))]) (fun ⟨k, vs, kv⟩ wx => Ch [] w wx ∧ W7.heap.size ≤ wx.heap.size ∧ (k ≤ hG.length) ∧ (vs.length = k) ∧ Blk wx aO 57 [(.int .i64 hF), (.slice B shG.length C)] ∧ Blk wx aE 57 [(.int .i64 0), (.slice none 0 0)] ∧ Ol Gv.cs 36 2 wx kv vs ∧ Lo W7.heap.size kv ∧ OdG 3 129 wx W7.heap.size wx.heap.size vs (hG.take k) ∧ Blk wx am 57 [(.int .i64 hF), kv] ∧ (am ∉ bl kv) ∧ (SepH kv vs)) (fun ⟨k, vs, kv⟩ => hG.length - k) (0, ([] : List Gv), (.slice none 0 0)) (sC4 rfl rfl rfl rfl (Sub.nil _)) ⟨E, (Nat.le_refl _), om, rfl, bg, bh, ag, (Lo.nil _), OdG.nil, af, (fun hm => by cases hm), (fun u hu => by cases hu)⟩ ?_
 rintro ⟨k, vs, kv⟩ aH ⟨E, bi, b7, hvl, G, K, D, n, od, aa, r, p⟩
 have ah := E
 have a3 := ah.size
 have aP := G.lt
 have aQ := K.lt
 obtain ⟨Akv, Ckv, rfl, lkv, hikv⟩ := D.opn
 refine Zh fun b8 bj => ?_
 refine Zh fun b9 bk => ?_
 refine Zc (Za rfl rfl (Zg rfl) (Za rfl rfl (Zd fa57_1 rfl) (Za rfl rfl (Zp G.at_ agg55 rfl rfl) (Za rfl rfl (Yr (by rw [el55]; rfl) rfl) (Za rfl rfl (Qw rfl rfl) (Ze (Zb (bk _ _ ?_))))))))
 refine Zz rfl (fun F => ?_) (fun F => ?_)
 ·have aR := F
  have F := Yt F
  refine Yf ?_
  refine Zb (bj _ _ ?_)
  refine Zh fun ca bm => ?_
  refine Yn ?_
  refine Zh fun cb bn => ?_
  refine Zc (Za rfl rfl (Zd fa57_1 rfl) (Za rfl rfl (Zp G.at_ agg55 rfl rfl) (Za rfl rfl (Zg rfl) (Zl rfl rfl ?_))))
  have bp := q.ch0 ah
  refine (Qm bp Gv.len el55 sz36 rfl rfl rfl om fun bq aS an aT => ?_)
  have br := z.ch0 ah
  obtain ⟨a, L, A, M⟩ := br.get an
  obtain ⟨⟨aU, bs, aV⟩, ⟨aW, bu, aX⟩⟩ := aS
  obtain rfl := A.eqn
  obtain rfl := M.eqn
  have bv := A.len
  have bw := M.len
  replace A : Ls ics 1 aH LR_hG w.heap.size (.slice aU a.V.length aV) a.V := A
  replace M : Ls GEdge.cs 4 aH LR_hG w.heap.size (.slice aW a.E.length aX) a.E := M
  refine Za rfl rfl (Zi aT agg36 sz36 rfl) (Zl rfl rfl ?_)
  refine Step.call (Zm (xs := [.tmp 20]) fk92 rfl) (Yz A M (by have a4 := Zdi L; omega)) fun bz cc aY => ?_
  obtain ⟨aI, aJ, rfl, s, b, t, c, o, ai⟩ := aY
  have bA := ai.size
  have E := E.trans ai
  obtain ⟨d, f, rfl, ao, h⟩ := s.opn
  obtain ⟨j, l, rfl, ap, m⟩ := t.opn
  refine Zl rfl rfl ?_
  refine Yd zr36 fun a5 bB aK X cd => ?_
  have bC := X.size
  have E := E.trans X
  have ce := aK.lt
  replace aK : Blk bB a5 36 [(.slice none 0 0), (.slice none 0 0)] := aK
  refine Zl rfl rfl ?_
  refine Zk (off := 0) 2 aK sz36 rfl (us := [(.slice d (a.V).length f), (.slice j (a.E).length l)]) rfl rfl rfl rfl fun bD O Y => ?_
  have bF := Y.size
  have E := E.step Y (lS om)
  replace O : Blk bD a5 36 [(.slice d (a.V).length f), (.slice j (a.E).length l)] := O
  refine Ze (Zb (bn _ _ (Zc (Za rfl rfl (Zd fa57_1 rfl) ?_))))
  have a6 := ((aa.ch0 ai).ch0 X).ch Y (nS om)
  refine Za rfl rfl (Zp a6.at_ agg55 rfl rfl) (Za rfl rfl (Zi O.at_ agg36 sz36 rfl) (Zl rfl rfl ?_))
  refine Zq (cs := Gv.cs) (parts := [(0, .tmp 24)]) (⟨⟨none, 0, 0⟩, ⟨none, 0, 0⟩⟩ : Gv) [(⟨(⟨d, (a.V).length, f⟩ : Sv), (⟨j, (a.E).length, l⟩ : Sv)⟩ : Gv)] el55 sz36 zr36 Gv.len (by decide) rfl rfl rfl (by decide) (by decide) rfl fun bG a7 aq ab Z => ?_
  have bH := Z.size
  have E := E.trans Z
  obtain ⟨au, av, rfl, a8, aZ⟩ := aq.opn
  have a9 := ((s.ch0 X).ch Y (dS b h om)).ch0 Z
  have ba := ((t.ch0 X).ch Y (dS c m om)).ch0 Z
  have bI : OdG 3 129 a7 aH.heap.size a7.heap.size ([(⟨(⟨d, (a.V).length, f⟩ : Sv), (⟨j, (a.E).length, l⟩ : Sv)⟩ : Gv)]) ([(⟨a.V, a.E⟩ : GD)]) := OdG.snoc (hi := aH.heap.size) (vs := []) (xs := []) OdG.nil a9 ba (Lo.down b om) (Lo.down c om) (fun g hg => by have H := h g hg; omega) (fun g hg => by have H := m g hg; omega) (fun g hm hg => by exact o _ hm hg) om om
  have bb : SepH (.slice au ([(⟨(⟨d, (a.V).length, f⟩ : Sv), (⟨j, (a.E).length, l⟩ : Sv)⟩ : Gv)]).length av) [(⟨(⟨d, (a.V).length, f⟩ : Sv), (⟨j, (a.E).length, l⟩ : Sv)⟩ : Gv)] := fun u hu => by rw [List.mem_singleton.1 hu]; exact ⟨fun g hg hm => by have H := h _ hg; have aj := ab _ hm; omega, fun g hg hm => by have H := m _ hg; have aj := ab _ hm; omega⟩
  refine Zl rfl rfl ?_
  have bJ := (((D.ch0 ai).ch0 X).ch Y (dS n hikv om)).ch0 Z
  refine Yg (cs := Gv.cs) el55 sz36 by36 zr36 rfl (by decide) Gv.one bJ aq.ls rfl rfl (by simp only [List.length_singleton]; omega) (by simp only [List.length_singleton]; omega) n om fun bK cf aw ax y ac => ?_
  have bL := ac.size
  have E := E.step ac (fun i hi => .inl (by have H := n _ hi; omega))
  obtain ⟨P, Q, rfl, bc, a0⟩ := aw.opn
  refine Za rfl rfl (Zd fa57_1 rfl) (Zl rfl rfl ?_)
  have bM := (a6.ch0 Z).ch ac (fun hm => by exact r (by first | exact hm | exact a1 ▸ hm))
  refine Zy (off := 1) bM sz55 rfl rfl rfl rfl fun be R ad => ?_
  have bN := ad.size
  have E := E.step ad (lS om)
  replace R : Blk be am 57 [(.int .i64 hF), (.slice P ((vs ++ [(⟨(⟨d, (a.V).length, f⟩ : Sv), (⟨j, (a.E).length, l⟩ : Sv)⟩ : Gv)])).length Q)] := R
  refine Ze (Yc (Zb (bm _ _ (Zc (Za rfl rfl (Zg rfl) (Za rfl rfl (Xc om rfl rfl) (Za rfl rfl (Zf rfl) (Ze ?_))))))))
  have bO := aw.ch ad (fun g hg hm => by have a1 := List.mem_singleton.1 hm; rcases y with ea | ea; (rw [ea] at hg; exact r (by first | exact hg | exact a1 ▸ hg)); (rw [ea] at hg; have al := List.mem_singleton.1 hg; omega))
  have ak : Ol Gv.cs 36 2 be (.slice P ((vs ++ [(⟨(⟨d, (a.V).length, f⟩ : Sv), (⟨j, (a.E).length, l⟩ : Sv)⟩ : Gv)])).length Q) ((vs ++ [(⟨(⟨d, (a.V).length, f⟩ : Sv), (⟨j, (a.E).length, l⟩ : Sv)⟩ : Gv)])) := by
   have hx := bO
   exact hx
  have a2 := (((((od.ch0 ai).ch0 X).ch Y (oS om)).ch0 Z).chH ac p).ch ad (oS om)
  have bP := (a9.ch ac (fun g hg hm => by have H := n _ hm; have aj := hikv _ hm; have ay := b _ hg; have az := h _ hg; omega)).ch ad (dS b h om)
  have bQ := (ba.ch ac (fun g hg hm => by have H := n _ hm; have aj := hikv _ hm; have ay := c _ hg; have az := m _ hg; omega)).ch ad (dS c m om)
  have bR := (((((G.ch0 ai).ch0 X).ch Y (nS om)).ch0 Z).ch ac (fun hm => by have H := n _ hm; have aj := hikv _ hm; omega)).ch ad (nS om)
  have bS := (((((K.ch0 ai).ch0 X).ch Y (nS om)).ch0 Z).ch ac (fun hm => by have H := n _ hm; have aj := hikv _ hm; omega)).ch ad (nS om)
  exact Zb (Exists.intro ((k + 1), (vs ++ [(⟨(⟨d, (a.V).length, f⟩ : Sv), (⟨j, (a.E).length, l⟩ : Sv)⟩ : Gv)]), (.slice P ((vs ++ [(⟨(⟨d, (a.V).length, f⟩ : Sv), (⟨j, (a.E).length, l⟩ : Sv)⟩ : Gv)])).length Q)) ⟨⟨E, om, om, (by simp [hvl]), bR, bS, ak, (Lo.down ax om), (by rw [Zbj L]; exact OdG.snoc a2 (x := a) bP bQ (Lo.down b om) (Lo.down c om) (fun g hg => by have H := h g hg; omega) (fun g hg => by have H := m g hg; omega) (fun g hm hg => by exact o _ hm hg) om om), R, (fun hm => by rcases y with ea | ea; (rw [ea] at hm; exact r (by first | exact hm | exact a1 ▸ hm)); (rw [ea] at hm; have al := List.mem_singleton.1 hm; omega)), (fun u hu => ⟨fun g hg hm => by rcases List.mem_append.1 hu with hu | hu; (rcases y with ea | ea; (rw [ea] at hm; exact (p _ hu).1 _ hg hm); (rw [ea] at hm; have al := List.mem_singleton.1 hm; have a4 := (a2.rng hu).1 _ hg; omega)); (rw [List.mem_singleton.1 hu] at hg; rcases y with ea | ea; (rw [ea] at hm; have H := n _ hm; have aj := hikv _ hm; have ay := b _ hg; have az := h _ hg; omega); (rw [ea] at hm; have al := List.mem_singleton.1 hm; have ay := b _ hg; have az := h _ hg; omega)), fun g hg hm => by rcases List.mem_append.1 hu with hu | hu; (rcases y with ea | ea; (rw [ea] at hm; exact (p _ hu).2 _ hg hm); (rw [ea] at hm; have al := List.mem_singleton.1 hm; have a4 := (a2.rng hu).2 _ hg; omega)); (rw [List.mem_singleton.1 hu] at hg; rcases y with ea | ea; (rw [ea] at hm; have H := n _ hm; have aj := hikv _ hm; have ay := c _ hg; have az := m _ hg; omega); (rw [ea] at hm; have al := List.mem_singleton.1 hm; have ay := c _ hg; have az := m _ hg; omega))⟩)⟩, sC4 rfl rfl rfl rfl (Sub.nil _), (by first | omega | (dsimp only; omega))⟩)
 have aR := F
 have F := Yu F
 refine Xx (Yh (Yh (Xg ?_)))
 refine Zb (H9 _ _ ?_)
 refine Zh fun cg bT => ?_
 refine Zc (Za rfl rfl (Zi aa.at_ agg57 sz57 rfl) (Zl rfl rfl ?_))
 refine Zk (off := 0) 2 K sz57 rfl (us := [(.int .i64 hF), (.slice Akv (vs).length Ckv)]) rfl rfl rfl rfl fun aA S aL => ?_
 have bU := aL.size
 have E := E.step aL (lS om)
 replace S : Blk aA aE 57 [(.int .i64 hF), (.slice Akv (vs).length Ckv)] := S
 refine Ze (Zb (bT _ _ ?_))
 refine Zv ?_
 have bV := D.ch aL (dS n hikv om)
 have bW := od.ch aL (oS om)
 have aB : Ol Gv.cs 36 2 aA (.slice Akv (vs).length Ckv) vs := by
  have hx := bV
  exact hx
 have aC : OdG 3 129 aA w.heap.size aA.heap.size vs (hG) := by
  have hx := bW.up (lo' := w.heap.size) (hi' := aA.heap.size) om om
  rwa [List.take_of_length_le om] at hx
 exact Zj [_] (Zn S rfl agg57 sz57 trivial) ⟨(.slice Akv (vs).length Ckv), vs, (congrArg (fun zq => (Value.agg #[.int .i64 zq, (.slice Akv (vs).length Ckv)])) (by first | rfl | simp_all)), aB, (Lo.down n om), aC, p, E⟩

end Go.Proofs.Ytkmhgeppenifoaa
