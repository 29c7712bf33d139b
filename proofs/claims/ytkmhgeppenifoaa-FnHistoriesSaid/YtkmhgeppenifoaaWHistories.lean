/- Walks of functions that FnHistories reaches: what each returns, and that it leaves the memory that was there alone. -/
import Derived.Test.YtkmhgeppenifoaaLibA
import Derived.Test.YtkmhgeppenifoaaLibB
import Derived.Test.YtkmhgeppenifoaaProg
namespace Go.Proofs.Ytkmhgeppenifoaa
open Go.KLib Go.Shelf
set_option maxHeartbeats 1000000
set_option maxRecDepth 20000
set_option linter.unusedVariables false
set_option linter.unusedSimpArgs false
namespace THistories
theorem agg129 : Yk Try.prog 129 = some true := by kernel_rfl
theorem agg142 : Yk Try.prog 142 = some true := by kernel_rfl
theorem agg22 : Yk Try.prog 22 = some false := by kernel_rfl
theorem agg3 : Yk Try.prog 3 = some false := by kernel_rfl
theorem agg34 : Yk Try.prog 34 = some false := by kernel_rfl
theorem agg36 : Yk Try.prog 36 = some true := by kernel_rfl
theorem agg4 : Yk Try.prog 4 = some false := by kernel_rfl
theorem agg55 : Yk Try.prog 55 = some false := by kernel_rfl
theorem agg57 : Yk Try.prog 57 = some true := by kernel_rfl
theorem agg61 : Yk Try.prog 61 = some false := by kernel_rfl
theorem agg63 : Yk Try.prog 63 = some true := by kernel_rfl
theorem by129 : Qo Try.prog 129 = some 32 := by kernel_rfl
theorem by3 : Qo Try.prog 3 = some 8 := by kernel_rfl
theorem by36 : Qo Try.prog 36 = some 48 := by kernel_rfl
theorem el22 : elB Try.prog 22 = some 3 := by kernel_rfl
theorem el34 : elB Try.prog 34 = some 129 := by kernel_rfl
theorem el55 : elB Try.prog 55 = some 36 := by kernel_rfl
theorem el61 : elB Try.prog 61 = some 142 := by kernel_rfl
theorem fa129_0 : faB Try.prog 129 0 = some 0 := by kernel_rfl
theorem fa129_1 : faB Try.prog 129 1 = some 1 := by kernel_rfl
theorem fa129_2 : faB Try.prog 129 2 = some 2 := by kernel_rfl
theorem fa129_3 : faB Try.prog 129 3 = some 3 := by kernel_rfl
theorem fa142_0 : faB Try.prog 142 0 = some 0 := by kernel_rfl
theorem fa142_1 : faB Try.prog 142 1 = some 1 := by kernel_rfl
theorem fa36_0 : faB Try.prog 36 0 = some 0 := by kernel_rfl
theorem fa36_1 : faB Try.prog 36 1 = some 1 := by kernel_rfl
theorem fa57_0 : faB Try.prog 57 0 = some 0 := by kernel_rfl
theorem fa57_1 : faB Try.prog 57 1 = some 1 := by kernel_rfl
theorem fa63_0 : faB Try.prog 63 0 = some 0 := by kernel_rfl
theorem fk110 : fnB Try.prog 110 = true := by kernel_rfl
theorem fk111 : fnB Try.prog 111 = true := by kernel_rfl
theorem fk112 : fnB Try.prog 112 = true := by kernel_rfl
theorem fk121 : fnB Try.prog 121 = true := by kernel_rfl
theorem fk123 : fnB Try.prog 123 = true := by kernel_rfl
theorem fk129 : fnB Try.prog 129 = true := by kernel_rfl
theorem fk130 : fnB Try.prog 130 = true := by kernel_rfl
theorem fk131 : fnB Try.prog 131 = true := by kernel_rfl
theorem fk132 : fnB Try.prog 132 = true := by kernel_rfl
theorem fk135 : fnB Try.prog 135 = true := by kernel_rfl
theorem fk136 : fnB Try.prog 136 = true := by kernel_rfl
theorem fk33 : fnB Try.prog 33 = true := by kernel_rfl
theorem fk35 : fnB Try.prog 35 = true := by kernel_rfl
theorem fk36 : fnB Try.prog 36 = true := by kernel_rfl
theorem fk38 : fnB Try.prog 38 = true := by kernel_rfl
theorem fk74 : fnB Try.prog 74 = true := by kernel_rfl
theorem fk75 : fnB Try.prog 75 = true := by kernel_rfl
theorem fk85 : fnB Try.prog 85 = true := by kernel_rfl
theorem fk86 : fnB Try.prog 86 = true := by kernel_rfl
theorem fk87 : fnB Try.prog 87 = true := by kernel_rfl
theorem fk91 : fnB Try.prog 91 = true := by kernel_rfl
theorem fk94 : fnB Try.prog 94 = true := by kernel_rfl
theorem ist129 : Zat Try.prog 129 4 = true := by kernel_rfl
theorem mixed : Try.prog.follows .mixedOrders = true := by kernel_rfl
theorem pl36 : Qu Try.prog 36 = some [(0, 1), (1, 1)] := by kernel_rfl
theorem pl57 : Qu Try.prog 57 = some [(0, 1), (1, 1)] := by kernel_rfl
theorem sz129 : Ya Try.prog 129 = some 4 := by kernel_rfl
theorem sz142 : Ya Try.prog 142 = some 5 := by kernel_rfl
theorem sz3 : Ya Try.prog 3 = some 1 := by kernel_rfl
theorem sz34 : Ya Try.prog 34 = some 1 := by kernel_rfl
theorem sz36 : Ya Try.prog 36 = some 2 := by kernel_rfl
theorem sz55 : Ya Try.prog 55 = some 1 := by kernel_rfl
theorem sz57 : Ya Try.prog 57 = some 2 := by kernel_rfl
theorem sz63 : Ya Try.prog 63 = some 1 := by kernel_rfl
theorem un3 : Try.prog.underlying 3 = some (.int .i64) := by kernel_rfl
theorem zr129 : Yw Try.prog 129 = some (.agg #[.int .i64 0, .int .i64 0, .int .i64 0, .int .i64 0]) := by kernel_rfl
theorem zr142 : Yw Try.prog 142 = some (.agg #[.bool false, .int .i64 0, .int .i64 0, .int .i64 0, .int .i64 0]) := by kernel_rfl
theorem zr3 : Yw Try.prog 3 = some (.int .i64 0) := by kernel_rfl
theorem zr36 : Yw Try.prog 36 = some (.agg #[.slice none 0 0, .slice none 0 0]) := by kernel_rfl
theorem zr57 : Yw Try.prog 57 = some (.agg #[.int .i64 0, .slice none 0 0]) := by kernel_rfl
end THistories
open THistories

/-- impl.EdgeIndex$1 -/
theorem Zdt {w : World} (e : GEdge) {b_n t_n : Nat} {n : Int} (b : Blk w b_n t_n [.int .i64 n]) :
 Ctr Try.prog 136 #[(.agg #[(.int .i64 e.id), (.int .i64 e.f), (.int .i64 e.t), (.int .i64 e.label)]), (.pointer (some ⟨b_n, 0, none⟩))] w (fun v w' => v = .bool (decide (e.id = n)) ∧ Ch [] w w') := by
 have E := Ch.refl [] w
 refine Yj (N := 8) (vs0 := [(.agg #[(.int .i64 e.id), (.int .i64 e.f), (.int .i64 e.t), (.int .i64 e.label)]), (.pointer (some ⟨b_n, 0, none⟩))]) Try.func136 rfl rfl rfl ?_
 refine Zh fun K1 H1 => ?_
 refine Zc (Zl rfl rfl ?_)
 refine Xm rfl fun c W2 a C2 d => ?_
 have g := C2.size
 have E := E.trans C2
 have h := a.lt
 replace a : Blk W2 c 129 [(.int .i64 e.id), (.int .i64 e.f), (.int .i64 e.t), (.int .i64 e.label)] := a
 refine Za rfl rfl (Zf rfl) (Ze (Zb (H1 _ _ ?_)))
 refine Zh fun K3 H3 => ?_
 refine Zc (Za rfl rfl (Zd fa129_0 rfl) (Za rfl rfl (Zp a.at_ agg3 rfl rfl) ?_))
 have F4 := b.ch0 C2
 refine Za rfl rfl (Zce F4.at_ agg3 rfl rfl) (Za rfl rfl (Qg rfl rfl) (Za rfl rfl (Zf rfl) (Ze (Zb (H3 _ _ ?_)))))
 refine Zv ?_
 exact Zj [_] ⟨rfl, trivial⟩ ⟨congrArg Value.bool rfl, E⟩

/-- slices.IndexFunc[[]impl.Edge,impl.Edge] -/
theorem Zam {w : World} {LL_s q : Nat} {j : Value} {s : List GEdge} (c : Ls GEdge.cs 4 w LL_s q j s) {b l : Nat} {r : Int} (g : Blk w b l [.int .i64 r]) :
 Ctr Try.prog 135 #[j, (.func (.func 136) #[] #[(.pointer (some ⟨b, 0, none⟩))])] w (fun v w' => v = .int .i64 (ixP (fun y : GEdge => decide (y.id = r)) s) ∧ Ch [] w w') := by
 obtain ⟨m, n, o⟩ := c.val
 subst o
 have C := c.len
 have c := c.here (by decide)
 have E := Ch.refl [] w
 refine Yj (N := 19) (vs0 := [(.slice m s.length n), (.func (.func 136) #[] #[(.pointer (some ⟨b, 0, none⟩))])]) Try.func135 rfl rfl rfl ?_
 refine Zh fun K1 H1 => ?_
 refine Zc (Za rfl rfl (Zf rfl) (Ze (Zb (H1 _ _ ?_))))
 refine Zh fun K2 H2 => ?_
 refine Zh fun K3 H3 => ?_
 refine Zc (Za rfl rfl (Zg rfl) (Za rfl rfl (Yr (by rw [el34]; rfl) rfl) (Za rfl rfl (Zg rfl) (Ze (Zb (H3 _ _ ?_))))))
 refine Yn ?_
 refine Ql (σ := Nat) (fun (k : Nat) => [(0, (.slice m s.length n)), (1, (.func (.func 136) #[] #[(.pointer (some ⟨b, 0, none⟩))])), (7, (.int .i64 ((s.length : Nat) : Int))), (8, (.int .i64 ((k : Nat) : Int)))]) (fun (k : Nat) wx => Ch [] w wx ∧ w.heap.size ≤ wx.heap.size ∧ (k ≤ s.length) ∧ ((s.take k).any (fun y : GEdge => decide (y.id = r)) = false)) (fun (k : Nat) => s.length - k) 0 (sC4 rfl rfl rfl rfl (Sub.nil _)) ⟨E, (Nat.le_refl _), om, (by simp)⟩ ?_
 rintro k R4 ⟨E, D, P, p⟩
 have h := E
 have A := h.size
 refine Zh fun K5 H5 => ?_
 refine Zc (Za rfl rfl (Qw rfl rfl) (Ze (Zb (H5 _ _ ?_))))
 refine Zh fun K6 H6 => ?_
 refine Zz rfl (fun i => ?_) (fun i => ?_)
 ·have F := i
  have i := Yt i
  refine Yf ?_
  refine Zb (H6 _ _ ?_)
  refine Zh fun K8 H8 => ?_
  refine Yn ?_
  refine Zh fun K9 H9 => ?_
  refine Zc (Za rfl rfl (Zg rfl) (Za rfl rfl (Zf rfl) (Ze (Zb (H9 _ _ ?_)))))
  refine Zh fun Q G => ?_
  refine Zc (Za rfl rfl (Zg rfl) (Za rfl rfl (Zg rfl) (Za rfl rfl (Zg rfl) (Zl rfl rfl ?_))))
  have H := c.ch0 h
  refine (Qm H GEdge.len el34 sz129 rfl rfl rfl om fun I d e u => ?_)
  refine Za rfl rfl (Zi u agg129 sz129 rfl) (Zl rfl rfl ?_)
  have J := g.ch0 h
  refine Step.call (Ziv (xs := [.tmp 15]) (as' := [(.agg #[(.int .i64 d.id), (.int .i64 d.f), (.int .i64 d.t), (.int .i64 d.label)]), (.pointer (some ⟨b, 0, none⟩))]) fk136 rfl rfl rfl) (Zdt d J ) fun K R x => ?_
  obtain ⟨rfl, B⟩ := x
  have L := B.size
  have E := E.trans B
  refine Ze (Zb (G _ _ ?_))
  refine Zz rfl (fun a => ?_) (fun a => ?_)
  ·have z := a
   have a := Yt a
   refine Zh fun S M => ?_
   refine Zc (Za rfl rfl (Zg rfl) (Za rfl rfl (Zf rfl) (Ze (Zb (M _ _ ?_)))))
   refine Zv (Yq (Zt (Zt (Yq (Zt ?_)))))
   clear H2 H8
   exact Zj [_] ⟨rfl, trivial⟩ ⟨congrArg (Value.int .i64) (by first | exact Zhw p e (decide_eq_true a) | exact Zhx p om), E⟩
  have z := a
  have a := Yu a
  refine Yf ?_
  refine Yc (Zb (H8 _ _ (Zc (Za rfl rfl (Xc om rfl rfl) (Za rfl rfl (Zg rfl) (Ze ?_))))))
  exact Zb (Exists.intro (k + 1) ⟨⟨E, om, om, (Zfu p e (decide_eq_false a))⟩, sC4 rfl rfl rfl rfl (Sub.nil _), (by first | omega | (dsimp only; omega))⟩)
 have F := i
 have i := Yu i
 refine Xx (Yh (Yh (Xg ?_)))
 refine Zb (H2 _ _ ?_)
 refine Zh fun T O => ?_
 refine Zc (Za rfl rfl (Zf rfl) (Ze (Zb (O _ _ ?_))))
 refine Zv ?_
 exact Zj [_] ⟨rfl, trivial⟩ ⟨congrArg (Value.int .i64) (by first | exact Zhw p e (decide_eq_true a) | exact Zhx p om), E⟩

/-- impl.EdgeIndex -/
theorem Zcp {w : World} {LL_gV k : Nat} {c : Value} {gV : List Int} (b : Ls ics 1 w LL_gV k c gV) {LL_gE l : Nat} {d : Value} {gE : List GEdge} (a : Ls GEdge.cs 4 w LL_gE l d gE) (id : Int) :
 Ctr Try.prog 129 #[(.agg #[c, d]), (.int .i64 id)] w (fun v w' => v = .int .i64 (eiR gE id) ∧ Ch [] w w') := by
 obtain ⟨e, f, i⟩ := b.val
 subst i
 have o := b.len
 have b := b.here (by decide)
 obtain ⟨g, h, j⟩ := a.val
 subst j
 have p := a.len
 have a := a.here (by decide)
 have E := Ch.refl [] w
 refine Yj (N := 9) (vs0 := [(.agg #[(.slice e gV.length f), (.slice g gE.length h)]), (.int .i64 id)]) Try.func129 rfl rfl rfl ?_
 refine Zh fun K1 H1 => ?_
 refine Zc (Zl rfl rfl ?_)
 refine Xm rfl fun q W2 m C2 t => ?_
 have u := C2.size
 have E := E.trans C2
 have x := m.lt
 replace m : Blk W2 q 36 [(.slice e gV.length f), (.slice g gE.length h)] := m
 refine Zl rfl rfl ?_
 refine Xm rfl fun r W3 n C3 y => ?_
 have z := C3.size
 have E := E.trans C3
 have A := n.lt
 replace n : Blk W3 r 3 [(.int .i64 id)] := n
 refine Za rfl rfl (Zf rfl) (Ze (Zb (H1 _ _ ?_)))
 refine Zh fun K4 H4 => ?_
 refine Zc (Za rfl rfl (Zd fa36_1 rfl) ?_)
 have F5 := m.ch0 C3
 refine Za rfl rfl (Zp F5.at_ agg34 rfl rfl) (Za rfl rfl (Zib (xs := []) (ys := [.tmp 3]) rfl rfl) (Zl rfl rfl ?_))
 have F6 := (a.ch0 C2).ch0 C3
 refine Step.call (Zm (xs := [.tmp 6, .tmp 7]) fk135 rfl) (Zam F6 n ) fun B W7 s => ?_
 obtain ⟨rfl, C7⟩ := s
 have C := C7.size
 have E := E.trans C7
 refine Za rfl rfl (Zf rfl) (Ze (Zb (H4 _ _ ?_)))
 refine Zv ?_
 exact Zj [_] ⟨rfl, trivial⟩ ⟨congrArg (Value.int .i64) rfl, E⟩

/-- impl.within -/
theorem Qh {w : World} (n : Int) (a : Int) (b : Int) :
 Ctr Try.prog 85 #[(.int .i64 n), (.int .i64 a), (.int .i64 b)] w (fun v w' => v = .bool (decide (a ≤ n ∧ n ≤ b)) ∧ Ch [] w w') := by
 have E := Ch.refl [] w
 refine Yj (N := 15) (vs0 := [(.int .i64 n), (.int .i64 a), (.int .i64 b)]) Try.func85 rfl rfl rfl ?_
 refine Zh fun K1 H1 => ?_
 refine Zc (Za rfl rfl (Zf rfl) (Ze (Zb (H1 _ _ ?_))))
 refine Zh fun K2 H2 => ?_
 refine Zc (Za rfl rfl (Zg rfl) (Za rfl rfl (Zg rfl) (Za rfl rfl (Zgt rfl rfl) (Za rfl rfl (Zg rfl) ?_))))
 refine Yy (d := 10) rfl (fun c => ?_) (fun c => ?_)
 ·have e := c
  have c := Yt c
  refine Za rfl rfl (Zg rfl) (Za rfl rfl (Zg rfl) (Za rfl rfl (Zga rfl rfl) (Za rfl rfl (Ym rfl rfl) (Za rfl rfl (Zf rfl) (Ze (Zb (H2 _ _ ?_)))))))
  refine Zv ?_
  exact Zj [_] ⟨rfl, trivial⟩ ⟨congrArg Value.bool (by first | rfl | (rw [Bool.eq_iff_iff]; simp <;> omega) | (rw [Bool.eq_iff_iff]; simp_all; done) | simp_all), E⟩
 have e := c
 have c := Yu c
 refine Zo rfl rfl (Zo rfl rfl (Zo rfl rfl (Za rfl rfl (Yl rfl rfl) (Za rfl rfl (Zf rfl) (Ze (Zb (H2 _ _ ?_)))))))
 refine Zv ?_
 exact Zj [_] ⟨rfl, trivial⟩ ⟨congrArg Value.bool (by first | rfl | (rw [Bool.eq_iff_iff]; simp <;> omega) | (rw [Bool.eq_iff_iff]; simp_all; done) | simp_all), E⟩

/-- impl.edgeOk -/
theorem Zdq {w : World} (e : GEdge) (n : Int) (hn : 0 ≤ n ∧ n ≤ 9223372036854775807) :
 Ctr Try.prog 121 #[(.agg #[(.int .i64 e.id), (.int .i64 e.f), (.int .i64 e.t), (.int .i64 e.label)]), (.int .i64 n)] w (fun v w' => v = .bool (tt (Xq (n - 1) e)) ∧ Ch [] w w') := by
 have E := Ch.refl [] w
 refine Yj (N := 27) (vs0 := [(.agg #[(.int .i64 e.id), (.int .i64 e.f), (.int .i64 e.t), (.int .i64 e.label)]), (.int .i64 n)]) Try.func121 rfl rfl rfl ?_
 refine Zh fun K1 H1 => ?_
 refine Zc (Zl rfl rfl ?_)
 refine Xm rfl fun o W2 g C2 C => ?_
 have D := C2.size
 have E := E.trans C2
 have F := g.lt
 replace g : Blk W2 o 129 [(.int .i64 e.id), (.int .i64 e.f), (.int .i64 e.t), (.int .i64 e.label)] := g
 refine Za rfl rfl (Zf rfl) (Ze (Zb (H1 _ _ ?_)))
 refine Zh fun K3 H3 => ?_
 refine Zc (Za rfl rfl (Zd fa129_0 rfl) (Za rfl rfl (Zp g.at_ agg3 rfl rfl) (Zl rfl rfl ?_)))
 refine Step.call (Zm (xs := [.tmp 6, .const (Go.Value.int Go.IntKind.i64 1), .const (Go.Value.int Go.IntKind.i64 99)]) fk85 rfl) (Qh _ _ _ ) fun G W4 p => ?_
 obtain ⟨rfl, C4⟩ := p
 have H := C4.size
 have E := E.trans C4
 refine Za rfl rfl (Zg rfl) ?_
 refine Yy (d := 8) rfl (fun c => ?_) (fun c => ?_)
 ·have r := c
  have c := Yt c
  refine Za rfl rfl (Zd fa129_1 rfl) ?_
  have F6 := g.ch0 C4
  refine Za rfl rfl (Zp F6.at_ agg3 rfl rfl) (Za rfl rfl (Zg rfl) (Za rfl rfl (Xe om rfl rfl) (Zl rfl rfl ?_)))
  refine Step.call (Zm (xs := [.tmp 10, .const (Go.Value.int Go.IntKind.i64 0), .tmp 12]) fk85 rfl) (Qh _ _ _ ) fun s W7 h => ?_
  obtain ⟨rfl, C7⟩ := h
  have I := C7.size
  have E := E.trans C7
  refine Za rfl rfl (Ym rfl rfl) (Za rfl rfl (Zg rfl) ?_)
  refine Yy (d := 15) rfl (fun a => ?_) (fun a => ?_)
  ·have u := a
   have a := Yt a
   refine Za rfl rfl (Zd fa129_2 rfl) ?_
   have F9 := F6.ch0 C7
   refine Za rfl rfl (Zp F9.at_ agg3 rfl rfl) (Za rfl rfl (Zg rfl) (Za rfl rfl (Xe om rfl rfl) (Zl rfl rfl ?_)))
   refine Step.call (Zm (xs := [.tmp 17, .const (Go.Value.int Go.IntKind.i64 0), .tmp 19]) fk85 rfl) (Qh _ _ _ ) fun x J i => ?_
   obtain ⟨rfl, j⟩ := i
   have y := j.size
   have E := E.trans j
   refine Za rfl rfl (Ym rfl rfl) (Za rfl rfl (Zg rfl) ?_)
   refine Yy (d := 22) rfl (fun b => ?_) (fun b => ?_)
   ·have k := b
    have b := Yt b
    refine Za rfl rfl (Zd fa129_3 rfl) ?_
    have z := F9.ch0 j
    refine Za rfl rfl (Zp z.at_ agg3 rfl rfl) (Zl rfl rfl ?_)
    refine Step.call (Zm (xs := [.tmp 24, .const (Go.Value.int Go.IntKind.i64 0), .const (Go.Value.int Go.IntKind.i64 2)]) fk85 rfl) (Qh _ _ _ ) fun A K l => ?_
    obtain ⟨rfl, m⟩ := l
    have B := m.size
    have E := E.trans m
    refine Za rfl rfl (Ym rfl rfl) (Za rfl rfl (Zf rfl) (Ze (Zb (H3 _ _ ?_))))
    refine Zv ?_
    exact Zj [_] ⟨rfl, trivial⟩ ⟨congrArg Value.bool (by first | exact Zu (fun q => by unfold Xq at q; omega) | (rw [Zdc]; exact Zeo ⟨fun q => by unfold Xq; omega, fun q => by unfold Xq at q; omega⟩)), E⟩
   have k := b
   have b := Yu b
   refine Zo rfl rfl (Zo rfl rfl (Zo rfl rfl (Za rfl rfl (Yl rfl rfl) (Za rfl rfl (Zf rfl) (Ze (Zb (H3 _ _ ?_)))))))
   refine Zv ?_
   exact Zj [_] ⟨rfl, trivial⟩ ⟨congrArg Value.bool (by first | exact Zu (fun q => by unfold Xq at q; omega) | (rw [Zdc]; exact Zeo ⟨fun q => by unfold Xq; omega, fun q => by unfold Xq at q; omega⟩)), E⟩
  have u := a
  have a := Yu a
  refine Zo rfl rfl (Zo rfl rfl (Zo rfl rfl (Zo rfl rfl (Zo rfl rfl (Za rfl rfl (Yl rfl rfl) (Za rfl rfl (Zg rfl) (Zo rfl rfl ?_)))))))
  refine Zo rfl rfl (Zo rfl rfl (Za rfl rfl (Yl rfl rfl) (Za rfl rfl (Zf rfl) (Ze (Zb (H3 _ _ ?_))))))
  refine Zv ?_
  exact Zj [_] ⟨rfl, trivial⟩ ⟨congrArg Value.bool (by first | exact Zu (fun q => by unfold Xq at q; omega) | (rw [Zdc]; exact Zeo ⟨fun q => by unfold Xq; omega, fun q => by unfold Xq at q; omega⟩)), E⟩
 have r := c
 have c := Yu c
 refine Zo rfl rfl (Zo rfl rfl (Zo rfl rfl (Zo rfl rfl (Zo rfl rfl (Za rfl rfl (Yl rfl rfl) (Za rfl rfl (Zg rfl) (Zo rfl rfl ?_)))))))
 refine Zo rfl rfl (Zo rfl rfl (Zo rfl rfl (Zo rfl rfl (Za rfl rfl (Yl rfl rfl) (Za rfl rfl (Zg rfl) (Zo rfl rfl (Zo rfl rfl ?_)))))))
 refine Zo rfl rfl (Za rfl rfl (Yl rfl rfl) (Za rfl rfl (Zf rfl) (Ze (Zb (H3 _ _ ?_)))))
 refine Zv ?_
 exact Zj [_] ⟨rfl, trivial⟩ ⟨congrArg Value.bool (by first | exact Zu (fun q => by unfold Xq at q; omega) | (rw [Zdc]; exact Zeo ⟨fun q => by unfold Xq; omega, fun q => by unfold Xq at q; omega⟩)), E⟩

/-- impl.IsValidGraph -/
theorem Zac {w : World} {LL_gV L : Nat} {F : Value} {gV : List Int} (l : Ls ics 1 w LL_gV L F gV) {LL_gE M : Nat} {G : Value} {gE : List GEdge} (m : Ls GEdge.cs 4 w LL_gE M G gE) :
 Ctr Try.prog 86 #[(.agg #[F, G])] w (fun v w' => v = .bool (tt (Xn gV gE)) ∧ Ch [] w w') := by
 obtain ⟨n, o, H⟩ := l.val
 subst H
 have au := l.len
 have l := l.here (by decide)
 obtain ⟨p, r, I⟩ := m.val
 subst I
 have av := m.len
 have m := m.here (by decide)
 have E := Ch.refl [] w
 refine Yj (N := 59) (vs0 := [(.agg #[(.slice n gV.length o), (.slice p gE.length r)])]) Try.func86 rfl rfl rfl ?_
 refine Zh fun K1 H1 => ?_
 refine Zc (Zl rfl rfl ?_)
 refine Xm rfl fun O W2 J C2 bf => ?_
 have bg := C2.size
 have E := E.trans C2
 have bh := J.lt
 replace J : Blk W2 O 36 [(.slice n gV.length o), (.slice p gE.length r)] := J
 refine Za rfl rfl (Zf rfl) (Ze (Zb (H1 _ _ ?_)))
 refine Zh fun K3 H3 => ?_
 refine Zc (Za rfl rfl (Zd fa36_0 rfl) (Za rfl rfl (Zp J.at_ agg22 rfl rfl) (Za rfl rfl (Yr (by rw [el22]; rfl) rfl) (Za rfl rfl (Zf rfl) (Ze (Zb (H3 _ _ ?_)))))))
 refine Zh fun K4 H4 => ?_
 refine Zh fun K5 H5 => ?_
 refine Zc (Za rfl rfl (Zd fa36_0 rfl) (Za rfl rfl (Zp J.at_ agg22 rfl rfl) (Za rfl rfl (Yr (by rw [el22]; rfl) rfl) (Za rfl rfl (Zg rfl) (Ze (Zb (H5 _ _ ?_)))))))
 refine Yn ?_
 refine Ql (σ := Nat) (fun (k : Nat) => [(1, (.pointer (some ⟨O, 0, none⟩))), (3, (.int .i64 ((gV.length : Nat) : Int))), (12, (.slice n gV.length o)), (13, (.int .i64 ((gV.length : Nat) : Int))), (14, (.int .i64 ((k : Nat) : Int)))]) (fun (k : Nat) wx => Ch [] w wx ∧ W2.heap.size ≤ wx.heap.size ∧ (k ≤ gV.length) ∧ (Zgs gV k) ∧ Blk wx O 36 [(.slice n gV.length o), (.slice p gE.length r)]) (fun (k : Nat) => gV.length - k) 0 (sC4 rfl rfl rfl rfl (sC1 rfl (Sub.nil _))) ⟨E, (Nat.le_refl _), om, (Zgn _), J⟩ ?_
 rintro k R6 ⟨E, aE, bi, hv, A⟩
 have P := E
 have aw := P.size
 have Y := A.lt
 refine Zh fun K7 H7 => ?_
 refine Zc (Za rfl rfl (Qw rfl rfl) (Ze (Zb (H7 _ _ ?_))))
 refine Zh fun K8 H8 => ?_
 refine Zz rfl (fun s => ?_) (fun s => ?_)
 ·have aF := s
  have s := Yt s
  refine Yf ?_
  refine Zb (H8 _ _ ?_)
  refine Zh fun bj ax => ?_
  refine Yn ?_
  refine Zh fun bk aG => ?_
  refine Zc (Zl rfl rfl ?_)
  have aH := l.ch0 P
  refine (Qm aH Yx el22 sz3 rfl rfl rfl om fun aI aJ g Z => ?_)
  refine Za rfl rfl (Zce Z agg3 rfl rfl) (Za rfl rfl (Zf rfl) (Ze (Zb (aG _ _ ?_))))
  refine Zh fun bm aK => ?_
  refine Zc (Za rfl rfl (Zg rfl) (Zl rfl rfl ?_))
  refine Step.call (Zm (xs := [.tmp 18, .const (Go.Value.int Go.IntKind.i64 0), .const (Go.Value.int Go.IntKind.i64 2)]) fk85 rfl) (Qh _ _ _ ) fun aL bn aa => ?_
  obtain ⟨rfl, ab⟩ := aa
  have aM := ab.size
  have E := E.trans ab
  refine Za rfl rfl (Xp rfl) (Ze (Zb (aK _ _ ?_)))
  refine Zz rfl (fun c => ?_) (fun c => ?_)
  ·have ac := c
   have c := Yu (Qj c)
   refine Zh fun bp aN => ?_
   refine Zc (Za rfl rfl (Zf rfl) (Ze (Zb (aN _ _ ?_))))
   refine Zv (Yq (Zt (Zt (Yq (Zt ?_)))))
   clear H4 ax
   exact Zj [_] ⟨rfl, trivial⟩ ⟨congrArg Value.bool (by first | exact Zu (fun q => c (Zbg q g)) | exact Zu (fun q => b (Zbh q a)) | exact Zu (fun q => by have D := Zae q a e om; omega) | exact vg_y hv om hE om om | exact Zu (fun q => by have D := q.2.2.1; omega)), E⟩
  have ac := c
  have c := Yt (Qk c)
  refine Yf ?_
  refine Yc (Zb (ax _ _ (Zc (Za rfl rfl (Xc om rfl rfl) (Za rfl rfl (Zg rfl) (Ze ?_))))))
  have aO := A.ch0 ab
  exact Zb (Exists.intro (k + 1) ⟨⟨E, om, om, (Zgg hv g c), aO⟩, sC4 rfl rfl rfl rfl (sC1 rfl (Sub.nil _)), (by first | omega | (dsimp only; omega))⟩)
 have aF := s
 have s := Yu s
 refine Xx (Yh (Yh (Xg ?_)))
 refine Zb (H4 _ _ ?_)
 refine Zh fun bq ad => ?_
 refine Zh fun br aP => ?_
 refine Zc (Za rfl rfl (Zd fa36_1 rfl) (Za rfl rfl (Zp A.at_ agg34 rfl rfl) (Za rfl rfl (Yr (by rw [el34]; rfl) rfl) (Za rfl rfl (Zg rfl) (Ze (Zb (aP _ _ ?_)))))))
 refine Yn ?_
 refine Ql (σ := Nat) (fun (q : Nat) => [(1, (.pointer (some ⟨O, 0, none⟩))), (3, (.int .i64 ((gV.length : Nat) : Int))), (23, (.slice p gE.length r)), (24, (.int .i64 ((gE.length : Nat) : Int))), (25, (.int .i64 ((q : Nat) : Int)))]) (fun (q : Nat) wx => Ch [] w wx ∧ R6.heap.size ≤ wx.heap.size ∧ (q ≤ gE.length) ∧ (Zco ((gV.length : Int) - 1) gE q) ∧ Blk wx O 36 [(.slice n gV.length o), (.slice p gE.length r)]) (fun (q : Nat) => gE.length - q) 0 (sC4 rfl rfl rfl rfl (sC1 rfl (Sub.nil _))) ⟨E, (Nat.le_refl _), om, (Zfk _ _), A⟩ ?_
 rintro q bs ⟨E, aQ, hq, hE, B⟩
 have Q := E
 have ay := Q.size
 have ae := B.lt
 refine Zh fun bu aR => ?_
 refine Zc (Za rfl rfl (Qw rfl rfl) (Ze (Zb (aR _ _ ?_))))
 refine Zh fun bv af => ?_
 refine Zz rfl (fun u => ?_) (fun u => ?_)
 ·have ag := u
  have u := Yt u
  refine Yf ?_
  refine Zb (af _ _ ?_)
  refine Zh fun bw V => ?_
  refine Yn ?_
  refine Zh fun bz aS => ?_
  refine Zc (Za rfl rfl (Zg rfl) (Zl rfl rfl ?_))
  have az := m.ch0 Q
  refine (Qm az GEdge.len el34 sz129 rfl rfl rfl om fun aT h a ah => ?_)
  refine Za rfl rfl (Zi ah agg129 sz129 rfl) (Zl rfl rfl ?_)
  refine Yd zr129 fun aA aU X R bA => ?_
  have aV := R.size
  have E := E.trans R
  have bB := X.lt
  replace X : Blk aU aA 129 [(.int .i64 0), (.int .i64 0), (.int .i64 0), (.int .i64 0)] := X
  refine Za rfl rfl (Zf rfl) (Zl rfl rfl ?_)
  refine Zk (off := 0) 4 X sz129 rfl (us := [(.int .i64 h.id), (.int .i64 h.f), (.int .i64 h.t), (.int .i64 h.label)]) rfl rfl rfl rfl fun aW C S => ?_
  have aX := S.size
  have E := E.step S (lS om)
  replace C : Blk aW aA 129 [(.int .i64 h.id), (.int .i64 h.f), (.int .i64 h.t), (.int .i64 h.label)] := C
  refine Ze (Zb (aS _ _ ?_))
  refine Zh fun bC ai => ?_
  refine Yv [] 20 mixed rfl fun aY K => ?_
  have aZ := K.size
  have E := E.trans K
  have aB := C.ch0 K
  refine dT 0 rfl rfl rfl (Ye aB.at_ (fun i hi => absurd hi List.not_mem_nil) agg129 sz129 rfl ?_)
  refine dV 1 rfl rfl rfl (fun _ => Zg rfl) (dO 2 (Zr rfl rfl rfl ?_))
  refine Step.call (Zm (xs := [.tmp 30, .tmp 31]) fk121 rfl) (Zdq h _ om) fun a0 a1 aj => ?_
  obtain ⟨rfl, T⟩ := aj
  have a2 := T.size
  have E := E.trans T
  have U : Ch [] aY a1 := ((Ch.refl _ _).trans T)
  refine ⟨U, ?_⟩
  refine dV 3 rfl rfl rfl (fun _ => Xp rfl) (dV 4 rfl rfl rfl (fun _ => Zg rfl) ?_)
  refine Qq (d := 34) rfl (fun b => ?_) (fun b => ?_)
  ·have ak := b
   have b := bf_t (Qj b)
   refine dK 5 rfl rfl rfl (dK 6 rfl rfl rfl (dK 7 rfl rfl rfl (dK 8 rfl rfl rfl (dK 9 rfl rfl rfl (dK 10 rfl rfl rfl (dK 11 rfl rfl rfl (dK 12 rfl rfl rfl ?_)))))))
   refine dK 13 rfl rfl rfl (dK 14 rfl rfl rfl (dK 15 rfl rfl rfl (dK 16 rfl rfl rfl (dK 17 rfl rfl rfl (dK 18 rfl rfl rfl (dV 19 rfl rfl rfl (fun _ => Ym rfl rfl) ?_))))))
   refine Zw (by kernel_rfl) ?_
   refine Zb (ai _ _ ?_)
   refine Xr rfl ?_
   refine Zh fun bD a3 => ?_
   refine Zc (Za rfl rfl (Zf rfl) (Ze (Zb (a3 _ _ ?_))))
   refine Zv (Yq (Zt (Zt (Yq (Zt ?_)))))
   clear H8 ad V
   exact Zj [_] ⟨rfl, trivial⟩ ⟨congrArg Value.bool (by first | exact Zu (fun q => c (Zbg q g)) | exact Zu (fun q => b (Zbh q a)) | exact Zu (fun q => by have D := Zae q a e om; omega) | exact vg_y hv om hE om om | exact Zu (fun q => by have D := q.2.2.1; omega)), E⟩
  have ak := b
  have b := bt_t (Qk b)
  refine dV 5 rfl rfl rfl (fun _ => Zg rfl) (dV 6 rfl rfl rfl (fun _ => Zcj rfl rfl) (dV 7 rfl rfl rfl (fun _ => Zg rfl) ?_))
  refine Qq (d := 37) rfl (fun x => ?_) (fun x => ?_)
  ·have al := x
   have x := Yt x
   refine dV 8 rfl rfl rfl (fun _ => Zd fa36_1 rfl) ?_
   have aC := ((B.ch0 R).ch S (nS om)).ch0 K
   refine dT 9 rfl rfl rfl (Yi aC.at_ (fun i hi => absurd hi List.not_mem_nil) agg34 rfl rfl ?_)
   refine dV 10 rfl rfl rfl (fun _ => Zg rfl) (dV 11 rfl rfl rfl (fun _ => Xe om rfl rfl) ?_)
   have a4 := ((az.ch0 R).ch S (oS om)).ch0 K
   refine dT 12 rfl rfl rfl (Xh (j := (((q : Nat) : Int) - 1).toNat) a4 GEdge.len el34 sz129 rfl rfl om om fun a5 a6 e am => ?_)
   refine dV 13 rfl rfl rfl (fun _ => Zd fa129_0 rfl) ?_
   refine dT 14 rfl rfl rfl (Yi am (fun i hi => absurd hi List.not_mem_nil) agg3 rfl rfl ?_)
   refine dV 15 rfl rfl rfl (fun _ => Zd fa129_0 rfl) ?_
   refine dT 16 rfl rfl rfl (Yi aB.at_ (fun i hi => absurd hi List.not_mem_nil) agg3 rfl rfl ?_)
   refine dV 17 rfl rfl rfl (fun _ => Zgt rfl rfl) (dV 18 rfl rfl rfl (fun _ => Ym rfl rfl) (dV 19 rfl rfl rfl (fun _ => Yl rfl rfl) ?_))
   refine Zw (by kernel_rfl) ?_
   refine Zb (ai _ _ ?_)
   refine Zz rfl (fun y => ?_) (fun y => ?_)
   ·have an := y
    have y := Yt y
    refine Zh fun bF a7 => ?_
    refine Zc (Za rfl rfl (Zf rfl) (Ze (Zb (a7 _ _ ?_))))
    refine Zv (Yq (Zt (Zt (Yq (Zt ?_)))))
    clear H8 ad V
    exact Zj [_] ⟨rfl, trivial⟩ ⟨congrArg Value.bool (by first | exact Zu (fun q => c (Zbg q g)) | exact Zu (fun q => b (Zbh q a)) | exact Zu (fun q => by have D := Zae q a e om; omega) | exact vg_y hv om hE om om | exact Zu (fun q => by have D := q.2.2.1; omega)), E⟩
   have an := y
   have y := Yu y
   refine Yf ?_
   refine Yc (Zb (V _ _ (Zc (Za rfl rfl (Xc om rfl rfl) (Za rfl rfl (Zg rfl) (Ze ?_))))))
   have a8 := aC.ch0 T
   exact Zb (Exists.intro (q + 1) ⟨⟨E, om, om, (by first | exact Zcm hE a b om | (exact Zcl hE a b e om (by first | omega | (rw [a9]; omega)))), a8⟩, sC4 rfl rfl rfl rfl (sC1 rfl (Sub.nil _)), (by first | omega | (dsimp only; omega))⟩)
  have al := x
  have x := Yu x
  refine dK 8 rfl rfl rfl (dK 9 rfl rfl rfl (dK 10 rfl rfl rfl (dK 11 rfl rfl rfl (dK 12 rfl rfl rfl (dK 13 rfl rfl rfl (dK 14 rfl rfl rfl (dK 15 rfl rfl rfl ?_)))))))
  refine dK 16 rfl rfl rfl (dK 17 rfl rfl rfl (dV 18 rfl rfl rfl (fun _ => Yl rfl rfl) (dV 19 rfl rfl rfl (fun _ => Yl rfl rfl) ?_)))
  refine Zw (by kernel_rfl) ?_
  refine Zb (ai _ _ ?_)
  refine Zck rfl ?_
  refine Yf ?_
  refine Yc (Zb (V _ _ (Zc (Za rfl rfl (Xc om rfl rfl) (Za rfl rfl (Zg rfl) (Ze ?_))))))
  have ba := (((B.ch0 R).ch S (nS om)).ch0 K).ch0 T
  exact Zb (Exists.intro (q + 1) ⟨⟨E, om, om, (by first | exact Zcm hE a b om | (exact Zcl hE a b e om (by first | omega | (rw [a9]; omega)))), ba⟩, sC4 rfl rfl rfl rfl (sC1 rfl (Sub.nil _)), (by first | omega | (dsimp only; omega))⟩)
 have ag := u
 have u := Yu u
 refine Xx (Yh (Yh (Xg ?_)))
 refine Zb (ad _ _ ?_)
 refine Zh fun bG aD => ?_
 refine Zc (Za rfl rfl (Zg rfl) (Zl rfl rfl ?_))
 refine Step.call (Zm (xs := [.tmp 51, .const (Go.Value.int Go.IntKind.i64 1), .const (Go.Value.int Go.IntKind.i64 5)]) fk85 rfl) (Qh _ _ _ ) fun bb bH ao => ?_
 obtain ⟨rfl, ap⟩ := ao
 have bc := ap.size
 have E := E.trans ap
 refine Za rfl rfl (Zg rfl) ?_
 refine Yy (d := 53) rfl (fun z => ?_) (fun z => ?_)
 ·have aq := z
  have z := Yt z
  refine Za rfl rfl (Zd fa36_1 rfl) ?_
  have be := B.ch0 ap
  refine Za rfl rfl (Zp be.at_ agg34 rfl rfl) (Za rfl rfl (Yr (by rw [el34]; rfl) rfl) (Za rfl rfl (Zga rfl rfl) (Za rfl rfl (Ym rfl rfl) (Za rfl rfl (Zf rfl) (Ze (Zb (aD _ _ ?_)))))))
  refine Zv ?_
  clear H8 af
  exact Zj [_] ⟨rfl, trivial⟩ ⟨congrArg Value.bool (by first | exact Zu (fun q => c (Zbg q g)) | exact Zu (fun q => b (Zbh q a)) | exact Zu (fun q => by have D := Zae q a e om; omega) | exact vg_y hv om hE om om | exact Zu (fun q => by have D := q.2.2.1; omega)), E⟩
 have aq := z
 have z := Yu z
 refine Zo rfl rfl (Zo rfl rfl (Zo rfl rfl (Zo rfl rfl (Za rfl rfl (Yl rfl rfl) (Za rfl rfl (Zf rfl) (Ze (Zb (aD _ _ ?_))))))))
 refine Zv ?_
 clear H8 af
 exact Zj [_] ⟨rfl, trivial⟩ ⟨congrArg Value.bool (by first | exact Zu (fun q => c (Zbg q g)) | exact Zu (fun q => b (Zbh q a)) | exact Zu (fun q => by have D := Zae q a e om; omega) | exact vg_y hv om hE om om | exact Zu (fun q => by have D := q.2.2.1; omega)), E⟩

/-- impl.copyInts -/
theorem Zcx {w : World} {LL_l f : Nat} {b : Value} {l : List Int} (a : Ls ics 1 w LL_l f b l) (hb : l.length ≤ 4194304) :
 Ctr Try.prog 123 #[b] w (fun v w' => Ol ics 3 1 w' v (l) ∧ Lo w.heap.size v ∧ Ch [] w w') := by
 obtain ⟨g, h, c⟩ := a.val
 subst c
 have s := a.len
 have a := a.here (by decide)
 have E := Ch.refl [] w
 refine Yj (N := 6) (vs0 := [(.slice g l.length h)]) Try.func123 rfl rfl rfl ?_
 refine Zh fun K1 H1 => ?_
 refine Zc (Za rfl rfl (Zf rfl) (Ze (Zb (H1 _ _ ?_))))
 refine Zh fun K2 H2 => ?_
 refine Zc (Zl rfl rfl ?_)
 refine Xb (k := 1) ics el22 sz3 fun B W3 p d C3 => ?_
 have C := C3.size
 have E := E.trans C3
 obtain ⟨t, u, rfl, x, q⟩ := p.opn
 refine Za rfl rfl (Zg rfl) (Zl rfl rfl ?_)
 have F5 := a.ch0 C3
 refine Yg (cs := ics) el22 sz3 by3 zr3 rfl (by decide) Zca p F5 rfl rfl bd bd d om fun y W4 e j z C4 => ?_
 have D := C4.size
 have E := E.step C4 (fun i hi => .inl (by have F := d _ hi; omega))
 replace e : Ol ics 3 1 W4 y l := e
 obtain ⟨m, n, rfl, A, r⟩ := e.opn
 refine Za rfl rfl (Zf rfl) (Ze (Zb (H2 _ _ ?_)))
 refine Zv ?_
 have o : Ol ics 3 1 W4 (.slice m (l).length n) (l) := by
  have hx := e
  first | exact hx | simpa using hx
 exact Zj [_] ⟨rfl, trivial⟩ ⟨o, Lo.down j om, E⟩

/-- impl.copyGraph -/
theorem Xv {w : World} {LL_gV U : Nat} {A : Value} {gV : List Int} (l : Ls ics 1 w LL_gV U A gV) {LL_gE V : Nat} {B : Value} {gE : List GEdge} (m : Ls GEdge.cs 4 w LL_gE V B gE) (hb : gV.length ≤ 4194304 ∧ gE.length ≤ 4194304) :
 Ctr Try.prog 91 #[(.agg #[A, B])] w (fun v w' => ∃ (u : Value) (x : Value), v = .agg #[u, x] ∧ Ol ics 3 1 w' u (gV) ∧ Lo w.heap.size u ∧ Ol GEdge.cs 129 4 w' x (gE) ∧ Lo w.heap.size x ∧ (∀ g ∈ bl u, g ∉ bl x) ∧ Ch [] w w') := by
 obtain ⟨C, D, M⟩ := l.val
 subst M
 have aA := l.len
 have l := l.here (by decide)
 obtain ⟨F, G, O⟩ := m.val
 subst O
 have aB := m.len
 have m := m.here (by decide)
 have E := Ch.refl [] w
 refine Yj (N := 11) (vs0 := [(.agg #[(.slice C gV.length D), (.slice F gE.length G)])]) Try.func91 rfl rfl rfl ?_
 refine Zh fun K1 H1 => ?_
 refine Zc (Zl rfl rfl ?_)
 refine Xm rfl fun aE W2 am C2 a1 => ?_
 have a2 := C2.size
 have E := E.trans C2
 have an := am.lt
 replace am : Blk W2 aE 36 [(.slice C gV.length D), (.slice F gE.length G)] := am
 refine Zl rfl rfl ?_
 refine Yd zr36 fun o W3 X C3 a3 => ?_
 have a4 := C3.size
 have E := E.trans C3
 have a5 := X.lt
 replace X : Blk W3 o 36 [(.slice none 0 0), (.slice none 0 0)] := X
 refine Ze (Zb (H1 _ _ ?_))
 refine Zh fun K4 H4 => ?_
 refine Yv [o] 9 mixed rfl fun W5 C5 => ?_
 have a6 := C5.size
 have E := E.trans C5
 refine dV 0 rfl rfl rfl (fun _ => Zd fa36_0 rfl) ?_
 have F6 := (am.ch0 C3).ch0 C5
 refine dT 1 rfl rfl rfl (Yi F6.at_ (oS om) agg22 rfl rfl ?_)
 refine dV 4 rfl rfl rfl (fun _ => Zd fa36_1 rfl) ?_
 refine dT 5 rfl rfl rfl (Yi F6.at_ (oS om) agg34 rfl rfl ?_)
 refine Xd 2 3 (by kernel_rfl) ?_ ?_
 ·refine Zr rfl rfl rfl ?_
  have F7 := ((l.ch0 C2).ch0 C3).ch0 C5
  refine Step.call (Zm (xs := [.tmp 4]) fk123 rfl) (Zcx F7 om) fun aF W8 y => ?_
  obtain ⟨y, d, C8⟩ := y
  have a7 := C8.size
  have E := E.trans C8
  obtain ⟨e, f, rfl, aq, c⟩ := y.opn
  have Y : Ch [o] W5 W8 := ((Ch.refl _ _).trans C8.of_nil)
  refine ⟨Y, ?_⟩
  refine dO 3 (Zr rfl rfl rfl ?_)
  refine Xb (k := 4) GEdge.cs el34 sz129 fun aG aH Z b R => ?_
  have aI := R.size
  have E := E.trans R
  obtain ⟨au, av, rfl, aw, a⟩ := Z.opn
  have H : Ch [o] W5 aH := (Y.trans R.of_nil)
  refine ⟨H, ?_⟩
  refine dO 6 (Zr rfl rfl rfl ?_)
  have aJ := ((((m.ch0 C2).ch0 C3).ch0 C5).ch0 C8).ch0 R
  refine Yg (cs := GEdge.cs) el34 sz129 by129 zr129 rfl (by decide) GEdge.one Z aJ rfl rfl bd bd b om fun ax aC z P p aa => ?_
  have aK := aa.size
  have E := E.step aa (fun i hi => .inl (by have q := b _ hi; omega))
  replace z : Ol GEdge.cs 129 4 aC ax gE := z
  obtain ⟨h, j, rfl, ay, n⟩ := z.opn
  have I : Ch [o] W5 aC := (H.step aa (fun i hm => by left; have q := b _ hm; have r := a _ hm; omega))
  refine ⟨I, ?_⟩
  refine dV 7 rfl rfl rfl (fun _ => Ys (parts := [(0, .tmp 5), (1, .tmp 9)]) (cells := [(.slice e (gV).length f), (.slice h (gE).length j)]) zr36 pl36 rfl rfl) (dO 8 (Zr rfl rfl rfl ?_))
  have aL := (((X.ch0 C5).ch0 C8).ch0 R).ch aa (fun hm => by have q := b _ hm; have r := a _ hm; omega)
  refine Zk (off := 0) 2 aL sz36 rfl (us := [(.slice e (gV).length f), (.slice h (gE).length j)]) rfl rfl rfl rfl fun ao s ab => ?_
  have aM := ab.size
  have E := E.step ab (lS om)
  replace s : Blk ao o 36 [(.slice e (gV).length f), (.slice h (gE).length j)] := s
  have ac : Ch [o] W5 ao := (I.step ab (fun i hm => by have ad := List.mem_singleton.1 hm; exact .inr (by rw [ad]; exact (List.mem_singleton.2 rfl))))
  refine ⟨ac, ?_⟩
  refine Zw (by kernel_rfl) ?_
  refine Zb (H4 _ _ ?_)
  refine Zv ?_
  have aN := ((y.ch0 R).ch aa (fun g hg hm => by have q := b _ hm; have r := a _ hm; have ae := d _ hg; have az := c _ hg; omega)).ch ab (dS d c om)
  have af : Ol ics 3 1 ao (.slice e (gV).length f) (gV) := by
   have hx := aN
   first | exact hx | simpa using hx
  have aO := z.ch ab (fun g hg hm => by have ad := List.mem_singleton.1 hm; rcases p with ea | ea; (rw [ea] at hg; have r := b _ hg; have ae := a _ hg; omega); (have Q := n _ hg; rw [ea] at hg; have an := List.mem_singleton.1 hg; omega))
  have ag : Ol GEdge.cs 129 4 ao (.slice h (gE).length j) (gE) := by
   have hx := aO
   first | exact hx | simpa using hx
  exact Zj [_] (Zn s rfl agg36 sz36 trivial) ⟨(.slice e (gV).length f), (.slice h (gE).length j), rfl, af, (Lo.down d om), ag, (Lo.down P om), (fun g hm hg => by rcases p with ea | ea; (rw [ea] at hg; have q := d _ hm; have r := c _ hm; have ae := b _ hg; have az := a _ hg; omega); (have Q := n _ hg; rw [ea] at hg; have an := List.mem_singleton.1 hg; have q := d _ hm; have r := c _ hm; omega)), E⟩
 refine Zr rfl rfl rfl ?_
 refine Xb (k := 4) GEdge.cs el34 sz129 fun aG aP Z b S => ?_
 have aQ := S.size
 have E := E.trans S
 obtain ⟨au, av, rfl, aw, a⟩ := Z.opn
 have J : Ch [o] W5 aP := ((Ch.refl _ _).trans S.of_nil)
 refine ⟨J, ?_⟩
 refine dO 2 (Zr rfl rfl rfl ?_)
 have aR := (((l.ch0 C2).ch0 C3).ch0 C5).ch0 S
 refine Step.call (Zm (xs := [.tmp 4]) fk123 rfl) (Zcx aR om) fun aF aS y => ?_
 obtain ⟨y, d, T⟩ := y
 have aT := T.size
 have E := E.trans T
 obtain ⟨e, f, rfl, aq, c⟩ := y.opn
 have K : Ch [o] W5 aS := (J.trans T.of_nil)
 refine ⟨K, ?_⟩
 refine dO 6 (Zr rfl rfl rfl ?_)
 have aU := Z.ch0 T
 have aV := ((((m.ch0 C2).ch0 C3).ch0 C5).ch0 S).ch0 T
 refine Yg (cs := GEdge.cs) el34 sz129 by129 zr129 rfl (by decide) GEdge.one aU aV rfl rfl bd bd b om fun ax aD z P p ah => ?_
 have aW := ah.size
 have E := E.step ah (fun i hi => .inl (by have q := b _ hi; omega))
 replace z : Ol GEdge.cs 129 4 aD ax gE := z
 obtain ⟨h, j, rfl, ay, n⟩ := z.opn
 have L : Ch [o] W5 aD := (K.step ah (fun i hm => by left; have q := b _ hm; have r := a _ hm; omega))
 refine ⟨L, ?_⟩
 refine dV 7 rfl rfl rfl (fun _ => Ys (parts := [(0, .tmp 5), (1, .tmp 9)]) (cells := [(.slice e (gV).length f), (.slice h (gE).length j)]) zr36 pl36 rfl rfl) (dO 8 (Zr rfl rfl rfl ?_))
 have aX := (((X.ch0 C5).ch0 S).ch0 T).ch ah (fun hm => by have q := b _ hm; have r := a _ hm; omega)
 refine Zk (off := 0) 2 aX sz36 rfl (us := [(.slice e (gV).length f), (.slice h (gE).length j)]) rfl rfl rfl rfl fun ap t ai => ?_
 have aY := ai.size
 have E := E.step ai (lS om)
 replace t : Blk ap o 36 [(.slice e (gV).length f), (.slice h (gE).length j)] := t
 have aj : Ch [o] W5 ap := (L.step ai (fun i hm => by have ad := List.mem_singleton.1 hm; exact .inr (by rw [ad]; exact (List.mem_singleton.2 rfl))))
 refine ⟨aj, ?_⟩
 refine Zw (by kernel_rfl) ?_
 refine Zb (H4 _ _ ?_)
 refine Zv ?_
 have aZ := (y.ch ah (fun g hg hm => by have q := b _ hm; have r := a _ hm; have ae := d _ hg; have az := c _ hg; omega)).ch ai (dS d c om)
 have ak : Ol ics 3 1 ap (.slice e (gV).length f) (gV) := by
  have hx := aZ
  first | exact hx | simpa using hx
 have a0 := z.ch ai (fun g hg hm => by have ad := List.mem_singleton.1 hm; rcases p with ea | ea; (rw [ea] at hg; have r := b _ hg; have ae := a _ hg; omega); (have Q := n _ hg; rw [ea] at hg; have an := List.mem_singleton.1 hg; omega))
 have al : Ol GEdge.cs 129 4 ap (.slice h (gE).length j) (gE) := by
  have hx := a0
  first | exact hx | simpa using hx
 exact Zj [_] (Zn t rfl agg36 sz36 trivial) ⟨(.slice e (gV).length f), (.slice h (gE).length j), rfl, ak, (Lo.down d om), al, (Lo.down P om), (fun g hm hg => by rcases p with ea | ea; (rw [ea] at hg; have q := d _ hm; have r := c _ hm; have ae := b _ hg; have az := a _ hg; omega); (have Q := n _ hg; rw [ea] at hg; have an := List.mem_singleton.1 hg; have q := d _ hm; have r := c _ hm; omega)), E⟩

/-- slices.Delete[[]impl.Edge,impl.Edge] -/
theorem Zas {w : World} {d : Value} {s : List GEdge} (e : Ol GEdge.cs 129 4 w d s) (i : Int) (j : Int) (K : 0 ≤ i) (hj : j = i + 1) (hi : i < s.length) (hb : s.length ≤ 4194304) :
 Ctr Try.prog 132 #[d, (.int .i64 i), (.int .i64 j)] w (fun v w' => Ol GEdge.cs 129 4 w' v (s.take i.toNat ++ s.drop (i.toNat + 1)) ∧ (bl v = bl d ∨ Lo w.heap.size v) ∧ Ch (bl d) w w') := by
 obtain ⟨a, b, rfl, z, t⟩ := e.opn
 have E := Ch.refl (bl (.slice a s.length b)) w
 have lc_s := Ow.lec e.ow; have u : Lo 0 (.slice a s.length b) := fun g _ => Nat.zero_le g
 refine Yj (N := 33) (vs0 := [(.slice a s.length b), (.int .i64 i), (.int .i64 j)]) Try.func132 rfl rfl rfl ?_
 refine Zh fun K1 H1 => ?_
 refine Zc (Za rfl rfl (Zf rfl) (Ze (Zb (H1 _ _ ?_))))
 refine Zh fun K2 H2 => ?_
 refine Zc (Za rfl rfl (Zg rfl) (Za rfl rfl (Zg rfl) (Za rfl rfl (Zg rfl) (Za rfl rfl (Zg rfl) (Za rfl rfl (Yr (by rw [el34]; rfl) rfl) (Zl rfl rfl ?_))))))
 refine Zml el34 sz129 rfl rfl rfl rfl om om om om ?_
 refine Ze (Zb (H2 _ _ ?_))
 refine Zh fun K3 H3 => ?_
 refine Zh fun K4 H4 => ?_
 refine Zc (Za rfl rfl (Zg rfl) (Za rfl rfl (Zg rfl) (Za rfl rfl (Qg rfl rfl) (Ze (Zb (H4 _ _ ?_))))))
 refine Zz rfl (fun c => ?_) (fun c => ?_)
 ·have A := c
  have c := Yt c
  refine Zh fun K6 H6 => ?_
  refine Zc (Za rfl rfl (Zg rfl) (Za rfl rfl (Zf rfl) (Ze (Zb (H6 _ _ ?_)))))
  refine Zv (Zt ?_)
  have l : Ol GEdge.cs 129 4 w (.slice a s.length b) (s.take i.toNat ++ s.drop (i.toNat + 1)) := by
   have hx := e
   first | omega | exact hx
  exact Zj [_] ⟨rfl, trivial⟩ ⟨l, .inl rfl, E⟩
 have A := c
 have c := Yu c
 refine Yf ?_
 refine Zb (H3 _ _ ?_)
 refine Zh fun K8 H8 => ?_
 refine Zc (Za rfl rfl (Zg rfl) (Za rfl rfl (Yr (by rw [el34]; rfl) rfl) (Za rfl rfl (Zf rfl) (Ze (Zb (H8 _ _ ?_))))))
 refine Zh fun K9 H9 => ?_
 refine Yv (bl (.slice a s.length b)) 8 mixed rfl fun B m => ?_
 have C := m.size
 have E := E.trans m.of_nil
 refine dV 0 rfl rfl rfl (fun _ => Zg rfl) (dV 1 rfl rfl rfl (fun _ => Zg rfl) (dV 2 rfl rfl rfl (fun _ => Zcs (lo := 0) (hi := i.toNat) el34 sz129 rfl rfl ⟨_, _, rfl, by omega⟩ om om om) (dV 3 rfl rfl rfl (fun _ => Zg rfl) (dV 4 rfl rfl rfl (fun _ => Zg rfl) (dV 5 rfl rfl rfl (fun _ => Zcs (lo := (i.toNat + 1)) (hi := s.length) el34 sz129 rfl ⟨_, _, rfl, by omega⟩ rfl om om om) (dO 6 (Zr rfl rfl rfl ?_)))))))
 have D := e.ch0 m
 refine Zls (N := (s.length - 1)) (i := i.toNat) (j := i.toNat + 1) el34 sz129 by129 zr129 D GEdge.len GEdge.one om om om om rfl rfl fun F n o => ?_
 have G := o.size
 have E := E.trans o
 have f := Zlo (s := s) (i := i.toNat) (N := (s.length - 1)) om om
 have p := Zkp a (s.length - 1) s.length b
 have h : Ch (bl (.slice a s.length b)) B F := ((Ch.refl _ _).step o (fun i hm => by exact .inr hm))
 refine ⟨h, ?_⟩
 refine dV 7 rfl rfl rfl (fun _ => Zf rfl) ?_
 refine Zw (by kernel_rfl) ?_
 refine Zb (H9 _ _ ?_)
 refine Zh fun L H => ?_
 refine Zc (Za rfl rfl (Zg rfl) (Za rfl rfl (Zg rfl) (Za rfl rfl (Yr (by rw [el34]; rfl) rfl) (Za rfl rfl (Zg rfl) (Za rfl rfl (Zcs (lo := (s.length - 1)) (hi := s.length) el34 sz129 rfl ⟨_, _, rfl, by omega⟩ ⟨_, _, rfl, by omega⟩ om om om) (Zl rfl rfl ?_))))))
 refine Zll (lo := (s.length - 1)) (zro := (⟨0, 0, 0, 0⟩ : GEdge)) n (by rw [f]; rfl) GEdge.len el34 sz129 zr129 rfl (GEdge.one _) rfl (by rw [f]; omega) fun x q y => ?_
 have I := y.size
 have E := E.trans y
 have r : Ol GEdge.cs 129 4 x (.slice a (s.length - 1) b) (s.take i.toNat ++ s.drop (i.toNat + 1)) := (Ol.short q (by simp only [List.length_append, List.length_take, List.length_replicate, f]; omega) om om GEdge.len).eq (Zkg _ om om)
 refine Ze (Zb (H _ _ ?_))
 refine Zh fun M J => ?_
 refine Zc (Za rfl rfl (Zg rfl) (Za rfl rfl (Zf rfl) (Ze (Zb (J _ _ ?_)))))
 refine Zv ?_
 have k : Ol GEdge.cs 129 4 x (.slice a (s.length - 1) b) (s.take i.toNat ++ s.drop (i.toNat + 1)) := by
  have hx := r
  first | omega | exact hx
 exact Zj [_] ⟨rfl, trivial⟩ ⟨k, .inl p, E⟩

/-- impl.DeleteEdge -/
theorem Zef {w : World} {LL_gV X : Nat} {M : Value} {gV : List Int} (t : Ls ics 1 w LL_gV X M gV) {LL_gE Y : Nat} {O : Value} {gE : List GEdge} (u : Ls GEdge.cs 4 w LL_gE Y O gE) (n : Int) (hb : gV.length ≤ 4194304 ∧ gE.length ≤ 4194304) :
 Ctr Try.prog 112 #[(.agg #[M, O]), (.int .i64 n)] w (fun v w' => ∃ (J : Value) (K : Value), v = .tuple #[.agg #[J, K], .bool ((delR gV gE n).2)] ∧ Ol ics 3 1 w' J (gV) ∧ Lo w.heap.size J ∧ Ol GEdge.cs 129 4 w' K ((delR gV gE n).1) ∧ Lo w.heap.size K ∧ (∀ g ∈ bl J, g ∉ bl K) ∧ Ch [] w w') := by
 obtain ⟨P, Q, T⟩ := t.val
 subst T
 have aH := t.len
 have t := t.here (by decide)
 obtain ⟨R, S, U⟩ := u.val
 subst U
 have aI := u.len
 have u := u.here (by decide)
 have E := Ch.refl [] w
 refine Yj (N := 29) (vs0 := [(.agg #[(.slice P gV.length Q), (.slice R gE.length S)]), (.int .i64 n)]) Try.func112 rfl rfl rfl ?_
 refine Zh fun K1 H1 => ?_
 refine Zc (Zl rfl rfl ?_)
 refine Xm rfl fun aP W2 aj C2 bz => ?_
 have bA := C2.size
 have E := E.trans C2
 have bB := aj.lt
 replace aj : Blk W2 aP 36 [(.slice P gV.length Q), (.slice R gE.length S)] := aj
 refine Zl rfl rfl ?_
 refine Yd zr36 fun ak W3 V C3 bC => ?_
 have bD := C3.size
 have E := E.trans C3
 have bF := V.lt
 replace V : Blk W3 ak 36 [(.slice none 0 0), (.slice none 0 0)] := V
 refine Za rfl rfl (Zf rfl) (Ze (Zb (H1 _ _ ?_)))
 refine Zh fun K4 H4 => ?_
 refine Zc ?_
 have F5 := aj.ch0 C3
 refine Za rfl rfl (Zi F5.at_ agg36 sz36 rfl) (Zl rfl rfl ?_)
 have F6 := (t.ch0 C2).ch0 C3
 have F7 := (u.ch0 C2).ch0 C3
 refine Step.call (Zm (xs := [.tmp 8]) fk91 rfl) (Xv F6 F7 om) fun bG W8 aQ => ?_
 obtain ⟨av, aw, rfl, o, b, p, a, f, C8⟩ := aQ
 have bH := C8.size
 have E := E.trans C8
 obtain ⟨c, e, rfl, al, l⟩ := o.opn
 obtain ⟨j, k, rfl, am, h⟩ := p.opn
 refine Zl rfl rfl ?_
 refine Yd zr36 fun ax W9 an C9 bI => ?_
 have bJ := C9.size
 have E := E.trans C9
 have bK := an.lt
 replace an : Blk W9 ax 36 [(.slice none 0 0), (.slice none 0 0)] := an
 refine Zl rfl rfl ?_
 refine Zk (off := 0) 2 an sz36 rfl (us := [(.slice c (gV).length e), (.slice j (gE).length k)]) rfl rfl rfl rfl fun aR x B => ?_
 have aS := B.size
 have E := E.step B (lS om)
 replace x : Blk aR ax 36 [(.slice c (gV).length e), (.slice j (gE).length k)] := x
 refine Ze (Zb (H4 _ _ ?_))
 refine Zh fun bL aT => ?_
 refine Zc ?_
 have aJ := ((F5.ch0 C8).ch0 C9).ch B (nS om)
 refine Za rfl rfl (Zi aJ.at_ agg36 sz36 rfl) (Za rfl rfl (Zg rfl) (Zl rfl rfl ?_))
 have aK := ((F6.ch0 C8).ch0 C9).ch B (oS om)
 have aL := ((F7.ch0 C8).ch0 C9).ch B (oS om)
 refine Step.call (Zm (xs := [.tmp 10, .tmp 11]) fk129 rfl) (Zcp aK aL _ ) fun aU bM ay => ?_
 obtain ⟨rfl, y⟩ := ay
 have aV := y.size
 have E := E.trans y
 have aW := Zip gE n
 refine Za rfl rfl (Zf rfl) (Ze (Zb (aT _ _ ?_)))
 refine Zh fun bN aX => ?_
 refine Zh fun bO aM => ?_
 refine Zc (Za rfl rfl (Zg rfl) (Za rfl rfl (Qw rfl rfl) (Za rfl rfl (Zg rfl) ?_)))
 refine Yy (d := 15) rfl (fun z => ?_) (fun z => ?_)
 ·have az := z
  have z := Yt z
  refine Zo rfl rfl (Zo rfl rfl (Zo rfl rfl (Za rfl rfl (Ym rfl rfl) (Ze (Zb (aM _ _ ?_))))))
  refine Xr rfl ?_
  refine Zh fun bP aY => ?_
  refine Zc ?_
  have aZ := x.ch0 y
  refine Za rfl rfl (Zi aZ.at_ agg36 sz36 rfl) (Zl rfl rfl ?_)
  have a0 := (((V.ch0 C8).ch0 C9).ch B (nS om)).ch0 y
  refine Zk (off := 0) 2 a0 sz36 rfl (us := [(.slice c (gV).length e), (.slice j (gE).length k)]) rfl rfl rfl rfl fun aA D ao => ?_
  have a1 := ao.size
  have E := E.step ao (lS om)
  replace D : Blk aA ak 36 [(.slice c (gV).length e), (.slice j (gE).length k)] := D
  refine Za rfl rfl (Zf rfl) (Ze (Zb (aY _ _ ?_)))
  refine Zv (Zt ?_)
  have a2 := (((o.ch0 C9).ch B (dS b l om)).ch0 y).ch ao (dS b l om)
  have Z : Ol ics 3 1 aA (.slice c (gV).length e) (gV) := by
   have hx := a2
   first | exact hx | simpa using hx
  have a3 := (((p.ch0 C9).ch B (dS a h om)).ch0 y).ch ao (dS a h om)
  have aa : Ol GEdge.cs 129 4 aA (.slice j (gE).length k) ((delR gV gE n).1) := by
   have hx := a3
   first | exact hx.eq (congrArg Prod.fst (Zbs (by first | exact fun q => m q.1 | exact fun q => absurd q.2 om))).symm | exact hx.eq (by rw [Zbw ⟨m, by omega⟩])
  exact Zj [_, _] (Zn D rfl agg36 sz36 ⟨rfl, trivial⟩) ⟨(.slice c (gV).length e), (.slice j (gE).length k), (congrArg (fun zq => (Value.tuple #[.agg #[(.slice c (gV).length e), (.slice j (gE).length k)], .bool zq])) (by first | rw [Zbs (by first | exact fun q => m q.1 | exact fun q => absurd q.2 om)] | rw [Zbw ⟨m, by omega⟩])), Z, (Lo.down b om), aa, (Lo.down a om), (fun g hm hg => by exact f _ hm hg), E⟩
 have az := z
 have z := Yu z
 have a4 := aJ.ch0 y
 refine Za rfl rfl (Zi a4.at_ agg36 sz36 rfl) (Zl rfl rfl ?_)
 have a5 := aK.ch0 y
 have a6 := aL.ch0 y
 refine Step.call (Zm (xs := [.tmp 16]) fk86 rfl) (Zac a5 a6 ) fun a7 bQ aB => ?_
 obtain ⟨rfl, I⟩ := aB
 have a8 := I.size
 have E := E.trans I
 refine Za rfl rfl (Xp rfl) (Za rfl rfl (Yl rfl rfl) (Ze (Zb (aM _ _ ?_))))
 refine Zz rfl (fun m => ?_) (fun m => ?_)
 ·have aC := m
  have m := bf_t (Qj m)
  refine Zh fun bR a9 => ?_
  refine Zc ?_
  have ba := (x.ch0 y).ch0 I
  refine Za rfl rfl (Zi ba.at_ agg36 sz36 rfl) (Zl rfl rfl ?_)
  have bb := ((((V.ch0 C8).ch0 C9).ch B (nS om)).ch0 y).ch0 I
  refine Zk (off := 0) 2 bb sz36 rfl (us := [(.slice c (gV).length e), (.slice j (gE).length k)]) rfl rfl rfl rfl fun aD F ap => ?_
  have bc := ap.size
  have E := E.step ap (lS om)
  replace F : Blk aD ak 36 [(.slice c (gV).length e), (.slice j (gE).length k)] := F
  refine Za rfl rfl (Zf rfl) (Ze (Zb (a9 _ _ ?_)))
  refine Zv (Zt ?_)
  have be := ((((o.ch0 C9).ch B (dS b l om)).ch0 y).ch0 I).ch ap (dS b l om)
  have ab : Ol ics 3 1 aD (.slice c (gV).length e) (gV) := by
   have hx := be
   first | exact hx | simpa using hx
  have bf := ((((p.ch0 C9).ch B (dS a h om)).ch0 y).ch0 I).ch ap (dS a h om)
  have ac : Ol GEdge.cs 129 4 aD (.slice j (gE).length k) ((delR gV gE n).1) := by
   have hx := bf
   first | exact hx.eq (congrArg Prod.fst (Zbs (by first | exact fun q => m q.1 | exact fun q => absurd q.2 om))).symm | exact hx.eq (by rw [Zbw ⟨m, by omega⟩])
  exact Zj [_, _] (Zn F rfl agg36 sz36 ⟨rfl, trivial⟩) ⟨(.slice c (gV).length e), (.slice j (gE).length k), (congrArg (fun zq => (Value.tuple #[.agg #[(.slice c (gV).length e), (.slice j (gE).length k)], .bool zq])) (by first | rw [Zbs (by first | exact fun q => m q.1 | exact fun q => absurd q.2 om)] | rw [Zbw ⟨m, by omega⟩])), ab, (Lo.down b om), ac, (Lo.down a om), (fun g hm hg => by exact f _ hm hg), E⟩
 have aC := m
 have m := bt_t (Qk m)
 refine Yf ?_
 refine Zb (aX _ _ ?_)
 refine Zh fun bS bg => ?_
 refine Zc (Za rfl rfl (Zd fa36_1 rfl) ?_)
 have aN := (x.ch0 y).ch0 I
 refine Za rfl rfl (Zp aN.at_ agg34 rfl rfl) (Za rfl rfl (Zg rfl) (Za rfl rfl (Zg rfl) (Za rfl rfl (Xc om rfl rfl) (Zl rfl rfl ?_))))
 have bh := (((p.ch0 C9).ch B (dS a h om)).ch0 y).ch0 I
 refine Step.call (Zm (xs := [.tmp 22, .tmp 23, .tmp 25]) fk132 rfl) (Zas bh _ _ om om om om) fun bi bT L => ?_
 obtain ⟨L, C, ad⟩ := L
 have bj := ad.size
 have E := E.step ad (fun i hi => .inl (by have aE := a _ hi; omega))
 obtain ⟨r, s, rfl, aO, A⟩ := L.opn
 have ae : Lo W3.heap.size (.slice r (gE.take (eiR gE n).toNat ++ gE.drop ((eiR gE n).toNat + 1)).length s) := fun g hg => by rcases C with ea | ea; (rw [ea] at hg; exact a _ hg); (have aF := ea _ hg; omega)
 refine Za rfl rfl (Zd fa36_1 rfl) (Zl rfl rfl ?_)
 have bk := aN.ch ad (fun hm => by have aE := a _ hm; have aq := h _ hm; omega)
 refine Zy (off := 1) bk sz34 rfl rfl rfl rfl fun bm G af => ?_
 have bn := af.size
 have E := E.step af (lS om)
 replace G : Blk bm ax 36 [(.slice c (gV).length e), (.slice r (gE.take (eiR gE n).toNat ++ gE.drop ((eiR gE n).toNat + 1)).length s)] := G
 refine Ze (Zb (bg _ _ ?_))
 refine Zh fun bU bp => ?_
 refine Zc (Za rfl rfl (Zi G.at_ agg36 sz36 rfl) (Zl rfl rfl ?_))
 have bq := ((((((V.ch0 C8).ch0 C9).ch B (nS om)).ch0 y).ch0 I).ch ad (fun hm => by have aE := a _ hm; have aq := h _ hm; omega)).ch af (nS om)
 refine Zk (off := 0) 2 bq sz36 rfl (us := [(.slice c (gV).length e), (.slice r (gE.take (eiR gE n).toNat ++ gE.drop ((eiR gE n).toNat + 1)).length s)]) rfl rfl rfl rfl fun aG H au => ?_
 have br := au.size
 have E := E.step au (lS om)
 replace H : Blk aG ak 36 [(.slice c (gV).length e), (.slice r (gE.take (eiR gE n).toNat ++ gE.drop ((eiR gE n).toNat + 1)).length s)] := H
 refine Za rfl rfl (Zf rfl) (Ze (Zb (bp _ _ ?_)))
 refine Zv ?_
 have bs := ((((((o.ch0 C9).ch B (dS b l om)).ch0 y).ch0 I).ch ad (fun g hg hm => by exact f _ hg hm)).ch af (dS b l om)).ch au (dS b l om)
 have ag : Ol ics 3 1 aG (.slice c (gV).length e) (gV) := by
  have hx := bs
  first | exact hx | simpa using hx
 have bu := (L.ch af (fun g hg hm => by have bv := List.mem_singleton.1 hm; rcases C with ea | ea; (rw [ea] at hg; have aq := a _ hg; have bw := h _ hg; omega); (have ah := A _ hg; have aF := ea _ hg; omega))).ch au (fun g hg hm => by have bv := List.mem_singleton.1 hm; rcases C with ea | ea; (rw [ea] at hg; have aq := a _ hg; have bw := h _ hg; omega); (have ah := A _ hg; have aF := ea _ hg; omega))
 have ai : Ol GEdge.cs 129 4 aG (.slice r (gE.take (eiR gE n).toNat ++ gE.drop ((eiR gE n).toNat + 1)).length s) ((delR gV gE n).1) := by
  have hx := bu
  first | exact hx.eq (congrArg Prod.fst (Zbs (by first | exact fun q => m q.1 | exact fun q => absurd q.2 om))).symm | exact hx.eq (by rw [Zbw ⟨m, by omega⟩])
 exact Zj [_, _] (Zn H rfl agg36 sz36 ⟨rfl, trivial⟩) ⟨(.slice c (gV).length e), (.slice r (gE.take (eiR gE n).toNat ++ gE.drop ((eiR gE n).toNat + 1)).length s), (congrArg (fun zq => (Value.tuple #[.agg #[(.slice c (gV).length e), (.slice r (gE.take (eiR gE n).toNat ++ gE.drop ((eiR gE n).toNat + 1)).length s)], .bool zq])) (by first | rw [Zbs (by first | exact fun q => m q.1 | exact fun q => absurd q.2 om)] | rw [Zbw ⟨m, by omega⟩])), ag, (Lo.down b om), ai, (Lo.down ae om), (fun g hm hg => by rcases C with ea | ea; (rw [ea] at hg; exact f _ hm hg); (have ah := A _ hg; have aF := ea _ hg; have aE := b _ hm; have aq := l _ hm; omega)), E⟩

/-- slices.Insert[[]impl.Edge,impl.Edge] -/
theorem Qx {w : World} {k : Value} {s : List GEdge} (a : Ol GEdge.cs 129 4 w k s) (i : Nat) {r : Value} {u : List GEdge} (l : Ol GEdge.cs 129 4 w r u) (hv : u.length = 1) (hi : i ≤ s.length) (hb : s.length ≤ 4194304) (hd : ∀ g ∈ bl k, g ∉ bl r) :
 Ctr Try.prog 130 #[k, (.int .i64 ((i : Nat) : Int)), r] w (fun v w' => Ol GEdge.cs 129 4 w' v (s.take i ++ u ++ s.drop i) ∧ (bl v = bl k ∨ Lo w.heap.size v) ∧ Ch (bl k) w w') := by
 obtain ⟨b, d, rfl, ay, z⟩ := a.opn
 obtain ⟨V, X, rfl, az, al⟩ := l.opn
 have E := Ch.refl (bl (.slice b s.length d)) w
 have lc_s := Ow.lec a.ow; have o : Lo 0 (.slice b s.length d) := fun g _ => Nat.zero_le g
 refine Yj (N := 95) (vs0 := [(.slice b s.length d), (.int .i64 ((i : Nat) : Int)), (.slice V u.length X)]) Try.func130 rfl rfl rfl ?_
 refine Zh fun K1 H1 => ?_
 refine Zc (Za rfl rfl (Zf rfl) (Ze (Zb (H1 _ _ ?_))))
 refine Zh fun K2 H2 => ?_
 refine Zc (Za rfl rfl (Zg rfl) (Za rfl rfl (Zg rfl) (Zl rfl rfl ?_)))
 refine (Zeu (ys := (s.drop i)) i s.length a GEdge.len el34 sz129 rfl ⟨_, _, rfl, by omega⟩ rfl om om (Zcb _ _) fun aA Y am an => ?_)
 obtain ⟨aB, aC, rfl, aD, aE⟩ := Y.opn
 refine Ze (Zb (H2 _ _ ?_))
 refine Zh fun K3 H3 => ?_
 refine Zc (Za rfl rfl (Zg rfl) (Za rfl rfl (Yr (by rw [el34]; rfl) rfl) (Za rfl rfl (Zf rfl) (Ze (Zb (H3 _ _ ?_))))))
 refine Zh fun K4 H4 => ?_
 refine Zh fun K5 H5 => ?_
 refine Zc (Za rfl rfl (Zg rfl) (Za rfl rfl (Qg rfl rfl) (Ze (Zb (H5 _ _ ?_)))))
 refine Zz rfl (fun e => ?_) (fun e => ?_)
 ·have aF := e
  have e := Yt e
  refine Zh fun K7 H7 => ?_
  refine Zc (Za rfl rfl (Zg rfl) (Za rfl rfl (Zf rfl) (Ze (Zb (H7 _ _ ?_)))))
  refine Zv (Zt ?_)
  have Z : Ol GEdge.cs 129 4 w (.slice b s.length d) (s.take i ++ u ++ s.drop i) := by
   have hx := a
   first | omega | exact hx | exact hx.eq (by rw [List.take_of_length_le om, List.drop_of_length_le om, List.append_nil])
  exact Zj [_] ⟨rfl, trivial⟩ ⟨Z, .inl rfl, E⟩
 have aF := e
 have e := Yu e
 refine Yf ?_
 refine Zb (H4 _ _ ?_)
 refine Zh fun K9 H9 => ?_
 refine Zc (Za rfl rfl (Zg rfl) (Za rfl rfl (Yr (by rw [el34]; rfl) rfl) (Za rfl rfl (Zf rfl) (Ze (Zb (H9 _ _ ?_))))))
 refine Zh fun ba aG => ?_
 refine Zh fun bb aH => ?_
 refine Zc (Za rfl rfl (Zg rfl) (Za rfl rfl (Zg rfl) (Za rfl rfl (Qg rfl rfl) (Ze (Zb (aH _ _ ?_))))))
 refine Zz rfl (fun f => ?_) (fun f => ?_)
 ·have aa := f
  have f := Yt f
  refine Zh fun bc aI => ?_
  refine Zc (Za rfl rfl (Zg rfl) (Za rfl rfl (Zg rfl) (Zl rfl rfl ?_)))
  refine Yg (cs := GEdge.cs) el34 sz129 by129 zr129 rfl (by decide) GEdge.one a l.ls rfl rfl bd bd o om fun aJ aK A ao B ap => ?_
  have aL := ap.size
  have E := E.trans ap
  obtain ⟨p, q, rfl, aq, ab⟩ := A.opn
  refine Za rfl rfl (Zf rfl) (Ze (Zb (aI _ _ ?_)))
  refine Zv (Zt ?_)
  have C : Ol GEdge.cs 129 4 aK (.slice p ((s ++ u)).length q) (s.take i ++ u ++ s.drop i) := by
   have hx := A
   first | omega | exact hx | exact hx.eq (by rw [List.take_of_length_le om, List.drop_of_length_le om, List.append_nil])
  exact Zj [_] ⟨rfl, trivial⟩ ⟨C, B.imp id (fun ea g hg => by have ac : g ∈ bl (.slice p ((s ++ u)).length q) := hg; rw [ea] at ac; have ad := List.mem_singleton.1 ac; omega), E⟩
 have aa := f
 have f := Yu f
 refine Yf ?_
 refine Zb (aG _ _ ?_)
 refine Zh fun be aM => ?_
 refine Zh fun bf aN => ?_
 refine Zc (Za rfl rfl (Zg rfl) (Za rfl rfl (Zg rfl) (Za rfl rfl (Xc om rfl rfl) (Za rfl rfl (Zg rfl) (Za rfl rfl (Zmv el34 rfl) (Za rfl rfl (Zcj rfl rfl) (Ze ?_)))))))
 refine Zb (aN _ _ ?_)
 refine Zz rfl (fun h => ?_) (fun h => ?_)
 ·have ae := h
  have h := Yt h
  refine Zh fun bg aO => ?_
  refine Zc (Za rfl rfl (Zg rfl) (Za rfl rfl (Zg rfl) (Za rfl rfl (Zks (lo := 0) (hi := i) el34 sz129 rfl rfl ⟨_, _, rfl, by omega⟩ om om om (Zdk a.ow om)) (Za rfl rfl (Zg rfl) (Za rfl rfl (Zg rfl) (Za rfl rfl (Xc om rfl rfl) (Za rfl rfl (Zg rfl) ?_)))))))
  refine Za rfl rfl (Xe om rfl rfl) (Zl rfl rfl ?_)
  refine Zlr (m := s.length + 1 - i) (N := s.length + 1) el34 sz129 by129 zr129 rfl (by decide) un3 (Ow.cut0 a.ow om om) (Ow.some a.ow om) om om om om om om rfl rfl fun Q bh bi aP D F R => ?_
  have aQ := R.size
  have E := E.trans R.of_nil
  have j : Lo w.heap.size (.slice (some ⟨w.heap.size, 0, none⟩) (s.length + 1) Q) := fun g hg => by have ac := List.mem_singleton.1 (show g ∈ [w.heap.size] from hg); omega
  have af := F.lt
  refine Za rfl rfl (Zf rfl) (Ze (Zb (aO _ _ ?_)))
  refine Zh fun bj aR => ?_
  refine Zc (Za rfl rfl (Zg rfl) (Za rfl rfl (Zg rfl) (Za rfl rfl (Zcs (lo := i) (hi := (s.length + 1)) el34 sz129 rfl ⟨_, _, rfl, by omega⟩ rfl om om om) (Za rfl rfl (Zg rfl) (Zl rfl rfl ?_)))))
  have aS := l.ch0 R
  refine Zfr (lo := i) (hi := s.length + 1) (c := 1) F rfl om om el34 sz129 (Ow.sl aS.ow) om om (Zhq GEdge.one) rfl rfl fun bk G ag => ?_
  have aT := ag.size
  have E := E.step ag (fun i hi => .inl (by have ad := j _ hi; omega))
  rw [Zmo (show ((s.flatMap GEdge.cs).take (i * 4)).length = i * 4 by rw [List.length_take, flat_len GEdge.len]; omega) (show (u.flatMap GEdge.cs).length = 4 by rw [flat_len GEdge.len]; omega) (by rw [D]; omega)] at G
  refine Ze (Zb (aR _ _ ?_))
  refine Zh fun bm aU => ?_
  refine Yv (bl (.slice (some ⟨w.heap.size, 0, none⟩) (s.length + 1) Q)) 9 mixed rfl fun aV S => ?_
  have aW := S.size
  have E := E.trans S.of_nil
  refine dV 0 rfl rfl rfl (fun _ => Zg rfl) (dV 1 rfl rfl rfl (fun _ => Zg rfl) (dV 2 rfl rfl rfl (fun _ => Zg rfl) (dV 3 rfl rfl rfl (fun _ => Xc om rfl rfl) (dV 4 rfl rfl rfl (fun _ => Zcs (lo := (i + 1)) (hi := (s.length + 1)) el34 sz129 rfl ⟨_, _, rfl, by omega⟩ rfl om om om) (dV 5 rfl rfl rfl (fun _ => Zg rfl) (dV 6 rfl rfl rfl (fun _ => Zg rfl) (dV 7 rfl rfl rfl (fun _ => Zcs (lo := i) (hi := s.length) el34 sz129 rfl ⟨_, _, rfl, by omega⟩ rfl om om om) ?_)))))))
  refine dO 8 (Zr rfl rfl rfl ?_)
  have aX := G.ch0 S
  have aY := ((a.ch0 R).ch ag (fun g hg hm => by have ad := j _ hm; have bn := af _ hm; have bp := o _ hg; have bq := z _ hg; omega)).ch0 S
  refine Zfr (lo := i + 1) (hi := s.length + 1) (c := s.length - i) aX rfl om om el34 sz129 (Ow.cutSl (lo := i) (hi := s.length) aY.ow om om) om om (fun y hy => Zhi GEdge.one y (List.mem_of_mem_take (List.mem_of_mem_take hy))) rfl rfl fun au H ah => ?_
  have aZ := ah.size
  have E := E.step ah (fun i hi => .inl (by have ad := j _ hi; omega))
  rw [Zmk (show ((s.flatMap GEdge.cs).take (i * 4)).length = i * 4 by rw [List.length_take, flat_len GEdge.len]; omega) (show (u.flatMap GEdge.cs).length = 4 by rw [flat_len GEdge.len]; omega) (by rw [List.length_take, List.length_drop, flat_len GEdge.len]; omega) hi D, Zds (flat_len GEdge.len s)] at H
  have ai := Zko H hv hi GEdge.len
  have I : Ch (bl (.slice (some ⟨w.heap.size, 0, none⟩) (s.length + 1) Q)) aV au := ((Ch.refl _ _).step ah (fun i hm => by exact .inr hm))
  refine ⟨I, ?_⟩
  refine Zw (by kernel_rfl) ?_
  refine Zb (aU _ _ ?_)
  refine Zh fun br a0 => ?_
  refine Zc (Za rfl rfl (Zg rfl) (Za rfl rfl (Zf rfl) (Ze (Zb (a0 _ _ ?_)))))
  refine Zv (Zt ?_)
  have J : Ol GEdge.cs 129 4 au (.slice (some ⟨w.heap.size, 0, none⟩) (s.length + 1) Q) (s.take i ++ u ++ s.drop i) := by
   have hx := ai
   first | omega | exact hx | exact hx.eq (by rw [List.take_of_length_le om, List.drop_of_length_le om, List.append_nil])
  exact Zj [_] ⟨rfl, trivial⟩ ⟨J, .inr (Lo.down j om), E⟩
 have ae := h
 have h := Yu h
 refine Yf ?_
 refine Zb (aM _ _ ?_)
 refine Zh fun bs a1 => ?_
 refine Zc (Za rfl rfl (Zg rfl) (Za rfl rfl (Zg rfl) (Za rfl rfl (Zg rfl) (Za rfl rfl (Xc om rfl rfl) ?_))))
 obtain ⟨bu, t, K⟩ := Ow.extA a.ow om om
 have n := Zkp b (s.length + 1) s.length d
 refine Za rfl rfl (Zks (lo := 0) (hi := s.length + 1) el34 sz129 rfl rfl ⟨_, _, rfl, by omega⟩ om om om (Zdk a.ow om)) (Za rfl rfl (Zf rfl) (Ze (Zb (a1 _ _ ?_))))
 refine Zh fun bv bw => ?_
 refine Zh fun bz a2 => ?_
 refine Zc (Za rfl rfl (Zg rfl) (Za rfl rfl (Zg rfl) (Za rfl rfl (Zg rfl) (Za rfl rfl (Zg rfl) (Za rfl rfl (Xc om rfl rfl) (Za rfl rfl (Zcs (lo := (i + 1)) (hi := (s.length + 1)) el34 sz129 rfl ⟨_, _, rfl, by omega⟩ rfl om om om) (Zl rfl rfl ?_)))))))
 refine Zng (lo := i + 1) (hi := s.length + 1) Try.func137 rfl rfl rfl rfl el34 sz129 (by decide) l.ow om K om (fun g hg => hd g (n ▸ hg)) rfl rfl ?_
 refine Za rfl rfl (Xp rfl) (Ze (Zb (a2 _ _ ?_)))
 refine Xr rfl ?_
 refine Zh fun bA a3 => ?_
 refine Yv (bl (.slice b s.length d)) 9 mixed rfl fun av T => ?_
 have a4 := T.size
 have E := E.trans T.of_nil
 refine dV 0 rfl rfl rfl (fun _ => Zg rfl) (dV 1 rfl rfl rfl (fun _ => Zg rfl) (dV 2 rfl rfl rfl (fun _ => Zg rfl) (dV 3 rfl rfl rfl (fun _ => Xc om rfl rfl) (dV 4 rfl rfl rfl (fun _ => Zcs (lo := (i + 1)) (hi := (s.length + 1)) el34 sz129 rfl ⟨_, _, rfl, by omega⟩ rfl om om om) (dV 5 rfl rfl rfl (fun _ => Zg rfl) (dV 6 rfl rfl rfl (fun _ => Zg rfl) (dV 7 rfl rfl rfl (fun _ => Zcs (lo := i) (hi := (s.length + 1)) el34 sz129 rfl ⟨_, _, rfl, by omega⟩ rfl om om om) ?_)))))))
 refine dO 8 (Zr rfl rfl rfl ?_)
 have aw := K.ch0 T
 refine Zfr (lo := i + 1) (hi := s.length + 1) (c := s.length - i) aw rfl om om el34 sz129 (Ow.cutSl (lo := i) (hi := s.length + 1) aw om om) om om (by rw [Zlq (flat_len GEdge.len s) t hi]; exact Zhi GEdge.one) rfl rfl fun aj L x => ?_
 replace x : Ch (bl (.slice b s.length d)) av aj := n ▸ x
 have a5 := x.size
 have E := E.trans x
 rw [Zlj (flat_len GEdge.len s) t hi] at L
 have M : Ch (bl (.slice b s.length d)) av aj := ((Ch.refl _ _).step x (fun i hm => by exact .inr hm))
 refine ⟨M, ?_⟩
 refine Zw (by kernel_rfl) ?_
 refine Zb (a3 _ _ ?_)
 refine Zh fun bB a6 => ?_
 refine Zc (Za rfl rfl (Zg rfl) (Za rfl rfl (Zg rfl) (Za rfl rfl (Zcs (lo := i) (hi := (s.length + 1)) el34 sz129 rfl ⟨_, _, rfl, by omega⟩ rfl om om om) (Za rfl rfl (Zg rfl) (Zl rfl rfl ?_)))))
 have a7 := (l.ch0 T).ch x (fun g hg hm => by exact hd _ hm hg)
 refine Zfr (lo := i) (hi := s.length + 1) (c := 1) L rfl om om el34 sz129 (Ow.sl a7.ow) om om (Zhq GEdge.one) rfl rfl fun ax O U => ?_
 replace U : Ch (bl (.slice b s.length d)) aj ax := n ▸ U
 have a8 := U.size
 have E := E.trans U
 rw [Zmq (flat_len GEdge.len s) t (show (u.flatMap GEdge.cs).length = 4 by rw [flat_len GEdge.len]; omega) om] at O
 have ak := Zko O hv hi GEdge.len
 refine Ze (Zb (a6 _ _ ?_))
 refine Zh fun bC a9 => ?_
 refine Zc (Za rfl rfl (Zg rfl) (Za rfl rfl (Zf rfl) (Ze (Zb (a9 _ _ ?_)))))
 refine Zv (Zt ?_)
 have P : Ol GEdge.cs 129 4 ax (.slice b (s.length + 1) d) (s.take i ++ u ++ s.drop i) := by
  have hx := ak
  first | omega | exact hx | exact hx.eq (by rw [List.take_of_length_le om, List.drop_of_length_le om, List.append_nil])
 exact Zj [_] ⟨rfl, trivial⟩ ⟨P, .inl n, E⟩

/-- impl.InsertEdge -/
theorem Zed {w : World} {LL_gV aO : Nat} {av : Value} {gV : List Int} (K : Ls ics 1 w LL_gV aO av gV) {LL_gE aP : Nat} {aw : Value} {gE : List GEdge} (L : Ls GEdge.cs 4 w LL_gE aP aw gE) (e : GEdge) (hb : gV.length ≤ 4194304 ∧ gE.length ≤ 4194304) :
 Ctr Try.prog 110 #[(.agg #[av, aw]), (.agg #[(.int .i64 e.id), (.int .i64 e.f), (.int .i64 e.t), (.int .i64 e.label)])] w (fun v w' => ∃ (an : Value) (ao : Value), v = .tuple #[.agg #[an, ao], .bool ((insR gV gE e).2)] ∧ Ol ics 3 1 w' an (gV) ∧ Lo w.heap.size an ∧ Ol GEdge.cs 129 4 w' ao ((insR gV gE e).1) ∧ Lo w.heap.size ao ∧ (∀ g ∈ bl an, g ∉ bl ao) ∧ Ch [] w w') := by
 obtain ⟨ax, ay, aE⟩ := K.val
 subst aE
 have bY := K.len
 have K := K.here (by decide)
 obtain ⟨az, aA, aF⟩ := L.val
 subst aF
 have bZ := L.len
 have L := L.here (by decide)
 have E := Ch.refl [] w
 refine Yj (N := 61) (vs0 := [(.agg #[(.slice ax gV.length ay), (.slice az gE.length aA)]), (.agg #[(.int .i64 e.id), (.int .i64 e.f), (.int .i64 e.t), (.int .i64 e.label)])]) Try.func110 rfl rfl rfl ?_
 refine Zh fun K1 H1 => ?_
 refine Zc (Zl rfl rfl ?_)
 refine Xm rfl fun ce W2 a6 C2 dq => ?_
 have dr := C2.size
 have E := E.trans C2
 have ds := a6.lt
 replace a6 : Blk W2 ce 36 [(.slice ax gV.length ay), (.slice az gE.length aA)] := a6
 refine Zl rfl rfl ?_
 refine Xm rfl fun bi W3 a7 C3 dt => ?_
 have du := C3.size
 have E := E.trans C3
 have dv := a7.lt
 replace a7 : Blk W3 bi 129 [(.int .i64 e.id), (.int .i64 e.f), (.int .i64 e.t), (.int .i64 e.label)] := a7
 refine Zl rfl rfl ?_
 refine Yd zr36 fun ap W4 aB C4 dw => ?_
 have dx := C4.size
 have E := E.trans C4
 have dy := aB.lt
 replace aB : Blk W4 ap 36 [(.slice none 0 0), (.slice none 0 0)] := aB
 refine Za rfl rfl (Zf rfl) (Ze (Zb (H1 _ _ ?_)))
 refine Zh fun K5 H5 => ?_
 refine Zc ?_
 have F6 := (a6.ch0 C3).ch0 C4
 refine Za rfl rfl (Zi F6.at_ agg36 sz36 rfl) (Zl rfl rfl ?_)
 have F7 := ((K.ch0 C2).ch0 C3).ch0 C4
 have F8 := ((L.ch0 C2).ch0 C3).ch0 C4
 refine Step.call (Zm (xs := [.tmp 8]) fk91 rfl) (Xv F7 F8 om) fun dz W9 cf => ?_
 obtain ⟨bj, bk, rfl, s, h, u, a, l, C9⟩ := cf
 have dA := C9.size
 have E := E.trans C9
 obtain ⟨b, c, rfl, a8, o⟩ := s.opn
 obtain ⟨m, n, rfl, a9, j⟩ := u.opn
 refine Zl rfl rfl ?_
 refine Yd zr36 fun aM cg ba H dB => ?_
 have ci := H.size
 have E := E.trans H
 have dC := ba.lt
 replace ba : Blk cg aM 36 [(.slice none 0 0), (.slice none 0 0)] := ba
 refine Zl rfl rfl ?_
 refine Zk (off := 0) 2 ba sz36 rfl (us := [(.slice b (gV).length c), (.slice m (gE).length n)]) rfl rfl rfl rfl fun cj D I => ?_
 have ck := I.size
 have E := E.step I (lS om)
 replace D : Blk cj aM 36 [(.slice b (gV).length c), (.slice m (gE).length n)] := D
 refine Ze (Zb (H5 _ _ ?_))
 refine Zh fun dD cl => ?_
 refine Zh fun dE bb => ?_
 refine Zc ?_
 have b0 := ((F6.ch0 C9).ch0 H).ch I (nS om)
 refine Za rfl rfl (Zi b0.at_ agg36 sz36 rfl) (Zl rfl rfl ?_)
 have b1 := ((F7.ch0 C9).ch0 H).ch I (oS om)
 have b2 := ((F8.ch0 C9).ch0 H).ch I (oS om)
 refine Step.call (Zm (xs := [.tmp 10]) fk86 rfl) (Zac b1 b2 ) fun cm dF bm => ?_
 obtain ⟨rfl, C⟩ := bm
 have cn := C.size
 have E := E.trans C
 refine Za rfl rfl (Xp rfl) (Za rfl rfl (Zg rfl) ?_)
 refine Yy (d := 13) rfl (fun p => ?_) (fun p => ?_)
 ·have bn := p
  have p := bf_t (Qj p)
  refine Zo rfl rfl (Zo rfl rfl (Zo rfl rfl (Zo rfl rfl (Zo rfl rfl (Zo rfl rfl (Za rfl rfl (Ym rfl rfl) (Za rfl rfl (Zg rfl) ?_)))))))
  refine Zo rfl rfl (Zo rfl rfl (Zo rfl rfl (Zo rfl rfl (Zo rfl rfl (Za rfl rfl (Ym rfl rfl) (Za rfl rfl (Zg rfl) (Zo rfl rfl ?_)))))))
  refine Zo rfl rfl (Zo rfl rfl (Zo rfl rfl (Za rfl rfl (Ym rfl rfl) (Ze (Zb (bb _ _ ?_))))))
  refine Xr rfl ?_
  refine Zh fun dG co => ?_
  refine Zc ?_
  have cp := D.ch0 C
  refine Za rfl rfl (Zi cp.at_ agg36 sz36 rfl) (Zl rfl rfl ?_)
  have cq := (((aB.ch0 C9).ch0 H).ch I (nS om)).ch0 C
  refine Zk (off := 0) 2 cq sz36 rfl (us := [(.slice b (gV).length c), (.slice m (gE).length n)]) rfl rfl rfl rfl fun bp Y bc => ?_
  have cr := bc.size
  have E := E.step bc (lS om)
  replace Y : Blk bp ap 36 [(.slice b (gV).length c), (.slice m (gE).length n)] := Y
  refine Za rfl rfl (Zf rfl) (Ze (Zb (co _ _ ?_)))
  refine Zv (Zt ?_)
  have ct := (((s.ch0 H).ch I (dS h o om)).ch0 C).ch bc (dS h o om)
  have aQ : Ol ics 3 1 bp (.slice b (gV).length c) (gV) := by
   have hx := ct
   first | exact hx | simpa using hx
  have cu := (((u.ch0 H).ch I (dS a j om)).ch0 C).ch bc (dS a j om)
  have aR : Ol GEdge.cs 129 4 bp (.slice m (gE).length n) ((insR gV gE e).1) := by
   have hx := cu
   first | exact hx.eq (by rw [Xu (by first | exact fun q => p q.1 | exact fun q => r q.2.1 | exact fun q => absurd q.2.2.1 om | exact fun q => q.2.2.2 om)]) | exact hx.eq (by rw [Xs ⟨p, r, by omega, by omega⟩]; unfold insL; rw [(show insK gE e.id = k from (by first | exact Qp hp F A | exact Zao hp om om))])
  exact Zj [_, _] (Zn Y rfl agg36 sz36 ⟨rfl, trivial⟩) ⟨(.slice b (gV).length c), (.slice m (gE).length n), (congrArg (fun zq => (Value.tuple #[.agg #[(.slice b (gV).length c), (.slice m (gE).length n)], .bool zq])) (by first | rw [Xu (by first | exact fun q => p q.1 | exact fun q => r q.2.1 | exact fun q => absurd q.2.2.1 om | exact fun q => q.2.2.2 om)] | rw [Xs ⟨p, r, by omega, by omega⟩])), aQ, (Lo.down h om), aR, (Lo.down a om), (fun g hm hg => by exact l _ hm hg), E⟩
 have bn := p
 have p := bt_t (Qk p)
 have b3 := ((((a7.ch0 C4).ch0 C9).ch0 H).ch I (nS om)).ch0 C
 refine Za rfl rfl (Zi b3.at_ agg129 sz129 rfl) (Za rfl rfl (Zd fa36_0 rfl) ?_)
 have b4 := b0.ch0 C
 refine Za rfl rfl (Zp b4.at_ agg22 rfl rfl) (Za rfl rfl (Yr (by rw [el22]; rfl) rfl) (Zl rfl rfl ?_))
 refine Step.call (Zm (xs := [.tmp 14, .tmp 17]) fk121 rfl) (Zdq e _ om) fun cv dH bq => ?_
 obtain ⟨rfl, G⟩ := bq
 have cw := G.size
 have E := E.trans G
 refine Za rfl rfl (Xp rfl) (Za rfl rfl (Yl rfl rfl) (Za rfl rfl (Zg rfl) ?_))
 refine Yy (d := 21) rfl (fun r => ?_) (fun r => ?_)
 ·have br := r
  have r := bf_t (Qj r)
  refine Zo rfl rfl (Zo rfl rfl (Zo rfl rfl (Zo rfl rfl (Zo rfl rfl (Za rfl rfl (Ym rfl rfl) (Za rfl rfl (Zg rfl) (Zo rfl rfl ?_)))))))
  refine Zo rfl rfl (Zo rfl rfl (Zo rfl rfl (Za rfl rfl (Ym rfl rfl) (Ze (Zb (bb _ _ ?_))))))
  refine Xr rfl ?_
  refine Zh fun dI cx => ?_
  refine Zc ?_
  have cy := (D.ch0 C).ch0 G
  refine Za rfl rfl (Zi cy.at_ agg36 sz36 rfl) (Zl rfl rfl ?_)
  have cz := ((((aB.ch0 C9).ch0 H).ch I (nS om)).ch0 C).ch0 G
  refine Zk (off := 0) 2 cz sz36 rfl (us := [(.slice b (gV).length c), (.slice m (gE).length n)]) rfl rfl rfl rfl fun bs Z be => ?_
  have cA := be.size
  have E := E.step be (lS om)
  replace Z : Blk bs ap 36 [(.slice b (gV).length c), (.slice m (gE).length n)] := Z
  refine Za rfl rfl (Zf rfl) (Ze (Zb (cx _ _ ?_)))
  refine Zv (Zt ?_)
  have cB := ((((s.ch0 H).ch I (dS h o om)).ch0 C).ch0 G).ch be (dS h o om)
  have aS : Ol ics 3 1 bs (.slice b (gV).length c) (gV) := by
   have hx := cB
   first | exact hx | simpa using hx
  have cC := ((((u.ch0 H).ch I (dS a j om)).ch0 C).ch0 G).ch be (dS a j om)
  have aT : Ol GEdge.cs 129 4 bs (.slice m (gE).length n) ((insR gV gE e).1) := by
   have hx := cC
   first | exact hx.eq (by rw [Xu (by first | exact fun q => p q.1 | exact fun q => r q.2.1 | exact fun q => absurd q.2.2.1 om | exact fun q => q.2.2.2 om)]) | exact hx.eq (by rw [Xs ⟨p, r, by omega, by omega⟩]; unfold insL; rw [(show insK gE e.id = k from (by first | exact Qp hp F A | exact Zao hp om om))])
  exact Zj [_, _] (Zn Z rfl agg36 sz36 ⟨rfl, trivial⟩) ⟨(.slice b (gV).length c), (.slice m (gE).length n), (congrArg (fun zq => (Value.tuple #[.agg #[(.slice b (gV).length c), (.slice m (gE).length n)], .bool zq])) (by first | rw [Xu (by first | exact fun q => p q.1 | exact fun q => r q.2.1 | exact fun q => absurd q.2.2.1 om | exact fun q => q.2.2.2 om)] | rw [Xs ⟨p, r, by omega, by omega⟩])), aS, (Lo.down h om), aT, (Lo.down a om), (fun g hm hg => by exact l _ hm hg), E⟩
 have br := r
 have r := bt_t (Qk r)
 have b5 := b4.ch0 G
 refine Za rfl rfl (Zi b5.at_ agg36 sz36 rfl) (Za rfl rfl (Zd fa129_0 rfl) ?_)
 have b6 := b3.ch0 G
 refine Za rfl rfl (Zp b6.at_ agg3 rfl rfl) (Zl rfl rfl ?_)
 have cD := (b1.ch0 C).ch0 G
 have cE := (b2.ch0 C).ch0 G
 refine Step.call (Zm (xs := [.tmp 22, .tmp 24]) fk129 rfl) (Zcp cD cE _ ) fun cF cG bu => ?_
 obtain ⟨rfl, M⟩ := bu
 have cH := M.size
 have E := E.trans M
 refine Za rfl rfl (Zgt rfl rfl) (Za rfl rfl (Yl rfl rfl) (Za rfl rfl (Zg rfl) ?_))
 refine Yy (d := 28) rfl (fun O => ?_) (fun O => ?_)
 ·have bv := O
  have O := Yt O
  refine Zo rfl rfl (Zo rfl rfl (Zo rfl rfl (Zo rfl rfl (Za rfl rfl (Ym rfl rfl) (Ze (Zb (bb _ _ ?_)))))))
  refine Xr rfl ?_
  refine Zh fun dJ cI => ?_
  refine Zc ?_
  have cJ := ((D.ch0 C).ch0 G).ch0 M
  refine Za rfl rfl (Zi cJ.at_ agg36 sz36 rfl) (Zl rfl rfl ?_)
  have cK := (((((aB.ch0 C9).ch0 H).ch I (nS om)).ch0 C).ch0 G).ch0 M
  refine Zk (off := 0) 2 cK sz36 rfl (us := [(.slice b (gV).length c), (.slice m (gE).length n)]) rfl rfl rfl rfl fun bw aa bf => ?_
  have cL := bf.size
  have E := E.step bf (lS om)
  replace aa : Blk bw ap 36 [(.slice b (gV).length c), (.slice m (gE).length n)] := aa
  refine Za rfl rfl (Zf rfl) (Ze (Zb (cI _ _ ?_)))
  refine Zv (Zt ?_)
  have cM := (((((s.ch0 H).ch I (dS h o om)).ch0 C).ch0 G).ch0 M).ch bf (dS h o om)
  have aU : Ol ics 3 1 bw (.slice b (gV).length c) (gV) := by
   have hx := cM
   first | exact hx | simpa using hx
  have cN := (((((u.ch0 H).ch I (dS a j om)).ch0 C).ch0 G).ch0 M).ch bf (dS a j om)
  have aV : Ol GEdge.cs 129 4 bw (.slice m (gE).length n) ((insR gV gE e).1) := by
   have hx := cN
   first | exact hx.eq (by rw [Xu (by first | exact fun q => p q.1 | exact fun q => r q.2.1 | exact fun q => absurd q.2.2.1 om | exact fun q => q.2.2.2 om)]) | exact hx.eq (by rw [Xs ⟨p, r, by omega, by omega⟩]; unfold insL; rw [(show insK gE e.id = k from (by first | exact Qp hp F A | exact Zao hp om om))])
  exact Zj [_, _] (Zn aa rfl agg36 sz36 ⟨rfl, trivial⟩) ⟨(.slice b (gV).length c), (.slice m (gE).length n), (congrArg (fun zq => (Value.tuple #[.agg #[(.slice b (gV).length c), (.slice m (gE).length n)], .bool zq])) (by first | rw [Xu (by first | exact fun q => p q.1 | exact fun q => r q.2.1 | exact fun q => absurd q.2.2.1 om | exact fun q => q.2.2.2 om)] | rw [Xs ⟨p, r, by omega, by omega⟩])), aU, (Lo.down h om), aV, (Lo.down a om), (fun g hm hg => by exact l _ hm hg), E⟩
 have bv := O
 have O := Yu O
 refine Za rfl rfl (Zd fa36_1 rfl) ?_
 have cO := b5.ch0 M
 refine Za rfl rfl (Zp cO.at_ agg34 rfl rfl) (Za rfl rfl (Yr (by rw [el34]; rfl) rfl) (Za rfl rfl (Qg rfl rfl) (Za rfl rfl (Yl rfl rfl) (Ze (Zb (bb _ _ ?_))))))
 refine Zz rfl (fun P => ?_) (fun P => ?_)
 ·have bz := P
  have P := Yt P
  refine Zh fun dL cP => ?_
  refine Zc ?_
  have cQ := ((D.ch0 C).ch0 G).ch0 M
  refine Za rfl rfl (Zi cQ.at_ agg36 sz36 rfl) (Zl rfl rfl ?_)
  have cR := (((((aB.ch0 C9).ch0 H).ch I (nS om)).ch0 C).ch0 G).ch0 M
  refine Zk (off := 0) 2 cR sz36 rfl (us := [(.slice b (gV).length c), (.slice m (gE).length n)]) rfl rfl rfl rfl fun bA ab bg => ?_
  have cS := bg.size
  have E := E.step bg (lS om)
  replace ab : Blk bA ap 36 [(.slice b (gV).length c), (.slice m (gE).length n)] := ab
  refine Za rfl rfl (Zf rfl) (Ze (Zb (cP _ _ ?_)))
  refine Zv (Zt ?_)
  have cT := (((((s.ch0 H).ch I (dS h o om)).ch0 C).ch0 G).ch0 M).ch bg (dS h o om)
  have aW : Ol ics 3 1 bA (.slice b (gV).length c) (gV) := by
   have hx := cT
   first | exact hx | simpa using hx
  have cU := (((((u.ch0 H).ch I (dS a j om)).ch0 C).ch0 G).ch0 M).ch bg (dS a j om)
  have aX : Ol GEdge.cs 129 4 bA (.slice m (gE).length n) ((insR gV gE e).1) := by
   have hx := cU
   first | exact hx.eq (by rw [Xu (by first | exact fun q => p q.1 | exact fun q => r q.2.1 | exact fun q => absurd q.2.2.1 om | exact fun q => q.2.2.2 om)]) | exact hx.eq (by rw [Xs ⟨p, r, by omega, by omega⟩]; unfold insL; rw [(show insK gE e.id = k from (by first | exact Qp hp F A | exact Zao hp om om))])
  exact Zj [_, _] (Zn ab rfl agg36 sz36 ⟨rfl, trivial⟩) ⟨(.slice b (gV).length c), (.slice m (gE).length n), (congrArg (fun zq => (Value.tuple #[.agg #[(.slice b (gV).length c), (.slice m (gE).length n)], .bool zq])) (by first | rw [Xu (by first | exact fun q => p q.1 | exact fun q => r q.2.1 | exact fun q => absurd q.2.2.1 om | exact fun q => q.2.2.2 om)] | rw [Xs ⟨p, r, by omega, by omega⟩])), aW, (Lo.down h om), aX, (Lo.down a om), (fun g hm hg => by exact l _ hm hg), E⟩
 have bz := P
 have P := Yu P
 refine Yf ?_
 refine Zb (cl _ _ ?_)
 refine Zh fun dM cV => ?_
 refine Zc (Za rfl rfl (Zf rfl) (Ze (Zb (cV _ _ ?_))))
 refine Zh fun dN b7 => ?_
 refine Yn ?_
 have cW := b6.ch0 M
 have cX := (((((aB.ch0 C9).ch0 H).ch I (nS om)).ch0 C).ch0 G).ch0 M
 have cY := ((D.ch0 C).ch0 G).ch0 M
 have cZ := ((((s.ch0 H).ch I (dS h o om)).ch0 C).ch0 G).ch0 M
 have c0 := ((((u.ch0 H).ch I (dS a j om)).ch0 C).ch0 G).ch0 M
 refine Ql (σ := Nat) (fun (k : Nat) => [(3, (.pointer (some ⟨bi, 0, none⟩))), (4, (.pointer (some ⟨ap, 0, none⟩))), (5, (.bool false)), (6, (.pointer (some ⟨aM, 0, none⟩))), (7, (.int .i64 ((k : Nat) : Int)))]) (fun (k : Nat) wx => Ch [] w wx ∧ cG.heap.size ≤ wx.heap.size ∧ (k ≤ gE.length) ∧ (InsP gE e.id k) ∧ Blk wx bi 129 [(.int .i64 e.id), (.int .i64 e.f), (.int .i64 e.t), (.int .i64 e.label)] ∧ Blk wx ap 36 [(.slice none 0 0), (.slice none 0 0)] ∧ Blk wx aM 36 [(.slice b (gV).length c), (.slice m (gE).length n)] ∧ Ol ics 3 1 wx (.slice b (gV).length c) gV ∧ Ol GEdge.cs 129 4 wx (.slice m (gE).length n) gE) (fun (k : Nat) => gE.length - k) 0 (sC4 rfl rfl rfl rfl (sC1 rfl (Sub.nil _))) ⟨E, (Nat.le_refl _), om, (Zhg), cW, cX, cY, cZ, c0⟩ ?_
 rintro k dP ⟨E, c1, dQ, hp, ac, U, aC, ad, aD⟩
 have bB := E
 have b8 := bB.size
 have bC := ac.lt
 have bD := U.lt
 have bF := aC.lt
 refine Zh fun dR c2 => ?_
 refine Zh fun dU b9 => ?_
 refine Yv [] 16 mixed rfl fun dW V => ?_
 have c3 := V.size
 have E := E.trans V
 refine dV 0 rfl rfl rfl (fun _ => Zg rfl) (dV 1 rfl rfl rfl (fun _ => Zd fa36_1 rfl) ?_)
 have aG := aC.ch0 V
 refine dT 2 rfl rfl rfl (Yi aG.at_ (fun i hi => absurd hi List.not_mem_nil) agg34 rfl rfl ?_)
 refine dV 3 rfl rfl rfl (fun _ => Yr (by rw [el34]; rfl) rfl) (dV 4 rfl rfl rfl (fun _ => Qw rfl rfl) (dV 5 rfl rfl rfl (fun _ => Zg rfl) ?_))
 refine Qq (d := 40) rfl (fun Q => ?_) (fun Q => ?_)
 ·have bG := Q
  have Q := Yt Q
  refine dV 6 rfl rfl rfl (fun _ => Zd fa36_1 rfl) ?_
  refine dT 7 rfl rfl rfl (Yi aG.at_ (fun i hi => absurd hi List.not_mem_nil) agg34 rfl rfl ?_)
  refine dV 8 rfl rfl rfl (fun _ => Zg rfl) ?_
  have bH := aD.ch0 V
  refine dT 9 rfl rfl rfl (Xh bH.ls GEdge.len el34 sz129 rfl rfl rfl om fun c4 c5 F bI => ?_)
  refine dV 10 rfl rfl rfl (fun _ => Zd fa129_0 rfl) ?_
  refine dT 11 rfl rfl rfl (Yi bI (fun i hi => absurd hi List.not_mem_nil) agg3 rfl rfl ?_)
  refine dV 12 rfl rfl rfl (fun _ => Zd fa129_0 rfl) ?_
  have bJ := ac.ch0 V
  refine dT 13 rfl rfl rfl (Yi bJ.at_ (fun i hi => absurd hi List.not_mem_nil) agg3 rfl rfl ?_)
  refine dV 14 rfl rfl rfl (fun _ => Qw rfl rfl) (dV 15 rfl rfl rfl (fun _ => Ym rfl rfl) ?_)
  refine Zw (by kernel_rfl) ?_
  refine Zb (b9 _ _ ?_)
  refine Zz rfl (fun A => ?_) (fun A => ?_)
  ·have bK := A
   have A := Yt A
   refine Yf ?_
   refine Zb (c2 _ _ ?_)
   refine Yn ?_
   refine Zc (Za rfl rfl (Zg rfl) (Za rfl rfl (Xc om rfl rfl) (Za rfl rfl (Zf rfl) (Ze (Yc ?_)))))
   have c6 := U.ch0 V
   have c7 := ad.ch0 V
   exact Zb (Exists.intro (k + 1) ⟨⟨E, om, om, (Zhh hp F A), bJ, c6, aG, c7, bH⟩, sC4 rfl rfl rfl rfl (sC1 rfl (Sub.nil _)), (by first | omega | (dsimp only; omega))⟩)
  have bK := A
  have A := Yu A
  refine Xx (Yh (Yh (Xg ?_)))
  refine Zb (b7 _ _ ?_)
  refine Zh fun dX c8 => ?_
  refine Zc (Za rfl rfl (Zd fa36_1 rfl) (Za rfl rfl (Zp aG.at_ agg34 rfl rfl) (Za rfl rfl (Zg rfl) (Za rfl rfl (Zi bJ.at_ agg129 sz129 rfl) (Zl rfl rfl ?_)))))
  refine Zq (cs := GEdge.cs) (parts := [(0, .tmp 56)]) (⟨0, 0, 0, 0⟩ : GEdge) [e] el34 sz129 zr129 GEdge.len (by decide) rfl rfl rfl (by decide) (by decide) rfl fun bL dY ae af aN => ?_
  have c9 := aN.size
  have E := E.trans aN
  obtain ⟨aY, aZ, rfl, a0, R⟩ := ae.opn
  refine Zl rfl rfl ?_
  have da := bH.ch0 aN
  refine Step.call (Zm (xs := [.tmp 54, .tmp 55, .tmp 57]) fk130 rfl) (Qx da k ae rfl om om (fun g hm hg => by have aq := a _ hm; have ag := j _ hm; have a1 := af _ hg; have db := R _ hg; omega)) fun bM dZ J => ?_
  obtain ⟨J, B, a2⟩ := J
  have dc := a2.size
  have E := E.step a2 (fun i hi => .inl (by have aq := a _ hi; omega))
  obtain ⟨x, y, rfl, a3, z⟩ := J.opn
  have ah : Lo W4.heap.size (.slice x (gE.take k ++ ([e]) ++ gE.drop k).length y) := fun g hg => by rcases B with ea | ea; (rw [ea] at hg; exact a _ hg); (have aH := ea _ hg; omega)
  refine Za rfl rfl (Zd fa36_1 rfl) (Zl rfl rfl ?_)
  have dd := (aG.ch0 aN).ch a2 (fun hm => by have aq := a _ hm; have ag := j _ hm; omega)
  refine Zy (off := 1) dd sz34 rfl rfl rfl rfl fun de ai a4 => ?_
  have df := a4.size
  have E := E.step a4 (lS om)
  replace ai : Blk de aM 36 [(.slice b (gV).length c), (.slice x (gE.take k ++ ([e]) ++ gE.drop k).length y)] := ai
  refine Ze (Zb (c8 _ _ ?_))
  refine Zh fun d0 dg => ?_
  refine Zc (Za rfl rfl (Zi ai.at_ agg36 sz36 rfl) (Zl rfl rfl ?_))
  have dh := (((U.ch0 V).ch0 aN).ch a2 (fun hm => by have aq := a _ hm; have ag := j _ hm; omega)).ch a4 (nS om)
  refine Zk (off := 0) 2 dh sz36 rfl (us := [(.slice b (gV).length c), (.slice x (gE.take k ++ ([e]) ++ gE.drop k).length y)]) rfl rfl rfl rfl fun bN aj bh => ?_
  have di := bh.size
  have E := E.step bh (lS om)
  replace aj : Blk bN ap 36 [(.slice b (gV).length c), (.slice x (gE.take k ++ ([e]) ++ gE.drop k).length y)] := aj
  refine Za rfl rfl (Zf rfl) (Ze (Zb (dg _ _ ?_)))
  refine Zv ?_
  have dj := ((((ad.ch0 V).ch0 aN).ch a2 (fun g hg hm => by exact l _ hg hm)).ch a4 (dS h o om)).ch bh (dS h o om)
  have a5 : Ol ics 3 1 bN (.slice b (gV).length c) (gV) := by
   have hx := dj
   first | exact hx | simpa using hx
  have dk := (J.ch a4 (fun g hg hm => by have bO := List.mem_singleton.1 hm; rcases B with ea | ea; (rw [ea] at hg; have ag := a _ hg; have a1 := j _ hg; omega); (have ak := z _ hg; have aH := ea _ hg; omega))).ch bh (fun g hg hm => by have bO := List.mem_singleton.1 hm; rcases B with ea | ea; (rw [ea] at hg; have ag := a _ hg; have a1 := j _ hg; omega); (have ak := z _ hg; have aH := ea _ hg; omega))
  have aI : Ol GEdge.cs 129 4 bN (.slice x (gE.take k ++ ([e]) ++ gE.drop k).length y) ((insR gV gE e).1) := by
   have hx := dk
   first | exact hx.eq (by rw [Xu (by first | exact fun q => p q.1 | exact fun q => r q.2.1 | exact fun q => absurd q.2.2.1 om | exact fun q => q.2.2.2 om)]) | exact hx.eq (by rw [Xs ⟨p, r, by omega, by omega⟩]; unfold insL; rw [(show insK gE e.id = k from (by first | exact Qp hp F A | exact Zao hp om om))])
  exact Zj [_, _] (Zn aj rfl agg36 sz36 ⟨rfl, trivial⟩) ⟨(.slice b (gV).length c), (.slice x (gE.take k ++ ([e]) ++ gE.drop k).length y), (congrArg (fun zq => (Value.tuple #[.agg #[(.slice b (gV).length c), (.slice x (gE.take k ++ ([e]) ++ gE.drop k).length y)], .bool zq])) (by first | rw [Xu (by first | exact fun q => p q.1 | exact fun q => r q.2.1 | exact fun q => absurd q.2.2.1 om | exact fun q => q.2.2.2 om)] | rw [Xs ⟨p, r, by omega, by omega⟩])), a5, (Lo.down h om), aI, (Lo.down ah om), (fun g hm hg => by rcases B with ea | ea; (rw [ea] at hg; exact l _ hm hg); (have ak := z _ hg; have aH := ea _ hg; have aq := h _ hm; have ag := o _ hm; omega)), E⟩
 have bG := Q
 have Q := Yu Q
 refine dK 6 rfl rfl rfl (dK 7 rfl rfl rfl (dK 8 rfl rfl rfl (dK 9 rfl rfl rfl (dK 10 rfl rfl rfl (dK 11 rfl rfl rfl (dK 12 rfl rfl rfl (dK 13 rfl rfl rfl ?_)))))))
 refine dK 14 rfl rfl rfl (dV 15 rfl rfl rfl (fun _ => Yl rfl rfl) ?_)
 refine Zw (by kernel_rfl) ?_
 refine Zb (b9 _ _ ?_)
 refine Zck rfl ?_
 refine Xx (Yh (Yh (Xg ?_)))
 refine Zb (b7 _ _ ?_)
 refine Zh fun dl bP => ?_
 refine Zc (Za rfl rfl (Zd fa36_1 rfl) (Za rfl rfl (Zp aG.at_ agg34 rfl rfl) (Za rfl rfl (Zg rfl) ?_)))
 have bQ := ac.ch0 V
 refine Za rfl rfl (Zi bQ.at_ agg129 sz129 rfl) (Zl rfl rfl ?_)
 refine Zq (cs := GEdge.cs) (parts := [(0, .tmp 56)]) (⟨0, 0, 0, 0⟩ : GEdge) [e] el34 sz129 zr129 GEdge.len (by decide) rfl rfl rfl (by decide) (by decide) rfl fun bL dm ae af X => ?_
 have ca := X.size
 have E := E.trans X
 obtain ⟨aY, aZ, rfl, a0, R⟩ := ae.opn
 refine Zl rfl rfl ?_
 have bR := (aD.ch0 V).ch0 X
 refine Step.call (Zm (xs := [.tmp 54, .tmp 55, .tmp 57]) fk130 rfl) (Qx bR k ae rfl om om (fun g hm hg => by have aq := a _ hm; have ag := j _ hm; have a1 := af _ hg; have db := R _ hg; omega)) fun bM dn J => ?_
 obtain ⟨J, B, al⟩ := J
 have cb := al.size
 have E := E.step al (fun i hi => .inl (by have aq := a _ hi; omega))
 obtain ⟨x, y, rfl, a3, z⟩ := J.opn
 have ah : Lo W4.heap.size (.slice x (gE.take k ++ ([e]) ++ gE.drop k).length y) := fun g hg => by rcases B with ea | ea; (rw [ea] at hg; exact a _ hg); (have aH := ea _ hg; omega)
 refine Za rfl rfl (Zd fa36_1 rfl) (Zl rfl rfl ?_)
 have bS := (aG.ch0 X).ch al (fun hm => by have aq := a _ hm; have ag := j _ hm; omega)
 refine Zy (off := 1) bS sz34 rfl rfl rfl rfl fun bT S am => ?_
 have cc := am.size
 have E := E.step am (lS om)
 replace S : Blk bT aM 36 [(.slice b (gV).length c), (.slice x (gE.take k ++ ([e]) ++ gE.drop k).length y)] := S
 refine Ze (Zb (bP _ _ ?_))
 refine Zh fun dp bU => ?_
 refine Zc (Za rfl rfl (Zi S.at_ agg36 sz36 rfl) (Zl rfl rfl ?_))
 have bV := (((U.ch0 V).ch0 X).ch al (fun hm => by have aq := a _ hm; have ag := j _ hm; omega)).ch am (nS om)
 refine Zk (off := 0) 2 bV sz36 rfl (us := [(.slice b (gV).length c), (.slice x (gE.take k ++ ([e]) ++ gE.drop k).length y)]) rfl rfl rfl rfl fun aJ T au => ?_
 have cd := au.size
 have E := E.step au (lS om)
 replace T : Blk aJ ap 36 [(.slice b (gV).length c), (.slice x (gE.take k ++ ([e]) ++ gE.drop k).length y)] := T
 refine Za rfl rfl (Zf rfl) (Ze (Zb (bU _ _ ?_)))
 refine Zv ?_
 have bW := ((((ad.ch0 V).ch0 X).ch al (fun g hg hm => by exact l _ hg hm)).ch am (dS h o om)).ch au (dS h o om)
 have aK : Ol ics 3 1 aJ (.slice b (gV).length c) (gV) := by
  have hx := bW
  first | exact hx | simpa using hx
 have bX := (J.ch am (fun g hg hm => by have bO := List.mem_singleton.1 hm; rcases B with ea | ea; (rw [ea] at hg; have ag := a _ hg; have a1 := j _ hg; omega); (have ak := z _ hg; have aH := ea _ hg; omega))).ch au (fun g hg hm => by have bO := List.mem_singleton.1 hm; rcases B with ea | ea; (rw [ea] at hg; have ag := a _ hg; have a1 := j _ hg; omega); (have ak := z _ hg; have aH := ea _ hg; omega))
 have aL : Ol GEdge.cs 129 4 aJ (.slice x (gE.take k ++ ([e]) ++ gE.drop k).length y) ((insR gV gE e).1) := by
  have hx := bX
  first | exact hx.eq (by rw [Xu (by first | exact fun q => p q.1 | exact fun q => r q.2.1 | exact fun q => absurd q.2.2.1 om | exact fun q => q.2.2.2 om)]) | exact hx.eq (by rw [Xs ⟨p, r, by omega, by omega⟩]; unfold insL; rw [(show insK gE e.id = k from (by first | exact Qp hp F A | exact Zao hp om om))])
 exact Zj [_, _] (Zn T rfl agg36 sz36 ⟨rfl, trivial⟩) ⟨(.slice b (gV).length c), (.slice x (gE.take k ++ ([e]) ++ gE.drop k).length y), (congrArg (fun zq => (Value.tuple #[.agg #[(.slice b (gV).length c), (.slice x (gE.take k ++ ([e]) ++ gE.drop k).length y)], .bool zq])) (by first | rw [Xu (by first | exact fun q => p q.1 | exact fun q => r q.2.1 | exact fun q => absurd q.2.2.1 om | exact fun q => q.2.2.2 om)] | rw [Xs ⟨p, r, by omega, by omega⟩])), aK, (Lo.down h om), aL, (Lo.down ah om), (fun g hm hg => by rcases B with ea | ea; (rw [ea] at hg; exact l _ hm hg); (have ak := z _ hg; have aH := ea _ hg; have aq := h _ hm; have ag := o _ hm; omega)), E⟩

/-- slices.Index[[]impl.Edge,impl.Edge] -/
theorem Zaw {w : World} {LL_s u : Nat} {j : Value} {s : List GEdge} (b : Ls GEdge.cs 4 w LL_s u j s) (x : GEdge) :
 Ctr Try.prog 131 #[j, (.agg #[(.int .i64 x.id), (.int .i64 x.f), (.int .i64 x.t), (.int .i64 x.label)])] w (fun v w' => v = .int .i64 (ixP (fun y => decide (x = y)) s) ∧ Ch [] w w') := by
 obtain ⟨l, m, n⟩ := b.val
 subst n
 have G := b.len
 have b := b.here (by decide)
 have E := Ch.refl [] w
 refine Yj (N := 19) (vs0 := [(.slice l s.length m), (.agg #[(.int .i64 x.id), (.int .i64 x.f), (.int .i64 x.t), (.int .i64 x.label)])]) Try.func131 rfl rfl rfl ?_
 refine Zh fun K1 H1 => ?_
 refine Zc (Zl rfl rfl ?_)
 refine Xm rfl fun z W2 q C2 R => ?_
 have S := C2.size
 have E := E.trans C2
 have T := q.lt
 replace q : Blk W2 z 129 [(.int .i64 x.id), (.int .i64 x.f), (.int .i64 x.t), (.int .i64 x.label)] := q
 refine Za rfl rfl (Zf rfl) (Ze (Zb (H1 _ _ ?_)))
 refine Zh fun K3 H3 => ?_
 refine Zh fun K4 H4 => ?_
 refine Zc (Za rfl rfl (Zg rfl) (Za rfl rfl (Yr (by rw [el34]; rfl) rfl) (Za rfl rfl (Zg rfl) (Ze (Zb (H4 _ _ ?_))))))
 refine Yn ?_
 refine Ql (σ := Nat) (fun (k : Nat) => [(0, (.slice l s.length m)), (3, (.pointer (some ⟨z, 0, none⟩))), (7, (.int .i64 ((s.length : Nat) : Int))), (8, (.int .i64 ((k : Nat) : Int)))]) (fun (k : Nat) wx => Ch [] w wx ∧ W2.heap.size ≤ wx.heap.size ∧ (k ≤ s.length) ∧ ((s.take k).any (fun y => decide (x = y)) = false) ∧ Blk wx z 129 [(.int .i64 x.id), (.int .i64 x.f), (.int .i64 x.t), (.int .i64 x.label)]) (fun (k : Nat) => s.length - k) 0 (sC4 rfl rfl rfl rfl (Sub.nil _)) ⟨E, (Nat.le_refl _), om, (by simp), q⟩ ?_
 rintro k R5 ⟨E, H, U, o, g⟩
 have p := E
 have D := p.size
 have A := g.lt
 refine Zh fun K6 H6 => ?_
 refine Zc (Za rfl rfl (Qw rfl rfl) (Ze (Zb (H6 _ _ ?_))))
 refine Zh fun K7 H7 => ?_
 refine Zz rfl (fun h => ?_) (fun h => ?_)
 ·have I := h
  have h := Yt h
  refine Yf ?_
  refine Zb (H7 _ _ ?_)
  refine Zh fun K9 H9 => ?_
  refine Yn ?_
  refine Zh fun V J => ?_
  refine Zc (Za rfl rfl (Zg rfl) (Za rfl rfl (Zf rfl) (Ze (Zb (J _ _ ?_)))))
  refine Zh fun X K => ?_
  refine Yv [] 6 mixed rfl fun Y r => ?_
  have L := r.size
  have E := E.trans r
  have F := g.ch0 r
  refine dT 0 rfl rfl rfl (Ye F.at_ (fun i hi => absurd hi List.not_mem_nil) agg129 sz129 rfl ?_)
  refine dV 1 rfl rfl rfl (fun _ => Zg rfl) (dV 2 rfl rfl rfl (fun _ => Zg rfl) ?_)
  have M := (b.ch0 p).ch0 r
  refine dT 3 rfl rfl rfl (Xh M GEdge.len el34 sz129 rfl rfl rfl om fun O d c B => ?_)
  refine dT 4 rfl rfl rfl (Ye B (fun i hi => absurd hi List.not_mem_nil) agg129 sz129 rfl ?_)
  refine dV 5 rfl rfl rfl (fun _ => Zmp [x.id, x.f, x.t, x.label] [d.id, d.f, d.t, d.label] ist129 rfl rfl rfl) ?_
  refine Zw (by kernel_rfl) ?_
  refine Zb (K _ _ ?_)
  refine Zz rfl (fun a => ?_) (fun a => ?_)
  ·have C := a
   have a := Yt a
   refine Zh fun Z P => ?_
   refine Zc (Za rfl rfl (Zg rfl) (Za rfl rfl (Zf rfl) (Ze (Zb (P _ _ ?_)))))
   refine Zv (Yq (Zt (Zt (Yq (Zt ?_)))))
   clear H3 H9
   exact Zj [_] ⟨rfl, trivial⟩ ⟨congrArg (Value.int .i64) (by first | exact Zhw o c (decide_eq_true (GEdge.inj a)) | exact Zhx o om), E⟩
  have C := a
  have a := Yu a
  refine Yf ?_
  refine Yc (Zb (H9 _ _ (Zc (Za rfl rfl (Xc om rfl rfl) (Za rfl rfl (Zg rfl) (Ze ?_))))))
  exact Zb (Exists.intro (k + 1) ⟨⟨E, om, om, (Zfu o c (decide_eq_false (fun e => a (by rw [e])))), F⟩, sC4 rfl rfl rfl rfl (Sub.nil _), (by first | omega | (dsimp only; omega))⟩)
 have I := h
 have h := Yu h
 refine Xx (Yh (Yh (Xg ?_)))
 refine Zb (H3 _ _ ?_)
 refine Zh fun aa Q => ?_
 refine Zc (Za rfl rfl (Zf rfl) (Ze (Zb (Q _ _ ?_))))
 refine Zv ?_
 exact Zj [_] ⟨rfl, trivial⟩ ⟨congrArg (Value.int .i64) (by first | exact Zhw o c (decide_eq_true (GEdge.inj a)) | exact Zhx o om), E⟩

/-- slices.Contains[[]impl.Edge,impl.Edge] -/
theorem Zap {w : World} {LL_s e : Nat} {b : Value} {s : List GEdge} (a : Ls GEdge.cs 4 w LL_s e b s) (x : GEdge) :
 Ctr Try.prog 111 #[b, (.agg #[(.int .i64 x.id), (.int .i64 x.f), (.int .i64 x.t), (.int .i64 x.label)])] w (fun v w' => v = .bool (decide (x ∈ s)) ∧ Ch [] w w') := by
 obtain ⟨g, h, c⟩ := a.val
 subst c
 have i := a.len
 have a := a.here (by decide)
 have E := Ch.refl [] w
 refine Yj (N := 9) (vs0 := [(.slice g s.length h), (.agg #[(.int .i64 x.id), (.int .i64 x.f), (.int .i64 x.t), (.int .i64 x.label)])]) Try.func111 rfl rfl rfl ?_
 refine Zh fun K1 H1 => ?_
 refine Zc (Zl rfl rfl ?_)
 refine Xm rfl fun j W2 d C2 l => ?_
 have m := C2.size
 have E := E.trans C2
 have n := d.lt
 replace d : Blk W2 j 129 [(.int .i64 x.id), (.int .i64 x.f), (.int .i64 x.t), (.int .i64 x.label)] := d
 refine Za rfl rfl (Zf rfl) (Ze (Zb (H1 _ _ ?_)))
 refine Zh fun K3 H3 => ?_
 refine Zc (Za rfl rfl (Zg rfl) (Za rfl rfl (Zi d.at_ agg129 sz129 rfl) (Zl rfl rfl ?_)))
 have F4 := a.ch0 C2
 refine Step.call (Zm (xs := [.tmp 5, .tmp 6]) fk131 rfl) (Zaw F4 x ) fun o W5 k => ?_
 obtain ⟨rfl, C5⟩ := k
 have p := C5.size
 have E := E.trans C5
 refine Za rfl rfl (Zgt rfl rfl) (Za rfl rfl (Zf rfl) (Ze (Zb (H3 _ _ ?_))))
 refine Zv ?_
 exact Zj [_] ⟨rfl, trivial⟩ ⟨congrArg Value.bool Zlk, E⟩

/-- impl.ApplyBatch -/
theorem Zci {w : World} {LL_gV bM : Nat} {bh : Value} {gV : List Int} (az : Ls ics 1 w LL_gV bM bh gV) {LL_gE bN : Nat} {bi : Value} {gE : List GEdge} (aA : Ls GEdge.cs 4 w LL_gE bN bi gE) {LL_bC bO : Nat} {bj : Value} {bC : List Chg} (aB : Ls Chg.cs 5 w LL_bC bO bj bC) (hb : gV.length ≤ 4194304 ∧ gE.length ≤ 4194304) :
 Ctr Try.prog 75 #[(.agg #[bh, bi]), (.agg #[bj])] w (fun v w' => ∃ (a8 : Value) (a9 : Value), v = .tuple #[.agg #[a8, a9], .bool (tt (ApOk gV gE bC 6))] ∧ Ol ics 3 1 w' a8 (gV) ∧ Lo w.heap.size a8 ∧ Ol GEdge.cs 129 4 w' a9 ((apE gV gE bC 6)) ∧ Lo w.heap.size a9 ∧ (∀ g ∈ bl a8, g ∉ bl a9) ∧ Ch [] w w') := by
 obtain ⟨aQ, aR, bm⟩ := az.val
 subst bm
 have de := az.len
 have az := az.here (by decide)
 obtain ⟨aS, aT, bn⟩ := aA.val
 subst bn
 have df := aA.len
 have aA := aA.here (by decide)
 obtain ⟨aY, aZ, bp⟩ := aB.val
 subst bp
 have dg := aB.len
 have aB := aB.here (by decide)
 have E := Ch.refl [] w
 refine Yj (N := 57) (vs0 := [(.agg #[(.slice aQ gV.length aR), (.slice aS gE.length aT)]), (.agg #[(.slice aY bC.length aZ)])]) Try.func75 rfl rfl rfl ?_
 refine Zh fun K1 H1 => ?_
 refine Zc (Zl rfl rfl ?_)
 refine Xm rfl fun cn W2 b8 C2 eZ => ?_
 have e0 := C2.size
 have E := E.trans C2
 have e1 := b8.lt
 replace b8 : Blk W2 cn 36 [(.slice aQ gV.length aR), (.slice aS gE.length aT)] := b8
 refine Zl rfl rfl ?_
 refine Xm rfl fun dA W3 b9 C3 e2 => ?_
 have e3 := C3.size
 have E := E.trans C3
 have e4 := b9.lt
 replace b9 : Blk W3 dA 63 [(.slice aY bC.length aZ)] := b9
 refine Zl rfl rfl ?_
 refine Yd zr36 fun ba W4 bL C4 e5 => ?_
 have e6 := C4.size
 have E := E.trans C4
 have e7 := bL.lt
 replace bL : Blk W4 ba 36 [(.slice none 0 0), (.slice none 0 0)] := bL
 refine Za rfl rfl (Zf rfl) (Ze (Zb (H1 _ _ ?_)))
 refine Zh fun K5 H5 => ?_
 refine Zc ?_
 have F6 := (b8.ch0 C3).ch0 C4
 refine Za rfl rfl (Zi F6.at_ agg36 sz36 rfl) (Zl rfl rfl ?_)
 have F7 := ((az.ch0 C2).ch0 C3).ch0 C4
 have F8 := ((aA.ch0 C2).ch0 C3).ch0 C4
 refine Step.call (Zm (xs := [.tmp 10]) fk91 rfl) (Xv F7 F8 om) fun dB W9 co => ?_
 obtain ⟨ca, cb, rfl, K, j, L, l, A, C9⟩ := co
 have e8 := C9.size
 have E := E.trans C9
 obtain ⟨m, o, rfl, bP, C⟩ := K.opn
 obtain ⟨p, r, rfl, bQ, D⟩ := L.opn
 refine Zl rfl rfl ?_
 refine Yd zr36 fun bk dC cc aH e9 => ?_
 have dD := aH.size
 have E := E.trans aH
 have fa := cc.lt
 replace cc : Blk dC bk 36 [(.slice none 0 0), (.slice none 0 0)] := cc
 refine Zl rfl rfl ?_
 refine Zk (off := 0) 2 cc sz36 rfl (us := [(.slice m (gV).length o), (.slice p (gE).length r)]) rfl rfl rfl rfl fun dE aC aI => ?_
 have dF := aI.size
 have E := E.step aI (lS om)
 replace aC : Blk dE bk 36 [(.slice m (gV).length o), (.slice p (gE).length r)] := aC
 refine Ze (Zb (H5 _ _ ?_))
 refine Zh fun fb dG => ?_
 refine Zh fun fc dh => ?_
 refine Zc ?_
 have di := ((F6.ch0 C9).ch0 aH).ch aI (nS om)
 refine Za rfl rfl (Zi di.at_ agg36 sz36 rfl) (Zl rfl rfl ?_)
 have dj := ((F7.ch0 C9).ch0 aH).ch aI (oS om)
 have dk := ((F8.ch0 C9).ch0 aH).ch aI (oS om)
 refine Step.call (Zm (xs := [.tmp 12]) fk86 rfl) (Zac dj dk ) fun dH cp cq => ?_
 obtain ⟨rfl, ax⟩ := cq
 have dI := ax.size
 have E := E.trans ax
 refine Za rfl rfl (Xp rfl) (Za rfl rfl (Zg rfl) ?_)
 refine Yy (d := 15) rfl (fun B => ?_) (fun B => ?_)
 ·have cr := B
  have B := bf_t (Qj B)
  refine Zo rfl rfl (Zo rfl rfl (Zo rfl rfl (Zo rfl rfl (Za rfl rfl (Ym rfl rfl) (Ze (Zb (dh _ _ ?_)))))))
  refine Xr rfl ?_
  refine Zh fun fd dJ => ?_
  refine Zc ?_
  have dL := aC.ch0 ax
  refine Za rfl rfl (Zi dL.at_ agg36 sz36 rfl) (Zl rfl rfl ?_)
  have dM := (((bL.ch0 C9).ch0 aH).ch aI (nS om)).ch0 ax
  refine Zk (off := 0) 2 dM sz36 rfl (us := [(.slice m (gV).length o), (.slice p (gE).length r)]) rfl rfl rfl rfl fun ct a0 cd => ?_
  have dN := cd.size
  have E := E.step cd (lS om)
  replace a0 : Blk ct ba 36 [(.slice m (gV).length o), (.slice p (gE).length r)] := a0
  refine Za rfl rfl (Zf rfl) (Ze (Zb (dJ _ _ ?_)))
  refine Zv (Zt ?_)
  have dP := (((K.ch0 aH).ch aI (dS j C om)).ch0 ax).ch cd (dS j C om)
  have bR : Ol ics 3 1 ct (.slice m (gV).length o) (gV) := by
   have hx := dP
   first | exact hx | simpa using hx
  have dQ := (((L.ch0 aH).ch aI (dS l D om)).ch0 ax).ch cd (dS l D om)
  have bS : Ol GEdge.cs 129 4 ct (.slice p (gE).length r) ((apE gV gE bC 6)) := by
   have hx := dQ
   first | exact hx.eq (ap_n (by first | exact fun q => B q.1 | exact fun q => absurd q.2.1 om)).1.symm | exact hx.eq (ap_n (Zbd (Xo (k := i + 1) (by rw [Xf hF I]; first | exact Qb s t | exact Zbe s J | exact Xz s t)))).1.symm | exact hx.eq (ap_y B om (Qa hF om)).1.symm
  exact Zj [_, _] (Zn a0 rfl agg36 sz36 ⟨rfl, trivial⟩) ⟨(.slice m (gV).length o), (.slice p (gE).length r), (congrArg (fun zq => (Value.tuple #[.agg #[(.slice m (gV).length o), (.slice p (gE).length r)], .bool zq])) (by first | exact (ap_n (by first | exact fun q => B q.1 | exact fun q => absurd q.2.1 om)).2.symm | exact (ap_n (Zbd (Xo (k := i + 1) (by rw [Xf hF I]; first | exact Qb s t | exact Zbe s J | exact Xz s t)))).2.symm | exact (ap_y B om (Qa hF om)).2.symm)), bR, (Lo.down j om), bS, (Lo.down l om), (fun g hm hg => by exact A _ hm hg), E⟩
 have cr := B
 have B := bt_t (Qk B)
 have fe := B.2.2.1
 have ff := B.2.2.2
 refine Za rfl rfl (Zd fa63_0 rfl) ?_
 have dl := ((((b9.ch0 C4).ch0 C9).ch0 aH).ch aI (nS om)).ch0 ax
 refine Za rfl rfl (Zp dl.at_ agg61 rfl rfl) (Za rfl rfl (Yr (by rw [el61]; rfl) rfl) (Za rfl rfl (Zcj rfl rfl) (Za rfl rfl (Yl rfl rfl) (Ze (Zb (dh _ _ ?_))))))
 refine Zz rfl (fun aJ => ?_) (fun aJ => ?_)
 ·have cu := aJ
  have aJ := Yt aJ
  refine Zh fun fg dR => ?_
  refine Zc ?_
  have dU := aC.ch0 ax
  refine Za rfl rfl (Zi dU.at_ agg36 sz36 rfl) (Zl rfl rfl ?_)
  have dW := (((bL.ch0 C9).ch0 aH).ch aI (nS om)).ch0 ax
  refine Zk (off := 0) 2 dW sz36 rfl (us := [(.slice m (gV).length o), (.slice p (gE).length r)]) rfl rfl rfl rfl fun cv a1 ce => ?_
  have dX := ce.size
  have E := E.step ce (lS om)
  replace a1 : Blk cv ba 36 [(.slice m (gV).length o), (.slice p (gE).length r)] := a1
  refine Za rfl rfl (Zf rfl) (Ze (Zb (dR _ _ ?_)))
  refine Zv (Zt ?_)
  have dY := (((K.ch0 aH).ch aI (dS j C om)).ch0 ax).ch ce (dS j C om)
  have bT : Ol ics 3 1 cv (.slice m (gV).length o) (gV) := by
   have hx := dY
   first | exact hx | simpa using hx
  have dZ := (((L.ch0 aH).ch aI (dS l D om)).ch0 ax).ch ce (dS l D om)
  have bU : Ol GEdge.cs 129 4 cv (.slice p (gE).length r) ((apE gV gE bC 6)) := by
   have hx := dZ
   first | exact hx.eq (ap_n (by first | exact fun q => B q.1 | exact fun q => absurd q.2.1 om)).1.symm | exact hx.eq (ap_n (Zbd (Xo (k := i + 1) (by rw [Xf hF I]; first | exact Qb s t | exact Zbe s J | exact Xz s t)))).1.symm | exact hx.eq (ap_y B om (Qa hF om)).1.symm
  exact Zj [_, _] (Zn a1 rfl agg36 sz36 ⟨rfl, trivial⟩) ⟨(.slice m (gV).length o), (.slice p (gE).length r), (congrArg (fun zq => (Value.tuple #[.agg #[(.slice m (gV).length o), (.slice p (gE).length r)], .bool zq])) (by first | exact (ap_n (by first | exact fun q => B q.1 | exact fun q => absurd q.2.1 om)).2.symm | exact (ap_n (Zbd (Xo (k := i + 1) (by rw [Xf hF I]; first | exact Qb s t | exact Zbe s J | exact Xz s t)))).2.symm | exact (ap_y B om (Qa hF om)).2.symm)), bT, (Lo.down j om), bU, (Lo.down l om), (fun g hm hg => by exact A _ hm hg), E⟩
 have cu := aJ
 have aJ := Yu aJ
 refine Yf ?_
 refine Zb (dG _ _ ?_)
 refine Zh fun fh cf => ?_
 refine Zh fun fi d0 => ?_
 refine Zc (Za rfl rfl (Zd fa63_0 rfl) (Za rfl rfl (Zp dl.at_ agg61 rfl rfl) (Za rfl rfl (Yr (by rw [el61]; rfl) rfl) (Za rfl rfl (Zg rfl) (Ze (Zb (d0 _ _ ?_)))))))
 refine Yn ?_
 have d1 := ((K.ch0 aH).ch aI (dS j C om)).ch0 ax
 have bq : Ol ics 3 1 cp (.slice m (gV).length o) (gV) := by
  have hx := d1
  first | exact hx | simpa using hx
 have d2 := ((L.ch0 aH).ch aI (dS l D om)).ch0 ax
 have br : Ol GEdge.cs 129 4 cp (.slice p (gE).length r) (gE) := by
  have hx := d2
  first | exact hx | simpa using hx
 have d3 := aC.ch0 ax
 have d4 := di.ch0 ax
 have d5 := dj.ch0 ax
 have d6 := dk.ch0 ax
 have d7 := (((bL.ch0 C9).ch0 aH).ch aI (nS om)).ch0 ax
 refine Ql (σ := Nat × List GEdge × Value × Value) (fun ⟨i, F, vv, ev⟩ => [(2, (.pointer (some ⟨cn, 0, none⟩))), (4, (.pointer (some ⟨ba, 0, none⟩))), (6, (.pointer (some ⟨bk, 0, none⟩))), (23, (.slice aY bC.length aZ)), (24, (.int .i64 ((bC.length : Nat) : Int))), (25, (.int .i64 ((i : Nat) : Int)))]) (fun ⟨i, F, vv, ev⟩ wx => Ch [] w wx ∧ cp.heap.size ≤ wx.heap.size ∧ (i ≤ bC.length) ∧ (apL gV gE (bC.take i) = some F) ∧ (F.length ≤ 12 + i) ∧ Blk wx cn 36 [(.slice aQ gV.length aR), (.slice aS gE.length aT)] ∧ Ls ics 1 wx LL_gV w.heap.size (.slice aQ gV.length aR) gV ∧ Ls GEdge.cs 4 wx LL_gE w.heap.size (.slice aS gE.length aT) gE ∧ Blk wx ba 36 [(.slice none 0 0), (.slice none 0 0)] ∧ Ol ics 3 1 wx vv gV ∧ Lo W4.heap.size vv ∧ Ol GEdge.cs 129 4 wx ev F ∧ Lo W4.heap.size ev ∧ Blk wx bk 36 [vv, ev] ∧ (bk ∉ bl vv) ∧ (∀ g ∈ bl ev, g ∉ bl vv) ∧ (bk ∉ bl ev)) (fun ⟨i, F, vv, ev⟩ => bC.length - i) (0, gE, (.slice m (gV).length o), (.slice p (gE).length r)) (sC4 rfl rfl rfl rfl (sC2 rfl rfl (Sub.nil _))) ⟨E, (Nat.le_refl _), om, rfl, om, d4, d5, d6, d7, bq, j, br, l, d3, (fun hm => by have bV := j _ hm; have bW := C _ hm; omega), (fun g hm hg => by exact A _ hg hm), (fun hm => by have bV := l _ hm; have bW := D _ hm; omega)⟩ ?_
 rintro ⟨i, F, vv, ev⟩ fj ⟨E, d8, hi, hF, hl, aq, aD, aE, ag, aU, av, aw, af, a2, cw, aK, bX⟩
 have bY := E
 have dm := bY.size
 have cx := aq.lt
 have cy := ag.lt
 obtain ⟨Avv, Cvv, rfl, lvv, a3⟩ := aU.opn
 obtain ⟨Aev, Cev, rfl, lev, hiev⟩ := aw.opn
 refine Zh fun fk d9 => ?_
 refine Zc (Za rfl rfl (Qw rfl rfl) (Ze (Zb (d9 _ _ ?_))))
 refine Zh fun fl ea => ?_
 refine Zz rfl (fun aL => ?_) (fun aL => ?_)
 ·have cz := aL
  have aL := Yt aL
  refine Yf ?_
  refine Zb (ea _ _ ?_)
  refine Zh fun fm bZ => ?_
  refine Yn ?_
  refine Zh fun fn eb => ?_
  refine Zc (Zl rfl rfl ?_)
  have ec := aB.ch0 bY
  refine (Qm ec Chg.len el61 sz142 rfl rfl rfl om fun ed f I cA => ?_)
  refine Za rfl rfl (Zi cA agg142 sz142 rfl) (Zl rfl rfl ?_)
  refine Yd zr142 fun dn ee cg ac fo => ?_
  have eg := ac.size
  have E := E.trans ac
  have fp := cg.lt
  replace cg : Blk ee dn 142 [(.bool false), (.int .i64 0), (.int .i64 0), (.int .i64 0), (.int .i64 0)] := cg
  refine Zl rfl rfl ?_
  refine Zk (off := 0) 5 cg sz142 rfl (us := [(.bool f.ins), (.int .i64 f.eid), (.int .i64 f.ef), (.int .i64 f.et), (.int .i64 f.el)]) rfl rfl rfl rfl fun eh au ad => ?_
  have ei := ad.size
  have E := E.step ad (lS om)
  replace au : Blk eh dn 142 [(.bool f.ins), (.int .i64 f.eid), (.int .i64 f.ef), (.int .i64 f.et), (.int .i64 f.el)] := au
  refine Ze (Zb (eb _ _ ?_))
  refine Zh fun fq ej => ?_
  refine Zc (Za rfl rfl (Zf rfl) (Ze (Zb (ej _ _ ?_))))
  refine Zh fun fr cB => ?_
  refine Zh fun fs ek => ?_
  refine Zc (Za rfl rfl (Zd fa142_0 rfl) (Za rfl rfl (Zp au.at_ agg4 rfl rfl) (Ze (Zb (ek _ _ ?_)))))
  refine Zz rfl (fun s => ?_) (fun s => ?_)
  ·have cC := s
   refine Zc ?_
   have dp := (a2.ch0 ac).ch ad (nS om)
   refine Za rfl rfl (Zi dp.at_ agg36 sz36 rfl) (Za rfl rfl (Zd fa142_1 rfl) (Za rfl rfl (Zdl 4 au.at_ agg129 sz129 rfl rfl) (Zl rfl rfl ?_)))
   have em := (aU.ch0 ac).ch ad (dS av a3 om)
   have en := (aw.ch0 ac).ch ad (dS af hiev om)
   refine Step.call (Zm (xs := [.tmp 32, .tmp 34]) fk110 rfl) (Zed em.ls en.ls ⟨f.eid, f.ef, f.et, f.el⟩ om) fun eo ft cD => ?_
   obtain ⟨ci, cj, rfl, ah, M, ai, O, R, a4⟩ := cD
   have ep := a4.size
   have E := E.trans a4
   obtain ⟨T, U, rfl, b0, aj⟩ := ah.opn
   obtain ⟨V, X, rfl, b1, ak⟩ := ai.opn
   have er := Zew gV F f.edge
   refine Za rfl rfl (Zg rfl) (Za rfl rfl (Yb rfl rfl) (Za rfl rfl (Yb rfl rfl) (Zl rfl rfl ?_)))
   have es := dp.ch0 a4
   refine Zk (off := 0) 2 es sz36 rfl (us := [(.slice T (gV).length U), (.slice V ((insR gV F (⟨f.eid, f.ef, f.et, f.el⟩ : GEdge)).1).length X)]) rfl rfl rfl rfl fun cE a5 aX => ?_
   have eu := aX.size
   have E := E.step aX (lS om)
   replace a5 : Blk cE bk 36 [(.slice T (gV).length U), (.slice V ((insR gV F (⟨f.eid, f.ef, f.et, f.el⟩ : GEdge)).1).length X)] := a5
   refine Za rfl rfl (Zf rfl) (Ze (Zb (cB _ _ ?_)))
   refine Zh fun fu ew => ?_
   refine Zc (Za rfl rfl (Zg rfl) (Za rfl rfl (Xp rfl) (Ze (Zb (ew _ _ ?_)))))
   refine Zz rfl (fun t => ?_) (fun t => ?_)
   ·have cF := t
    have t := Qj t
    refine Zh fun fv ex => ?_
    refine Zc ?_
    have ey := (((aq.ch0 ac).ch ad (nS om)).ch0 a4).ch aX (nS om)
    refine Za rfl rfl (Zi ey.at_ agg36 sz36 rfl) (Zl rfl rfl ?_)
    have ez := (((aD.ch0 ac).ch ad (oS om)).ch0 a4).ch aX (oS om)
    have eA := (((aE.ch0 ac).ch ad (oS om)).ch0 a4).ch aX (oS om)
    refine Step.call (Zm (xs := [.tmp 53]) fk91 rfl) (Xv ez eA om) fun b2 fw a6 => ?_
    obtain ⟨aV, aW, rfl, y, u, z, x, h, cG⟩ := a6
    have eB := cG.size
    have E := E.trans cG
    obtain ⟨a, b, rfl, aF, G⟩ := y.opn
    obtain ⟨c, e, rfl, aG, H⟩ := z.opn
    refine Zl rfl rfl ?_
    have eC := ((((ag.ch0 ac).ch ad (nS om)).ch0 a4).ch aX (nS om)).ch0 cG
    refine Zk (off := 0) 2 eC sz36 rfl (us := [(.slice a (gV).length b), (.slice c (gE).length e)]) rfl rfl rfl rfl fun cH a7 ck => ?_
    have eD := ck.size
    have E := E.step ck (lS om)
    replace a7 : Blk cH ba 36 [(.slice a (gV).length b), (.slice c (gE).length e)] := a7
    refine Za rfl rfl (Zf rfl) (Ze (Zb (ex _ _ ?_)))
    refine Zv (Yq (Zt (Zt (Yq (Zt ?_)))))
    clear cf bZ
    have eE := y.ch ck (dS u G om)
    have b3 : Ol ics 3 1 cH (.slice a (gV).length b) (gV) := by
     have hx := eE
     first | exact hx | simpa using hx
    have eF := z.ch ck (dS x H om)
    have b4 : Ol GEdge.cs 129 4 cH (.slice c (gE).length e) ((apE gV gE bC 6)) := by
     have hx := eF
     first | exact hx.eq (ap_n (by first | exact fun q => B q.1 | exact fun q => absurd q.2.1 om)).1.symm | exact hx.eq (ap_n (Zbd (Xo (k := i + 1) (by rw [Xf hF I]; first | exact Qb s t | exact Zbe s J | exact Xz s t)))).1.symm | exact hx.eq (ap_y B om (Qa hF om)).1.symm
    exact Zj [_, _] (Zn a7 rfl agg36 sz36 ⟨rfl, trivial⟩) ⟨(.slice a (gV).length b), (.slice c (gE).length e), (congrArg (fun zq => (Value.tuple #[.agg #[(.slice a (gV).length b), (.slice c (gE).length e)], .bool zq])) (by first | exact (ap_n (by first | exact fun q => B q.1 | exact fun q => absurd q.2.1 om)).2.symm | exact (ap_n (Zbd (Xo (k := i + 1) (by rw [Xf hF I]; first | exact Qb s t | exact Zbe s J | exact Xz s t)))).2.symm | exact (ap_y B om (Qa hF om)).2.symm)), b3, (Lo.down u om), b4, (Lo.down x om), (fun g hm hg => by exact h _ hm hg), E⟩
   have cF := t
   have t := Qk t
   refine Yf ?_
   refine Yc (Zb (bZ _ _ (Zc (Za rfl rfl (Xc om rfl rfl) (Za rfl rfl (Zg rfl) (Ze ?_))))))
   have eG := ah.ch aX (dS M aj om)
   have bs : Ol ics 3 1 cE (.slice T (gV).length U) (gV) := by
    have hx := eG
    exact hx
   have eH := ai.ch aX (dS O ak om)
   have bu : Ol GEdge.cs 129 4 cE (.slice V ((insR gV F (⟨f.eid, f.ef, f.et, f.el⟩ : GEdge)).1).length X) ((insR gV F (⟨f.eid, f.ef, f.et, f.el⟩ : GEdge)).1) := by
    have hx := eH
    exact hx
   have eI := (((aq.ch0 ac).ch ad (nS om)).ch0 a4).ch aX (nS om)
   have eJ := (((aD.ch0 ac).ch ad (oS om)).ch0 a4).ch aX (oS om)
   have eK := (((aE.ch0 ac).ch ad (oS om)).ch0 a4).ch aX (oS om)
   have eL := (((ag.ch0 ac).ch ad (nS om)).ch0 a4).ch aX (nS om)
   exact Zb (Exists.intro ((i + 1), (insR gV F (⟨f.eid, f.ef, f.et, f.el⟩ : GEdge)).1, (.slice T (gV).length U), (.slice V ((insR gV F (⟨f.eid, f.ef, f.et, f.el⟩ : GEdge)).1).length X)) ⟨⟨E, om, om, (by rw [Xf hF I]; first | exact Zfp s t | exact Zfs s J t), (by first | exact Nat.le_trans (Zew _ _ _) om | exact Nat.le_trans (Zev _ _ _) om), eI, eJ, eK, eL, bs, (Lo.down M om), bu, (Lo.down O om), a5, (fun hm => by have bV := M _ hm; have bW := aj _ hm; omega), (fun g hm hg => by exact R _ hg hm), (fun hm => by have bV := O _ hm; have bW := ak _ hm; omega)⟩, sC4 rfl rfl rfl rfl (sC2 rfl rfl (Sub.nil _)), (by first | omega | (dsimp only; omega))⟩)
  have cC := s
  refine Zh fun fx eM => ?_
  refine Zc (Za rfl rfl (Zd fa36_1 rfl) ?_)
  have dq := (a2.ch0 ac).ch ad (nS om)
  refine Za rfl rfl (Zp dq.at_ agg34 rfl rfl) (Za rfl rfl (Zd fa142_1 rfl) (Za rfl rfl (Zdl 4 au.at_ agg129 sz129 rfl rfl) (Zl rfl rfl ?_)))
  have dr := (aw.ch0 ac).ch ad (dS af hiev om)
  refine Step.call (Zm (xs := [.tmp 39, .tmp 41]) fk111 rfl) (Zap dr.ls ⟨f.eid, f.ef, f.et, f.el⟩ ) fun eN fy cI => ?_
  obtain ⟨rfl, ay⟩ := cI
  have eO := ay.size
  have E := E.trans ay
  refine Ze (Zb (eM _ _ ?_))
  refine Zz rfl (fun J => ?_) (fun J => ?_)
  ·have cJ := J
   have J := Yt J
   refine Zc ?_
   have ds := dq.ch0 ay
   refine Za rfl rfl (Zi ds.at_ agg36 sz36 rfl) (Za rfl rfl (Zd fa142_1 rfl) (Za rfl rfl (Zgp (n := 1) fa129_0 rfl rfl) ?_))
   have cK := au.ch0 ay
   refine Za rfl rfl (Zp cK.at_ agg3 rfl rfl) (Zl rfl rfl ?_)
   have cL := ((aU.ch0 ac).ch ad (dS av a3 om)).ch0 ay
   have cM := dr.ch0 ay
   refine Step.call (Zm (xs := [.tmp 44, .tmp 47]) fk112 rfl) (Zef cL.ls cM.ls _ om) fun eP eQ cN => ?_
   obtain ⟨cl, cm, rfl, al, P, am, Q, S, an⟩ := cN
   have dt := an.size
   have E := E.trans an
   obtain ⟨Y, Z, rfl, b5, ao⟩ := al.opn
   obtain ⟨aa, ab, rfl, b6, ap⟩ := am.opn
   have eR := Zev gV F f.eid
   refine Za rfl rfl (Zg rfl) (Za rfl rfl (Yb rfl rfl) (Za rfl rfl (Yb rfl rfl) (Zl rfl rfl ?_)))
   have cO := ds.ch0 an
   refine Zk (off := 0) 2 cO sz36 rfl (us := [(.slice Y (gV).length Z), (.slice aa ((delR gV F f.eid).1).length ab)]) rfl rfl rfl rfl fun bv aM ae => ?_
   have du := ae.size
   have E := E.step ae (lS om)
   replace aM : Blk bv bk 36 [(.slice Y (gV).length Z), (.slice aa ((delR gV F f.eid).1).length ab)] := aM
   refine Za rfl rfl (Zf rfl) (Ze (Zb (cB _ _ ?_)))
   refine Zh fun eS cP => ?_
   refine Zc (Za rfl rfl (Zg rfl) (Za rfl rfl (Xp rfl) (Ze (Zb (cP _ _ ?_)))))
   refine Zz rfl (fun t => ?_) (fun t => ?_)
   ·have b7 := t
    have t := Qj t
    refine Zh fun eT cQ => ?_
    refine Zc ?_
    have cR := ((((aq.ch0 ac).ch ad (nS om)).ch0 ay).ch0 an).ch ae (nS om)
    refine Za rfl rfl (Zi cR.at_ agg36 sz36 rfl) (Zl rfl rfl ?_)
    have cS := ((((aD.ch0 ac).ch ad (oS om)).ch0 ay).ch0 an).ch ae (oS om)
    have cT := ((((aE.ch0 ac).ch ad (oS om)).ch0 ay).ch0 an).ch ae (oS om)
    refine Step.call (Zm (xs := [.tmp 53]) fk91 rfl) (Xv cS cT om) fun b2 eU a6 => ?_
    obtain ⟨aV, aW, rfl, y, u, z, x, h, bw⟩ := a6
    have dv := bw.size
    have E := E.trans bw
    obtain ⟨a, b, rfl, aF, G⟩ := y.opn
    obtain ⟨c, e, rfl, aG, H⟩ := z.opn
    refine Zl rfl rfl ?_
    have cU := (((((ag.ch0 ac).ch ad (nS om)).ch0 ay).ch0 an).ch ae (nS om)).ch0 bw
    refine Zk (off := 0) 2 cU sz36 rfl (us := [(.slice a (gV).length b), (.slice c (gE).length e)]) rfl rfl rfl rfl fun bz aN bb => ?_
    have dw := bb.size
    have E := E.step bb (lS om)
    replace aN : Blk bz ba 36 [(.slice a (gV).length b), (.slice c (gE).length e)] := aN
    refine Za rfl rfl (Zf rfl) (Ze (Zb (cQ _ _ ?_)))
    refine Zv (Yq (Zt (Zt (Yq (Zt ?_)))))
    clear cf bZ
    have cV := y.ch bb (dS u G om)
    have bA : Ol ics 3 1 bz (.slice a (gV).length b) (gV) := by
     have hx := cV
     first | exact hx | simpa using hx
    have cW := z.ch bb (dS x H om)
    have bB : Ol GEdge.cs 129 4 bz (.slice c (gE).length e) ((apE gV gE bC 6)) := by
     have hx := cW
     first | exact hx.eq (ap_n (by first | exact fun q => B q.1 | exact fun q => absurd q.2.1 om)).1.symm | exact hx.eq (ap_n (Zbd (Xo (k := i + 1) (by rw [Xf hF I]; first | exact Qb s t | exact Zbe s J | exact Xz s t)))).1.symm | exact hx.eq (ap_y B om (Qa hF om)).1.symm
    exact Zj [_, _] (Zn aN rfl agg36 sz36 ⟨rfl, trivial⟩) ⟨(.slice a (gV).length b), (.slice c (gE).length e), (congrArg (fun zq => (Value.tuple #[.agg #[(.slice a (gV).length b), (.slice c (gE).length e)], .bool zq])) (by first | exact (ap_n (by first | exact fun q => B q.1 | exact fun q => absurd q.2.1 om)).2.symm | exact (ap_n (Zbd (Xo (k := i + 1) (by rw [Xf hF I]; first | exact Qb s t | exact Zbe s J | exact Xz s t)))).2.symm | exact (ap_y B om (Qa hF om)).2.symm)), bA, (Lo.down u om), bB, (Lo.down x om), (fun g hm hg => by exact h _ hm hg), E⟩
   have b7 := t
   have t := Qk t
   refine Yf ?_
   refine Yc (Zb (bZ _ _ (Zc (Za rfl rfl (Xc om rfl rfl) (Za rfl rfl (Zg rfl) (Ze ?_))))))
   have cX := al.ch ae (dS P ao om)
   have bc : Ol ics 3 1 bv (.slice Y (gV).length Z) (gV) := by
    have hx := cX
    exact hx
   have cY := am.ch ae (dS Q ap om)
   have be : Ol GEdge.cs 129 4 bv (.slice aa ((delR gV F f.eid).1).length ab) ((delR gV F f.eid).1) := by
    have hx := cY
    exact hx
   have cZ := ((((aq.ch0 ac).ch ad (nS om)).ch0 ay).ch0 an).ch ae (nS om)
   have c0 := ((((aD.ch0 ac).ch ad (oS om)).ch0 ay).ch0 an).ch ae (oS om)
   have c1 := ((((aE.ch0 ac).ch ad (oS om)).ch0 ay).ch0 an).ch ae (oS om)
   have c2 := ((((ag.ch0 ac).ch ad (nS om)).ch0 ay).ch0 an).ch ae (nS om)
   exact Zb (Exists.intro ((i + 1), (delR gV F f.eid).1, (.slice Y (gV).length Z), (.slice aa ((delR gV F f.eid).1).length ab)) ⟨⟨E, om, om, (by rw [Xf hF I]; first | exact Zfp s t | exact Zfs s J t), (by first | exact Nat.le_trans (Zew _ _ _) om | exact Nat.le_trans (Zev _ _ _) om), cZ, c0, c1, c2, bc, (Lo.down P om), be, (Lo.down Q om), aM, (fun hm => by have bV := P _ hm; have bW := ao _ hm; omega), (fun g hm hg => by exact S _ hg hm), (fun hm => by have bV := Q _ hm; have bW := ap _ hm; omega)⟩, sC4 rfl rfl rfl rfl (sC2 rfl rfl (Sub.nil _)), (by first | omega | (dsimp only; omega))⟩)
  have cJ := J
  have J := Yu J
  refine Yf ?_
  refine Zb (cB _ _ ?_)
  refine Zh fun eV c3 => ?_
  refine Zc (Za rfl rfl (Zg rfl) (Za rfl rfl (Xp rfl) (Ze (Zb (c3 _ _ ?_)))))
  refine Xr rfl ?_
  refine Zh fun eW c4 => ?_
  refine Zc ?_
  have c5 := ((aq.ch0 ac).ch ad (nS om)).ch0 ay
  refine Za rfl rfl (Zi c5.at_ agg36 sz36 rfl) (Zl rfl rfl ?_)
  have c6 := ((aD.ch0 ac).ch ad (oS om)).ch0 ay
  have c7 := ((aE.ch0 ac).ch ad (oS om)).ch0 ay
  refine Step.call (Zm (xs := [.tmp 53]) fk91 rfl) (Xv c6 c7 om) fun b2 eX a6 => ?_
  obtain ⟨aV, aW, rfl, y, u, z, x, h, bD⟩ := a6
  have dx := bD.size
  have E := E.trans bD
  obtain ⟨a, b, rfl, aF, G⟩ := y.opn
  obtain ⟨c, e, rfl, aG, H⟩ := z.opn
  refine Zl rfl rfl ?_
  have c8 := (((ag.ch0 ac).ch ad (nS om)).ch0 ay).ch0 bD
  refine Zk (off := 0) 2 c8 sz36 rfl (us := [(.slice a (gV).length b), (.slice c (gE).length e)]) rfl rfl rfl rfl fun bF aO bf => ?_
  have dy := bf.size
  have E := E.step bf (lS om)
  replace aO : Blk bF ba 36 [(.slice a (gV).length b), (.slice c (gE).length e)] := aO
  refine Za rfl rfl (Zf rfl) (Ze (Zb (c4 _ _ ?_)))
  refine Zv (Yq (Zt (Zt (Yq (Zt ?_)))))
  clear cf bZ
  have c9 := y.ch bf (dS u G om)
  have bG : Ol ics 3 1 bF (.slice a (gV).length b) (gV) := by
   have hx := c9
   first | exact hx | simpa using hx
  have da := z.ch bf (dS x H om)
  have bH : Ol GEdge.cs 129 4 bF (.slice c (gE).length e) ((apE gV gE bC 6)) := by
   have hx := da
   first | exact hx.eq (ap_n (by first | exact fun q => B q.1 | exact fun q => absurd q.2.1 om)).1.symm | exact hx.eq (ap_n (Zbd (Xo (k := i + 1) (by rw [Xf hF I]; first | exact Qb s t | exact Zbe s J | exact Xz s t)))).1.symm | exact hx.eq (ap_y B om (Qa hF om)).1.symm
  exact Zj [_, _] (Zn aO rfl agg36 sz36 ⟨rfl, trivial⟩) ⟨(.slice a (gV).length b), (.slice c (gE).length e), (congrArg (fun zq => (Value.tuple #[.agg #[(.slice a (gV).length b), (.slice c (gE).length e)], .bool zq])) (by first | exact (ap_n (by first | exact fun q => B q.1 | exact fun q => absurd q.2.1 om)).2.symm | exact (ap_n (Zbd (Xo (k := i + 1) (by rw [Xf hF I]; first | exact Qb s t | exact Zbe s J | exact Xz s t)))).2.symm | exact (ap_y B om (Qa hF om)).2.symm)), bG, (Lo.down u om), bH, (Lo.down x om), (fun g hm hg => by exact h _ hm hg), E⟩
 have cz := aL
 have aL := Yu aL
 refine Xx (Yh (Yh (Xg ?_)))
 refine Zb (cf _ _ ?_)
 refine Zh fun eY db => ?_
 refine Zc (Za rfl rfl (Zi a2.at_ agg36 sz36 rfl) (Zl rfl rfl ?_))
 refine Zk (off := 0) 2 ag sz36 rfl (us := [(.slice Avv (gV).length Cvv), (.slice Aev (F).length Cev)]) rfl rfl rfl rfl fun bI aP bg => ?_
 have dz := bg.size
 have E := E.step bg (lS om)
 replace aP : Blk bI ba 36 [(.slice Avv (gV).length Cvv), (.slice Aev (F).length Cev)] := aP
 refine Za rfl rfl (Zf rfl) (Ze (Zb (db _ _ ?_)))
 refine Zv ?_
 have dc := aU.ch bg (dS av a3 om)
 have bJ : Ol ics 3 1 bI (.slice Avv (gV).length Cvv) (gV) := by
  have hx := dc
  first | exact hx | simpa using hx
 have dd := aw.ch bg (dS af hiev om)
 have bK : Ol GEdge.cs 129 4 bI (.slice Aev (F).length Cev) ((apE gV gE bC 6)) := by
  have hx := dd
  first | exact hx.eq (ap_n (by first | exact fun q => B q.1 | exact fun q => absurd q.2.1 om)).1.symm | exact hx.eq (ap_n (Zbd (Xo (k := i + 1) (by rw [Xf hF I]; first | exact Qb s t | exact Zbe s J | exact Xz s t)))).1.symm | exact hx.eq (ap_y B om (Qa hF om)).1.symm
 exact Zj [_, _] (Zn aP rfl agg36 sz36 ⟨rfl, trivial⟩) ⟨(.slice Avv (gV).length Cvv), (.slice Aev (F).length Cev), (congrArg (fun zq => (Value.tuple #[.agg #[(.slice Avv (gV).length Cvv), (.slice Aev (F).length Cev)], .bool zq])) (by first | exact (ap_n (by first | exact fun q => B q.1 | exact fun q => absurd q.2.1 om)).2.symm | exact (ap_n (Zbd (Xo (k := i + 1) (by rw [Xf hF I]; first | exact Qb s t | exact Zbe s J | exact Xz s t)))).2.symm | exact (ap_y B om (Qa hF om)).2.symm)), bJ, (Lo.down av om), bK, (Lo.down af om), (fun g hm hg => by exact aK _ hg hm), E⟩

/-- slices.Equal[[]int,int] -/
theorem Zbc {w : World} {LL_a y : Nat} {n : Value} {a : List Int} (g : Ls ics 1 w LL_a y n a) {LL_b z : Nat} {o : Value} {b : List Int} (h : Ls ics 1 w LL_b z o b) :
 Ctr Try.prog 87 #[n, o] w (fun v w' => v = .bool (decide (a = b)) ∧ Ch [] w w') := by
 obtain ⟨p, q, r⟩ := g.val
 subst r
 have I := g.len
 have g := g.here (by decide)
 obtain ⟨s, t, u⟩ := h.val
 subst u
 have J := h.len
 have h := h.here (by decide)
 have E := Ch.refl [] w
 refine Yj (N := 26) (vs0 := [(.slice p a.length q), (.slice s b.length t)]) Try.func87 rfl rfl rfl ?_
 refine Zh fun K1 H1 => ?_
 refine Zc (Za rfl rfl (Zf rfl) (Ze (Zb (H1 _ _ ?_))))
 refine Zh fun K2 H2 => ?_
 refine Zh fun K3 H3 => ?_
 refine Zc (Za rfl rfl (Zg rfl) (Za rfl rfl (Yr (by rw [el22]; rfl) rfl) (Za rfl rfl (Zg rfl) (Za rfl rfl (Yr (by rw [el22]; rfl) rfl) (Za rfl rfl (Zfn rfl rfl) (Ze (Zb (H3 _ _ ?_))))))))
 refine Zz rfl (fun d => ?_) (fun d => ?_)
 ·have K := d
  have d := Yu (Qj d)
  refine Zh fun K5 H5 => ?_
  refine Zc (Za rfl rfl (Zf rfl) (Ze (Zb (H5 _ _ ?_))))
  refine Zv (Zt ?_)
  exact Zj [_] ⟨rfl, trivial⟩ ⟨congrArg Value.bool (decide_eq_false (fun e => d (by rw [e]))).symm, E⟩
 have K := d
 have d := Yt (Qk d)
 refine Yf ?_
 refine Zb (H2 _ _ ?_)
 refine Zh fun K6 H6 => ?_
 refine Zh fun K7 H7 => ?_
 refine Zc (Za rfl rfl (Zg rfl) (Za rfl rfl (Yr (by rw [el22]; rfl) rfl) (Za rfl rfl (Zg rfl) (Ze (Zb (H7 _ _ ?_))))))
 refine Yn ?_
 refine Ql (σ := Nat) (fun (k : Nat) => [(0, (.slice p a.length q)), (1, (.slice s b.length t)), (12, (.int .i64 ((a.length : Nat) : Int))), (13, (.int .i64 ((k : Nat) : Int)))]) (fun (k : Nat) wx => Ch [] w wx ∧ w.heap.size ≤ wx.heap.size ∧ (k ≤ a.length) ∧ (a.take k = b.take k)) (fun (k : Nat) => a.length - k) 0 (sC4 rfl rfl rfl rfl (Sub.nil _)) ⟨E, (Nat.le_refl _), om, rfl⟩ ?_
 rintro k R8 ⟨E, L, aa, F⟩
 have m := E
 have G := m.size
 refine Zh fun K9 H9 => ?_
 refine Zc (Za rfl rfl (Qw rfl rfl) (Ze (Zb (H9 _ _ ?_))))
 refine Zh fun ab M => ?_
 refine Zz rfl (fun f => ?_) (fun f => ?_)
 ·have A := f
  have f := Yt f
  refine Yf ?_
  refine Zb (M _ _ ?_)
  refine Zh fun ac H => ?_
  refine Yn ?_
  refine Zh fun ad O => ?_
  refine Zc (Za rfl rfl (Zg rfl) (Za rfl rfl (Zf rfl) (Ze (Zb (O _ _ ?_)))))
  refine Zh fun ae P => ?_
  refine Yv [] 9 mixed rfl fun af x => ?_
  have Q := x.size
  have E := E.trans x
  refine dV 0 rfl rfl rfl (fun _ => Zg rfl) (dV 1 rfl rfl rfl (fun _ => Zg rfl) ?_)
  have R := (g.ch0 m).ch0 x
  refine dT 2 rfl rfl rfl (Xh R Yx el22 sz3 rfl rfl rfl om fun S T j B => ?_)
  refine dT 3 rfl rfl rfl (Zbt B (fun i hi => absurd hi List.not_mem_nil) agg3 rfl rfl ?_)
  refine dV 4 rfl rfl rfl (fun _ => Zg rfl) (dV 5 rfl rfl rfl (fun _ => Zg rfl) ?_)
  have U := (h.ch0 m).ch0 x
  refine dT 6 rfl rfl rfl (Xh U Yx el22 sz3 rfl rfl rfl om fun V X l C => ?_)
  refine dT 7 rfl rfl rfl (Zbt C (fun i hi => absurd hi List.not_mem_nil) agg3 rfl rfl ?_)
  refine dV 8 rfl rfl rfl (fun _ => Zfn rfl rfl) ?_
  refine Zw (by kernel_rfl) ?_
  refine Zb (P _ _ ?_)
  refine Zz rfl (fun c => ?_) (fun c => ?_)
  ·have D := c
   have c := Yu (Qj c)
   refine Zh fun ag Y => ?_
   refine Zc (Za rfl rfl (Zf rfl) (Ze (Zb (Y _ _ ?_))))
   refine Zv (Yq (Zt (Zt (Yq (Zt ?_)))))
   clear H6 H
   exact Zj [_] ⟨rfl, trivial⟩ ⟨congrArg Value.bool (decide_eq_false (Zbu j l c)).symm, E⟩
  have D := c
  have c := Yt (Qk c)
  refine Yf ?_
  refine Yc (Zb (H _ _ (Zc (Za rfl rfl (Xc om rfl rfl) (Za rfl rfl (Zg rfl) (Ze ?_))))))
  exact Zb (Exists.intro (k + 1) ⟨⟨E, om, om, (Zbk F j l c)⟩, sC4 rfl rfl rfl rfl (Sub.nil _), (by first | omega | (dsimp only; omega))⟩)
 have A := f
 have f := Yu f
 refine Xx (Yh (Yh (Xg ?_)))
 refine Zb (H6 _ _ ?_)
 refine Zh fun ah Z => ?_
 refine Zc (Za rfl rfl (Zf rfl) (Ze (Zb (Z _ _ ?_))))
 refine Zv ?_
 exact Zj [_] ⟨rfl, trivial⟩ ⟨congrArg Value.bool (decide_eq_true (Zbf F om om)).symm, E⟩

/-- impl.IsValidHistory -/
theorem Zaj {w : World} (hF : Int) {LL_shG F : Nat} {u : Value} {shG : List Gv} (g : Ls Gv.cs 2 w LL_shG F u shG) {LR_hG BB_hG : Nat} {hG : List GD} (h : RdG w LR_hG BB_hG shG hG) :
 Ctr Try.prog 33 #[(.agg #[(.int .i64 hF), u])] w (fun v w' => v = .bool (tt (Xw hF hG)) ∧ Ch [] w w') := by
 obtain ⟨l, m, z⟩ := g.val
 subst z
 have Z := g.len
 have g := g.here (by decide)
 have h := h.here
 have aa := h.1
 have E := Ch.refl [] w
 refine Yj (N := 43) (vs0 := [(.agg #[(.int .i64 hF), (.slice l shG.length m)])]) Try.func33 rfl rfl rfl ?_
 refine Zh fun K1 H1 => ?_
 refine Zc (Zl rfl rfl ?_)
 refine Xm rfl fun ab W2 P C2 br => ?_
 have bs := C2.size
 have E := E.trans C2
 have bu := P.lt
 replace P : Blk W2 ab 57 [(.int .i64 hF), (.slice l shG.length m)] := P
 refine Za rfl rfl (Zf rfl) (Ze (Zb (H1 _ _ ?_)))
 refine Zh fun K3 H3 => ?_
 refine Zc (Za rfl rfl (Zd fa57_1 rfl) (Za rfl rfl (Zp P.at_ agg55 rfl rfl) (Za rfl rfl (Yr (by rw [el55]; rfl) rfl) (Za rfl rfl (Zf rfl) (Ze (Zb (H3 _ _ ?_)))))))
 refine Zh fun K4 H4 => ?_
 refine Zh fun K5 H5 => ?_
 refine Zc (Za rfl rfl (Zg rfl) (Zl rfl rfl ?_))
 refine Step.call (Zm (xs := [.tmp 9, .const (Go.Value.int Go.IntKind.i64 1), .const (Go.Value.int Go.IntKind.i64 8)]) fk85 rfl) (Qh _ _ _ ) fun aJ W6 ac => ?_
 obtain ⟨rfl, C6⟩ := ac
 have bv := C6.size
 have E := E.trans C6
 refine Za rfl rfl (Xp rfl) (Za rfl rfl (Zg rfl) ?_)
 refine Yy (d := 12) rfl (fun p => ?_) (fun p => ?_)
 ·have aK := p
  have p := Yu (Qj p)
  refine Zo rfl rfl (Zo rfl rfl (Zo rfl rfl (Zo rfl rfl (Zo rfl rfl (Zo rfl rfl (Zo rfl rfl (Za rfl rfl (Ym rfl rfl) ?_)))))))
  refine Ze (Zb (H5 _ _ ?_))
  refine Xr rfl ?_
  refine Zh fun K8 H8 => ?_
  refine Zc (Za rfl rfl (Zf rfl) (Ze (Zb (H8 _ _ ?_))))
  refine Zv (Zt ?_)
  exact Zj [_] ⟨rfl, trivial⟩ ⟨congrArg Value.bool (by first | exact Zu (fun q => b (Zbi q a)) | exact Zu (fun q => c (Zaz q a e)) | exact vh_t hs om om om | exact Zu (fun q => by have T := q.2; omega)), E⟩
 have aK := p
 have p := Yt (Qk p)
 refine Za rfl rfl (Zd fa57_0 rfl) ?_
 have F9 := P.ch0 C6
 refine Za rfl rfl (Zp F9.at_ agg3 rfl rfl) (Za rfl rfl (Zg rfl) (Za rfl rfl (Xe om rfl rfl) (Za rfl rfl (Xc om rfl rfl) (Zl rfl rfl ?_))))
 refine Step.call (Zm (xs := [.tmp 14, .const (Go.Value.int Go.IntKind.i64 1), .tmp 17]) fk85 rfl) (Qh _ _ _ ) fun aL aM ad => ?_
 obtain ⟨rfl, ae⟩ := ad
 have aN := ae.size
 have E := E.trans ae
 refine Za rfl rfl (Xp rfl) (Za rfl rfl (Yl rfl rfl) (Ze (Zb (H5 _ _ ?_))))
 refine Zz rfl (fun r => ?_) (fun r => ?_)
 ·have af := r
  have r := Yu (Qj r)
  refine Zh fun bw aO => ?_
  refine Zc (Za rfl rfl (Zf rfl) (Ze (Zb (aO _ _ ?_))))
  refine Zv (Zt ?_)
  exact Zj [_] ⟨rfl, trivial⟩ ⟨congrArg Value.bool (by first | exact Zu (fun q => b (Zbi q a)) | exact Zu (fun q => c (Zaz q a e)) | exact vh_t hs om om om | exact Zu (fun q => by have T := q.2; omega)), E⟩
 have af := r
 have r := Yt (Qk r)
 refine Yf ?_
 refine Zb (H4 _ _ ?_)
 refine Zh fun bz ag => ?_
 refine Zh fun bA aP => ?_
 refine Zc (Za rfl rfl (Zd fa57_1 rfl) ?_)
 have az := F9.ch0 ae
 refine Za rfl rfl (Zp az.at_ agg55 rfl rfl) (Za rfl rfl (Yr (by rw [el55]; rfl) rfl) (Za rfl rfl (Zg rfl) (Ze (Zb (aP _ _ ?_)))))
 refine Yn ?_
 refine Ql (σ := Nat) (fun (k : Nat) => [(1, (.pointer (some ⟨ab, 0, none⟩))), (22, (.slice l shG.length m)), (23, (.int .i64 ((shG.length : Nat) : Int))), (24, (.int .i64 ((k : Nat) : Int)))]) (fun (k : Nat) wx => Ch [] w wx ∧ aM.heap.size ≤ wx.heap.size ∧ (k ≤ hG.length) ∧ (Zdx hG k) ∧ Blk wx ab 57 [(.int .i64 hF), (.slice l shG.length m)]) (fun (k : Nat) => hG.length - k) 0 (sC4 rfl rfl rfl rfl (Sub.nil _)) ⟨E, (Nat.le_refl _), om, (Zgo _), az⟩ ?_
 rintro k aA ⟨E, aQ, bB, hs, B⟩
 have G := E
 have aB := G.size
 have ah := B.lt
 refine Zh fun bC aR => ?_
 refine Zc (Za rfl rfl (Qw rfl rfl) (Ze (Zb (aR _ _ ?_))))
 refine Zh fun bD aS => ?_
 refine Zz rfl (fun s => ?_) (fun s => ?_)
 ·have ai := s
  have s := Yt s
  refine Yf ?_
  refine Zb (aS _ _ ?_)
  refine Zh fun bF aj => ?_
  refine Yn ?_
  refine Zh fun bG aT => ?_
  refine Zc (Zl rfl rfl ?_)
  have aC := g.ch0 G
  refine (Qm aC Gv.len el55 sz36 rfl rfl rfl om fun aU ak Q al => ?_)
  have aD := h.ch0 G
  obtain ⟨f, a, n, x⟩ := aD.get Q
  obtain ⟨⟨H, aV, I⟩, ⟨J, aW, K⟩⟩ := ak
  obtain rfl := n.eqn
  obtain rfl := x.eqn
  have aX := n.len
  have aY := x.len
  replace n : Ls ics 1 aA LR_hG w.heap.size (.slice H f.V.length I) f.V := n
  replace x : Ls GEdge.cs 4 aA LR_hG w.heap.size (.slice J f.E.length K) f.E := x
  refine Za rfl rfl (Zi al agg36 sz36 rfl) (Zl rfl rfl ?_)
  refine Yd zr36 fun aE aZ U L bH => ?_
  have a0 := L.size
  have E := E.trans L
  have bI := U.lt
  replace U : Blk aZ aE 36 [(.slice none 0 0), (.slice none 0 0)] := U
  refine Zl rfl rfl ?_
  refine Zk (off := 0) 2 U sz36 rfl (us := [(.slice H f.V.length I), (.slice J f.E.length K)]) rfl rfl rfl rfl fun a1 y M => ?_
  have a2 := M.size
  have E := E.step M (lS om)
  replace y : Blk a1 aE 36 [(.slice H f.V.length I), (.slice J f.E.length K)] := y
  refine Ze (Zb (aT _ _ ?_))
  refine Zh fun bJ aF => ?_
  refine Yv [] 14 mixed rfl fun X C => ?_
  have a3 := C.size
  have E := E.trans C
  have aG := y.ch0 C
  refine dT 0 rfl rfl rfl (Ye aG.at_ (fun i hi => absurd hi List.not_mem_nil) agg36 sz36 rfl ?_)
  refine dO 1 (Zr rfl rfl rfl ?_)
  have aH := ((n.ch0 L).ch M (oS om)).ch0 C
  have a4 := ((x.ch0 L).ch M (oS om)).ch0 C
  refine Step.call (Zm (xs := [.tmp 28]) fk86 rfl) (Zac aH a4 ) fun a5 a6 am => ?_
  obtain ⟨rfl, O⟩ := am
  have a7 := O.size
  have E := E.trans O
  have D : Ch [] X a6 := ((Ch.refl _ _).trans O)
  refine ⟨D, ?_⟩
  refine dV 2 rfl rfl rfl (fun _ => Xp rfl) (dV 3 rfl rfl rfl (fun _ => Zg rfl) ?_)
  refine Qq (d := 31) rfl (fun b => ?_) (fun b => ?_)
  ·have an := b
   have b := bf_t (Qj b)
   refine dK 4 rfl rfl rfl (dK 5 rfl rfl rfl (dK 6 rfl rfl rfl (dK 7 rfl rfl rfl (dK 8 rfl rfl rfl (dK 9 rfl rfl rfl (dK 10 rfl rfl rfl (dK 11 rfl rfl rfl ?_)))))))
   refine dK 12 rfl rfl rfl (dV 13 rfl rfl rfl (fun _ => Ym rfl rfl) ?_)
   refine Zw (by kernel_rfl) ?_
   refine Zb (aF _ _ ?_)
   refine Xr rfl ?_
   refine Zh fun bK a8 => ?_
   refine Zc (Za rfl rfl (Zf rfl) (Ze (Zb (a8 _ _ ?_))))
   refine Zv (Yq (Zt (Zt (Yq (Zt ?_)))))
   clear ag aj
   exact Zj [_] ⟨rfl, trivial⟩ ⟨congrArg Value.bool (by first | exact Zu (fun q => b (Zbi q a)) | exact Zu (fun q => c (Zaz q a e)) | exact vh_t hs om om om | exact Zu (fun q => by have T := q.2; omega)), E⟩
  have an := b
  have b := bt_t (Qk b)
  refine dV 4 rfl rfl rfl (fun _ => Zd fa36_0 rfl) ?_
  refine dT 5 rfl rfl rfl (Yi aG.at_ (fun i hi => absurd hi List.not_mem_nil) agg22 rfl rfl ?_)
  refine dV 6 rfl rfl rfl (fun _ => Zd fa57_1 rfl) ?_
  have aI := ((B.ch0 L).ch M (nS om)).ch0 C
  refine dT 7 rfl rfl rfl (Yi aI.at_ (fun i hi => absurd hi List.not_mem_nil) agg55 rfl rfl ?_)
  have a9 := ((aC.ch0 L).ch M (oS om)).ch0 C
  have ba := ((aD.ch0 L).ch M (oS om)).ch0 C
  refine dT 8 rfl rfl rfl (Xh (j := 0) a9 Gv.len el55 sz36 rfl rfl rfl om fun bb ao R ap => ?_)
  obtain ⟨t, e, o, A⟩ := ba.get R
  obtain ⟨⟨aq, bc, au⟩, ⟨av, be, aw⟩⟩ := ao
  obtain rfl := o.eqn
  obtain rfl := A.eqn
  have bf := o.len
  have bg := A.len
  replace o : Ls ics 1 X LR_hG w.heap.size (.slice aq t.V.length au) t.V := o
  replace A : Ls GEdge.cs 4 X LR_hG w.heap.size (.slice av t.E.length aw) t.E := A
  refine dV 9 rfl rfl rfl (fun _ => Zd fa36_0 rfl) ?_
  refine dT 10 rfl rfl rfl (Yi ap (fun i hi => absurd hi List.not_mem_nil) agg22 rfl rfl ?_)
  refine dO 11 (Zr rfl rfl rfl ?_)
  have bh := aH.ch0 O
  have bi := o.ch0 O
  refine Step.call (Zm (xs := [.tmp 33, .tmp 38]) fk87 rfl) (Zbc bh bi ) fun bj bk ax => ?_
  obtain ⟨rfl, Y⟩ := ax
  have bm := Y.size
  have E := E.trans Y
  have S : Ch [] X bk := (D.trans Y)
  refine ⟨S, ?_⟩
  refine dV 12 rfl rfl rfl (fun _ => Xp rfl) (dV 13 rfl rfl rfl (fun _ => Yl rfl rfl) ?_)
  refine Zw (by kernel_rfl) ?_
  refine Zb (aF _ _ ?_)
  refine Zz rfl (fun c => ?_) (fun c => ?_)
  ·have ay := c
   have c := Yu (Qj c)
   refine Zh fun bL bn => ?_
   refine Zc (Za rfl rfl (Zf rfl) (Ze (Zb (bn _ _ ?_))))
   refine Zv (Yq (Zt (Zt (Yq (Zt ?_)))))
   clear ag aj
   exact Zj [_] ⟨rfl, trivial⟩ ⟨congrArg Value.bool (by first | exact Zu (fun q => b (Zbi q a)) | exact Zu (fun q => c (Zaz q a e)) | exact vh_t hs om om om | exact Zu (fun q => by have T := q.2; omega)), E⟩
  have ay := c
  have c := Yt (Qk c)
  refine Yf ?_
  refine Yc (Zb (aj _ _ (Zc (Za rfl rfl (Xc om rfl rfl) (Za rfl rfl (Zg rfl) (Ze ?_))))))
  have bp := (aI.ch0 O).ch0 Y
  exact Zb (Exists.intro (k + 1) ⟨⟨E, om, om, (Zgi hs a e b c), bp⟩, sC4 rfl rfl rfl rfl (Sub.nil _), (by first | omega | (dsimp only; omega))⟩)
 have ai := s
 have s := Yu s
 refine Xx (Yh (Yh (Xg ?_)))
 refine Zb (ag _ _ ?_)
 refine Zh fun bM bq => ?_
 refine Zc (Za rfl rfl (Zf rfl) (Ze (Zb (bq _ _ ?_))))
 refine Zv ?_
 exact Zj [_] ⟨rfl, trivial⟩ ⟨congrArg Value.bool (by first | exact Zu (fun q => b (Zbi q a)) | exact Zu (fun q => c (Zaz q a e)) | exact vh_t hs om om om | exact Zu (fun q => by have T := q.2; omega)), E⟩

/-- impl.LatestVersion -/
theorem Xa {w : World} (hF : Int) {LL_shG i : Nat} {d : Value} {shG : List Gv} (a : Ls Gv.cs 2 w LL_shG i d shG) {LR_hG BB_hG : Nat} {hG : List GD} (b : RdG w LR_hG BB_hG shG hG) :
 Ctr Try.prog 36 #[(.agg #[(.int .i64 hF), d])] w (fun v w' => v = .int .i64 (lvR hF hG) ∧ Ch [] w w') := by
 obtain ⟨e, f, h⟩ := a.val
 subst h
 have k := a.len
 have a := a.here (by decide)
 have b := b.here
 have g := b.1
 have E := Ch.refl [] w
 refine Yj (N := 13) (vs0 := [(.agg #[(.int .i64 hF), (.slice e shG.length f)])]) Try.func36 rfl rfl rfl ?_
 refine Zh fun K1 H1 => ?_
 refine Zc (Zl rfl rfl ?_)
 refine Xm rfl fun m W2 j C2 r => ?_
 have s := C2.size
 have E := E.trans C2
 have t := j.lt
 replace j : Blk W2 m 57 [(.int .i64 hF), (.slice e shG.length f)] := j
 refine Za rfl rfl (Zf rfl) (Ze (Zb (H1 _ _ ?_)))
 refine Zh fun K3 H3 => ?_
 refine Zh fun K4 H4 => ?_
 refine Zc (Za rfl rfl (Zi j.at_ agg57 sz57 rfl) (Zl rfl rfl ?_))
 have F5 := a.ch0 C2
 have F6 := b.ch0 C2
 refine Step.call (Zm (xs := [.tmp 3]) fk33 rfl) (Zaj _ F5 F6 ) fun u W7 n => ?_
 obtain ⟨rfl, C7⟩ := n
 have x := C7.size
 have E := E.trans C7
 refine Za rfl rfl (Xp rfl) (Ze (Zb (H4 _ _ ?_)))
 refine Zz rfl (fun c => ?_) (fun c => ?_)
 ·have o := c
  have c := bf_t (Qj c)
  first | have p := c.2 | skip
  refine Zh fun K9 H9 => ?_
  refine Zc (Za rfl rfl (Zf rfl) (Ze (Zb (H9 _ _ ?_))))
  refine Zv (Zt ?_)
  exact Zj [_] ⟨rfl, trivial⟩ ⟨congrArg (Value.int .i64) (by first | exact lv_n c | (rw [g]; exact lv_y c)), E⟩
 have o := c
 have c := bt_t (Qk c)
 first | have p := c.2 | skip
 refine Yf ?_
 refine Zb (H3 _ _ ?_)
 refine Zh fun y q => ?_
 refine Zc (Za rfl rfl (Zd fa57_0 rfl) ?_)
 have l := j.ch0 C7
 refine Za rfl rfl (Zp l.at_ agg3 rfl rfl) (Za rfl rfl (Zd fa57_1 rfl) (Za rfl rfl (Zp l.at_ agg55 rfl rfl) (Za rfl rfl (Yr (by rw [el55]; rfl) rfl) (Za rfl rfl (Xc om rfl rfl) (Za rfl rfl (Xe om rfl rfl) (Za rfl rfl (Zf rfl) (Ze ?_)))))))
 refine Zb (q _ _ ?_)
 refine Zv ?_
 exact Zj [_] ⟨rfl, trivial⟩ ⟨congrArg (Value.int .i64) (by first | exact lv_n c | (rw [g]; exact lv_y c)), E⟩

/-- impl.copyHistory -/
theorem Zby {w : World} (hF : Int) {LL_shG aT : Nat} {ah : Value} {shG : List Gv} (C : Ls Gv.cs 2 w LL_shG aT ah shG) {LR_hG BB_hG : Nat} {hG : List GD} (J : RdG w LR_hG BB_hG shG hG) (hb : hG.length + Zau hG ≤ 4194304) :
 Ctr Try.prog 74 #[(.agg #[(.int .i64 hF), ah])] w (fun v w' => ∃ (ax : Value) (ai : List Gv), v = .agg #[.int .i64 hF, ax] ∧ Ol Gv.cs 36 2 w' ax ai ∧ Lo w.heap.size ax ∧ OdG 3 129 w' w.heap.size w'.heap.size ai (hG) ∧ SepH ax ai ∧ Ch [] w w') := by
 obtain ⟨ab, ac, ay⟩ := C.val
 subst ay
 have bq := C.len
 have C := C.here (by decide)
 have J := J.here
 have br := J.1
 have E := Ch.refl [] w
 refine Yj (N := 25) (vs0 := [(.agg #[(.int .i64 hF), (.slice ab shG.length ac)])]) Try.func74 rfl rfl rfl ?_
 refine Zh fun K1 H1 => ?_
 refine Zc (Zl rfl rfl ?_)
 refine Xm rfl fun bX W2 bi C2 c0 => ?_
 have c1 := C2.size
 have E := E.trans C2
 have L := bi.lt
 replace bi : Blk W2 bX 57 [(.int .i64 hF), (.slice ab shG.length ac)] := bi
 refine Zl rfl rfl ?_
 refine Yd zr57 fun bj W3 bk C3 c2 => ?_
 have c3 := C3.size
 have E := E.trans C3
 have c4 := bk.lt
 replace bk : Blk W3 bj 57 [(.int .i64 0), (.slice none 0 0)] := bk
 refine Ze (Zb (H1 _ _ ?_))
 refine Zh fun K4 H4 => ?_
 refine Zc (Za rfl rfl (Zd fa57_0 rfl) ?_)
 have F5 := bi.ch0 C3
 refine Za rfl rfl (Zp F5.at_ agg3 rfl rfl) (Za rfl rfl (Ys (parts := [(0, .tmp 7)]) (cells := [(.int .i64 hF), (.slice none 0 0)]) zr57 pl57 rfl rfl) (Zl rfl rfl ?_))
 refine Yd zr57 fun H W6 bm C6 c5 => ?_
 have c6 := C6.size
 have E := E.trans C6
 have c7 := bm.lt
 replace bm : Blk W6 H 57 [(.int .i64 0), (.slice none 0 0)] := bm
 refine Zl rfl rfl ?_
 refine Zk (off := 0) 2 bm sz57 rfl (us := [(.int .i64 hF), (.slice none 0 0)]) rfl rfl rfl rfl fun W7 aU C7 => ?_
 have c8 := C7.size
 have E := E.step C7 (lS om)
 replace aU : Blk W7 H 57 [(.int .i64 hF), (.slice none 0 0)] := aU
 refine Ze (Zb (H4 _ _ ?_))
 refine Zh fun K9 H9 => ?_
 refine Zh fun c9 bY => ?_
 refine Zc (Za rfl rfl (Zd fa57_1 rfl) ?_)
 have bZ := (F5.ch0 C6).ch C7 (nS om)
 refine Za rfl rfl (Zp bZ.at_ agg55 rfl rfl) (Za rfl rfl (Yr (by rw [el55]; rfl) rfl) (Za rfl rfl (Zg rfl) (Ze (Zb (bY _ _ ?_)))))
 refine Yn ?_
 have aV : Ol Gv.cs 36 2 W7 (.slice none 0 0) (([] : List Gv)) := by
  have hx := Ol.nil (cs := Gv.cs) (e := 36) (k := 2) W7
  exact hx
 have b0 := (bk.ch0 C6).ch C7 (nS om)
 refine Ql (σ := Nat × List Gv × Value) (fun ⟨k, vs, kv⟩ => [(2, (.pointer (some ⟨bj, 0, none⟩))), (3, (.pointer (some ⟨H, 0, none⟩))), (10, (.slice ab shG.length ac)), (11, (.int .i64 ((shG.length : Nat) : Int))), (12, (.int .i64 ((k : Nat) : Int)))]) (fun ⟨k, vs, kv⟩ wx => Ch [] w wx ∧ W7.heap.size ≤ wx.heap.size ∧ (k ≤ hG.length) ∧ (vs.length = k) ∧ Blk wx bj 57 [(.int .i64 0), (.slice none 0 0)] ∧ Ol Gv.cs 36 2 wx kv vs ∧ Lo W7.heap.size kv ∧ OdG 3 129 wx W7.heap.size wx.heap.size vs (hG.take k) ∧ Blk wx H 57 [(.int .i64 hF), kv] ∧ (H ∉ bl kv) ∧ (SepH kv vs)) (fun ⟨k, vs, kv⟩ => hG.length - k) (0, ([] : List Gv), (.slice none 0 0)) (sC4 rfl rfl rfl rfl (sC1 rfl (Sub.nil _))) ⟨E, (Nat.le_refl _), om, rfl, b0, aV, (Lo.nil _), OdG.nil, aU, (fun hm => by cases hm), (fun u hu => by cases hu)⟩ ?_
 rintro ⟨k, vs, kv⟩ bL ⟨E, b1, da, hvl, P, D, n, od, ae, q, t⟩
 have aW := E
 have bM := aW.size
 have bs := P.lt
 obtain ⟨Akv, Ckv, rfl, lkv, hikv⟩ := D.opn
 refine Zh fun db b2 => ?_
 refine Zc (Za rfl rfl (Qw rfl rfl) (Ze (Zb (b2 _ _ ?_))))
 refine Zh fun dc b3 => ?_
 refine Zz rfl (fun ad => ?_) (fun ad => ?_)
 ·have bu := ad
  have ad := Yt ad
  refine Yf ?_
  refine Zb (b3 _ _ ?_)
  refine Zh fun dd bv => ?_
  refine Yn ?_
  refine Zh fun de b4 => ?_
  refine Zc (Zl rfl rfl ?_)
  have b5 := C.ch0 aW
  refine (Qm b5 Gv.len el55 sz36 rfl rfl rfl om fun b6 bw a7 bz => ?_)
  have b7 := J.ch0 aW
  obtain ⟨a, F, I, ag⟩ := b7.get a7
  obtain ⟨⟨aX, b8, aY⟩, ⟨aZ, b9, a0⟩⟩ := bw
  obtain rfl := I.eqn
  obtain rfl := ag.eqn
  have ca := I.len
  have cb := ag.len
  replace I : Ls ics 1 bL LR_hG w.heap.size (.slice aX a.V.length aY) a.V := I
  replace ag : Ls GEdge.cs 4 bL LR_hG w.heap.size (.slice aZ a.E.length a0) a.E := ag
  refine Za rfl rfl (Zi bz agg36 sz36 rfl) (Zl rfl rfl ?_)
  refine Yd zr36 fun bN cc bn M df => ?_
  have cd := M.size
  have E := E.trans M
  have dg := bn.lt
  replace bn : Blk cc bN 36 [(.slice none 0 0), (.slice none 0 0)] := bn
  refine Zl rfl rfl ?_
  refine Zk (off := 0) 2 bn sz36 rfl (us := [(.slice aX a.V.length aY), (.slice aZ a.E.length a0)]) rfl rfl rfl rfl fun ce aj O => ?_
  have cf := O.size
  have E := E.step O (lS om)
  replace aj : Blk ce bN 36 [(.slice aX a.V.length aY), (.slice aZ a.E.length a0)] := aj
  refine Ze (Zb (b4 _ _ ?_))
  refine Yv ((bl (.slice Akv (vs).length Ckv)) ++ [H]) 8 mixed rfl fun Q K => ?_
  have cg := K.size
  have E := E.trans K
  refine dV 0 rfl rfl rfl (fun _ => Zd fa57_1 rfl) ?_
  have ci := aj.ch0 K
  refine dT 2 rfl rfl rfl (Ye ci.at_ (fun i hm => by rcases List.mem_append.1 hm with hm | hm; (have y := n _ hm; have G := hikv _ hm; omega); (have y := List.mem_singleton.1 hm; omega)) agg36 sz36 rfl ?_)
  refine Xd 1 3 (by kernel_rfl) ?_ ?_
  ·refine Zr rfl rfl rfl ?_
   have bO := ((ae.ch0 M).ch O (nS om)).ch0 K
   refine s_v (Zp bO.at_ agg55 rfl rfl) ?_
   refine ⟨(Ch.refl _ _), ?_⟩
   refine dO 3 (Zr rfl rfl rfl ?_)
   have cj := ((I.ch0 M).ch O (oS om)).ch0 K
   have ck := ((ag.ch0 M).ch O (oS om)).ch0 K
   refine Step.call (Zm (xs := [.tmp 18]) fk91 rfl) (Xv cj ck (by have a1 := Zdi F; omega)) fun bA cl a2 => ?_
   obtain ⟨az, aA, rfl, r, d, s, f, o, a3⟩ := a2
   have cm := a3.size
   have E := E.trans a3
   obtain ⟨h, j, rfl, ak, b⟩ := r.opn
   obtain ⟨l, m, rfl, al, c⟩ := s.opn
   have aE : Ch ((bl (.slice Akv (vs).length Ckv)) ++ [H]) Q cl := ((Ch.refl _ _).trans a3.of_nil)
   refine ⟨aE, ?_⟩
   refine dO 4 (Zr rfl rfl rfl ?_)
   refine Zq (cs := Gv.cs) (parts := [(0, .tmp 19)]) (⟨⟨none, 0, 0⟩, ⟨none, 0, 0⟩⟩ : Gv) [(⟨(⟨h, (a.V).length, j⟩ : Sv), (⟨l, (a.E).length, m⟩ : Sv)⟩ : Gv)] el55 sz36 zr36 Gv.len (by decide) rfl rfl rfl (by decide) (by decide) rfl fun a8 bB R B aB => ?_
   have cn := aB.size
   have E := E.trans aB
   obtain ⟨S, T, rfl, aF, am⟩ := R.opn
   have bP := r.ch0 aB
   have bQ := s.ch0 aB
   have a9 : OdG 3 129 bB Q.heap.size bB.heap.size ([(⟨(⟨h, (a.V).length, j⟩ : Sv), (⟨l, (a.E).length, m⟩ : Sv)⟩ : Gv)]) ([(⟨a.V, a.E⟩ : GD)]) := OdG.snoc (hi := Q.heap.size) (vs := []) (xs := []) OdG.nil bP bQ (Lo.down d om) (Lo.down f om) (fun g hg => by have y := b g hg; omega) (fun g hg => by have y := c g hg; omega) (fun g hm hg => by exact o _ hm hg) om om
   have aG : SepH (.slice S ([(⟨(⟨h, (a.V).length, j⟩ : Sv), (⟨l, (a.E).length, m⟩ : Sv)⟩ : Gv)]).length T) [(⟨(⟨h, (a.V).length, j⟩ : Sv), (⟨l, (a.E).length, m⟩ : Sv)⟩ : Gv)] := fun u hu => by rw [List.mem_singleton.1 hu]; exact ⟨fun g hg hm => by have y := b _ hg; have G := B _ hm; omega, fun g hg hm => by have y := c _ hg; have G := B _ hm; omega⟩
   have aH : Ch ((bl (.slice Akv (vs).length Ckv)) ++ [H]) Q bB := (aE.trans aB.of_nil)
   refine ⟨aH, ?_⟩
   refine dO 5 (Zr rfl rfl rfl ?_)
   have co := ((((D.ch0 M).ch O (dS n hikv om)).ch0 K).ch0 a3).ch0 aB
   refine Yg (cs := Gv.cs) el55 sz36 by36 zr36 rfl (by decide) Gv.one co R.ls rfl rfl (by simp only [List.length_singleton]; omega) (by simp only [List.length_singleton]; omega) n om fun ba cp U X p aI => ?_
   have cq := aI.size
   have E := E.step aI (fun i hi => .inl (by have y := n _ hi; omega))
   obtain ⟨z, A, rfl, aJ, an⟩ := U.opn
   have aK : Ch ((bl (.slice Akv (vs).length Ckv)) ++ [H]) Q cp := (aH.step aI (fun i hm => by exact .inr (List.mem_append_left _ hm)))
   refine ⟨aK, ?_⟩
   refine dV 6 rfl rfl rfl (fun _ => Zd fa57_1 rfl) (dO 7 (Zr rfl rfl rfl ?_))
   have cr := ((bO.ch0 a3).ch0 aB).ch aI (fun hm => by exact q (by first | exact hm | exact Y ▸ hm))
   refine Zy (off := 1) cr sz55 rfl rfl rfl rfl fun bC ao aL => ?_
   have ct := aL.size
   have E := E.step aL (lS om)
   replace ao : Blk bC H 57 [(.int .i64 hF), (.slice z ((vs ++ [(⟨(⟨h, (a.V).length, j⟩ : Sv), (⟨l, (a.E).length, m⟩ : Sv)⟩ : Gv)])).length A)] := ao
   have bb : Ch ((bl (.slice Akv (vs).length Ckv)) ++ [H]) Q bC := (aK.step aL (fun i hm => by have Y := List.mem_singleton.1 hm; exact .inr (by rw [Y]; exact (List.mem_append_right _ (List.mem_singleton.2 rfl)))))
   refine ⟨bb, ?_⟩
   refine Zw (by kernel_rfl) ?_
   refine Yc (Zb (bv _ _ (Zc (Za rfl rfl (Xc om rfl rfl) (Za rfl rfl (Zg rfl) (Ze ?_))))))
   have cu := U.ch aL (fun g hg hm => by have Y := List.mem_singleton.1 hm; rcases p with ea | ea; (rw [ea] at hg; exact q (by first | exact hg | exact Y ▸ hg)); (rw [ea] at hg; have L := List.mem_singleton.1 hg; omega))
   have a4 : Ol Gv.cs 36 2 bC (.slice z ((vs ++ [(⟨(⟨h, (a.V).length, j⟩ : Sv), (⟨l, (a.E).length, m⟩ : Sv)⟩ : Gv)])).length A) ((vs ++ [(⟨(⟨h, (a.V).length, j⟩ : Sv), (⟨l, (a.E).length, m⟩ : Sv)⟩ : Gv)])) := by
    have hx := cu
    exact hx
   have bD := ((((((od.ch0 M).ch O (oS om)).ch0 K).ch0 a3).ch0 aB).chH aI t).ch aL (oS om)
   have cv := (bP.ch aI (fun g hg hm => by have y := n _ hm; have G := hikv _ hm; have Z := d _ hg; have aa := b _ hg; omega)).ch aL (dS d b om)
   have cw := (bQ.ch aI (fun g hg hm => by have y := n _ hm; have G := hikv _ hm; have Z := f _ hg; have aa := c _ hg; omega)).ch aL (dS f c om)
   have cx := ((((((P.ch0 M).ch O (nS om)).ch0 K).ch0 a3).ch0 aB).ch aI (fun hm => by have y := n _ hm; have G := hikv _ hm; omega)).ch aL (nS om)
   exact Zb (Exists.intro ((k + 1), (vs ++ [(⟨(⟨h, (a.V).length, j⟩ : Sv), (⟨l, (a.E).length, m⟩ : Sv)⟩ : Gv)]), (.slice z ((vs ++ [(⟨(⟨h, (a.V).length, j⟩ : Sv), (⟨l, (a.E).length, m⟩ : Sv)⟩ : Gv)])).length A)) ⟨⟨E, om, om, (by simp [hvl]), cx, a4, (Lo.down X om), (by rw [Zbj F]; exact OdG.snoc bD (x := a) cv cw (Lo.down d om) (Lo.down f om) (fun g hg => by have y := b g hg; omega) (fun g hg => by have y := c g hg; omega) (fun g hm hg => by exact o _ hm hg) om om), ao, (fun hm => by rcases p with ea | ea; (rw [ea] at hm; exact q (by first | exact hm | exact Y ▸ hm)); (rw [ea] at hm; have L := List.mem_singleton.1 hm; omega)), (fun u hu => ⟨fun g hg hm => by rcases List.mem_append.1 hu with hu | hu; (rcases p with ea | ea; (rw [ea] at hm; exact (t _ hu).1 _ hg hm); (rw [ea] at hm; have L := List.mem_singleton.1 hm; have a1 := (bD.rng hu).1 _ hg; omega)); (rw [List.mem_singleton.1 hu] at hg; rcases p with ea | ea; (rw [ea] at hm; have y := n _ hm; have G := hikv _ hm; have Z := d _ hg; have aa := b _ hg; omega); (rw [ea] at hm; have L := List.mem_singleton.1 hm; have Z := d _ hg; have aa := b _ hg; omega)), fun g hg hm => by rcases List.mem_append.1 hu with hu | hu; (rcases p with ea | ea; (rw [ea] at hm; exact (t _ hu).2 _ hg hm); (rw [ea] at hm; have L := List.mem_singleton.1 hm; have a1 := (bD.rng hu).2 _ hg; omega)); (rw [List.mem_singleton.1 hu] at hg; rcases p with ea | ea; (rw [ea] at hm; have y := n _ hm; have G := hikv _ hm; have Z := f _ hg; have aa := c _ hg; omega); (rw [ea] at hm; have L := List.mem_singleton.1 hm; have Z := f _ hg; have aa := c _ hg; omega))⟩)⟩, sC4 rfl rfl rfl rfl (sC1 rfl (Sub.nil _)), (by first | omega | (dsimp only; omega))⟩)
  refine Zr rfl rfl rfl ?_
  have cy := ((I.ch0 M).ch O (oS om)).ch0 K
  have cz := ((ag.ch0 M).ch O (oS om)).ch0 K
  refine Step.call (Zm (xs := [.tmp 18]) fk91 rfl) (Xv cy cz (by have a1 := Zdi F; omega)) fun bA cA a2 => ?_
  obtain ⟨az, aA, rfl, r, d, s, f, o, ap⟩ := a2
  have cB := ap.size
  have E := E.trans ap
  obtain ⟨h, j, rfl, ak, b⟩ := r.opn
  obtain ⟨l, m, rfl, al, c⟩ := s.opn
  have af : Ch ((bl (.slice Akv (vs).length Ckv)) ++ [H]) Q cA := ((Ch.refl _ _).trans ap.of_nil)
  refine ⟨af, ?_⟩
  refine Xd 1 4 (by kernel_rfl) ?_ ?_
  ·refine Zr rfl rfl rfl ?_
   have bR := (((ae.ch0 M).ch O (nS om)).ch0 K).ch0 ap
   refine s_v (Zp bR.at_ agg55 rfl rfl) ?_
   refine ⟨af, ?_⟩
   refine dO 4 (Zr rfl rfl rfl ?_)
   refine Zq (cs := Gv.cs) (parts := [(0, .tmp 19)]) (⟨⟨none, 0, 0⟩, ⟨none, 0, 0⟩⟩ : Gv) [(⟨(⟨h, (a.V).length, j⟩ : Sv), (⟨l, (a.E).length, m⟩ : Sv)⟩ : Gv)] el55 sz36 zr36 Gv.len (by decide) rfl rfl rfl (by decide) (by decide) rfl fun a8 bF R B aC => ?_
   have cC := aC.size
   have E := E.trans aC
   obtain ⟨S, T, rfl, aF, am⟩ := R.opn
   have bS := r.ch0 aC
   have bT := s.ch0 aC
   have a9 : OdG 3 129 bF Q.heap.size bF.heap.size ([(⟨(⟨h, (a.V).length, j⟩ : Sv), (⟨l, (a.E).length, m⟩ : Sv)⟩ : Gv)]) ([(⟨a.V, a.E⟩ : GD)]) := OdG.snoc (hi := Q.heap.size) (vs := []) (xs := []) OdG.nil bS bT (Lo.down d om) (Lo.down f om) (fun g hg => by have y := b g hg; omega) (fun g hg => by have y := c g hg; omega) (fun g hm hg => by exact o _ hm hg) om om
   have aG : SepH (.slice S ([(⟨(⟨h, (a.V).length, j⟩ : Sv), (⟨l, (a.E).length, m⟩ : Sv)⟩ : Gv)]).length T) [(⟨(⟨h, (a.V).length, j⟩ : Sv), (⟨l, (a.E).length, m⟩ : Sv)⟩ : Gv)] := fun u hu => by rw [List.mem_singleton.1 hu]; exact ⟨fun g hg hm => by have y := b _ hg; have G := B _ hm; omega, fun g hg hm => by have y := c _ hg; have G := B _ hm; omega⟩
   have aM : Ch ((bl (.slice Akv (vs).length Ckv)) ++ [H]) Q bF := (af.trans aC.of_nil)
   refine ⟨aM, ?_⟩
   refine dO 5 (Zr rfl rfl rfl ?_)
   have cD := ((((D.ch0 M).ch O (dS n hikv om)).ch0 K).ch0 ap).ch0 aC
   refine Yg (cs := Gv.cs) el55 sz36 by36 zr36 rfl (by decide) Gv.one cD R.ls rfl rfl (by simp only [List.length_singleton]; omega) (by simp only [List.length_singleton]; omega) n om fun ba cE U X p aN => ?_
   have cF := aN.size
   have E := E.step aN (fun i hi => .inl (by have y := n _ hi; omega))
   obtain ⟨z, A, rfl, aJ, an⟩ := U.opn
   have aO : Ch ((bl (.slice Akv (vs).length Ckv)) ++ [H]) Q cE := (aM.step aN (fun i hm => by exact .inr (List.mem_append_left _ hm)))
   refine ⟨aO, ?_⟩
   refine dV 6 rfl rfl rfl (fun _ => Zd fa57_1 rfl) (dO 7 (Zr rfl rfl rfl ?_))
   have cG := (bR.ch0 aC).ch aN (fun hm => by exact q (by first | exact hm | exact Y ▸ hm))
   refine Zy (off := 1) cG sz55 rfl rfl rfl rfl fun bG aq aP => ?_
   have cH := aP.size
   have E := E.step aP (lS om)
   replace aq : Blk bG H 57 [(.int .i64 hF), (.slice z ((vs ++ [(⟨(⟨h, (a.V).length, j⟩ : Sv), (⟨l, (a.E).length, m⟩ : Sv)⟩ : Gv)])).length A)] := aq
   have bc : Ch ((bl (.slice Akv (vs).length Ckv)) ++ [H]) Q bG := (aO.step aP (fun i hm => by have Y := List.mem_singleton.1 hm; exact .inr (by rw [Y]; exact (List.mem_append_right _ (List.mem_singleton.2 rfl)))))
   refine ⟨bc, ?_⟩
   refine Zw (by kernel_rfl) ?_
   refine Yc (Zb (bv _ _ (Zc (Za rfl rfl (Xc om rfl rfl) (Za rfl rfl (Zg rfl) (Ze ?_))))))
   have cI := U.ch aP (fun g hg hm => by have Y := List.mem_singleton.1 hm; rcases p with ea | ea; (rw [ea] at hg; exact q (by first | exact hg | exact Y ▸ hg)); (rw [ea] at hg; have L := List.mem_singleton.1 hg; omega))
   have a5 : Ol Gv.cs 36 2 bG (.slice z ((vs ++ [(⟨(⟨h, (a.V).length, j⟩ : Sv), (⟨l, (a.E).length, m⟩ : Sv)⟩ : Gv)])).length A) ((vs ++ [(⟨(⟨h, (a.V).length, j⟩ : Sv), (⟨l, (a.E).length, m⟩ : Sv)⟩ : Gv)])) := by
    have hx := cI
    exact hx
   have bH := ((((((od.ch0 M).ch O (oS om)).ch0 K).ch0 ap).ch0 aC).chH aN t).ch aP (oS om)
   have cJ := (bS.ch aN (fun g hg hm => by have y := n _ hm; have G := hikv _ hm; have Z := d _ hg; have aa := b _ hg; omega)).ch aP (dS d b om)
   have cK := (bT.ch aN (fun g hg hm => by have y := n _ hm; have G := hikv _ hm; have Z := f _ hg; have aa := c _ hg; omega)).ch aP (dS f c om)
   have cL := ((((((P.ch0 M).ch O (nS om)).ch0 K).ch0 ap).ch0 aC).ch aN (fun hm => by have y := n _ hm; have G := hikv _ hm; omega)).ch aP (nS om)
   exact Zb (Exists.intro ((k + 1), (vs ++ [(⟨(⟨h, (a.V).length, j⟩ : Sv), (⟨l, (a.E).length, m⟩ : Sv)⟩ : Gv)]), (.slice z ((vs ++ [(⟨(⟨h, (a.V).length, j⟩ : Sv), (⟨l, (a.E).length, m⟩ : Sv)⟩ : Gv)])).length A)) ⟨⟨E, om, om, (by simp [hvl]), cL, a5, (Lo.down X om), (by rw [Zbj F]; exact OdG.snoc bH (x := a) cJ cK (Lo.down d om) (Lo.down f om) (fun g hg => by have y := b g hg; omega) (fun g hg => by have y := c g hg; omega) (fun g hm hg => by exact o _ hm hg) om om), aq, (fun hm => by rcases p with ea | ea; (rw [ea] at hm; exact q (by first | exact hm | exact Y ▸ hm)); (rw [ea] at hm; have L := List.mem_singleton.1 hm; omega)), (fun u hu => ⟨fun g hg hm => by rcases List.mem_append.1 hu with hu | hu; (rcases p with ea | ea; (rw [ea] at hm; exact (t _ hu).1 _ hg hm); (rw [ea] at hm; have L := List.mem_singleton.1 hm; have a1 := (bH.rng hu).1 _ hg; omega)); (rw [List.mem_singleton.1 hu] at hg; rcases p with ea | ea; (rw [ea] at hm; have y := n _ hm; have G := hikv _ hm; have Z := d _ hg; have aa := b _ hg; omega); (rw [ea] at hm; have L := List.mem_singleton.1 hm; have Z := d _ hg; have aa := b _ hg; omega)), fun g hg hm => by rcases List.mem_append.1 hu with hu | hu; (rcases p with ea | ea; (rw [ea] at hm; exact (t _ hu).2 _ hg hm); (rw [ea] at hm; have L := List.mem_singleton.1 hm; have a1 := (bH.rng hu).2 _ hg; omega)); (rw [List.mem_singleton.1 hu] at hg; rcases p with ea | ea; (rw [ea] at hm; have y := n _ hm; have G := hikv _ hm; have Z := f _ hg; have aa := c _ hg; omega); (rw [ea] at hm; have L := List.mem_singleton.1 hm; have Z := f _ hg; have aa := c _ hg; omega))⟩)⟩, sC4 rfl rfl rfl rfl (sC1 rfl (Sub.nil _)), (by first | omega | (dsimp only; omega))⟩)
  refine Zr rfl rfl rfl ?_
  refine Zq (cs := Gv.cs) (parts := [(0, .tmp 19)]) (⟨⟨none, 0, 0⟩, ⟨none, 0, 0⟩⟩ : Gv) [(⟨(⟨h, (a.V).length, j⟩ : Sv), (⟨l, (a.E).length, m⟩ : Sv)⟩ : Gv)] el55 sz36 zr36 Gv.len (by decide) rfl rfl rfl (by decide) (by decide) rfl fun a8 bI R B aD => ?_
  have cM := aD.size
  have E := E.trans aD
  obtain ⟨S, T, rfl, aF, am⟩ := R.opn
  have bU := r.ch0 aD
  have bV := s.ch0 aD
  have a9 : OdG 3 129 bI Q.heap.size bI.heap.size ([(⟨(⟨h, (a.V).length, j⟩ : Sv), (⟨l, (a.E).length, m⟩ : Sv)⟩ : Gv)]) ([(⟨a.V, a.E⟩ : GD)]) := OdG.snoc (hi := Q.heap.size) (vs := []) (xs := []) OdG.nil bU bV (Lo.down d om) (Lo.down f om) (fun g hg => by have y := b g hg; omega) (fun g hg => by have y := c g hg; omega) (fun g hm hg => by exact o _ hm hg) om om
  have aG : SepH (.slice S ([(⟨(⟨h, (a.V).length, j⟩ : Sv), (⟨l, (a.E).length, m⟩ : Sv)⟩ : Gv)]).length T) [(⟨(⟨h, (a.V).length, j⟩ : Sv), (⟨l, (a.E).length, m⟩ : Sv)⟩ : Gv)] := fun u hu => by rw [List.mem_singleton.1 hu]; exact ⟨fun g hg hm => by have y := b _ hg; have G := B _ hm; omega, fun g hg hm => by have y := c _ hg; have G := B _ hm; omega⟩
  have au : Ch ((bl (.slice Akv (vs).length Ckv)) ++ [H]) Q bI := (af.trans aD.of_nil)
  refine ⟨au, ?_⟩
  refine dO 1 (Zr rfl rfl rfl ?_)
  have bW := ((((ae.ch0 M).ch O (nS om)).ch0 K).ch0 ap).ch0 aD
  refine s_v (Zp bW.at_ agg55 rfl rfl) ?_
  refine ⟨au, ?_⟩
  refine dO 5 (Zr rfl rfl rfl ?_)
  have cN := ((((D.ch0 M).ch O (dS n hikv om)).ch0 K).ch0 ap).ch0 aD
  refine Yg (cs := Gv.cs) el55 sz36 by36 zr36 rfl (by decide) Gv.one cN R.ls rfl rfl (by simp only [List.length_singleton]; omega) (by simp only [List.length_singleton]; omega) n om fun ba cO U X p aQ => ?_
  have cP := aQ.size
  have E := E.step aQ (fun i hi => .inl (by have y := n _ hi; omega))
  obtain ⟨z, A, rfl, aJ, an⟩ := U.opn
  have aR : Ch ((bl (.slice Akv (vs).length Ckv)) ++ [H]) Q cO := (au.step aQ (fun i hm => by exact .inr (List.mem_append_left _ hm)))
  refine ⟨aR, ?_⟩
  refine dV 6 rfl rfl rfl (fun _ => Zd fa57_1 rfl) (dO 7 (Zr rfl rfl rfl ?_))
  have cQ := bW.ch aQ (fun hm => by exact q (by first | exact hm | exact Y ▸ hm))
  refine Zy (off := 1) cQ sz55 rfl rfl rfl rfl fun bJ av aS => ?_
  have cR := aS.size
  have E := E.step aS (lS om)
  replace av : Blk bJ H 57 [(.int .i64 hF), (.slice z ((vs ++ [(⟨(⟨h, (a.V).length, j⟩ : Sv), (⟨l, (a.E).length, m⟩ : Sv)⟩ : Gv)])).length A)] := av
  have be : Ch ((bl (.slice Akv (vs).length Ckv)) ++ [H]) Q bJ := (aR.step aS (fun i hm => by have Y := List.mem_singleton.1 hm; exact .inr (by rw [Y]; exact (List.mem_append_right _ (List.mem_singleton.2 rfl)))))
  refine ⟨be, ?_⟩
  refine Zw (by kernel_rfl) ?_
  refine Yc (Zb (bv _ _ (Zc (Za rfl rfl (Xc om rfl rfl) (Za rfl rfl (Zg rfl) (Ze ?_))))))
  have cS := U.ch aS (fun g hg hm => by have Y := List.mem_singleton.1 hm; rcases p with ea | ea; (rw [ea] at hg; exact q (by first | exact hg | exact Y ▸ hg)); (rw [ea] at hg; have L := List.mem_singleton.1 hg; omega))
  have a6 : Ol Gv.cs 36 2 bJ (.slice z ((vs ++ [(⟨(⟨h, (a.V).length, j⟩ : Sv), (⟨l, (a.E).length, m⟩ : Sv)⟩ : Gv)])).length A) ((vs ++ [(⟨(⟨h, (a.V).length, j⟩ : Sv), (⟨l, (a.E).length, m⟩ : Sv)⟩ : Gv)])) := by
   have hx := cS
   exact hx
  have bK := ((((((od.ch0 M).ch O (oS om)).ch0 K).ch0 ap).ch0 aD).chH aQ t).ch aS (oS om)
  have cT := (bU.ch aQ (fun g hg hm => by have y := n _ hm; have G := hikv _ hm; have Z := d _ hg; have aa := b _ hg; omega)).ch aS (dS d b om)
  have cU := (bV.ch aQ (fun g hg hm => by have y := n _ hm; have G := hikv _ hm; have Z := f _ hg; have aa := c _ hg; omega)).ch aS (dS f c om)
  have cV := ((((((P.ch0 M).ch O (nS om)).ch0 K).ch0 ap).ch0 aD).ch aQ (fun hm => by have y := n _ hm; have G := hikv _ hm; omega)).ch aS (nS om)
  exact Zb (Exists.intro ((k + 1), (vs ++ [(⟨(⟨h, (a.V).length, j⟩ : Sv), (⟨l, (a.E).length, m⟩ : Sv)⟩ : Gv)]), (.slice z ((vs ++ [(⟨(⟨h, (a.V).length, j⟩ : Sv), (⟨l, (a.E).length, m⟩ : Sv)⟩ : Gv)])).length A)) ⟨⟨E, om, om, (by simp [hvl]), cV, a6, (Lo.down X om), (by rw [Zbj F]; exact OdG.snoc bK (x := a) cT cU (Lo.down d om) (Lo.down f om) (fun g hg => by have y := b g hg; omega) (fun g hg => by have y := c g hg; omega) (fun g hm hg => by exact o _ hm hg) om om), av, (fun hm => by rcases p with ea | ea; (rw [ea] at hm; exact q (by first | exact hm | exact Y ▸ hm)); (rw [ea] at hm; have L := List.mem_singleton.1 hm; omega)), (fun u hu => ⟨fun g hg hm => by rcases List.mem_append.1 hu with hu | hu; (rcases p with ea | ea; (rw [ea] at hm; exact (t _ hu).1 _ hg hm); (rw [ea] at hm; have L := List.mem_singleton.1 hm; have a1 := (bK.rng hu).1 _ hg; omega)); (rw [List.mem_singleton.1 hu] at hg; rcases p with ea | ea; (rw [ea] at hm; have y := n _ hm; have G := hikv _ hm; have Z := d _ hg; have aa := b _ hg; omega); (rw [ea] at hm; have L := List.mem_singleton.1 hm; have Z := d _ hg; have aa := b _ hg; omega)), fun g hg hm => by rcases List.mem_append.1 hu with hu | hu; (rcases p with ea | ea; (rw [ea] at hm; exact (t _ hu).2 _ hg hm); (rw [ea] at hm; have L := List.mem_singleton.1 hm; have a1 := (bK.rng hu).2 _ hg; omega)); (rw [List.mem_singleton.1 hu] at hg; rcases p with ea | ea; (rw [ea] at hm; have y := n _ hm; have G := hikv _ hm; have Z := f _ hg; have aa := c _ hg; omega); (rw [ea] at hm; have L := List.mem_singleton.1 hm; have Z := f _ hg; have aa := c _ hg; omega))⟩)⟩, sC4 rfl rfl rfl rfl (sC1 rfl (Sub.nil _)), (by first | omega | (dsimp only; omega))⟩)
 have bu := ad
 have ad := Yu ad
 refine Xx (Yh (Yh (Xg ?_)))
 refine Zb (H9 _ _ ?_)
 refine Zh fun dh cW => ?_
 refine Zc (Za rfl rfl (Zi ae.at_ agg57 sz57 rfl) (Zl rfl rfl ?_))
 refine Zk (off := 0) 2 P sz57 rfl (us := [(.int .i64 hF), (.slice Akv (vs).length Ckv)]) rfl rfl rfl rfl fun bf aw bp => ?_
 have cX := bp.size
 have E := E.step bp (lS om)
 replace aw : Blk bf bj 57 [(.int .i64 hF), (.slice Akv (vs).length Ckv)] := aw
 refine Ze (Zb (cW _ _ ?_))
 refine Zv ?_
 have cY := D.ch bp (dS n hikv om)
 have cZ := od.ch bp (oS om)
 have bg : Ol Gv.cs 36 2 bf (.slice Akv (vs).length Ckv) vs := by
  have hx := cY
  exact hx
 have bh : OdG 3 129 bf w.heap.size bf.heap.size vs (hG) := by
  have hx := cZ.up (lo' := w.heap.size) (hi' := bf.heap.size) om om
  rwa [List.take_of_length_le om] at hx
 exact Zj [_] (Zn aw rfl agg57 sz57 trivial) ⟨(.slice Akv (vs).length Ckv), vs, (congrArg (fun zq => (Value.agg #[.int .i64 zq, (.slice Akv (vs).length Ckv)])) (by first | rfl | simp_all)), bg, (Lo.down n om), bh, t, E⟩

/-- impl.AppendBatch -/
theorem Zdv {w : World} (hF : Int) {LL_shG bH : Nat} {aM : Value} {shG : List Gv} (af : Ls Gv.cs 2 w LL_shG bH aM shG) {LR_hG BB_hG : Nat} {hG : List GD} (am : RdG w LR_hG BB_hG shG hG) {LL_bC bW : Nat} {bw : Value} {bC : List Chg} (aj : Ls Chg.cs 5 w LL_bC bW bw bC) (hb : hG.length + Zau hG ≤ 4194304) :
 Ctr Try.prog 24 #[(.agg #[(.int .i64 hF), aM]), (.agg #[bw])] w (fun v w' => ∃ (bi : Value) (aN : List Gv), v = .tuple #[.agg #[.int .i64 (abF hF hG bC), bi], .bool (tt (AbOk hF hG bC))] ∧ Ol Gv.cs 36 2 w' bi aN ∧ Lo w.heap.size bi ∧ OdG 3 129 w' w.heap.size w'.heap.size aN (abG hF hG bC) ∧ SepH bi aN ∧ Ch [] w w') := by
 obtain ⟨aO, aP, bj⟩ := af.val
 subst bj
 have cF := af.len
 have af := af.here (by decide)
 have am := am.here
 have cG := am.1
 obtain ⟨bz, bA, bI⟩ := aj.val
 subst bI
 have dA := aj.len
 have aj := aj.here (by decide)
 have E := Ch.refl [] w
 refine Yj (N := 56) (vs0 := [(.agg #[(.int .i64 hF), (.slice aO shG.length aP)]), (.agg #[(.slice bz bC.length bA)])]) Try.func24 rfl rfl rfl ?_
 refine Zh fun K1 H1 => ?_
 refine Zc (Zl rfl rfl ?_)
 refine Xm rfl fun d5 W2 cw C2 ft => ?_
 have fu := C2.size
 have E := E.trans C2
 have fv := cw.lt
 replace cw : Blk W2 d5 57 [(.int .i64 hF), (.slice aO shG.length aP)] := cw
 refine Zl rfl rfl ?_
 refine Xm rfl fun d6 W3 cx C3 fw => ?_
 have fx := C3.size
 have E := E.trans C3
 have fy := cx.lt
 replace cx : Blk W3 d6 63 [(.slice bz bC.length bA)] := cx
 refine Zl rfl rfl ?_
 refine Yd zr57 fun bk W4 aQ C4 fz => ?_
 have fA := C4.size
 have E := E.trans C4
 have fB := aQ.lt
 replace aQ : Blk W4 bk 57 [(.int .i64 0), (.slice none 0 0)] := aQ
 refine Za rfl rfl (Zf rfl) (Ze (Zb (H1 _ _ ?_)))
 refine Zh fun K5 H5 => ?_
 refine Zc ?_
 have F6 := (cw.ch0 C3).ch0 C4
 refine Za rfl rfl (Zi F6.at_ agg57 sz57 rfl) (Zl rfl rfl ?_)
 have F7 := ((af.ch0 C2).ch0 C3).ch0 C4
 have F8 := ((am.ch0 C2).ch0 C3).ch0 C4
 refine Step.call (Zm (xs := [.tmp 10]) fk74 rfl) (Zby _ F7 F8 om) fun d7 W9 cH => ?_
 obtain ⟨cy, b, rfl, H, c, F, B, C9⟩ := cH
 have fC := C9.size
 have E := E.trans C9
 obtain ⟨q, r, rfl, bX, l⟩ := H.opn
 have d8 := F.1
 refine Zl rfl rfl ?_
 refine Yd zr57 fun ai d9 cz Z fD => ?_
 have eb := Z.size
 have E := E.trans Z
 have fE := cz.lt
 replace cz : Blk d9 ai 57 [(.int .i64 0), (.slice none 0 0)] := cz
 refine Zl rfl rfl ?_
 refine Zk (off := 0) 2 cz sz57 rfl (us := [(.int .i64 hF), (.slice q (b).length r)]) rfl rfl rfl rfl fun ec ad aa => ?_
 have ed := aa.size
 have E := E.step aa (lS om)
 replace ad : Blk ec ai 57 [(.int .i64 hF), (.slice q (b).length r)] := ad
 refine Ze (Zb (H5 _ _ ?_))
 refine Zh fun fF ee => ?_
 refine Zc ?_
 have dB := ((F6.ch0 C9).ch0 Z).ch aa (nS om)
 refine Za rfl rfl (Zi dB.at_ agg57 sz57 rfl) (Zl rfl rfl ?_)
 have dC := ((F7.ch0 C9).ch0 Z).ch aa (oS om)
 have dD := ((F8.ch0 C9).ch0 Z).ch aa (oS om)
 refine Step.call (Zm (xs := [.tmp 12]) fk36 rfl) (Xa _ dC dD ) fun ef fG cI => ?_
 obtain ⟨rfl, Q⟩ := cI
 have eg := Q.size
 have E := E.trans Q
 refine Za rfl rfl (Zf rfl) (Ze (Zb (ee _ _ ?_)))
 refine Zh fun fH eh => ?_
 refine Zh fun fI dE => ?_
 refine Zc (Za rfl rfl (Zg rfl) (Za rfl rfl (Qg rfl rfl) (Za rfl rfl (Zg rfl) ?_)))
 refine Yy (d := 16) rfl (fun p => ?_) (fun p => ?_)
 ·have cJ := p
  have p := Yt p
  refine Zo rfl rfl (Zo rfl rfl (Za rfl rfl (Ym rfl rfl) (Ze (Zb (dE _ _ ?_)))))
  refine Xr rfl ?_
  refine Zh fun fJ ei => ?_
  refine Zc ?_
  have ej := ad.ch0 Q
  refine Za rfl rfl (Zi ej.at_ agg57 sz57 rfl) (Zl rfl rfl ?_)
  have ek := (((aQ.ch0 C9).ch0 Z).ch aa (nS om)).ch0 Q
  refine Zk (off := 0) 2 ek sz57 rfl (us := [(.int .i64 hF), (.slice q (b).length r)]) rfl rfl rfl rfl fun bY aR cA => ?_
  have el := cA.size
  have E := E.step cA (lS om)
  replace aR : Blk bY bk 57 [(.int .i64 hF), (.slice q (b).length r)] := aR
  refine Za rfl rfl (Zf rfl) (Ze (Zb (ei _ _ ?_)))
  refine Zv (Zt ?_)
  have em := (((H.ch0 Z).ch aa (dS c l om)).ch0 Q).ch cA (dS c l om)
  have en := (((F.ch0 Z).ch aa (oS om)).ch0 Q).ch cA (oS om)
  have bZ : Ol Gv.cs 36 2 bY (.slice q (b).length r) b := by
   have hx := em
   exact hx
  have b0 : OdG 3 129 bY w.heap.size bY.heap.size b (abG hF hG bC) := by
   have hx := en.up (lo' := w.heap.size) (hi' := bY.heap.size) om om
   first | (rw [← (Yo (Qy (Qr p))).1]; exact hx) | (rw [← (Yo (Qz s)).1]; exact hx) | (rw [← (Yo (ab_a m n)).1]; exact hx) | (rw [← (Xk (Yp (Xl p) s m n) m om).1]; exact hx) | (rw [← (Xj (Yp (Xl p) s m n) m om).1]; exact hx)
  exact Zj [_, _] (Zn aR rfl agg57 sz57 ⟨rfl, trivial⟩) ⟨(.slice q (b).length r), b, ((congrArg (fun zq => (Value.tuple #[.agg #[.int .i64 zq, (.slice q (b).length r)], .bool false])) (by first | exact (Yo (Qy (Qr p))).2.1 | exact (Yo (Qz s)).2.1 | exact (Yo (ab_a m n)).2.1 | exact (Xk (Yp (Xl p) s m n) m om).2.1 | exact (Xj (Yp (Xl p) s m n) m om).2.1)).trans (congrArg (fun zq => (Value.tuple #[.agg #[.int .i64 (abF hF hG bC), (.slice q (b).length r)], .bool zq])) (by first | exact (Yo (Qy (Qr p))).2.2 | exact (Yo (Qz s)).2.2 | exact (Yo (ab_a m n)).2.2 | exact (Xk (Yp (Xl p) s m n) m om).2.2 | exact (Xj (Yp (Xl p) s m n) m om).2.2))), bZ, (Lo.down c om), b0, B, E⟩
 have cJ := p
 have p := Yu p
 have eo := (Xl p).2
 refine Za rfl rfl (Zg rfl) (Za rfl rfl (Qg rfl rfl) (Za rfl rfl (Yl rfl rfl) (Ze (Zb (dE _ _ ?_)))))
 refine Zz rfl (fun s => ?_) (fun s => ?_)
 ·have cK := s
  have s := Yt s
  refine Zh fun fK ep => ?_
  refine Zc ?_
  have er := ad.ch0 Q
  refine Za rfl rfl (Zi er.at_ agg57 sz57 rfl) (Zl rfl rfl ?_)
  have es := (((aQ.ch0 C9).ch0 Z).ch aa (nS om)).ch0 Q
  refine Zk (off := 0) 2 es sz57 rfl (us := [(.int .i64 hF), (.slice q (b).length r)]) rfl rfl rfl rfl fun b1 aS cB => ?_
  have et := cB.size
  have E := E.step cB (lS om)
  replace aS : Blk b1 bk 57 [(.int .i64 hF), (.slice q (b).length r)] := aS
  refine Za rfl rfl (Zf rfl) (Ze (Zb (ep _ _ ?_)))
  refine Zv (Zt ?_)
  have eu := (((H.ch0 Z).ch aa (dS c l om)).ch0 Q).ch cB (dS c l om)
  have ew := (((F.ch0 Z).ch aa (oS om)).ch0 Q).ch cB (oS om)
  have b2 : Ol Gv.cs 36 2 b1 (.slice q (b).length r) b := by
   have hx := eu
   exact hx
  have b3 : OdG 3 129 b1 w.heap.size b1.heap.size b (abG hF hG bC) := by
   have hx := ew.up (lo' := w.heap.size) (hi' := b1.heap.size) om om
   first | (rw [← (Yo (Qy (Qr p))).1]; exact hx) | (rw [← (Yo (Qz s)).1]; exact hx) | (rw [← (Yo (ab_a m n)).1]; exact hx) | (rw [← (Xk (Yp (Xl p) s m n) m om).1]; exact hx) | (rw [← (Xj (Yp (Xl p) s m n) m om).1]; exact hx)
  exact Zj [_, _] (Zn aS rfl agg57 sz57 ⟨rfl, trivial⟩) ⟨(.slice q (b).length r), b, ((congrArg (fun zq => (Value.tuple #[.agg #[.int .i64 zq, (.slice q (b).length r)], .bool false])) (by first | exact (Yo (Qy (Qr p))).2.1 | exact (Yo (Qz s)).2.1 | exact (Yo (ab_a m n)).2.1 | exact (Xk (Yp (Xl p) s m n) m om).2.1 | exact (Xj (Yp (Xl p) s m n) m om).2.1)).trans (congrArg (fun zq => (Value.tuple #[.agg #[.int .i64 (abF hF hG bC), (.slice q (b).length r)], .bool zq])) (by first | exact (Yo (Qy (Qr p))).2.2 | exact (Yo (Qz s)).2.2 | exact (Yo (ab_a m n)).2.2 | exact (Xk (Yp (Xl p) s m n) m om).2.2 | exact (Xj (Yp (Xl p) s m n) m om).2.2))), b2, (Lo.down c om), b3, B, E⟩
 have cK := s
 have s := Yu s
 refine Yf ?_
 refine Zb (eh _ _ ?_)
 refine Zh fun fL dF => ?_
 refine Yv [] 16 mixed rfl fun bh ae => ?_
 have ex := ae.size
 have E := E.trans ae
 refine dV 0 rfl rfl rfl (fun _ => Zd fa57_1 rfl) ?_
 have dG := (dB.ch0 Q).ch0 ae
 refine dT 1 rfl rfl rfl (Yi dG.at_ (fun i hi => absurd hi List.not_mem_nil) agg55 rfl rfl ?_)
 refine dV 2 rfl rfl rfl (fun _ => Zd fa57_1 rfl) ?_
 refine dT 3 rfl rfl rfl (Yi dG.at_ (fun i hi => absurd hi List.not_mem_nil) agg55 rfl rfl ?_)
 refine dV 4 rfl rfl rfl (fun _ => Yr (by rw [el55]; rfl) rfl) (dV 5 rfl rfl rfl (fun _ => Xe om rfl rfl) ?_)
 have ey := (dC.ch0 Q).ch0 ae
 have ez := (dD.ch0 Q).ch0 ae
 refine dT 6 rfl rfl rfl (Xh (j := (((shG.length : Nat) : Int) - 1).toNat) ey Gv.len el55 sz36 rfl rfl om om fun eA cL b4 cM => ?_)
 obtain ⟨a, aT, ak, aK⟩ := ez.get b4
 obtain ⟨⟨cN, eB, cO⟩, ⟨cP, eC, cQ⟩⟩ := cL
 obtain rfl := ak.eqn
 obtain rfl := aK.eqn
 have eD := ak.len
 have eE := aK.len
 replace ak : Ls ics 1 bh LR_hG w.heap.size (.slice cN a.V.length cO) a.V := ak
 replace aK : Ls GEdge.cs 4 bh LR_hG w.heap.size (.slice cP a.E.length cQ) a.E := aK
 have fM := Zcr (Xl p) aT
 have m : hG[hG.length - 1]? = some a := by rw [show hG.length - 1 = (((shG.length : Nat) : Int) - 1).toNat by omega]; exact aT
 refine dT 7 rfl rfl rfl (Ye cM (fun i hi => absurd hi List.not_mem_nil) agg36 sz36 rfl ?_)
 have eF := (((((cx.ch0 C4).ch0 C9).ch0 Z).ch aa (nS om)).ch0 Q).ch0 ae
 refine dT 8 rfl rfl rfl (Ye eF.at_ (fun i hi => absurd hi List.not_mem_nil) agg63 sz63 rfl ?_)
 refine Xd 9 13 (by kernel_rfl) ?_ ?_
 ·refine Zr rfl rfl rfl ?_
  have eG := (((((((aj.ch0 C2).ch0 C3).ch0 C4).ch0 C9).ch0 Z).ch aa (oS om)).ch0 Q).ch0 ae
  refine Step.call (Zm (xs := [.tmp 29, .tmp 30]) fk75 rfl) (Zci ak aK eG om) fun cR eH bJ => ?_
  obtain ⟨bm, bn, rfl, K, t, L, y, C, aL⟩ := bJ
  have eI := aL.size
  have E := E.trans aL
  obtain ⟨e, f, rfl, aU, z⟩ := K.opn
  obtain ⟨h, k, rfl, aV, A⟩ := L.opn
  have bB : Ch [] bh eH := ((Ch.refl _ _).trans aL)
  refine ⟨bB, ?_⟩
  refine dV 10 rfl rfl rfl (fun _ => Zg rfl) (dV 11 rfl rfl rfl (fun _ => Yb rfl rfl) (dV 12 rfl rfl rfl (fun _ => Yb rfl rfl) (dO 13 (Zr rfl rfl rfl ?_))))
  refine Yd zr36 fun b5 dH bp aH eJ => ?_
  have eK := aH.size
  have E := E.trans aH
  have eL := bp.lt
  replace bp : Blk dH b5 36 [(.slice none 0 0), (.slice none 0 0)] := bp
  have bD : Ch [] bh dH := (bB.trans aH)
  refine ⟨bD, ?_⟩
  refine dO 14 (Zr rfl rfl rfl ?_)
  refine Zk (off := 0) 2 bp sz36 rfl (us := [(.slice e (a.V).length f), (.slice h ((apE a.V a.E bC 6)).length k)]) rfl rfl rfl rfl fun dI aW aI => ?_
  have eM := aI.size
  have E := E.step aI (lS om)
  replace aW : Blk dI b5 36 [(.slice e (a.V).length f), (.slice h ((apE a.V a.E bC 6)).length k)] := aW
  have b6 : Ch [] bh dI := (bD.step aI (fun i hm => by have aq := List.mem_singleton.1 hm; left; omega))
  refine ⟨b6, ?_⟩
  refine dV 15 rfl rfl rfl (fun _ => Zf rfl) ?_
  refine Zw (by kernel_rfl) ?_
  refine Zb (dF _ _ ?_)
  refine Zh fun fN eN => ?_
  refine Zh fun fO eO => ?_
  refine Zc (Za rfl rfl (Zg rfl) (Za rfl rfl (Xp rfl) (Ze (Zb (eO _ _ ?_)))))
  refine Zz rfl (fun n => ?_) (fun n => ?_)
  ·have cS := n
   have n := bf_t (Qj n)
   refine Zh fun fP eP => ?_
   refine Zc ?_
   have eQ := ((((ad.ch0 Q).ch0 ae).ch0 aL).ch0 aH).ch aI (nS om)
   refine Za rfl rfl (Zi eQ.at_ agg57 sz57 rfl) (Zl rfl rfl ?_)
   have eR := (((((((aQ.ch0 C9).ch0 Z).ch aa (nS om)).ch0 Q).ch0 ae).ch0 aL).ch0 aH).ch aI (nS om)
   refine Zk (off := 0) 2 eR sz57 rfl (us := [(.int .i64 hF), (.slice q (b).length r)]) rfl rfl rfl rfl fun b7 aX cC => ?_
   have eS := cC.size
   have E := E.step cC (lS om)
   replace aX : Blk b7 bk 57 [(.int .i64 hF), (.slice q (b).length r)] := aX
   refine Za rfl rfl (Zf rfl) (Ze (Zb (eP _ _ ?_)))
   refine Zv (Zt ?_)
   have eT := (((((((H.ch0 Z).ch aa (dS c l om)).ch0 Q).ch0 ae).ch0 aL).ch0 aH).ch aI (dS c l om)).ch cC (dS c l om)
   have eU := (((((((F.ch0 Z).ch aa (oS om)).ch0 Q).ch0 ae).ch0 aL).ch0 aH).ch aI (oS om)).ch cC (oS om)
   have b8 : Ol Gv.cs 36 2 b7 (.slice q (b).length r) b := by
    have hx := eT
    exact hx
   have b9 : OdG 3 129 b7 w.heap.size b7.heap.size b (abG hF hG bC) := by
    have hx := eU.up (lo' := w.heap.size) (hi' := b7.heap.size) om om
    first | (rw [← (Yo (Qy (Qr p))).1]; exact hx) | (rw [← (Yo (Qz s)).1]; exact hx) | (rw [← (Yo (ab_a m n)).1]; exact hx) | (rw [← (Xk (Yp (Xl p) s m n) m om).1]; exact hx) | (rw [← (Xj (Yp (Xl p) s m n) m om).1]; exact hx)
   exact Zj [_, _] (Zn aX rfl agg57 sz57 ⟨rfl, trivial⟩) ⟨(.slice q (b).length r), b, ((congrArg (fun zq => (Value.tuple #[.agg #[.int .i64 zq, (.slice q (b).length r)], .bool false])) (by first | exact (Yo (Qy (Qr p))).2.1 | exact (Yo (Qz s)).2.1 | exact (Yo (ab_a m n)).2.1 | exact (Xk (Yp (Xl p) s m n) m om).2.1 | exact (Xj (Yp (Xl p) s m n) m om).2.1)).trans (congrArg (fun zq => (Value.tuple #[.agg #[.int .i64 (abF hF hG bC), (.slice q (b).length r)], .bool zq])) (by first | exact (Yo (Qy (Qr p))).2.2 | exact (Yo (Qz s)).2.2 | exact (Yo (ab_a m n)).2.2 | exact (Xk (Yp (Xl p) s m n) m om).2.2 | exact (Xj (Yp (Xl p) s m n) m om).2.2))), b8, (Lo.down c om), b9, B, E⟩
  have cS := n
  have n := bt_t (Qk n)
  refine Yf ?_
  refine Zb (eN _ _ ?_)
  refine Zh fun fQ eV => ?_
  refine Zc (Za rfl rfl (Zd fa57_1 rfl) ?_)
  have dJ := ((((ad.ch0 Q).ch0 ae).ch0 aL).ch0 aH).ch aI (nS om)
  refine Za rfl rfl (Zp dJ.at_ agg55 rfl rfl) (Za rfl rfl (Zi aW.at_ agg36 sz36 rfl) (Zl rfl rfl ?_))
  refine Zq (cs := Gv.cs) (parts := [(0, .tmp 39)]) (⟨⟨none, 0, 0⟩, ⟨none, 0, 0⟩⟩ : Gv) [(⟨(⟨e, (a.V).length, f⟩ : Sv), (⟨h, ((apE a.V a.E bC 6)).length, k⟩ : Sv)⟩ : Gv)] el55 sz36 zr36 Gv.len (by decide) rfl rfl rfl (by decide) (by decide) rfl fun cT dL aY au bq => ?_
  have eW := bq.size
  have E := E.trans bq
  obtain ⟨aZ, a0, rfl, ca, bK⟩ := aY.opn
  have dM := ((K.ch0 aH).ch aI (dS t z om)).ch0 bq
  have dN := ((L.ch0 aH).ch aI (dS y A om)).ch0 bq
  have cU : OdG 3 129 dL bh.heap.size dL.heap.size ([(⟨(⟨e, (a.V).length, f⟩ : Sv), (⟨h, ((apE a.V a.E bC 6)).length, k⟩ : Sv)⟩ : Gv)]) ([(⟨a.V, (apE a.V a.E bC 6)⟩ : GD)]) := OdG.snoc (hi := bh.heap.size) (vs := []) (xs := []) OdG.nil dM dN (Lo.down t om) (Lo.down y om) (fun g hg => by have S := z g hg; omega) (fun g hg => by have S := A g hg; omega) (fun g hm hg => by exact C _ hm hg) om om
  have cb : SepH (.slice aZ ([(⟨(⟨e, (a.V).length, f⟩ : Sv), (⟨h, ((apE a.V a.E bC 6)).length, k⟩ : Sv)⟩ : Gv)]).length a0) [(⟨(⟨e, (a.V).length, f⟩ : Sv), (⟨h, ((apE a.V a.E bC 6)).length, k⟩ : Sv)⟩ : Gv)] := fun u hu => by rw [List.mem_singleton.1 hu]; exact ⟨fun g hg hm => by have S := z _ hg; have R := au _ hm; omega, fun g hg hm => by have S := A _ hg; have R := au _ hm; omega⟩
  refine Zl rfl rfl ?_
  have eX := (((((((H.ch0 Z).ch aa (dS c l om)).ch0 Q).ch0 ae).ch0 aL).ch0 aH).ch aI (dS c l om)).ch0 bq
  refine Yg (cs := Gv.cs) el55 sz36 by36 zr36 rfl (by decide) Gv.one eX aY.ls rfl rfl (by simp only [List.length_singleton]; omega) (by simp only [List.length_singleton]; omega) c om fun cV dP ay av G bF => ?_
  have eY := bF.size
  have E := E.step bF (fun i hi => .inl (by have S := c _ hi; omega))
  obtain ⟨I, J, rfl, cc, D⟩ := ay.opn
  have cd := ((((((((F.ch0 Z).ch aa (oS om)).ch0 Q).ch0 ae).ch0 aL).ch0 aH).ch aI (oS om)).ch0 bq).chH bF B
  have cW : (b ++ [(⟨(⟨e, (a.V).length, f⟩ : Sv), (⟨h, ((apE a.V a.E bC 6)).length, k⟩ : Sv)⟩ : Gv)]).length = hG.length + 1 := by simp only [List.length_append, List.length_singleton]; omega
  have a1 : SepH (.slice I ((b ++ [(⟨(⟨e, (a.V).length, f⟩ : Sv), (⟨h, ((apE a.V a.E bC 6)).length, k⟩ : Sv)⟩ : Gv)])).length J) (b ++ [(⟨(⟨e, (a.V).length, f⟩ : Sv), (⟨h, ((apE a.V a.E bC 6)).length, k⟩ : Sv)⟩ : Gv)]) := (fun u hu => ⟨fun g hg hm => by rcases List.mem_append.1 hu with hu | hu; (rcases G with ea | ea; (rw [ea] at hm; exact (B _ hu).1 _ hg hm); (have az := D _ hm; rw [ea] at hm; have an := List.mem_singleton.1 hm; have bL := (cd.rng hu).1 _ hg; omega)); (rw [List.mem_singleton.1 hu] at hg; rcases G with ea | ea; (rw [ea] at hm; have S := c _ hm; have R := l _ hm; have ag := t _ hg; have a2 := z _ hg; omega); (have az := D _ hm; rw [ea] at hm; have an := List.mem_singleton.1 hm; have ag := t _ hg; have a2 := z _ hg; omega)), fun g hg hm => by rcases List.mem_append.1 hu with hu | hu; (rcases G with ea | ea; (rw [ea] at hm; exact (B _ hu).2 _ hg hm); (have az := D _ hm; rw [ea] at hm; have an := List.mem_singleton.1 hm; have bL := (cd.rng hu).2 _ hg; omega)); (rw [List.mem_singleton.1 hu] at hg; rcases G with ea | ea; (rw [ea] at hm; have S := c _ hm; have R := l _ hm; have ag := y _ hg; have a2 := A _ hg; omega); (have az := D _ hm; rw [ea] at hm; have an := List.mem_singleton.1 hm; have ag := y _ hg; have a2 := A _ hg; omega))⟩)
  have eZ := dM.ch bF (fun g hg hm => by have S := c _ hm; have R := l _ hm; have ag := t _ hg; have a2 := z _ hg; omega)
  have e0 := dN.ch bF (fun g hg hm => by have S := c _ hm; have R := l _ hm; have ag := y _ hg; have a2 := A _ hg; omega)
  have a3 : OdG 3 129 dP W4.heap.size dP.heap.size (b ++ [(⟨(⟨e, (a.V).length, f⟩ : Sv), (⟨h, ((apE a.V a.E bC 6)).length, k⟩ : Sv)⟩ : Gv)]) (hG ++ [(⟨a.V, (apE a.V a.E bC 6)⟩ : GD)]) := OdG.snoc cd (x := (⟨a.V, (apE a.V a.E bC 6)⟩ : GD)) eZ e0 (Lo.down t om) (Lo.down y om) (fun g hg => by have S := z g hg; omega) (fun g hg => by have S := A g hg; omega) (fun g hm hg => by exact C _ hm hg) om om
  have aA : SepH (.slice (some ⟨ai, 0, none⟩) 0 0) (b ++ [(⟨(⟨e, (a.V).length, f⟩ : Sv), (⟨h, ((apE a.V a.E bC 6)).length, k⟩ : Sv)⟩ : Gv)]) := fun u hu => ⟨fun g hg hm => by have aq := List.mem_singleton.1 (show g ∈ [ai] from hm); rcases List.mem_append.1 hu with hu | hu; (have bL := (cd.rng hu).1 _ hg; omega); (rw [List.mem_singleton.1 hu] at hg; have S := t _ hg; have R := z _ hg; omega), fun g hg hm => by have aq := List.mem_singleton.1 (show g ∈ [ai] from hm); rcases List.mem_append.1 hu with hu | hu; (have bL := (cd.rng hu).2 _ hg; omega); (rw [List.mem_singleton.1 hu] at hg; have S := y _ hg; have R := A _ hg; omega)⟩
  refine Za rfl rfl (Zd fa57_1 rfl) (Zl rfl rfl ?_)
  have e1 := (dJ.ch0 bq).ch bF (fun hm => by have S := c _ hm; have R := l _ hm; omega)
  refine Zy (off := 1) e1 sz55 rfl rfl rfl rfl fun e2 al bG => ?_
  have e3 := bG.size
  have E := E.step bG (lS om)
  replace al : Blk e2 ai 57 [(.int .i64 hF), (.slice I ((b ++ [(⟨(⟨e, (a.V).length, f⟩ : Sv), (⟨h, ((apE a.V a.E bC 6)).length, k⟩ : Sv)⟩ : Gv)])).length J)] := al
  refine Ze (Zb (eV _ _ ?_))
  refine Zh fun fR dQ => ?_
  refine Zh fun fS e4 => ?_
  refine Zc (Za rfl rfl (Zd fa57_1 rfl) (Za rfl rfl (Zp al.at_ agg55 rfl rfl) (Za rfl rfl (Yr (by rw [el55]; rfl) rfl) (Za rfl rfl (Zcj rfl rfl) (Ze (Zb (e4 _ _ ?_)))))))
  refine Zz rfl (fun T => ?_) (fun T => ?_)
  ·have cX := T
   have T := Yt T
   refine Zh fun fT e5 => ?_
   refine Zc (Za rfl rfl (Zd fa57_1 rfl) (Za rfl rfl (Zp al.at_ agg55 rfl rfl) (Zl rfl rfl ?_)))
   have e6 := ay.ch bG (fun g hg hm => by have aq := List.mem_singleton.1 hm; rcases G with ea | ea; (rw [ea] at hg; have R := c _ hg; have ag := l _ hg; omega); (have ah := D _ hg; rw [ea] at hg; have an := List.mem_singleton.1 hg; omega))
   have e7 := a3.chH (o := .slice (some ⟨ai, 0, none⟩) 0 0) bG aA
   refine (Zeu (ys := ((b ++ [(⟨(⟨e, (a.V).length, f⟩ : Sv), (⟨h, ((apE a.V a.E bC 6)).length, k⟩ : Sv)⟩ : Gv)]).drop 1)) 1 ((b ++ [(⟨(⟨e, (a.V).length, f⟩ : Sv), (⟨h, ((apE a.V a.E bC 6)).length, k⟩ : Sv)⟩ : Gv)]).length) e6 Gv.len el55 sz36 rfl ⟨_, _, rfl, by omega⟩ rfl (by first | omega | (simp only [List.length_append, List.length_singleton]; omega)) (by first | omega | (simp only [List.length_append, List.length_singleton]; omega)) (Zcb _ _) fun cY a4 M ce => ?_)
   obtain ⟨O, P, rfl, cZ, c0⟩ := a4.opn
   have bM := (e7).dropN 1
   have a5 := (a1.dropN 1).of M
   have X := aA.dropN 1
   refine Za rfl rfl (Zd fa57_1 rfl) (Zl rfl rfl ?_)
   refine Zy (off := 1) al sz55 rfl rfl rfl rfl fun e8 aJ cf => ?_
   have e9 := cf.size
   have E := E.step cf (lS om)
   replace aJ : Blk e8 ai 57 [(.int .i64 hF), (.slice O (((b ++ [(⟨(⟨e, (a.V).length, f⟩ : Sv), (⟨h, ((apE a.V a.E bC 6)).length, k⟩ : Sv)⟩ : Gv)]).drop 1)).length P)] := aJ
   refine Ze (Zb (e5 _ _ (Zc (Za rfl rfl (Zd fa57_0 rfl) (Za rfl rfl (Zp aJ.at_ agg3 rfl rfl) (Za rfl rfl (Xc om rfl rfl) (Za rfl rfl (Zd fa57_0 rfl) (Zl rfl rfl ?_))))))))
   refine Zy (off := 0) aJ sz3 rfl rfl rfl rfl fun fa a6 cg => ?_
   have fb := cg.size
   have E := E.step cg (lS om)
   replace a6 : Blk fa ai 57 [(.int .i64 (hF + 1)), (.slice O (((b ++ [(⟨(⟨e, (a.V).length, f⟩ : Sv), (⟨h, ((apE a.V a.E bC 6)).length, k⟩ : Sv)⟩ : Gv)]).drop 1)).length P)] := a6
   refine Ze (Zb (dQ _ _ ?_))
   refine Zh fun fU fc => ?_
   refine Zc (Za rfl rfl (Zi a6.at_ agg57 sz57 rfl) (Zl rfl rfl ?_))
   have fd := ((((((((((((aQ.ch0 C9).ch0 Z).ch aa (nS om)).ch0 Q).ch0 ae).ch0 aL).ch0 aH).ch aI (nS om)).ch0 bq).ch bF (fun hm => by have S := c _ hm; have R := l _ hm; omega)).ch bG (nS om)).ch cf (nS om)).ch cg (nS om)
   refine Zk (off := 0) 2 fd sz57 rfl (us := [(.int .i64 (hF + 1)), (.slice O (((b ++ [(⟨(⟨e, (a.V).length, f⟩ : Sv), (⟨h, ((apE a.V a.E bC 6)).length, k⟩ : Sv)⟩ : Gv)]).drop 1)).length P)]) rfl rfl rfl rfl fun ci a7 cD => ?_
   have fe := cD.size
   have E := E.step cD (lS om)
   replace a7 : Blk ci bk 57 [(.int .i64 (hF + 1)), (.slice O (((b ++ [(⟨(⟨e, (a.V).length, f⟩ : Sv), (⟨h, ((apE a.V a.E bC 6)).length, k⟩ : Sv)⟩ : Gv)]).drop 1)).length P)] := a7
   refine Za rfl rfl (Zf rfl) (Ze (Zb (fc _ _ ?_)))
   refine Zv ?_
   have ff := ((a4.ch cf (fun g hg hm => by have aq := List.mem_singleton.1 hm; rw [M] at hg; rcases G with ea | ea; (rw [ea] at hg; have R := c _ hg; have ag := l _ hg; omega); (have ah := D _ hg; rw [ea] at hg; have an := List.mem_singleton.1 hg; omega))).ch cg (fun g hg hm => by have aq := List.mem_singleton.1 hm; rw [M] at hg; rcases G with ea | ea; (rw [ea] at hg; have R := c _ hg; have ag := l _ hg; omega); (have ah := D _ hg; rw [ea] at hg; have an := List.mem_singleton.1 hg; omega))).ch cD (fun g hg hm => by have aq := List.mem_singleton.1 hm; rw [M] at hg; rcases G with ea | ea; (rw [ea] at hg; have R := c _ hg; have ag := l _ hg; omega); (have ah := D _ hg; rw [ea] at hg; have an := List.mem_singleton.1 hg; omega))
   have fg := ((bM.chH (o := .slice (some ⟨ai, 0, none⟩) 0 0) cf X).chH (o := .slice (some ⟨ai, 0, none⟩) 0 0) cg X).ch cD (oS om)
   have cj : Ol Gv.cs 36 2 ci (.slice O (((b ++ [(⟨(⟨e, (a.V).length, f⟩ : Sv), (⟨h, ((apE a.V a.E bC 6)).length, k⟩ : Sv)⟩ : Gv)]).drop 1)).length P) ((b ++ [(⟨(⟨e, (a.V).length, f⟩ : Sv), (⟨h, ((apE a.V a.E bC 6)).length, k⟩ : Sv)⟩ : Gv)]).drop 1) := by
    have hx := ff
    exact hx
   have ck : OdG 3 129 ci w.heap.size ci.heap.size ((b ++ [(⟨(⟨e, (a.V).length, f⟩ : Sv), (⟨h, ((apE a.V a.E bC 6)).length, k⟩ : Sv)⟩ : Gv)]).drop 1) (abG hF hG bC) := by
    have hx := fg.up (lo' := w.heap.size) (hi' := ci.heap.size) om om
    first | (rw [← (Yo (Qy (Qr p))).1]; exact hx) | (rw [← (Yo (Qz s)).1]; exact hx) | (rw [← (Yo (ab_a m n)).1]; exact hx) | (rw [← (Xk (Yp (Xl p) s m n) m om).1]; exact hx) | (rw [← (Xj (Yp (Xl p) s m n) m om).1]; exact hx)
   exact Zj [_, _] (Zn a7 rfl agg57 sz57 ⟨rfl, trivial⟩) ⟨(.slice O (((b ++ [(⟨(⟨e, (a.V).length, f⟩ : Sv), (⟨h, ((apE a.V a.E bC 6)).length, k⟩ : Sv)⟩ : Gv)]).drop 1)).length P), ((b ++ [(⟨(⟨e, (a.V).length, f⟩ : Sv), (⟨h, ((apE a.V a.E bC 6)).length, k⟩ : Sv)⟩ : Gv)]).drop 1), ((congrArg (fun zq => (Value.tuple #[.agg #[.int .i64 zq, (.slice O (((b ++ [(⟨(⟨e, (a.V).length, f⟩ : Sv), (⟨h, ((apE a.V a.E bC 6)).length, k⟩ : Sv)⟩ : Gv)]).drop 1)).length P)], .bool true])) (by first | exact (Yo (Qy (Qr p))).2.1 | exact (Yo (Qz s)).2.1 | exact (Yo (ab_a m n)).2.1 | exact (Xk (Yp (Xl p) s m n) m om).2.1 | exact (Xj (Yp (Xl p) s m n) m om).2.1)).trans (congrArg (fun zq => (Value.tuple #[.agg #[.int .i64 (abF hF hG bC), (.slice O (((b ++ [(⟨(⟨e, (a.V).length, f⟩ : Sv), (⟨h, ((apE a.V a.E bC 6)).length, k⟩ : Sv)⟩ : Gv)]).drop 1)).length P)], .bool zq])) (by first | exact (Yo (Qy (Qr p))).2.2 | exact (Yo (Qz s)).2.2 | exact (Yo (ab_a m n)).2.2 | exact (Xk (Yp (Xl p) s m n) m om).2.2 | exact (Xj (Yp (Xl p) s m n) m om).2.2))), cj, (Lo.down (fun g hg => av g (M ▸ hg)) om), ck, a5, E⟩
  have cX := T
  have T := Yu T
  refine Yf ?_
  refine Zb (dQ _ _ ?_)
  refine Zh fun fV fh => ?_
  refine Zc (Za rfl rfl (Zi al.at_ agg57 sz57 rfl) (Zl rfl rfl ?_))
  have fi := ((((((((((aQ.ch0 C9).ch0 Z).ch aa (nS om)).ch0 Q).ch0 ae).ch0 aL).ch0 aH).ch aI (nS om)).ch0 bq).ch bF (fun hm => by have S := c _ hm; have R := l _ hm; omega)).ch bG (nS om)
  refine Zk (off := 0) 2 fi sz57 rfl (us := [(.int .i64 hF), (.slice I ((b ++ [(⟨(⟨e, (a.V).length, f⟩ : Sv), (⟨h, ((apE a.V a.E bC 6)).length, k⟩ : Sv)⟩ : Gv)])).length J)]) rfl rfl rfl rfl fun cl aB cE => ?_
  have fj := cE.size
  have E := E.step cE (lS om)
  replace aB : Blk cl bk 57 [(.int .i64 hF), (.slice I ((b ++ [(⟨(⟨e, (a.V).length, f⟩ : Sv), (⟨h, ((apE a.V a.E bC 6)).length, k⟩ : Sv)⟩ : Gv)])).length J)] := aB
  refine Za rfl rfl (Zf rfl) (Ze (Zb (fh _ _ ?_)))
  refine Zv ?_
  have c1 := (ay.ch bG (fun g hg hm => by have aq := List.mem_singleton.1 hm; rcases G with ea | ea; (rw [ea] at hg; have R := c _ hg; have ag := l _ hg; omega); (have ah := D _ hg; rw [ea] at hg; have an := List.mem_singleton.1 hg; omega))).ch cE (fun g hg hm => by have aq := List.mem_singleton.1 hm; rcases G with ea | ea; (rw [ea] at hg; have R := c _ hg; have ag := l _ hg; omega); (have ah := D _ hg; rw [ea] at hg; have an := List.mem_singleton.1 hg; omega))
  have c2 := (a3.chH (o := .slice (some ⟨ai, 0, none⟩) 0 0) bG aA).ch cE (oS om)
  have bN : Ol Gv.cs 36 2 cl (.slice I ((b ++ [(⟨(⟨e, (a.V).length, f⟩ : Sv), (⟨h, ((apE a.V a.E bC 6)).length, k⟩ : Sv)⟩ : Gv)])).length J) (b ++ [(⟨(⟨e, (a.V).length, f⟩ : Sv), (⟨h, ((apE a.V a.E bC 6)).length, k⟩ : Sv)⟩ : Gv)]) := by
   have hx := c1
   exact hx
  have bO : OdG 3 129 cl w.heap.size cl.heap.size (b ++ [(⟨(⟨e, (a.V).length, f⟩ : Sv), (⟨h, ((apE a.V a.E bC 6)).length, k⟩ : Sv)⟩ : Gv)]) (abG hF hG bC) := by
   have hx := c2.up (lo' := w.heap.size) (hi' := cl.heap.size) om om
   first | (rw [← (Yo (Qy (Qr p))).1]; exact hx) | (rw [← (Yo (Qz s)).1]; exact hx) | (rw [← (Yo (ab_a m n)).1]; exact hx) | (rw [← (Xk (Yp (Xl p) s m n) m om).1]; exact hx) | (rw [← (Xj (Yp (Xl p) s m n) m om).1]; exact hx)
  exact Zj [_, _] (Zn aB rfl agg57 sz57 ⟨rfl, trivial⟩) ⟨(.slice I ((b ++ [(⟨(⟨e, (a.V).length, f⟩ : Sv), (⟨h, ((apE a.V a.E bC 6)).length, k⟩ : Sv)⟩ : Gv)])).length J), (b ++ [(⟨(⟨e, (a.V).length, f⟩ : Sv), (⟨h, ((apE a.V a.E bC 6)).length, k⟩ : Sv)⟩ : Gv)]), ((congrArg (fun zq => (Value.tuple #[.agg #[.int .i64 zq, (.slice I ((b ++ [(⟨(⟨e, (a.V).length, f⟩ : Sv), (⟨h, ((apE a.V a.E bC 6)).length, k⟩ : Sv)⟩ : Gv)])).length J)], .bool true])) (by first | exact (Yo (Qy (Qr p))).2.1 | exact (Yo (Qz s)).2.1 | exact (Yo (ab_a m n)).2.1 | exact (Xk (Yp (Xl p) s m n) m om).2.1 | exact (Xj (Yp (Xl p) s m n) m om).2.1)).trans (congrArg (fun zq => (Value.tuple #[.agg #[.int .i64 (abF hF hG bC), (.slice I ((b ++ [(⟨(⟨e, (a.V).length, f⟩ : Sv), (⟨h, ((apE a.V a.E bC 6)).length, k⟩ : Sv)⟩ : Gv)])).length J)], .bool zq])) (by first | exact (Yo (Qy (Qr p))).2.2 | exact (Yo (Qz s)).2.2 | exact (Yo (ab_a m n)).2.2 | exact (Xk (Yp (Xl p) s m n) m om).2.2 | exact (Xj (Yp (Xl p) s m n) m om).2.2))), bN, (Lo.down av om), bO, a1, E⟩
 refine Zr rfl rfl rfl ?_
 refine Yd zr36 fun b5 br bp U eJ => ?_
 have dR := U.size
 have E := E.trans U
 have eL := bp.lt
 replace bp : Blk br b5 36 [(.slice none 0 0), (.slice none 0 0)] := bp
 have a8 : Ch [] bh br := ((Ch.refl _ _).trans U)
 refine ⟨a8, ?_⟩
 refine dO 9 (Zr rfl rfl rfl ?_)
 have c3 := ak.ch0 U
 have c4 := aK.ch0 U
 have c5 := ((((((((aj.ch0 C2).ch0 C3).ch0 C4).ch0 C9).ch0 Z).ch aa (oS om)).ch0 Q).ch0 ae).ch0 U
 refine Step.call (Zm (xs := [.tmp 29, .tmp 30]) fk75 rfl) (Zci c3 c4 c5 om) fun cR c6 bJ => ?_
 obtain ⟨bm, bn, rfl, K, t, L, y, C, ab⟩ := bJ
 have dU := ab.size
 have E := E.trans ab
 obtain ⟨e, f, rfl, aU, z⟩ := K.opn
 obtain ⟨h, k, rfl, aV, A⟩ := L.opn
 have a9 : Ch [] bh c6 := (a8.trans ab)
 refine ⟨a9, ?_⟩
 refine dV 10 rfl rfl rfl (fun _ => Zg rfl) (dV 11 rfl rfl rfl (fun _ => Yb rfl rfl) (dV 12 rfl rfl rfl (fun _ => Yb rfl rfl) (dO 14 (Zr rfl rfl rfl ?_))))
 have c7 := bp.ch0 ab
 refine Zk (off := 0) 2 c7 sz36 rfl (us := [(.slice e (a.V).length f), (.slice h ((apE a.V a.E bC 6)).length k)]) rfl rfl rfl rfl fun cm aC Y => ?_
 have dW := Y.size
 have E := E.step Y (lS om)
 replace aC : Blk cm b5 36 [(.slice e (a.V).length f), (.slice h ((apE a.V a.E bC 6)).length k)] := aC
 have bP : Ch [] bh cm := (a9.step Y (fun i hm => by have aq := List.mem_singleton.1 hm; left; omega))
 refine ⟨bP, ?_⟩
 refine dV 15 rfl rfl rfl (fun _ => Zf rfl) ?_
 refine Zw (by kernel_rfl) ?_
 refine Zb (dF _ _ ?_)
 refine Zh fun fk c8 => ?_
 refine Zh fun fl c9 => ?_
 refine Zc (Za rfl rfl (Zg rfl) (Za rfl rfl (Xp rfl) (Ze (Zb (c9 _ _ ?_)))))
 refine Zz rfl (fun n => ?_) (fun n => ?_)
 ·have cn := n
  have n := bf_t (Qj n)
  refine Zh fun fm da => ?_
  refine Zc ?_
  have db := ((((ad.ch0 Q).ch0 ae).ch0 U).ch0 ab).ch Y (nS om)
  refine Za rfl rfl (Zi db.at_ agg57 sz57 rfl) (Zl rfl rfl ?_)
  have dc := (((((((aQ.ch0 C9).ch0 Z).ch aa (nS om)).ch0 Q).ch0 ae).ch0 U).ch0 ab).ch Y (nS om)
  refine Zk (off := 0) 2 dc sz57 rfl (us := [(.int .i64 hF), (.slice q (b).length r)]) rfl rfl rfl rfl fun ba aD bs => ?_
  have dX := bs.size
  have E := E.step bs (lS om)
  replace aD : Blk ba bk 57 [(.int .i64 hF), (.slice q (b).length r)] := aD
  refine Za rfl rfl (Zf rfl) (Ze (Zb (da _ _ ?_)))
  refine Zv (Zt ?_)
  have dd := (((((((H.ch0 Z).ch aa (dS c l om)).ch0 Q).ch0 ae).ch0 U).ch0 ab).ch Y (dS c l om)).ch bs (dS c l om)
  have de := (((((((F.ch0 Z).ch aa (oS om)).ch0 Q).ch0 ae).ch0 U).ch0 ab).ch Y (oS om)).ch bs (oS om)
  have bQ : Ol Gv.cs 36 2 ba (.slice q (b).length r) b := by
   have hx := dd
   exact hx
  have bR : OdG 3 129 ba w.heap.size ba.heap.size b (abG hF hG bC) := by
   have hx := de.up (lo' := w.heap.size) (hi' := ba.heap.size) om om
   first | (rw [← (Yo (Qy (Qr p))).1]; exact hx) | (rw [← (Yo (Qz s)).1]; exact hx) | (rw [← (Yo (ab_a m n)).1]; exact hx) | (rw [← (Xk (Yp (Xl p) s m n) m om).1]; exact hx) | (rw [← (Xj (Yp (Xl p) s m n) m om).1]; exact hx)
  exact Zj [_, _] (Zn aD rfl agg57 sz57 ⟨rfl, trivial⟩) ⟨(.slice q (b).length r), b, ((congrArg (fun zq => (Value.tuple #[.agg #[.int .i64 zq, (.slice q (b).length r)], .bool false])) (by first | exact (Yo (Qy (Qr p))).2.1 | exact (Yo (Qz s)).2.1 | exact (Yo (ab_a m n)).2.1 | exact (Xk (Yp (Xl p) s m n) m om).2.1 | exact (Xj (Yp (Xl p) s m n) m om).2.1)).trans (congrArg (fun zq => (Value.tuple #[.agg #[.int .i64 (abF hF hG bC), (.slice q (b).length r)], .bool zq])) (by first | exact (Yo (Qy (Qr p))).2.2 | exact (Yo (Qz s)).2.2 | exact (Yo (ab_a m n)).2.2 | exact (Xk (Yp (Xl p) s m n) m om).2.2 | exact (Xj (Yp (Xl p) s m n) m om).2.2))), bQ, (Lo.down c om), bR, B, E⟩
 have cn := n
 have n := bt_t (Qk n)
 refine Yf ?_
 refine Zb (c8 _ _ ?_)
 refine Zh fun fn df => ?_
 refine Zc (Za rfl rfl (Zd fa57_1 rfl) ?_)
 have co := ((((ad.ch0 Q).ch0 ae).ch0 U).ch0 ab).ch Y (nS om)
 refine Za rfl rfl (Zp co.at_ agg55 rfl rfl) (Za rfl rfl (Zi aC.at_ agg36 sz36 rfl) (Zl rfl rfl ?_))
 refine Zq (cs := Gv.cs) (parts := [(0, .tmp 39)]) (⟨⟨none, 0, 0⟩, ⟨none, 0, 0⟩⟩ : Gv) [(⟨(⟨e, (a.V).length, f⟩ : Sv), (⟨h, ((apE a.V a.E bC 6)).length, k⟩ : Sv)⟩ : Gv)] el55 sz36 zr36 Gv.len (by decide) rfl rfl rfl (by decide) (by decide) rfl fun cT cp aY au ao => ?_
 have dY := ao.size
 have E := E.trans ao
 obtain ⟨aZ, a0, rfl, ca, bK⟩ := aY.opn
 have cq := (K.ch Y (dS t z om)).ch0 ao
 have cr := (L.ch Y (dS y A om)).ch0 ao
 have cU : OdG 3 129 cp br.heap.size cp.heap.size ([(⟨(⟨e, (a.V).length, f⟩ : Sv), (⟨h, ((apE a.V a.E bC 6)).length, k⟩ : Sv)⟩ : Gv)]) ([(⟨a.V, (apE a.V a.E bC 6)⟩ : GD)]) := OdG.snoc (hi := br.heap.size) (vs := []) (xs := []) OdG.nil cq cr (Lo.down t om) (Lo.down y om) (fun g hg => by have S := z g hg; omega) (fun g hg => by have S := A g hg; omega) (fun g hm hg => by exact C _ hm hg) om om
 have cb : SepH (.slice aZ ([(⟨(⟨e, (a.V).length, f⟩ : Sv), (⟨h, ((apE a.V a.E bC 6)).length, k⟩ : Sv)⟩ : Gv)]).length a0) [(⟨(⟨e, (a.V).length, f⟩ : Sv), (⟨h, ((apE a.V a.E bC 6)).length, k⟩ : Sv)⟩ : Gv)] := fun u hu => by rw [List.mem_singleton.1 hu]; exact ⟨fun g hg hm => by have S := z _ hg; have R := au _ hm; omega, fun g hg hm => by have S := A _ hg; have R := au _ hm; omega⟩
 refine Zl rfl rfl ?_
 have dg := (((((((H.ch0 Z).ch aa (dS c l om)).ch0 Q).ch0 ae).ch0 U).ch0 ab).ch Y (dS c l om)).ch0 ao
 refine Yg (cs := Gv.cs) el55 sz36 by36 zr36 rfl (by decide) Gv.one dg aY.ls rfl rfl (by simp only [List.length_singleton]; omega) (by simp only [List.length_singleton]; omega) c om fun cV ct ay av G aw => ?_
 have dZ := aw.size
 have E := E.step aw (fun i hi => .inl (by have S := c _ hi; omega))
 obtain ⟨I, J, rfl, cc, D⟩ := ay.opn
 have bb := ((((((((F.ch0 Z).ch aa (oS om)).ch0 Q).ch0 ae).ch0 U).ch0 ab).ch Y (oS om)).ch0 ao).chH aw B
 have cW : (b ++ [(⟨(⟨e, (a.V).length, f⟩ : Sv), (⟨h, ((apE a.V a.E bC 6)).length, k⟩ : Sv)⟩ : Gv)]).length = hG.length + 1 := by simp only [List.length_append, List.length_singleton]; omega
 have a1 : SepH (.slice I ((b ++ [(⟨(⟨e, (a.V).length, f⟩ : Sv), (⟨h, ((apE a.V a.E bC 6)).length, k⟩ : Sv)⟩ : Gv)])).length J) (b ++ [(⟨(⟨e, (a.V).length, f⟩ : Sv), (⟨h, ((apE a.V a.E bC 6)).length, k⟩ : Sv)⟩ : Gv)]) := (fun u hu => ⟨fun g hg hm => by rcases List.mem_append.1 hu with hu | hu; (rcases G with ea | ea; (rw [ea] at hm; exact (B _ hu).1 _ hg hm); (have az := D _ hm; rw [ea] at hm; have an := List.mem_singleton.1 hm; have bL := (bb.rng hu).1 _ hg; omega)); (rw [List.mem_singleton.1 hu] at hg; rcases G with ea | ea; (rw [ea] at hm; have S := c _ hm; have R := l _ hm; have ag := t _ hg; have a2 := z _ hg; omega); (have az := D _ hm; rw [ea] at hm; have an := List.mem_singleton.1 hm; have ag := t _ hg; have a2 := z _ hg; omega)), fun g hg hm => by rcases List.mem_append.1 hu with hu | hu; (rcases G with ea | ea; (rw [ea] at hm; exact (B _ hu).2 _ hg hm); (have az := D _ hm; rw [ea] at hm; have an := List.mem_singleton.1 hm; have bL := (bb.rng hu).2 _ hg; omega)); (rw [List.mem_singleton.1 hu] at hg; rcases G with ea | ea; (rw [ea] at hm; have S := c _ hm; have R := l _ hm; have ag := y _ hg; have a2 := A _ hg; omega); (have az := D _ hm; rw [ea] at hm; have an := List.mem_singleton.1 hm; have ag := y _ hg; have a2 := A _ hg; omega))⟩)
 have dh := cq.ch aw (fun g hg hm => by have S := c _ hm; have R := l _ hm; have ag := t _ hg; have a2 := z _ hg; omega)
 have di := cr.ch aw (fun g hg hm => by have S := c _ hm; have R := l _ hm; have ag := y _ hg; have a2 := A _ hg; omega)
 have a3 : OdG 3 129 ct W4.heap.size ct.heap.size (b ++ [(⟨(⟨e, (a.V).length, f⟩ : Sv), (⟨h, ((apE a.V a.E bC 6)).length, k⟩ : Sv)⟩ : Gv)]) (hG ++ [(⟨a.V, (apE a.V a.E bC 6)⟩ : GD)]) := OdG.snoc bb (x := (⟨a.V, (apE a.V a.E bC 6)⟩ : GD)) dh di (Lo.down t om) (Lo.down y om) (fun g hg => by have S := z g hg; omega) (fun g hg => by have S := A g hg; omega) (fun g hm hg => by exact C _ hm hg) om om
 have aA : SepH (.slice (some ⟨ai, 0, none⟩) 0 0) (b ++ [(⟨(⟨e, (a.V).length, f⟩ : Sv), (⟨h, ((apE a.V a.E bC 6)).length, k⟩ : Sv)⟩ : Gv)]) := fun u hu => ⟨fun g hg hm => by have aq := List.mem_singleton.1 (show g ∈ [ai] from hm); rcases List.mem_append.1 hu with hu | hu; (have bL := (bb.rng hu).1 _ hg; omega); (rw [List.mem_singleton.1 hu] at hg; have S := t _ hg; have R := z _ hg; omega), fun g hg hm => by have aq := List.mem_singleton.1 (show g ∈ [ai] from hm); rcases List.mem_append.1 hu with hu | hu; (have bL := (bb.rng hu).2 _ hg; omega); (rw [List.mem_singleton.1 hu] at hg; have S := y _ hg; have R := A _ hg; omega)⟩
 refine Za rfl rfl (Zd fa57_1 rfl) (Zl rfl rfl ?_)
 have dj := (co.ch0 ao).ch aw (fun hm => by have S := c _ hm; have R := l _ hm; omega)
 refine Zy (off := 1) dj sz55 rfl rfl rfl rfl fun dk ac ax => ?_
 have d0 := ax.size
 have E := E.step ax (lS om)
 replace ac : Blk dk ai 57 [(.int .i64 hF), (.slice I ((b ++ [(⟨(⟨e, (a.V).length, f⟩ : Sv), (⟨h, ((apE a.V a.E bC 6)).length, k⟩ : Sv)⟩ : Gv)])).length J)] := ac
 refine Ze (Zb (df _ _ ?_))
 refine Zh fun fo cu => ?_
 refine Zh fun fp dl => ?_
 refine Zc (Za rfl rfl (Zd fa57_1 rfl) (Za rfl rfl (Zp ac.at_ agg55 rfl rfl) (Za rfl rfl (Yr (by rw [el55]; rfl) rfl) (Za rfl rfl (Zcj rfl rfl) (Ze (Zb (dl _ _ ?_)))))))
 refine Zz rfl (fun T => ?_) (fun T => ?_)
 ·have cv := T
  have T := Yt T
  refine Zh fun fq dm => ?_
  refine Zc (Za rfl rfl (Zd fa57_1 rfl) (Za rfl rfl (Zp ac.at_ agg55 rfl rfl) (Zl rfl rfl ?_)))
  have dn := ay.ch ax (fun g hg hm => by have aq := List.mem_singleton.1 hm; rcases G with ea | ea; (rw [ea] at hg; have R := c _ hg; have ag := l _ hg; omega); (have ah := D _ hg; rw [ea] at hg; have an := List.mem_singleton.1 hg; omega))
  have dp := a3.chH (o := .slice (some ⟨ai, 0, none⟩) 0 0) ax aA
  refine (Zeu (ys := ((b ++ [(⟨(⟨e, (a.V).length, f⟩ : Sv), (⟨h, ((apE a.V a.E bC 6)).length, k⟩ : Sv)⟩ : Gv)]).drop 1)) 1 ((b ++ [(⟨(⟨e, (a.V).length, f⟩ : Sv), (⟨h, ((apE a.V a.E bC 6)).length, k⟩ : Sv)⟩ : Gv)]).length) dn Gv.len el55 sz36 rfl ⟨_, _, rfl, by omega⟩ rfl (by first | omega | (simp only [List.length_append, List.length_singleton]; omega)) (by first | omega | (simp only [List.length_append, List.length_singleton]; omega)) (Zcb _ _) fun cY a4 M ce => ?_)
  obtain ⟨O, P, rfl, cZ, c0⟩ := a4.opn
  have bM := (dp).dropN 1
  have a5 := (a1.dropN 1).of M
  have X := aA.dropN 1
  refine Za rfl rfl (Zd fa57_1 rfl) (Zl rfl rfl ?_)
  refine Zy (off := 1) ac sz55 rfl rfl rfl rfl fun dq ap bc => ?_
  have d1 := bc.size
  have E := E.step bc (lS om)
  replace ap : Blk dq ai 57 [(.int .i64 hF), (.slice O (((b ++ [(⟨(⟨e, (a.V).length, f⟩ : Sv), (⟨h, ((apE a.V a.E bC 6)).length, k⟩ : Sv)⟩ : Gv)]).drop 1)).length P)] := ap
  refine Ze (Zb (dm _ _ (Zc (Za rfl rfl (Zd fa57_0 rfl) (Za rfl rfl (Zp ap.at_ agg3 rfl rfl) (Za rfl rfl (Xc om rfl rfl) (Za rfl rfl (Zd fa57_0 rfl) (Zl rfl rfl ?_))))))))
  refine Zy (off := 0) ap sz3 rfl rfl rfl rfl fun dr aE be => ?_
  have d2 := be.size
  have E := E.step be (lS om)
  replace aE : Blk dr ai 57 [(.int .i64 (hF + 1)), (.slice O (((b ++ [(⟨(⟨e, (a.V).length, f⟩ : Sv), (⟨h, ((apE a.V a.E bC 6)).length, k⟩ : Sv)⟩ : Gv)]).drop 1)).length P)] := aE
  refine Ze (Zb (cu _ _ ?_))
  refine Zh fun fr ds => ?_
  refine Zc (Za rfl rfl (Zi aE.at_ agg57 sz57 rfl) (Zl rfl rfl ?_))
  have dt := ((((((((((((aQ.ch0 C9).ch0 Z).ch aa (nS om)).ch0 Q).ch0 ae).ch0 U).ch0 ab).ch Y (nS om)).ch0 ao).ch aw (fun hm => by have S := c _ hm; have R := l _ hm; omega)).ch ax (nS om)).ch bc (nS om)).ch be (nS om)
  refine Zk (off := 0) 2 dt sz57 rfl (us := [(.int .i64 (hF + 1)), (.slice O (((b ++ [(⟨(⟨e, (a.V).length, f⟩ : Sv), (⟨h, ((apE a.V a.E bC 6)).length, k⟩ : Sv)⟩ : Gv)]).drop 1)).length P)]) rfl rfl rfl rfl fun bf aF bu => ?_
  have d3 := bu.size
  have E := E.step bu (lS om)
  replace aF : Blk bf bk 57 [(.int .i64 (hF + 1)), (.slice O (((b ++ [(⟨(⟨e, (a.V).length, f⟩ : Sv), (⟨h, ((apE a.V a.E bC 6)).length, k⟩ : Sv)⟩ : Gv)]).drop 1)).length P)] := aF
  refine Za rfl rfl (Zf rfl) (Ze (Zb (ds _ _ ?_)))
  refine Zv ?_
  have du := ((a4.ch bc (fun g hg hm => by have aq := List.mem_singleton.1 hm; rw [M] at hg; rcases G with ea | ea; (rw [ea] at hg; have R := c _ hg; have ag := l _ hg; omega); (have ah := D _ hg; rw [ea] at hg; have an := List.mem_singleton.1 hg; omega))).ch be (fun g hg hm => by have aq := List.mem_singleton.1 hm; rw [M] at hg; rcases G with ea | ea; (rw [ea] at hg; have R := c _ hg; have ag := l _ hg; omega); (have ah := D _ hg; rw [ea] at hg; have an := List.mem_singleton.1 hg; omega))).ch bu (fun g hg hm => by have aq := List.mem_singleton.1 hm; rw [M] at hg; rcases G with ea | ea; (rw [ea] at hg; have R := c _ hg; have ag := l _ hg; omega); (have ah := D _ hg; rw [ea] at hg; have an := List.mem_singleton.1 hg; omega))
  have dv := ((bM.chH (o := .slice (some ⟨ai, 0, none⟩) 0 0) bc X).chH (o := .slice (some ⟨ai, 0, none⟩) 0 0) be X).ch bu (oS om)
  have bS : Ol Gv.cs 36 2 bf (.slice O (((b ++ [(⟨(⟨e, (a.V).length, f⟩ : Sv), (⟨h, ((apE a.V a.E bC 6)).length, k⟩ : Sv)⟩ : Gv)]).drop 1)).length P) ((b ++ [(⟨(⟨e, (a.V).length, f⟩ : Sv), (⟨h, ((apE a.V a.E bC 6)).length, k⟩ : Sv)⟩ : Gv)]).drop 1) := by
   have hx := du
   exact hx
  have bT : OdG 3 129 bf w.heap.size bf.heap.size ((b ++ [(⟨(⟨e, (a.V).length, f⟩ : Sv), (⟨h, ((apE a.V a.E bC 6)).length, k⟩ : Sv)⟩ : Gv)]).drop 1) (abG hF hG bC) := by
   have hx := dv.up (lo' := w.heap.size) (hi' := bf.heap.size) om om
   first | (rw [← (Yo (Qy (Qr p))).1]; exact hx) | (rw [← (Yo (Qz s)).1]; exact hx) | (rw [← (Yo (ab_a m n)).1]; exact hx) | (rw [← (Xk (Yp (Xl p) s m n) m om).1]; exact hx) | (rw [← (Xj (Yp (Xl p) s m n) m om).1]; exact hx)
  exact Zj [_, _] (Zn aF rfl agg57 sz57 ⟨rfl, trivial⟩) ⟨(.slice O (((b ++ [(⟨(⟨e, (a.V).length, f⟩ : Sv), (⟨h, ((apE a.V a.E bC 6)).length, k⟩ : Sv)⟩ : Gv)]).drop 1)).length P), ((b ++ [(⟨(⟨e, (a.V).length, f⟩ : Sv), (⟨h, ((apE a.V a.E bC 6)).length, k⟩ : Sv)⟩ : Gv)]).drop 1), ((congrArg (fun zq => (Value.tuple #[.agg #[.int .i64 zq, (.slice O (((b ++ [(⟨(⟨e, (a.V).length, f⟩ : Sv), (⟨h, ((apE a.V a.E bC 6)).length, k⟩ : Sv)⟩ : Gv)]).drop 1)).length P)], .bool true])) (by first | exact (Yo (Qy (Qr p))).2.1 | exact (Yo (Qz s)).2.1 | exact (Yo (ab_a m n)).2.1 | exact (Xk (Yp (Xl p) s m n) m om).2.1 | exact (Xj (Yp (Xl p) s m n) m om).2.1)).trans (congrArg (fun zq => (Value.tuple #[.agg #[.int .i64 (abF hF hG bC), (.slice O (((b ++ [(⟨(⟨e, (a.V).length, f⟩ : Sv), (⟨h, ((apE a.V a.E bC 6)).length, k⟩ : Sv)⟩ : Gv)]).drop 1)).length P)], .bool zq])) (by first | exact (Yo (Qy (Qr p))).2.2 | exact (Yo (Qz s)).2.2 | exact (Yo (ab_a m n)).2.2 | exact (Xk (Yp (Xl p) s m n) m om).2.2 | exact (Xj (Yp (Xl p) s m n) m om).2.2))), bS, (Lo.down (fun g hg => av g (M ▸ hg)) om), bT, a5, E⟩
 have cv := T
 have T := Yu T
 refine Yf ?_
 refine Zb (cu _ _ ?_)
 refine Zh fun fs dw => ?_
 refine Zc (Za rfl rfl (Zi ac.at_ agg57 sz57 rfl) (Zl rfl rfl ?_))
 have dx := ((((((((((aQ.ch0 C9).ch0 Z).ch aa (nS om)).ch0 Q).ch0 ae).ch0 U).ch0 ab).ch Y (nS om)).ch0 ao).ch aw (fun hm => by have S := c _ hm; have R := l _ hm; omega)).ch ax (nS om)
 refine Zk (off := 0) 2 dx sz57 rfl (us := [(.int .i64 hF), (.slice I ((b ++ [(⟨(⟨e, (a.V).length, f⟩ : Sv), (⟨h, ((apE a.V a.E bC 6)).length, k⟩ : Sv)⟩ : Gv)])).length J)]) rfl rfl rfl rfl fun bg aG bv => ?_
 have d4 := bv.size
 have E := E.step bv (lS om)
 replace aG : Blk bg bk 57 [(.int .i64 hF), (.slice I ((b ++ [(⟨(⟨e, (a.V).length, f⟩ : Sv), (⟨h, ((apE a.V a.E bC 6)).length, k⟩ : Sv)⟩ : Gv)])).length J)] := aG
 refine Za rfl rfl (Zf rfl) (Ze (Zb (dw _ _ ?_)))
 refine Zv ?_
 have dy := (ay.ch ax (fun g hg hm => by have aq := List.mem_singleton.1 hm; rcases G with ea | ea; (rw [ea] at hg; have R := c _ hg; have ag := l _ hg; omega); (have ah := D _ hg; rw [ea] at hg; have an := List.mem_singleton.1 hg; omega))).ch bv (fun g hg hm => by have aq := List.mem_singleton.1 hm; rcases G with ea | ea; (rw [ea] at hg; have R := c _ hg; have ag := l _ hg; omega); (have ah := D _ hg; rw [ea] at hg; have an := List.mem_singleton.1 hg; omega))
 have dz := (a3.chH (o := .slice (some ⟨ai, 0, none⟩) 0 0) ax aA).ch bv (oS om)
 have bU : Ol Gv.cs 36 2 bg (.slice I ((b ++ [(⟨(⟨e, (a.V).length, f⟩ : Sv), (⟨h, ((apE a.V a.E bC 6)).length, k⟩ : Sv)⟩ : Gv)])).length J) (b ++ [(⟨(⟨e, (a.V).length, f⟩ : Sv), (⟨h, ((apE a.V a.E bC 6)).length, k⟩ : Sv)⟩ : Gv)]) := by
  have hx := dy
  exact hx
 have bV : OdG 3 129 bg w.heap.size bg.heap.size (b ++ [(⟨(⟨e, (a.V).length, f⟩ : Sv), (⟨h, ((apE a.V a.E bC 6)).length, k⟩ : Sv)⟩ : Gv)]) (abG hF hG bC) := by
  have hx := dz.up (lo' := w.heap.size) (hi' := bg.heap.size) om om
  first | (rw [← (Yo (Qy (Qr p))).1]; exact hx) | (rw [← (Yo (Qz s)).1]; exact hx) | (rw [← (Yo (ab_a m n)).1]; exact hx) | (rw [← (Xk (Yp (Xl p) s m n) m om).1]; exact hx) | (rw [← (Xj (Yp (Xl p) s m n) m om).1]; exact hx)
 exact Zj [_, _] (Zn aG rfl agg57 sz57 ⟨rfl, trivial⟩) ⟨(.slice I ((b ++ [(⟨(⟨e, (a.V).length, f⟩ : Sv), (⟨h, ((apE a.V a.E bC 6)).length, k⟩ : Sv)⟩ : Gv)])).length J), (b ++ [(⟨(⟨e, (a.V).length, f⟩ : Sv), (⟨h, ((apE a.V a.E bC 6)).length, k⟩ : Sv)⟩ : Gv)]), ((congrArg (fun zq => (Value.tuple #[.agg #[.int .i64 zq, (.slice I ((b ++ [(⟨(⟨e, (a.V).length, f⟩ : Sv), (⟨h, ((apE a.V a.E bC 6)).length, k⟩ : Sv)⟩ : Gv)])).length J)], .bool true])) (by first | exact (Yo (Qy (Qr p))).2.1 | exact (Yo (Qz s)).2.1 | exact (Yo (ab_a m n)).2.1 | exact (Xk (Yp (Xl p) s m n) m om).2.1 | exact (Xj (Yp (Xl p) s m n) m om).2.1)).trans (congrArg (fun zq => (Value.tuple #[.agg #[.int .i64 (abF hF hG bC), (.slice I ((b ++ [(⟨(⟨e, (a.V).length, f⟩ : Sv), (⟨h, ((apE a.V a.E bC 6)).length, k⟩ : Sv)⟩ : Gv)])).length J)], .bool zq])) (by first | exact (Yo (Qy (Qr p))).2.2 | exact (Yo (Qz s)).2.2 | exact (Yo (ab_a m n)).2.2 | exact (Xk (Yp (Xl p) s m n) m om).2.2 | exact (Xj (Yp (Xl p) s m n) m om).2.2))), bU, (Lo.down av om), bV, a1, E⟩

/-- impl.GraphAt -/
theorem Zaq {w : World} (hF : Int) {LL_shG U : Nat} {C : Value} {shG : List Gv} (s : Ls Gv.cs 2 w LL_shG U C shG) {LR_hG BB_hG : Nat} {hG : List GD} (x : RdG w LR_hG BB_hG shG hG) (n : Int) :
 Ctr Try.prog 35 #[(.agg #[(.int .i64 hF), C]), (.int .i64 n)] w (fun v w' => ∃ (L : Value) (M : Value), v = .tuple #[.agg #[L, M], .bool (tt (gaP hF hG n))] ∧ Ol ics 3 1 w' L ((gaR hF hG n).V) ∧ Lo w.heap.size L ∧ Ol GEdge.cs 129 4 w' M ((gaR hF hG n).E) ∧ Lo w.heap.size M ∧ (∀ g ∈ bl L, g ∉ bl M) ∧ Ch [] w w') := by
 obtain ⟨D, F, O⟩ := s.val
 subst O
 have ap := s.len
 have s := s.here (by decide)
 have x := x.here
 have aq := x.1
 have E := Ch.refl [] w
 refine Yj (N := 28) (vs0 := [(.agg #[(.int .i64 hF), (.slice D shG.length F)]), (.int .i64 n)]) Try.func35 rfl rfl rfl ?_
 refine Zh fun K1 H1 => ?_
 refine Zc (Zl rfl rfl ?_)
 refine Xm rfl fun aN W2 ak C2 bj => ?_
 have bk := C2.size
 have E := E.trans C2
 have bm := ak.lt
 replace ak : Blk W2 aN 57 [(.int .i64 hF), (.slice D shG.length F)] := ak
 refine Zl rfl rfl ?_
 refine Yd zr36 fun al W3 X C3 bn => ?_
 have bp := C3.size
 have E := E.trans C3
 have bq := X.lt
 replace X : Blk W3 al 36 [(.slice none 0 0), (.slice none 0 0)] := X
 refine Za rfl rfl (Zf rfl) (Ze (Zb (H1 _ _ ?_)))
 refine Zh fun K4 H4 => ?_
 refine Zh fun K5 H5 => ?_
 refine Yv [] 12 mixed rfl fun W6 C6 => ?_
 have br := C6.size
 have E := E.trans C6
 have F7 := (ak.ch0 C3).ch0 C6
 refine dT 0 rfl rfl rfl (Ye F7.at_ (fun i hi => absurd hi List.not_mem_nil) agg57 sz57 rfl ?_)
 refine dO 1 (Zr rfl rfl rfl ?_)
 have F8 := ((s.ch0 C2).ch0 C3).ch0 C6
 have F9 := ((x.ch0 C2).ch0 C3).ch0 C6
 refine Step.call (Zm (xs := [.tmp 6]) fk33 rfl) (Zaj _ F8 F9 ) fun bs aO aP => ?_
 obtain ⟨rfl, P⟩ := aP
 have aQ := P.size
 have E := E.trans P
 have Q : Ch [] W6 aO := ((Ch.refl _ _).trans P)
 refine ⟨Q, ?_⟩
 refine dV 2 rfl rfl rfl (fun _ => Xp rfl) (dV 3 rfl rfl rfl (fun _ => Zg rfl) ?_)
 refine Qq (d := 9) rfl (fun r => ?_) (fun r => ?_)
 ·have au := r
  have r := bf_t (Qj r)
  first | (have aR := Zbo r; have aS := r.2) | skip
  refine dK 4 rfl rfl rfl (dK 5 rfl rfl rfl (dK 6 rfl rfl rfl (dK 7 rfl rfl rfl (dK 8 rfl rfl rfl (dK 9 rfl rfl rfl (dK 10 rfl rfl rfl (dV 11 rfl rfl rfl (fun _ => Ym rfl rfl) ?_)))))))
  refine Zw (by kernel_rfl) ?_
  refine Zb (H5 _ _ ?_)
  refine Xr rfl ?_
  refine Zh fun bu aT => ?_
  refine Zc (Za rfl rfl (Ys (parts := []) (cells := [(.slice none 0 0), (.slice none 0 0)]) zr36 pl36 rfl rfl) (Zl rfl rfl ?_))
  have aU := (X.ch0 C6).ch0 P
  refine Zk (off := 0) 2 aU sz36 rfl (us := [(.slice none 0 0), (.slice none 0 0)]) rfl rfl rfl rfl fun Y G aI => ?_
  have aV := aI.size
  have E := E.step aI (lS om)
  replace G : Blk Y al 36 [(.slice none 0 0), (.slice none 0 0)] := G
  refine Za rfl rfl (Zf rfl) (Ze (Zb (aT _ _ ?_)))
  refine Zv (Zt ?_)
  have Z : Ol ics 3 1 Y (.slice none 0 0) ((gaR hF hG n).V) := by
   have hx := Ol.nil (cs := ics) (e := 3) (k := 1) Y
   first | exact hx.eq (by rw [← ga_n (fun q => r q.1)]) | exact hx.eq (by rw [← ga_n (fun q => b q.2)]) | exact hx.eq (by rw [← B])
  have aa : Ol GEdge.cs 129 4 Y (.slice none 0 0) ((gaR hF hG n).E) := by
   have hx := Ol.nil (cs := GEdge.cs) (e := 129) (k := 4) Y
   first | exact hx.eq (by rw [← ga_n (fun q => r q.1)]) | exact hx.eq (by rw [← ga_n (fun q => b q.2)]) | exact hx.eq (by rw [← B])
  exact Zj [_, _] (Zn G rfl agg36 sz36 ⟨rfl, trivial⟩) ⟨(.slice none 0 0), (.slice none 0 0), (congrArg (fun zq => (Value.tuple #[.agg #[(.slice none 0 0), (.slice none 0 0)], .bool zq])) (by first | exact Zu (fun q => r q.1) | exact Zu (fun q => b q.2) | exact Xt ⟨r, b⟩)), Z, (Lo.nil _), aa, (Lo.nil _), (fun g hm hg => by cases hm), E⟩
 have au := r
 have r := bt_t (Qk r)
 first | (have aR := Zbo r; have aS := r.2) | skip
 refine dV 4 rfl rfl rfl (fun _ => Zg rfl) (dV 5 rfl rfl rfl (fun _ => Zd fa57_0 rfl) ?_)
 refine dT 6 rfl rfl rfl (Yi F7.at_ (fun i hi => absurd hi List.not_mem_nil) agg3 rfl rfl ?_)
 refine dT 7 rfl rfl rfl (Ye F7.at_ (fun i hi => absurd hi List.not_mem_nil) agg57 sz57 rfl ?_)
 refine dO 8 (Zr rfl rfl rfl ?_)
 have aJ := F8.ch0 P
 have aK := F9.ch0 P
 refine Step.call (Zm (xs := [.tmp 13]) fk36 rfl) (Xa _ aJ aK ) fun aW aX av => ?_
 obtain ⟨rfl, R⟩ := av
 have aY := R.size
 have E := E.trans R
 have S : Ch [] W6 aX := (Q.trans R)
 refine ⟨S, ?_⟩
 refine dO 9 (Zr rfl rfl rfl ?_)
 refine Step.call (Zm (xs := [.tmp 10, .tmp 12, .tmp 14]) fk85 rfl) (Qh _ _ _ ) fun aZ aw ax => ?_
 obtain ⟨rfl, T⟩ := ax
 have a0 := T.size
 have E := E.trans T
 have ab : Ch [] W6 aw := (S.trans T)
 refine ⟨ab, ?_⟩
 refine dV 10 rfl rfl rfl (fun _ => Xp rfl) (dV 11 rfl rfl rfl (fun _ => Yl rfl rfl) ?_)
 refine Zw (by kernel_rfl) ?_
 refine Zb (H5 _ _ ?_)
 refine Zz rfl (fun b => ?_) (fun b => ?_)
 ·have ay := b
  have b := Yu (Qj b)
  refine Zh fun bv a1 => ?_
  refine Zc (Za rfl rfl (Ys (parts := []) (cells := [(.slice none 0 0), (.slice none 0 0)]) zr36 pl36 rfl rfl) (Zl rfl rfl ?_))
  have a2 := (((X.ch0 C6).ch0 P).ch0 R).ch0 T
  refine Zk (off := 0) 2 a2 sz36 rfl (us := [(.slice none 0 0), (.slice none 0 0)]) rfl rfl rfl rfl fun ac H aL => ?_
  have a3 := aL.size
  have E := E.step aL (lS om)
  replace H : Blk ac al 36 [(.slice none 0 0), (.slice none 0 0)] := H
  refine Za rfl rfl (Zf rfl) (Ze (Zb (a1 _ _ ?_)))
  refine Zv (Zt ?_)
  have ad : Ol ics 3 1 ac (.slice none 0 0) ((gaR hF hG n).V) := by
   have hx := Ol.nil (cs := ics) (e := 3) (k := 1) ac
   first | exact hx.eq (by rw [← ga_n (fun q => r q.1)]) | exact hx.eq (by rw [← ga_n (fun q => b q.2)]) | exact hx.eq (by rw [← B])
  have ae : Ol GEdge.cs 129 4 ac (.slice none 0 0) ((gaR hF hG n).E) := by
   have hx := Ol.nil (cs := GEdge.cs) (e := 129) (k := 4) ac
   first | exact hx.eq (by rw [← ga_n (fun q => r q.1)]) | exact hx.eq (by rw [← ga_n (fun q => b q.2)]) | exact hx.eq (by rw [← B])
  exact Zj [_, _] (Zn H rfl agg36 sz36 ⟨rfl, trivial⟩) ⟨(.slice none 0 0), (.slice none 0 0), (congrArg (fun zq => (Value.tuple #[.agg #[(.slice none 0 0), (.slice none 0 0)], .bool zq])) (by first | exact Zu (fun q => r q.1) | exact Zu (fun q => b q.2) | exact Xt ⟨r, b⟩)), ad, (Lo.nil _), ae, (Lo.nil _), (fun g hm hg => by cases hm), E⟩
 have ay := b
 have b := Yt (Qk b)
 refine Yf ?_
 refine Zb (H4 _ _ ?_)
 refine Zh fun bw a4 => ?_
 refine Zc (Za rfl rfl (Zd fa57_1 rfl) ?_)
 have aM := ((F7.ch0 P).ch0 R).ch0 T
 refine Za rfl rfl (Zp aM.at_ agg55 rfl rfl) (Za rfl rfl (Zg rfl) (Za rfl rfl (Zd fa57_0 rfl) (Za rfl rfl (Zp aM.at_ agg3 rfl rfl) (Za rfl rfl (Xe om rfl rfl) (Zl rfl rfl ?_)))))
 have a5 := (aJ.ch0 R).ch0 T
 refine (Qm (j := (n - hF).toNat) a5 Gv.len el55 sz36 rfl rfl om om fun a6 az af aA => ?_)
 have a7 := (aK.ch0 R).ch0 T
 obtain ⟨a, I, y, J⟩ := a7.get af
 obtain ⟨⟨aB, a8, aC⟩, ⟨aD, a9, aE⟩⟩ := az
 obtain rfl := y.eqn
 obtain rfl := J.eqn
 have ba := y.len
 have bb := J.len
 replace y : Ls ics 1 aw LR_hG w.heap.size (.slice aB a.V.length aC) a.V := y
 replace J : Ls GEdge.cs 4 aw LR_hG w.heap.size (.slice aD a.E.length aE) a.E := J
 have bz := Zcr r I
 have B := ga_y r b I
 refine Za rfl rfl (Zi aA agg36 sz36 rfl) (Zl rfl rfl ?_)
 refine Step.call (Zm (xs := [.tmp 26]) fk91 rfl) (Xv y J om) fun bc bA aF => ?_
 obtain ⟨am, an, rfl, t, o, u, p, m, aG⟩ := aF
 have be := aG.size
 have E := E.trans aG
 obtain ⟨c, f, rfl, ag, z⟩ := t.opn
 obtain ⟨h, l, rfl, ah, A⟩ := u.opn
 refine Zl rfl rfl ?_
 have bf := ((((X.ch0 C6).ch0 P).ch0 R).ch0 T).ch0 aG
 refine Zk (off := 0) 2 bf sz36 rfl (us := [(.slice c (a.V).length f), (.slice h (a.E).length l)]) rfl rfl rfl rfl fun aH K ao => ?_
 have bg := ao.size
 have E := E.step ao (lS om)
 replace K : Blk aH al 36 [(.slice c (a.V).length f), (.slice h (a.E).length l)] := K
 refine Za rfl rfl (Zf rfl) (Ze (Zb (a4 _ _ ?_)))
 refine Zv ?_
 have bh := t.ch ao (dS o z om)
 have ai : Ol ics 3 1 aH (.slice c (a.V).length f) ((gaR hF hG n).V) := by
  have hx := bh
  first | exact hx.eq (by rw [← ga_n (fun q => r q.1)]) | exact hx.eq (by rw [← ga_n (fun q => b q.2)]) | exact hx.eq (by rw [← B])
 have bi := u.ch ao (dS p A om)
 have aj : Ol GEdge.cs 129 4 aH (.slice h (a.E).length l) ((gaR hF hG n).E) := by
  have hx := bi
  first | exact hx.eq (by rw [← ga_n (fun q => r q.1)]) | exact hx.eq (by rw [← ga_n (fun q => b q.2)]) | exact hx.eq (by rw [← B])
 exact Zj [_, _] (Zn K rfl agg36 sz36 ⟨rfl, trivial⟩) ⟨(.slice c (a.V).length f), (.slice h (a.E).length l), (congrArg (fun zq => (Value.tuple #[.agg #[(.slice c (a.V).length f), (.slice h (a.E).length l)], .bool zq])) (by first | exact Zu (fun q => r q.1) | exact Zu (fun q => b q.2) | exact Xt ⟨r, b⟩)), ai, (Lo.down o om), aj, (Lo.down p om), (fun g hm hg => by exact m _ hm hg), E⟩

/-- impl.CompactHistory -/
theorem Zda {w : World} (hF : Int) {LL_shG T : Nat} {A : Value} {shG : List Gv} (k : Ls Gv.cs 2 w LL_shG T A shG) {LR_hG BB_hG : Nat} {hG : List GD} (l : RdG w LR_hG BB_hG shG hG) (n : Int) (hb : hG.length + Zau hG ≤ 4194304) :
 Ctr Try.prog 40 #[(.agg #[(.int .i64 hF), A]), (.int .i64 n)] w (fun v w' => ∃ (O : Value) (B : List Gv), v = .tuple #[.agg #[.int .i64 (chF hF hG n), O], .bool (tt (gaP hF hG n))] ∧ Ol Gv.cs 36 2 w' O B ∧ Lo w.heap.size O ∧ OdG 3 129 w' w.heap.size w'.heap.size B (chG hF hG n) ∧ SepH O B ∧ Ch [] w w') := by
 obtain ⟨C, D, P⟩ := k.val
 subst P
 have ay := k.len
 have k := k.here (by decide)
 have l := l.here
 have az := l.1
 have E := Ch.refl [] w
 refine Yj (N := 31) (vs0 := [(.agg #[(.int .i64 hF), (.slice C shG.length D)]), (.int .i64 n)]) Try.func40 rfl rfl rfl ?_
 refine Zh fun K1 H1 => ?_
 refine Zc (Zl rfl rfl ?_)
 refine Xm rfl fun aM W2 am C2 bw => ?_
 have bz := C2.size
 have E := E.trans C2
 have bA := am.lt
 replace am : Blk W2 aM 57 [(.int .i64 hF), (.slice C shG.length D)] := am
 refine Zl rfl rfl ?_
 refine Yd zr57 fun aA W3 Y C3 bB => ?_
 have bC := C3.size
 have E := E.trans C3
 have bD := Y.lt
 replace Y : Blk W3 aA 57 [(.int .i64 0), (.slice none 0 0)] := Y
 refine Za rfl rfl (Zf rfl) (Ze (Zb (H1 _ _ ?_)))
 refine Zh fun K4 H4 => ?_
 refine Zc ?_
 have F5 := am.ch0 C3
 refine Za rfl rfl (Zi F5.at_ agg57 sz57 rfl) (Zl rfl rfl ?_)
 have F6 := (k.ch0 C2).ch0 C3
 have F7 := (l.ch0 C2).ch0 C3
 refine Step.call (Zm (xs := [.tmp 9]) fk74 rfl) (Zby _ F6 F7 om) fun aN W8 aB => ?_
 obtain ⟨an, a, rfl, j, b, h, i, C8⟩ := aB
 have bF := C8.size
 have E := E.trans C8
 obtain ⟨d, e, rfl, Z, c⟩ := j.opn
 have aO := h.1
 refine Zl rfl rfl ?_
 refine Yd zr57 fun ao W9 ap C9 bG => ?_
 have bH := C9.size
 have E := E.trans C9
 have bI := ap.lt
 replace ap : Blk W9 ao 57 [(.int .i64 0), (.slice none 0 0)] := ap
 refine Zl rfl rfl ?_
 refine Zk (off := 0) 2 ap sz57 rfl (us := [(.int .i64 hF), (.slice d (a).length e)]) rfl rfl rfl rfl fun aP z F => ?_
 have aQ := F.size
 have E := E.step F (lS om)
 replace z : Blk aP ao 57 [(.int .i64 hF), (.slice d (a).length e)] := z
 refine Ze (Zb (H4 _ _ ?_))
 refine Zh fun bJ aR => ?_
 refine Zh fun bK aS => ?_
 refine Zc ?_
 have aF := ((F5.ch0 C8).ch0 C9).ch F (nS om)
 refine Za rfl rfl (Zi aF.at_ agg57 sz57 rfl) (Za rfl rfl (Zg rfl) (Zl rfl rfl ?_))
 have aT := ((F6.ch0 C8).ch0 C9).ch F (oS om)
 have aU := ((F7.ch0 C8).ch0 C9).ch F (oS om)
 refine Step.call (Zm (xs := [.tmp 12, .tmp 13]) fk35 rfl) (Zaq _ aT aU _ ) fun aV bL aC => ?_
 obtain ⟨aq, au, rfl, x, Q, y, R, u, G⟩ := aC
 have aW := G.size
 have E := E.trans G
 obtain ⟨m, o, rfl, aa, U⟩ := x.opn
 obtain ⟨p, q, rfl, ab, X⟩ := y.opn
 refine Za rfl rfl (Zg rfl) (Za rfl rfl (Yb rfl rfl) (Za rfl rfl (Yb rfl rfl) (Zl rfl rfl ?_)))
 refine Yd zr36 fun aG aX av H bM => ?_
 have aY := H.size
 have E := E.trans H
 have bN := av.lt
 replace av : Blk aX aG 36 [(.slice none 0 0), (.slice none 0 0)] := av
 refine Zl rfl rfl ?_
 refine Zk (off := 0) 2 av sz36 rfl (us := [(.slice m ((gaR hF hG n).V).length o), (.slice p ((gaR hF hG n).E).length q)]) rfl rfl rfl rfl fun aZ S I => ?_
 have a0 := I.size
 have E := E.step I (lS om)
 replace S : Blk aZ aG 36 [(.slice m ((gaR hF hG n).V).length o), (.slice p ((gaR hF hG n).E).length q)] := S
 refine Za rfl rfl (Zf rfl) (Ze (Zb (aS _ _ ?_)))
 refine Zh fun bO a1 => ?_
 refine Zc (Za rfl rfl (Zg rfl) (Za rfl rfl (Xp rfl) (Ze (Zb (a1 _ _ ?_)))))
 refine Zz rfl (fun f => ?_) (fun f => ?_)
 ·have aD := f
  have f := bf_t (Qj f)
  first | (have a2 := Zbo f.1; have a3 := f.1.2; have a4 := f.2) | skip
  refine Zh fun bP a5 => ?_
  refine Zc ?_
  have a6 := ((z.ch0 G).ch0 H).ch I (nS om)
  refine Za rfl rfl (Zi a6.at_ agg57 sz57 rfl) (Zl rfl rfl ?_)
  have a7 := (((((Y.ch0 C8).ch0 C9).ch F (nS om)).ch0 G).ch0 H).ch I (nS om)
  refine Zk (off := 0) 2 a7 sz57 rfl (us := [(.int .i64 hF), (.slice d (a).length e)]) rfl rfl rfl rfl fun ac J aw => ?_
  have a8 := aw.size
  have E := E.step aw (lS om)
  replace J : Blk ac aA 57 [(.int .i64 hF), (.slice d (a).length e)] := J
  refine Za rfl rfl (Zf rfl) (Ze (Zb (a5 _ _ ?_)))
  refine Zv (Zt ?_)
  have a9 := (((((j.ch0 C9).ch F (dS b c om)).ch0 G).ch0 H).ch I (dS b c om)).ch aw (dS b c om)
  have ba := (((((h.ch0 C9).ch F (oS om)).ch0 G).ch0 H).ch I (oS om)).ch aw (oS om)
  have ad : Ol Gv.cs 36 2 ac (.slice d (a).length e) a := by
   have hx := a9
   exact hx
  have ae : OdG 3 129 ac w.heap.size ac.heap.size a (chG hF hG n) := by
   have hx := ba.up (lo' := w.heap.size) (hi' := ac.heap.size) om om
   first | (rw [← Zgb f]; exact hx) | (rw [← Zgu f]; exact hx)
  exact Zj [_, _] (Zn J rfl agg57 sz57 ⟨rfl, trivial⟩) ⟨(.slice d (a).length e), a, ((congrArg (fun zq => (Value.tuple #[.agg #[.int .i64 zq, (.slice d (a).length e)], .bool false])) (by first | exact Zfz f | exact Zbz f)).trans (congrArg (fun zq => (Value.tuple #[.agg #[.int .i64 (chF hF hG n), (.slice d (a).length e)], .bool zq])) (by first | exact Zu f | exact Xt f))), ad, (Lo.down b om), ae, i, E⟩
 have aD := f
 have f := bt_t (Qk f)
 first | (have a2 := Zbo f.1; have a3 := f.1.2; have a4 := f.2) | skip
 refine Yf ?_
 refine Zb (aR _ _ ?_)
 refine Zh fun bQ bb => ?_
 refine Zc (Za rfl rfl (Zd fa57_1 rfl) ?_)
 have aH := ((z.ch0 G).ch0 H).ch I (nS om)
 refine Za rfl rfl (Zp aH.at_ agg55 rfl rfl) (Za rfl rfl (Zg rfl) (Za rfl rfl (Zd fa57_0 rfl) ?_))
 have bc := ((aF.ch0 G).ch0 H).ch I (nS om)
 refine Za rfl rfl (Zp bc.at_ agg3 rfl rfl) (Za rfl rfl (Xe om rfl rfl) (Zl rfl rfl ?_))
 have be := ((((j.ch0 C9).ch F (dS b c om)).ch0 G).ch0 H).ch I (dS b c om)
 have bf := ((((h.ch0 C9).ch F (oS om)).ch0 G).ch0 H).ch I (oS om)
 refine (Zeu (ys := (a.drop ((n - hF).toNat))) ((n - hF).toNat) a.length be Gv.len el55 sz36 rfl ⟨_, _, rfl, by omega⟩ rfl om om (Zcb _ _) fun bg af r aI => ?_)
 obtain ⟨s, t, rfl, bh, bi⟩ := af.opn
 have aE := (bf).dropN ((n - hF).toNat)
 have ag := (i.dropN ((n - hF).toNat)).of r
 refine Za rfl rfl (Zd fa57_1 rfl) (Zl rfl rfl ?_)
 refine Zy (off := 1) aH sz55 rfl rfl rfl rfl fun bj K ah => ?_
 have bk := ah.size
 have E := E.step ah (lS om)
 replace K : Blk bj ao 57 [(.int .i64 hF), (.slice s ((a.drop ((n - hF).toNat))).length t)] := K
 refine Ze (Zb (bb _ _ ?_))
 refine Zh fun bR bm => ?_
 refine Zc (Za rfl rfl (Zg rfl) (Za rfl rfl (Zd fa57_0 rfl) (Zl rfl rfl ?_)))
 refine Zy (off := 0) K sz3 rfl rfl rfl rfl fun bn L ai => ?_
 have bp := ai.size
 have E := E.step ai (lS om)
 replace L : Blk bn ao 57 [(.int .i64 n), (.slice s ((a.drop ((n - hF).toNat))).length t)] := L
 refine Ze (Zb (bm _ _ ?_))
 refine Zh fun bS bq => ?_
 refine Zc (Za rfl rfl (Zi L.at_ agg57 sz57 rfl) (Zl rfl rfl ?_))
 have br := (((((((Y.ch0 C8).ch0 C9).ch F (nS om)).ch0 G).ch0 H).ch I (nS om)).ch ah (nS om)).ch ai (nS om)
 refine Zk (off := 0) 2 br sz57 rfl (us := [(.int .i64 n), (.slice s ((a.drop ((n - hF).toNat))).length t)]) rfl rfl rfl rfl fun aj M ax => ?_
 have bs := ax.size
 have E := E.step ax (lS om)
 replace M : Blk aj aA 57 [(.int .i64 n), (.slice s ((a.drop ((n - hF).toNat))).length t)] := M
 refine Za rfl rfl (Zf rfl) (Ze (Zb (bq _ _ ?_)))
 refine Zv ?_
 have bu := ((af.ch ah (fun g hg hm => by have aJ := List.mem_singleton.1 hm; rw [r] at hg; have aK := b _ hg; have aL := c _ hg; omega)).ch ai (fun g hg hm => by have aJ := List.mem_singleton.1 hm; rw [r] at hg; have aK := b _ hg; have aL := c _ hg; omega)).ch ax (fun g hg hm => by have aJ := List.mem_singleton.1 hm; rw [r] at hg; have aK := b _ hg; have aL := c _ hg; omega)
 have bv := ((aE.ch ah (oS om)).ch ai (oS om)).ch ax (oS om)
 have ak : Ol Gv.cs 36 2 aj (.slice s ((a.drop ((n - hF).toNat))).length t) (a.drop ((n - hF).toNat)) := by
  have hx := bu
  exact hx
 have al : OdG 3 129 aj w.heap.size aj.heap.size (a.drop ((n - hF).toNat)) (chG hF hG n) := by
  have hx := bv.up (lo' := w.heap.size) (hi' := aj.heap.size) om om
  first | (rw [← Zgb f]; exact hx) | (rw [← Zgu f]; exact hx)
 exact Zj [_, _] (Zn M rfl agg57 sz57 ⟨rfl, trivial⟩) ⟨(.slice s ((a.drop ((n - hF).toNat))).length t), (a.drop ((n - hF).toNat)), ((congrArg (fun zq => (Value.tuple #[.agg #[.int .i64 zq, (.slice s ((a.drop ((n - hF).toNat))).length t)], .bool true])) (by first | exact Zfz f | exact Zbz f)).trans (congrArg (fun zq => (Value.tuple #[.agg #[.int .i64 (chF hF hG n), (.slice s ((a.drop ((n - hF).toNat))).length t)], .bool zq])) (by first | exact Zu f | exact Xt f))), ak, (Lo.down (fun g hg => b g (r ▸ hg)) om), al, ag, E⟩

/-- slices.Equal[[]impl.Edge,impl.Edge] -/
theorem Zav {w : World} {LL_a C : Nat} {q : Value} {a : List GEdge} (h : Ls GEdge.cs 4 w LL_a C q a) {LL_b D : Nat} {r : Value} {b : List GEdge} (j : Ls GEdge.cs 4 w LL_b D r b) :
 Ctr Try.prog 94 #[q, r] w (fun v w' => v = .bool (decide (a = b)) ∧ Ch [] w w') := by
 obtain ⟨s, u, x⟩ := h.val
 subst x
 have M := h.len
 have h := h.here (by decide)
 obtain ⟨y, z, A⟩ := j.val
 subst A
 have O := j.len
 have j := j.here (by decide)
 have E := Ch.refl [] w
 refine Yj (N := 26) (vs0 := [(.slice s a.length u), (.slice y b.length z)]) Try.func94 rfl rfl rfl ?_
 refine Zh fun K1 H1 => ?_
 refine Zc (Za rfl rfl (Zf rfl) (Ze (Zb (H1 _ _ ?_))))
 refine Zh fun K2 H2 => ?_
 refine Zh fun K3 H3 => ?_
 refine Zc (Za rfl rfl (Zg rfl) (Za rfl rfl (Yr (by rw [el34]; rfl) rfl) (Za rfl rfl (Zg rfl) (Za rfl rfl (Yr (by rw [el34]; rfl) rfl) (Za rfl rfl (Zfn rfl rfl) (Ze (Zb (H3 _ _ ?_))))))))
 refine Zz rfl (fun d => ?_) (fun d => ?_)
 ·have P := d
  have d := Yu (Qj d)
  refine Zh fun K5 H5 => ?_
  refine Zc (Za rfl rfl (Zf rfl) (Ze (Zb (H5 _ _ ?_))))
  refine Zv (Zt ?_)
  exact Zj [_] ⟨rfl, trivial⟩ ⟨congrArg Value.bool (decide_eq_false (fun e => d (by rw [e]))).symm, E⟩
 have P := d
 have d := Yt (Qk d)
 refine Yf ?_
 refine Zb (H2 _ _ ?_)
 refine Zh fun K6 H6 => ?_
 refine Zh fun K7 H7 => ?_
 refine Zc (Za rfl rfl (Zg rfl) (Za rfl rfl (Yr (by rw [el34]; rfl) rfl) (Za rfl rfl (Zg rfl) (Ze (Zb (H7 _ _ ?_))))))
 refine Yn ?_
 refine Ql (σ := Nat) (fun (k : Nat) => [(0, (.slice s a.length u)), (1, (.slice y b.length z)), (12, (.int .i64 ((a.length : Nat) : Int))), (13, (.int .i64 ((k : Nat) : Int)))]) (fun (k : Nat) wx => Ch [] w wx ∧ w.heap.size ≤ wx.heap.size ∧ (k ≤ a.length) ∧ (a.take k = b.take k)) (fun (k : Nat) => a.length - k) 0 (sC4 rfl rfl rfl rfl (Sub.nil _)) ⟨E, (Nat.le_refl _), om, rfl⟩ ?_
 rintro k R8 ⟨E, Q, ac, J⟩
 have p := E
 have K := p.size
 refine Zh fun K9 H9 => ?_
 refine Zc (Za rfl rfl (Qw rfl rfl) (Ze (Zb (H9 _ _ ?_))))
 refine Zh fun ad R => ?_
 refine Zz rfl (fun g => ?_) (fun g => ?_)
 ·have F := g
  have g := Yt g
  refine Yf ?_
  refine Zb (R _ _ ?_)
  refine Zh fun ae L => ?_
  refine Yn ?_
  refine Zh fun af S => ?_
  refine Zc (Za rfl rfl (Zg rfl) (Za rfl rfl (Zf rfl) (Ze (Zb (S _ _ ?_)))))
  refine Zh fun ag T => ?_
  refine Yv [] 9 mixed rfl fun ah B => ?_
  have U := B.size
  have E := E.trans B
  refine dV 0 rfl rfl rfl (fun _ => Zg rfl) (dV 1 rfl rfl rfl (fun _ => Zg rfl) ?_)
  have V := (h.ch0 p).ch0 B
  refine dT 2 rfl rfl rfl (Xh V GEdge.len el34 sz129 rfl rfl rfl om fun X l n G => ?_)
  refine dT 3 rfl rfl rfl (Ye G (fun i hi => absurd hi List.not_mem_nil) agg129 sz129 rfl ?_)
  refine dV 4 rfl rfl rfl (fun _ => Zg rfl) (dV 5 rfl rfl rfl (fun _ => Zg rfl) ?_)
  have Y := (j.ch0 p).ch0 B
  refine dT 6 rfl rfl rfl (Xh Y GEdge.len el34 sz129 rfl rfl rfl om fun Z m o H => ?_)
  refine dT 7 rfl rfl rfl (Ye H (fun i hi => absurd hi List.not_mem_nil) agg129 sz129 rfl ?_)
  refine dV 8 rfl rfl rfl (fun _ => Zim [l.id, l.f, l.t, l.label] [m.id, m.f, m.t, m.label] ist129 rfl rfl rfl) ?_
  refine Zw (by kernel_rfl) ?_
  refine Zb (T _ _ ?_)
  refine Zz rfl (fun c => ?_) (fun c => ?_)
  ·have I := c
   have c := Yu (Qj c)
   refine Zh fun ai aa => ?_
   refine Zc (Za rfl rfl (Zf rfl) (Ze (Zb (aa _ _ ?_))))
   refine Zv (Yq (Zt (Zt (Yq (Zt ?_)))))
   clear H6 L
   exact Zj [_] ⟨rfl, trivial⟩ ⟨congrArg Value.bool (decide_eq_false (Zbu n o (fun e => c (by rw [e])))).symm, E⟩
  have I := c
  have c := Yt (Qk c)
  refine Yf ?_
  refine Yc (Zb (L _ _ (Zc (Za rfl rfl (Xc om rfl rfl) (Za rfl rfl (Zg rfl) (Ze ?_))))))
  exact Zb (Exists.intro (k + 1) ⟨⟨E, om, om, (Zbk J n o (GEdge.inj c))⟩, sC4 rfl rfl rfl rfl (Sub.nil _), (by first | omega | (dsimp only; omega))⟩)
 have F := g
 have g := Yu g
 refine Xx (Yh (Yh (Xg ?_)))
 refine Zb (H6 _ _ ?_)
 refine Zh fun aj ab => ?_
 refine Zc (Za rfl rfl (Zf rfl) (Ze (Zb (ab _ _ ?_))))
 refine Zv ?_
 exact Zj [_] ⟨rfl, trivial⟩ ⟨congrArg Value.bool (decide_eq_true (Zbf J om om)).symm, E⟩

/-- impl.EqualGraphs -/
theorem Zbb {w : World} {LL_aV y : Nat} {g : Value} {aV : List Int} (a : Ls ics 1 w LL_aV y g aV) {LL_aE z : Nat} {h : Value} {aE : List GEdge} (b : Ls GEdge.cs 4 w LL_aE z h aE) {LL_bV A : Nat} {i : Value} {bV : List Int} (c : Ls ics 1 w LL_bV A i bV) {LL_bE B : Nat} {j : Value} {bE : List GEdge} (e : Ls GEdge.cs 4 w LL_bE B j bE) :
 Ctr Try.prog 38 #[(.agg #[g, h]), (.agg #[i, j])] w (fun v w' => v = .bool (decide (aV = bV ∧ aE = bE)) ∧ Ch [] w w') := by
 obtain ⟨k, l, s⟩ := a.val
 subst s
 have G := a.len
 have a := a.here (by decide)
 obtain ⟨m, n, t⟩ := b.val
 subst t
 have H := b.len
 have b := b.here (by decide)
 obtain ⟨o, p, u⟩ := c.val
 subst u
 have I := c.len
 have c := c.here (by decide)
 obtain ⟨q, r, x⟩ := e.val
 subst x
 have J := e.len
 have e := e.here (by decide)
 have E := Ch.refl [] w
 refine Yj (N := 17) (vs0 := [(.agg #[(.slice k aV.length l), (.slice m aE.length n)]), (.agg #[(.slice o bV.length p), (.slice q bE.length r)])]) Try.func38 rfl rfl rfl ?_
 refine Zh fun K1 H1 => ?_
 refine Zc (Zl rfl rfl ?_)
 refine Xm rfl fun L W2 D C2 X => ?_
 have Y := C2.size
 have E := E.trans C2
 have Z := D.lt
 replace D : Blk W2 L 36 [(.slice k aV.length l), (.slice m aE.length n)] := D
 refine Zl rfl rfl ?_
 refine Xm rfl fun M W3 C C3 aa => ?_
 have ab := C3.size
 have E := E.trans C3
 have ac := C.lt
 replace C : Blk W3 M 36 [(.slice o bV.length p), (.slice q bE.length r)] := C
 refine Za rfl rfl (Zf rfl) (Ze (Zb (H1 _ _ ?_)))
 refine Zh fun K4 H4 => ?_
 refine Zc (Za rfl rfl (Zd fa36_0 rfl) ?_)
 have F5 := D.ch0 C3
 refine Za rfl rfl (Zp F5.at_ agg22 rfl rfl) (Za rfl rfl (Zd fa36_0 rfl) (Za rfl rfl (Zp C.at_ agg22 rfl rfl) (Zl rfl rfl ?_)))
 have F6 := (a.ch0 C2).ch0 C3
 have F7 := (c.ch0 C2).ch0 C3
 refine Step.call (Zm (xs := [.tmp 6, .tmp 8]) fk87 rfl) (Zbc F6 F7 ) fun ad W8 O => ?_
 obtain ⟨rfl, C8⟩ := O
 have ae := C8.size
 have E := E.trans C8
 refine Za rfl rfl (Zg rfl) ?_
 refine Yy (d := 10) rfl (fun f => ?_) (fun f => ?_)
 ·have P := f
  have f := Yt f
  refine Za rfl rfl (Zd fa36_1 rfl) ?_
  have Q := F5.ch0 C8
  refine Za rfl rfl (Zp Q.at_ agg34 rfl rfl) (Za rfl rfl (Zd fa36_1 rfl) ?_)
  have R := C.ch0 C8
  refine Za rfl rfl (Zp R.at_ agg34 rfl rfl) (Zl rfl rfl ?_)
  have S := ((b.ch0 C2).ch0 C3).ch0 C8
  have T := ((e.ch0 C2).ch0 C3).ch0 C8
  refine Step.call (Zm (xs := [.tmp 12, .tmp 14]) fk94 rfl) (Zav S T ) fun U af F => ?_
  obtain ⟨rfl, K⟩ := F
  have V := K.size
  have E := E.trans K
  refine Za rfl rfl (Ym rfl rfl) (Za rfl rfl (Zf rfl) (Ze (Zb (H4 _ _ ?_))))
  refine Zv ?_
  exact Zj [_] ⟨rfl, trivial⟩ ⟨congrArg Value.bool (by simp_all), E⟩
 have P := f
 have f := Yu f
 refine Zo rfl rfl (Zo rfl rfl (Zo rfl rfl (Zo rfl rfl (Zo rfl rfl (Za rfl rfl (Yl rfl rfl) (Za rfl rfl (Zf rfl) (Ze ?_)))))))
 refine Zb (H4 _ _ ?_)
 refine Zv ?_
 exact Zj [_] ⟨rfl, trivial⟩ ⟨congrArg Value.bool (by simp_all), E⟩

/-- slices.EqualFunc[[]impl.Graph,[]impl.Graph,impl.Graph,impl.Graph] -/
theorem Qc {w : World} {LL_sa U : Nat} {H : Value} {sa : List Gv} (g : Ls Gv.cs 2 w LL_sa U H sa) {LR_a BB_a : Nat} {a : List GD} (n : RdG w LR_a BB_a sa a) {LL_sb X : Nat} {I : Value} {sb : List Gv} (h : Ls Gv.cs 2 w LL_sb X I sb) {LR_b BB_b : Nat} {b : List GD} (o : RdG w LR_b BB_b sb b) :
 Ctr Try.prog 84 #[H, I, (.func (.func 38) #[] #[])] w (fun v w' => v = .bool (tt (a = b)) ∧ Ch [] w w') := by
 obtain ⟨J, K, O⟩ := g.val
 subst O
 have am := g.len
 have g := g.here (by decide)
 have n := n.here
 have Y := n.1
 obtain ⟨L, M, P⟩ := h.val
 subst P
 have an := h.len
 have h := h.here (by decide)
 have o := o.here
 have Z := o.1
 have E := Ch.refl [] w
 refine Yj (N := 32) (vs0 := [(.slice J sa.length K), (.slice L sb.length M), (.func (.func 38) #[] #[])]) Try.func84 rfl rfl rfl ?_
 refine Zh fun K1 H1 => ?_
 refine Zc (Za rfl rfl (Zf rfl) (Ze (Zb (H1 _ _ ?_))))
 refine Zh fun K2 H2 => ?_
 refine Zh fun K3 H3 => ?_
 refine Zc (Za rfl rfl (Zg rfl) (Za rfl rfl (Yr (by rw [el55]; rfl) rfl) (Za rfl rfl (Zg rfl) (Za rfl rfl (Yr (by rw [el55]; rfl) rfl) (Za rfl rfl (Zfn rfl rfl) (Ze (Zb (H3 _ _ ?_))))))))
 refine Zz rfl (fun i => ?_) (fun i => ?_)
 ·have ax := i
  have i := Yu (Qj i)
  refine Zh fun K5 H5 => ?_
  refine Zc (Za rfl rfl (Zf rfl) (Ze (Zb (H5 _ _ ?_))))
  refine Zv (Zt ?_)
  exact Zj [_] ⟨rfl, trivial⟩ ⟨congrArg Value.bool (Zu (fun e => i (by rw [Y, Z, e]))), E⟩
 have ax := i
 have i := Yt (Qk i)
 refine Yf ?_
 refine Zb (H2 _ _ ?_)
 refine Zh fun K6 H6 => ?_
 refine Zh fun K7 H7 => ?_
 refine Zc (Za rfl rfl (Zg rfl) (Za rfl rfl (Yr (by rw [el55]; rfl) rfl) (Za rfl rfl (Zg rfl) (Ze (Zb (H7 _ _ ?_))))))
 refine Yn ?_
 refine Ql (σ := Nat) (fun (k : Nat) => [(1, (.slice L sb.length M)), (2, (.func (.func 38) #[] #[])), (15, (.slice J sa.length K)), (16, (.int .i64 ((sa.length : Nat) : Int))), (17, (.int .i64 ((k : Nat) : Int)))]) (fun (k : Nat) wx => Ch [] w wx ∧ w.heap.size ≤ wx.heap.size ∧ (k ≤ a.length) ∧ (a.take k = b.take k)) (fun (k : Nat) => a.length - k) 0 (sC4 rfl rfl rfl rfl (sC1 rfl (Sub.nil _))) ⟨E, (Nat.le_refl _), om, rfl⟩ ?_
 rintro k R8 ⟨E, ay, a7, ao⟩
 have p := E
 have ap := p.size
 refine Zh fun K9 H9 => ?_
 refine Zc (Za rfl rfl (Qw rfl rfl) (Ze (Zb (H9 _ _ ?_))))
 refine Zh fun a8 az => ?_
 refine Zz rfl (fun m => ?_) (fun m => ?_)
 ·have ae := m
  have m := Yt m
  refine Yf ?_
  refine Zb (az _ _ ?_)
  refine Zh fun a9 aq => ?_
  refine Yn ?_
  refine Zh fun ba aA => ?_
  refine Zc (Za rfl rfl (Zg rfl) (Zl rfl rfl ?_))
  have aB := g.ch0 p
  refine (Qm aB Gv.len el55 sz36 rfl rfl rfl om fun aC af aa ag => ?_)
  have aD := n.ch0 p
  obtain ⟨c, q, j, r⟩ := aD.get aa
  obtain ⟨⟨y, aE, z⟩, ⟨A, aF, B⟩⟩ := af
  obtain rfl := j.eqn
  obtain rfl := r.eqn
  have aG := j.len
  have aH := r.len
  replace j : Ls ics 1 R8 LR_a w.heap.size (.slice y c.V.length z) c.V := j
  replace r : Ls GEdge.cs 4 R8 LR_a w.heap.size (.slice A c.E.length B) c.E := r
  refine Za rfl rfl (Zi ag agg36 sz36 rfl) (Zl rfl rfl ?_)
  refine Yd zr36 fun au aI ac S bb => ?_
  have aJ := S.size
  have E := E.trans S
  have bc := ac.lt
  replace ac : Blk aI au 36 [(.slice none 0 0), (.slice none 0 0)] := ac
  refine Za rfl rfl (Zf rfl) (Zl rfl rfl ?_)
  refine Zk (off := 0) 2 ac sz36 rfl (us := [(.slice y c.V.length z), (.slice A c.E.length B)]) rfl rfl rfl rfl fun ah s T => ?_
  have aK := T.size
  have E := E.step T (lS om)
  replace s : Blk ah au 36 [(.slice y c.V.length z), (.slice A c.E.length B)] := s
  refine Ze (Zb (aA _ _ ?_))
  refine Zh fun be aL => ?_
  refine Zc (Za rfl rfl (Zg rfl) (Za rfl rfl (Zg rfl) (Zl rfl rfl ?_)))
  have aM := ((h.ch0 p).ch0 S).ch T (oS om)
  refine (Qm aM Gv.len el55 sz36 rfl rfl rfl om fun aN ai ab aj => ?_)
  have aO := ((o.ch0 p).ch0 S).ch T (oS om)
  obtain ⟨d, t, l, u⟩ := aO.get ab
  obtain ⟨⟨C, aP, D⟩, ⟨F, aQ, G⟩⟩ := ai
  obtain rfl := l.eqn
  obtain rfl := u.eqn
  have aR := l.len
  have aS := u.len
  replace l : Ls ics 1 ah LR_b w.heap.size (.slice C d.V.length D) d.V := l
  replace u : Ls GEdge.cs 4 ah LR_b w.heap.size (.slice F d.E.length G) d.E := u
  refine Za rfl rfl (Zi aj agg36 sz36 rfl) (Zl rfl rfl ?_)
  refine Yd zr36 fun av aT ad Q bf => ?_
  have aU := Q.size
  have E := E.trans Q
  have bg := ad.lt
  replace ad : Blk aT av 36 [(.slice none 0 0), (.slice none 0 0)] := ad
  refine Zl rfl rfl ?_
  refine Zk (off := 0) 2 ad sz36 rfl (us := [(.slice C d.V.length D), (.slice F d.E.length G)]) rfl rfl rfl rfl fun aV x R => ?_
  have aW := R.size
  have E := E.step R (lS om)
  replace x : Blk aV av 36 [(.slice C d.V.length D), (.slice F d.E.length G)] := x
  refine Ze (Zb (aL _ _ ?_))
  refine Zh fun bh aX => ?_
  refine Zc (Za rfl rfl (Zg rfl) ?_)
  have aY := (s.ch0 Q).ch R (nS om)
  refine Za rfl rfl (Zi aY.at_ agg36 sz36 rfl) (Za rfl rfl (Zi x.at_ agg36 sz36 rfl) (Zl rfl rfl ?_))
  have aZ := (((j.ch0 S).ch T (oS om)).ch0 Q).ch R (oS om)
  have a0 := (((r.ch0 S).ch T (oS om)).ch0 Q).ch R (oS om)
  have a1 := (l.ch0 Q).ch R (oS om)
  have a2 := (u.ch0 Q).ch R (oS om)
  refine Step.call (Ziv (xs := [.tmp 27, .tmp 28]) (as' := [(.agg #[(.slice y c.V.length z), (.slice A c.E.length B)]), (.agg #[(.slice C d.V.length D), (.slice F d.E.length G)])]) fk38 rfl rfl rfl) (Zbb aZ a0 a1 a2 ) fun a3 bi ak => ?_
  obtain ⟨rfl, aw⟩ := ak
  have a4 := aw.size
  have E := E.trans aw
  refine Za rfl rfl (Xp rfl) (Ze (Zb (aX _ _ ?_)))
  refine Zz rfl (fun f => ?_) (fun f => ?_)
  ·have al := f
   have f := Yu (Qj f)
   refine Zh fun bj a5 => ?_
   refine Zc (Za rfl rfl (Zf rfl) (Ze (Zb (a5 _ _ ?_))))
   refine Zv (Yq (Zt (Zt (Yq (Zt ?_)))))
   clear H6 aq
   exact Zj [_] ⟨rfl, trivial⟩ ⟨congrArg Value.bool (Zu (Zbu q t (fun e => f ⟨by rw [e], by rw [e]⟩))), E⟩
  have al := f
  have f := Yt (Qk f)
  refine Yf ?_
  refine Yc (Zb (aq _ _ (Zc (Za rfl rfl (Xc om rfl rfl) (Za rfl rfl (Zg rfl) (Ze ?_))))))
  exact Zb (Exists.intro (k + 1) ⟨⟨E, om, om, (Zbk ao q t (GD.ext2 f.1 f.2))⟩, sC4 rfl rfl rfl rfl (sC1 rfl (Sub.nil _)), (by first | omega | (dsimp only; omega))⟩)
 have ae := m
 have m := Yu m
 refine Xx (Yh (Yh (Xg ?_)))
 refine Zb (H6 _ _ ?_)
 refine Zh fun bk a6 => ?_
 refine Zc (Za rfl rfl (Zf rfl) (Ze (Zb (a6 _ _ ?_))))
 refine Zv ?_
 exact Zj [_] ⟨rfl, trivial⟩ ⟨congrArg Value.bool (Xt (Zbf ao om om)), E⟩

end Go.Proofs.Ytkmhgeppenifoaa
