/- Walks of functions that FnExactFormatAutomaton reaches: what each returns, and that it leaves the memory that was there alone. -/
import Derived.Test.YtbnnkffdhnefnaaDoorLibA
import Derived.Test.YtbnnkffdhnefnaaDoorProg
namespace Go.Proofs.YtbnnkffdhnefnaaDoor
open Go.KLib Go.Shelf
set_option maxHeartbeats 1000000
set_option maxRecDepth 20000
set_option linter.unusedVariables false
set_option linter.unusedSimpArgs false
namespace TExactFormatAutomaton
theorem agg3 : Yd Tryd.prog 3 = some false := by kernel_rfl
theorem agg33 : Yd Tryd.prog 33 = some false := by kernel_rfl
theorem agg34 : Yd Tryd.prog 34 = some false := by kernel_rfl
theorem agg36 : Yd Tryd.prog 36 = some true := by kernel_rfl
theorem agg39 : Yd Tryd.prog 39 = some true := by kernel_rfl
theorem agg4 : Yd Tryd.prog 4 = some false := by kernel_rfl
theorem agg68 : Yd Tryd.prog 68 = some false := by kernel_rfl
theorem agg9 : Yd Tryd.prog 9 = some false := by kernel_rfl
theorem by3 : Zaw Tryd.prog 3 = some 8 := by kernel_rfl
theorem by4 : Zaw Tryd.prog 4 = some 1 := by kernel_rfl
theorem by68 : Zaw Tryd.prog 68 = some 24 := by kernel_rfl
theorem el33 : elB Tryd.prog 33 = some 4 := by kernel_rfl
theorem el34 : elB Tryd.prog 34 = some 68 := by kernel_rfl
theorem el60 : elB Tryd.prog 60 = some 9 := by kernel_rfl
theorem el68 : elB Tryd.prog 68 = some 3 := by kernel_rfl
theorem el81 : elB Tryd.prog 81 = some 5 := by kernel_rfl
theorem fa36_0 : faB Tryd.prog 36 0 = some 0 := by kernel_rfl
theorem fa36_1 : faB Tryd.prog 36 1 = some 1 := by kernel_rfl
theorem fa36_2 : faB Tryd.prog 36 2 = some 2 := by kernel_rfl
theorem fa39_0 : faB Tryd.prog 39 0 = some 0 := by kernel_rfl
theorem fa39_1 : faB Tryd.prog 39 1 = some 1 := by kernel_rfl
theorem fa39_2 : faB Tryd.prog 39 2 = some 2 := by kernel_rfl
theorem fk16 : fnB Tryd.prog 16 = true := by kernel_rfl
theorem fk17 : fnB Tryd.prog 17 = true := by kernel_rfl
theorem fk18 : fnB Tryd.prog 18 = true := by kernel_rfl
theorem fk19 : fnB Tryd.prog 19 = true := by kernel_rfl
theorem fk20 : fnB Tryd.prog 20 = true := by kernel_rfl
theorem fk27 : fnB Tryd.prog 27 = true := by kernel_rfl
theorem fk30 : fnB Tryd.prog 30 = true := by kernel_rfl
theorem fk35 : fnB Tryd.prog 35 = true := by kernel_rfl
theorem fk36 : fnB Tryd.prog 36 = true := by kernel_rfl
theorem fk37 : fnB Tryd.prog 37 = true := by kernel_rfl
theorem fk38 : fnB Tryd.prog 38 = true := by kernel_rfl
theorem fk39 : fnB Tryd.prog 39 = true := by kernel_rfl
theorem fk40 : fnB Tryd.prog 40 = true := by kernel_rfl
theorem fk41 : fnB Tryd.prog 41 = true := by kernel_rfl
theorem fk42 : fnB Tryd.prog 42 = true := by kernel_rfl
theorem fk43 : fnB Tryd.prog 43 = true := by kernel_rfl
theorem fk44 : fnB Tryd.prog 44 = true := by kernel_rfl
theorem fk52 : fnB Tryd.prog 52 = true := by kernel_rfl
theorem fk54 : fnB Tryd.prog 54 = true := by kernel_rfl
theorem fk56 : fnB Tryd.prog 56 = true := by kernel_rfl
theorem fk61 : fnB Tryd.prog 61 = true := by kernel_rfl
theorem fk62 : fnB Tryd.prog 62 = true := by kernel_rfl
theorem fk63 : fnB Tryd.prog 63 = true := by kernel_rfl
theorem fk64 : fnB Tryd.prog 64 = true := by kernel_rfl
theorem fk65 : fnB Tryd.prog 65 = true := by kernel_rfl
theorem fk66 : fnB Tryd.prog 66 = true := by kernel_rfl
theorem mixed : Tryd.prog.follows .mixedOrders = true := by kernel_rfl
theorem sz3 : Zu Tryd.prog 3 = some 1 := by kernel_rfl
theorem sz33 : Zu Tryd.prog 33 = some 1 := by kernel_rfl
theorem sz34 : Zu Tryd.prog 34 = some 1 := by kernel_rfl
theorem sz36 : Zu Tryd.prog 36 = some 3 := by kernel_rfl
theorem sz39 : Zu Tryd.prog 39 = some 3 := by kernel_rfl
theorem sz4 : Zu Tryd.prog 4 = some 1 := by kernel_rfl
theorem sz5 : Zu Tryd.prog 5 = some 1 := by kernel_rfl
theorem sz68 : Zu Tryd.prog 68 = some 1 := by kernel_rfl
theorem sz9 : Zu Tryd.prog 9 = some 1 := by kernel_rfl
theorem un3 : Tryd.prog.underlying 3 = some (.int .i64) := by kernel_rfl
theorem un4 : Tryd.prog.underlying 4 = some (.bool) := by kernel_rfl
theorem un5 : Tryd.prog.underlying 5 = some (.int .u8) := by kernel_rfl
theorem un9 : Tryd.prog.underlying 9 = some (.string) := by kernel_rfl
theorem zr3 : Xl Tryd.prog 3 = some (.int .i64 0) := by kernel_rfl
theorem zr39 : Xl Tryd.prog 39 = some (.agg #[.int .i64 0, .slice none 0 0, .slice none 0 0]) := by kernel_rfl
theorem zr4 : Xl Tryd.prog 4 = some (.bool false) := by kernel_rfl
theorem zr5 : Xl Tryd.prog 5 = some (.int .u8 0) := by kernel_rfl
theorem zr68 : Xl Tryd.prog 68 = some (.slice none 0 0) := by kernel_rfl
theorem zr9 : Xl Tryd.prog 9 = some (.string ⟨#[]⟩) := by kernel_rfl
end TExactFormatAutomaton
open TExactFormatAutomaton

shelf_lay Lays.n171 Nm 171 at Tryd as a
/-- strconv.Itoa -/
theorem Zat {w : World} (n : Int) (h : 0 ≤ n ∧ n < 100) :
 Ctr Tryd.prog 56 #[(.int .i64 n)] w (fun v w' => v = bst (Yw n) ∧ Ch [] w w') := by
 exact Zei a h

/-- impl.FormatInt -/
theorem Yx {w : World} (n : Int) (h : 0 ≤ n ∧ n < 100) :
 Ctr Tryd.prog 30 #[(.int .i64 n)] w (fun v w' => v = bst (Yw n) ∧ Ch [] w w') := by
 have E := Ch.refl [] w
 refine Zt (N := 5) (vs0 := [(.int .i64 n)]) Tryd.func30 rfl rfl rfl ?_
 refine Zf fun K1 H1 => ?_
 refine Zc (Za rfl rfl (Zd rfl) (Ze (Zb (H1 _ _ ?_))))
 refine Zf fun K2 H2 => ?_
 refine Zc (Za rfl rfl (Zg rfl) (Zr rfl rfl ?_))
 refine Step.call (Zs (xs := [.tmp 3]) fk56 rfl) (Zat _ h) fun b W3 a => ?_
 obtain ⟨rfl, C3⟩ := a
 have c := C3.size
 have E := E.trans C3
 refine Za rfl rfl (Zd rfl) (Ze (Zb (H2 _ _ ?_)))
 refine Zo ?_
 exact Zh [_] ⟨rfl, trivial⟩ ⟨congrArg bst (by first | rfl | simp_all), E⟩

/-- impl.within -/
theorem Xe {w : World} (n : Int) (a : Int) (b : Int) :
 Ctr Tryd.prog 54 #[(.int .i64 n), (.int .i64 a), (.int .i64 b)] w (fun v w' => v = .bool (decide (a ≤ n ∧ n ≤ b)) ∧ Ch [] w w') := by
 have E := Ch.refl [] w
 refine Zt (N := 15) (vs0 := [(.int .i64 n), (.int .i64 a), (.int .i64 b)]) Tryd.func54 rfl rfl rfl ?_
 refine Zf fun K1 H1 => ?_
 refine Zc (Za rfl rfl (Zd rfl) (Ze (Zb (H1 _ _ ?_))))
 refine Zf fun K2 H2 => ?_
 refine Zc (Za rfl rfl (Zg rfl) (Za rfl rfl (Zg rfl) (Za rfl rfl (Zcx rfl rfl) (Za rfl rfl (Zg rfl) ?_))))
 refine Xw (d := 10) rfl (fun c => ?_) (fun c => ?_)
 ·have e := c
  have c := Ya c
  refine Za rfl rfl (Zg rfl) (Za rfl rfl (Zg rfl) (Za rfl rfl (Zfc rfl rfl) (Za rfl rfl (Qj rfl rfl) (Za rfl rfl (Zd rfl) (Ze (Zb (H2 _ _ ?_)))))))
  refine Zo ?_
  exact Zh [_] ⟨rfl, trivial⟩ ⟨congrArg Value.bool (by first | rfl | (rw [Bool.eq_iff_iff]; simp <;> omega) | (rw [Bool.eq_iff_iff]; simp_all; done) | simp_all), E⟩
 have e := c
 have c := Yb c
 refine Zw rfl rfl (Zw rfl rfl (Zw rfl rfl (Za rfl rfl (Qu rfl rfl) (Za rfl rfl (Zd rfl) (Ze (Zb (H2 _ _ ?_)))))))
 refine Zo ?_
 exact Zh [_] ⟨rfl, trivial⟩ ⟨congrArg Value.bool (by first | rfl | (rw [Bool.eq_iff_iff]; simp <;> omega) | (rw [Bool.eq_iff_iff]; simp_all; done) | simp_all), E⟩

/-- impl.isLetter -/
theorem Zak {w : World} (n : Int) :
 Ctr Tryd.prog 65 #[(.int .i64 n)] w (fun v w' => v = .bool (decide (0 ≤ n ∧ n ≤ 8)) ∧ Ch [] w w') := by
 have E := Ch.refl [] w
 refine Zt (N := 5) (vs0 := [(.int .i64 n)]) Tryd.func65 rfl rfl rfl ?_
 refine Zf fun K1 H1 => ?_
 refine Zc (Za rfl rfl (Zd rfl) (Ze (Zb (H1 _ _ ?_))))
 refine Zf fun K2 H2 => ?_
 refine Zc (Za rfl rfl (Zg rfl) (Zr rfl rfl ?_))
 refine Step.call (Zs (xs := [.tmp 3, .const (Go.Value.int Go.IntKind.i64 0), .const (Go.Value.int Go.IntKind.i64 8)]) fk54 rfl) (Xe _ _ _ ) fun b W3 a => ?_
 obtain ⟨rfl, C3⟩ := a
 have c := C3.size
 have E := E.trans C3
 refine Za rfl rfl (Zd rfl) (Ze (Zb (H2 _ _ ?_)))
 refine Zo ?_
 exact Zh [_] ⟨rfl, trivial⟩ ⟨congrArg Value.bool rfl, E⟩

/-- impl.FormatLetter -/
theorem Xj {w : World} (n : Int) :
 Ctr Tryd.prog 42 #[(.int .i64 n)] w (fun v w' => v = bst (fmtL n) ∧ Ch [] w w') := by
 have E := Ch.refl [] w
 refine Zt (N := 10) (vs0 := [(.int .i64 n)]) Tryd.func42 rfl rfl rfl ?_
 refine Zf fun K1 H1 => ?_
 refine Zc (Za rfl rfl (Zd rfl) (Ze (Zb (H1 _ _ ?_))))
 refine Zf fun K2 H2 => ?_
 refine Zf fun K3 H3 => ?_
 refine Zc (Za rfl rfl (Zg rfl) (Zr rfl rfl ?_))
 refine Step.call (Zs (xs := [.tmp 3]) fk65 rfl) (Zak _ ) fun m W4 e => ?_
 obtain ⟨rfl, C4⟩ := e
 have o := C4.size
 have E := E.trans C4
 refine Za rfl rfl (Qb rfl) (Ze (Zb (H3 _ _ ?_)))
 refine Zl rfl (fun a => ?_) (fun a => ?_)
 ·have f := a
  have a := Yb (Xi a)
  refine Zf fun K6 H6 => ?_
  refine Zc (Za rfl rfl (Zd rfl) (Ze (Zb (H6 _ _ ?_))))
  refine Zo (Zk ?_)
  exact Zh [_] ⟨rfl, trivial⟩ ⟨congrArg bst (Zez om), E⟩
 have f := a
 have a := Ya (Xh a)
 refine Zm ?_
 refine Zb (H2 _ _ ?_)
 refine Zf fun K7 H7 => ?_
 refine Zc (Zr rfl rfl ?_)
 refine Xo (cs := scs) (parts := [(0, .const (Go.Value.string { data := #[97] })), (1, .const (Go.Value.string { data := #[97, 45] })), (2, .const (Go.Value.string { data := #[98] })), (3, .const (Go.Value.string { data := #[98, 45] })), (4, .const (Go.Value.string { data := #[99] })), (5, .const (Go.Value.string { data := #[99, 45] })), (6, .const (Go.Value.string { data := #[48] })), (7, .const (Go.Value.string { data := #[49] })), (8, .const (Go.Value.string { data := #[50] }))]) ([] : List UInt8) [[97], [97, 45], [98], [98, 45], [99], [99, 45], [48], [49], [50]] el60 sz9 zr9 Zbf (by decide) rfl rfl rfl (by decide) (by decide) rfl fun p W8 c g C8 => ?_
 have q := C8.size
 have E := E.trans C8
 obtain ⟨h, i, rfl, k, d⟩ := c.opn
 refine Za rfl rfl (Zg rfl) (Zr rfl rfl ?_)
 refine (Yf (j := n.toNat) c.ls Zbf el60 sz9 rfl rfl om (by first | omega | (simp; omega)) fun r s b l => ?_)
 refine Za rfl rfl (Zv l agg9 rfl rfl) (Za rfl rfl (Zd rfl) (Ze (Zb (H7 _ _ ?_))))
 refine Zo ?_
 exact Zh [_] ⟨rfl, trivial⟩ ⟨congrArg bst (Zfa om b), E⟩

/-- impl.IsValidAutomaton -/
theorem Qc {w : World} (aS : Int) {LL_aA O : Nat} {C : Value} {aA : List Bool} (y : Ls bcs 1 w LL_aA O C aA) {LL_saN H : Nat} {z : Value} {saN : List Sv} (j : Ls Sv.cs 1 w LL_saN H z saN) {LR_aN BB_aN : Nat} {aN : List (List Int)} (o : Rd ics 1 w LR_aN BB_aN saN aN) :
 Ctr Tryd.prog 41 #[(.agg #[(.int .i64 aS), C, z])] w (fun v w' => v = .bool (tt (Xd aS aA aN)) ∧ Ch [] w w') := by
 obtain ⟨D, F, I⟩ := y.val
 subst I
 have ao := y.len
 have y := y.here (by decide)
 obtain ⟨l, m, A⟩ := j.val
 subst A
 have V := j.len
 have j := j.here (by decide)
 have o := o.here (by decide)
 have X := o.1
 have E := Ch.refl [] w
 refine Zt (N := 52) (vs0 := [(.agg #[(.int .i64 aS), (.slice D aA.length F), (.slice l saN.length m)])]) Tryd.func41 rfl rfl rfl ?_
 refine Zf fun K1 H1 => ?_
 refine Zc (Zr rfl rfl ?_)
 refine Qy rfl fun aB W2 P C2 a9 => ?_
 have ba := C2.size
 have E := E.trans C2
 have bb := P.lt
 replace P : Blk W2 aB 39 [(.int .i64 aS), (.slice D aA.length F), (.slice l saN.length m)] := P
 refine Za rfl rfl (Zd rfl) (Ze (Zb (H1 _ _ ?_)))
 refine Zf fun K3 H3 => ?_
 refine Zc (Za rfl rfl (Zj fa39_1 rfl) (Za rfl rfl (Zp P.at_ agg33 rfl rfl) (Za rfl rfl (Yg (by rw [el33]; rfl) rfl) (Za rfl rfl (Zd rfl) (Ze (Zb (H3 _ _ ?_)))))))
 refine Zf fun K4 H4 => ?_
 refine Zf fun K5 H5 => ?_
 refine Zc (Za rfl rfl (Zg rfl) (Zr rfl rfl ?_))
 refine Step.call (Zs (xs := [.tmp 11, .const (Go.Value.int Go.IntKind.i64 1), .const (Go.Value.int Go.IntKind.i64 12)]) fk54 rfl) (Xe _ _ _ ) fun aC W6 Y => ?_
 obtain ⟨rfl, C6⟩ := Y
 have bc := C6.size
 have E := E.trans C6
 refine Za rfl rfl (Qb rfl) (Za rfl rfl (Zg rfl) ?_)
 refine Xw (d := 14) rfl (fun g => ?_) (fun g => ?_)
 ·have aD := g
  have g := Yb (Xi g)
  refine Zw rfl rfl (Zw rfl rfl (Zw rfl rfl (Zw rfl rfl (Zw rfl rfl (Zw rfl rfl (Za rfl rfl (Qj rfl rfl) (Za rfl rfl (Zg rfl) ?_)))))))
  refine Zw rfl rfl (Zw rfl rfl (Zw rfl rfl (Zw rfl rfl (Zw rfl rfl (Za rfl rfl (Qj rfl rfl) (Ze (Zb (H5 _ _ ?_))))))))
  refine Zci rfl ?_
  refine Zf fun K8 H8 => ?_
  refine Zc (Za rfl rfl (Zd rfl) (Ze (Zb (H8 _ _ ?_))))
  refine Zo (Zk ?_)
  exact Zh [_] ⟨rfl, trivial⟩ ⟨congrArg Value.bool (by first | exact Xa ⟨by omega, c, by omega, Yu J om⟩ | exact Zi (fun e => g (by have p := e.1; have Q := e.2.1; omega)) | exact Zi (fun e => c e.2.1) | exact Zi (fun e => h (by have p := e.2.2.1; omega)) | exact Zi (fun e => f (Yi e.2 a n)) | exact Zi (fun e => i (by have p := (Zy e.2 a).1; omega))), E⟩
 have aD := g
 have g := Ya (Xh g)
 refine Za rfl rfl (Zj fa39_0 rfl) ?_
 have F9 := P.ch0 C6
 refine Za rfl rfl (Zp F9.at_ agg3 rfl rfl) (Za rfl rfl (Zg rfl) (Za rfl rfl (Zcg om rfl rfl) (Zr rfl rfl ?_)))
 refine Step.call (Zs (xs := [.tmp 16, .const (Go.Value.int Go.IntKind.i64 0), .tmp 18]) fk54 rfl) (Xe _ _ _ ) fun aE aF Z => ?_
 obtain ⟨rfl, aa⟩ := Z
 have aG := aa.size
 have E := E.trans aa
 refine Za rfl rfl (Qb rfl) (Za rfl rfl (Qu rfl rfl) (Za rfl rfl (Zg rfl) ?_))
 refine Xw (d := 22) rfl (fun c => ?_) (fun c => ?_)
 ·have ab := c
  have c := Yb (Xi c)
  refine Zw rfl rfl (Zw rfl rfl (Zw rfl rfl (Zw rfl rfl (Zw rfl rfl (Za rfl rfl (Qj rfl rfl) (Ze (Zb (H5 _ _ ?_))))))))
  refine Zci rfl ?_
  refine Zf fun bd aH => ?_
  refine Zc (Za rfl rfl (Zd rfl) (Ze (Zb (aH _ _ ?_))))
  refine Zo (Zk ?_)
  exact Zh [_] ⟨rfl, trivial⟩ ⟨congrArg Value.bool (by first | exact Xa ⟨by omega, c, by omega, Yu J om⟩ | exact Zi (fun e => g (by have p := e.1; have Q := e.2.1; omega)) | exact Zi (fun e => c e.2.1) | exact Zi (fun e => h (by have p := e.2.2.1; omega)) | exact Zi (fun e => f (Yi e.2 a n)) | exact Zi (fun e => i (by have p := (Zy e.2 a).1; omega))), E⟩
 have ab := c
 have c := Ya (Xh c)
 refine Za rfl rfl (Zj fa39_2 rfl) ?_
 have ap := F9.ch0 aa
 refine Za rfl rfl (Zp ap.at_ agg34 rfl rfl) (Za rfl rfl (Yg (by rw [el34]; rfl) rfl) (Za rfl rfl (Zg rfl) (Za rfl rfl (Qz rfl rfl) (Za rfl rfl (Qu rfl rfl) (Ze (Zb (H5 _ _ ?_)))))))
 refine Zl rfl (fun h => ?_) (fun h => ?_)
 ·have ac := h
  have h := Yb (Xi h)
  refine Zf fun be aI => ?_
  refine Zc (Za rfl rfl (Zd rfl) (Ze (Zb (aI _ _ ?_))))
  refine Zo (Zk ?_)
  exact Zh [_] ⟨rfl, trivial⟩ ⟨congrArg Value.bool (by first | exact Xa ⟨by omega, c, by omega, Yu J om⟩ | exact Zi (fun e => g (by have p := e.1; have Q := e.2.1; omega)) | exact Zi (fun e => c e.2.1) | exact Zi (fun e => h (by have p := e.2.2.1; omega)) | exact Zi (fun e => f (Yi e.2 a n)) | exact Zi (fun e => i (by have p := (Zy e.2 a).1; omega))), E⟩
 have ac := h
 have h := Ya (Xh h)
 refine Zm ?_
 refine Zb (H4 _ _ ?_)
 refine Zf fun bf ad => ?_
 refine Zf fun bg aJ => ?_
 refine Zc (Za rfl rfl (Zj fa39_2 rfl) (Za rfl rfl (Zp ap.at_ agg34 rfl rfl) (Za rfl rfl (Yg (by rw [el34]; rfl) rfl) (Za rfl rfl (Zg rfl) (Ze (Zb (aJ _ _ ?_)))))))
 refine Zq ?_
 refine Yr (σ := Nat) (fun (s : Nat) => [(3, (.int .i64 ((aA.length : Nat) : Int))), (30, (.slice l saN.length m)), (31, (.int .i64 ((saN.length : Nat) : Int))), (32, (.int .i64 ((s : Nat) : Int)))]) (fun (s : Nat) wx => Ch [] w wx ∧ aF.heap.size ≤ wx.heap.size ∧ (s ≤ aN.length) ∧ (Zbp aA.length aN s)) (fun (s : Nat) => aN.length - s) 0 (sC4 rfl rfl rfl rfl (Sub.nil _)) ⟨E, (Nat.le_refl _), om, (Zbz _ _)⟩ ?_
 rintro s ae ⟨E, aK, hs, J⟩
 have K := E
 have aq := K.size
 refine Zf fun bh aL => ?_
 refine Zc (Za rfl rfl (Yl rfl rfl) (Ze (Zb (aL _ _ ?_))))
 refine Zf fun bi aM => ?_
 refine Zl rfl (fun r => ?_) (fun r => ?_)
 ·have af := r
  have r := Ya r
  refine Zm ?_
  refine Zb (aM _ _ ?_)
  refine Zf fun bj ag => ?_
  refine Zq ?_
  refine Zf fun bk aO => ?_
  refine Zc (Zr rfl rfl ?_)
  have au := j.ch0 K
  refine (Yf au Sv.len el34 sz68 rfl rfl rfl om fun L ah R B => ?_)
  have av := o.ch0 K
  obtain ⟨b, a, q⟩ := av.get R
  obtain ⟨t, aP, u⟩ := ah
  obtain rfl := q.eqn
  have aQ := q.len
  replace q : Ls ics 1 ae LR_aN w.heap.size (.slice t b.length u) b := q
  replace B : At ae LL_saN w.heap.size L ([(.slice t b.length u)]) := B
  refine Za rfl rfl (Zv B agg68 rfl rfl) (Za rfl rfl (Zd rfl) (Ze (Zb (aO _ _ ?_))))
  refine Zf fun bm aw => ?_
  refine Zf fun bn aR => ?_
  refine Zc (Za rfl rfl (Zg rfl) (Za rfl rfl (Yg (by rw [el68]; rfl) rfl) (Za rfl rfl (Zg rfl) (Ze (Zb (aR _ _ ?_))))))
  refine Zq ?_
  refine Yr (σ := Nat) (fun (k : Nat) => [(3, (.int .i64 ((aA.length : Nat) : Int))), (5, (.slice t b.length u)), (30, (.slice l saN.length m)), (31, (.int .i64 ((saN.length : Nat) : Int))), (32, (.int .i64 ((s : Nat) : Int))), (33, (.bool (decide (((s : Nat) : Int) < ((saN.length : Nat) : Int))))), (34, (.pointer (some L))), (35, (.slice t b.length u)), (36, (.slice t b.length u)), (37, (.int .i64 ((b.length : Nat) : Int))), (38, (.int .i64 ((k : Nat) : Int)))]) (fun (k : Nat) wx => Ch [] w wx ∧ ae.heap.size ≤ wx.heap.size ∧ (k ≤ b.length) ∧ (RowP aA.length b k) ∧ Ls Sv.cs 1 wx LL_saN w.heap.size (.slice l saN.length m) saN ∧ Rd ics 1 wx LR_aN w.heap.size saN aN ∧ At wx LL_saN w.heap.size L ([(.slice t b.length u)]) ∧ Ls ics 1 wx LR_aN w.heap.size (.slice t b.length u) b) (fun (k : Nat) => b.length - k) 0 (sC8 rfl rfl rfl rfl rfl rfl rfl rfl (sC2 rfl rfl (sC1 rfl (Sub.nil _)))) ⟨E, (Nat.le_refl _), om, (Zby _ _), au, av, B, q⟩ ?_
  rintro k bp ⟨E, aT, bq, hp, S, T, U, G⟩
  have ai := E
  have ax := ai.size
  refine Zf fun br aU => ?_
  refine Zc (Za rfl rfl (Yl rfl rfl) (Ze (Zb (aU _ _ ?_))))
  refine Zf fun bs ay => ?_
  refine Zl rfl (fun x => ?_) (fun x => ?_)
  ·have aj := x
   have x := Ya x
   refine Zm ?_
   refine Zb (ay _ _ ?_)
   refine Zf fun bu az => ?_
   refine Zq ?_
   refine Zf fun bv aV => ?_
   refine Zc (Zr rfl rfl ?_)
   refine (Yf G Yt el68 sz3 rfl rfl rfl om fun aW aX n ak => ?_)
   refine Za rfl rfl (Zv ak agg3 rfl rfl) (Za rfl rfl (Zd rfl) (Ze (Zb (aV _ _ ?_))))
   refine Zf fun bw aY => ?_
   refine Zc (Za rfl rfl (Zg rfl) (Za rfl rfl (Zg rfl) (Za rfl rfl (Zcg om rfl rfl) (Zr rfl rfl ?_))))
   refine Step.call (Zs (xs := [.tmp 42, .const (Go.Value.int Go.IntKind.i64 (-1)), .tmp 44]) fk54 rfl) (Xe _ _ _ ) fun aZ bx al => ?_
   obtain ⟨rfl, M⟩ := al
   have a0 := M.size
   have E := E.trans M
   refine Za rfl rfl (Qb rfl) (Ze (Zb (aY _ _ ?_)))
   refine Zl rfl (fun f => ?_) (fun f => ?_)
   ·have am := f
    have f := Yb (Xi f)
    refine Zf fun bz a1 => ?_
    refine Zc (Za rfl rfl (Zd rfl) (Ze (Zb (a1 _ _ ?_))))
    refine Zo (Ye (Zk (Zk (Ye (Zk (Ye (Zk (Zk (Ye (Zk ?_))))))))))
    clear ad ag aw az
    exact Zh [_] ⟨rfl, trivial⟩ ⟨congrArg Value.bool (by first | exact Xa ⟨by omega, c, by omega, Yu J om⟩ | exact Zi (fun e => g (by have p := e.1; have Q := e.2.1; omega)) | exact Zi (fun e => c e.2.1) | exact Zi (fun e => h (by have p := e.2.2.1; omega)) | exact Zi (fun e => f (Yi e.2 a n)) | exact Zi (fun e => i (by have p := (Zy e.2 a).1; omega))), E⟩
   have am := f
   have f := Ya (Xh f)
   refine Zm ?_
   refine Zx (Zb (az _ _ (Zc (Za rfl rfl (Yo om rfl rfl) (Za rfl rfl (Zg rfl) (Ze ?_))))))
   have a2 := S.ch0 M
   have a3 := T.ch0 M
   have a4 := U.ch0 M
   have a5 := G.ch0 M
   exact Zb (Exists.intro (k + 1) ⟨⟨E, om, om, (Zce hp n f), a2, a3, a4, a5⟩, sC8 rfl rfl rfl rfl rfl rfl rfl rfl (sC2 rfl rfl (sC1 rfl (Sub.nil _))), (by first | omega | (dsimp only; omega))⟩)
  have aj := x
  have x := Yb x
  refine Ys (Zn (Zn (Yh ?_)))
  refine Zb (aw _ _ ?_)
  refine Zf fun bA a6 => ?_
  refine Zc (Za rfl rfl (Zg rfl) (Za rfl rfl (Yg (by rw [el68]; rfl) rfl) (Za rfl rfl (Qz rfl rfl) (Ze (Zb (a6 _ _ ?_))))))
  refine Zl rfl (fun i => ?_) (fun i => ?_)
  ·have an := i
   have i := Yb (Xi i)
   refine Zf fun bB a7 => ?_
   refine Zc (Za rfl rfl (Zd rfl) (Ze (Zb (a7 _ _ ?_))))
   refine Zo (Ye (Zk (Zk (Ye (Zk ?_)))))
   clear ad ag ay
   exact Zh [_] ⟨rfl, trivial⟩ ⟨congrArg Value.bool (by first | exact Xa ⟨by omega, c, by omega, Yu J om⟩ | exact Zi (fun e => g (by have p := e.1; have Q := e.2.1; omega)) | exact Zi (fun e => c e.2.1) | exact Zi (fun e => h (by have p := e.2.2.1; omega)) | exact Zi (fun e => f (Yi e.2 a n)) | exact Zi (fun e => i (by have p := (Zy e.2 a).1; omega))), E⟩
  have an := i
  have i := Ya (Xh i)
  refine Zm ?_
  refine Zx (Zb (ag _ _ (Zc (Za rfl rfl (Yo om rfl rfl) (Za rfl rfl (Zg rfl) (Ze ?_))))))
  exact Zb (Exists.intro (s + 1) ⟨⟨E, om, om, (Zcd J a ⟨by omega, Zcw hp om⟩)⟩, sC4 rfl rfl rfl rfl (Sub.nil _), (by first | omega | (dsimp only; omega))⟩)
 have af := r
 have r := Yb r
 refine Ys (Zn (Zn (Yh ?_)))
 refine Zb (ad _ _ ?_)
 refine Zf fun bC a8 => ?_
 refine Zc (Za rfl rfl (Zd rfl) (Ze (Zb (a8 _ _ ?_))))
 refine Zo ?_
 exact Zh [_] ⟨rfl, trivial⟩ ⟨congrArg Value.bool (by first | exact Xa ⟨by omega, c, by omega, Yu J om⟩ | exact Zi (fun e => g (by have p := e.1; have Q := e.2.1; omega)) | exact Zi (fun e => c e.2.1) | exact Zi (fun e => h (by have p := e.2.2.1; omega)) | exact Zi (fun e => f (Yi e.2 a n)) | exact Zi (fun e => i (by have p := (Zy e.2 a).1; omega))), E⟩

/-- impl.FormatAutomaton -/
theorem Qf {w : World} (aS : Int) {LL_aA ad : Nat} {L : Value} {aA : List Bool} (x : Ls bcs 1 w LL_aA ad L aA) {LL_saN O : Nat} {D : Value} {saN : List Sv} (n : Ls Sv.cs 1 w LL_saN O D saN) {LR_aN BB_aN : Nat} {aN : List (List Int)} (u : Rd ics 1 w LR_aN BB_aN saN aN) :
 Ctr Tryd.prog 19 #[(.agg #[(.int .i64 aS), L, D])] w (fun v w' => v = bst (faR aS aA aN) ∧ Ch [] w w') := by
 obtain ⟨l, m, P⟩ := x.val
 subst P
 have aL := x.len
 have x := x.here (by decide)
 obtain ⟨a, b, K⟩ := n.val
 subst K
 have aj := n.len
 have n := n.here (by decide)
 have u := u.here (by decide)
 have ak := u.1
 have E := Ch.refl [] w
 have aX := Yp aS
 refine Zt (N := 56) (vs0 := [(.agg #[(.int .i64 aS), (.slice l aA.length m), (.slice a saN.length b)])]) Tryd.func19 rfl rfl rfl ?_
 refine Zf fun K1 H1 => ?_
 refine Zc (Zr rfl rfl ?_)
 refine Qy rfl fun Q W2 ae C2 b0 => ?_
 have b1 := C2.size
 have E := E.trans C2
 have b2 := ae.lt
 replace ae : Blk W2 Q 39 [(.int .i64 aS), (.slice l aA.length m), (.slice a saN.length b)] := ae
 refine Za rfl rfl (Zd rfl) (Ze (Zb (H1 _ _ ?_)))
 refine Zf fun K3 H3 => ?_
 refine Zf fun K4 H4 => ?_
 refine Zc (Za rfl rfl (Ym ae.at_ agg39 sz39 rfl) (Zr rfl rfl ?_))
 have F5 := x.ch0 C2
 have F6 := u.ch0 C2
 have F7 := n.ch0 C2
 refine Step.call (Zs (xs := [.tmp 8]) fk41 rfl) (Qc _ F5 F7 F6 ) fun b3 W8 aY => ?_
 obtain ⟨rfl, C8⟩ := aY
 have b4 := C8.size
 have E := E.trans C8
 refine Za rfl rfl (Qb rfl) (Ze (Zb (H4 _ _ ?_)))
 refine Zl rfl (fun f => ?_) (fun f => ?_)
 ·have aZ := f
  have f := bf_t (Xi f)
  first | have a0 := f.1 | skip
  first | have a1 := f.2.2.1 | skip
  first | have a2 := f.2.1 | skip
  refine Zf fun b5 a3 => ?_
  refine Zc (Za rfl rfl (Zd rfl) (Ze (Zb (a3 _ _ ?_))))
  refine Zo (Zk ?_)
  exact Zh [_] ⟨rfl, trivial⟩ ⟨congrArg bst (Zfx f), E⟩
 have aZ := f
 have f := bt_t (Xh f)
 first | have a0 := f.1 | skip
 first | have a1 := f.2.2.1 | skip
 first | have a2 := f.2.1 | skip
 refine Zm ?_
 refine Zb (H3 _ _ ?_)
 refine Zf fun b6 a4 => ?_
 refine Zc (Za rfl rfl (Zj fa39_0 rfl) ?_)
 have aM := ae.ch0 C8
 refine Za rfl rfl (Zp aM.at_ agg3 rfl rfl) (Zr rfl rfl ?_)
 refine Step.call (Zs (xs := [.tmp 12]) fk30 rfl) (Yx _ om) fun a5 a6 al => ?_
 obtain ⟨rfl, ac⟩ := al
 have a7 := ac.size
 have E := E.trans ac
 refine Za rfl rfl (Yc (by (first | omega | (simp only [List.length_append, List.length_cons, List.length_nil]; omega))) rfl rfl) (Za rfl rfl (Zd rfl) (Ze (Zb (a4 _ _ ?_))))
 refine Zf fun b7 a8 => ?_
 refine Zf fun b8 a9 => ?_
 refine Zc (Za rfl rfl (Zj fa39_2 rfl) ?_)
 have aO := aM.ch0 ac
 refine Za rfl rfl (Zp aO.at_ agg34 rfl rfl) (Za rfl rfl (Yg (by rw [el34]; rfl) rfl) (Za rfl rfl (Zg rfl) (Ze (Zb (a9 _ _ ?_)))))
 refine Zq ?_
 have ba := (F5.ch0 C8).ch0 ac
 have bb := (F7.ch0 C8).ch0 ac
 have bc := (F6.ch0 C8).ch0 ac
 refine Yr (σ := Nat × List UInt8) (fun ⟨i, s⟩ => [(1, (.pointer (some ⟨Q, 0, none⟩))), (2, (bst ([] : List UInt8))), (3, (bst s)), (16, (.slice a saN.length b)), (17, (.int .i64 ((saN.length : Nat) : Int))), (18, (.int .i64 ((i : Nat) : Int)))]) (fun ⟨i, s⟩ wx => Ch [] w wx ∧ a6.heap.size ≤ wx.heap.size ∧ (i ≤ aN.length) ∧ (s = faS aS aA aN i) ∧ Blk wx Q 39 [(.int .i64 aS), (.slice l aA.length m), (.slice a saN.length b)] ∧ Ls bcs 1 wx LL_aA w.heap.size (.slice l aA.length m) aA ∧ Ls Sv.cs 1 wx LL_saN w.heap.size (.slice a saN.length b) saN ∧ Rd ics 1 wx LR_aN w.heap.size saN aN) (fun ⟨i, s⟩ => aN.length - i) (0, ([115, 116, 97, 114, 116, 32] ++ (Yw aS))) (sC4 rfl rfl rfl rfl (sC2 rfl rfl (Sub.nil _))) ⟨E, (Nat.le_refl _), om, Zfv, aO, ba, bb, bc⟩ ?_
 rintro ⟨i, s⟩ aP ⟨E, bd, hi, hs, M, af, F, G⟩
 have am := E
 have aQ := am.size
 have an := M.lt
 have b9 : s.length ≤ 27 + 250 * i := by rw [hs]; exact Zbd _ _ _ _
 have ca := Yp (i : Int)
 refine Zf fun cb be => ?_
 refine Zc (Za rfl rfl (Yl rfl rfl) (Ze (Zb (be _ _ ?_))))
 refine Zf fun cc bf => ?_
 refine Zl rfl (fun B => ?_) (fun B => ?_)
 ·have ao := B
  have B := Ya B
  refine Zm ?_
  refine Zb (bf _ _ ?_)
  refine Zf fun cd aR => ?_
  refine Zq ?_
  refine Zf fun ce bg => ?_
  refine Zc (Za rfl rfl (Zg rfl) (Zr rfl rfl ?_))
  refine (Yf F Sv.len el34 sz68 rfl rfl rfl om fun ap aq ag R => ?_)
  obtain ⟨e, c, t⟩ := G.get ag
  obtain ⟨y, bh, A⟩ := aq
  obtain rfl := t.eqn
  have bi := t.len
  replace t : Ls ics 1 aP LR_aN w.heap.size (.slice y e.length A) e := t
  replace R : At aP LL_saN w.heap.size ap ([(.slice y e.length A)]) := R
  have bj := (Zy f.2 c).1
  refine Za rfl rfl (Zv R agg68 rfl rfl) (Za rfl rfl (Zd rfl) (Za rfl rfl (Zd rfl) (Ze (Zb (bg _ _ ?_)))))
  refine Zf fun cf bk => ?_
  refine Zc (Za rfl rfl (Zg rfl) (Za rfl rfl (Zg rfl) (Zr rfl rfl ?_)))
  refine Step.call (Zs (xs := [.tmp 24]) fk30 rfl) (Yx _ om) fun bm aT au => ?_
  obtain ⟨rfl, J⟩ := au
  have bn := J.size
  have E := E.trans J
  refine Za rfl rfl (Yc (by (first | omega | (simp only [List.length_append, List.length_cons, List.length_nil]; omega))) rfl rfl) (Za rfl rfl (Yc (by (first | omega | (simp only [List.length_append, List.length_cons, List.length_nil]; omega))) rfl rfl) (Za rfl rfl (Zd rfl) (Ze (Zb (bk _ _ ?_)))))
  refine Zf fun cg aU => ?_
  refine Zf fun ci bp => ?_
  refine Zc (Za rfl rfl (Zj fa39_1 rfl) ?_)
  have av := M.ch0 J
  refine Za rfl rfl (Zp av.at_ agg33 rfl rfl) (Za rfl rfl (Zg rfl) (Zr rfl rfl ?_))
  have aw := af.ch0 J
  refine (Yf aw Xu el33 sz4 rfl rfl rfl om fun bq ah C ax => ?_)
  refine Za rfl rfl (Zv ax agg4 rfl rfl) (Ze (Zb (bp _ _ ?_)))
  refine Zl rfl (fun H => ?_) (fun H => ?_)
  ·have ay := H
   refine Zc (Za rfl rfl (Zg rfl) (Za rfl rfl (Yc (by (first | omega | (simp only [List.length_append, List.length_cons, List.length_nil]; omega))) rfl rfl) (Za rfl rfl (Zd rfl) (Ze (Zb (aU _ _ ?_))))))
   refine Zf fun cj br => ?_
   refine Zc (Za rfl rfl (Zg rfl) (Za rfl rfl (Yg (by rw [el68]; rfl) rfl) (Za rfl rfl (Zg rfl) (Ze (Zb (br _ _ ?_))))))
   refine Zq ?_
   have bs := F.ch0 J
   have bu := G.ch0 J
   have bv := t.ch0 J
   refine Yr (σ := Nat × List UInt8) (fun ⟨k, z⟩ => [(1, (.pointer (some ⟨Q, 0, none⟩))), (2, (bst ([] : List UInt8))), (3, (bst z)), (4, (.int .i64 ((i : Nat) : Int))), (5, (.slice y e.length A)), (16, (.slice a saN.length b)), (17, (.int .i64 ((saN.length : Nat) : Int))), (18, (.int .i64 ((i : Nat) : Int))), (19, (.bool (decide (((i : Nat) : Int) < ((saN.length : Nat) : Int))))), (32, (.bool ah)), (35, (.slice y e.length A)), (36, (.int .i64 ((e.length : Nat) : Int))), (37, (.int .i64 ((k : Nat) : Int)))]) (fun ⟨k, z⟩ wx => Ch [] w wx ∧ aT.heap.size ≤ wx.heap.size ∧ (k ≤ 9) ∧ (z = faI aS aA aN i k) ∧ Blk wx Q 39 [(.int .i64 aS), (.slice l aA.length m), (.slice a saN.length b)] ∧ Ls bcs 1 wx LL_aA w.heap.size (.slice l aA.length m) aA ∧ Ls Sv.cs 1 wx LL_saN w.heap.size (.slice a saN.length b) saN ∧ Rd ics 1 wx LR_aN w.heap.size saN aN ∧ Ls ics 1 wx LR_aN w.heap.size (.slice y e.length A) e) (fun ⟨k, z⟩ => 9 - k) (0, ((s ++ ([59, 32] ++ (Yw ((i : Nat) : Int)))) ++ [42])) (sC8 rfl rfl rfl rfl rfl rfl rfl rfl (sC4 rfl rfl rfl rfl (sC1 rfl (Sub.nil _)))) ⟨E, (Nat.le_refl _), om, (by rw [hs]; simp only [← List.append_assoc]; first | exact Zcq (by rw [C, H]) | exact Zcp (by rw [C]; simp_all)), av, aw, bs, bu, bv⟩ ?_
   rintro ⟨k, z⟩ ck ⟨E, az, bw, hz, j, o, p, q, r⟩
   have S := E
   have ai := S.size
   have T := j.lt
   have bx : z.length ≤ 60 + 250 * i + 25 * k := by rw [hz]; exact Zbe _ _ _ _ _
   refine Zf fun cl bz => ?_
   refine Zc (Za rfl rfl (Yl rfl rfl) (Ze (Zb (bz _ _ ?_))))
   refine Zf fun cm bA => ?_
   refine Zl rfl (fun h => ?_) (fun h => ?_)
   ·have aB := h
    have h := Ya h
    refine Zm ?_
    refine Zb (bA _ _ ?_)
    refine Zf fun cn aV => ?_
    refine Zq ?_
    refine Zf fun co bB => ?_
    refine Zc (Za rfl rfl (Zg rfl) (Zr rfl rfl ?_))
    refine (Yf r Yt el68 sz3 rfl rfl rfl om fun aC I g U => ?_)
    have aD := Yi f.2 c g
    have aE := Yp I
    have aF := Qm (k : Int)
    refine Za rfl rfl (Zv U agg3 rfl rfl) (Za rfl rfl (Zd rfl) (Za rfl rfl (Zd rfl) (Ze (Zb (bB _ _ ?_)))))
    refine Zf fun cp bC => ?_
    refine Zc (Za rfl rfl (Zg rfl) (Za rfl rfl (Zcx rfl rfl) (Ze (Zb (bC _ _ ?_)))))
    refine Zl rfl (fun d => ?_) (fun d => ?_)
    ·have aG := d
     have d := Ya d
     refine Zc (Za rfl rfl (Zg rfl) (Za rfl rfl (Zg rfl) (Zr rfl rfl ?_)))
     refine Step.call (Zs (xs := [.tmp 45]) fk42 rfl) (Xj _ ) fun aH cq V => ?_
     obtain ⟨rfl, X⟩ := V
     have bD := X.size
     have E := E.trans X
     refine Za rfl rfl (Yc (by (first | omega | (simp only [List.length_append, List.length_cons, List.length_nil]; omega))) rfl rfl) (Za rfl rfl (Yc (by (first | omega | (simp only [List.length_append, List.length_cons, List.length_nil]; omega))) rfl rfl) (Za rfl rfl (Zg rfl) (Zr rfl rfl ?_)))
     refine Step.call (Zs (xs := [.tmp 49]) fk30 rfl) (Yx _ om) fun aI cr Y => ?_
     obtain ⟨rfl, Z⟩ := Y
     have bE := Z.size
     have E := E.trans Z
     refine Za rfl rfl (Yc (by (first | omega | (simp only [List.length_append, List.length_cons, List.length_nil]; omega))) rfl rfl) (Za rfl rfl (Yc (by (first | omega | (simp only [List.length_append, List.length_cons, List.length_nil]; omega))) rfl rfl) (Za rfl rfl (Zd rfl) (Ze (Zx (Zb (aV _ _ (Zc (Za rfl rfl (Yo om rfl rfl) ?_))))))))
     refine Za rfl rfl (Zg rfl) (Ze ?_)
     have bF := (j.ch0 X).ch0 Z
     have bG := (o.ch0 X).ch0 Z
     have bH := (p.ch0 X).ch0 Z
     have bI := (q.ch0 X).ch0 Z
     have bJ := (r.ch0 X).ch0 Z
     exact Zb (Exists.intro ((k + 1), (z ++ ((([32] ++ (fmtL ((k : Nat) : Int))) ++ [62]) ++ (Yw I)))) ⟨⟨E, om, om, (by rw [hz]; first | (simp only [← List.append_assoc]; exact Zbs c g d) | exact Zbr c g d), bF, bG, bH, bI, bJ⟩, sC8 rfl rfl rfl rfl rfl rfl rfl rfl (sC4 rfl rfl rfl rfl (sC1 rfl (Sub.nil _))), (by first | omega | (dsimp only; omega))⟩)
    have aG := d
    have d := Yb d
    refine Zm ?_
    refine Zx (Zb (aV _ _ (Zc (Za rfl rfl (Yo om rfl rfl) (Za rfl rfl (Zg rfl) (Ze ?_))))))
    exact Zb (Exists.intro ((k + 1), z) ⟨⟨E, om, om, (by rw [hz]; first | (simp only [← List.append_assoc]; exact Zbs c g d) | exact Zbr c g d), j, o, p, q, r⟩, sC8 rfl rfl rfl rfl rfl rfl rfl rfl (sC4 rfl rfl rfl rfl (sC1 rfl (Sub.nil _))), (by first | omega | (dsimp only; omega))⟩)
   have aB := h
   have h := Yb h
   refine Ys (Zn (Zn (Yh ?_)))
   refine Zx (Zb (aR _ _ (Zc (Za rfl rfl (Yo om rfl rfl) (Za rfl rfl (Zg rfl) (Ze ?_))))))
   exact Zb (Exists.intro ((i + 1), z) ⟨⟨E, om, om, (by rw [hz, show k = 9 by omega]; exact Zeg), j, o, p, q⟩, sC4 rfl rfl rfl rfl (sC2 rfl rfl (Sub.nil _)), (by first | omega | (dsimp only; omega))⟩)
  have ay := H
  refine Zm ?_
  refine Zb (aU _ _ ?_)
  refine Zf fun ct bK => ?_
  refine Zc (Za rfl rfl (Zg rfl) (Za rfl rfl (Yg (by rw [el68]; rfl) rfl) (Za rfl rfl (Zg rfl) (Ze (Zb (bK _ _ ?_))))))
  refine Zq ?_
  have bL := F.ch0 J
  have bM := G.ch0 J
  have bN := t.ch0 J
  refine Yr (σ := Nat × List UInt8) (fun ⟨k, z⟩ => [(1, (.pointer (some ⟨Q, 0, none⟩))), (2, (bst ([] : List UInt8))), (3, (bst z)), (4, (.int .i64 ((i : Nat) : Int))), (5, (.slice y e.length A)), (16, (.slice a saN.length b)), (17, (.int .i64 ((saN.length : Nat) : Int))), (18, (.int .i64 ((i : Nat) : Int))), (19, (.bool (decide (((i : Nat) : Int) < ((saN.length : Nat) : Int))))), (32, (.bool ah)), (35, (.slice y e.length A)), (36, (.int .i64 ((e.length : Nat) : Int))), (37, (.int .i64 ((k : Nat) : Int)))]) (fun ⟨k, z⟩ wx => Ch [] w wx ∧ aT.heap.size ≤ wx.heap.size ∧ (k ≤ 9) ∧ (z = faI aS aA aN i k) ∧ Blk wx Q 39 [(.int .i64 aS), (.slice l aA.length m), (.slice a saN.length b)] ∧ Ls bcs 1 wx LL_aA w.heap.size (.slice l aA.length m) aA ∧ Ls Sv.cs 1 wx LL_saN w.heap.size (.slice a saN.length b) saN ∧ Rd ics 1 wx LR_aN w.heap.size saN aN ∧ Ls ics 1 wx LR_aN w.heap.size (.slice y e.length A) e) (fun ⟨k, z⟩ => 9 - k) (0, (s ++ ([59, 32] ++ (Yw ((i : Nat) : Int))))) (sC8 rfl rfl rfl rfl rfl rfl rfl rfl (sC4 rfl rfl rfl rfl (sC1 rfl (Sub.nil _)))) ⟨E, (Nat.le_refl _), om, (by rw [hs]; simp only [← List.append_assoc]; first | exact Zcq (by rw [C, H]) | exact Zcp (by rw [C]; simp_all)), av, aw, bL, bM, bN⟩ ?_
  rintro ⟨k, z⟩ cu ⟨E, az, bw, hz, j, o, p, q, r⟩
  have S := E
  have ai := S.size
  have T := j.lt
  have bx : z.length ≤ 60 + 250 * i + 25 * k := by rw [hz]; exact Zbe _ _ _ _ _
  refine Zf fun cv bO => ?_
  refine Zc (Za rfl rfl (Yl rfl rfl) (Ze (Zb (bO _ _ ?_))))
  refine Zf fun cw bP => ?_
  refine Zl rfl (fun h => ?_) (fun h => ?_)
  ·have aJ := h
   have h := Ya h
   refine Zm ?_
   refine Zb (bP _ _ ?_)
   refine Zf fun cx aW => ?_
   refine Zq ?_
   refine Zf fun cy bQ => ?_
   refine Zc (Za rfl rfl (Zg rfl) (Zr rfl rfl ?_))
   refine (Yf r Yt el68 sz3 rfl rfl rfl om fun aC I g U => ?_)
   have aD := Yi f.2 c g
   have aE := Yp I
   have aF := Qm (k : Int)
   refine Za rfl rfl (Zv U agg3 rfl rfl) (Za rfl rfl (Zd rfl) (Za rfl rfl (Zd rfl) (Ze (Zb (bQ _ _ ?_)))))
   refine Zf fun cz bR => ?_
   refine Zc (Za rfl rfl (Zg rfl) (Za rfl rfl (Zcx rfl rfl) (Ze (Zb (bR _ _ ?_)))))
   refine Zl rfl (fun d => ?_) (fun d => ?_)
   ·have aK := d
    have d := Ya d
    refine Zc (Za rfl rfl (Zg rfl) (Za rfl rfl (Zg rfl) (Zr rfl rfl ?_)))
    refine Step.call (Zs (xs := [.tmp 45]) fk42 rfl) (Xj _ ) fun aH cA V => ?_
    obtain ⟨rfl, aa⟩ := V
    have bS := aa.size
    have E := E.trans aa
    refine Za rfl rfl (Yc (by (first | omega | (simp only [List.length_append, List.length_cons, List.length_nil]; omega))) rfl rfl) (Za rfl rfl (Yc (by (first | omega | (simp only [List.length_append, List.length_cons, List.length_nil]; omega))) rfl rfl) (Za rfl rfl (Zg rfl) (Zr rfl rfl ?_)))
    refine Step.call (Zs (xs := [.tmp 49]) fk30 rfl) (Yx _ om) fun aI cB Y => ?_
    obtain ⟨rfl, ab⟩ := Y
    have bT := ab.size
    have E := E.trans ab
    refine Za rfl rfl (Yc (by (first | omega | (simp only [List.length_append, List.length_cons, List.length_nil]; omega))) rfl rfl) (Za rfl rfl (Yc (by (first | omega | (simp only [List.length_append, List.length_cons, List.length_nil]; omega))) rfl rfl) (Za rfl rfl (Zd rfl) (Ze (Zx (Zb (aW _ _ (Zc (Za rfl rfl (Yo om rfl rfl) ?_))))))))
    refine Za rfl rfl (Zg rfl) (Ze ?_)
    have bU := (j.ch0 aa).ch0 ab
    have bV := (o.ch0 aa).ch0 ab
    have bW := (p.ch0 aa).ch0 ab
    have bX := (q.ch0 aa).ch0 ab
    have bY := (r.ch0 aa).ch0 ab
    exact Zb (Exists.intro ((k + 1), (z ++ ((([32] ++ (fmtL ((k : Nat) : Int))) ++ [62]) ++ (Yw I)))) ⟨⟨E, om, om, (by rw [hz]; first | (simp only [← List.append_assoc]; exact Zbs c g d) | exact Zbr c g d), bU, bV, bW, bX, bY⟩, sC8 rfl rfl rfl rfl rfl rfl rfl rfl (sC4 rfl rfl rfl rfl (sC1 rfl (Sub.nil _))), (by first | omega | (dsimp only; omega))⟩)
   have aK := d
   have d := Yb d
   refine Zm ?_
   refine Zx (Zb (aW _ _ (Zc (Za rfl rfl (Yo om rfl rfl) (Za rfl rfl (Zg rfl) (Ze ?_))))))
   exact Zb (Exists.intro ((k + 1), z) ⟨⟨E, om, om, (by rw [hz]; first | (simp only [← List.append_assoc]; exact Zbs c g d) | exact Zbr c g d), j, o, p, q, r⟩, sC8 rfl rfl rfl rfl rfl rfl rfl rfl (sC4 rfl rfl rfl rfl (sC1 rfl (Sub.nil _))), (by first | omega | (dsimp only; omega))⟩)
  have aJ := h
  have h := Yb h
  refine Ys (Zn (Zn (Yh ?_)))
  refine Zx (Zb (aR _ _ (Zc (Za rfl rfl (Yo om rfl rfl) (Za rfl rfl (Zg rfl) (Ze ?_))))))
  exact Zb (Exists.intro ((i + 1), z) ⟨⟨E, om, om, (by rw [hz, show k = 9 by omega]; exact Zeg), j, o, p, q⟩, sC4 rfl rfl rfl rfl (sC2 rfl rfl (Sub.nil _)), (by first | omega | (dsimp only; omega))⟩)
 have ao := B
 have B := Yb B
 refine Ys (Zn (Zn (Yh ?_)))
 refine Zb (a8 _ _ ?_)
 refine Zf fun cC bZ => ?_
 refine Zc (Za rfl rfl (Zg rfl) (Za rfl rfl (Zd rfl) (Ze (Zb (bZ _ _ ?_)))))
 refine Zo ?_
 exact Zh [_] ⟨rfl, trivial⟩ ⟨congrArg bst (by rw [hs, show i = aN.length by omega]; exact Zgd f), E⟩

/-- laws.eqBoolS -/
theorem Zap {w : World} {LL_a y : Nat} {n : Value} {a : List Bool} (g : Ls bcs 1 w LL_a y n a) {LL_b z : Nat} {o : Value} {b : List Bool} (h : Ls bcs 1 w LL_b z o b) :
 Ctr Tryd.prog 43 #[n, o] w (fun v w' => v = .bool (decide (a = b)) ∧ Ch [] w w') := by
 obtain ⟨p, q, r⟩ := g.val
 subst r
 have I := g.len
 have g := g.here (by decide)
 obtain ⟨s, t, u⟩ := h.val
 subst u
 have J := h.len
 have h := h.here (by decide)
 have E := Ch.refl [] w
 refine Zt (N := 26) (vs0 := [(.slice p a.length q), (.slice s b.length t)]) Tryd.func43 rfl rfl rfl ?_
 refine Zf fun K1 H1 => ?_
 refine Zc (Za rfl rfl (Zd rfl) (Ze (Zb (H1 _ _ ?_))))
 refine Zf fun K2 H2 => ?_
 refine Zf fun K3 H3 => ?_
 refine Zc (Za rfl rfl (Zg rfl) (Za rfl rfl (Yg (by rw [el33]; rfl) rfl) (Za rfl rfl (Zg rfl) (Za rfl rfl (Yg (by rw [el33]; rfl) rfl) (Za rfl rfl (Qz rfl rfl) (Ze (Zb (H3 _ _ ?_))))))))
 refine Zl rfl (fun d => ?_) (fun d => ?_)
 ·have K := d
  have d := Yb (Xi d)
  refine Zf fun K5 H5 => ?_
  refine Zc (Za rfl rfl (Zd rfl) (Ze (Zb (H5 _ _ ?_))))
  refine Zo (Zk ?_)
  exact Zh [_] ⟨rfl, trivial⟩ ⟨congrArg Value.bool (decide_eq_false (fun e => d (by rw [e]))).symm, E⟩
 have K := d
 have d := Ya (Xh d)
 refine Zm ?_
 refine Zb (H2 _ _ ?_)
 refine Zf fun K6 H6 => ?_
 refine Zf fun K7 H7 => ?_
 refine Zc (Za rfl rfl (Zd rfl) (Ze (Zb (H7 _ _ ?_))))
 refine Zq ?_
 refine Yr (σ := Nat) (fun (k : Nat) => [(0, (.slice p a.length q)), (1, (.slice s b.length t)), (5, (.int .i64 ((k : Nat) : Int)))]) (fun (k : Nat) wx => Ch [] w wx ∧ w.heap.size ≤ wx.heap.size ∧ (k ≤ a.length) ∧ (a.take k = b.take k)) (fun (k : Nat) => a.length - k) 0 (sC2 rfl rfl (sC1 rfl (Sub.nil _))) ⟨E, (Nat.le_refl _), om, rfl⟩ ?_
 rintro k R8 ⟨E, L, Z, F⟩
 have m := E
 have G := m.size
 refine Zf fun K9 H9 => ?_
 refine Zf fun aa M => ?_
 refine Zc (Za rfl rfl (Zg rfl) (Za rfl rfl (Zg rfl) (Za rfl rfl (Yg (by rw [el33]; rfl) rfl) (Za rfl rfl (Yl rfl rfl) (Ze (Zb (M _ _ ?_)))))))
 refine Zl rfl (fun f => ?_) (fun f => ?_)
 ·have A := f
  have f := Ya f
  refine Zm ?_
  refine Zb (H9 _ _ ?_)
  refine Zf fun ab H => ?_
  refine Zq ?_
  refine Zf fun ac O => ?_
  refine Qw [] 9 mixed rfl fun ad x => ?_
  have P := x.size
  have E := E.trans x
  refine dV 0 rfl rfl rfl (fun _ => Zg rfl) (dV 1 rfl rfl rfl (fun _ => Zg rfl) ?_)
  have Q := (g.ch0 m).ch0 x
  refine dT 2 rfl rfl rfl (Xf Q Xu el33 sz4 rfl rfl rfl om fun R S j B => ?_)
  refine dT 3 rfl rfl rfl (Yq B (fun i hi => absurd hi List.not_mem_nil) agg4 rfl rfl ?_)
  refine dV 4 rfl rfl rfl (fun _ => Zg rfl) (dV 5 rfl rfl rfl (fun _ => Zg rfl) ?_)
  have T := (h.ch0 m).ch0 x
  refine dT 6 rfl rfl rfl (Xf T Xu el33 sz4 rfl rfl rfl om fun U V l C => ?_)
  refine dT 7 rfl rfl rfl (Yq C (fun i hi => absurd hi List.not_mem_nil) agg4 rfl rfl ?_)
  refine dV 8 rfl rfl rfl (fun _ => Zgj un4 rfl rfl) ?_
  refine Qx (by kernel_rfl) ?_
  refine Zb (O _ _ ?_)
  refine Zl rfl (fun c => ?_) (fun c => ?_)
  ·have D := c
   have c := bf_e (Xi c)
   refine Zf fun ae X => ?_
   refine Zc (Za rfl rfl (Zd rfl) (Ze (Zb (X _ _ ?_))))
   refine Zo (Ye (Zk (Zk (Ye (Zk ?_)))))
   clear H6 H
   exact Zh [_] ⟨rfl, trivial⟩ ⟨congrArg Value.bool (decide_eq_false (Zah j l c)).symm, E⟩
  have D := c
  have c := bt_e (Xh c)
  refine Zm ?_
  refine Zx (Zb (H _ _ (Zc (Za rfl rfl (Zg rfl) (Za rfl rfl (Yo om rfl rfl) (Za rfl rfl (Zd rfl) (Ze ?_)))))))
  exact Zb (Exists.intro (k + 1) ⟨⟨E, om, om, (Qh F j l c)⟩, sC2 rfl rfl (sC1 rfl (Sub.nil _)), (by first | omega | (dsimp only; omega))⟩)
 have A := f
 have f := Yb f
 refine Ys (Zn (Zn (Yh ?_)))
 refine Zb (H6 _ _ ?_)
 refine Zf fun af Y => ?_
 refine Zc (Za rfl rfl (Zd rfl) (Ze (Zb (Y _ _ ?_))))
 refine Zo ?_
 exact Zh [_] ⟨rfl, trivial⟩ ⟨congrArg Value.bool (decide_eq_true (Zae F om om)).symm, E⟩

/-- laws.eqIntS -/
theorem Zbn {w : World} {LL_a y : Nat} {n : Value} {a : List Int} (g : Ls ics 1 w LL_a y n a) {LL_b z : Nat} {o : Value} {b : List Int} (h : Ls ics 1 w LL_b z o b) :
 Ctr Tryd.prog 66 #[n, o] w (fun v w' => v = .bool (decide (a = b)) ∧ Ch [] w w') := by
 obtain ⟨p, q, r⟩ := g.val
 subst r
 have I := g.len
 have g := g.here (by decide)
 obtain ⟨s, t, u⟩ := h.val
 subst u
 have J := h.len
 have h := h.here (by decide)
 have E := Ch.refl [] w
 refine Zt (N := 26) (vs0 := [(.slice p a.length q), (.slice s b.length t)]) Tryd.func66 rfl rfl rfl ?_
 refine Zf fun K1 H1 => ?_
 refine Zc (Za rfl rfl (Zd rfl) (Ze (Zb (H1 _ _ ?_))))
 refine Zf fun K2 H2 => ?_
 refine Zf fun K3 H3 => ?_
 refine Zc (Za rfl rfl (Zg rfl) (Za rfl rfl (Yg (by rw [el68]; rfl) rfl) (Za rfl rfl (Zg rfl) (Za rfl rfl (Yg (by rw [el68]; rfl) rfl) (Za rfl rfl (Qz rfl rfl) (Ze (Zb (H3 _ _ ?_))))))))
 refine Zl rfl (fun d => ?_) (fun d => ?_)
 ·have K := d
  have d := Yb (Xi d)
  refine Zf fun K5 H5 => ?_
  refine Zc (Za rfl rfl (Zd rfl) (Ze (Zb (H5 _ _ ?_))))
  refine Zo (Zk ?_)
  exact Zh [_] ⟨rfl, trivial⟩ ⟨congrArg Value.bool (decide_eq_false (fun e => d (by rw [e]))).symm, E⟩
 have K := d
 have d := Ya (Xh d)
 refine Zm ?_
 refine Zb (H2 _ _ ?_)
 refine Zf fun K6 H6 => ?_
 refine Zf fun K7 H7 => ?_
 refine Zc (Za rfl rfl (Zd rfl) (Ze (Zb (H7 _ _ ?_))))
 refine Zq ?_
 refine Yr (σ := Nat) (fun (k : Nat) => [(0, (.slice p a.length q)), (1, (.slice s b.length t)), (5, (.int .i64 ((k : Nat) : Int)))]) (fun (k : Nat) wx => Ch [] w wx ∧ w.heap.size ≤ wx.heap.size ∧ (k ≤ a.length) ∧ (a.take k = b.take k)) (fun (k : Nat) => a.length - k) 0 (sC2 rfl rfl (sC1 rfl (Sub.nil _))) ⟨E, (Nat.le_refl _), om, rfl⟩ ?_
 rintro k R8 ⟨E, L, Z, F⟩
 have m := E
 have G := m.size
 refine Zf fun K9 H9 => ?_
 refine Zf fun aa M => ?_
 refine Zc (Za rfl rfl (Zg rfl) (Za rfl rfl (Zg rfl) (Za rfl rfl (Yg (by rw [el68]; rfl) rfl) (Za rfl rfl (Yl rfl rfl) (Ze (Zb (M _ _ ?_)))))))
 refine Zl rfl (fun f => ?_) (fun f => ?_)
 ·have A := f
  have f := Ya f
  refine Zm ?_
  refine Zb (H9 _ _ ?_)
  refine Zf fun ab H => ?_
  refine Zq ?_
  refine Zf fun ac O => ?_
  refine Qw [] 9 mixed rfl fun ad x => ?_
  have P := x.size
  have E := E.trans x
  refine dV 0 rfl rfl rfl (fun _ => Zg rfl) (dV 1 rfl rfl rfl (fun _ => Zg rfl) ?_)
  have Q := (g.ch0 m).ch0 x
  refine dT 2 rfl rfl rfl (Xf Q Yt el68 sz3 rfl rfl rfl om fun R S j B => ?_)
  refine dT 3 rfl rfl rfl (Yq B (fun i hi => absurd hi List.not_mem_nil) agg3 rfl rfl ?_)
  refine dV 4 rfl rfl rfl (fun _ => Zg rfl) (dV 5 rfl rfl rfl (fun _ => Zg rfl) ?_)
  have T := (h.ch0 m).ch0 x
  refine dT 6 rfl rfl rfl (Xf T Yt el68 sz3 rfl rfl rfl om fun U V l C => ?_)
  refine dT 7 rfl rfl rfl (Yq C (fun i hi => absurd hi List.not_mem_nil) agg3 rfl rfl ?_)
  refine dV 8 rfl rfl rfl (fun _ => Qz rfl rfl) ?_
  refine Qx (by kernel_rfl) ?_
  refine Zb (O _ _ ?_)
  refine Zl rfl (fun c => ?_) (fun c => ?_)
  ·have D := c
   have c := Yb (Xi c)
   refine Zf fun ae X => ?_
   refine Zc (Za rfl rfl (Zd rfl) (Ze (Zb (X _ _ ?_))))
   refine Zo (Ye (Zk (Zk (Ye (Zk ?_)))))
   clear H6 H
   exact Zh [_] ⟨rfl, trivial⟩ ⟨congrArg Value.bool (decide_eq_false (Zah j l c)).symm, E⟩
  have D := c
  have c := Ya (Xh c)
  refine Zm ?_
  refine Zx (Zb (H _ _ (Zc (Za rfl rfl (Zg rfl) (Za rfl rfl (Yo om rfl rfl) (Za rfl rfl (Zd rfl) (Ze ?_)))))))
  exact Zb (Exists.intro (k + 1) ⟨⟨E, om, om, (Qh F j l c)⟩, sC2 rfl rfl (sC1 rfl (Sub.nil _)), (by first | omega | (dsimp only; omega))⟩)
 have A := f
 have f := Yb f
 refine Ys (Zn (Zn (Yh ?_)))
 refine Zb (H6 _ _ ?_)
 refine Zf fun af Y => ?_
 refine Zc (Za rfl rfl (Zd rfl) (Ze (Zb (Y _ _ ?_))))
 refine Zo ?_
 exact Zh [_] ⟨rfl, trivial⟩ ⟨congrArg Value.bool (decide_eq_true (Zae F om om)).symm, E⟩

/-- laws.eqIntSS -/
theorem Zan {w : World} {LL_sa H : Nat} {t : Value} {sa : List Sv} (d : Ls Sv.cs 1 w LL_sa H t sa) {LR_a BB_a : Nat} {a : List (List Int)} (m : Rd ics 1 w LR_a BB_a sa a) {LL_sb I : Nat} {u : Value} {sb : List Sv} (f : Ls Sv.cs 1 w LL_sb I u sb) {LR_b BB_b : Nat} {b : List (List Int)} (n : Rd ics 1 w LR_b BB_b sb b) :
 Ctr Tryd.prog 44 #[t, u] w (fun v w' => v = .bool (decide (a = b)) ∧ Ch [] w w') := by
 obtain ⟨x, y, B⟩ := d.val
 subst B
 have ad := d.len
 have d := d.here (by decide)
 have m := m.here (by decide)
 have J := m.1
 obtain ⟨z, A, C⟩ := f.val
 subst C
 have ae := f.len
 have f := f.here (by decide)
 have n := n.here (by decide)
 have K := n.1
 have E := Ch.refl [] w
 refine Zt (N := 27) (vs0 := [(.slice x sa.length y), (.slice z sb.length A)]) Tryd.func44 rfl rfl rfl ?_
 refine Zf fun K1 H1 => ?_
 refine Zc (Za rfl rfl (Zd rfl) (Ze (Zb (H1 _ _ ?_))))
 refine Zf fun K2 H2 => ?_
 refine Zf fun K3 H3 => ?_
 refine Zc (Za rfl rfl (Zg rfl) (Za rfl rfl (Yg (by rw [el34]; rfl) rfl) (Za rfl rfl (Zg rfl) (Za rfl rfl (Yg (by rw [el34]; rfl) rfl) (Za rfl rfl (Qz rfl rfl) (Ze (Zb (H3 _ _ ?_))))))))
 refine Zl rfl (fun g => ?_) (fun g => ?_)
 ·have ai := g
  have g := Yb (Xi g)
  refine Zf fun K5 H5 => ?_
  refine Zc (Za rfl rfl (Zd rfl) (Ze (Zb (H5 _ _ ?_))))
  refine Zo (Zk ?_)
  exact Zh [_] ⟨rfl, trivial⟩ ⟨congrArg Value.bool (decide_eq_false (fun e => g (by rw [J, K, e]))).symm, E⟩
 have ai := g
 have g := Ya (Xh g)
 refine Zm ?_
 refine Zb (H2 _ _ ?_)
 refine Zf fun K6 H6 => ?_
 refine Zf fun K7 H7 => ?_
 refine Zc (Za rfl rfl (Zd rfl) (Ze (Zb (H7 _ _ ?_))))
 refine Zq ?_
 refine Yr (σ := Nat) (fun (k : Nat) => [(0, (.slice x sa.length y)), (1, (.slice z sb.length A)), (5, (.int .i64 ((k : Nat) : Int)))]) (fun (k : Nat) wx => Ch [] w wx ∧ w.heap.size ≤ wx.heap.size ∧ (k ≤ a.length) ∧ (a.take k = b.take k)) (fun (k : Nat) => a.length - k) 0 (sC2 rfl rfl (sC1 rfl (Sub.nil _))) ⟨E, (Nat.le_refl _), om, rfl⟩ ?_
 rintro k R8 ⟨E, aj, aD, af⟩
 have o := E
 have ag := o.size
 refine Zf fun K9 H9 => ?_
 refine Zf fun aE ak => ?_
 refine Zc (Za rfl rfl (Zg rfl) (Za rfl rfl (Zg rfl) (Za rfl rfl (Yg (by rw [el34]; rfl) rfl) (Za rfl rfl (Yl rfl rfl) (Ze (Zb (ak _ _ ?_)))))))
 refine Zl rfl (fun l => ?_) (fun l => ?_)
 ·have U := l
  have l := Ya l
  refine Zm ?_
  refine Zb (H9 _ _ ?_)
  refine Zf fun aF ah => ?_
  refine Zq ?_
  refine Zf fun aG al => ?_
  refine Qw [] 10 mixed rfl fun L G => ?_
  have am := G.size
  have E := E.trans G
  refine dV 0 rfl rfl rfl (fun _ => Zg rfl) (dV 1 rfl rfl rfl (fun _ => Zg rfl) ?_)
  have an := (d.ch0 o).ch0 G
  have ao := (m.ch0 o).ch0 G
  refine dT 2 rfl rfl rfl (Xf an Sv.len el34 sz68 rfl rfl rfl om fun V X M D => ?_)
  obtain ⟨p, q, h⟩ := ao.get M
  obtain ⟨O, ap, P⟩ := X
  obtain rfl := h.eqn
  have aq := h.len
  replace h : Ls ics 1 L LR_a w.heap.size (.slice O p.length P) p := h
  replace D : At L LL_sa w.heap.size V ([(.slice O p.length P)]) := D
  refine dT 3 rfl rfl rfl (Yq D (fun i hi => absurd hi List.not_mem_nil) agg68 rfl rfl ?_)
  refine dV 4 rfl rfl rfl (fun _ => Zg rfl) (dV 5 rfl rfl rfl (fun _ => Zg rfl) ?_)
  have au := (f.ch0 o).ch0 G
  have av := (n.ch0 o).ch0 G
  refine dT 6 rfl rfl rfl (Xf au Sv.len el34 sz68 rfl rfl rfl om fun Y Z Q F => ?_)
  obtain ⟨r, s, j⟩ := av.get Q
  obtain ⟨R, aw, S⟩ := Z
  obtain rfl := j.eqn
  have ax := j.len
  replace j : Ls ics 1 L LR_b w.heap.size (.slice R r.length S) r := j
  replace F : At L LL_sb w.heap.size Y ([(.slice R r.length S)]) := F
  refine dT 7 rfl rfl rfl (Yq F (fun i hi => absurd hi List.not_mem_nil) agg68 rfl rfl ?_)
  refine dO 8 (DO_s rfl rfl rfl ?_)
  refine Step.call (Zs (xs := [.tmp 20, .tmp 24]) fk66 rfl) (Zbn h j ) fun ay az aa => ?_
  obtain ⟨rfl, ab⟩ := aa
  have aA := ab.size
  have E := E.trans ab
  have T : Ch [] L az := ((Ch.refl _ _).trans ab)
  refine ⟨T, ?_⟩
  refine dV 9 rfl rfl rfl (fun _ => Qb rfl) ?_
  refine Qx (by kernel_rfl) ?_
  refine Zb (al _ _ ?_)
  refine Zl rfl (fun c => ?_) (fun c => ?_)
  ·have ac := c
   have c := Yb (Xi c)
   refine Zf fun aH aB => ?_
   refine Zc (Za rfl rfl (Zd rfl) (Ze (Zb (aB _ _ ?_))))
   refine Zo (Ye (Zk (Zk (Ye (Zk ?_)))))
   clear H6 ah
   exact Zh [_] ⟨rfl, trivial⟩ ⟨congrArg Value.bool (decide_eq_false (Zah q s c)).symm, E⟩
  have ac := c
  have c := Ya (Xh c)
  refine Zm ?_
  refine Zx (Zb (ah _ _ (Zc (Za rfl rfl (Zg rfl) (Za rfl rfl (Yo om rfl rfl) (Za rfl rfl (Zd rfl) (Ze ?_)))))))
  exact Zb (Exists.intro (k + 1) ⟨⟨E, om, om, (Qh af q s c)⟩, sC2 rfl rfl (sC1 rfl (Sub.nil _)), (by first | omega | (dsimp only; omega))⟩)
 have U := l
 have l := Yb l
 refine Ys (Zn (Zn (Yh ?_)))
 refine Zb (H6 _ _ ?_)
 refine Zf fun aI aC => ?_
 refine Zc (Za rfl rfl (Zd rfl) (Ze (Zb (aC _ _ ?_))))
 refine Zo ?_
 exact Zh [_] ⟨rfl, trivial⟩ ⟨congrArg Value.bool (decide_eq_true (Zae af om om)).symm, E⟩

/-- laws.eqAutomaton -/
theorem Zab {w : World} (aS : Int) {LL_aA G : Nat} {q : Value} {aA : List Bool} (e : Ls bcs 1 w LL_aA G q aA) {LL_saN z : Nat} {i : Value} {saN : List Sv} (a : Ls Sv.cs 1 w LL_saN z i saN) {LR_aN BB_aN : Nat} {aN : List (List Int)} (c : Rd ics 1 w LR_aN BB_aN saN aN) (bS : Int) {LL_bA H : Nat} {r : Value} {bA : List Bool} (f : Ls bcs 1 w LL_bA H r bA) {LL_sbN A : Nat} {j : Value} {sbN : List Sv} (b : Ls Sv.cs 1 w LL_sbN A j sbN) {LR_bN BB_bN : Nat} {bN : List (List Int)} (d : Rd ics 1 w LR_bN BB_bN sbN bN) :
 Ctr Tryd.prog 20 #[(.agg #[(.int .i64 aS), q, i]), (.agg #[(.int .i64 bS), r, j])] w (fun v w' => v = .bool (decide (aS = bS ∧ aA = bA ∧ aN = bN)) ∧ Ch [] w w') := by
 obtain ⟨s, t, B⟩ := e.val
 subst B
 have S := e.len
 have e := e.here (by decide)
 obtain ⟨k, l, o⟩ := a.val
 subst o
 have J := a.len
 have a := a.here (by decide)
 have c := c.here (by decide)
 have K := c.1
 obtain ⟨u, x, C⟩ := f.val
 subst C
 have T := f.len
 have f := f.here (by decide)
 obtain ⟨m, n, p⟩ := b.val
 subst p
 have L := b.len
 have b := b.here (by decide)
 have d := d.here (by decide)
 have M := d.1
 have E := Ch.refl [] w
 refine Zt (N := 22) (vs0 := [(.agg #[(.int .i64 aS), (.slice s aA.length t), (.slice k saN.length l)]), (.agg #[(.int .i64 bS), (.slice u bA.length x), (.slice m sbN.length n)])]) Tryd.func20 rfl rfl rfl ?_
 refine Zf fun K1 H1 => ?_
 refine Zc (Zr rfl rfl ?_)
 refine Qy rfl fun V W2 I C2 au => ?_
 have av := C2.size
 have E := E.trans C2
 have aw := I.lt
 replace I : Blk W2 V 39 [(.int .i64 aS), (.slice s aA.length t), (.slice k saN.length l)] := I
 refine Zr rfl rfl ?_
 refine Qy rfl fun X W3 F C3 ax => ?_
 have ay := C3.size
 have E := E.trans C3
 have az := F.lt
 replace F : Blk W3 X 39 [(.int .i64 bS), (.slice u bA.length x), (.slice m sbN.length n)] := F
 refine Za rfl rfl (Zd rfl) (Ze (Zb (H1 _ _ ?_)))
 refine Zf fun K4 H4 => ?_
 refine Zf fun K5 H5 => ?_
 refine Zc (Za rfl rfl (Zj fa39_0 rfl) ?_)
 have F6 := I.ch0 C3
 refine Za rfl rfl (Zp F6.at_ agg3 rfl rfl) (Za rfl rfl (Zj fa39_0 rfl) (Za rfl rfl (Zp F.at_ agg3 rfl rfl) (Za rfl rfl (Qz rfl rfl) (Ze (Zb (H5 _ _ ?_))))))
 refine Zl rfl (fun D => ?_) (fun D => ?_)
 ·have Y := D
  have D := Yb (Xi D)
  refine Zf fun K8 H8 => ?_
  refine Zc (Za rfl rfl (Zd rfl) (Ze (Zb (H8 _ _ ?_))))
  refine Zo (Zk ?_)
  exact Zh [_] ⟨rfl, trivial⟩ ⟨congrArg Value.bool (by simp_all), E⟩
 have Y := D
 have D := Ya (Xh D)
 refine Zm ?_
 refine Zb (H4 _ _ ?_)
 refine Zf fun K9 H9 => ?_
 refine Zf fun aB Z => ?_
 refine Zc (Za rfl rfl (Zj fa39_1 rfl) (Za rfl rfl (Zp F6.at_ agg33 rfl rfl) (Za rfl rfl (Zj fa39_1 rfl) (Za rfl rfl (Zp F.at_ agg33 rfl rfl) (Zr rfl rfl ?_)))))
 have aa := (e.ch0 C2).ch0 C3
 have ab := (f.ch0 C2).ch0 C3
 refine Step.call (Zs (xs := [.tmp 11, .tmp 13]) fk43 rfl) (Zap aa ab ) fun ac aC O => ?_
 obtain ⟨rfl, y⟩ := O
 have ad := y.size
 have E := E.trans y
 refine Za rfl rfl (Qb rfl) (Ze (Zb (Z _ _ ?_)))
 refine Zl rfl (fun g => ?_) (fun g => ?_)
 ·have P := g
  have g := Yb (Xi g)
  refine Zf fun aD ae => ?_
  refine Zc (Za rfl rfl (Zd rfl) (Ze (Zb (ae _ _ ?_))))
  refine Zo (Zk ?_)
  exact Zh [_] ⟨rfl, trivial⟩ ⟨congrArg Value.bool (by simp_all), E⟩
 have P := g
 have g := Ya (Xh g)
 refine Zm ?_
 refine Zb (H9 _ _ ?_)
 refine Zf fun aE af => ?_
 refine Zf fun aF ag => ?_
 refine Zc (Za rfl rfl (Zj fa39_2 rfl) ?_)
 have ah := F6.ch0 y
 refine Za rfl rfl (Zp ah.at_ agg34 rfl rfl) (Za rfl rfl (Zj fa39_2 rfl) ?_)
 have ai := F.ch0 y
 refine Za rfl rfl (Zp ai.at_ agg34 rfl rfl) (Zr rfl rfl ?_)
 have aj := ((c.ch0 C2).ch0 C3).ch0 y
 have ak := ((a.ch0 C2).ch0 C3).ch0 y
 have al := ((d.ch0 C2).ch0 C3).ch0 y
 have am := ((b.ch0 C2).ch0 C3).ch0 y
 refine Step.call (Zs (xs := [.tmp 17, .tmp 19]) fk44 rfl) (Zan ak aj am al ) fun an aG Q => ?_
 obtain ⟨rfl, U⟩ := Q
 have ao := U.size
 have E := E.trans U
 refine Za rfl rfl (Qb rfl) (Ze (Zb (ag _ _ ?_)))
 refine Zl rfl (fun h => ?_) (fun h => ?_)
 ·have R := h
  have h := Yb (Xi h)
  refine Zf fun aH ap => ?_
  refine Zc (Za rfl rfl (Zd rfl) (Ze (Zb (ap _ _ ?_))))
  refine Zo (Zk ?_)
  exact Zh [_] ⟨rfl, trivial⟩ ⟨congrArg Value.bool (by simp_all), E⟩
 have R := h
 have h := Ya (Xh h)
 refine Zm ?_
 refine Zb (af _ _ ?_)
 refine Zf fun aI aq => ?_
 refine Zc (Za rfl rfl (Zd rfl) (Ze (Zb (aq _ _ ?_))))
 refine Zo ?_
 exact Zh [_] ⟨rfl, trivial⟩ ⟨congrArg Value.bool (by simp_all), E⟩

/-- laws.szBoolS -/
theorem Zar {w : World} {LL_a f : Nat} {d : Value} {a : List Bool} (c : Ls bcs 1 w LL_a f d a) (left : Int) (hl : left ≤ 1048576) (k : 0 ≤ left) :
 Ctr Tryd.prog 35 #[d, (.int .i64 left)] w (fun v w' => v = .int .i64 (if left < a.length then -1 else left - a.length) ∧ Ch [] w w') := by
 obtain ⟨g, h, e⟩ := c.val
 subst e
 have i := c.len
 have c := c.here (by decide)
 have E := Ch.refl [] w
 refine Zt (N := 12) (vs0 := [(.slice g a.length h), (.int .i64 left)]) Tryd.func35 rfl rfl rfl ?_
 refine Zf fun K1 H1 => ?_
 refine Zc (Za rfl rfl (Zd rfl) (Ze (Zb (H1 _ _ ?_))))
 refine Zf fun K2 H2 => ?_
 refine Zc (Za rfl rfl (Zg rfl) (Za rfl rfl (Zg rfl) (Za rfl rfl (Yg (by rw [el33]; rfl) rfl) (Za rfl rfl (Zcg om rfl rfl) (Za rfl rfl (Zd rfl) (Ze (Zb (H2 _ _ ?_))))))))
 refine Zf fun K3 H3 => ?_
 refine Zf fun K4 H4 => ?_
 refine Zc (Za rfl rfl (Zg rfl) (Za rfl rfl (Yl rfl rfl) (Ze (Zb (H4 _ _ ?_)))))
 refine Zl rfl (fun b => ?_) (fun b => ?_)
 ·have j := b
  have b := Ya b
  refine Zf fun K6 H6 => ?_
  refine Zc (Za rfl rfl (Zd rfl) (Ze (Zb (H6 _ _ ?_))))
  refine Zo (Zk ?_)
  exact Zh [_] ⟨rfl, trivial⟩ ⟨congrArg (Value.int .i64) (if_pos om).symm, E⟩
 have j := b
 have b := Yb b
 refine Zm ?_
 refine Zb (H3 _ _ ?_)
 refine Zf fun K7 H7 => ?_
 refine Zc (Za rfl rfl (Zg rfl) (Za rfl rfl (Zd rfl) (Ze (Zb (H7 _ _ ?_)))))
 refine Zo ?_
 exact Zh [_] ⟨rfl, trivial⟩ ⟨congrArg (Value.int .i64) (if_neg om).symm, E⟩

/-- laws.szIntS -/
theorem Zbo {w : World} {LL_a f : Nat} {d : Value} {a : List Int} (c : Ls ics 1 w LL_a f d a) (left : Int) (hl : left ≤ 1048576) (k : 0 ≤ left) :
 Ctr Tryd.prog 61 #[d, (.int .i64 left)] w (fun v w' => v = .int .i64 (if left < a.length then -1 else left - a.length) ∧ Ch [] w w') := by
 obtain ⟨g, h, e⟩ := c.val
 subst e
 have i := c.len
 have c := c.here (by decide)
 have E := Ch.refl [] w
 refine Zt (N := 12) (vs0 := [(.slice g a.length h), (.int .i64 left)]) Tryd.func61 rfl rfl rfl ?_
 refine Zf fun K1 H1 => ?_
 refine Zc (Za rfl rfl (Zd rfl) (Ze (Zb (H1 _ _ ?_))))
 refine Zf fun K2 H2 => ?_
 refine Zc (Za rfl rfl (Zg rfl) (Za rfl rfl (Zg rfl) (Za rfl rfl (Yg (by rw [el68]; rfl) rfl) (Za rfl rfl (Zcg om rfl rfl) (Za rfl rfl (Zd rfl) (Ze (Zb (H2 _ _ ?_))))))))
 refine Zf fun K3 H3 => ?_
 refine Zf fun K4 H4 => ?_
 refine Zc (Za rfl rfl (Zg rfl) (Za rfl rfl (Yl rfl rfl) (Ze (Zb (H4 _ _ ?_)))))
 refine Zl rfl (fun b => ?_) (fun b => ?_)
 ·have j := b
  have b := Ya b
  refine Zf fun K6 H6 => ?_
  refine Zc (Za rfl rfl (Zd rfl) (Ze (Zb (H6 _ _ ?_))))
  refine Zo (Zk ?_)
  exact Zh [_] ⟨rfl, trivial⟩ ⟨congrArg (Value.int .i64) (if_pos om).symm, E⟩
 have j := b
 have b := Yb b
 refine Zm ?_
 refine Zb (H3 _ _ ?_)
 refine Zf fun K7 H7 => ?_
 refine Zc (Za rfl rfl (Zg rfl) (Za rfl rfl (Zd rfl) (Ze (Zb (H7 _ _ ?_)))))
 refine Zo ?_
 exact Zh [_] ⟨rfl, trivial⟩ ⟨congrArg (Value.int .i64) (if_neg om).symm, E⟩

/-- laws.szIntSS -/
theorem Zaq {w : World} {LL_sa r : Nat} {j : Value} {sa : List Sv} (b : Ls Sv.cs 1 w LL_sa r j sa) {LR_a BB_a : Nat} {a : List (List Int)} (h : Rd ics 1 w LR_a BB_a sa a) (left : Int) (hl : left ≤ 1048576) (Z : 0 ≤ left) :
 Ctr Tryd.prog 36 #[j, (.int .i64 left)] w (fun v w' => v = .int .i64 (if left < a.length + a.flatten.length then -1 else left - a.length - a.flatten.length) ∧ Ch [] w w') := by
 obtain ⟨l, n, o⟩ := b.val
 subst o
 have C := b.len
 have b := b.here (by decide)
 have h := h.here (by decide)
 have D := h.1
 have E := Ch.refl [] w
 refine Zt (N := 27) (vs0 := [(.slice l sa.length n), (.int .i64 left)]) Tryd.func36 rfl rfl rfl ?_
 refine Zf fun K1 H1 => ?_
 refine Zc (Za rfl rfl (Zd rfl) (Ze (Zb (H1 _ _ ?_))))
 refine Zf fun K2 H2 => ?_
 refine Zc (Za rfl rfl (Zg rfl) (Za rfl rfl (Zg rfl) (Za rfl rfl (Yg (by rw [el34]; rfl) rfl) (Za rfl rfl (Zcg om rfl rfl) (Za rfl rfl (Zd rfl) (Ze (Zb (H2 _ _ ?_))))))))
 refine Zf fun K3 H3 => ?_
 refine Zf fun K4 H4 => ?_
 refine Zc (Za rfl rfl (Zg rfl) (Za rfl rfl (Yl rfl rfl) (Ze (Zb (H4 _ _ ?_)))))
 refine Zl rfl (fun e => ?_) (fun e => ?_)
 ·have J := e
  have e := Ya e
  refine Zf fun K6 H6 => ?_
  refine Zc (Za rfl rfl (Zd rfl) (Ze (Zb (H6 _ _ ?_))))
  refine Zo (Zk ?_)
  exact Zh [_] ⟨rfl, trivial⟩ ⟨congrArg (Value.int .i64) (if_pos om).symm, E⟩
 have J := e
 have e := Yb e
 refine Zm ?_
 refine Zb (H3 _ _ ?_)
 refine Zf fun K7 H7 => ?_
 refine Zf fun K8 H8 => ?_
 refine Zc (Za rfl rfl (Zd rfl) (Ze (Zb (H8 _ _ ?_))))
 refine Zq ?_
 refine Yr (σ := Nat × Int) (fun ⟨k, m⟩ => [(0, (.slice l sa.length n)), (1, (.int .i64 m)), (5, (.int .i64 ((k : Nat) : Int)))]) (fun ⟨k, m⟩ wx => Ch [] w wx ∧ w.heap.size ≤ wx.heap.size ∧ (k ≤ a.length) ∧ (m = left - a.length - (a.take k).flatten.length) ∧ (0 ≤ m)) (fun ⟨k, m⟩ => a.length - k) (0, (left - ((sa.length : Nat) : Int))) (sC2 rfl rfl (sC1 rfl (Sub.nil _))) ⟨E, (Nat.le_refl _), om, (by simp; omega), om⟩ ?_
 rintro ⟨k, m⟩ R9 ⟨E, K, aa, hm, hn⟩
 have p := E
 have F := p.size
 refine Zf fun ab L => ?_
 refine Zf fun ac M => ?_
 refine Zc (Za rfl rfl (Zg rfl) (Za rfl rfl (Zg rfl) (Za rfl rfl (Yg (by rw [el34]; rfl) rfl) (Za rfl rfl (Yl rfl rfl) (Ze (Zb (M _ _ ?_)))))))
 refine Zl rfl (fun f => ?_) (fun f => ?_)
 ·have x := f
  have f := Ya f
  refine Zm ?_
  refine Zb (L _ _ ?_)
  refine Zf fun ad G => ?_
  refine Zq ?_
  refine Zf fun ae O => ?_
  refine Zc (Za rfl rfl (Zg rfl) (Za rfl rfl (Zg rfl) (Zr rfl rfl ?_)))
  have P := b.ch0 p
  refine (Yf P Sv.len el34 sz68 rfl rfl rfl om fun y z s q => ?_)
  have Q := h.ch0 p
  obtain ⟨c, i, d⟩ := Q.get s
  obtain ⟨t, R, u⟩ := z
  obtain rfl := d.eqn
  have S := d.len
  replace d : Ls ics 1 R9 LR_a w.heap.size (.slice t c.length u) c := d
  replace q : At R9 LL_sa w.heap.size y ([(.slice t c.length u)]) := q
  refine Za rfl rfl (Zv q agg68 rfl rfl) (Za rfl rfl (Zg rfl) (Zr rfl rfl ?_))
  refine Step.call (Zs (xs := [.tmp 21, .tmp 22]) fk61 rfl) (Zbo d _ om om) fun T af A => ?_
  obtain ⟨rfl, H⟩ := A
  have U := H.size
  have E := E.trans H
  refine Za rfl rfl (Zd rfl) (Ze (Zb (O _ _ ?_)))
  refine Zf fun ag V => ?_
  refine Zc (Za rfl rfl (Zg rfl) (Za rfl rfl (Yl rfl rfl) (Ze (Zb (V _ _ ?_)))))
  refine Zl rfl (fun g => ?_) (fun g => ?_)
  ·have B := g
   have g := Ya g
   refine Zf fun ah X => ?_
   refine Zc (Za rfl rfl (Zd rfl) (Ze (Zb (X _ _ ?_))))
   refine Zo (Ye (Zk (Zk (Ye (Zk ?_)))))
   clear H7 G
   exact Zh [_] ⟨rfl, trivial⟩ ⟨congrArg (Value.int .i64) (if_pos (by have I := Zgc i; omega)).symm, E⟩
  have B := g
  have g := Yb g
  refine Zm ?_
  refine Zx (Zb (G _ _ (Zc (Za rfl rfl (Zg rfl) (Za rfl rfl (Yo om rfl rfl) (Za rfl rfl (Zd rfl) (Ze ?_)))))))
  exact Zb (Exists.intro ((k + 1), if m < c.length then -1 else m - c.length) ⟨⟨E, om, om, (by have I := Zgr i; omega), om⟩, sC2 rfl rfl (sC1 rfl (Sub.nil _)), (by first | omega | (dsimp only; omega))⟩)
 have x := f
 have f := Yb f
 refine Ys (Zn (Zn (Yh ?_)))
 refine Zb (H7 _ _ ?_)
 refine Zf fun ai Y => ?_
 refine Zc (Za rfl rfl (Zg rfl) (Za rfl rfl (Zd rfl) (Ze (Zb (Y _ _ ?_)))))
 refine Zo ?_
 exact Zh [_] ⟨rfl, trivial⟩ ⟨congrArg (Value.int .i64) (by have I := Zfg (show a.length ≤ k by omega); omega), E⟩

/-- laws.szAutomaton -/
theorem Zaa {w : World} (aS : Int) {LL_aA o : Nat} {j : Value} {aA : List Bool} (c : Ls bcs 1 w LL_aA o j aA) {LL_saN m : Nat} {f : Value} {saN : List Sv} (a : Ls Sv.cs 1 w LL_saN m f saN) {LR_aN BB_aN : Nat} {aN : List (List Int)} (b : Rd ics 1 w LR_aN BB_aN saN aN) (left : Int) (hl : left ≤ 1048576) (M : 0 ≤ left) :
 Ctr Tryd.prog 16 #[(.agg #[(.int .i64 aS), j, f]), (.int .i64 left)] w (fun v w' => v = .int .i64 (if left < aA.length + aN.length + aN.flatten.length then -1 else left - aA.length - aN.length - aN.flatten.length) ∧ Ch [] w w') := by
 obtain ⟨k, l, n⟩ := c.val
 subst n
 have u := c.len
 have c := c.here (by decide)
 obtain ⟨g, h, i⟩ := a.val
 subst i
 have q := a.len
 have a := a.here (by decide)
 have b := b.here (by decide)
 have r := b.1
 have E := Ch.refl [] w
 refine Zt (N := 18) (vs0 := [(.agg #[(.int .i64 aS), (.slice k aA.length l), (.slice g saN.length h)]), (.int .i64 left)]) Tryd.func16 rfl rfl rfl ?_
 refine Zf fun K1 H1 => ?_
 refine Zc (Zr rfl rfl ?_)
 refine Qy rfl fun y W2 p C2 O => ?_
 have P := C2.size
 have E := E.trans C2
 have Q := p.lt
 replace p : Blk W2 y 36 [(.int .i64 aS), (.slice k aA.length l), (.slice g saN.length h)] := p
 refine Za rfl rfl (Zd rfl) (Ze (Zb (H1 _ _ ?_)))
 refine Zf fun K3 H3 => ?_
 refine Zc (Za rfl rfl (Zj fa36_1 rfl) (Za rfl rfl (Zp p.at_ agg33 rfl rfl) (Za rfl rfl (Zg rfl) (Zr rfl rfl ?_))))
 have F4 := c.ch0 C2
 refine Step.call (Zs (xs := [.tmp 6, .tmp 7]) fk35 rfl) (Zar F4 _ om om) fun R W5 z => ?_
 obtain ⟨rfl, C5⟩ := z
 have S := C5.size
 have E := E.trans C5
 refine Za rfl rfl (Zd rfl) (Ze (Zb (H3 _ _ ?_)))
 refine Zf fun K6 H6 => ?_
 refine Zf fun K7 H7 => ?_
 refine Zc (Za rfl rfl (Zg rfl) (Za rfl rfl (Yl rfl rfl) (Ze (Zb (H7 _ _ ?_)))))
 refine Zl rfl (fun d => ?_) (fun d => ?_)
 ·have A := d
  have d := Ya d
  refine Zf fun K9 H9 => ?_
  refine Zc (Za rfl rfl (Zd rfl) (Ze (Zb (H9 _ _ ?_))))
  refine Zo (Zk ?_)
  exact Zh [_] ⟨rfl, trivial⟩ ⟨congrArg (Value.int .i64) om, E⟩
 have A := d
 have d := Yb d
 refine Zm ?_
 refine Zb (H6 _ _ ?_)
 refine Zf fun T B => ?_
 refine Zc (Za rfl rfl (Zj fa36_2 rfl) ?_)
 have C := p.ch0 C5
 refine Za rfl rfl (Zp C.at_ agg34 rfl rfl) (Za rfl rfl (Zg rfl) (Zr rfl rfl ?_))
 have D := (b.ch0 C2).ch0 C5
 have F := (a.ch0 C2).ch0 C5
 refine Step.call (Zs (xs := [.tmp 12, .tmp 13]) fk36 rfl) (Zaq F D _ om om) fun G U s => ?_
 obtain ⟨rfl, x⟩ := s
 have H := x.size
 have E := E.trans x
 refine Za rfl rfl (Zd rfl) (Ze (Zb (B _ _ ?_)))
 refine Zf fun V I => ?_
 refine Zf fun X J => ?_
 refine Zc (Za rfl rfl (Zg rfl) (Za rfl rfl (Yl rfl rfl) (Ze (Zb (J _ _ ?_)))))
 refine Zl rfl (fun e => ?_) (fun e => ?_)
 ·have t := e
  have e := Ya e
  refine Zf fun Y K => ?_
  refine Zc (Za rfl rfl (Zd rfl) (Ze (Zb (K _ _ ?_))))
  refine Zo (Zk ?_)
  exact Zh [_] ⟨rfl, trivial⟩ ⟨congrArg (Value.int .i64) om, E⟩
 have t := e
 have e := Yb e
 refine Zm ?_
 refine Zb (I _ _ ?_)
 refine Zf fun Z L => ?_
 refine Zc (Za rfl rfl (Zg rfl) (Za rfl rfl (Zd rfl) (Ze (Zb (L _ _ ?_)))))
 refine Zo ?_
 exact Zh [_] ⟨rfl, trivial⟩ ⟨congrArg (Value.int .i64) om, E⟩

/-- laws.toBoolS -/
theorem Zas {w : World} {LL_a u : Nat} {h : Value} {a : List Bool} (c : Ls bcs 1 w LL_a u h a) (hb : a.length ≤ 1048576) :
 Ctr Tryd.prog 39 #[h] w (fun v w' => Ol bcs 4 1 w' v (a) ∧ Lo w.heap.size v ∧ Ch [] w w') := by
 obtain ⟨l, m, n⟩ := c.val
 subst n
 have H := c.len
 have c := c.here (by decide)
 have E := Ch.refl [] w
 refine Zt (N := 22) (vs0 := [(.slice l a.length m)]) Tryd.func39 rfl rfl rfl ?_
 refine Zf fun K1 H1 => ?_
 refine Zc (Za rfl rfl (Zd rfl) (Ze (Zb (H1 _ _ ?_))))
 refine Zf fun K2 H2 => ?_
 refine Zc (Za rfl rfl (Zg rfl) (Za rfl rfl (Yg (by rw [el33]; rfl) rfl) (Zr rfl rfl ?_)))
 refine Zdh (cs := bcs) false el33 sz4 by4 zr4 Xu (by decide) rfl rfl om om fun T W3 B o C3 => ?_
 have U := C3.size
 have E := E.trans C3
 obtain ⟨d, e, rfl, I, C⟩ := B.opn
 refine Za rfl rfl (Zd rfl) (Ze (Zb (H2 _ _ ?_)))
 refine Zf fun K4 H4 => ?_
 refine Zf fun K5 H5 => ?_
 refine Zc (Za rfl rfl (Zd rfl) (Ze (Zb (H5 _ _ ?_))))
 refine Zq ?_
 have p : Ol bcs 4 1 W3 (.slice d ((List.replicate a.length false)).length e) (a.take 0 ++ List.replicate (a.length - 0) false) := by
  have hx := B
  simpa using hx
 refine Yr (σ := Nat) (fun (k : Nat) => [(0, (.slice l a.length m)), (2, (.slice none 0 0)), (3, (.slice d ((List.replicate a.length false)).length e)), (4, (.int .i64 ((k : Nat) : Int)))]) (fun (k : Nat) wx => Ch [] w wx ∧ W3.heap.size ≤ wx.heap.size ∧ (k ≤ a.length) ∧ Ol bcs 4 1 wx (.slice d ((List.replicate a.length false)).length e) (a.take k ++ List.replicate (a.length - k) false)) (fun (k : Nat) => a.length - k) 0 (sC4 rfl rfl rfl rfl (Sub.nil _)) ⟨E, (Nat.le_refl _), om, p⟩ ?_
 rintro k R7 ⟨E, J, V, f⟩
 have q := E
 have D := q.size
 refine Zf fun K8 H8 => ?_
 refine Zf fun K9 H9 => ?_
 refine Zc (Za rfl rfl (Zg rfl) (Za rfl rfl (Zg rfl) (Za rfl rfl (Yg (by rw [el33]; rfl) rfl) (Za rfl rfl (Yl rfl rfl) (Ze (Zb (H9 _ _ ?_)))))))
 refine Zl rfl (fun b => ?_) (fun b => ?_)
 ·have x := b
  have b := Ya b
  refine Zm ?_
  refine Zb (H8 _ _ ?_)
  refine Zf fun X K => ?_
  refine Zq ?_
  refine Zc (Za rfl rfl (Zg rfl) (Za rfl rfl (Zg rfl) (Za rfl rfl (Zg rfl) (Za rfl rfl (Zg rfl) (Zr rfl rfl ?_)))))
  have L := c.ch0 q
  refine (Yf L Xu el33 sz4 rfl rfl rfl om fun M y r z => ?_)
  refine Za rfl rfl (Zv z agg4 rfl rfl) (Zr rfl rfl ?_)
  refine Zbg (j := k) f el33 sz4 rfl rfl rfl (by simp; omega) fun O P F A => ?_
  refine Zr rfl rfl ?_
  refine Zbk (j := k) y f A Xu sz4 rfl rfl rfl rfl (by simp; omega) fun Q s G => ?_
  have R := G.size
  have E := E.step G (fun i hi => .inl (by have Y := o _ hi; omega))
  refine Ze (Zx (Zb (K _ _ (Zc (Za rfl rfl (Zg rfl) (Za rfl rfl (Yo om rfl rfl) (Za rfl rfl (Zd rfl) (Ze ?_))))))))
  have g : Ol bcs 4 1 Q (.slice d ((List.replicate a.length false)).length e) (a.take (k + 1) ++ List.replicate (a.length - (k + 1)) false) := by
   have hx := s
   rwa [Zcb a false r] at hx
  exact Zb (Exists.intro (k + 1) ⟨⟨E, om, om, g⟩, sC4 rfl rfl rfl rfl (Sub.nil _), (by first | omega | (dsimp only; omega))⟩)
 have x := b
 have b := Yb b
 refine Ys (Zn (Zn (Yh ?_)))
 refine Zb (H4 _ _ ?_)
 refine Zf fun Z S => ?_
 refine Zc (Za rfl rfl (Zg rfl) (Za rfl rfl (Zd rfl) (Ze (Zb (S _ _ ?_)))))
 refine Zo ?_
 have t : Ol bcs 4 1 R7 (.slice d ((List.replicate a.length false)).length e) (a) := by
  have hx := f
  simpa [List.take_of_length_le (show a.length ≤ k by omega), show a.length - k = 0 by omega] using hx
 exact Zh [_] ⟨rfl, trivial⟩ ⟨t, Lo.down o om, E⟩

/-- laws.toIntS -/
theorem Zbm {w : World} {LL_a u : Nat} {h : Value} {a : List Int} (c : Ls ics 1 w LL_a u h a) (hb : a.length ≤ 1048576) :
 Ctr Tryd.prog 64 #[h] w (fun v w' => Ol ics 3 1 w' v (a) ∧ Lo w.heap.size v ∧ Ch [] w w') := by
 obtain ⟨l, m, n⟩ := c.val
 subst n
 have H := c.len
 have c := c.here (by decide)
 have E := Ch.refl [] w
 refine Zt (N := 22) (vs0 := [(.slice l a.length m)]) Tryd.func64 rfl rfl rfl ?_
 refine Zf fun K1 H1 => ?_
 refine Zc (Za rfl rfl (Zd rfl) (Ze (Zb (H1 _ _ ?_))))
 refine Zf fun K2 H2 => ?_
 refine Zc (Za rfl rfl (Zg rfl) (Za rfl rfl (Yg (by rw [el68]; rfl) rfl) (Zr rfl rfl ?_)))
 refine Zdh (cs := ics) (0 : Int) el68 sz3 by3 zr3 Yt (by decide) rfl rfl om om fun T W3 B o C3 => ?_
 have U := C3.size
 have E := E.trans C3
 obtain ⟨d, e, rfl, I, C⟩ := B.opn
 refine Za rfl rfl (Zd rfl) (Ze (Zb (H2 _ _ ?_)))
 refine Zf fun K4 H4 => ?_
 refine Zf fun K5 H5 => ?_
 refine Zc (Za rfl rfl (Zd rfl) (Ze (Zb (H5 _ _ ?_))))
 refine Zq ?_
 have p : Ol ics 3 1 W3 (.slice d ((List.replicate a.length (0 : Int))).length e) (a.take 0 ++ List.replicate (a.length - 0) (0 : Int)) := by
  have hx := B
  simpa using hx
 refine Yr (σ := Nat) (fun (k : Nat) => [(0, (.slice l a.length m)), (2, (.slice none 0 0)), (3, (.slice d ((List.replicate a.length (0 : Int))).length e)), (4, (.int .i64 ((k : Nat) : Int)))]) (fun (k : Nat) wx => Ch [] w wx ∧ W3.heap.size ≤ wx.heap.size ∧ (k ≤ a.length) ∧ Ol ics 3 1 wx (.slice d ((List.replicate a.length (0 : Int))).length e) (a.take k ++ List.replicate (a.length - k) (0 : Int))) (fun (k : Nat) => a.length - k) 0 (sC4 rfl rfl rfl rfl (Sub.nil _)) ⟨E, (Nat.le_refl _), om, p⟩ ?_
 rintro k R7 ⟨E, J, V, f⟩
 have q := E
 have D := q.size
 refine Zf fun K8 H8 => ?_
 refine Zf fun K9 H9 => ?_
 refine Zc (Za rfl rfl (Zg rfl) (Za rfl rfl (Zg rfl) (Za rfl rfl (Yg (by rw [el68]; rfl) rfl) (Za rfl rfl (Yl rfl rfl) (Ze (Zb (H9 _ _ ?_)))))))
 refine Zl rfl (fun b => ?_) (fun b => ?_)
 ·have x := b
  have b := Ya b
  refine Zm ?_
  refine Zb (H8 _ _ ?_)
  refine Zf fun X K => ?_
  refine Zq ?_
  refine Zc (Za rfl rfl (Zg rfl) (Za rfl rfl (Zg rfl) (Za rfl rfl (Zg rfl) (Za rfl rfl (Zg rfl) (Zr rfl rfl ?_)))))
  have L := c.ch0 q
  refine (Yf L Yt el68 sz3 rfl rfl rfl om fun M y r z => ?_)
  refine Za rfl rfl (Zv z agg3 rfl rfl) (Zr rfl rfl ?_)
  refine Zbg (j := k) f el68 sz3 rfl rfl rfl (by simp; omega) fun O P F A => ?_
  refine Zr rfl rfl ?_
  refine Zbk (j := k) y f A Yt sz3 rfl rfl rfl rfl (by simp; omega) fun Q s G => ?_
  have R := G.size
  have E := E.step G (fun i hi => .inl (by have Y := o _ hi; omega))
  refine Ze (Zx (Zb (K _ _ (Zc (Za rfl rfl (Zg rfl) (Za rfl rfl (Yo om rfl rfl) (Za rfl rfl (Zd rfl) (Ze ?_))))))))
  have g : Ol ics 3 1 Q (.slice d ((List.replicate a.length (0 : Int))).length e) (a.take (k + 1) ++ List.replicate (a.length - (k + 1)) (0 : Int)) := by
   have hx := s
   rwa [Zcb a (0 : Int) r] at hx
  exact Zb (Exists.intro (k + 1) ⟨⟨E, om, om, g⟩, sC4 rfl rfl rfl rfl (Sub.nil _), (by first | omega | (dsimp only; omega))⟩)
 have x := b
 have b := Yb b
 refine Ys (Zn (Zn (Yh ?_)))
 refine Zb (H4 _ _ ?_)
 refine Zf fun Z S => ?_
 refine Zc (Za rfl rfl (Zg rfl) (Za rfl rfl (Zd rfl) (Ze (Zb (S _ _ ?_)))))
 refine Zo ?_
 have t : Ol ics 3 1 R7 (.slice d ((List.replicate a.length (0 : Int))).length e) (a) := by
  have hx := f
  simpa [List.take_of_length_le (show a.length ≤ k by omega), show a.length - k = 0 by omega] using hx
 exact Zh [_] ⟨rfl, trivial⟩ ⟨t, Lo.down o om, E⟩

/-- laws.toIntSS -/
theorem Zav {w : World} {LL_sa G : Nat} {t : Value} {sa : List Sv} (c : Ls Sv.cs 1 w LL_sa G t sa) {LR_a BB_a : Nat} {a : List (List Int)} (f : Rd ics 1 w LR_a BB_a sa a) (hb : a.length + a.flatten.length ≤ 1048576) :
 Ctr Tryd.prog 40 #[t] w (fun v w' => ∃ (Q : Value) (vs0 : List Sv), v = Q ∧ Ol Sv.cs 68 1 w' Q vs0 ∧ Lo w.heap.size Q ∧ Od ics 3 1 w' w.heap.size w'.heap.size vs0 (a) ∧ Sep Q vs0 ∧ Ch [] w w') := by
 obtain ⟨x, y, B⟩ := c.val
 subst B
 have Z := c.len
 have c := c.here (by decide)
 have f := f.here (by decide)
 have H := f.1
 have E := Ch.refl [] w
 refine Zt (N := 23) (vs0 := [(.slice x sa.length y)]) Tryd.func40 rfl rfl rfl ?_
 refine Zf fun K1 H1 => ?_
 refine Zc (Za rfl rfl (Zd rfl) (Ze (Zb (H1 _ _ ?_))))
 refine Zf fun K2 H2 => ?_
 refine Zc (Za rfl rfl (Zg rfl) (Za rfl rfl (Yg (by rw [el34]; rfl) rfl) (Zr rfl rfl ?_)))
 refine Zdh (cs := Sv.cs) (⟨none, 0, 0⟩ : Sv) el34 sz68 by68 zr68 Sv.len (by decide) rfl rfl om om fun aA W3 aa m C3 => ?_
 have aB := C3.size
 have E := E.trans C3
 obtain ⟨h, l, rfl, ag, n⟩ := aa.opn
 refine Za rfl rfl (Zd rfl) (Ze (Zb (H2 _ _ ?_)))
 refine Zf fun K4 H4 => ?_
 refine Zf fun K5 H5 => ?_
 refine Zc (Za rfl rfl (Zd rfl) (Ze (Zb (H5 _ _ ?_))))
 refine Zq ?_
 have I : Ol Sv.cs 68 1 W3 (.slice h ((List.replicate sa.length (⟨none, 0, 0⟩ : Sv))).length l) (([] : List Sv) ++ List.replicate (a.length - 0) (⟨none, 0, 0⟩ : Sv)) := by
  have hx := aa
  simpa [H] using hx
 refine Yr (σ := Nat × List Sv) (fun ⟨k, vs⟩ => [(0, (.slice x sa.length y)), (2, (.slice none 0 0)), (3, (.slice h ((List.replicate sa.length (⟨none, 0, 0⟩ : Sv))).length l)), (4, (.int .i64 ((k : Nat) : Int)))]) (fun ⟨k, vs⟩ wx => Ch [] w wx ∧ W3.heap.size ≤ wx.heap.size ∧ (k ≤ a.length) ∧ (vs.length = k) ∧ Ol Sv.cs 68 1 wx (.slice h ((List.replicate sa.length (⟨none, 0, 0⟩ : Sv))).length l) (vs ++ List.replicate (a.length - k) (⟨none, 0, 0⟩ : Sv)) ∧ Od ics 3 1 wx W3.heap.size wx.heap.size vs (a.take k)) (fun ⟨k, vs⟩ => a.length - k) (0, ([] : List Sv)) (sC4 rfl rfl rfl rfl (Sub.nil _)) ⟨E, (Nat.le_refl _), om, rfl, I, Od.nil⟩ ?_
 rintro ⟨k, vs⟩ R7 ⟨E, ah, aC, hv, z, od⟩
 have C := E
 have ab := C.size
 refine Zf fun K8 H8 => ?_
 refine Zf fun K9 H9 => ?_
 refine Zc (Za rfl rfl (Zg rfl) (Za rfl rfl (Zg rfl) (Za rfl rfl (Yg (by rw [el34]; rfl) rfl) (Za rfl rfl (Yl rfl rfl) (Ze (Zb (H9 _ _ ?_)))))))
 refine Zl rfl (fun e => ?_) (fun e => ?_)
 ·have U := e
  have e := Ya e
  refine Zm ?_
  refine Zb (H8 _ _ ?_)
  refine Zf fun aD ai => ?_
  refine Zq ?_
  refine Zc (Za rfl rfl (Zg rfl) (Za rfl rfl (Zg rfl) (Za rfl rfl (Zg rfl) (Za rfl rfl (Zg rfl) (Zr rfl rfl ?_)))))
  have aj := c.ch0 C
  refine (Yf aj Sv.len el34 sz68 rfl rfl rfl om fun V X J D => ?_)
  have ak := f.ch0 C
  obtain ⟨b, o, d⟩ := ak.get J
  obtain ⟨K, al, L⟩ := X
  obtain rfl := d.eqn
  have am := d.len
  replace d : Ls ics 1 R7 LR_a w.heap.size (.slice K b.length L) b := d
  replace D : At R7 LL_sa w.heap.size V ([(.slice K b.length L)]) := D
  refine Za rfl rfl (Zv D agg68 rfl rfl) (Zr rfl rfl ?_)
  refine Step.call (Zs (xs := [.tmp 19]) fk64 rfl) (Zbm d (by have an := Zgc o; omega)) fun ao aE s => ?_
  obtain ⟨s, A, R⟩ := s
  have ap := R.size
  have E := E.trans R
  obtain ⟨p, q, rfl, ac, r⟩ := s.opn
  refine Zr rfl rfl ?_
  have ad := z.ch0 R
  refine Zbg (j := k) ad el34 sz68 rfl rfl rfl (by simp; omega) fun aq au ae Y => ?_
  refine Zr rfl rfl ?_
  refine Zbk (j := k) (⟨p, (b).length, q⟩ : Sv) ad Y Sv.len sz68 rfl rfl rfl rfl (by simp; omega) fun av M S => ?_
  have aw := S.size
  have E := E.step S (fun i hi => .inl (by have T := m _ hi; omega))
  refine Ze (Zx (Zb (ai _ _ (Zc (Za rfl rfl (Zg rfl) (Za rfl rfl (Yo om rfl rfl) (Za rfl rfl (Zd rfl) (Ze ?_))))))))
  have F : Ol Sv.cs 68 1 av (.slice h ((List.replicate sa.length (⟨none, 0, 0⟩ : Sv))).length l) ((vs ++ [(⟨p, (b).length, q⟩ : Sv)]) ++ List.replicate (a.length - (k + 1)) (⟨none, 0, 0⟩ : Sv)) := by
   have hx := M
   rwa [Zfo hv om] at hx
  have ax := (od.ch0 R).ch S (fun i hm => by have T := m _ hm; have af := n _ hm; omega)
  have ay := s.ch S (fun g hg hm => by have T := m _ hm; have af := n _ hm; have aF := A _ hg; have aG := r _ hg; omega)
  exact Zb (Exists.intro ((k + 1), (vs ++ [(⟨p, (b).length, q⟩ : Sv)])) ⟨⟨E, om, om, (by simp [hv]), F, (by rw [Zdz o]; exact Od.snoc ax ay (Lo.down A om) (fun g hg => by have T := r g hg; omega) om om)⟩, sC4 rfl rfl rfl rfl (Sub.nil _), (by first | omega | (dsimp only; omega))⟩)
 have U := e
 have e := Yb e
 refine Ys (Zn (Zn (Yh ?_)))
 refine Zb (H4 _ _ ?_)
 refine Zf fun aH az => ?_
 refine Zc (Za rfl rfl (Zg rfl) (Za rfl rfl (Zd rfl) (Ze (Zb (az _ _ ?_)))))
 refine Zo ?_
 have O : Ol Sv.cs 68 1 R7 (.slice h ((List.replicate sa.length (⟨none, 0, 0⟩ : Sv))).length l) vs := by
  have hx := z
  simpa [show a.length - k = 0 by omega, show sa.length - k = 0 by omega] using hx
 have P : Od ics 3 1 R7 w.heap.size R7.heap.size vs (a) := by
  have hx := od.up (lo' := w.heap.size) (hi' := R7.heap.size) om om
  rwa [List.take_of_length_le om] at hx
 exact Zh [_] ⟨rfl, trivial⟩ ⟨(.slice h ((List.replicate sa.length (⟨none, 0, 0⟩ : Sv))).length l), vs, rfl, O, (Lo.down m om), P, (fun u hu g hg hm => by have an := od.rng hu hg; have T := m _ hm; have af := n _ hm; omega), E⟩

/-- laws.toAutomaton -/
theorem Xb {w : World} (aS : Int) {LL_aA P : Nat} {D : Value} {aA : List Bool} (i : Ls bcs 1 w LL_aA P D aA) {LL_saN H : Nat} {r : Value} {saN : List Sv} (e : Ls Sv.cs 1 w LL_saN H r saN) {LR_aN BB_aN : Nat} {aN : List (List Int)} (h : Rd ics 1 w LR_aN BB_aN saN aN) (hb : aA.length + aN.length + aN.flatten.length ≤ 1048576) :
 Ctr Tryd.prog 18 #[(.agg #[(.int .i64 aS), D, r])] w (fun v w' => ∃ (s : Value) (t : Value) (p : List Sv), v = .agg #[.int .i64 aS, s, t] ∧ Ol bcs 4 1 w' s (aA) ∧ Lo w.heap.size s ∧ Ol Sv.cs 68 1 w' t p ∧ Lo w.heap.size t ∧ Od ics 3 1 w' w.heap.size w'.heap.size p (aN) ∧ Sep t p ∧ (∀ g ∈ bl s, g ∉ bl t) ∧ Sep s p ∧ Ch [] w w') := by
 obtain ⟨F, G, I⟩ := i.val
 subst I
 have af := i.len
 have i := i.here (by decide)
 obtain ⟨x, y, C⟩ := e.val
 subst C
 have ab := e.len
 have e := e.here (by decide)
 have h := h.here (by decide)
 have ac := h.1
 have E := Ch.refl [] w
 refine Zt (N := 16) (vs0 := [(.agg #[(.int .i64 aS), (.slice F aA.length G), (.slice x saN.length y)])]) Tryd.func18 rfl rfl rfl ?_
 refine Zf fun K1 H1 => ?_
 refine Zc (Zr rfl rfl ?_)
 refine Qy rfl fun ak W2 V C2 aM => ?_
 have aO := C2.size
 have E := E.trans C2
 have aP := V.lt
 replace V : Blk W2 ak 36 [(.int .i64 aS), (.slice F aA.length G), (.slice x saN.length y)] := V
 refine Zr rfl rfl ?_
 refine Zcm zr39 fun ag W3 X C3 aQ => ?_
 have aR := C3.size
 have E := E.trans C3
 have aT := X.lt
 replace X : Blk W3 ag 39 [(.int .i64 0), (.slice none 0 0), (.slice none 0 0)] := X
 refine Ze (Zb (H1 _ _ ?_))
 refine Zf fun K4 H4 => ?_
 refine Zc (Zr rfl rfl ?_)
 refine Zcm zr39 fun Y W5 Z C5 aU => ?_
 have aV := C5.size
 have E := E.trans C5
 have aW := Z.lt
 replace Z : Blk W5 Y 39 [(.int .i64 0), (.slice none 0 0), (.slice none 0 0)] := Z
 refine Ze (Zb (H4 _ _ ?_))
 refine Zf fun K6 H6 => ?_
 refine Zc (Za rfl rfl (Zj fa36_0 rfl) ?_)
 have F7 := (V.ch0 C3).ch0 C5
 refine Za rfl rfl (Zp F7.at_ agg3 rfl rfl) (Za rfl rfl (Zj fa39_0 rfl) (Zr rfl rfl ?_))
 refine Zbl (off := 0) Z sz3 rfl rfl rfl rfl fun W8 J C8 => ?_
 have aX := C8.size
 have E := E.step C8 (lS om)
 replace J : Blk W8 Y 39 [(.int .i64 aS), (.slice none 0 0), (.slice none 0 0)] := J
 refine Ze (Zb (H6 _ _ ?_))
 refine Zf fun aY al => ?_
 refine Zc (Za rfl rfl (Zj fa36_1 rfl) ?_)
 have ah := F7.ch C8 (nS om)
 refine Za rfl rfl (Zp ah.at_ agg33 rfl rfl) (Zr rfl rfl ?_)
 have am := (((i.ch0 C2).ch0 C3).ch0 C5).ch C8 (oS om)
 refine Step.call (Zs (xs := [.tmp 8]) fk39 rfl) (Zas am om) fun aZ a0 aa => ?_
 obtain ⟨aa, q, K⟩ := aa
 have an := K.size
 have E := E.trans K
 obtain ⟨m, n, rfl, ao, j⟩ := aa.opn
 refine Za rfl rfl (Zj fa39_1 rfl) (Zr rfl rfl ?_)
 have ap := J.ch0 K
 refine Zbl (off := 1) ap sz33 rfl rfl rfl rfl fun aq z L => ?_
 have au := L.size
 have E := E.step L (lS om)
 replace z : Blk aq Y 39 [(.int .i64 aS), (.slice m (aA).length n), (.slice none 0 0)] := z
 refine Ze (Zb (al _ _ ?_))
 refine Zf fun a1 av => ?_
 refine Zc (Za rfl rfl (Zj fa36_2 rfl) ?_)
 have aw := (ah.ch0 K).ch L (nS om)
 refine Za rfl rfl (Zp aw.at_ agg34 rfl rfl) (Zr rfl rfl ?_)
 have ax := (((((h.ch0 C2).ch0 C3).ch0 C5).ch C8 (oS om)).ch0 K).ch L (oS om)
 have ay := (((((e.ch0 C2).ch0 C3).ch0 C5).ch C8 (oS om)).ch0 K).ch L (oS om)
 refine Step.call (Zs (xs := [.tmp 12]) fk40 rfl) (Zav ay ax om) fun az a2 ad => ?_
 obtain ⟨ai, a, rfl, k, b, o, l, Q⟩ := ad
 have aB := Q.size
 have E := E.trans Q
 obtain ⟨c, d, rfl, ae, f⟩ := k.opn
 refine Za rfl rfl (Zj fa39_2 rfl) (Zr rfl rfl ?_)
 have aC := z.ch0 Q
 refine Zbl (off := 2) aC sz34 rfl rfl rfl rfl fun aD A M => ?_
 have aE := M.size
 have E := E.step M (lS om)
 replace A : Blk aD Y 39 [(.int .i64 aS), (.slice m (aA).length n), (.slice c (a).length d)] := A
 refine Ze (Zb (av _ _ ?_))
 refine Zf fun a3 aF => ?_
 refine Zc (Za rfl rfl (Ym A.at_ agg39 sz39 rfl) (Zr rfl rfl ?_))
 have aG := (((((X.ch0 C5).ch C8 (nS om)).ch0 K).ch L (nS om)).ch0 Q).ch M (nS om)
 refine Zcv (off := 0) 3 aG sz39 rfl (us := [(.int .i64 aS), (.slice m (aA).length n), (.slice c (a).length d)]) rfl rfl rfl rfl fun O B R => ?_
 have aH := R.size
 have E := E.step R (lS om)
 replace B : Blk O ag 39 [(.int .i64 aS), (.slice m (aA).length n), (.slice c (a).length d)] := B
 refine Ze (Zb (aF _ _ ?_))
 refine Zo ?_
 have aI := (((aa.ch L (dS q j om)).ch0 Q).ch M (dS q j om)).ch R (dS q j om)
 have S : Ol bcs 4 1 O (.slice m (aA).length n) (aA) := by
  have hx := aI
  first | exact hx | simpa using hx
 have aJ := (k.ch M (dS b f om)).ch R (dS b f om)
 have aj := (o.ch M (oS om)).ch R (oS om)
 have T : Ol Sv.cs 68 1 O (.slice c (a).length d) a := by
  have hx := aJ
  exact hx
 have U : Od ics 3 1 O w.heap.size O.heap.size a (aN) := by
  have hx := aj.up (lo' := w.heap.size) (hi' := O.heap.size) om om
  exact hx
 exact Zh [_] (Zcn B rfl agg39 sz39 trivial) ⟨(.slice m (aA).length n), (.slice c (a).length d), a, (congrArg (fun zq => (Value.agg #[.int .i64 zq, (.slice m (aA).length n), (.slice c (a).length d)])) (by first | rfl | simp_all)), S, (Lo.down q om), T, (Lo.down b om), U, l, (fun g hm hg => by have aK := q _ hm; have aL := j _ hm; have a4 := b _ hg; have a5 := f _ hg; omega), (fun u hu g hg hm => by have a6 := aj.rng hu hg; have aK := q _ hm; have aL := j _ hm; omega), E⟩

/-- spec.FormatInt -/
theorem Yv {w : World} (n : Int) (z : -9223372036854775808 ≤ n ∧ n ≤ 9223372036854775807) :
 Ctr Tryd.prog 27 #[(.int .i64 n)] w (fun v w' => v = bst (Yw n) ∧ Ch [] w w') := by
 have E := Ch.refl [] w
 refine Zt (N := 31) (vs0 := [(.int .i64 n)]) Tryd.func27 rfl rfl rfl ?_
 refine Zf fun K1 H1 => ?_
 refine Zc (Za rfl rfl (Zd rfl) (Ze (Zb (H1 _ _ ?_))))
 refine Zf fun K2 H2 => ?_
 refine Zf fun K3 H3 => ?_
 refine Zc (Za rfl rfl (Zg rfl) (Za rfl rfl (Zgu rfl rfl) (Ze (Zb (H3 _ _ ?_)))))
 refine Zl rfl (fun e => ?_) (fun e => ?_)
 ·have A := e
  have e := Ya e
  refine Zf fun K5 H5 => ?_
  refine Zc (Za rfl rfl (Zd rfl) (Ze (Zb (H5 _ _ ?_))))
  refine Zo (Zk ?_)
  exact Zh [_] ⟨rfl, trivial⟩ ⟨congrArg bst (Zgs e), E⟩
 have A := e
 have e := Yb e
 refine Zm ?_
 refine Zb (H2 _ _ ?_)
 refine Zf fun K6 H6 => ?_
 refine Zc (Za rfl rfl (Zd rfl) (Ze (Zb (H6 _ _ ?_))))
 refine Zf fun K7 H7 => ?_
 refine Zc (Za rfl rfl (Zg rfl) (Za rfl rfl (Yl rfl rfl) (Za rfl rfl (Zd rfl) (Ze (Zb (H7 _ _ ?_))))))
 refine Zf fun K8 H8 => ?_
 refine Zq ?_
 refine Yr (σ := Int × List UInt8) (fun ⟨m, out⟩ => [(0, (.int .i64 m)), (2, (bst ([] : List UInt8))), (3, (bst out)), (4, (.bool (decide (n < 0))))]) (fun ⟨m, out⟩ wx => Ch [] w wx ∧ w.heap.size ≤ wx.heap.size ∧ (dgF 20 m.natAbs ++ out = dgF 20 n.natAbs) ∧ (-9223372036854775808 ≤ m ∧ m ≤ 9223372036854775807)) (fun ⟨m, out⟩ => m.natAbs) (n, ([] : List UInt8)) (sC4 rfl rfl rfl rfl (Sub.nil _)) ⟨E, (Nat.le_refl _), (by simp), z⟩ ?_
 rintro ⟨m, out⟩ R9 ⟨E, B, hm, hr⟩
 have k := E
 have r := k.size
 have C := congrArg List.length hm
 have P := Zck 20 n.natAbs
 rw [List.length_append] at C
 refine Zf fun Q s => ?_
 refine Zf fun R D => ?_
 refine Zc (Za rfl rfl (Zg rfl) (Za rfl rfl (Qz rfl rfl) (Ze (Zb (D _ _ ?_)))))
 refine Zl rfl (fun a => ?_) (fun a => ?_)
 ·have l := a
  have a := Yb (Xi a)
  have S := tm10 m
  refine Zm ?_
  refine Zb (s _ _ ?_)
  refine Zq ?_
  refine Zf fun T F => ?_
  refine Zc (Za rfl rfl (Zg rfl) (Za rfl rfl (Zha om rfl rfl) (Za rfl rfl (Zd rfl) (Ze (Zb (F _ _ ?_))))))
  refine Zf fun U t => ?_
  refine Zf fun V G => ?_
  refine Zc (Za rfl rfl (Zg rfl) (Za rfl rfl (Yl rfl rfl) (Ze (Zb (G _ _ ?_)))))
  refine Zl rfl (fun c => ?_) (fun c => ?_)
  ·have o := c
   have c := Ya c
   refine Zc (Za rfl rfl (Zg rfl) (Za rfl rfl (Zgy om rfl) (Za rfl rfl (Zd rfl) (Ze (Zb (t _ _ ?_))))))
   refine Zf fun X H => ?_
   refine Zc (Za rfl rfl (Zg rfl) (Za rfl rfl (Yo om rfl rfl) (Za rfl rfl (Zbx (by rw [un3]; rfl) un5 rfl) (Zr rfl rfl ?_))))
   refine Xo (cs := ucs) (parts := [(0, .tmp 20)]) (0 : Int) [(w8 (48 + (-(m.tmod 10))))] el81 sz5 zr5 Zdt (by decide) rfl rfl rfl (by decide) (by decide) rfl fun p Y d g u => ?_
   have I := u.size
   have E := E.trans u
   obtain ⟨h, i, rfl, j, f⟩ := d.opn
   refine Za rfl rfl (Zaz d.ls el81 un5 un9 rfl) (Za rfl rfl (Zg rfl) (Za rfl rfl (Yc (by (simp only [u8s, List.map_cons, List.map_nil, List.length_cons, List.length_nil]; omega)) rfl rfl) (Za rfl rfl (Zd rfl) (Ze (Zb (H _ _ (Zc (Za rfl rfl (Zg rfl) ?_))))))))
   refine Za rfl rfl (Zfy om (td10 om) rfl rfl) (Za rfl rfl (Zd rfl) (Ze (Zx ?_)))
   exact Zb (Exists.intro ((m.tdiv 10), ((u8s ([(w8 (48 + (-(m.tmod 10))))])) ++ out)) ⟨⟨E, om, (Zdv hm a hr (by first | exact .inl rfl | exact .inr rfl) om), (td10 hr)⟩, sC4 rfl rfl rfl rfl (Sub.nil _), (Zge a)⟩)
  have o := c
  have c := Yb c
  refine Zm ?_
  refine Zb (t _ _ ?_)
  refine Zf fun Z J => ?_
  refine Zc (Za rfl rfl (Zg rfl) (Za rfl rfl (Yo om rfl rfl) (Za rfl rfl (Zbx (by rw [un3]; rfl) un5 rfl) (Zr rfl rfl ?_))))
  refine Xo (cs := ucs) (parts := [(0, .tmp 20)]) (0 : Int) [(w8 (48 + (m.tmod 10)))] el81 sz5 zr5 Zdt (by decide) rfl rfl rfl (by decide) (by decide) rfl fun p aa d g x => ?_
  have K := x.size
  have E := E.trans x
  obtain ⟨h, i, rfl, j, f⟩ := d.opn
  refine Za rfl rfl (Zaz d.ls el81 un5 un9 rfl) (Za rfl rfl (Zg rfl) (Za rfl rfl (Yc (by (simp only [u8s, List.map_cons, List.map_nil, List.length_cons, List.length_nil]; omega)) rfl rfl) (Za rfl rfl (Zd rfl) (Ze (Zb (J _ _ (Zc (Za rfl rfl (Zg rfl) ?_))))))))
  refine Za rfl rfl (Zfy om (td10 om) rfl rfl) (Za rfl rfl (Zd rfl) (Ze (Zx ?_)))
  exact Zb (Exists.intro ((m.tdiv 10), ((u8s ([(w8 (48 + (m.tmod 10)))])) ++ out)) ⟨⟨E, om, (Zdv hm a hr (by first | exact .inl rfl | exact .inr rfl) om), (td10 hr)⟩, sC4 rfl rfl rfl rfl (Sub.nil _), (Zge a)⟩)
 have l := a
 have a := Ya (Xh a)
 refine Ys (Zn (Zn (Yh ?_)))
 refine Zb (H8 _ _ ?_)
 refine Zf fun ab y => ?_
 refine Zf fun ac L => ?_
 refine Zc (Za rfl rfl (Zg rfl) (Ze (Zb (L _ _ ?_))))
 refine Zl rfl (fun b => ?_) (fun b => ?_)
 ·have q := b
  have b := Ya b
  refine Zf fun ad M => ?_
  refine Zc (Za rfl rfl (Zg rfl) (Za rfl rfl (Yc (by (simp only [u8s, List.map_cons, List.map_nil, List.length_cons, List.length_nil]; omega)) rfl rfl) (Za rfl rfl (Zd rfl) (Ze (Zb (M _ _ ?_))))))
  refine Zo (Zk ?_)
  clear s y
  exact Zh [_] ⟨rfl, trivial⟩ ⟨congrArg bst (Zep b (Zey hm a)), E⟩
 have q := b
 have b := Yb b
 refine Zm ?_
 refine Zb (y _ _ ?_)
 refine Zf fun ae O => ?_
 refine Zc (Za rfl rfl (Zg rfl) (Za rfl rfl (Zd rfl) (Ze (Zb (O _ _ ?_)))))
 refine Zo ?_
 exact Zh [_] ⟨rfl, trivial⟩ ⟨congrArg bst (Zeu b e (Zey hm a)), E⟩

/-- spec.l1In -/
theorem Qn {w : World} (n : Int) (a : Int) (b : Int) :
 Ctr Tryd.prog 52 #[(.int .i64 n), (.int .i64 a), (.int .i64 b)] w (fun v w' => v = .bool (decide (a ≤ n ∧ n ≤ b)) ∧ Ch [] w w') := by
 have E := Ch.refl [] w
 refine Zt (N := 15) (vs0 := [(.int .i64 n), (.int .i64 a), (.int .i64 b)]) Tryd.func52 rfl rfl rfl ?_
 refine Zf fun K1 H1 => ?_
 refine Zc (Za rfl rfl (Zd rfl) (Ze (Zb (H1 _ _ ?_))))
 refine Zf fun K2 H2 => ?_
 refine Zc (Za rfl rfl (Zg rfl) (Za rfl rfl (Zg rfl) (Za rfl rfl (Zcx rfl rfl) (Za rfl rfl (Zg rfl) ?_))))
 refine Xw (d := 10) rfl (fun c => ?_) (fun c => ?_)
 ·have e := c
  have c := Ya c
  refine Za rfl rfl (Zg rfl) (Za rfl rfl (Zg rfl) (Za rfl rfl (Zfc rfl rfl) (Za rfl rfl (Qj rfl rfl) (Za rfl rfl (Zd rfl) (Ze (Zb (H2 _ _ ?_)))))))
  refine Zo ?_
  exact Zh [_] ⟨rfl, trivial⟩ ⟨congrArg Value.bool (by first | rfl | (rw [Bool.eq_iff_iff]; simp <;> omega) | (rw [Bool.eq_iff_iff]; simp_all; done) | simp_all), E⟩
 have e := c
 have c := Yb c
 refine Zw rfl rfl (Zw rfl rfl (Zw rfl rfl (Za rfl rfl (Qu rfl rfl) (Za rfl rfl (Zd rfl) (Ze (Zb (H2 _ _ ?_)))))))
 refine Zo ?_
 exact Zh [_] ⟨rfl, trivial⟩ ⟨congrArg Value.bool (by first | rfl | (rw [Bool.eq_iff_iff]; simp <;> omega) | (rw [Bool.eq_iff_iff]; simp_all; done) | simp_all), E⟩

/-- spec.l2Letter -/
theorem Zal {w : World} (n : Int) :
 Ctr Tryd.prog 63 #[(.int .i64 n)] w (fun v w' => v = .bool (decide (0 ≤ n ∧ n ≤ 8)) ∧ Ch [] w w') := by
 have E := Ch.refl [] w
 refine Zt (N := 5) (vs0 := [(.int .i64 n)]) Tryd.func63 rfl rfl rfl ?_
 refine Zf fun K1 H1 => ?_
 refine Zc (Za rfl rfl (Zd rfl) (Ze (Zb (H1 _ _ ?_))))
 refine Zf fun K2 H2 => ?_
 refine Zc (Za rfl rfl (Zg rfl) (Zr rfl rfl ?_))
 refine Step.call (Zs (xs := [.tmp 3, .const (Go.Value.int Go.IntKind.i64 0), .const (Go.Value.int Go.IntKind.i64 8)]) fk52 rfl) (Qn _ _ _ ) fun b W3 a => ?_
 obtain ⟨rfl, C3⟩ := a
 have c := C3.size
 have E := E.trans C3
 refine Za rfl rfl (Zd rfl) (Ze (Zb (H2 _ _ ?_)))
 refine Zo ?_
 exact Zh [_] ⟨rfl, trivial⟩ ⟨congrArg Value.bool rfl, E⟩

/-- spec.FormatLetter -/
theorem Xk {w : World} (n : Int) :
 Ctr Tryd.prog 38 #[(.int .i64 n)] w (fun v w' => v = bst (fmtL n) ∧ Ch [] w w') := by
 have E := Ch.refl [] w
 refine Zt (N := 10) (vs0 := [(.int .i64 n)]) Tryd.func38 rfl rfl rfl ?_
 refine Zf fun K1 H1 => ?_
 refine Zc (Za rfl rfl (Zd rfl) (Ze (Zb (H1 _ _ ?_))))
 refine Zf fun K2 H2 => ?_
 refine Zf fun K3 H3 => ?_
 refine Zc (Za rfl rfl (Zg rfl) (Zr rfl rfl ?_))
 refine Step.call (Zs (xs := [.tmp 3]) fk63 rfl) (Zal _ ) fun m W4 e => ?_
 obtain ⟨rfl, C4⟩ := e
 have o := C4.size
 have E := E.trans C4
 refine Za rfl rfl (Qb rfl) (Ze (Zb (H3 _ _ ?_)))
 refine Zl rfl (fun a => ?_) (fun a => ?_)
 ·have f := a
  have a := Yb (Xi a)
  refine Zf fun K6 H6 => ?_
  refine Zc (Za rfl rfl (Zd rfl) (Ze (Zb (H6 _ _ ?_))))
  refine Zo (Zk ?_)
  exact Zh [_] ⟨rfl, trivial⟩ ⟨congrArg bst (Zez om), E⟩
 have f := a
 have a := Ya (Xh a)
 refine Zm ?_
 refine Zb (H2 _ _ ?_)
 refine Zf fun K7 H7 => ?_
 refine Zc (Zr rfl rfl ?_)
 refine Xo (cs := scs) (parts := [(0, .const (Go.Value.string { data := #[97] })), (1, .const (Go.Value.string { data := #[97, 45] })), (2, .const (Go.Value.string { data := #[98] })), (3, .const (Go.Value.string { data := #[98, 45] })), (4, .const (Go.Value.string { data := #[99] })), (5, .const (Go.Value.string { data := #[99, 45] })), (6, .const (Go.Value.string { data := #[48] })), (7, .const (Go.Value.string { data := #[49] })), (8, .const (Go.Value.string { data := #[50] }))]) ([] : List UInt8) [[97], [97, 45], [98], [98, 45], [99], [99, 45], [48], [49], [50]] el60 sz9 zr9 Zbf (by decide) rfl rfl rfl (by decide) (by decide) rfl fun p W8 c g C8 => ?_
 have q := C8.size
 have E := E.trans C8
 obtain ⟨h, i, rfl, k, d⟩ := c.opn
 refine Za rfl rfl (Zg rfl) (Zr rfl rfl ?_)
 refine (Yf (j := n.toNat) c.ls Zbf el60 sz9 rfl rfl om (by first | omega | (simp; omega)) fun r s b l => ?_)
 refine Za rfl rfl (Zv l agg9 rfl rfl) (Za rfl rfl (Zd rfl) (Ze (Zb (H7 _ _ ?_))))
 refine Zo ?_
 exact Zh [_] ⟨rfl, trivial⟩ ⟨congrArg bst (Zfa om b), E⟩

/-- spec.l11Fits -/
theorem Zau {w : World} (aS : Int) {LL_aA X : Nat} {J : Value} {aA : List Bool} (u : Ls bcs 1 w LL_aA X J aA) {LL_saN M : Nat} {A : Value} {saN : List Sv} (m : Ls Sv.cs 1 w LL_saN M A saN) {LR_aN BB_aN : Nat} {aN : List (List Int)} (o : Rd ics 1 w LR_aN BB_aN saN aN) :
 Ctr Tryd.prog 62 #[(.agg #[(.int .i64 aS), J, A])] w (fun v w' => v = .bool (tt (Zef aS aA aN)) ∧ Ch [] w w') := by
 obtain ⟨x, y, O⟩ := u.val
 subst O
 have aB := u.len
 have u := u.here (by decide)
 obtain ⟨g, h, G⟩ := m.val
 subst G
 have ae := m.len
 have m := m.here (by decide)
 have o := o.here (by decide)
 have af := o.1
 have E := Ch.refl [] w
 refine Zt (N := 50) (vs0 := [(.agg #[(.int .i64 aS), (.slice x aA.length y), (.slice g saN.length h)])]) Tryd.func62 rfl rfl rfl ?_
 refine Zf fun K1 H1 => ?_
 refine Zc (Zr rfl rfl ?_)
 refine Qy rfl fun T W2 U C2 bf => ?_
 have bg := C2.size
 have E := E.trans C2
 have bh := U.lt
 replace U : Blk W2 T 39 [(.int .i64 aS), (.slice x aA.length y), (.slice g saN.length h)] := U
 refine Za rfl rfl (Zd rfl) (Ze (Zb (H1 _ _ ?_)))
 refine Zf fun K3 H3 => ?_
 refine Zc (Za rfl rfl (Zj fa39_1 rfl) (Za rfl rfl (Zp U.at_ agg33 rfl rfl) (Za rfl rfl (Yg (by rw [el33]; rfl) rfl) (Za rfl rfl (Zd rfl) (Ze (Zb (H3 _ _ ?_)))))))
 refine Zf fun K4 H4 => ?_
 refine Zf fun K5 H5 => ?_
 refine Zc (Za rfl rfl (Zj fa39_0 rfl) (Za rfl rfl (Zp U.at_ agg3 rfl rfl) (Za rfl rfl (Zg rfl) (Za rfl rfl (Zcg om rfl rfl) (Zr rfl rfl ?_)))))
 refine Step.call (Zs (xs := [.tmp 10, .const (Go.Value.int Go.IntKind.i64 0), .tmp 12]) fk52 rfl) (Qn _ _ _ ) fun aJ W6 ag => ?_
 obtain ⟨rfl, C6⟩ := ag
 have bi := C6.size
 have E := E.trans C6
 refine Za rfl rfl (Qb rfl) (Za rfl rfl (Zg rfl) ?_)
 refine Xw (d := 15) rfl (fun a => ?_) (fun a => ?_)
 ·have aK := a
  have a := Yb (Xi a)
  refine Zw rfl rfl (Zw rfl rfl (Zw rfl rfl (Zw rfl rfl (Zw rfl rfl (Za rfl rfl (Qj rfl rfl) (Ze (Zb (H5 _ _ ?_))))))))
  refine Zci rfl ?_
  refine Zf fun K8 H8 => ?_
  refine Zc (Za rfl rfl (Zd rfl) (Ze (Zb (H8 _ _ ?_))))
  refine Zo (Zk ?_)
  exact Zh [_] ⟨rfl, trivial⟩ ⟨congrArg Value.bool (by first | exact Xa ⟨a, by omega, Yu V om⟩ | exact Zi (fun e => a e.1) | exact Zi (fun e => j (by have H := e.2.1; omega)) | exact Zi (fun e => i (Yi e f n)) | exact Zi (fun e => l (by have H := (Zy e b).1; omega))), E⟩
 have aK := a
 have a := Ya (Xh a)
 refine Za rfl rfl (Zj fa39_2 rfl) ?_
 have F9 := U.ch0 C6
 refine Za rfl rfl (Zp F9.at_ agg34 rfl rfl) (Za rfl rfl (Yg (by rw [el34]; rfl) rfl) (Za rfl rfl (Zg rfl) (Za rfl rfl (Qz rfl rfl) (Za rfl rfl (Qu rfl rfl) (Ze (Zb (H5 _ _ ?_)))))))
 refine Zl rfl (fun j => ?_) (fun j => ?_)
 ·have ah := j
  have j := Yb (Xi j)
  refine Zf fun bj aL => ?_
  refine Zc (Za rfl rfl (Zd rfl) (Ze (Zb (aL _ _ ?_))))
  refine Zo (Zk ?_)
  exact Zh [_] ⟨rfl, trivial⟩ ⟨congrArg Value.bool (by first | exact Xa ⟨a, by omega, Yu V om⟩ | exact Zi (fun e => a e.1) | exact Zi (fun e => j (by have H := e.2.1; omega)) | exact Zi (fun e => i (Yi e f n)) | exact Zi (fun e => l (by have H := (Zy e b).1; omega))), E⟩
 have ah := j
 have j := Ya (Xh j)
 refine Zm ?_
 refine Zb (H4 _ _ ?_)
 refine Zf fun bk ai => ?_
 refine Zf fun bm aM => ?_
 refine Zc (Za rfl rfl (Zd rfl) (Ze (Zb (aM _ _ ?_))))
 refine Zq ?_
 refine Yr (σ := Nat) (fun (s : Nat) => [(1, (.pointer (some ⟨T, 0, none⟩))), (3, (.int .i64 ((aA.length : Nat) : Int))), (4, (.int .i64 ((s : Nat) : Int)))]) (fun (s : Nat) wx => Ch [] w wx ∧ W6.heap.size ≤ wx.heap.size ∧ (s ≤ aN.length) ∧ (Zbp aA.length aN s) ∧ Blk wx T 39 [(.int .i64 aS), (.slice x aA.length y), (.slice g saN.length h)]) (fun (s : Nat) => aN.length - s) 0 (sC2 rfl rfl (sC1 rfl (Sub.nil _))) ⟨E, (Nat.le_refl _), om, (Zbz _ _), F9⟩ ?_
 rintro s aj ⟨E, aO, hs, V, B⟩
 have P := E
 have aC := P.size
 have ak := B.lt
 refine Zf fun bn aP => ?_
 refine Zf fun bp aQ => ?_
 refine Zc (Za rfl rfl (Zg rfl) (Za rfl rfl (Zg rfl) (Za rfl rfl (Yl rfl rfl) (Ze (Zb (aQ _ _ ?_))))))
 refine Zl rfl (fun r => ?_) (fun r => ?_)
 ·have al := r
  have r := Ya r
  refine Zm ?_
  refine Zb (aP _ _ ?_)
  refine Zf fun bq am => ?_
  refine Zq ?_
  refine Zf fun br aD => ?_
  refine Zf fun bs aR => ?_
  refine Zc (Za rfl rfl (Zj fa39_2 rfl) (Za rfl rfl (Zp B.at_ agg34 rfl rfl) (Za rfl rfl (Zg rfl) (Zr rfl rfl ?_))))
  have aE := m.ch0 P
  refine (Yf aE Sv.len el34 sz68 rfl rfl rfl om fun Q an Y I => ?_)
  have aF := o.ch0 P
  obtain ⟨c, b, p⟩ := aF.get Y
  obtain ⟨C, aT, D⟩ := an
  obtain rfl := p.eqn
  have aU := p.len
  replace p : Ls ics 1 aj LR_aN w.heap.size (.slice C c.length D) c := p
  replace I : At aj LL_saN w.heap.size Q ([(.slice C c.length D)]) := I
  refine Za rfl rfl (Zv I agg68 rfl rfl) (Za rfl rfl (Yg (by rw [el68]; rfl) rfl) (Za rfl rfl (Qz rfl rfl) (Ze (Zb (aR _ _ ?_)))))
  refine Zl rfl (fun l => ?_) (fun l => ?_)
  ·have ao := l
   have l := Yb (Xi l)
   refine Zf fun bu aV => ?_
   refine Zc (Za rfl rfl (Zd rfl) (Ze (Zb (aV _ _ ?_))))
   refine Zo (Zk (Ye (Zk (Zk (Ye (Zk ?_))))))
   clear ai am aD
   exact Zh [_] ⟨rfl, trivial⟩ ⟨congrArg Value.bool (by first | exact Xa ⟨a, by omega, Yu V om⟩ | exact Zi (fun e => a e.1) | exact Zi (fun e => j (by have H := e.2.1; omega)) | exact Zi (fun e => i (Yi e f n)) | exact Zi (fun e => l (by have H := (Zy e b).1; omega))), E⟩
  have ao := l
  have l := Ya (Xh l)
  refine Zm ?_
  refine Zb (aD _ _ ?_)
  refine Zf fun bv aW => ?_
  refine Zc (Za rfl rfl (Zd rfl) (Ze (Zb (aW _ _ ?_))))
  refine Zq ?_
  refine Yr (σ := Nat) (fun (k : Nat) => [(1, (.pointer (some ⟨T, 0, none⟩))), (3, (.int .i64 ((aA.length : Nat) : Int))), (4, (.int .i64 ((s : Nat) : Int))), (5, (.int .i64 ((k : Nat) : Int))), (22, (.int .i64 ((s : Nat) : Int))), (23, (.int .i64 ((aA.length : Nat) : Int))), (24, (.bool (decide (((s : Nat) : Int) < ((aA.length : Nat) : Int))))), (27, (.pointer (some (Addr.add ⟨T, 0, none⟩ 2)))), (28, (.slice g saN.length h)), (29, (.int .i64 ((s : Nat) : Int))), (30, (.pointer (some Q))), (31, (.slice C c.length D)), (32, (.int .i64 ((c.length : Nat) : Int))), (33, (.bool (!decide (((c.length : Nat) : Int) = 9))))]) (fun (k : Nat) wx => Ch [] w wx ∧ aj.heap.size ≤ wx.heap.size ∧ (k ≤ 9) ∧ (RowP aA.length c k) ∧ Blk wx T 39 [(.int .i64 aS), (.slice x aA.length y), (.slice g saN.length h)] ∧ Ls Sv.cs 1 wx LL_saN w.heap.size (.slice g saN.length h) saN ∧ Rd ics 1 wx LR_aN w.heap.size saN aN ∧ At wx LL_saN w.heap.size Q ([(.slice C c.length D)]) ∧ Ls ics 1 wx LR_aN w.heap.size (.slice C c.length D) c) (fun (k : Nat) => 9 - k) 0 (sC8 rfl rfl rfl rfl rfl rfl rfl rfl (sC4 rfl rfl rfl rfl (sC2 rfl rfl (Sub.nil _)))) ⟨E, (Nat.le_refl _), om, (Zby _ _), B, aE, aF, I, p⟩ ?_
  rintro k aG ⟨E, aX, bw, hp, z, K, L, Z, aa⟩
  have ap := E
  have aH := ap.size
  have aq := z.lt
  refine Zf fun bx aY => ?_
  refine Zf fun bz aZ => ?_
  refine Zc (Za rfl rfl (Zg rfl) (Za rfl rfl (Yl rfl rfl) (Ze (Zb (aZ _ _ ?_)))))
  refine Zl rfl (fun t => ?_) (fun t => ?_)
  ·have au := t
   have t := Ya t
   refine Zm ?_
   refine Zb (aY _ _ ?_)
   refine Zf fun bA aI => ?_
   refine Zq ?_
   refine Zf fun bB a0 => ?_
   refine Zc (Za rfl rfl (Zj fa39_2 rfl) (Za rfl rfl (Zp z.at_ agg34 rfl rfl) (Za rfl rfl (Zg rfl) (Zr rfl rfl ?_))))
   refine (Yf K Sv.len el34 sz68 rfl rfl rfl om fun av aw ab R => ?_)
   obtain ⟨F, f, q⟩ := L.get ab
   obtain ⟨ac, a1, ad⟩ := aw
   obtain rfl := q.eqn
   have a2 := q.len
   replace q : Ls ics 1 aG LR_aN w.heap.size (.slice ac F.length ad) F := q
   replace R : At aG LL_saN w.heap.size av ([(.slice ac F.length ad)]) := R
   have a3 := congrArg List.length (Yz b f)
   refine Za rfl rfl (Zv R agg68 rfl rfl) (Za rfl rfl (Zg rfl) (Zr rfl rfl ?_))
   refine (Yf q Yt el68 sz3 rfl rfl rfl om fun a4 a5 n ax => ?_)
   refine Za rfl rfl (Zv ax agg3 rfl rfl) (Za rfl rfl (Zg rfl) (Za rfl rfl (Zcg om rfl rfl) (Zr rfl rfl ?_)))
   refine Step.call (Zs (xs := [.tmp 45, .const (Go.Value.int Go.IntKind.i64 (-1)), .tmp 47]) fk52 rfl) (Qn _ _ _ ) fun a6 bC ay => ?_
   obtain ⟨rfl, S⟩ := ay
   have a7 := S.size
   have E := E.trans S
   refine Za rfl rfl (Qb rfl) (Ze (Zb (a0 _ _ ?_)))
   refine Zl rfl (fun i => ?_) (fun i => ?_)
   ·have az := i
    have i := Yb (Xi i)
    refine Zf fun bD a8 => ?_
    refine Zc (Za rfl rfl (Zd rfl) (Ze (Zb (a8 _ _ ?_))))
    refine Zo (Ye (Zk (Zk (Ye (Ye (Zk (Zk (Ye (Zk ?_)))))))))
    clear ai am aI
    exact Zh [_] ⟨rfl, trivial⟩ ⟨congrArg Value.bool (by first | exact Xa ⟨a, by omega, Yu V om⟩ | exact Zi (fun e => a e.1) | exact Zi (fun e => j (by have H := e.2.1; omega)) | exact Zi (fun e => i (Yi e f n)) | exact Zi (fun e => l (by have H := (Zy e b).1; omega))), E⟩
   have az := i
   have i := Ya (Xh i)
   refine Zm ?_
   refine Zx (Zb (aI _ _ (Zc (Za rfl rfl (Zg rfl) (Za rfl rfl (Yo om rfl rfl) (Za rfl rfl (Zd rfl) (Ze ?_)))))))
   have a9 := z.ch0 S
   have ba := K.ch0 S
   have bb := L.ch0 S
   have bc := Z.ch0 S
   have bd := aa.ch0 S
   exact Zb (Exists.intro (k + 1) ⟨⟨E, om, om, (Zce hp (Yz f b ▸ n) i), a9, ba, bb, bc, bd⟩, sC8 rfl rfl rfl rfl rfl rfl rfl rfl (sC4 rfl rfl rfl rfl (sC2 rfl rfl (Sub.nil _))), (by first | omega | (dsimp only; omega))⟩)
  have au := t
  have t := Yb t
  refine Ys (Zn (Zn (Yh ?_)))
  refine Zx (Zb (am _ _ (Zc (Za rfl rfl (Zg rfl) (Za rfl rfl (Yo om rfl rfl) (Za rfl rfl (Zd rfl) (Ze ?_)))))))
  exact Zb (Exists.intro (s + 1) ⟨⟨E, om, om, (Zcd V b ⟨by omega, Zcw hp om⟩), z⟩, sC2 rfl rfl (sC1 rfl (Sub.nil _)), (by first | omega | (dsimp only; omega))⟩)
 have al := r
 have r := Yb r
 refine Ys (Zn (Zn (Yh ?_)))
 refine Zb (ai _ _ ?_)
 refine Zf fun bE be => ?_
 refine Zc (Za rfl rfl (Zd rfl) (Ze (Zb (be _ _ ?_))))
 refine Zo ?_
 exact Zh [_] ⟨rfl, trivial⟩ ⟨congrArg Value.bool (by first | exact Xa ⟨a, by omega, Yu V om⟩ | exact Zi (fun e => a e.1) | exact Zi (fun e => j (by have H := e.2.1; omega)) | exact Zi (fun e => i (Yi e f n)) | exact Zi (fun e => l (by have H := (Zy e b).1; omega))), E⟩

/-- spec.IsValidAutomaton -/
theorem Xy {w : World} (aS : Int) {LL_aA p : Nat} {k : Value} {aA : List Bool} (c : Ls bcs 1 w LL_aA p k aA) {LL_saN n : Nat} {f : Value} {saN : List Sv} (a : Ls Sv.cs 1 w LL_saN n f saN) {LR_aN BB_aN : Nat} {aN : List (List Int)} (b : Rd ics 1 w LR_aN BB_aN saN aN) :
 Ctr Tryd.prog 37 #[(.agg #[(.int .i64 aS), k, f])] w (fun v w' => v = .bool (tt (Xd aS aA aN)) ∧ Ch [] w w') := by
 obtain ⟨l, m, o⟩ := c.val
 subst o
 have t := c.len
 have c := c.here (by decide)
 obtain ⟨g, h, i⟩ := a.val
 subst i
 have r := a.len
 have a := a.here (by decide)
 have b := b.here (by decide)
 have s := b.1
 have E := Ch.refl [] w
 refine Zt (N := 11) (vs0 := [(.agg #[(.int .i64 aS), (.slice l aA.length m), (.slice g saN.length h)])]) Tryd.func37 rfl rfl rfl ?_
 refine Zf fun K1 H1 => ?_
 refine Zc (Zr rfl rfl ?_)
 refine Qy rfl fun u W2 q C2 A => ?_
 have B := C2.size
 have E := E.trans C2
 have C := q.lt
 replace q : Blk W2 u 39 [(.int .i64 aS), (.slice l aA.length m), (.slice g saN.length h)] := q
 refine Za rfl rfl (Zd rfl) (Ze (Zb (H1 _ _ ?_)))
 refine Zf fun K3 H3 => ?_
 refine Zc (Za rfl rfl (Zj fa39_1 rfl) (Za rfl rfl (Zp q.at_ agg33 rfl rfl) (Za rfl rfl (Yg (by rw [el33]; rfl) rfl) (Za rfl rfl (Zfc rfl rfl) (Za rfl rfl (Zg rfl) ?_)))))
 refine Xw (d := 7) rfl (fun j => ?_) (fun j => ?_)
 ·have x := j
  have j := Ya j
  refine Za rfl rfl (Ym q.at_ agg39 sz39 rfl) (Zr rfl rfl ?_)
  have F5 := c.ch0 C2
  have F6 := b.ch0 C2
  have F7 := a.ch0 C2
  refine Step.call (Zs (xs := [.tmp 8]) fk62 rfl) (Zau _ F5 F7 F6 ) fun D W8 y => ?_
  obtain ⟨rfl, C8⟩ := y
  have F := C8.size
  have E := E.trans C8
  refine Za rfl rfl (Qj rfl rfl) (Za rfl rfl (Zd rfl) (Ze (Zb (H3 _ _ ?_))))
  refine Zo ?_
  exact Zh [_] ⟨rfl, trivial⟩ ⟨congrArg Value.bool (by first | exact Zfz ⟨fun e => ⟨by omega, e⟩, fun e => e.2⟩ | exact Zi (fun e => j (by have z := e.1; omega))), E⟩
 have x := j
 have j := Yb j
 refine Zw rfl rfl (Zw rfl rfl (Za rfl rfl (Qu rfl rfl) (Za rfl rfl (Zd rfl) (Ze (Zb (H3 _ _ ?_))))))
 refine Zo ?_
 exact Zh [_] ⟨rfl, trivial⟩ ⟨congrArg Value.bool (by first | exact Zfz ⟨fun e => ⟨by omega, e⟩, fun e => e.2⟩ | exact Zi (fun e => j (by have z := e.1; omega))), E⟩

/-- spec.FormatAutomaton -/
theorem Qe {w : World} (aS : Int) {LL_aA az : Nat} {T : Value} {aA : List Bool} (B : Ls bcs 1 w LL_aA az T aA) {LL_saN aa : Nat} {H : Value} {saN : List Sv} (q : Ls Sv.cs 1 w LL_saN aa H saN) {LR_aN BB_aN : Nat} {aN : List (List Int)} (A : Rd ics 1 w LR_aN BB_aN saN aN) :
 Ctr Tryd.prog 17 #[(.agg #[(.int .i64 aS), T, H])] w (fun v w' => v = bst (faR aS aA aN) ∧ Ch [] w w') := by
 obtain ⟨o, p, ab⟩ := B.val
 subst ab
 have bg := B.len
 have B := B.here (by decide)
 obtain ⟨e, f, S⟩ := q.val
 subst S
 have aJ := q.len
 have q := q.here (by decide)
 have A := A.here (by decide)
 have aK := A.1
 have E := Ch.refl [] w
 have bA := Yp aS
 refine Zt (N := 62) (vs0 := [(.agg #[(.int .i64 aS), (.slice o aA.length p), (.slice e saN.length f)])]) Tryd.func17 rfl rfl rfl ?_
 refine Zf fun K1 H1 => ?_
 refine Zc (Zr rfl rfl ?_)
 refine Qy rfl fun ac W2 aB C2 cy => ?_
 have cz := C2.size
 have E := E.trans C2
 have cA := aB.lt
 replace aB : Blk W2 ac 39 [(.int .i64 aS), (.slice o aA.length p), (.slice e saN.length f)] := aB
 refine Za rfl rfl (Zd rfl) (Ze (Zb (H1 _ _ ?_)))
 refine Zf fun K3 H3 => ?_
 refine Zf fun K4 H4 => ?_
 refine Zc (Za rfl rfl (Ym aB.at_ agg39 sz39 rfl) (Zr rfl rfl ?_))
 have F5 := B.ch0 C2
 have F6 := A.ch0 C2
 have F7 := q.ch0 C2
 refine Step.call (Zs (xs := [.tmp 6]) fk37 rfl) (Xy _ F5 F7 F6 ) fun cB W8 bB => ?_
 obtain ⟨rfl, C8⟩ := bB
 have cC := C8.size
 have E := E.trans C8
 refine Za rfl rfl (Qb rfl) (Ze (Zb (H4 _ _ ?_)))
 refine Zl rfl (fun r => ?_) (fun r => ?_)
 ·have bC := r
  have r := bf_t (Xi r)
  first | have bD := r.1 | skip
  first | have bE := r.2.2.1 | skip
  first | have bF := r.2.1 | skip
  refine Zf fun cD bG => ?_
  refine Zc (Za rfl rfl (Zd rfl) (Ze (Zb (bG _ _ ?_))))
  refine Zo (Zk ?_)
  exact Zh [_] ⟨rfl, trivial⟩ ⟨congrArg bst (Zfx r), E⟩
 have bC := r
 have r := bt_t (Xh r)
 first | have bD := r.1 | skip
 first | have bE := r.2.2.1 | skip
 first | have bF := r.2.1 | skip
 refine Zm ?_
 refine Zb (H3 _ _ ?_)
 refine Zf fun cE bH => ?_
 refine Zc (Za rfl rfl (Zj fa39_0 rfl) ?_)
 have bh := aB.ch0 C8
 refine Za rfl rfl (Zp bh.at_ agg3 rfl rfl) (Zr rfl rfl ?_)
 refine Step.call (Zs (xs := [.tmp 10]) fk27 rfl) (Yv _ om) fun bI bJ aL => ?_
 obtain ⟨rfl, aw⟩ := aL
 have bK := aw.size
 have E := E.trans aw
 refine Za rfl rfl (Yc (by (first | omega | (simp only [List.length_append, List.length_cons, List.length_nil]; omega))) rfl rfl) (Za rfl rfl (Zd rfl) (Ze (Zb (bH _ _ ?_))))
 refine Zf fun cF bL => ?_
 refine Zf fun cG bM => ?_
 refine Zc (Za rfl rfl (Zd rfl) (Ze (Zb (bM _ _ ?_))))
 refine Zq ?_
 have bN := bh.ch0 aw
 have bO := (F5.ch0 C8).ch0 aw
 have bP := (F7.ch0 C8).ch0 aw
 have bQ := (F6.ch0 C8).ch0 aw
 refine Yr (σ := Nat × List UInt8) (fun ⟨i, s⟩ => [(1, (.pointer (some ⟨ac, 0, none⟩))), (2, (bst ([] : List UInt8))), (3, (bst s)), (4, (.int .i64 ((i : Nat) : Int)))]) (fun ⟨i, s⟩ wx => Ch [] w wx ∧ bJ.heap.size ≤ wx.heap.size ∧ (i ≤ aA.length) ∧ (s = faS aS aA aN i) ∧ Blk wx ac 39 [(.int .i64 aS), (.slice o aA.length p), (.slice e saN.length f)] ∧ Ls bcs 1 wx LL_aA w.heap.size (.slice o aA.length p) aA ∧ Ls Sv.cs 1 wx LL_saN w.heap.size (.slice e saN.length f) saN ∧ Rd ics 1 wx LR_aN w.heap.size saN aN) (fun ⟨i, s⟩ => aA.length - i) (0, ([115, 116, 97, 114, 116, 32] ++ (Yw aS))) (sC4 rfl rfl rfl rfl (Sub.nil _)) ⟨E, (Nat.le_refl _), om, Zfv, bN, bO, bP, bQ⟩ ?_
 rintro ⟨i, s⟩ cH ⟨E, bR, hi, hs, I, aC, U, V⟩
 have aM := E
 have bi := aM.size
 have aO := I.lt
 have cI : s.length ≤ 27 + 250 * i := by rw [hs]; exact Zbd _ _ _ _
 have cJ := Yp (i : Int)
 refine Zf fun cK bS => ?_
 refine Zf fun cL bT => ?_
 refine Zc (Za rfl rfl (Zg rfl) (Za rfl rfl (Zj fa39_1 rfl) (Za rfl rfl (Zp I.at_ agg33 rfl rfl) (Za rfl rfl (Yg (by rw [el33]; rfl) rfl) (Za rfl rfl (Yl rfl rfl) (Ze (Zb (bT _ _ ?_))))))))
 refine Zl rfl (fun C => ?_) (fun C => ?_)
 ·have aP := C
  have C := Ya C
  refine Zm ?_
  refine Zb (bS _ _ ?_)
  refine Zf fun cM bj => ?_
  refine Zq ?_
  refine Zf fun cN bU => ?_
  refine Zc (Za rfl rfl (Zg rfl) (Za rfl rfl (Yc (by (first | omega | (simp only [List.length_append, List.length_cons, List.length_nil]; omega))) rfl rfl) (Za rfl rfl (Zg rfl) (Zr rfl rfl ?_))))
  refine Step.call (Zs (xs := [.tmp 22]) fk27 rfl) (Yv _ om) fun bV bk aQ => ?_
  obtain ⟨rfl, X⟩ := aQ
  have bW := X.size
  have E := E.trans X
  refine Za rfl rfl (Yc (by (first | omega | (simp only [List.length_append, List.length_cons, List.length_nil]; omega))) rfl rfl) (Za rfl rfl (Zd rfl) (Ze (Zb (bU _ _ ?_))))
  refine Zf fun cO bm => ?_
  refine Zf fun cP bX => ?_
  refine Zc (Za rfl rfl (Zj fa39_1 rfl) ?_)
  have aR := I.ch0 X
  refine Za rfl rfl (Zp aR.at_ agg33 rfl rfl) (Za rfl rfl (Zg rfl) (Zr rfl rfl ?_))
  have aT := aC.ch0 X
  refine (Yf aT Xu el33 sz4 rfl rfl rfl om fun bY aD G aU => ?_)
  refine Za rfl rfl (Zv aU agg4 rfl rfl) (Ze (Zb (bX _ _ ?_)))
  refine Zl rfl (fun J => ?_) (fun J => ?_)
  ·have aV := J
   refine Zc (Za rfl rfl (Zg rfl) (Za rfl rfl (Yc (by (first | omega | (simp only [List.length_append, List.length_cons, List.length_nil]; omega))) rfl rfl) (Za rfl rfl (Zd rfl) (Ze (Zb (bm _ _ ?_))))))
   refine Zf fun cQ bZ => ?_
   refine Zc (Za rfl rfl (Zd rfl) (Ze (Zb (bZ _ _ ?_))))
   refine Zq ?_
   have b0 := U.ch0 X
   have b1 := V.ch0 X
   refine Yr (σ := Nat × List UInt8) (fun ⟨k, z⟩ => [(1, (.pointer (some ⟨ac, 0, none⟩))), (2, (bst ([] : List UInt8))), (3, (bst z)), (4, (.int .i64 ((i : Nat) : Int))), (5, (.int .i64 ((k : Nat) : Int))), (17, (.bool (decide (((i : Nat) : Int) < ((aA.length : Nat) : Int))))), (29, (.bool aD))]) (fun ⟨k, z⟩ wx => Ch [] w wx ∧ bk.heap.size ≤ wx.heap.size ∧ (k ≤ 9) ∧ (z = faI aS aA aN i k) ∧ Blk wx ac 39 [(.int .i64 aS), (.slice o aA.length p), (.slice e saN.length f)] ∧ Ls bcs 1 wx LL_aA w.heap.size (.slice o aA.length p) aA ∧ Ls Sv.cs 1 wx LL_saN w.heap.size (.slice e saN.length f) saN ∧ Rd ics 1 wx LR_aN w.heap.size saN aN) (fun ⟨k, z⟩ => 9 - k) (0, (((s ++ [59, 32]) ++ (Yw ((i : Nat) : Int))) ++ [42])) (sC4 rfl rfl rfl rfl (sC2 rfl rfl (sC1 rfl (Sub.nil _)))) ⟨E, (Nat.le_refl _), om, (by rw [hs]; first | exact Zcq (by rw [G, J]) | exact Zcp (by rw [G]; simp_all)), aR, aT, b0, b1⟩ ?_
   rintro ⟨k, z⟩ bn ⟨E, aW, b2, hz, g, t, m, n⟩
   have ad := E
   have aE := ad.size
   have ae := g.lt
   have b3 : z.length ≤ 60 + 250 * i + 25 * k := by rw [hz]; exact Zbe _ _ _ _ _
   refine Zf fun cR b4 => ?_
   refine Zf fun cS b5 => ?_
   refine Zc (Za rfl rfl (Zg rfl) (Za rfl rfl (Yl rfl rfl) (Ze (Zb (b5 _ _ ?_)))))
   refine Zl rfl (fun l => ?_) (fun l => ?_)
   ·have aX := l
    have l := Ya l
    refine Zm ?_
    refine Zb (b4 _ _ ?_)
    refine Zf fun cT bp => ?_
    refine Zq ?_
    refine Zf fun cU b6 => ?_
    refine Zc (Za rfl rfl (Zj fa39_2 rfl) (Za rfl rfl (Zp g.at_ agg34 rfl rfl) (Za rfl rfl (Zg rfl) (Zr rfl rfl ?_))))
    refine (Yf m Sv.len el34 sz68 rfl rfl rfl om fun af ag K D => ?_)
    obtain ⟨u, a, h⟩ := n.get K
    obtain ⟨L, aY, M⟩ := ag
    obtain rfl := h.eqn
    have aZ := h.len
    replace h : Ls ics 1 bn LR_aN w.heap.size (.slice L u.length M) u := h
    replace D : At bn LL_saN w.heap.size af ([(.slice L u.length M)]) := D
    have a0 := (Zy r.2 a).1
    refine Za rfl rfl (Zv D agg68 rfl rfl) (Za rfl rfl (Zg rfl) (Zr rfl rfl ?_))
    refine (Yf h Yt el68 sz3 rfl rfl rfl om fun a1 a2 b ah => ?_)
    have a3 := Yi r.2 a b
    refine Za rfl rfl (Zv ah agg3 rfl rfl) (Za rfl rfl (Zcx rfl rfl) (Ze (Zb (b6 _ _ ?_))))
    refine Zl rfl (fun c => ?_) (fun c => ?_)
    ·have a4 := c
     have c := Ya c
     refine Qw [] 17 mixed rfl fun aH ax => ?_
     have b7 := ax.size
     have E := E.trans ax
     refine dV 0 rfl rfl rfl (fun _ => Zg rfl) (dV 1 rfl rfl rfl (fun _ => Yc (by (first | omega | (simp only [List.length_append, List.length_cons, List.length_nil]; omega))) rfl rfl) (dV 2 rfl rfl rfl (fun _ => Zg rfl) (dV 6 rfl rfl rfl (fun _ => Zj fa39_2 rfl) ?_)))
     have bq := g.ch0 ax
     refine dT 7 rfl rfl rfl (Zct bq.at_ (fun i hi => absurd hi List.not_mem_nil) agg34 rfl rfl ?_)
     refine dV 8 rfl rfl rfl (fun _ => Zg rfl) ?_
     have br := m.ch0 ax
     have bs := n.ch0 ax
     refine dT 9 rfl rfl rfl (Xf br Sv.len el34 sz68 rfl rfl rfl om fun ai aj O F => ?_)
     obtain ⟨x, d, j⟩ := bs.get O
     obtain ⟨P, a5, Q⟩ := aj
     obtain rfl := j.eqn
     have a6 := j.len
     replace j : Ls ics 1 aH LR_aN w.heap.size (.slice P x.length Q) x := j
     replace F : At aH LL_saN w.heap.size ai ([(.slice P x.length Q)]) := F
     have a7 := (Zy r.2 d).1
     refine dT 10 rfl rfl rfl (Yq F (fun i hi => absurd hi List.not_mem_nil) agg68 rfl rfl ?_)
     refine dV 11 rfl rfl rfl (fun _ => Zg rfl) ?_
     refine dT 12 rfl rfl rfl (Xf j Yt el68 sz3 rfl rfl rfl om fun a8 R y ak => ?_)
     have a9 := Yi r.2 d y
     have ba := Yp R
     have bb := Qm (k : Int)
     refine dT 13 rfl rfl rfl (Yq ak (fun i hi => absurd hi List.not_mem_nil) agg3 rfl rfl ?_)
     refine dO 3 (DO_s rfl rfl rfl ?_)
     refine Step.call (Zs (xs := [.tmp 47]) fk38 rfl) (Xk _ ) fun bc b8 al => ?_
     obtain ⟨rfl, am⟩ := al
     have b9 := am.size
     have E := E.trans am
     have Y : Ch [] aH b8 := ((Ch.refl _ _).trans am)
     refine ⟨Y, ?_⟩
     refine dV 4 rfl rfl rfl (fun _ => Yc (by (first | omega | (simp only [List.length_append, List.length_cons, List.length_nil]; omega))) rfl rfl) (dV 5 rfl rfl rfl (fun _ => Yc (by (first | omega | (simp only [List.length_append, List.length_cons, List.length_nil]; omega))) rfl rfl) (dO 14 (DO_s rfl rfl rfl ?_)))
     refine Step.call (Zs (xs := [.tmp 58]) fk27 rfl) (Yv _ om) fun bd ca an => ?_
     obtain ⟨rfl, ao⟩ := an
     have cb := ao.size
     have E := E.trans ao
     have aF : Ch [] aH ca := (Y.trans ao)
     refine ⟨aF, ?_⟩
     refine dV 15 rfl rfl rfl (fun _ => Yc (by (first | omega | (simp only [List.length_append, List.length_cons, List.length_nil]; omega))) rfl rfl) (dV 16 rfl rfl rfl (fun _ => Zd rfl) ?_)
     refine Qx (by kernel_rfl) ?_
     refine Zx (Zb (bp _ _ (Zc (Za rfl rfl (Zg rfl) (Za rfl rfl (Yo om rfl rfl) (Za rfl rfl (Zd rfl) (Ze ?_)))))))
     have cc := (bq.ch0 am).ch0 ao
     have cd := ((t.ch0 ax).ch0 am).ch0 ao
     have ce := (br.ch0 am).ch0 ao
     have cf := (bs.ch0 am).ch0 ao
     exact Zb (Exists.intro ((k + 1), ((((z ++ [32]) ++ (fmtL ((k : Nat) : Int))) ++ [62]) ++ (Yw R))) ⟨⟨E, om, om, (by rw [hz]; first | (have ap := Yz d a; subst ap; have aq := Yz y b; subst aq; exact Zbs a b c) | exact Zbr a b c), cc, cd, ce, cf⟩, sC4 rfl rfl rfl rfl (sC2 rfl rfl (sC1 rfl (Sub.nil _))), (by first | omega | (dsimp only; omega))⟩)
    have a4 := c
    have c := Yb c
    refine Zm ?_
    refine Zx (Zb (bp _ _ (Zc (Za rfl rfl (Zg rfl) (Za rfl rfl (Yo om rfl rfl) (Za rfl rfl (Zd rfl) (Ze ?_)))))))
    exact Zb (Exists.intro ((k + 1), z) ⟨⟨E, om, om, (by rw [hz]; first | (have ap := Yz d a; subst ap; have aq := Yz y b; subst aq; exact Zbs a b c) | exact Zbr a b c), g, t, m, n⟩, sC4 rfl rfl rfl rfl (sC2 rfl rfl (sC1 rfl (Sub.nil _))), (by first | omega | (dsimp only; omega))⟩)
   have aX := l
   have l := Yb l
   refine Ys (Zn (Zn (Yh ?_)))
   refine Zx (Zb (bj _ _ (Zc (Za rfl rfl (Zg rfl) (Za rfl rfl (Yo om rfl rfl) (Za rfl rfl (Zd rfl) (Ze ?_)))))))
   exact Zb (Exists.intro ((i + 1), z) ⟨⟨E, om, om, (by rw [hz, show k = 9 by omega]; exact Zeg), g, t, m, n⟩, sC4 rfl rfl rfl rfl (Sub.nil _), (by first | omega | (dsimp only; omega))⟩)
  have aV := J
  refine Zm ?_
  refine Zb (bm _ _ ?_)
  refine Zf fun cV cg => ?_
  refine Zc (Za rfl rfl (Zd rfl) (Ze (Zb (cg _ _ ?_))))
  refine Zq ?_
  have ci := U.ch0 X
  have cj := V.ch0 X
  refine Yr (σ := Nat × List UInt8) (fun ⟨k, z⟩ => [(1, (.pointer (some ⟨ac, 0, none⟩))), (2, (bst ([] : List UInt8))), (3, (bst z)), (4, (.int .i64 ((i : Nat) : Int))), (5, (.int .i64 ((k : Nat) : Int))), (17, (.bool (decide (((i : Nat) : Int) < ((aA.length : Nat) : Int))))), (29, (.bool aD))]) (fun ⟨k, z⟩ wx => Ch [] w wx ∧ bk.heap.size ≤ wx.heap.size ∧ (k ≤ 9) ∧ (z = faI aS aA aN i k) ∧ Blk wx ac 39 [(.int .i64 aS), (.slice o aA.length p), (.slice e saN.length f)] ∧ Ls bcs 1 wx LL_aA w.heap.size (.slice o aA.length p) aA ∧ Ls Sv.cs 1 wx LL_saN w.heap.size (.slice e saN.length f) saN ∧ Rd ics 1 wx LR_aN w.heap.size saN aN) (fun ⟨k, z⟩ => 9 - k) (0, ((s ++ [59, 32]) ++ (Yw ((i : Nat) : Int)))) (sC4 rfl rfl rfl rfl (sC2 rfl rfl (sC1 rfl (Sub.nil _)))) ⟨E, (Nat.le_refl _), om, (by rw [hs]; first | exact Zcq (by rw [G, J]) | exact Zcp (by rw [G]; simp_all)), aR, aT, ci, cj⟩ ?_
  rintro ⟨k, z⟩ bu ⟨E, aW, b2, hz, g, t, m, n⟩
  have ad := E
  have aE := ad.size
  have ae := g.lt
  have b3 : z.length ≤ 60 + 250 * i + 25 * k := by rw [hz]; exact Zbe _ _ _ _ _
  refine Zf fun cW ck => ?_
  refine Zf fun cX cl => ?_
  refine Zc (Za rfl rfl (Zg rfl) (Za rfl rfl (Yl rfl rfl) (Ze (Zb (cl _ _ ?_)))))
  refine Zl rfl (fun l => ?_) (fun l => ?_)
  ·have be := l
   have l := Ya l
   refine Zm ?_
   refine Zb (ck _ _ ?_)
   refine Zf fun cY bv => ?_
   refine Zq ?_
   refine Zf fun cZ cm => ?_
   refine Zc (Za rfl rfl (Zj fa39_2 rfl) (Za rfl rfl (Zp g.at_ agg34 rfl rfl) (Za rfl rfl (Zg rfl) (Zr rfl rfl ?_))))
   refine (Yf m Sv.len el34 sz68 rfl rfl rfl om fun af ag K D => ?_)
   obtain ⟨u, a, h⟩ := n.get K
   obtain ⟨L, aY, M⟩ := ag
   obtain rfl := h.eqn
   have aZ := h.len
   replace h : Ls ics 1 bu LR_aN w.heap.size (.slice L u.length M) u := h
   replace D : At bu LL_saN w.heap.size af ([(.slice L u.length M)]) := D
   have a0 := (Zy r.2 a).1
   refine Za rfl rfl (Zv D agg68 rfl rfl) (Za rfl rfl (Zg rfl) (Zr rfl rfl ?_))
   refine (Yf h Yt el68 sz3 rfl rfl rfl om fun a1 a2 b ah => ?_)
   have a3 := Yi r.2 a b
   refine Za rfl rfl (Zv ah agg3 rfl rfl) (Za rfl rfl (Zcx rfl rfl) (Ze (Zb (cm _ _ ?_))))
   refine Zl rfl (fun c => ?_) (fun c => ?_)
   ·have bf := c
    have c := Ya c
    refine Qw [] 17 mixed rfl fun aI ay => ?_
    have cn := ay.size
    have E := E.trans ay
    refine dV 0 rfl rfl rfl (fun _ => Zg rfl) (dV 1 rfl rfl rfl (fun _ => Yc (by (first | omega | (simp only [List.length_append, List.length_cons, List.length_nil]; omega))) rfl rfl) (dV 2 rfl rfl rfl (fun _ => Zg rfl) (dV 6 rfl rfl rfl (fun _ => Zj fa39_2 rfl) ?_)))
    have bw := g.ch0 ay
    refine dT 7 rfl rfl rfl (Zct bw.at_ (fun i hi => absurd hi List.not_mem_nil) agg34 rfl rfl ?_)
    refine dV 8 rfl rfl rfl (fun _ => Zg rfl) ?_
    have bx := m.ch0 ay
    have bz := n.ch0 ay
    refine dT 9 rfl rfl rfl (Xf bx Sv.len el34 sz68 rfl rfl rfl om fun ai aj O F => ?_)
    obtain ⟨x, d, j⟩ := bz.get O
    obtain ⟨P, a5, Q⟩ := aj
    obtain rfl := j.eqn
    have a6 := j.len
    replace j : Ls ics 1 aI LR_aN w.heap.size (.slice P x.length Q) x := j
    replace F : At aI LL_saN w.heap.size ai ([(.slice P x.length Q)]) := F
    have a7 := (Zy r.2 d).1
    refine dT 10 rfl rfl rfl (Yq F (fun i hi => absurd hi List.not_mem_nil) agg68 rfl rfl ?_)
    refine dV 11 rfl rfl rfl (fun _ => Zg rfl) ?_
    refine dT 12 rfl rfl rfl (Xf j Yt el68 sz3 rfl rfl rfl om fun a8 R y ak => ?_)
    have a9 := Yi r.2 d y
    have ba := Yp R
    have bb := Qm (k : Int)
    refine dT 13 rfl rfl rfl (Yq ak (fun i hi => absurd hi List.not_mem_nil) agg3 rfl rfl ?_)
    refine dO 3 (DO_s rfl rfl rfl ?_)
    refine Step.call (Zs (xs := [.tmp 47]) fk38 rfl) (Xk _ ) fun bc co al => ?_
    obtain ⟨rfl, au⟩ := al
    have cp := au.size
    have E := E.trans au
    have Z : Ch [] aI co := ((Ch.refl _ _).trans au)
    refine ⟨Z, ?_⟩
    refine dV 4 rfl rfl rfl (fun _ => Yc (by (first | omega | (simp only [List.length_append, List.length_cons, List.length_nil]; omega))) rfl rfl) (dV 5 rfl rfl rfl (fun _ => Yc (by (first | omega | (simp only [List.length_append, List.length_cons, List.length_nil]; omega))) rfl rfl) (dO 14 (DO_s rfl rfl rfl ?_)))
    refine Step.call (Zs (xs := [.tmp 58]) fk27 rfl) (Yv _ om) fun bd cq an => ?_
    obtain ⟨rfl, av⟩ := an
    have cr := av.size
    have E := E.trans av
    have aG : Ch [] aI cq := (Z.trans av)
    refine ⟨aG, ?_⟩
    refine dV 15 rfl rfl rfl (fun _ => Yc (by (first | omega | (simp only [List.length_append, List.length_cons, List.length_nil]; omega))) rfl rfl) (dV 16 rfl rfl rfl (fun _ => Zd rfl) ?_)
    refine Qx (by kernel_rfl) ?_
    refine Zx (Zb (bv _ _ (Zc (Za rfl rfl (Zg rfl) (Za rfl rfl (Yo om rfl rfl) (Za rfl rfl (Zd rfl) (Ze ?_)))))))
    have ct := (bw.ch0 au).ch0 av
    have cu := ((t.ch0 ay).ch0 au).ch0 av
    have cv := (bx.ch0 au).ch0 av
    have cw := (bz.ch0 au).ch0 av
    exact Zb (Exists.intro ((k + 1), ((((z ++ [32]) ++ (fmtL ((k : Nat) : Int))) ++ [62]) ++ (Yw R))) ⟨⟨E, om, om, (by rw [hz]; first | (have ap := Yz d a; subst ap; have aq := Yz y b; subst aq; exact Zbs a b c) | exact Zbr a b c), ct, cu, cv, cw⟩, sC4 rfl rfl rfl rfl (sC2 rfl rfl (sC1 rfl (Sub.nil _))), (by first | omega | (dsimp only; omega))⟩)
   have bf := c
   have c := Yb c
   refine Zm ?_
   refine Zx (Zb (bv _ _ (Zc (Za rfl rfl (Zg rfl) (Za rfl rfl (Yo om rfl rfl) (Za rfl rfl (Zd rfl) (Ze ?_)))))))
   exact Zb (Exists.intro ((k + 1), z) ⟨⟨E, om, om, (by rw [hz]; first | (have ap := Yz d a; subst ap; have aq := Yz y b; subst aq; exact Zbs a b c) | exact Zbr a b c), g, t, m, n⟩, sC4 rfl rfl rfl rfl (sC2 rfl rfl (sC1 rfl (Sub.nil _))), (by first | omega | (dsimp only; omega))⟩)
  have be := l
  have l := Yb l
  refine Ys (Zn (Zn (Yh ?_)))
  refine Zx (Zb (bj _ _ (Zc (Za rfl rfl (Zg rfl) (Za rfl rfl (Yo om rfl rfl) (Za rfl rfl (Zd rfl) (Ze ?_)))))))
  exact Zb (Exists.intro ((i + 1), z) ⟨⟨E, om, om, (by rw [hz, show k = 9 by omega]; exact Zeg), g, t, m, n⟩, sC4 rfl rfl rfl rfl (Sub.nil _), (by first | omega | (dsimp only; omega))⟩)
 have aP := C
 have C := Yb C
 refine Ys (Zn (Zn (Yh ?_)))
 refine Zb (bL _ _ ?_)
 refine Zf fun c0 cx => ?_
 refine Zc (Za rfl rfl (Zg rfl) (Za rfl rfl (Zd rfl) (Ze (Zb (cx _ _ ?_)))))
 refine Zo ?_
 exact Zh [_] ⟨rfl, trivial⟩ ⟨congrArg bst (by rw [hs, show i = aN.length by omega]; exact Zgd r), E⟩

/-- laws.FnExactFormatAutomaton -/
theorem Xg {w : World} (aS : Int) {LL_aA aq : Nat} {V : Value} {aA : List Bool} (t : Ls bcs 1 w LL_aA aq V aA) {LL_saN ae : Nat} {J : Value} {saN : List Sv} (a : Ls Sv.cs 1 w LL_saN ae J saN) {LR_aN BB_aN : Nat} {aN : List (List Int)} (k : Rd ics 1 w LR_aN BB_aN saN aN) :
 Ctr Tryd.prog 5 #[(.agg #[(.int .i64 aS), V, J])] w (fun v w' => v = .bool (true) ∧ Ch [] w w') := by
 obtain ⟨X, Y, af⟩ := t.val
 subst af
 have a6 := t.len
 have t := t.here (by decide)
 obtain ⟨K, L, S⟩ := a.val
 subst S
 have aU := a.len
 have a := a.here (by decide)
 have k := k.here (by decide)
 have aV := k.1
 have E := Ch.refl [] w
 refine Zt (N := 27) (vs0 := [(.agg #[(.int .i64 aS), (.slice X aA.length Y), (.slice K saN.length L)])]) Tryd.func5 rfl rfl rfl ?_
 refine Zf fun K1 H1 => ?_
 refine Zc (Zr rfl rfl ?_)
 refine Qy rfl fun bk W2 au C2 b3 => ?_
 have b4 := C2.size
 have E := E.trans C2
 have b5 := au.lt
 replace au : Blk W2 bk 36 [(.int .i64 aS), (.slice X aA.length Y), (.slice K saN.length L)] := au
 refine Za rfl rfl (Zd rfl) (Ze (Zb (H1 _ _ ?_)))
 refine Zf fun K3 H3 => ?_
 refine Zc (Za rfl rfl (Zd rfl) (Ze (Zb (H3 _ _ ?_))))
 refine Zf fun K4 H4 => ?_
 refine Zc (Za rfl rfl (Ym au.at_ agg36 sz36 rfl) (Za rfl rfl (Zg rfl) (Zr rfl rfl ?_)))
 have F5 := t.ch0 C2
 have F6 := k.ch0 C2
 have F7 := a.ch0 C2
 refine Step.call (Zs (xs := [.tmp 7, .tmp 8]) fk16 rfl) (Zaa _ F5 F7 F6 _ om om) fun b6 W8 bm => ?_
 obtain ⟨rfl, C8⟩ := bm
 have b7 := C8.size
 have E := E.trans C8
 refine Za rfl rfl (Zd rfl) (Ze (Zb (H4 _ _ ?_)))
 refine Zf fun K9 H9 => ?_
 refine Zf fun b8 bn => ?_
 refine Zc (Za rfl rfl (Zg rfl) (Za rfl rfl (Yl rfl rfl) (Ze (Zb (bn _ _ ?_)))))
 refine Zl rfl (fun l => ?_) (fun l => ?_)
 ·have aW := l
  have l := Ya l
  refine Zf fun b9 bp => ?_
  refine Zc (Za rfl rfl (Zd rfl) (Ze (Zb (bp _ _ ?_))))
  refine Zo (Zk ?_)
  exact Zh [_] ⟨rfl, trivial⟩ ⟨congrArg Value.bool (by first | rfl | (exfalso; omega) | (exfalso; revert l; simp; done) | (exfalso; revert l; simp; omega)), E⟩
 have aW := l
 have l := Yb l
 refine Zm ?_
 refine Zb (H9 _ _ ?_)
 refine Zf fun ca bq => ?_
 refine Zc ?_
 have a7 := au.ch0 C8
 refine Za rfl rfl (Ym a7.at_ agg36 sz36 rfl) (Zr rfl rfl ?_)
 have a8 := F5.ch0 C8
 have a9 := F6.ch0 C8
 have ba := F7.ch0 C8
 refine Step.call (Zs (xs := [.tmp 12]) fk18 rfl) (Xb _ a8 ba a9 om) fun br cb aX => ?_
 obtain ⟨aL, aM, ak, rfl, b, Z, c, aa, m, M, C, q, al⟩ := aX
 have bs := al.size
 have E := E.trans al
 obtain ⟨av, aw, rfl, ax, ag⟩ := b.opn
 obtain ⟨ay, az, rfl, aB, ah⟩ := c.opn
 refine Zr rfl rfl ?_
 refine Step.call (Zs (xs := [.tmp 13]) fk17 rfl) (Qe _ b.ls c.ls m.rd ) fun bu cc aY => ?_
 obtain ⟨rfl, am⟩ := aY
 have bv := am.size
 have E := E.trans am
 refine Za rfl rfl (Zd rfl) (Ze (Zb (bq _ _ ?_)))
 refine Zf fun cd bw => ?_
 refine Zc ?_
 have bb := (a7.ch0 al).ch0 am
 refine Za rfl rfl (Ym bb.at_ agg36 sz36 rfl) (Zr rfl rfl ?_)
 have bc := (a8.ch0 al).ch0 am
 have bd := (a9.ch0 al).ch0 am
 have be := (ba.ch0 al).ch0 am
 refine Step.call (Zs (xs := [.tmp 15]) fk18 rfl) (Xb _ bc be bd om) fun bx ce aZ => ?_
 obtain ⟨aO, aP, j, rfl, d, u, e, x, n, O, D, r, an⟩ := aZ
 have bz := an.size
 have E := E.trans an
 obtain ⟨y, z, rfl, aC, G⟩ := d.opn
 obtain ⟨A, B, rfl, aD, H⟩ := e.opn
 refine Zr rfl rfl ?_
 refine Zcm zr39 fun bf bA aQ T cf => ?_
 have bB := T.size
 have E := E.trans T
 have cg := aQ.lt
 replace aQ : Blk bA bf 39 [(.int .i64 0), (.slice none 0 0), (.slice none 0 0)] := aQ
 refine Zr rfl rfl ?_
 refine Zcv (off := 0) 3 aQ sz39 rfl (us := [(.int .i64 aS), (.slice y (aA).length z), (.slice A (j).length B)]) rfl rfl rfl rfl fun bC I U => ?_
 have bD := U.size
 have E := E.step U (lS om)
 replace I : Blk bC bf 39 [(.int .i64 aS), (.slice y (aA).length z), (.slice A (j).length B)] := I
 refine Ze (Zb (bw _ _ ?_))
 refine Zf fun ci bE => ?_
 refine Zc (Za rfl rfl (Ym I.at_ agg39 sz39 rfl) (Zr rfl rfl ?_))
 have bg := (d.ch0 T).ch U (dS u G om)
 have bh := (n.ch0 T).ch U (oS om)
 have bi := (e.ch0 T).ch U (dS x H om)
 refine Step.call (Zs (xs := [.tmp 17]) fk19 rfl) (Qf _ bg.ls bi.ls bh.rd ) fun bF cj a0 => ?_
 obtain ⟨rfl, P⟩ := a0
 have bG := P.size
 have E := E.trans P
 refine Za rfl rfl (Zd rfl) (Ze (Zb (bE _ _ ?_)))
 refine Zf fun ck bH => ?_
 refine Zf fun cl bI => ?_
 refine Zc (Za rfl rfl (Zg rfl) (Za rfl rfl (Zg rfl) (Za rfl rfl (Zgq rfl rfl) (Ze (Zb (bI _ _ ?_))))))
 refine Zl rfl (fun o => ?_) (fun o => ?_)
 ·have a1 := o
  have o := Yb (Xi o)
  refine Zf fun cm bJ => ?_
  refine Zc (Za rfl rfl (Zd rfl) (Ze (Zb (bJ _ _ ?_))))
  refine Zo (Zk ?_)
  exact Zh [_] ⟨rfl, trivial⟩ ⟨congrArg Value.bool (by first | rfl | (exfalso; omega) | (exfalso; revert o; simp; done) | (exfalso; revert o; simp; omega)), E⟩
 have a1 := o
 have o := Ya (Xh o)
 refine Zm ?_
 refine Zb (bH _ _ ?_)
 refine Zf fun cn bK => ?_
 refine Zf fun co bL => ?_
 refine Qw [] 5 mixed rfl fun bj Q => ?_
 have bM := Q.size
 have E := E.trans Q
 have bN := (I.ch0 P).ch0 Q
 refine dT 0 rfl rfl rfl (Zay bN.at_ (fun i hi => absurd hi List.not_mem_nil) agg39 sz39 rfl ?_)
 have bO := ((((bb.ch0 an).ch0 T).ch U (nS om)).ch0 P).ch0 Q
 refine dT 1 rfl rfl rfl (Zay bO.at_ (fun i hi => absurd hi List.not_mem_nil) agg36 sz36 rfl ?_)
 refine dO 2 (DO_s rfl rfl rfl ?_)
 have bP := ((((bc.ch0 an).ch0 T).ch U (oS om)).ch0 P).ch0 Q
 have bQ := ((((bd.ch0 an).ch0 T).ch U (oS om)).ch0 P).ch0 Q
 have bR := ((((be.ch0 an).ch0 T).ch U (oS om)).ch0 P).ch0 Q
 refine Step.call (Zs (xs := [.tmp 23]) fk18 rfl) (Xb _ bP bR bQ om) fun bS bT a2 => ?_
 obtain ⟨aR, aT, ao, rfl, f, ab, g, ac, p, R, F, s, ap⟩ := a2
 have bU := ap.size
 have E := E.trans ap
 obtain ⟨aE, aF, rfl, aG, ai⟩ := f.opn
 obtain ⟨aH, aI, rfl, aJ, aj⟩ := g.opn
 have ad : Ch [] bj bT := ((Ch.refl _ _).trans ap)
 refine ⟨ad, ?_⟩
 refine dO 3 (DO_s rfl rfl rfl ?_)
 have bV := ((bg.ch0 P).ch0 Q).ch0 ap
 have bW := ((bh.ch0 P).ch0 Q).ch0 ap
 have bX := ((bi.ch0 P).ch0 Q).ch0 ap
 refine Step.call (Zs (xs := [.tmp 22, .tmp 24]) fk20 rfl) (Zab _ bV.ls bX.ls bW.rd _ f.ls g.ls p.rd ) fun bY bZ a3 => ?_
 obtain ⟨rfl, a4⟩ := a3
 have b0 := a4.size
 have E := E.trans a4
 have aK : Ch [] bj bZ := (ad.trans a4)
 refine ⟨aK, ?_⟩
 refine dV 4 rfl rfl rfl (fun _ => Qb rfl) ?_
 refine Qx (by kernel_rfl) ?_
 refine Zb (bL _ _ ?_)
 refine Zl rfl (fun h => ?_) (fun h => ?_)
 ·have a5 := h
  have h := Yb (Xi h)
  refine Zf fun cp b1 => ?_
  refine Zc (Za rfl rfl (Zd rfl) (Ze (Zb (b1 _ _ ?_))))
  refine Zo (Zk ?_)
  exact Zh [_] ⟨rfl, trivial⟩ ⟨congrArg Value.bool (by first | rfl | (exfalso; omega) | (exfalso; revert h; simp; done) | (exfalso; revert h; simp; omega)), E⟩
 have a5 := h
 have h := Ya (Xh h)
 refine Zm ?_
 refine Zb (bK _ _ ?_)
 refine Zf fun cq b2 => ?_
 refine Zc (Za rfl rfl (Zd rfl) (Ze (Zb (b2 _ _ ?_))))
 refine Zo ?_
 exact Zh [_] ⟨rfl, trivial⟩ ⟨congrArg Value.bool (by first | rfl | (exfalso; omega) | (exfalso; revert h; simp; done) | (exfalso; revert h; simp; omega)), E⟩

end Go.Proofs.YtbnnkffdhnefnaaDoor
