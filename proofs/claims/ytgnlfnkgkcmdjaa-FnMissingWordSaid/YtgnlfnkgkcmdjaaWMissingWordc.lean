/- Walks of functions that FnMissingWord reaches: what each returns, and that it leaves the memory that was there alone. -/
import Derived.Test.YtgnlfnkgkcmdjaaLibA
import Derived.Test.YtgnlfnkgkcmdjaaLibB
import Derived.Test.YtgnlfnkgkcmdjaaWMissingWord
import Derived.Test.YtgnlfnkgkcmdjaaWMissingWordb
import Derived.Test.YtgnlfnkgkcmdjaaProg
namespace Go.Proofs.Ytgnlfnkgkcmdjaa
open Go.KLib Go.Shelf
set_option maxHeartbeats 1000000
set_option maxRecDepth 20000
set_option linter.unusedVariables false
set_option linter.unusedSimpArgs false
namespace TMissingWordc
theorem agg24 : Ys Try.prog 24 = some false := by kernel_rfl
theorem agg27 : Ys Try.prog 27 = some true := by kernel_rfl
theorem agg3 : Ys Try.prog 3 = some false := by kernel_rfl
theorem agg30 : Ys Try.prog 30 = some false := by kernel_rfl
theorem agg4 : Ys Try.prog 4 = some false := by kernel_rfl
theorem agg42 : Ys Try.prog 42 = some false := by kernel_rfl
theorem agg44 : Ys Try.prog 44 = some true := by kernel_rfl
theorem agg84 : Ys Try.prog 84 = some true := by kernel_rfl
theorem agg91 : Ys Try.prog 91 = some true := by kernel_rfl
theorem by3 : Qw Try.prog 3 = some 8 := by kernel_rfl
theorem by30 : Qw Try.prog 30 = some 24 := by kernel_rfl
theorem by84 : Qw Try.prog 84 = some 32 := by kernel_rfl
theorem el24 : elB Try.prog 24 = some 4 := by kernel_rfl
theorem el25 : elB Try.prog 25 = some 30 := by kernel_rfl
theorem el30 : elB Try.prog 30 = some 3 := by kernel_rfl
theorem el42 : elB Try.prog 42 = some 84 := by kernel_rfl
theorem fa27_1 : faB Try.prog 27 1 = some 1 := by kernel_rfl
theorem fa44_0 : faB Try.prog 44 0 = some 0 := by kernel_rfl
theorem fa48_0 : faB Try.prog 48 0 = some 0 := by kernel_rfl
theorem fa48_3 : faB Try.prog 48 3 = some 3 := by kernel_rfl
theorem fa84_0 : faB Try.prog 84 0 = some 0 := by kernel_rfl
theorem fa84_1 : faB Try.prog 84 1 = some 1 := by kernel_rfl
theorem fa84_2 : faB Try.prog 84 2 = some 2 := by kernel_rfl
theorem fa84_3 : faB Try.prog 84 3 = some 3 := by kernel_rfl
theorem fa91_0 : faB Try.prog 91 0 = some 0 := by kernel_rfl
theorem fa91_1 : faB Try.prog 91 1 = some 1 := by kernel_rfl
theorem fa91_2 : faB Try.prog 91 2 = some 2 := by kernel_rfl
theorem fk106 : fnB Try.prog 106 = true := by kernel_rfl
theorem fk107 : fnB Try.prog 107 = true := by kernel_rfl
theorem fk111 : fnB Try.prog 111 = true := by kernel_rfl
theorem fk112 : fnB Try.prog 112 = true := by kernel_rfl
theorem fk113 : fnB Try.prog 113 = true := by kernel_rfl
theorem fk124 : fnB Try.prog 124 = true := by kernel_rfl
theorem fk129 : fnB Try.prog 129 = true := by kernel_rfl
theorem fk13 : fnB Try.prog 13 = true := by kernel_rfl
theorem fk130 : fnB Try.prog 130 = true := by kernel_rfl
theorem fk137 : fnB Try.prog 137 = true := by kernel_rfl
theorem fk31 : fnB Try.prog 31 = true := by kernel_rfl
theorem fk49 : fnB Try.prog 49 = true := by kernel_rfl
theorem fk52 : fnB Try.prog 52 = true := by kernel_rfl
theorem fk59 : fnB Try.prog 59 = true := by kernel_rfl
theorem fk67 : fnB Try.prog 67 = true := by kernel_rfl
theorem fk72 : fnB Try.prog 72 = true := by kernel_rfl
theorem fk73 : fnB Try.prog 73 = true := by kernel_rfl
theorem fk74 : fnB Try.prog 74 = true := by kernel_rfl
theorem fk75 : fnB Try.prog 75 = true := by kernel_rfl
theorem fk94 : fnB Try.prog 94 = true := by kernel_rfl
theorem fk95 : fnB Try.prog 95 = true := by kernel_rfl
theorem mixed : Try.prog.follows .mixedOrders = true := by kernel_rfl
theorem pl27 : Qp Try.prog 27 = some [(0, 1), (1, 1), (2, 1)] := by kernel_rfl
theorem pl44 : Qp Try.prog 44 = some [(0, 1)] := by kernel_rfl
theorem pl84 : Qp Try.prog 84 = some [(0, 1), (1, 1), (2, 1), (3, 1)] := by kernel_rfl
theorem pl91 : Qp Try.prog 91 = some [(0, 1), (1, 1), (2, 1)] := by kernel_rfl
theorem sz27 : Yg Try.prog 27 = some 3 := by kernel_rfl
theorem sz3 : Yg Try.prog 3 = some 1 := by kernel_rfl
theorem sz30 : Yg Try.prog 30 = some 1 := by kernel_rfl
theorem sz4 : Yg Try.prog 4 = some 1 := by kernel_rfl
theorem sz42 : Yg Try.prog 42 = some 1 := by kernel_rfl
theorem sz44 : Yg Try.prog 44 = some 1 := by kernel_rfl
theorem sz84 : Yg Try.prog 84 = some 4 := by kernel_rfl
theorem sz91 : Yg Try.prog 91 = some 3 := by kernel_rfl
theorem zr27 : Xg Try.prog 27 = some (.agg #[.int .i64 0, .slice none 0 0, .slice none 0 0]) := by kernel_rfl
theorem zr3 : Xg Try.prog 3 = some (.int .i64 0) := by kernel_rfl
theorem zr30 : Xg Try.prog 30 = some (.slice none 0 0) := by kernel_rfl
theorem zr44 : Xg Try.prog 44 = some (.agg #[.slice none 0 0]) := by kernel_rfl
theorem zr84 : Xg Try.prog 84 = some (.agg #[.int .i64 0, .int .i64 0, .int .i64 0, .int .i64 0]) := by kernel_rfl
theorem zr91 : Xg Try.prog 91 = some (.agg #[.bool false, .int .i64 0, .int .i64 0]) := by kernel_rfl
end TMissingWordc
open TMissingWordc

/-- spec.l12Classes -/
theorem Zgb {w : World} (aS : Int) {LL_aA cn : Nat} {bu : Value} {aA : List Bool} (af : Ls bcs 1 w LL_aA cn bu aA) {LL_saN bS : Nat} {aX : Value} {saN : List Sv} (D : Ls Sv.cs 1 w LL_saN bS aX saN) {LR_aN BB_aN : Nat} {aN : List (List Int)} (Z : Rd ics 1 w LR_aN BB_aN saN aN) (hv : Yz aS aA aN)  :
 Ctr Try.prog 52 #[(.agg #[(.int .i64 aS), bu, aX])] w (fun v w' => Ol ics 3 1 w' v (clsF aN (Xq aA (Yn aA aN) aA.length) aA.length) ∧ Lo w.heap.size v ∧ Ch [] w w') := by
 obtain ⟨s, t, bT⟩ := af.val
 subst bT
 have eR := af.len
 have af := af.here (by decide)
 obtain ⟨l, m, be⟩ := D.val
 subst be
 have c3 := D.len
 have D := D.here (by decide)
 have Z := Z.here (by decide)
 have c4 := Z.1
 have E := Ch.refl [] w
 have hl := hv.2.2.1; have hn := hv.1; have fw := Zdt aA aN
 refine Yh (N := 99) (vs0 := [(.agg #[(.int .i64 aS), (.slice s aA.length t), (.slice l saN.length m)])]) Try.func52 rfl rfl rfl ?_
 refine Zg fun K1 H1 => ?_
 refine Zc (Zk rfl rfl ?_)
 refine Xw rfl fun bf W2 co C2 ho => ?_
 have hp := C2.size
 have E := E.trans C2
 have aW := co.lt
 replace co : Blk W2 bf 27 [(.int .i64 aS), (.slice s aA.length t), (.slice l saN.length m)] := co
 refine Za rfl rfl (Ze rfl) (Zf (Zb (H1 _ _ ?_)))
 refine Zg fun K3 H3 => ?_
 refine Zc (Za rfl rfl (Zt co.at_ agg27 sz27 rfl) (Zk rfl rfl ?_))
 have F4 := af.ch0 C2
 have F5 := Z.ch0 C2
 have F6 := D.ch0 C2
 refine Step.call (Zl (xs := [.tmp 14]) fk59 rfl) (Zco _ F4 F6 F5 hv) fun fx W7 bg => ?_
 obtain ⟨bg, aJ, C7⟩ := bg
 have hr := C7.size
 have E := E.trans C7
 obtain ⟨bv, bw, rfl, eS, aa⟩ := bg.opn
 refine Za rfl rfl (Ze rfl) (Zf (Zb (H3 _ _ ?_)))
 refine Zg fun K8 H8 => ?_
 refine Zc (Zk rfl rfl ?_)
 refine Xt (k := 1) ics el30 sz3 fun fy W9 cp cq C9 => ?_
 have hs := C9.size
 have E := E.trans C9
 obtain ⟨bz, bA, rfl, eT, c5⟩ := cp.opn
 refine Za rfl rfl (Ze rfl) (Zf (Zb (H8 _ _ ?_)))
 refine Zg fun ht fz => ?_
 refine Zg fun hw fA => ?_
 refine Zc (Za rfl rfl (Ze rfl) (Zf (Zb (fA _ _ ?_))))
 refine Yf ?_
 have bU : Ol ics 3 1 W9 (.slice bz (([] : List Int)).length bA) (Xq aA (Yn aA aN) 0) := by
  have hx := cp
  exact hx
 have fB := (co.ch0 C7).ch0 C9
 have fC := (F4.ch0 C7).ch0 C9
 have fD := (F6.ch0 C7).ch0 C9
 have fE := (F5.ch0 C7).ch0 C9
 have fF := bg.ch0 C9
 refine Xo (σ := Nat × Value) (fun ⟨q, iv⟩ => [(1, (.pointer (some ⟨bf, 0, none⟩))), (2, (.slice none 0 0)), (3, (.slice bv (Yn aA aN).length bw)), (4, iv), (5, (.int .i64 ((q : Nat) : Int)))]) (fun ⟨q, iv⟩ wx => Ch [] w wx ∧ W9.heap.size ≤ wx.heap.size ∧ (q ≤ aA.length) ∧ Blk wx bf 27 [(.int .i64 aS), (.slice s aA.length t), (.slice l saN.length m)] ∧ Ls bcs 1 wx LL_aA w.heap.size (.slice s aA.length t) aA ∧ Ls Sv.cs 1 wx LL_saN w.heap.size (.slice l saN.length m) saN ∧ Rd ics 1 wx LR_aN w.heap.size saN aN ∧ Ol bcs 4 1 wx (.slice bv (Yn aA aN).length bw) (Yn aA aN) ∧ Ol ics 3 1 wx iv (Xq aA (Yn aA aN) q) ∧ Lo W7.heap.size iv) (fun ⟨q, iv⟩ => aA.length - q) (0, (.slice bz (([] : List Int)).length bA)) (sC4 rfl rfl rfl rfl (sC1 rfl (Sub.nil _))) ⟨E, (Nat.le_refl _), om, fB, fC, fD, fE, fF, bU, cq⟩ ?_
 rintro ⟨q, iv⟩ eU ⟨E, fG, hq, B, S, ag, ah, T, U, a⟩
 have c6 := E
 have eV := c6.size
 have c7 := B.lt
 obtain ⟨Aiv, Civ, rfl, liv, hiiv⟩ := U.opn
 refine Zg fun hy c8 => ?_
 refine Zg fun hz fH => ?_
 refine Zc (Za rfl rfl (Zd rfl) (Za rfl rfl (Zh fa27_1 rfl) (Za rfl rfl (Zp B.at_ agg24 rfl rfl) (Za rfl rfl (Xm (by rw [el24]; rfl) rfl) (Za rfl rfl (Xv rfl rfl) (Zf (Zb (fH _ _ ?_))))))))
 refine Zx rfl (fun ax => ?_) (fun ax => ?_)
 ·have c9 := ax
  have ax := Yo ax
  refine Zu ?_
  refine Zb (c8 _ _ ?_)
  refine Zg fun hA c2 => ?_
  refine Yf ?_
  refine Zg fun hB fI => ?_
  refine Zc (Za rfl rfl (Ze rfl) (Zf (Zb (fI _ _ ?_))))
  refine Zg fun hC eW => ?_
  refine Zg fun hD fJ => ?_
  refine Zc (Za rfl rfl (Zh fa27_1 rfl) (Za rfl rfl (Zp B.at_ agg24 rfl rfl) (Za rfl rfl (Zd rfl) (Zk rfl rfl ?_))))
  refine (Yy S Qa el24 sz4 rfl rfl rfl om fun fK fL aK da => ?_)
  refine Za rfl rfl (Yk da agg4 rfl rfl) (Zf (Zb (fJ _ _ ?_)))
  refine Zx rfl (fun bV => ?_) (fun bV => ?_)
  ·have db := bV
   refine Zc (Za rfl rfl (Ze rfl) (Zf (Zb (eW _ _ ?_))))
   refine Zg fun hE eX => ?_
   refine Zg fun hF fM => ?_
   refine Zc (Za rfl rfl (Zd rfl) (Za rfl rfl (Zd rfl) (Zk rfl rfl ?_)))
   refine (Yy T.ls Qa el24 sz4 rfl rfl rfl om fun dc dd ai bW => ?_)
   refine Za rfl rfl (Yk bW agg4 rfl rfl) (Za rfl rfl (Xi rfl) (Zf (Zb (fM _ _ ?_))))
   refine Zx rfl (fun ay => ?_) (fun ay => ?_)
   ·have de := ay
    refine Zc (Za rfl rfl (Ze rfl) (Zf (Zb (eX _ _ (Zc (Za rfl rfl (Zd rfl) (Za rfl rfl (Zd rfl) (Zk rfl rfl ?_))))))))
    refine Zr (cs := ics) (parts := [(0, .tmp 35)]) (0 : Int) [(-1)] el30 sz3 zr3 Yl (by decide) rfl rfl rfl (by decide) (by decide) rfl fun bX hG F aY bB => ?_
    have fN := bB.size
    have E := E.trans bB
    obtain ⟨aZ, a0, rfl, a1, az⟩ := F.opn
    refine Zk rfl rfl ?_
    have fO := U.ch0 bB
    refine Yj (cs := ics) el30 sz3 by3 zr3 rfl (by decide) Xz fO F.ls rfl rfl (by have a2 := Zbi aA (Yn aA aN) q; simp only [List.length_singleton]; omega) (by have a2 := Zbi aA (Yn aA aN) q; simp only [List.length_singleton]; omega) a om fun bY fP G H a3 bZ => ?_
    have fQ := bZ.size
    have E := E.step bZ (fun i hi => .inl (by have j := a _ hi; omega))
    obtain ⟨o, p, rfl, a4, aB⟩ := G.opn
    refine Za rfl rfl (Ze rfl) (Zf (Yc (Zb (c2 _ _ (Zc (Za rfl rfl (Zd rfl) (Za rfl rfl (Yq om rfl rfl) (Za rfl rfl (Ze rfl) ?_))))))))
    refine Zf ?_
    have b0 : Ol ics 3 1 fP (.slice o ((Xq aA (Yn aA aN) q ++ [(-1)])).length p) (Xq aA (Yn aA aN) (q + 1)) := by
     have hx := G
     exact hx.eq (Zfd aK ai (by simp_all))
    have fR := (B.ch0 bB).ch bZ (fun hm => by have j := a _ hm; have L := hiiv _ hm; omega)
    have fS := (S.ch0 bB).ch bZ (fun i hi => by have j := a _ hi; omega)
    have fT := (ag.ch0 bB).ch bZ (fun i hi => by have j := a _ hi; omega)
    have fU := (ah.ch0 bB).ch bZ (fun i hi => by have j := a _ hi; omega)
    have fV := (T.ch0 bB).ch bZ (fun g hg hm => by have j := a _ hm; have L := hiiv _ hm; have aj := aJ _ hg; have ak := aa _ hg; omega)
    exact Zb (Exists.intro ((q + 1), (.slice o ((Xq aA (Yn aA aN) q ++ [(-1)])).length p)) ⟨⟨E, om, om, fR, fS, fT, fU, fV, b0, (Lo.down H om)⟩, sC4 rfl rfl rfl rfl (sC1 rfl (Sub.nil _)), (by first | omega | (dsimp only; omega))⟩)
   have de := ay
   refine Zu ?_
   refine Zb (eX _ _ (Zc (Za rfl rfl (Zd rfl) (Za rfl rfl (Zd rfl) (Zk rfl rfl ?_)))))
   refine Zr (cs := ics) (parts := [(0, .tmp 35)]) (0 : Int) [1] el30 sz3 zr3 Yl (by decide) rfl rfl rfl (by decide) (by decide) rfl fun bX hH F aY bC => ?_
   have fW := bC.size
   have E := E.trans bC
   obtain ⟨aZ, a0, rfl, a1, az⟩ := F.opn
   refine Zk rfl rfl ?_
   have fX := U.ch0 bC
   refine Yj (cs := ics) el30 sz3 by3 zr3 rfl (by decide) Xz fX F.ls rfl rfl (by have a2 := Zbi aA (Yn aA aN) q; simp only [List.length_singleton]; omega) (by have a2 := Zbi aA (Yn aA aN) q; simp only [List.length_singleton]; omega) a om fun bY fY G H a3 b1 => ?_
   have fZ := b1.size
   have E := E.step b1 (fun i hi => .inl (by have j := a _ hi; omega))
   obtain ⟨o, p, rfl, a4, aB⟩ := G.opn
   refine Za rfl rfl (Ze rfl) (Zf (Yc (Zb (c2 _ _ (Zc (Za rfl rfl (Zd rfl) (Za rfl rfl (Yq om rfl rfl) (Za rfl rfl (Ze rfl) ?_))))))))
   refine Zf ?_
   have b2 : Ol ics 3 1 fY (.slice o ((Xq aA (Yn aA aN) q ++ [1])).length p) (Xq aA (Yn aA aN) (q + 1)) := by
    have hx := G
    exact hx.eq (Zfd aK ai (by simp_all))
   have f0 := (B.ch0 bC).ch b1 (fun hm => by have j := a _ hm; have L := hiiv _ hm; omega)
   have f1 := (S.ch0 bC).ch b1 (fun i hi => by have j := a _ hi; omega)
   have f2 := (ag.ch0 bC).ch b1 (fun i hi => by have j := a _ hi; omega)
   have f3 := (ah.ch0 bC).ch b1 (fun i hi => by have j := a _ hi; omega)
   have f4 := (T.ch0 bC).ch b1 (fun g hg hm => by have j := a _ hm; have L := hiiv _ hm; have aj := aJ _ hg; have ak := aa _ hg; omega)
   exact Zb (Exists.intro ((q + 1), (.slice o ((Xq aA (Yn aA aN) q ++ [1])).length p)) ⟨⟨E, om, om, f0, f1, f2, f3, f4, b2, (Lo.down H om)⟩, sC4 rfl rfl rfl rfl (sC1 rfl (Sub.nil _)), (by first | omega | (dsimp only; omega))⟩)
  have db := bV
  refine Zu ?_
  refine Zb (eW _ _ ?_)
  refine Zg fun hI eY => ?_
  refine Zg fun hJ f5 => ?_
  refine Zc (Za rfl rfl (Zd rfl) (Za rfl rfl (Zd rfl) (Zk rfl rfl ?_)))
  refine (Yy T.ls Qa el24 sz4 rfl rfl rfl om fun dc dd ai bW => ?_)
  refine Za rfl rfl (Yk bW agg4 rfl rfl) (Za rfl rfl (Xi rfl) (Zf (Zb (f5 _ _ ?_))))
  refine Zx rfl (fun ay => ?_) (fun ay => ?_)
  ·have df := ay
   refine Zc (Za rfl rfl (Ze rfl) (Zf (Zb (eY _ _ (Zc (Za rfl rfl (Zd rfl) (Za rfl rfl (Zd rfl) (Zk rfl rfl ?_))))))))
   refine Zr (cs := ics) (parts := [(0, .tmp 35)]) (0 : Int) [(-1)] el30 sz3 zr3 Yl (by decide) rfl rfl rfl (by decide) (by decide) rfl fun bX hK F aY bD => ?_
   have f6 := bD.size
   have E := E.trans bD
   obtain ⟨aZ, a0, rfl, a1, az⟩ := F.opn
   refine Zk rfl rfl ?_
   have f7 := U.ch0 bD
   refine Yj (cs := ics) el30 sz3 by3 zr3 rfl (by decide) Xz f7 F.ls rfl rfl (by have a2 := Zbi aA (Yn aA aN) q; simp only [List.length_singleton]; omega) (by have a2 := Zbi aA (Yn aA aN) q; simp only [List.length_singleton]; omega) a om fun bY f8 G H a3 b3 => ?_
   have f9 := b3.size
   have E := E.step b3 (fun i hi => .inl (by have j := a _ hi; omega))
   obtain ⟨o, p, rfl, a4, aB⟩ := G.opn
   refine Za rfl rfl (Ze rfl) (Zf (Yc (Zb (c2 _ _ (Zc (Za rfl rfl (Zd rfl) (Za rfl rfl (Yq om rfl rfl) (Za rfl rfl (Ze rfl) ?_))))))))
   refine Zf ?_
   have b4 : Ol ics 3 1 f8 (.slice o ((Xq aA (Yn aA aN) q ++ [(-1)])).length p) (Xq aA (Yn aA aN) (q + 1)) := by
    have hx := G
    exact hx.eq (Zfd aK ai (by simp_all))
   have ga := (B.ch0 bD).ch b3 (fun hm => by have j := a _ hm; have L := hiiv _ hm; omega)
   have gb := (S.ch0 bD).ch b3 (fun i hi => by have j := a _ hi; omega)
   have gc := (ag.ch0 bD).ch b3 (fun i hi => by have j := a _ hi; omega)
   have gd := (ah.ch0 bD).ch b3 (fun i hi => by have j := a _ hi; omega)
   have ge := (T.ch0 bD).ch b3 (fun g hg hm => by have j := a _ hm; have L := hiiv _ hm; have aj := aJ _ hg; have ak := aa _ hg; omega)
   exact Zb (Exists.intro ((q + 1), (.slice o ((Xq aA (Yn aA aN) q ++ [(-1)])).length p)) ⟨⟨E, om, om, ga, gb, gc, gd, ge, b4, (Lo.down H om)⟩, sC4 rfl rfl rfl rfl (sC1 rfl (Sub.nil _)), (by first | omega | (dsimp only; omega))⟩)
  have df := ay
  refine Zu ?_
  refine Zb (eY _ _ (Zc (Za rfl rfl (Zd rfl) (Za rfl rfl (Zd rfl) (Zk rfl rfl ?_)))))
  refine Zr (cs := ics) (parts := [(0, .tmp 35)]) (0 : Int) [0] el30 sz3 zr3 Yl (by decide) rfl rfl rfl (by decide) (by decide) rfl fun bX hL F aY bF => ?_
  have gf := bF.size
  have E := E.trans bF
  obtain ⟨aZ, a0, rfl, a1, az⟩ := F.opn
  refine Zk rfl rfl ?_
  have gg := U.ch0 bF
  refine Yj (cs := ics) el30 sz3 by3 zr3 rfl (by decide) Xz gg F.ls rfl rfl (by have a2 := Zbi aA (Yn aA aN) q; simp only [List.length_singleton]; omega) (by have a2 := Zbi aA (Yn aA aN) q; simp only [List.length_singleton]; omega) a om fun bY gh G H a3 b5 => ?_
  have gi := b5.size
  have E := E.step b5 (fun i hi => .inl (by have j := a _ hi; omega))
  obtain ⟨o, p, rfl, a4, aB⟩ := G.opn
  refine Za rfl rfl (Ze rfl) (Zf (Yc (Zb (c2 _ _ (Zc (Za rfl rfl (Zd rfl) (Za rfl rfl (Yq om rfl rfl) (Za rfl rfl (Ze rfl) ?_))))))))
  refine Zf ?_
  have b6 : Ol ics 3 1 gh (.slice o ((Xq aA (Yn aA aN) q ++ [0])).length p) (Xq aA (Yn aA aN) (q + 1)) := by
   have hx := G
   exact hx.eq (Zfd aK ai (by simp_all))
  have gj := (B.ch0 bF).ch b5 (fun hm => by have j := a _ hm; have L := hiiv _ hm; omega)
  have gk := (S.ch0 bF).ch b5 (fun i hi => by have j := a _ hi; omega)
  have gl := (ag.ch0 bF).ch b5 (fun i hi => by have j := a _ hi; omega)
  have gm := (ah.ch0 bF).ch b5 (fun i hi => by have j := a _ hi; omega)
  have gn := (T.ch0 bF).ch b5 (fun g hg hm => by have j := a _ hm; have L := hiiv _ hm; have aj := aJ _ hg; have ak := aa _ hg; omega)
  exact Zb (Exists.intro ((q + 1), (.slice o ((Xq aA (Yn aA aN) q ++ [0])).length p)) ⟨⟨E, om, om, gj, gk, gl, gm, gn, b6, (Lo.down H om)⟩, sC4 rfl rfl rfl rfl (sC1 rfl (Sub.nil _)), (by first | omega | (dsimp only; omega))⟩)
 have c9 := ax
 have ax := Yp ax
 refine Xk (Ya (Ya (Xd ?_)))
 refine Zb (fz _ _ ?_)
 refine Zg fun hM eZ => ?_
 refine Zg fun hN gp => ?_
 refine Zc (Za rfl rfl (Ze rfl) (Zf (Zb (gp _ _ ?_))))
 refine Yf ?_
 have b7 : Ol ics 3 1 eU (.slice Aiv (Xq aA (Yn aA aN) q).length Civ) (Xp aN (Xq aA (Yn aA aN) aA.length) aA.length 0) := by
  have hx := U
  exact hx.eq (by rw [show q = aA.length by omega]; rfl)
 refine Xo (σ := Nat × Value) (fun ⟨c, cv⟩ => [(1, (.pointer (some ⟨bf, 0, none⟩))), (4, cv), (7, (.int .i64 ((c : Nat) : Int)))]) (fun ⟨c, cv⟩ wx => Ch [] w wx ∧ eU.heap.size ≤ wx.heap.size ∧ (c ≤ aA.length + 1) ∧ Blk wx bf 27 [(.int .i64 aS), (.slice s aA.length t), (.slice l saN.length m)] ∧ Ls bcs 1 wx LL_aA w.heap.size (.slice s aA.length t) aA ∧ Ls Sv.cs 1 wx LL_saN w.heap.size (.slice l saN.length m) saN ∧ Rd ics 1 wx LR_aN w.heap.size saN aN ∧ Ol ics 3 1 wx cv (Xp aN (Xq aA (Yn aA aN) aA.length) aA.length c) ∧ Lo W7.heap.size cv) (fun ⟨c, cv⟩ => aA.length + 1 - c) (0, (.slice Aiv (Xq aA (Yn aA aN) q).length Civ)) (sC2 rfl rfl (sC1 rfl (Sub.nil _))) ⟨E, (Nat.le_refl _), om, B, S, ag, ah, b7, a⟩ ?_
 rintro ⟨c, cv⟩ e0 ⟨E, gq, hO, a5, cr, ct, cu, a6, A⟩
 have dg := E
 have e1 := dg.size
 have dh := a5.lt
 obtain ⟨Acv, Ccv, rfl, lcv, hicv⟩ := a6.opn
 have d9 := Zbi aA (Yn aA aN) aA.length
 have gr := Zmv (N := aN) d9 c
 refine Zg fun hP e2 => ?_
 refine Zg fun hQ gs => ?_
 refine Zc (Za rfl rfl (Zd rfl) (Za rfl rfl (Zh fa27_1 rfl) (Za rfl rfl (Zp a5.at_ agg24 rfl rfl) (Za rfl rfl (Xm (by rw [el24]; rfl) rfl) (Za rfl rfl (Zfo rfl rfl) (Zf (Zb (gs _ _ ?_))))))))
 refine Zx rfl (fun aC => ?_) (fun aC => ?_)
 ·have di := aC
  have aC := Yo aC
  refine Zu ?_
  refine Zb (e2 _ _ ?_)
  refine Zg fun hR e3 => ?_
  refine Yf ?_
  refine Zg fun hS gt => ?_
  refine Zc (Zk rfl rfl ?_)
  refine Xt (k := 1) Sv.cs el25 sz30 fun gu gv cw bG b8 => ?_
  have gw := b8.size
  have E := E.trans b8
  obtain ⟨bH, bI, rfl, e4, b9⟩ := cw.opn
  refine Za rfl rfl (Ze rfl) (Zf (Zb (gt _ _ ?_)))
  refine Zg fun hT gx => ?_
  refine Zc (Zk rfl rfl ?_)
  refine Xt (k := 1) ics el30 sz3 fun gy cx cy bJ bK => ?_
  have gz := bK.size
  have E := E.trans bK
  obtain ⟨bL, bM, rfl, e5, ca⟩ := cy.opn
  refine Za rfl rfl (Ze rfl) (Zf (Zb (gx _ _ ?_)))
  refine Zg fun hU gA => ?_
  refine Zg fun hV gB => ?_
  refine Zc (Za rfl rfl (Ze rfl) (Zf (Zb (gB _ _ ?_))))
  refine Yf ?_
  have gC := cw.ch0 bK
  have cb : Ol Sv.cs 30 1 cx (.slice bH (([] : List Sv)).length bI) (([] : List Sv)) := by
   have hx := gC
   exact hx
  have cc : Ol ics 3 1 cx (.slice bL (([] : List Int)).length bM) ((rfn (Xp aN (Xq aA (Yn aA aN) aA.length) aA.length c) aN 0).2) := by
   have hx := cy
   exact hx
  have gD := (a5.ch0 b8).ch0 bK
  have gE := (cr.ch0 b8).ch0 bK
  have gF := (ct.ch0 b8).ch0 bK
  have gG := (cu.ch0 b8).ch0 bK
  have gH := (a6.ch0 b8).ch0 bK
  refine Xo (σ := Nat × List Sv × Value × Value) (fun ⟨i, vs, kv, ov⟩ => [(1, (.pointer (some ⟨bf, 0, none⟩))), (4, (.slice Acv (Xp aN (Xq aA (Yn aA aN) aA.length) aA.length c).length Ccv)), (7, (.int .i64 ((c : Nat) : Int))), (8, kv), (9, ov), (10, (.int .i64 ((i : Nat) : Int))), (42, (.bool (decide (((c : Nat) : Int) ≤ ((aA.length : Nat) : Int)))))]) (fun ⟨i, vs, kv, ov⟩ wx => Ch [] w wx ∧ cx.heap.size ≤ wx.heap.size ∧ (i ≤ aA.length) ∧ (vs.length = (rfn (Xp aN (Xq aA (Yn aA aN) aA.length) aA.length c) aN i).1.length) ∧ Blk wx bf 27 [(.int .i64 aS), (.slice s aA.length t), (.slice l saN.length m)] ∧ Ls bcs 1 wx LL_aA w.heap.size (.slice s aA.length t) aA ∧ Ls Sv.cs 1 wx LL_saN w.heap.size (.slice l saN.length m) saN ∧ Rd ics 1 wx LR_aN w.heap.size saN aN ∧ Ol ics 3 1 wx (.slice Acv (Xp aN (Xq aA (Yn aA aN) aA.length) aA.length c).length Ccv) (Xp aN (Xq aA (Yn aA aN) aA.length) aA.length c) ∧ Ol Sv.cs 30 1 wx kv vs ∧ Lo e0.heap.size kv ∧ Ol ics 3 1 wx ov ((rfn (Xp aN (Xq aA (Yn aA aN) aA.length) aA.length c) aN i).2) ∧ Lo gv.heap.size ov ∧ Od ics 3 1 wx cx.heap.size wx.heap.size vs ((rfn (Xp aN (Xq aA (Yn aA aN) aA.length) aA.length c) aN i).1) ∧ (∀ g ∈ bl ov, g ∉ bl kv) ∧ (Sep kv vs) ∧ (Sep ov vs)) (fun ⟨i, vs, kv, ov⟩ => aA.length - i) (0, ([] : List Sv), (.slice bH (([] : List Sv)).length bI), (.slice bL (([] : List Int)).length bM)) (sC4 rfl rfl rfl rfl (sC2 rfl rfl (sC1 rfl (Sub.nil _)))) ⟨E, (Nat.le_refl _), om, rfl, gD, gE, gF, gG, gH, cb, bG, cc, bJ, Od.nil, (fun g hm hg => by have j := bJ _ hm; have L := ca _ hm; have aj := bG _ hg; have ak := b9 _ hg; omega), (fun u hu => by cases hu), (fun u hu => by cases hu)⟩ ?_
  rintro ⟨i, vs, kv, ov⟩ gI ⟨E, gJ, hi, hvl, V, aL, aM, aO, X, a7, f, al, b, od, d, C, r⟩
  have dj := E
  have e6 := dj.size
  have dk := V.lt
  obtain ⟨Akv, Ckv, rfl, lkv, hikv⟩ := a7.opn
  obtain ⟨Aov, Cov, rfl, lov, hiov⟩ := al.opn
  have hW := Zet (Xp aN (Xq aA (Yn aA aN) aA.length) aA.length c) aN i
  refine Zg fun hX e7 => ?_
  refine Zg fun hY gK => ?_
  refine Zc (Za rfl rfl (Zd rfl) (Za rfl rfl (Zh fa27_1 rfl) (Za rfl rfl (Zp V.at_ agg24 rfl rfl) (Za rfl rfl (Xm (by rw [el24]; rfl) rfl) (Za rfl rfl (Xv rfl rfl) (Zf (Zb (gK _ _ ?_))))))))
  refine Zx rfl (fun aD => ?_) (fun aD => ?_)
  ·have dl := aD
   have aD := Yo aD
   refine Zu ?_
   refine Zb (e7 _ _ ?_)
   refine Zg fun hZ dm => ?_
   refine Yf ?_
   refine Zg fun h0 gL => ?_
   refine Zg fun h1 gM => ?_
   refine Zc (Za rfl rfl (Zd rfl) (Za rfl rfl (Zd rfl) (Zk rfl rfl ?_)))
   refine (Yy X.ls Yl el30 sz3 rfl rfl rfl om fun gN dn h dp => ?_)
   refine Za rfl rfl (Yk dp agg3 rfl rfl) (Za rfl rfl (Xv rfl rfl) (Zf (Zb (gM _ _ ?_))))
   refine Zx rfl (fun aE => ?_) (fun aE => ?_)
   ·have dq := aE
    have aE := Yo aE
    refine Zg fun h2 gO => ?_
    refine Zc (Za rfl rfl (Zd rfl) (Zk rfl rfl ?_))
    refine Zr (cs := ics) (parts := [(0, .const (Go.Value.int Go.IntKind.i64 (-1)))]) (0 : Int) [(-1)] el30 sz3 zr3 Yl (by decide) rfl rfl rfl (by decide) (by decide) rfl fun gP gQ cz e8 M => ?_
    have e9 := M.size
    have E := E.trans M
    obtain ⟨fa, fb, rfl, fc, dr⟩ := cz.opn
    refine Zk rfl rfl ?_
    have ds := al.ch0 M
    refine Yj (cs := ics) el30 sz3 by3 zr3 rfl (by decide) Xz ds cz.ls rfl rfl (by simp only [List.length_singleton]; omega) (by simp only [List.length_singleton]; omega) b om fun gR cA cB cC bN ab => ?_
    have fd := ab.size
    have E := E.step ab (fun i hi => .inl (by have j := b _ hi; omega))
    obtain ⟨bO, bP, rfl, fe, cd⟩ := cB.opn
    refine Za rfl rfl (Ze rfl) (Zf (Zb (gO _ _ ?_)))
    refine Xk (Ya (Xd ?_))
    refine Zb (dm _ _ (Zc (Za rfl rfl (Zd rfl) (Za rfl rfl (Yq om rfl rfl) (Za rfl rfl (Ze rfl) (Zf ?_))))))
    have dt := (a7.ch0 M).ch ab (fun g hg hm => by exact d _ hm hg)
    have bh : Ol Sv.cs 30 1 cA (.slice Akv (vs).length Ckv) (vs) := by
     have hx := dt
     exact hx
    have bi : Ol ics 3 1 cA (.slice bO (((rfn (Xp aN (Xq aA (Yn aA aN) aA.length) aA.length c) aN i).2 ++ [(-1)])).length bP) ((rfn (Xp aN (Xq aA (Yn aA aN) aA.length) aA.length c) aN (i + 1)).2) := by
     have hx := cB
     first | exact hx.eq (Zos h om) | exact hx.eq (Ztu h om rfl (Zax hat om (Zaf _ _ _)) om) | exact hx.eq (Zmd h om rfl (Zax hat om (Zaf _ _ _)) om hvl)
    have ce := (od.ch0 M).chS ab r
    have du := (V.ch0 M).ch ab (fun hm => by have j := b _ hm; have L := hiov _ hm; omega)
    have dv := (aL.ch0 M).ch ab (fun i hi => by have j := b _ hi; omega)
    have dw := (aM.ch0 M).ch ab (fun i hi => by have j := b _ hi; omega)
    have dx := (aO.ch0 M).ch ab (fun i hi => by have j := b _ hi; omega)
    have dy := (X.ch0 M).ch ab (fun g hg hm => by have j := b _ hm; have L := hiov _ hm; have aj := A _ hg; have ak := hicv _ hg; omega)
    exact Zb (Exists.intro ((i + 1), vs, (.slice Akv (vs).length Ckv), (.slice bO (((rfn (Xp aN (Xq aA (Yn aA aN) aA.length) aA.length c) aN i).2 ++ [(-1)])).length bP)) ⟨⟨E, om, om, (by first | (rw [Zmo h om]; exact hvl) | (rw [Zqz h om rfl (Zax hat om (Zaf _ _ _)) om]; exact hvl)), du, dv, dw, dx, dy, bh, (Lo.down f om), bi, (Lo.down cC om), (by first | (rw [Zmo h om]; exact ce.up (Nat.le_refl _) om) | (rw [Zqz h om rfl (Zax hat om (Zaf _ _ _)) om]; exact ce.up (Nat.le_refl _) om)), (fun g hm hg => by rcases bN with ea | ea; (rw [ea] at hm; exact d _ hm hg); (have cD := cd _ hm; rw [ea] at hm; have aW := List.mem_singleton.1 hm; have aj := f _ hg; have ak := hikv _ hg; omega)), (fun u hu g hg hm => by exact C _ hu _ hg hm), (fun u hu g hg hm => by rcases bN with ea | ea; (rw [ea] at hm; exact r _ hu _ hg hm); (rw [ea] at hm; have aW := List.mem_singleton.1 hm; have a2 := ce.rng hu hg; omega))⟩, sC4 rfl rfl rfl rfl (sC2 rfl rfl (sC1 rfl (Sub.nil _))), (by first | omega | (dsimp only; omega))⟩)
   have dq := aE
   have aE := Yp aE
   refine Zu ?_
   refine Zb (gL _ _ ?_)
   refine Zg fun gS dz => ?_
   refine Zc (Za rfl rfl (Zt V.at_ agg27 sz27 rfl) (Za rfl rfl (Zd rfl) (Za rfl rfl (Zd rfl) (Zk rfl rfl ?_))))
   refine Step.call (Zl (xs := [.tmp 62, .tmp 63, .tmp 64]) fk94 rfl) (Zkl _ aL aM aO X.ls _ hv gr om) fun gT dA bj => ?_
   obtain ⟨bj, I, O⟩ := bj
   have ff := O.size
   have E := E.trans O
   obtain ⟨x, y, rfl, fg, z⟩ := bj.opn
   refine Za rfl rfl (Ze rfl) (Zf (Zb (dz _ _ ?_)))
   refine Zg fun gU dB => ?_
   refine Zc (Za rfl rfl (Ze rfl) (Zf (Zb (dB _ _ ?_))))
   refine Zg fun gV dC => ?_
   refine Zg fun gW dD => ?_
   refine Zc (Za rfl rfl (Ze rfl) (Zf (Zb (dD _ _ ?_))))
   refine Yf ?_
   have dE := V.ch0 O
   have dF := aL.ch0 O
   have dG := aM.ch0 O
   have dH := aO.ch0 O
   have dI := X.ch0 O
   have dJ := a7.ch0 O
   have dL := al.ch0 O
   have dM := od.ch0 O
   refine Xo (σ := Nat × Int) (fun ⟨k, bk⟩ => [(1, (.pointer (some ⟨bf, 0, none⟩))), (4, (.slice Acv (Xp aN (Xq aA (Yn aA aN) aA.length) aA.length c).length Ccv)), (7, (.int .i64 ((c : Nat) : Int))), (8, (.slice Akv (vs).length Ckv)), (9, (.slice Aov ((rfn (Xp aN (Xq aA (Yn aA aN) aA.length) aA.length c) aN i).2).length Cov)), (10, (.int .i64 ((i : Nat) : Int))), (11, (.slice x (keyC (Xp aN (Xq aA (Yn aA aN) aA.length) aA.length c) (aN.getD ((i : Nat) : Int).toNat []) ((Xp aN (Xq aA (Yn aA aN) aA.length) aA.length c).getD ((i : Nat) : Int).toNat 0)).length y)), (12, (.int .i64 bk)), (13, (.int .i64 ((k : Nat) : Int))), (42, (.bool (decide (((c : Nat) : Int) ≤ ((aA.length : Nat) : Int))))), (51, (.bool (decide (((i : Nat) : Int) < ((aA.length : Nat) : Int))))), (58, (.bool (decide (dn < 0))))]) (fun ⟨k, bk⟩ wx => Ch [] w wx ∧ dA.heap.size ≤ wx.heap.size ∧ (k ≤ vs.length) ∧ (Znw (rfn (Xp aN (Xq aA (Yn aA aN) aA.length) aA.length c) aN i).1 (keyC (Xp aN (Xq aA (Yn aA aN) aA.length) aA.length c) (aN.getD i []) ((Xp aN (Xq aA (Yn aA aN) aA.length) aA.length c).getD i 0)) k bk) ∧ Blk wx bf 27 [(.int .i64 aS), (.slice s aA.length t), (.slice l saN.length m)] ∧ Ls bcs 1 wx LL_aA w.heap.size (.slice s aA.length t) aA ∧ Ls Sv.cs 1 wx LL_saN w.heap.size (.slice l saN.length m) saN ∧ Rd ics 1 wx LR_aN w.heap.size saN aN ∧ Ol ics 3 1 wx (.slice Acv (Xp aN (Xq aA (Yn aA aN) aA.length) aA.length c).length Ccv) (Xp aN (Xq aA (Yn aA aN) aA.length) aA.length c) ∧ Ol Sv.cs 30 1 wx (.slice Akv (vs).length Ckv) vs ∧ Ol ics 3 1 wx (.slice Aov ((rfn (Xp aN (Xq aA (Yn aA aN) aA.length) aA.length c) aN i).2).length Cov) ((rfn (Xp aN (Xq aA (Yn aA aN) aA.length) aA.length c) aN i).2) ∧ Ol ics 3 1 wx (.slice x (keyC (Xp aN (Xq aA (Yn aA aN) aA.length) aA.length c) (aN.getD ((i : Nat) : Int).toNat []) ((Xp aN (Xq aA (Yn aA aN) aA.length) aA.length c).getD ((i : Nat) : Int).toNat 0)).length y) (keyC (Xp aN (Xq aA (Yn aA aN) aA.length) aA.length c) (aN.getD ((i : Nat) : Int).toNat []) ((Xp aN (Xq aA (Yn aA aN) aA.length) aA.length c).getD ((i : Nat) : Int).toNat 0)) ∧ Od ics 3 1 wx cx.heap.size gI.heap.size vs ((rfn (Xp aN (Xq aA (Yn aA aN) aA.length) aA.length c) aN i).1)) (fun ⟨k, bk⟩ => vs.length - k) (0, -1) (sC8 rfl rfl rfl rfl rfl rfl rfl rfl (sC4 rfl rfl rfl rfl (Sub.nil _))) ⟨E, (Nat.le_refl _), om, (Zoi _ _), dE, dF, dG, dH, dI, dJ, dL, bj, dM⟩ ?_
   rintro ⟨k, bk⟩ bm ⟨E, gX, h3, hat, am, aP, aQ, aR, aT, an, aU, aV, ao⟩
   have dN := E
   have fh := dN.size
   have dP := am.lt
   refine Zg fun gY dQ => ?_
   refine Zg fun gZ dR => ?_
   refine Zc (Za rfl rfl (Zd rfl) (Za rfl rfl (Zd rfl) (Za rfl rfl (Xm (by rw [el25]; rfl) rfl) (Za rfl rfl (Xv rfl rfl) (Zf (Zb (dR _ _ ?_)))))))
   refine Zx rfl (fun aF => ?_) (fun aF => ?_)
   ·have cE := aF
    have aF := Yo aF
    refine Zu ?_
    refine Zb (dQ _ _ ?_)
    refine Zg fun g0 cF => ?_
    refine Yf ?_
    refine Zg fun g1 dU => ?_
    refine Zc (Za rfl rfl (Zd rfl) (Za rfl rfl (Zd rfl) (Zk rfl rfl ?_)))
    refine (Yy an.ls Sv.len el25 sz30 rfl rfl rfl om fun dW dX cG cf => ?_)
    obtain ⟨a8, ac, ap⟩ := ao.get cG
    obtain ⟨cH, g2, cI⟩ := dX
    obtain rfl := ap.eqn
    have g3 := ap.len
    replace ap : Ls ics 1 bm 0 bm.heap.size (.slice cH a8.length cI) a8 := ap
    replace cf : At bm 0 bm.heap.size dW ([(.slice cH a8.length cI)]) := cf
    refine Za rfl rfl (Yk cf agg30 rfl rfl) (Za rfl rfl (Zd rfl) (Zk rfl rfl ?_))
    refine Step.call (Zl (xs := [.tmp 75, .tmp 76]) fk95 rfl) (Zgr ap aV.ls ) fun g4 g5 dY => ?_
    obtain ⟨rfl, n⟩ := dY
    have fi := n.size
    have E := E.trans n
    refine Za rfl rfl (Xu rfl rfl) (Zf (Zb (dU _ _ ?_)))
    refine Zx rfl (fun aG => ?_) (fun aG => ?_)
    ·have cJ := aG
     have aG := Yo aG
     refine Zc (Za rfl rfl (Zd rfl) (Za rfl rfl (Ze rfl) (Zf (Yc (Zb (cF _ _ (Zc (Za rfl rfl (Zd rfl) ?_))))))))
     refine Za rfl rfl (Yq om rfl rfl) (Za rfl rfl (Ze rfl) (Zf ?_))
     have dZ := am.ch0 n
     have d0 := aP.ch0 n
     have d1 := aQ.ch0 n
     have d2 := aR.ch0 n
     have d3 := aT.ch0 n
     have d4 := an.ch0 n
     have d5 := aU.ch0 n
     have d6 := aV.ch0 n
     have d7 := ao.ch0 n
     exact Zb (Exists.intro ((k + 1), ((k : Nat) : Int)) ⟨⟨E, om, om, (by first | exact Zli ac (Zer.1 (by assumption)) | exact Zjh hat ac (fun e => (by assumption : ¬ _) (Zer.2 e))), dZ, d0, d1, d2, d3, d4, d5, d6, d7⟩, sC8 rfl rfl rfl rfl rfl rfl rfl rfl (sC4 rfl rfl rfl rfl (Sub.nil _)), (by first | omega | (dsimp only; omega))⟩)
    have cJ := aG
    have aG := Yp aG
    refine Zu ?_
    refine Yc (Zb (cF _ _ (Zc (Za rfl rfl (Zd rfl) (Za rfl rfl (Yq om rfl rfl) (Za rfl rfl (Ze rfl) (Zf ?_)))))))
    have d8 := am.ch0 n
    have eb := aP.ch0 n
    have ec := aQ.ch0 n
    have ed := aR.ch0 n
    have ee := aT.ch0 n
    have ef := an.ch0 n
    have eg := aU.ch0 n
    have eh := aV.ch0 n
    have ei := ao.ch0 n
    exact Zb (Exists.intro ((k + 1), bk) ⟨⟨E, om, om, (by first | exact Zli ac (Zer.1 (by assumption)) | exact Zjh hat ac (fun e => (by assumption : ¬ _) (Zer.2 e))), d8, eb, ec, ed, ee, ef, eg, eh, ei⟩, sC8 rfl rfl rfl rfl rfl rfl rfl rfl (sC4 rfl rfl rfl rfl (Sub.nil _)), (by first | omega | (dsimp only; omega))⟩)
   have cE := aF
   have aF := Yp aF
   refine Xk (Ya (Ya (Xd ?_)))
   refine Zb (dC _ _ ?_)
   refine Zg fun g6 cK => ?_
   refine Zg fun g7 ej => ?_
   refine Zc (Za rfl rfl (Zd rfl) (Za rfl rfl (Xv rfl rfl) (Zf (Zb (ej _ _ ?_)))))
   refine Zx rfl (fun aH => ?_) (fun aH => ?_)
   ·have cL := aH
    have aH := Yo aH
    refine Zg fun g8 ek => ?_
    refine Zc (Za rfl rfl (Zd rfl) (Za rfl rfl (Xm (by rw [el25]; rfl) rfl) (Za rfl rfl (Ze rfl) (Zf (Zb (ek _ _ (Zc (Za rfl rfl (Zd rfl) ?_))))))))
    refine Za rfl rfl (Zd rfl) (Zk rfl rfl ?_)
    refine Zr (cs := Sv.cs) (parts := [(0, .tmp 85)]) (⟨none, 0, 0⟩ : Sv) [(⟨x, (keyC (Xp aN (Xq aA (Yn aA aN) aA.length) aA.length c) (aN.getD ((i : Nat) : Int).toNat []) ((Xp aN (Xq aA (Yn aA aN) aA.length) aA.length c).getD ((i : Nat) : Int).toNat 0)).length, y⟩ : Sv)] el25 sz30 zr30 Sv.len (by decide) rfl rfl rfl (by decide) (by decide) rfl fun g9 cM cN fj J => ?_
    have fk := J.size
    have E := E.trans J
    obtain ⟨fl, fm, rfl, fn, el⟩ := cN.opn
    have cO := aV.ch0 J
    have fo : Rd ics 1 cM 0 cM.heap.size ([(⟨x, (keyC (Xp aN (Xq aA (Yn aA aN) aA.length) aA.length c) (aN.getD ((i : Nat) : Int).toNat []) ((Xp aN (Xq aA (Yn aA aN) aA.length) aA.length c).getD ((i : Nat) : Int).toNat 0)).length, y⟩ : Sv)]) ([keyC (Xp aN (Xq aA (Yn aA aN) aA.length) aA.length c) (aN.getD ((i : Nat) : Int).toNat []) ((Xp aN (Xq aA (Yn aA aN) aA.length) aA.length c).getD ((i : Nat) : Int).toNat 0)]) := (Rd.cons (cO.ls.up om om) Rd.nil)
    refine Zk rfl rfl ?_
    have em := an.ch0 J
    refine Yj (cs := Sv.cs) el25 sz30 by30 zr30 rfl (by decide) Sv.one em cN.ls rfl rfl (by simp only [List.length_singleton]; omega) (by simp only [List.length_singleton]; omega) f om fun ha hb cP cQ aq P => ?_
    have fp := P.size
    have E := E.step P (fun i hi => .inl (by have j := f _ hi; omega))
    obtain ⟨bQ, bR, rfl, fq, a9⟩ := cP.opn
    refine Za rfl rfl (Ze rfl) (Zf (Zb (cK _ _ (Zc (Za rfl rfl (Zd rfl) (Za rfl rfl (Zd rfl) (Zk rfl rfl ?_)))))))
    refine Zr (cs := ics) (parts := [(0, .tmp 89)]) (0 : Int) [((vs.length : Nat) : Int)] el30 sz3 zr3 Yl (by decide) rfl rfl rfl (by decide) (by decide) rfl fun en hc ba cR K => ?_
    have fr := K.size
    have E := E.trans K
    obtain ⟨cS, cT, rfl, cU, cg⟩ := ba.opn
    refine Zk rfl rfl ?_
    have eo := ((aU.ch0 J).ch P (fun g hg hm => by exact d _ hg hm)).ch0 K
    refine Yj (cs := ics) el30 sz3 by3 zr3 rfl (by decide) Xz eo ba.ls rfl rfl (by simp only [List.length_singleton]; omega) (by simp only [List.length_singleton]; omega) b om fun ep cV bb bc Y Q => ?_
    have fs := Q.size
    have E := E.step Q (fun i hi => .inl (by have j := b _ hi; omega))
    obtain ⟨au, av, rfl, cW, aI⟩ := bb.opn
    refine Za rfl rfl (Ze rfl) (Zf (Yc (Zb (dm _ _ (Zc (Za rfl rfl (Zd rfl) (Za rfl rfl (Yq om rfl rfl) (Za rfl rfl (Ze rfl) ?_))))))))
    refine Zf ?_
    have er := (cP.ch0 K).ch Q (fun g hg hm => by rcases aq with ea | ea; (rw [ea] at hg; exact d _ hm hg); (rw [ea] at hg; have aW := List.mem_singleton.1 hg; have j := b _ hm; have L := hiov _ hm; omega))
    have bn : Ol Sv.cs 30 1 cV (.slice bQ ((vs ++ [(⟨x, (keyC (Xp aN (Xq aA (Yn aA aN) aA.length) aA.length c) (aN.getD ((i : Nat) : Int).toNat []) ((Xp aN (Xq aA (Yn aA aN) aA.length) aA.length c).getD ((i : Nat) : Int).toNat 0)).length, y⟩ : Sv)])).length bR) ((vs ++ [(⟨x, (keyC (Xp aN (Xq aA (Yn aA aN) aA.length) aA.length c) (aN.getD ((i : Nat) : Int).toNat []) ((Xp aN (Xq aA (Yn aA aN) aA.length) aA.length c).getD ((i : Nat) : Int).toNat 0)).length, y⟩ : Sv)])) := by
     have hx := er
     exact hx
    have bp : Ol ics 3 1 cV (.slice au (((rfn (Xp aN (Xq aA (Yn aA aN) aA.length) aA.length c) aN i).2 ++ [((vs.length : Nat) : Int)])).length av) ((rfn (Xp aN (Xq aA (Yn aA aN) aA.length) aA.length c) aN (i + 1)).2) := by
     have hx := bb
     first | exact hx.eq (Zos h om) | exact hx.eq (Ztu h om rfl (Zax hat om (Zaf _ _ _)) om) | exact hx.eq (Zmd h om rfl (Zax hat om (Zaf _ _ _)) om hvl)
    have ci := (((ao.ch0 J).chS P C).ch0 K).chS Q r
    have es := ((cO.ch P (fun g hg hm => by have j := f _ hm; have L := hikv _ hm; have aj := I _ hg; have ak := z _ hg; omega)).ch0 K).ch Q (fun g hg hm => by have j := b _ hm; have L := hiov _ hm; have aj := I _ hg; have ak := z _ hg; omega)
    have et := (((am.ch0 J).ch P (fun hm => by have j := f _ hm; have L := hikv _ hm; omega)).ch0 K).ch Q (fun hm => by have j := b _ hm; have L := hiov _ hm; omega)
    have eu := (((aP.ch0 J).ch P (fun i hi => by have j := f _ hi; omega)).ch0 K).ch Q (fun i hi => by have j := b _ hi; omega)
    have ew := (((aQ.ch0 J).ch P (fun i hi => by have j := f _ hi; omega)).ch0 K).ch Q (fun i hi => by have j := b _ hi; omega)
    have ex := (((aR.ch0 J).ch P (fun i hi => by have j := f _ hi; omega)).ch0 K).ch Q (fun i hi => by have j := b _ hi; omega)
    have ey := (((aT.ch0 J).ch P (fun g hg hm => by have j := f _ hm; have L := hikv _ hm; have aj := A _ hg; have ak := hicv _ hg; omega)).ch0 K).ch Q (fun g hg hm => by have j := b _ hm; have L := hiov _ hm; have aj := A _ hg; have ak := hicv _ hg; omega)
    exact Zb (Exists.intro ((i + 1), (vs ++ [(⟨x, (keyC (Xp aN (Xq aA (Yn aA aN) aA.length) aA.length c) (aN.getD ((i : Nat) : Int).toNat []) ((Xp aN (Xq aA (Yn aA aN) aA.length) aA.length c).getD ((i : Nat) : Int).toNat 0)).length, y⟩ : Sv)]), (.slice bQ ((vs ++ [(⟨x, (keyC (Xp aN (Xq aA (Yn aA aN) aA.length) aA.length c) (aN.getD ((i : Nat) : Int).toNat []) ((Xp aN (Xq aA (Yn aA aN) aA.length) aA.length c).getD ((i : Nat) : Int).toNat 0)).length, y⟩ : Sv)])).length bR), (.slice au (((rfn (Xp aN (Xq aA (Yn aA aN) aA.length) aA.length c) aN i).2 ++ [((vs.length : Nat) : Int)])).length av)) ⟨⟨E, om, om, (by rw [Zpf h om rfl (Zax hat om (Zaf _ _ _)) om, List.length_append, List.length_append, hvl]; rfl), et, eu, ew, ex, ey, bn, (Lo.down cQ om), bp, (Lo.down bc om), (by rw [Zpf h om rfl (Zax hat om (Zaf _ _ _)) om]; exact Od.snoc ci es (Lo.down I om) (fun g hg => by have j := z g hg; omega) om om), (fun g hm hg => by rcases Y with ea | ea; (rw [ea] at hm; rcases aq with ea | ea; (rw [ea] at hg; exact d _ hm hg); (have ez := a9 _ hg; rw [ea] at hg; have aW := List.mem_singleton.1 hg; have j := b _ hm; have L := hiov _ hm; omega)); (have cD := aI _ hm; rw [ea] at hm; have aW := List.mem_singleton.1 hm; rcases aq with ea | ea; (rw [ea] at hg; have aj := f _ hg; have ak := hikv _ hg; omega); (have ez := a9 _ hg; rw [ea] at hg; have aW := List.mem_singleton.1 hg; omega))), (fun u hu g hg hm => by rcases List.mem_append.1 hu with hu | hu; (rcases aq with ea | ea; (rw [ea] at hm; exact C _ hu _ hg hm); (rw [ea] at hm; have aW := List.mem_singleton.1 hm; have a2 := ci.rng hu hg; omega)); (rw [List.mem_singleton.1 hu] at hg; replace hg : g ∈ bl (.slice x (keyC (Xp aN (Xq aA (Yn aA aN) aA.length) aA.length c) (aN.getD ((i : Nat) : Int).toNat []) ((Xp aN (Xq aA (Yn aA aN) aA.length) aA.length c).getD ((i : Nat) : Int).toNat 0)).length y) := hg; rcases aq with ea | ea; (rw [ea] at hm; have j := f _ hm; have L := hikv _ hm; have aj := I _ hg; have ak := z _ hg; omega); (rw [ea] at hm; have aW := List.mem_singleton.1 hm; have aj := I _ hg; have ak := z _ hg; omega))), (fun u hu g hg hm => by rcases List.mem_append.1 hu with hu | hu; (rcases Y with ea | ea; (rw [ea] at hm; exact r _ hu _ hg hm); (rw [ea] at hm; have aW := List.mem_singleton.1 hm; have a2 := ci.rng hu hg; omega)); (rw [List.mem_singleton.1 hu] at hg; replace hg : g ∈ bl (.slice x (keyC (Xp aN (Xq aA (Yn aA aN) aA.length) aA.length c) (aN.getD ((i : Nat) : Int).toNat []) ((Xp aN (Xq aA (Yn aA aN) aA.length) aA.length c).getD ((i : Nat) : Int).toNat 0)).length y) := hg; rcases Y with ea | ea; (rw [ea] at hm; have j := b _ hm; have L := hiov _ hm; have aj := I _ hg; have ak := z _ hg; omega); (rw [ea] at hm; have aW := List.mem_singleton.1 hm; have aj := I _ hg; have ak := z _ hg; omega)))⟩, sC4 rfl rfl rfl rfl (sC2 rfl rfl (sC1 rfl (Sub.nil _))), (by first | omega | (dsimp only; omega))⟩)
   have cL := aH
   have aH := Yp aH
   refine Zu ?_
   refine Zb (cK _ _ (Zc (Za rfl rfl (Zd rfl) (Za rfl rfl (Zd rfl) (Zk rfl rfl ?_)))))
   refine Zr (cs := ics) (parts := [(0, .tmp 89)]) (0 : Int) [bk] el30 sz3 zr3 Yl (by decide) rfl rfl rfl (by decide) (by decide) rfl fun en hd ba cR R => ?_
   have ft := R.size
   have E := E.trans R
   obtain ⟨cS, cT, rfl, cU, cg⟩ := ba.opn
   refine Zk rfl rfl ?_
   have eA := aU.ch0 R
   refine Yj (cs := ics) el30 sz3 by3 zr3 rfl (by decide) Xz eA ba.ls rfl rfl (by simp only [List.length_singleton]; omega) (by simp only [List.length_singleton]; omega) b om fun ep cX bb bc Y ad => ?_
   have fu := ad.size
   have E := E.step ad (fun i hi => .inl (by have j := b _ hi; omega))
   obtain ⟨au, av, rfl, cW, aI⟩ := bb.opn
   refine Za rfl rfl (Ze rfl) (Zf (Yc (Zb (dm _ _ (Zc (Za rfl rfl (Zd rfl) (Za rfl rfl (Yq om rfl rfl) (Za rfl rfl (Ze rfl) ?_))))))))
   refine Zf ?_
   have eB := (an.ch0 R).ch ad (fun g hg hm => by exact d _ hm hg)
   have bq : Ol Sv.cs 30 1 cX (.slice Akv (vs).length Ckv) (vs) := by
    have hx := eB
    exact hx
   have br : Ol ics 3 1 cX (.slice au (((rfn (Xp aN (Xq aA (Yn aA aN) aA.length) aA.length c) aN i).2 ++ [bk])).length av) ((rfn (Xp aN (Xq aA (Yn aA aN) aA.length) aA.length c) aN (i + 1)).2) := by
    have hx := bb
    first | exact hx.eq (Zos h om) | exact hx.eq (Ztu h om rfl (Zax hat om (Zaf _ _ _)) om) | exact hx.eq (Zmd h om rfl (Zax hat om (Zaf _ _ _)) om hvl)
   have cj := (ao.ch0 R).chS ad r
   have eC := (am.ch0 R).ch ad (fun hm => by have j := b _ hm; have L := hiov _ hm; omega)
   have eD := (aP.ch0 R).ch ad (fun i hi => by have j := b _ hi; omega)
   have eE := (aQ.ch0 R).ch ad (fun i hi => by have j := b _ hi; omega)
   have eF := (aR.ch0 R).ch ad (fun i hi => by have j := b _ hi; omega)
   have eG := (aT.ch0 R).ch ad (fun g hg hm => by have j := b _ hm; have L := hiov _ hm; have aj := A _ hg; have ak := hicv _ hg; omega)
   exact Zb (Exists.intro ((i + 1), vs, (.slice Akv (vs).length Ckv), (.slice au (((rfn (Xp aN (Xq aA (Yn aA aN) aA.length) aA.length c) aN i).2 ++ [bk])).length av)) ⟨⟨E, om, om, (by first | (rw [Zmo h om]; exact hvl) | (rw [Zqz h om rfl (Zax hat om (Zaf _ _ _)) om]; exact hvl)), eC, eD, eE, eF, eG, bq, (Lo.down f om), br, (Lo.down bc om), (by first | (rw [Zmo h om]; exact cj.up (Nat.le_refl _) om) | (rw [Zqz h om rfl (Zax hat om (Zaf _ _ _)) om]; exact cj.up (Nat.le_refl _) om)), (fun g hm hg => by rcases Y with ea | ea; (rw [ea] at hm; exact d _ hm hg); (have cD := aI _ hm; rw [ea] at hm; have aW := List.mem_singleton.1 hm; have aj := f _ hg; have ak := hikv _ hg; omega)), (fun u hu g hg hm => by exact C _ hu _ hg hm), (fun u hu g hg hm => by rcases Y with ea | ea; (rw [ea] at hm; exact r _ hu _ hg hm); (rw [ea] at hm; have aW := List.mem_singleton.1 hm; have a2 := cj.rng hu hg; omega))⟩, sC4 rfl rfl rfl rfl (sC2 rfl rfl (sC1 rfl (Sub.nil _))), (by first | omega | (dsimp only; omega))⟩)
  have dl := aD
  have aD := Yp aD
  refine Xk (Ya (Ya (Xd ?_)))
  refine Zb (gA _ _ ?_)
  refine Zg fun he cY => ?_
  refine Zg fun hf eH => ?_
  refine Zc (Za rfl rfl (Zd rfl) (Za rfl rfl (Zd rfl) (Zk rfl rfl ?_)))
  refine Step.call (Zl (xs := [.tmp 92, .tmp 93]) fk95 rfl) (Zgr al.ls X.ls ) fun hh cZ eI => ?_
  obtain ⟨rfl, aw⟩ := eI
  have fv := aw.size
  have E := E.trans aw
  refine Za rfl rfl (Xu rfl rfl) (Zf (Zb (eH _ _ ?_)))
  refine Zx rfl (fun ae => ?_) (fun ae => ?_)
  ·have c0 := ae
   have ae := Yo ae
   refine Zg fun hj eJ => ?_
   refine Zc (Za rfl rfl (Zd rfl) (Za rfl rfl (Ze rfl) (Zf (Zb (eJ _ _ ?_)))))
   refine Zs (Zm (Yi (Zm (Zm (Yi (Zm ?_))))))
   clear c8 eZ e3 e7 cY
   have eK := X.ch0 aw
   have ck : Ol ics 3 1 cZ (.slice Acv (Xp aN (Xq aA (Yn aA aN) aA.length) aA.length c).length Ccv) (clsF aN (Xq aA (Yn aA aN) aA.length) aA.length) := by
    have hx := eK
    first | exact hx.eq (Zqd d9 (by have c1 := Zer.1 ae; rw [show i = aA.length by omega] at c1; exact c1)) | exact hx.eq (by rw [show c = aA.length + 1 by omega]; exact Zna d9)
   exact Zi [_] ⟨rfl, trivial⟩ ⟨ck, Lo.down A om, E⟩
  have c0 := ae
  have ae := Yp ae
  refine Zu ?_
  refine Zb (cY _ _ (Zc (Za rfl rfl (Zd rfl) (Za rfl rfl (Ze rfl) (Zf (Yc (Zb (e3 _ _ (Zc ?_)))))))))
  refine Za rfl rfl (Zd rfl) (Za rfl rfl (Yq om rfl rfl) (Za rfl rfl (Ze rfl) (Zf ?_)))
  have eL := al.ch0 aw
  have bs : Ol ics 3 1 cZ (.slice Aov ((rfn (Xp aN (Xq aA (Yn aA aN) aA.length) aA.length c) aN i).2).length Cov) (Xp aN (Xq aA (Yn aA aN) aA.length) aA.length (c + 1)) := by
   have hx := eL
   exact hx.eq (by rw [show i = aA.length by omega]; rfl)
  have eM := V.ch0 aw
  have eN := aL.ch0 aw
  have eO := aM.ch0 aw
  have eP := aO.ch0 aw
  exact Zb (Exists.intro ((c + 1), (.slice Aov ((rfn (Xp aN (Xq aA (Yn aA aN) aA.length) aA.length c) aN i).2).length Cov)) ⟨⟨E, om, om, eM, eN, eO, eP, bs, (Lo.down b om)⟩, sC2 rfl rfl (sC1 rfl (Sub.nil _)), (by first | omega | (dsimp only; omega))⟩)
 have di := aC
 have aC := Yp aC
 refine Xk (Ya (Ya (Xd ?_)))
 refine Zb (eZ _ _ ?_)
 refine Zg fun hk eQ => ?_
 refine Zc (Za rfl rfl (Zd rfl) (Za rfl rfl (Ze rfl) (Zf (Zb (eQ _ _ ?_)))))
 refine Zs ?_
 clear c8 e2
 have cm : Ol ics 3 1 e0 (.slice Acv (Xp aN (Xq aA (Yn aA aN) aA.length) aA.length c).length Ccv) (clsF aN (Xq aA (Yn aA aN) aA.length) aA.length) := by
  have hx := a6
  first | exact hx.eq (Zqd d9 (by have c1 := Zer.1 ae; rw [show i = aA.length by omega] at c1; exact c1)) | exact hx.eq (by rw [show c = aA.length + 1 by omega]; exact Zna d9)
 exact Zi [_] ⟨rfl, trivial⟩ ⟨cm, Lo.down A om, E⟩

/-- spec.l12Minimize -/
theorem Zfl {w : World} (aS : Int) {LL_aA Z : Nat} {K : Value} {aA : List Bool} (u : Ls bcs 1 w LL_aA Z K aA) {LL_saN S : Nat} {D : Value} {saN : List Sv} (l : Ls Sv.cs 1 w LL_saN S D saN) {LR_aN BB_aN : Nat} {aN : List (List Int)} (r : Rd ics 1 w LR_aN BB_aN saN aN) (hv : Yz aS aA aN)  :
 Ctr Try.prog 124 #[(.agg #[(.int .i64 aS), K, D])] w (fun v w' => ∃ (aa : Int) (ab : List Bool) (ac : List (List Int)) (x : Value) (y : Value) (s : List Sv), v = .agg #[.int .i64 aa, x, y] ∧ Ol bcs 4 1 w' x (ab) ∧ Lo w.heap.size x ∧ Ol Sv.cs 30 1 w' y s ∧ Lo w.heap.size y ∧ Od ics 3 1 w' w.heap.size w'.heap.size s (ac) ∧ Sep y s ∧ (∀ g ∈ bl x, g ∉ bl y) ∧ Sep x s ∧ Ch [] w w') := by
 obtain ⟨L, M, T⟩ := u.val
 subst T
 have av := u.len
 have u := u.here (by decide)
 obtain ⟨F, G, J⟩ := l.val
 subst J
 have ao := l.len
 have l := l.here (by decide)
 have r := r.here (by decide)
 have ap := r.1
 have E := Ch.refl [] w
 have a4 := hv.1
 refine Yh (N := 9) (vs0 := [(.agg #[(.int .i64 aS), (.slice L aA.length M), (.slice F saN.length G)])]) Try.func124 rfl rfl rfl ?_
 refine Zg fun K1 H1 => ?_
 refine Zc (Zk rfl rfl ?_)
 refine Xw rfl fun aC W2 ah C2 a5 => ?_
 have a6 := C2.size
 have E := E.trans C2
 have a7 := ah.lt
 replace ah : Blk W2 aC 27 [(.int .i64 aS), (.slice L aA.length M), (.slice F saN.length G)] := ah
 refine Zk rfl rfl ?_
 refine Yr zr27 fun U W3 ai C3 a8 => ?_
 have a9 := C3.size
 have E := E.trans C3
 have ba := ai.lt
 replace ai : Blk W3 U 27 [(.int .i64 0), (.slice none 0 0), (.slice none 0 0)] := ai
 refine Zf (Zb (H1 _ _ ?_))
 refine Zg fun K4 H4 => ?_
 refine Yx [U] 7 mixed rfl fun W5 C5 => ?_
 have bb := C5.size
 have E := E.trans C5
 have F6 := (ah.ch0 C3).ch0 C5
 refine dT 0 rfl rfl rfl (Zn F6.at_ (oS om) agg27 sz27 rfl ?_)
 refine dT 1 rfl rfl rfl (Zn F6.at_ (oS om) agg27 sz27 rfl ?_)
 refine dT 3 rfl rfl rfl (Zn F6.at_ (oS om) agg27 sz27 rfl ?_)
 refine dO 2 (Ye rfl rfl rfl ?_)
 have F7 := ((u.ch0 C2).ch0 C3).ch0 C5
 have F8 := ((r.ch0 C2).ch0 C3).ch0 C5
 have F9 := ((l.ch0 C2).ch0 C3).ch0 C5
 refine Step.call (Zl (xs := [.tmp 4]) fk52 rfl) (Zgb _ F7 F9 F8 hv) fun bc aD aj => ?_
 obtain ⟨aj, aE, V⟩ := aj
 have aF := V.size
 have E := E.trans V
 obtain ⟨aG, aH, rfl, aI, aw⟩ := aj.opn
 have O : Ch [U] W5 aD := ((Ch.refl _ _).trans V.of_nil)
 refine ⟨O, ?_⟩
 refine dO 4 (Ye rfl rfl rfl ?_)
 have ax := F7.ch0 V
 have ay := F8.ch0 V
 have az := F9.ch0 V
 refine Step.call (Zl (xs := [.tmp 6]) fk59 rfl) (Zco _ ax az ay hv) fun be aJ ak => ?_
 obtain ⟨ak, aK, P⟩ := ak
 have aL := P.size
 have E := E.trans P
 obtain ⟨aM, aO, rfl, aP, aB⟩ := ak.opn
 have Q : Ch [U] W5 aJ := (O.trans P.of_nil)
 refine ⟨Q, ?_⟩
 refine dO 5 (Ye rfl rfl rfl ?_)
 have aQ := ax.ch0 P
 have aR := ay.ch0 P
 have aT := az.ch0 P
 have aU := aj.ch0 P
 refine Step.call (Zl (xs := [.tmp 3, .tmp 5, .tmp 7]) fk137 rfl) (Zgy _ aQ aT aR aU.ls ak.ls hv (Zdt _ _) (Zno _ _ _) (fun c hc => by have q := Zut c hc; omega)) fun bf aV aW => ?_
 obtain ⟨A, d, H, aq, au, a, rfl, o, m, p, n, z, t, e, b, al⟩ := aW
 have aX := al.size
 have E := E.trans al
 obtain ⟨f, h, rfl, am, B⟩ := o.opn
 obtain ⟨j, k, rfl, an, C⟩ := p.opn
 have R : Ch [U] W5 aV := (Q.trans al.of_nil)
 refine ⟨R, ?_⟩
 refine dO 6 (Ye rfl rfl rfl ?_)
 have aY := (((ai.ch0 C5).ch0 V).ch0 P).ch0 al
 refine Zy (off := 0) 3 aY sz27 rfl (us := [(.int .i64 A), (.slice f (d).length h), (.slice j (a).length k)]) rfl rfl rfl rfl fun X I Y => ?_
 have aZ := Y.size
 have E := E.step Y (lS om)
 replace I : Blk X U 27 [(.int .i64 A), (.slice f (d).length h), (.slice j (a).length k)] := I
 have ad : Ch [U] W5 X := (R.step Y (fun i hm => by have a0 := List.mem_singleton.1 hm; exact .inr (by rw [a0]; exact (List.mem_singleton.2 rfl))))
 refine ⟨ad, ?_⟩
 refine Yb (by kernel_rfl) ?_
 refine Zb (H4 _ _ ?_)
 refine Zs ?_
 have a1 := o.ch Y (dS m B om)
 have ae : Ol bcs 4 1 X (.slice f (d).length h) (d) := by
  have hx := a1
  first | exact hx | simpa using hx
 have a2 := p.ch Y (dS n C om)
 have a3 := z.ch Y (oS om)
 have af : Ol Sv.cs 30 1 X (.slice j (a).length k) a := by
  have hx := a2
  exact hx
 have ag : Od ics 3 1 X w.heap.size X.heap.size a (H) := by
  have hx := a3.up (lo' := w.heap.size) (hi' := X.heap.size) om om
  exact hx
 exact Zi [_] (Zz I rfl agg27 sz27 trivial) ⟨A, d, H, (.slice f (d).length h), (.slice j (a).length k), a, (congrArg (fun zq => (Value.agg #[.int .i64 zq, (.slice f (d).length h), (.slice j (a).length k)])) (by first | rfl | simp_all)), ae, (Lo.down m om), af, (Lo.down n om), ag, t, (fun g hm hg => by exact e _ hm hg), b, E⟩

/-- spec.Minimize -/
theorem Zif {w : World} (aS : Int) {LL_aA U : Nat} {L : Value} {aA : List Bool} (t : Ls bcs 1 w LL_aA U L aA) {LL_saN R : Nat} {D : Value} {saN : List Sv} (l : Ls Sv.cs 1 w LL_saN R D saN) {LR_aN BB_aN : Nat} {aN : List (List Int)} (q : Rd ics 1 w LR_aN BB_aN saN aN) :
 Ctr Try.prog 97 #[(.agg #[(.int .i64 aS), L, D])] w (fun v w' => ∃ (V : Int) (X : List Bool) (Y : List (List Int)) (x : Value) (y : Value) (r : List Sv), v = .agg #[.int .i64 V, x, y] ∧ Ol bcs 4 1 w' x (X) ∧ Lo w.heap.size x ∧ Ol Sv.cs 30 1 w' y r ∧ Lo w.heap.size y ∧ Od ics 3 1 w' w.heap.size w'.heap.size r (Y) ∧ Sep y r ∧ (∀ g ∈ bl x, g ∉ bl y) ∧ Sep x r ∧ Ch [] w w') := by
 obtain ⟨M, O, S⟩ := t.val
 subst S
 have aq := t.len
 have t := t.here (by decide)
 obtain ⟨F, G, K⟩ := l.val
 subst K
 have ai := l.len
 have l := l.here (by decide)
 have q := q.here (by decide)
 have aj := q.1
 have E := Ch.refl [] w
 refine Yh (N := 9) (vs0 := [(.agg #[(.int .i64 aS), (.slice M aA.length O), (.slice F saN.length G)])]) Try.func97 rfl rfl rfl ?_
 refine Zg fun K1 H1 => ?_
 refine Zc (Zk rfl rfl ?_)
 refine Xw rfl fun av W2 af C2 aP => ?_
 have aQ := C2.size
 have E := E.trans C2
 have aR := af.lt
 replace af : Blk W2 av 27 [(.int .i64 aS), (.slice M aA.length O), (.slice F saN.length G)] := af
 refine Zk rfl rfl ?_
 refine Yr zr27 fun ak W3 Z C3 aT => ?_
 have aU := C3.size
 have E := E.trans C3
 have aV := Z.lt
 replace Z : Blk W3 ak 27 [(.int .i64 0), (.slice none 0 0), (.slice none 0 0)] := Z
 refine Zf (Zb (H1 _ _ ?_))
 refine Zg fun K4 H4 => ?_
 refine Zg fun K5 H5 => ?_
 refine Zc ?_
 have F6 := af.ch0 C3
 refine Za rfl rfl (Zt F6.at_ agg27 sz27 rfl) (Zk rfl rfl ?_)
 have F7 := (t.ch0 C2).ch0 C3
 have F8 := (q.ch0 C2).ch0 C3
 have F9 := (l.ch0 C2).ch0 C3
 refine Step.call (Zl (xs := [.tmp 3]) fk13 rfl) (Yw _ F7 F9 F8 ) fun aW aX aw => ?_
 obtain ⟨rfl, P⟩ := aw
 have ax := P.size
 have E := E.trans P
 refine Za rfl rfl (Xi rfl) (Zf (Zb (H5 _ _ ?_)))
 refine Zx rfl (fun Q => ?_) (fun Q => ?_)
 ·have al := Q
  have Q := bf_t (Qf Q)
  refine Zg fun aY ay => ?_
  refine Zc (Za rfl rfl (Yt (parts := []) (cells := [(.int .i64 0), (.slice none 0 0), (.slice none 0 0)]) zr27 pl27 rfl rfl) (Zk rfl rfl ?_))
  have az := Z.ch0 P
  refine Zy (off := 0) 3 az sz27 rfl (us := [(.int .i64 0), (.slice none 0 0), (.slice none 0 0)]) rfl rfl rfl rfl fun am H au => ?_
  have aB := au.size
  have E := E.step au (lS om)
  replace H : Blk am ak 27 [(.int .i64 0), (.slice none 0 0), (.slice none 0 0)] := H
  refine Zf (Zb (ay _ _ ?_))
  refine Zs (Zm ?_)
  have aa : Ol bcs 4 1 am (.slice none 0 0) (([] : List Bool)) := by
   have hx := Ol.nil (cs := bcs) (e := 4) (k := 1) am
   first | exact hx | simpa using hx
  exact Zi [_] (Zz H rfl agg27 sz27 trivial) ⟨0, ([] : List Bool), ([] : List (List Int)), (.slice none 0 0), (.slice none 0 0), [], (congrArg (fun zq => (Value.agg #[.int .i64 zq, (.slice none 0 0), (.slice none 0 0)])) (by first | rfl | simp_all)), aa, (Lo.nil _), (Ol.nil _), (Lo.nil _), Od.nil, (fun u hu => by cases hu), (fun g hm hg => by cases hm), (fun u hu => by cases hu), E⟩
 have al := Q
 have Q := bt_t (Qg Q)
 refine Zu ?_
 refine Zb (H4 _ _ ?_)
 refine Zg fun aZ aC => ?_
 refine Zc ?_
 have aD := F6.ch0 P
 refine Za rfl rfl (Zt aD.at_ agg27 sz27 rfl) (Zk rfl rfl ?_)
 have aE := F7.ch0 P
 have aF := F8.ch0 P
 have aG := F9.ch0 P
 refine Step.call (Zl (xs := [.tmp 7]) fk124 rfl) (Zfl _ aE aG aF Q) fun a0 a1 aH => ?_
 obtain ⟨A, c, I, an, ao, a, rfl, o, m, p, n, z, s, d, b, ap⟩ := aH
 have aI := ap.size
 have E := E.trans ap
 obtain ⟨f, h, rfl, ag, B⟩ := o.opn
 obtain ⟨i, j, rfl, ah, C⟩ := p.opn
 refine Zk rfl rfl ?_
 have aJ := (Z.ch0 P).ch0 ap
 refine Zy (off := 0) 3 aJ sz27 rfl (us := [(.int .i64 A), (.slice f (c).length h), (.slice i (a).length j)]) rfl rfl rfl rfl fun T J ab => ?_
 have aK := ab.size
 have E := E.step ab (lS om)
 replace J : Blk T ak 27 [(.int .i64 A), (.slice f (c).length h), (.slice i (a).length j)] := J
 refine Zf (Zb (aC _ _ ?_))
 refine Zs ?_
 have aL := o.ch ab (dS m B om)
 have ac : Ol bcs 4 1 T (.slice f (c).length h) (c) := by
  have hx := aL
  first | exact hx | simpa using hx
 have aM := p.ch ab (dS n C om)
 have aO := z.ch ab (oS om)
 have ad : Ol Sv.cs 30 1 T (.slice i (a).length j) a := by
  have hx := aM
  exact hx
 have ae : Od ics 3 1 T w.heap.size T.heap.size a (I) := by
  have hx := aO.up (lo' := w.heap.size) (hi' := T.heap.size) om om
  exact hx
 exact Zi [_] (Zz J rfl agg27 sz27 trivial) ⟨A, c, I, (.slice f (c).length h), (.slice i (a).length j), a, (congrArg (fun zq => (Value.agg #[.int .i64 zq, (.slice f (c).length h), (.slice i (a).length j)])) (by first | rfl | simp_all)), ac, (Lo.down m om), ad, (Lo.down n om), ae, s, (fun g hm hg => by exact d _ hm hg), b, E⟩

/-- spec.l8Arity -/
theorem Zen {w : World} (t : Token) :
 Ctr Try.prog 113 #[(.agg #[(.int .i64 t.kind), (.int .i64 t.letter), (.int .i64 t.low), (.int .i64 t.high)])] w (fun v w' => v = .int .i64 (arT t) ∧ Ch [] w w') := by
 have E := Ch.refl [] w
 refine Yh (N := 87) (vs0 := [(.agg #[(.int .i64 t.kind), (.int .i64 t.letter), (.int .i64 t.low), (.int .i64 t.high)])]) Try.func113 rfl rfl rfl ?_
 refine Zg fun K1 H1 => ?_
 refine Zc (Zk rfl rfl ?_)
 refine Xw rfl fun aC W2 i C2 bh => ?_
 have bi := C2.size
 have E := E.trans C2
 have bj := i.lt
 replace i : Blk W2 aC 84 [(.int .i64 t.kind), (.int .i64 t.letter), (.int .i64 t.low), (.int .i64 t.high)] := i
 refine Za rfl rfl (Ze rfl) (Zf (Zb (H1 _ _ ?_)))
 refine Zg fun K3 H3 => ?_
 refine Zg fun K4 H4 => ?_
 refine Zc (Za rfl rfl (Zh fa84_0 rfl) (Za rfl rfl (Zp i.at_ agg3 rfl rfl) (Zf (Zb (H4 _ _ ?_)))))
 refine Yf ?_
 refine Zg fun K5 H5 => ?_
 refine Zg fun K6 H6 => ?_
 refine Zc (Za rfl rfl (Xu rfl rfl) (Za rfl rfl (Ze rfl) (Zf (Zb (H6 _ _ ?_)))))
 refine Zx rfl (fun j => ?_) (fun j => ?_)
 ·have ax := j
  have j := Yo j
  refine Zu ?_
  refine Zb (H5 _ _ ?_)
  refine Zcy rfl ax ?_
  refine Zg fun K8 H8 => ?_
  refine Zg fun K9 H9 => ?_
  refine Zc (Za rfl rfl (Zh fa84_1 rfl) (Za rfl rfl (Zp i.at_ agg3 rfl rfl) (Za rfl rfl (Zbb rfl rfl) (Za rfl rfl (Zd rfl) ?_))))
  refine Ym (d := 11) rfl (fun a => ?_) (fun a => ?_)
  ·have H := a
   have a := Yp (Qf a)
   refine Zj rfl rfl (Zj rfl rfl (Zj rfl rfl (Za rfl rfl (Zw rfl rfl) (Za rfl rfl (Zd rfl) (Zj rfl rfl (Zj rfl rfl (Zj rfl rfl ?_)))))))
   refine Za rfl rfl (Zw rfl rfl) (Zf (Zb (H9 _ _ ?_)))
   refine Xl rfl ?_
   refine Zg fun bk aD => ?_
   refine Zc (Za rfl rfl (Ze rfl) (Zf (Zb (aD _ _ ?_))))
   refine Zs (Zm (Yi (Zm ?_)))
   clear H3 H8
   exact Zi [_] ⟨rfl, trivial⟩ ⟨congrArg (Value.int .i64) (by unfold arT; repeat (first | rw [if_pos om] | rw [if_neg om])), E⟩
  have H := a
  have a := Yo (Qg a)
  refine Za rfl rfl (Zh fa84_2 rfl) (Za rfl rfl (Zp i.at_ agg3 rfl rfl) (Za rfl rfl (Zbb rfl rfl) (Za rfl rfl (Zv rfl rfl) (Za rfl rfl (Zd rfl) ?_))))
  refine Ym (d := 16) rfl (fun b => ?_) (fun b => ?_)
  ·have I := b
   have b := Yp (Qf b)
   refine Zj rfl rfl (Zj rfl rfl (Zj rfl rfl (Za rfl rfl (Zw rfl rfl) (Zf (Zb (H9 _ _ ?_))))))
   refine Xl rfl ?_
   refine Zg fun bm aE => ?_
   refine Zc (Za rfl rfl (Ze rfl) (Zf (Zb (aE _ _ ?_))))
   refine Zs (Zm (Yi (Zm ?_)))
   clear H3 H8
   exact Zi [_] ⟨rfl, trivial⟩ ⟨congrArg (Value.int .i64) (by unfold arT; repeat (first | rw [if_pos om] | rw [if_neg om])), E⟩
  have I := b
  have b := Yo (Qg b)
  refine Za rfl rfl (Zh fa84_3 rfl) (Za rfl rfl (Zp i.at_ agg3 rfl rfl) (Za rfl rfl (Zbb rfl rfl) (Za rfl rfl (Zv rfl rfl) (Zf (Zb (H9 _ _ ?_))))))
  refine Zx rfl (fun c => ?_) (fun c => ?_)
  ·have J := c
   have c := Yp (Qf c)
   refine Zg fun bn aF => ?_
   refine Zc (Za rfl rfl (Ze rfl) (Zf (Zb (aF _ _ ?_))))
   refine Zs (Zm (Yi (Zm ?_)))
   clear H3 H8
   exact Zi [_] ⟨rfl, trivial⟩ ⟨congrArg (Value.int .i64) (by unfold arT; repeat (first | rw [if_pos om] | rw [if_neg om])), E⟩
  have J := c
  have c := Yo (Qg c)
  refine Zu ?_
  refine Zb (H8 _ _ ?_)
  refine Zg fun bp aG => ?_
  refine Zc (Za rfl rfl (Ze rfl) (Zf (Zb (aG _ _ ?_))))
  refine Zs (Yi (Zm ?_))
  exact Zi [_] ⟨rfl, trivial⟩ ⟨congrArg (Value.int .i64) (by unfold arT; repeat (first | rw [if_pos om] | rw [if_neg om])), E⟩
 have ax := j
 have j := Yp j
 refine Zc (Za rfl rfl (Xu rfl rfl) (Za rfl rfl (Ze rfl) (Zf (Zb (H5 _ _ ?_)))))
 refine Zx rfl (fun j => ?_) (fun j => ?_)
 ·have K := j
  have j := Yo j
  refine Zg fun bq A => ?_
  refine Zg fun br L => ?_
  refine Zc (Za rfl rfl (Zh fa84_1 rfl) (Za rfl rfl (Zp i.at_ agg3 rfl rfl) (Za rfl rfl (Zbb rfl rfl) (Za rfl rfl (Zd rfl) ?_))))
  refine Ym (d := 11) rfl (fun a => ?_) (fun a => ?_)
  ·have M := a
   have a := Yp (Qf a)
   refine Zj rfl rfl (Zj rfl rfl (Zj rfl rfl (Za rfl rfl (Zw rfl rfl) (Za rfl rfl (Zd rfl) (Zj rfl rfl (Zj rfl rfl (Zj rfl rfl ?_)))))))
   refine Za rfl rfl (Zw rfl rfl) (Zf (Zb (L _ _ ?_)))
   refine Xl rfl ?_
   refine Zg fun bs aH => ?_
   refine Zc (Za rfl rfl (Ze rfl) (Zf (Zb (aH _ _ ?_))))
   refine Zs (Zm (Yi (Zm ?_)))
   clear H3 A
   exact Zi [_] ⟨rfl, trivial⟩ ⟨congrArg (Value.int .i64) (by unfold arT; repeat (first | rw [if_pos om] | rw [if_neg om])), E⟩
  have M := a
  have a := Yo (Qg a)
  refine Za rfl rfl (Zh fa84_2 rfl) (Za rfl rfl (Zp i.at_ agg3 rfl rfl) (Za rfl rfl (Zbb rfl rfl) (Za rfl rfl (Zv rfl rfl) (Za rfl rfl (Zd rfl) ?_))))
  refine Ym (d := 16) rfl (fun b => ?_) (fun b => ?_)
  ·have O := b
   have b := Yp (Qf b)
   refine Zj rfl rfl (Zj rfl rfl (Zj rfl rfl (Za rfl rfl (Zw rfl rfl) (Zf (Zb (L _ _ ?_))))))
   refine Xl rfl ?_
   refine Zg fun bu aI => ?_
   refine Zc (Za rfl rfl (Ze rfl) (Zf (Zb (aI _ _ ?_))))
   refine Zs (Zm (Yi (Zm ?_)))
   clear H3 A
   exact Zi [_] ⟨rfl, trivial⟩ ⟨congrArg (Value.int .i64) (by unfold arT; repeat (first | rw [if_pos om] | rw [if_neg om])), E⟩
  have O := b
  have b := Yo (Qg b)
  refine Za rfl rfl (Zh fa84_3 rfl) (Za rfl rfl (Zp i.at_ agg3 rfl rfl) (Za rfl rfl (Zbb rfl rfl) (Za rfl rfl (Zv rfl rfl) (Zf (Zb (L _ _ ?_))))))
  refine Zx rfl (fun c => ?_) (fun c => ?_)
  ·have P := c
   have c := Yp (Qf c)
   refine Zg fun bv aJ => ?_
   refine Zc (Za rfl rfl (Ze rfl) (Zf (Zb (aJ _ _ ?_))))
   refine Zs (Zm (Yi (Zm ?_)))
   clear H3 A
   exact Zi [_] ⟨rfl, trivial⟩ ⟨congrArg (Value.int .i64) (by unfold arT; repeat (first | rw [if_pos om] | rw [if_neg om])), E⟩
  have P := c
  have c := Yo (Qg c)
  refine Zu ?_
  refine Zb (A _ _ ?_)
  refine Zg fun bw aK => ?_
  refine Zc (Za rfl rfl (Ze rfl) (Zf (Zb (aK _ _ ?_))))
  refine Zs (Yi (Zm ?_))
  exact Zi [_] ⟨rfl, trivial⟩ ⟨congrArg (Value.int .i64) (by unfold arT; repeat (first | rw [if_pos om] | rw [if_neg om])), E⟩
 have K := j
 have j := Yp j
 refine Zg fun bz aL => ?_
 refine Zc (Za rfl rfl (Xu rfl rfl) (Za rfl rfl (Ze rfl) (Zf (Zb (aL _ _ ?_)))))
 refine Zx rfl (fun k => ?_) (fun k => ?_)
 ·have Q := k
  have k := Yo k
  refine Zg fun bA B => ?_
  refine Zg fun bB R => ?_
  refine Zc (Za rfl rfl (Zh fa84_1 rfl) (Za rfl rfl (Zp i.at_ agg3 rfl rfl) (Zk rfl rfl ?_)))
  refine Step.call (Zl (xs := [.tmp 24]) fk75 rfl) (Zcc _ ) fun aM bC S => ?_
  obtain ⟨rfl, T⟩ := S
  have aN := T.size
  have E := E.trans T
  refine Za rfl rfl (Xi rfl) (Za rfl rfl (Zd rfl) ?_)
  refine Ym (d := 27) rfl (fun l => ?_) (fun l => ?_)
  ·have U := l
   have l := Yp (Qf l)
   refine Zj rfl rfl (Zj rfl rfl (Zj rfl rfl (Za rfl rfl (Zw rfl rfl) (Za rfl rfl (Zd rfl) (Zj rfl rfl (Zj rfl rfl (Zj rfl rfl ?_)))))))
   refine Za rfl rfl (Zw rfl rfl) (Zf (Zb (R _ _ ?_)))
   refine Xl rfl ?_
   refine Zg fun bD aO => ?_
   refine Zc (Za rfl rfl (Ze rfl) (Zf (Zb (aO _ _ ?_))))
   refine Zs (Zm (Yi (Zm ?_)))
   clear H3 B
   exact Zi [_] ⟨rfl, trivial⟩ ⟨congrArg (Value.int .i64) (by unfold arT; repeat (first | rw [if_pos om] | rw [if_neg om])), E⟩
  have U := l
  have l := Yo (Qg l)
  refine Za rfl rfl (Zh fa84_2 rfl) ?_
  have ay := i.ch0 T
  refine Za rfl rfl (Zp ay.at_ agg3 rfl rfl) (Za rfl rfl (Zbb rfl rfl) (Za rfl rfl (Zv rfl rfl) (Za rfl rfl (Zd rfl) ?_)))
  refine Ym (d := 32) rfl (fun m => ?_) (fun m => ?_)
  ·have V := m
   have m := Yp (Qf m)
   refine Zj rfl rfl (Zj rfl rfl (Zj rfl rfl (Za rfl rfl (Zw rfl rfl) (Zf (Zb (R _ _ ?_))))))
   refine Xl rfl ?_
   refine Zg fun bF aP => ?_
   refine Zc (Za rfl rfl (Ze rfl) (Zf (Zb (aP _ _ ?_))))
   refine Zs (Zm (Yi (Zm ?_)))
   clear H3 B
   exact Zi [_] ⟨rfl, trivial⟩ ⟨congrArg (Value.int .i64) (by unfold arT; repeat (first | rw [if_pos om] | rw [if_neg om])), E⟩
  have V := m
  have m := Yo (Qg m)
  refine Za rfl rfl (Zh fa84_3 rfl) (Za rfl rfl (Zp ay.at_ agg3 rfl rfl) (Za rfl rfl (Zbb rfl rfl) (Za rfl rfl (Zv rfl rfl) (Zf (Zb (R _ _ ?_))))))
  refine Zx rfl (fun n => ?_) (fun n => ?_)
  ·have X := n
   have n := Yp (Qf n)
   refine Zg fun bG aQ => ?_
   refine Zc (Za rfl rfl (Ze rfl) (Zf (Zb (aQ _ _ ?_))))
   refine Zs (Zm (Yi (Zm ?_)))
   clear H3 B
   exact Zi [_] ⟨rfl, trivial⟩ ⟨congrArg (Value.int .i64) (by unfold arT; repeat (first | rw [if_pos om] | rw [if_neg om])), E⟩
  have X := n
  have n := Yo (Qg n)
  refine Zu ?_
  refine Zb (B _ _ ?_)
  refine Zg fun bH aR => ?_
  refine Zc (Za rfl rfl (Ze rfl) (Zf (Zb (aR _ _ ?_))))
  refine Zs (Yi (Zm ?_))
  exact Zi [_] ⟨rfl, trivial⟩ ⟨congrArg (Value.int .i64) (by unfold arT; repeat (first | rw [if_pos om] | rw [if_neg om])), E⟩
 have Q := k
 have k := Yp k
 refine Zg fun bI az => ?_
 refine Zg fun bJ aS => ?_
 refine Zc (Za rfl rfl (Xu rfl rfl) (Za rfl rfl (Ze rfl) (Zf (Zb (aS _ _ ?_)))))
 refine Zx rfl (fun e => ?_) (fun e => ?_)
 ·have z := e
  have e := Yo e
  refine Zu ?_
  refine Zb (az _ _ ?_)
  refine Zcy rfl z ?_
  refine Zg fun bK C => ?_
  refine Zg fun bL Y => ?_
  refine Zc (Za rfl rfl (Zh fa84_1 rfl) (Za rfl rfl (Zp i.at_ agg3 rfl rfl) (Za rfl rfl (Zbb rfl rfl) (Za rfl rfl (Zd rfl) ?_))))
  refine Ym (d := 43) rfl (fun f => ?_) (fun f => ?_)
  ·have Z := f
   have f := Yp (Qf f)
   refine Zj rfl rfl (Zj rfl rfl (Zj rfl rfl (Za rfl rfl (Zw rfl rfl) (Za rfl rfl (Zd rfl) (Zj rfl rfl (Zj rfl rfl (Zj rfl rfl ?_)))))))
   refine Za rfl rfl (Zw rfl rfl) (Zf (Zb (Y _ _ ?_)))
   refine Xl rfl ?_
   refine Zg fun bM aT => ?_
   refine Zc (Za rfl rfl (Ze rfl) (Zf (Zb (aT _ _ ?_))))
   refine Zs (Zm (Yi (Zm ?_)))
   clear H3 C
   exact Zi [_] ⟨rfl, trivial⟩ ⟨congrArg (Value.int .i64) (by unfold arT; repeat (first | rw [if_pos om] | rw [if_neg om])), E⟩
  have Z := f
  have f := Yo (Qg f)
  refine Za rfl rfl (Zh fa84_2 rfl) (Za rfl rfl (Zp i.at_ agg3 rfl rfl) (Za rfl rfl (Zbb rfl rfl) (Za rfl rfl (Zv rfl rfl) (Za rfl rfl (Zd rfl) ?_))))
  refine Ym (d := 48) rfl (fun g => ?_) (fun g => ?_)
  ·have aa := g
   have g := Yp (Qf g)
   refine Zj rfl rfl (Zj rfl rfl (Zj rfl rfl (Za rfl rfl (Zw rfl rfl) (Zf (Zb (Y _ _ ?_))))))
   refine Xl rfl ?_
   refine Zg fun bN aU => ?_
   refine Zc (Za rfl rfl (Ze rfl) (Zf (Zb (aU _ _ ?_))))
   refine Zs (Zm (Yi (Zm ?_)))
   clear H3 C
   exact Zi [_] ⟨rfl, trivial⟩ ⟨congrArg (Value.int .i64) (by unfold arT; repeat (first | rw [if_pos om] | rw [if_neg om])), E⟩
  have aa := g
  have g := Yo (Qg g)
  refine Za rfl rfl (Zh fa84_3 rfl) (Za rfl rfl (Zp i.at_ agg3 rfl rfl) (Za rfl rfl (Zbb rfl rfl) (Za rfl rfl (Zv rfl rfl) (Zf (Zb (Y _ _ ?_))))))
  refine Zx rfl (fun h => ?_) (fun h => ?_)
  ·have ab := h
   have h := Yp (Qf h)
   refine Zg fun bO aV => ?_
   refine Zc (Za rfl rfl (Ze rfl) (Zf (Zb (aV _ _ ?_))))
   refine Zs (Zm (Yi (Zm ?_)))
   clear H3 C
   exact Zi [_] ⟨rfl, trivial⟩ ⟨congrArg (Value.int .i64) (by unfold arT; repeat (first | rw [if_pos om] | rw [if_neg om])), E⟩
  have ab := h
  have h := Yo (Qg h)
  refine Zu ?_
  refine Zb (C _ _ ?_)
  refine Zg fun bP aW => ?_
  refine Zc (Za rfl rfl (Ze rfl) (Zf (Zb (aW _ _ ?_))))
  refine Zs (Yi (Zm ?_))
  exact Zi [_] ⟨rfl, trivial⟩ ⟨congrArg (Value.int .i64) (by unfold arT; repeat (first | rw [if_pos om] | rw [if_neg om])), E⟩
 have z := e
 have e := Yp e
 refine Zc (Za rfl rfl (Xu rfl rfl) (Za rfl rfl (Ze rfl) (Zf (Zb (az _ _ ?_)))))
 refine Zx rfl (fun e => ?_) (fun e => ?_)
 ·have ac := e
  have e := Yo e
  refine Zg fun bQ D => ?_
  refine Zg fun bR ad => ?_
  refine Zc (Za rfl rfl (Zh fa84_1 rfl) (Za rfl rfl (Zp i.at_ agg3 rfl rfl) (Za rfl rfl (Zbb rfl rfl) (Za rfl rfl (Zd rfl) ?_))))
  refine Ym (d := 43) rfl (fun f => ?_) (fun f => ?_)
  ·have ae := f
   have f := Yp (Qf f)
   refine Zj rfl rfl (Zj rfl rfl (Zj rfl rfl (Za rfl rfl (Zw rfl rfl) (Za rfl rfl (Zd rfl) (Zj rfl rfl (Zj rfl rfl (Zj rfl rfl ?_)))))))
   refine Za rfl rfl (Zw rfl rfl) (Zf (Zb (ad _ _ ?_)))
   refine Xl rfl ?_
   refine Zg fun bS aX => ?_
   refine Zc (Za rfl rfl (Ze rfl) (Zf (Zb (aX _ _ ?_))))
   refine Zs (Zm (Yi (Zm ?_)))
   clear H3 D
   exact Zi [_] ⟨rfl, trivial⟩ ⟨congrArg (Value.int .i64) (by unfold arT; repeat (first | rw [if_pos om] | rw [if_neg om])), E⟩
  have ae := f
  have f := Yo (Qg f)
  refine Za rfl rfl (Zh fa84_2 rfl) (Za rfl rfl (Zp i.at_ agg3 rfl rfl) (Za rfl rfl (Zbb rfl rfl) (Za rfl rfl (Zv rfl rfl) (Za rfl rfl (Zd rfl) ?_))))
  refine Ym (d := 48) rfl (fun g => ?_) (fun g => ?_)
  ·have af := g
   have g := Yp (Qf g)
   refine Zj rfl rfl (Zj rfl rfl (Zj rfl rfl (Za rfl rfl (Zw rfl rfl) (Zf (Zb (ad _ _ ?_))))))
   refine Xl rfl ?_
   refine Zg fun bT aY => ?_
   refine Zc (Za rfl rfl (Ze rfl) (Zf (Zb (aY _ _ ?_))))
   refine Zs (Zm (Yi (Zm ?_)))
   clear H3 D
   exact Zi [_] ⟨rfl, trivial⟩ ⟨congrArg (Value.int .i64) (by unfold arT; repeat (first | rw [if_pos om] | rw [if_neg om])), E⟩
  have af := g
  have g := Yo (Qg g)
  refine Za rfl rfl (Zh fa84_3 rfl) (Za rfl rfl (Zp i.at_ agg3 rfl rfl) (Za rfl rfl (Zbb rfl rfl) (Za rfl rfl (Zv rfl rfl) (Zf (Zb (ad _ _ ?_))))))
  refine Zx rfl (fun h => ?_) (fun h => ?_)
  ·have ag := h
   have h := Yp (Qf h)
   refine Zg fun bU aZ => ?_
   refine Zc (Za rfl rfl (Ze rfl) (Zf (Zb (aZ _ _ ?_))))
   refine Zs (Zm (Yi (Zm ?_)))
   clear H3 D
   exact Zi [_] ⟨rfl, trivial⟩ ⟨congrArg (Value.int .i64) (by unfold arT; repeat (first | rw [if_pos om] | rw [if_neg om])), E⟩
  have ag := h
  have h := Yo (Qg h)
  refine Zu ?_
  refine Zb (D _ _ ?_)
  refine Zg fun bV a0 => ?_
  refine Zc (Za rfl rfl (Ze rfl) (Zf (Zb (a0 _ _ ?_))))
  refine Zs (Yi (Zm ?_))
  exact Zi [_] ⟨rfl, trivial⟩ ⟨congrArg (Value.int .i64) (by unfold arT; repeat (first | rw [if_pos om] | rw [if_neg om])), E⟩
 have ac := e
 have e := Yp e
 refine Zg fun bW a1 => ?_
 refine Zc (Za rfl rfl (Xu rfl rfl) (Za rfl rfl (Ze rfl) (Zf (Zb (a1 _ _ ?_)))))
 refine Zx rfl (fun o => ?_) (fun o => ?_)
 ·have ah := o
  have o := Yo o
  refine Zg fun bX F => ?_
  refine Zg fun bY ai => ?_
  refine Zc (Za rfl rfl (Zh fa84_1 rfl) (Za rfl rfl (Zp i.at_ agg3 rfl rfl) (Za rfl rfl (Zbb rfl rfl) (Za rfl rfl (Zd rfl) ?_))))
  refine Ym (d := 58) rfl (fun p => ?_) (fun p => ?_)
  ·have aj := p
   have p := Yp (Qf p)
   refine Zj rfl rfl (Zj rfl rfl (Zj rfl rfl (Za rfl rfl (Zw rfl rfl) (Za rfl rfl (Zd rfl) (Zj rfl rfl (Zj rfl rfl (Zj rfl rfl ?_)))))))
   refine Za rfl rfl (Zw rfl rfl) (Zf (Zb (ai _ _ ?_)))
   refine Xl rfl ?_
   refine Zg fun bZ a2 => ?_
   refine Zc (Za rfl rfl (Ze rfl) (Zf (Zb (a2 _ _ ?_))))
   refine Zs (Zm (Yi (Zm ?_)))
   clear H3 F
   exact Zi [_] ⟨rfl, trivial⟩ ⟨congrArg (Value.int .i64) (by unfold arT; repeat (first | rw [if_pos om] | rw [if_neg om])), E⟩
  have aj := p
  have p := Yo (Qg p)
  refine Za rfl rfl (Zh fa84_2 rfl) (Za rfl rfl (Zp i.at_ agg3 rfl rfl) (Za rfl rfl (Zbb rfl rfl) (Za rfl rfl (Zv rfl rfl) (Za rfl rfl (Zd rfl) ?_))))
  refine Ym (d := 63) rfl (fun q => ?_) (fun q => ?_)
  ·have ak := q
   have q := Yp (Qf q)
   refine Zj rfl rfl (Zj rfl rfl (Zj rfl rfl (Za rfl rfl (Zw rfl rfl) (Zf (Zb (ai _ _ ?_))))))
   refine Xl rfl ?_
   refine Zg fun b0 a3 => ?_
   refine Zc (Za rfl rfl (Ze rfl) (Zf (Zb (a3 _ _ ?_))))
   refine Zs (Zm (Yi (Zm ?_)))
   clear H3 F
   exact Zi [_] ⟨rfl, trivial⟩ ⟨congrArg (Value.int .i64) (by unfold arT; repeat (first | rw [if_pos om] | rw [if_neg om])), E⟩
  have ak := q
  have q := Yo (Qg q)
  refine Za rfl rfl (Zh fa84_3 rfl) (Za rfl rfl (Zp i.at_ agg3 rfl rfl) (Za rfl rfl (Zbb rfl rfl) (Za rfl rfl (Zv rfl rfl) (Zf (Zb (ai _ _ ?_))))))
  refine Zx rfl (fun r => ?_) (fun r => ?_)
  ·have al := r
   have r := Yp (Qf r)
   refine Zg fun b1 a4 => ?_
   refine Zc (Za rfl rfl (Ze rfl) (Zf (Zb (a4 _ _ ?_))))
   refine Zs (Zm (Yi (Zm ?_)))
   clear H3 F
   exact Zi [_] ⟨rfl, trivial⟩ ⟨congrArg (Value.int .i64) (by unfold arT; repeat (first | rw [if_pos om] | rw [if_neg om])), E⟩
  have al := r
  have r := Yo (Qg r)
  refine Zu ?_
  refine Zb (F _ _ ?_)
  refine Zg fun b2 a5 => ?_
  refine Zc (Za rfl rfl (Ze rfl) (Zf (Zb (a5 _ _ ?_))))
  refine Zs (Yi (Zm ?_))
  exact Zi [_] ⟨rfl, trivial⟩ ⟨congrArg (Value.int .i64) (by unfold arT; repeat (first | rw [if_pos om] | rw [if_neg om])), E⟩
 have ah := o
 have o := Yp o
 refine Zg fun b3 a6 => ?_
 refine Zc (Za rfl rfl (Xu rfl rfl) (Za rfl rfl (Ze rfl) (Zf (Zb (a6 _ _ ?_)))))
 refine Zx rfl (fun s => ?_) (fun s => ?_)
 ·have am := s
  have s := Yo s
  refine Zg fun b4 G => ?_
  refine Zg fun b5 an => ?_
  refine Zc (Za rfl rfl (Zh fa84_1 rfl) (Za rfl rfl (Zp i.at_ agg3 rfl rfl) (Za rfl rfl (Zbb rfl rfl) (Za rfl rfl (Zd rfl) ?_))))
  refine Ym (d := 73) rfl (fun u => ?_) (fun u => ?_)
  ·have ao := u
   have u := Yp (Qf u)
   refine Zj rfl rfl (Zj rfl rfl (Zj rfl rfl (Zj rfl rfl (Za rfl rfl (Zw rfl rfl) (Za rfl rfl (Zd rfl) (Zj rfl rfl (Zj rfl rfl ?_)))))))
   refine Zj rfl rfl (Zj rfl rfl (Zj rfl rfl (Zj rfl rfl (Za rfl rfl (Zw rfl rfl) (Zf (Zb (an _ _ ?_)))))))
   refine Xl rfl ?_
   refine Zg fun b6 a7 => ?_
   refine Zc (Za rfl rfl (Ze rfl) (Zf (Zb (a7 _ _ ?_))))
   refine Zs (Zm (Yi (Zm ?_)))
   clear H3 G
   exact Zi [_] ⟨rfl, trivial⟩ ⟨congrArg (Value.int .i64) (by unfold arT; repeat (first | rw [if_pos om] | rw [if_neg om])), E⟩
  have ao := u
  have u := Yo (Qg u)
  refine Za rfl rfl (Zh fa84_3 rfl) (Za rfl rfl (Zp i.at_ agg3 rfl rfl) (Zk rfl rfl ?_))
  refine Step.call (Zl (xs := [.tmp 75, .const (Go.Value.int Go.IntKind.i64 1), .const (Go.Value.int Go.IntKind.i64 3)]) fk49 rfl) (Zcb _ _ _ ) fun a8 b7 ap => ?_
  obtain ⟨rfl, aq⟩ := ap
  have a9 := aq.size
  have E := E.trans aq
  refine Za rfl rfl (Xi rfl) (Za rfl rfl (Zv rfl rfl) (Za rfl rfl (Zd rfl) ?_))
  refine Ym (d := 79) rfl (fun x => ?_) (fun x => ?_)
  ·have au := x
   have x := Yp (Qf x)
   refine Zj rfl rfl (Zj rfl rfl (Zj rfl rfl (Zj rfl rfl (Zj rfl rfl (Zj rfl rfl (Za rfl rfl (Zw rfl rfl) (Zf ?_)))))))
   refine Zb (an _ _ ?_)
   refine Xl rfl ?_
   refine Zg fun b8 ba => ?_
   refine Zc (Za rfl rfl (Ze rfl) (Zf (Zb (ba _ _ ?_))))
   refine Zs (Zm (Yi (Zm ?_)))
   clear H3 G
   exact Zi [_] ⟨rfl, trivial⟩ ⟨congrArg (Value.int .i64) (by unfold arT; repeat (first | rw [if_pos om] | rw [if_neg om])), E⟩
  have au := x
  have x := Yo (Qg x)
  refine Za rfl rfl (Zh fa84_2 rfl) ?_
  have aA := i.ch0 aq
  refine Za rfl rfl (Zp aA.at_ agg3 rfl rfl) (Za rfl rfl (Zh fa84_3 rfl) (Za rfl rfl (Zp aA.at_ agg3 rfl rfl) (Zk rfl rfl ?_)))
  refine Step.call (Zl (xs := [.tmp 81, .const (Go.Value.int Go.IntKind.i64 0), .tmp 83]) fk49 rfl) (Zcb _ _ _ ) fun bb b9 av => ?_
  obtain ⟨rfl, aB⟩ := av
  have bc := aB.size
  have E := E.trans aB
  refine Za rfl rfl (Xi rfl) (Za rfl rfl (Zv rfl rfl) (Zf (Zb (an _ _ ?_))))
  refine Zx rfl (fun y => ?_) (fun y => ?_)
  ·have aw := y
   have y := Yp (Qf y)
   refine Zg fun ca be => ?_
   refine Zc (Za rfl rfl (Ze rfl) (Zf (Zb (be _ _ ?_))))
   refine Zs (Zm (Yi (Zm ?_)))
   clear H3 G
   exact Zi [_] ⟨rfl, trivial⟩ ⟨congrArg (Value.int .i64) (by unfold arT; repeat (first | rw [if_pos om] | rw [if_neg om])), E⟩
  have aw := y
  have y := Yo (Qg y)
  refine Zu ?_
  refine Zb (G _ _ ?_)
  refine Zg fun cb bf => ?_
  refine Zc (Za rfl rfl (Ze rfl) (Zf (Zb (bf _ _ ?_))))
  refine Zs (Yi (Zm ?_))
  exact Zi [_] ⟨rfl, trivial⟩ ⟨congrArg (Value.int .i64) (by unfold arT; repeat (first | rw [if_pos om] | rw [if_neg om])), E⟩
 have am := s
 have s := Yp s
 refine Zu ?_
 refine Yc (Zb (H3 _ _ ?_))
 refine Zg fun cc bg => ?_
 refine Zc (Za rfl rfl (Ze rfl) (Zf (Zb (bg _ _ ?_))))
 refine Zs ?_
 exact Zi [_] ⟨rfl, trivial⟩ ⟨congrArg (Value.int .i64) (by unfold arT; repeat (first | rw [if_pos om] | rw [if_neg om])), E⟩

/-- spec.IsExpr -/
theorem Zkk {w : World} {LL_e q : Nat} {m : Value} {e : List Token} (h : Ls Token.cs 4 w LL_e q m e) :
 Ctr Try.prog 74 #[(.agg #[m])] w (fun v w' => v = .bool (isE e) ∧ Ch [] w w') := by
 obtain ⟨k, l, n⟩ := h.val
 subst n
 have G := h.len
 have h := h.here (by decide)
 have E := Ch.refl [] w
 refine Yh (N := 32) (vs0 := [(.agg #[(.slice k e.length l)])]) Try.func74 rfl rfl rfl ?_
 refine Zg fun K1 H1 => ?_
 refine Zc (Zk rfl rfl ?_)
 refine Xw rfl fun r W2 p C2 V => ?_
 have X := C2.size
 have E := E.trans C2
 have Y := p.lt
 replace p : Blk W2 r 44 [(.slice k e.length l)] := p
 refine Za rfl rfl (Ze rfl) (Zf (Zb (H1 _ _ ?_)))
 refine Zg fun K3 H3 => ?_
 refine Zc (Za rfl rfl (Ze rfl) (Zf (Zb (H3 _ _ ?_))))
 refine Zg fun K4 H4 => ?_
 refine Zg fun K5 H5 => ?_
 refine Zc (Za rfl rfl (Ze rfl) (Zf (Zb (H5 _ _ ?_))))
 refine Yf ?_
 refine Xo (σ := Nat × Int × List Tr) (fun ⟨i, d, st⟩ => [(1, (.pointer (some ⟨r, 0, none⟩))), (3, (.int .i64 d)), (4, (.int .i64 ((i : Nat) : Int)))]) (fun ⟨i, d, st⟩ wx => Ch [] w wx ∧ W2.heap.size ≤ wx.heap.size ∧ (i ≤ e.length) ∧ (d = st.length) ∧ (st.length ≤ i) ∧ (prs [] (e.take i) = some st) ∧ Blk wx r 44 [(.slice k e.length l)]) (fun ⟨i, d, st⟩ => e.length - i) (0, 0, ([] : List Tr)) (sC2 rfl rfl (sC1 rfl (Sub.nil _))) ⟨E, (Nat.le_refl _), om, rfl, (Nat.le_refl _), rfl, p⟩ ?_
 rintro ⟨i, d, st⟩ R6 ⟨E, H, hi, hd, hs, hp, f⟩
 have o := E
 have D := o.size
 have s := f.lt
 refine Zg fun K7 H7 => ?_
 refine Zg fun K8 H8 => ?_
 refine Zc (Za rfl rfl (Zd rfl) (Za rfl rfl (Zh fa44_0 rfl) (Za rfl rfl (Zp f.at_ agg42 rfl rfl) (Za rfl rfl (Xm (by rw [el42]; rfl) rfl) (Za rfl rfl (Xv rfl rfl) (Zf (Zb (H8 _ _ ?_))))))))
 refine Zx rfl (fun a => ?_) (fun a => ?_)
 ·have I := a
  have a := Yo a
  refine Zu ?_
  refine Zb (H7 _ _ ?_)
  refine Zg fun Z u => ?_
  refine Yf ?_
  refine Zg fun aa J => ?_
  refine Zc (Za rfl rfl (Zh fa44_0 rfl) (Za rfl rfl (Zp f.at_ agg42 rfl rfl) (Za rfl rfl (Zd rfl) (Zk rfl rfl ?_))))
  have K := h.ch0 o
  refine (Yy K Token.len el42 sz84 rfl rfl rfl om fun L j g x => ?_)
  refine Za rfl rfl (Zt x agg84 sz84 rfl) (Zk rfl rfl ?_)
  refine Step.call (Zl (xs := [.tmp 17]) fk113 rfl) (Zen j ) fun M ab y => ?_
  obtain ⟨rfl, z⟩ := y
  have O := z.size
  have E := E.trans z
  have P := Zbd j
  refine Za rfl rfl (Ze rfl) (Zf (Zb (J _ _ ?_)))
  refine Zg fun ac A => ?_
  refine Zg fun ad F => ?_
  refine Zc (Za rfl rfl (Zd rfl) (Za rfl rfl (Xv rfl rfl) (Za rfl rfl (Zd rfl) ?_)))
  refine Ym (d := 21) rfl (fun b => ?_) (fun b => ?_)
  ·have B := b
   have b := Yo b
   refine Zj rfl rfl (Zj rfl rfl (Zj rfl rfl (Za rfl rfl (Zw rfl rfl) (Zf (Zb (F _ _ ?_))))))
   refine Xl rfl ?_
   refine Zg fun ae Q => ?_
   refine Zc (Za rfl rfl (Ze rfl) (Zf (Zb (Q _ _ ?_))))
   refine Zs (Zm (Yi (Zm (Zm (Yi (Zm ?_))))))
   clear H4 u A
   exact Zi [_] ⟨rfl, trivial⟩ ⟨congrArg Value.bool (by first | (rw [Zma hp om, hd]; done) | exact Zka (Zop hp g (Zmk om))), E⟩
  have B := b
  have b := Yp b
  refine Za rfl rfl (Zd rfl) (Za rfl rfl (Zd rfl) (Za rfl rfl (Zec rfl rfl) (Za rfl rfl (Zv rfl rfl) (Zf (Zb (F _ _ ?_))))))
  refine Zx rfl (fun c => ?_) (fun c => ?_)
  ·have C := c
   have c := Yo c
   refine Zg fun af R => ?_
   refine Zc (Za rfl rfl (Ze rfl) (Zf (Zb (R _ _ ?_))))
   refine Zs (Zm (Yi (Zm (Zm (Yi (Zm ?_))))))
   clear H4 u A
   exact Zi [_] ⟨rfl, trivial⟩ ⟨congrArg Value.bool (by first | (rw [Zma hp om, hd]; done) | exact Zka (Zop hp g (Zmk om))), E⟩
  have C := c
  have c := Yp c
  refine Zu ?_
  refine Zb (A _ _ (Zc (Za rfl rfl (Zd rfl) (Za rfl rfl (Zd rfl) (Za rfl rfl (Zbr om rfl rfl) (Za rfl rfl (Yq om rfl rfl) (Za rfl rfl (Ze rfl) (Zf ?_))))))))
  refine Yc (Zb (u _ _ (Zc (Za rfl rfl (Zd rfl) (Za rfl rfl (Yq om rfl rfl) (Za rfl rfl (Ze rfl) (Zf ?_)))))))
  obtain ⟨s2, S, ag⟩ := Zsp (t := j) (st := st) om om
  have T := f.ch0 z
  exact Zb (Exists.intro ((i + 1), ((d - arT j) + 1), s2) ⟨⟨E, om, om, om, om, ((Znh hp g).trans S), T⟩, sC2 rfl rfl (sC1 rfl (Sub.nil _)), (by first | omega | (dsimp only; omega))⟩)
 have I := a
 have a := Yp a
 refine Xk (Ya (Ya (Xd ?_)))
 refine Zb (H4 _ _ ?_)
 refine Zg fun ah U => ?_
 refine Zc (Za rfl rfl (Zd rfl) (Za rfl rfl (Xu rfl rfl) (Za rfl rfl (Ze rfl) (Zf (Zb (U _ _ ?_))))))
 refine Zs ?_
 exact Zi [_] ⟨rfl, trivial⟩ ⟨congrArg Value.bool (by first | (rw [Zma hp om, hd]; done) | exact Zka (Zop hp g (Zmk om))), E⟩

/-- spec.IsValidExpr -/
theorem Zbf {w : World} {LL_e j : Nat} {c : Value} {e : List Token} (a : Ls Token.cs 4 w LL_e j c e) :
 Ctr Try.prog 31 #[(.agg #[c])] w (fun v w' => v = .bool (ivE e) ∧ Ch [] w w') := by
 obtain ⟨f, g, h⟩ := a.val
 subst h
 have k := a.len
 have a := a.here (by decide)
 have E := Ch.refl [] w
 refine Yh (N := 11) (vs0 := [(.agg #[(.slice f e.length g)])]) Try.func31 rfl rfl rfl ?_
 refine Zg fun K1 H1 => ?_
 refine Zc (Zk rfl rfl ?_)
 refine Xw rfl fun l W2 i C2 o => ?_
 have p := C2.size
 have E := E.trans C2
 have q := i.lt
 replace i : Blk W2 l 44 [(.slice f e.length g)] := i
 refine Za rfl rfl (Ze rfl) (Zf (Zb (H1 _ _ ?_)))
 refine Zg fun K3 H3 => ?_
 refine Zc (Za rfl rfl (Zh fa44_0 rfl) (Za rfl rfl (Zp i.at_ agg42 rfl rfl) (Za rfl rfl (Xm (by rw [el42]; rfl) rfl) (Za rfl rfl (Zfo rfl rfl) (Za rfl rfl (Zd rfl) ?_)))))
 refine Ym (d := 7) rfl (fun b => ?_) (fun b => ?_)
 ·have m := b
  have b := Yo b
  refine Za rfl rfl (Zt i.at_ agg44 sz44 rfl) (Zk rfl rfl ?_)
  have F5 := a.ch0 C2
  refine Step.call (Zl (xs := [.tmp 8]) fk74 rfl) (Zkk F5 ) fun r W6 n => ?_
  obtain ⟨rfl, C6⟩ := n
  have s := C6.size
  have E := E.trans C6
  refine Za rfl rfl (Zw rfl rfl) (Za rfl rfl (Ze rfl) (Zf (Zb (H3 _ _ ?_))))
  refine Zs ?_
  exact Zi [_] ⟨rfl, trivial⟩ ⟨congrArg Value.bool (by unfold ivE; first | (rw [decide_eq_true om]; rfl) | (rw [decide_eq_false om]; rfl)), E⟩
 have m := b
 have b := Yp b
 refine Zj rfl rfl (Zj rfl rfl (Za rfl rfl (Zv rfl rfl) (Za rfl rfl (Ze rfl) (Zf (Zb (H3 _ _ ?_))))))
 refine Zs ?_
 exact Zi [_] ⟨rfl, trivial⟩ ⟨congrArg Value.bool (by unfold ivE; first | (rw [decide_eq_true om]; rfl) | (rw [decide_eq_false om]; rfl)), E⟩

/-- spec.l8Copy -/
theorem Zkj {w : World} {LL_l p : Nat} {h : Value} {l : List Token} (a : Ls Token.cs 4 w LL_l p h l) (hb : l.length ≤ 4194304) :
 Ctr Try.prog 129 #[h] w (fun v w' => ∃ u, v = .agg #[u] ∧ Ol Token.cs 84 4 w' u (l) ∧ Lo w.heap.size u ∧ Ch [] w w') := by
 obtain ⟨q, r, j⟩ := a.val
 subst j
 have A := a.len
 have a := a.here (by decide)
 have E := Ch.refl [] w
 refine Yh (N := 7) (vs0 := [(.slice q l.length r)]) Try.func129 rfl rfl rfl ?_
 refine Zg fun K1 H1 => ?_
 refine Zc (Zk rfl rfl ?_)
 refine Yr zr44 fun x W2 n C2 K => ?_
 have L := C2.size
 have E := E.trans C2
 have M := n.lt
 replace n : Blk W2 x 44 [(.slice none 0 0)] := n
 refine Zf (Zb (H1 _ _ ?_))
 refine Zg fun K3 H3 => ?_
 refine Zc (Zk rfl rfl ?_)
 refine Xt (k := 4) Token.cs el42 sz84 fun O W4 y b C4 => ?_
 have P := C4.size
 have E := E.trans C4
 obtain ⟨B, C, rfl, D, e⟩ := y.opn
 refine Za rfl rfl (Zd rfl) (Zk rfl rfl ?_)
 have F6 := (a.ch0 C2).ch0 C4
 refine Yj (cs := Token.cs) el42 sz84 by84 zr84 rfl (by decide) Token.one y F6 rfl rfl bd bd b om fun F W5 o s t C5 => ?_
 have Q := C5.size
 have E := E.step C5 (fun i hi => .inl (by have G := b _ hi; omega))
 replace o : Ol Token.cs 84 4 W5 F l := o
 obtain ⟨c, d, rfl, H, z⟩ := o.opn
 refine Za rfl rfl (Yt (parts := [(0, .tmp 5)]) (cells := [(.slice c (l).length d)]) zr44 pl44 rfl rfl) (Zk rfl rfl ?_)
 have F7 := (n.ch0 C4).ch C5 (fun hm => by have G := b _ hm; have I := e _ hm; omega)
 refine Zy (off := 0) 1 F7 sz44 rfl (us := [(.slice c (l).length d)]) rfl rfl rfl rfl fun W8 f C8 => ?_
 have R := C8.size
 have E := E.step C8 (lS om)
 replace f : Blk W8 x 44 [(.slice c (l).length d)] := f
 refine Zf (Zb (H3 _ _ ?_))
 refine Zs ?_
 have J := o.ch C8 (fun g hg hm => by have S := List.mem_singleton.1 hm; rcases t with ea | ea; (rw [ea] at hg; have I := b _ hg; have T := e _ hg; omega); (rw [ea] at hg; have U := List.mem_singleton.1 hg; omega))
 have m : Ol Token.cs 84 4 W8 (.slice c (l).length d) (l) := by
  have hx := J
  first | exact hx | simpa using hx
 exact Zi [_] (Zz f rfl agg44 sz44 trivial) ⟨_, rfl, m, Lo.down s om, E⟩

/-- spec.l8Join -/
theorem Qh {w : World} {LL_a ag : Nat} {D : Value} {a : List Token} (l : Ls Token.cs 4 w LL_a ag D a) {LL_b ah : Nat} {F : Value} {b : List Token} (m : Ls Token.cs 4 w LL_b ah F b) (t : Token) (hb : a.length + b.length ≤ 4194304) :
 Ctr Try.prog 111 #[(.agg #[D]), (.agg #[F]), (.agg #[(.int .i64 t.kind), (.int .i64 t.letter), (.int .i64 t.low), (.int .i64 t.high)])] w (fun v w' => ∃ u, v = .agg #[u] ∧ Ol Token.cs 84 4 w' u (a ++ b ++ [t]) ∧ Lo w.heap.size u ∧ Ch [] w w') := by
 obtain ⟨G, H, I⟩ := l.val
 subst I
 have aA := l.len
 have l := l.here (by decide)
 obtain ⟨J, K, L⟩ := m.val
 subst L
 have aB := m.len
 have m := m.here (by decide)
 have E := Ch.refl [] w
 refine Yh (N := 24) (vs0 := [(.agg #[(.slice G a.length H)]), (.agg #[(.slice J b.length K)]), (.agg #[(.int .i64 t.kind), (.int .i64 t.letter), (.int .i64 t.low), (.int .i64 t.high)])]) Try.func111 rfl rfl rfl ?_
 refine Zg fun K1 H1 => ?_
 refine Zc (Zk rfl rfl ?_)
 refine Xw rfl fun aC W2 Y C2 a8 => ?_
 have a9 := C2.size
 have E := E.trans C2
 have ba := Y.lt
 replace Y : Blk W2 aC 44 [(.slice G a.length H)] := Y
 refine Zk rfl rfl ?_
 refine Xw rfl fun aD W3 Z C3 bb => ?_
 have bc := C3.size
 have E := E.trans C3
 have be := Z.lt
 replace Z : Blk W3 aD 44 [(.slice J b.length K)] := Z
 refine Zk rfl rfl ?_
 refine Xw rfl fun aE W4 aa C4 bf => ?_
 have bg := C4.size
 have E := E.trans C4
 have bh := aa.lt
 replace aa : Blk W4 aE 84 [(.int .i64 t.kind), (.int .i64 t.letter), (.int .i64 t.low), (.int .i64 t.high)] := aa
 refine Zk rfl rfl ?_
 refine Yr zr44 fun am W5 ab C5 bi => ?_
 have bj := C5.size
 have E := E.trans C5
 have bk := ab.lt
 replace ab : Blk W5 am 44 [(.slice none 0 0)] := ab
 refine Zf (Zb (H1 _ _ ?_))
 refine Zg fun K6 H6 => ?_
 refine Zc (Za rfl rfl (Zh fa44_0 rfl) ?_)
 have F7 := ((Y.ch0 C3).ch0 C4).ch0 C5
 refine Za rfl rfl (Zp F7.at_ agg42 rfl rfl) (Zk rfl rfl ?_)
 have F8 := (((l.ch0 C2).ch0 C3).ch0 C4).ch0 C5
 refine Step.call (Zl (xs := [.tmp 9]) fk129 rfl) (Zkj F8 om) fun aF W9 p => ?_
 obtain ⟨aG, rfl, p, d, C9⟩ := p
 have bm := C9.size
 have E := E.trans C9
 obtain ⟨q, r, rfl, an, c⟩ := p.opn
 refine Zk rfl rfl ?_
 refine Yr zr44 fun ac aH ad y bn => ?_
 have aI := y.size
 have E := E.trans y
 have bp := ad.lt
 replace ad : Blk aH ac 44 [(.slice none 0 0)] := ad
 refine Zk rfl rfl ?_
 refine Zy (off := 0) 1 ad sz44 rfl (us := [(.slice q (a).length r)]) rfl rfl rfl rfl fun aJ f z => ?_
 have aK := z.size
 have E := E.step z (lS om)
 replace f : Blk aJ ac 44 [(.slice q (a).length r)] := f
 refine Zf (Zb (H6 _ _ ?_))
 refine Zg fun bq aL => ?_
 refine Zc (Za rfl rfl (Zh fa44_0 rfl) (Za rfl rfl (Zp f.at_ agg42 rfl rfl) (Za rfl rfl (Zh fa44_0 rfl) ?_)))
 have aM := ((((Z.ch0 C4).ch0 C5).ch0 C9).ch0 y).ch z (nS om)
 refine Za rfl rfl (Zp aM.at_ agg42 rfl rfl) (Zk rfl rfl ?_)
 have aN := (p.ch0 y).ch z (dS d c om)
 have aO := ((((((m.ch0 C2).ch0 C3).ch0 C4).ch0 C5).ch0 C9).ch0 y).ch z (oS om)
 refine Yj (cs := Token.cs) el42 sz84 by84 zr84 rfl (by decide) Token.one aN aO rfl rfl bd bd d om fun aP br M s e O => ?_
 have aQ := O.size
 have E := E.step O (fun i hi => .inl (by have B := d _ hi; omega))
 obtain ⟨P, Q, rfl, ao, ai⟩ := M.opn
 refine Za rfl rfl (Zh fa44_0 rfl) (Zk rfl rfl ?_)
 have aR := f.ch O (fun hm => by have B := d _ hm; have A := c _ hm; omega)
 refine Xh (off := 0) aR sz42 rfl rfl rfl rfl fun aS h R => ?_
 have aT := R.size
 have E := E.step R (lS om)
 replace h : Blk aS ac 44 [(.slice P ((a ++ b)).length Q)] := h
 refine Zf (Zb (aL _ _ ?_))
 refine Zg fun bs aU => ?_
 refine Zc (Za rfl rfl (Zh fa44_0 rfl) (Za rfl rfl (Zp h.at_ agg42 rfl rfl) ?_))
 have aV := (((((aa.ch0 C5).ch0 C9).ch0 y).ch z (nS om)).ch O (fun hm => by have B := d _ hm; have A := c _ hm; omega)).ch R (nS om)
 refine Za rfl rfl (Zt aV.at_ agg84 sz84 rfl) (Zk rfl rfl ?_)
 refine Zr (cs := Token.cs) (parts := [(0, .tmp 19)]) (⟨0, 0, 0, 0⟩ : Token) [t] el42 sz84 zr84 Token.len (by decide) rfl rfl rfl (by decide) (by decide) rfl fun aW bu S ap T => ?_
 have aX := T.size
 have E := E.trans T
 obtain ⟨aq, au, rfl, av, aj⟩ := S.opn
 refine Zk rfl rfl ?_
 have aY := (M.ch R (fun g hg hm => by have aw := List.mem_singleton.1 hm; rcases e with ea | ea; (rw [ea] at hg; have A := d _ hg; have ax := c _ hg; omega); (rw [ea] at hg; have C := List.mem_singleton.1 hg; omega))).ch0 T
 refine Yj (cs := Token.cs) el42 sz84 by84 zr84 rfl (by decide) Token.one aY S.ls rfl rfl bd bd s om fun aZ bv U V x ae => ?_
 have a0 := ae.size
 have E := E.step ae (fun i hi => .inl (by have B := s _ hi; omega))
 obtain ⟨j, k, rfl, ay, ak⟩ := U.opn
 refine Za rfl rfl (Zh fa44_0 rfl) (Zk rfl rfl ?_)
 have a1 := (h.ch0 T).ch ae (fun hm => by rcases e with ea | ea; (rw [ea] at hm; have B := d _ hm; have A := c _ hm; omega); (rw [ea] at hm; have C := List.mem_singleton.1 hm; omega))
 refine Xh (off := 0) a1 sz42 rfl rfl rfl rfl fun a2 n af => ?_
 have a3 := af.size
 have E := E.step af (lS om)
 replace n : Blk a2 ac 44 [(.slice j (((a ++ b) ++ [t])).length k)] := n
 refine Zf (Zb (aU _ _ ?_))
 refine Zg fun bw a4 => ?_
 refine Zc (Za rfl rfl (Zt n.at_ agg44 sz44 rfl) (Zk rfl rfl ?_))
 have a5 := (((((((ab.ch0 C9).ch0 y).ch z (nS om)).ch O (fun hm => by have B := d _ hm; have A := c _ hm; omega)).ch R (nS om)).ch0 T).ch ae (fun hm => by rcases e with ea | ea; (rw [ea] at hm; have B := d _ hm; have A := c _ hm; omega); (rw [ea] at hm; have C := List.mem_singleton.1 hm; omega))).ch af (nS om)
 refine Zy (off := 0) 1 a5 sz44 rfl (us := [(.slice j (((a ++ b) ++ [t])).length k)]) rfl rfl rfl rfl fun az o al => ?_
 have a6 := al.size
 have E := E.step al (lS om)
 replace o : Blk az am 44 [(.slice j (((a ++ b) ++ [t])).length k)] := o
 refine Zf (Zb (a4 _ _ ?_))
 refine Zs ?_
 have a7 := (U.ch af (fun g hg hm => by have aw := List.mem_singleton.1 hm; rcases x with ea | ea; (rw [ea] at hg; rcases e with ea | ea; (rw [ea] at hg; have A := d _ hg; have ax := c _ hg; omega); (rw [ea] at hg; have C := List.mem_singleton.1 hg; omega)); (rw [ea] at hg; have C := List.mem_singleton.1 hg; omega))).ch al (fun g hg hm => by have aw := List.mem_singleton.1 hm; rcases x with ea | ea; (rw [ea] at hg; rcases e with ea | ea; (rw [ea] at hg; have A := d _ hg; have ax := c _ hg; omega); (rw [ea] at hg; have C := List.mem_singleton.1 hg; omega)); (rw [ea] at hg; have C := List.mem_singleton.1 hg; omega))
 have X : Ol Token.cs 84 4 az (.slice j (((a ++ b) ++ [t])).length k) (a ++ b ++ [t]) := by
  have hx := a7
  first | exact hx | simpa using hx
 exact Zi [_] (Zz o rfl agg44 sz44 trivial) ⟨_, rfl, X, Lo.down V om, E⟩

/-- spec.l8Leaf -/
theorem Zdc {w : World} (kind : Int) :
 Ctr Try.prog 130 #[(.int .i64 kind)] w (fun v w' => ∃ u, v = .agg #[u] ∧ Ol Token.cs 84 4 w' u ([(⟨kind, 0, 0, 0⟩ : Token)]) ∧ Lo w.heap.size u ∧ Ch [] w w') := by
 have E := Ch.refl [] w
 refine Yh (N := 7) (vs0 := [(.int .i64 kind)]) Try.func130 rfl rfl rfl ?_
 refine Zg fun K1 H1 => ?_
 refine Zc (Zk rfl rfl ?_)
 refine Yr zr44 fun h W2 f C2 k => ?_
 have l := C2.size
 have E := E.trans C2
 have m := f.lt
 replace f : Blk W2 h 44 [(.slice none 0 0)] := f
 refine Zf (Zb (H1 _ _ ?_))
 refine Zg fun K3 H3 => ?_
 refine Zc (Za rfl rfl (Zd rfl) (Za rfl rfl (Yt (parts := [(0, .tmp 3)]) (cells := [(.int .i64 kind), (.int .i64 0), (.int .i64 0), (.int .i64 0)]) zr84 pl84 rfl rfl) (Zk rfl rfl ?_)))
 refine Zr (cs := Token.cs) (parts := [(0, .tmp 4)]) (⟨0, 0, 0, 0⟩ : Token) [(⟨kind, 0, 0, 0⟩ : Token)] el42 sz84 zr84 Token.len (by decide) rfl rfl rfl (by decide) (by decide) rfl fun n W4 i d C4 => ?_
 have o := C4.size
 have E := E.trans C4
 obtain ⟨a, b, rfl, j, e⟩ := i.opn
 refine Za rfl rfl (Yt (parts := [(0, .tmp 5)]) (cells := [(.slice a ([(⟨kind, 0, 0, 0⟩ : Token)]).length b)]) zr44 pl44 rfl rfl) (Zk rfl rfl ?_)
 have F5 := f.ch0 C4
 refine Zy (off := 0) 1 F5 sz44 rfl (us := [(.slice a ([(⟨kind, 0, 0, 0⟩ : Token)]).length b)]) rfl rfl rfl rfl fun W6 c C6 => ?_
 have p := C6.size
 have E := E.step C6 (lS om)
 replace c : Blk W6 h 44 [(.slice a ([(⟨kind, 0, 0, 0⟩ : Token)]).length b)] := c
 refine Zf (Zb (H3 _ _ ?_))
 refine Zs ?_
 have F9 := i.ch C6 (dS d e om)
 have g : Ol Token.cs 84 4 W6 (.slice a ([(⟨kind, 0, 0, 0⟩ : Token)]).length b) ([(⟨kind, 0, 0, 0⟩ : Token)]) := by
  have hx := F9
  first | exact hx | simpa using hx
 exact Zi [_] (Zz c rfl agg44 sz44 trivial) ⟨_, rfl, g, Lo.down d om, E⟩

/-- spec.l10Times -/
theorem Zgg : ∀ (n : Nat) {w : World} {LL_e av : Nat} {aj : Value} {e : List Token} (q : Ls Token.cs 4 w LL_e av aj e) (low : Int) (high : Int) (x : Tr) (he : e = x.flat) (hx : x.sz ≤ 5000) (ao : 0 ≤ low) (hh : 0 ≤ high) (bF : high ≤ 3) (bG : low ≤ 3) (hsz : high.toNat < n),
 Ctr Try.prog 112 #[(.agg #[aj]), (.int .i64 low), (.int .i64 high)] w (fun v w' => ∃ u, v = .agg #[u] ∧ Ol Token.cs 84 4 w' u ((timT x low (high).toNat).flat) ∧ Lo w.heap.size u ∧ Ch [] w w') := by
 intro n
 induction n with
 | zero => intros; omega
 | succ n ih =>
 intro w LL_e av aj e q low high x he hx ao hh bF bG hsz
 obtain ⟨aw, ax, ay⟩ := q.val
 subst ay
 have bH := q.len
 have q := q.here (by decide)
 have E := Ch.refl [] w
 have xl := x.flat_len; rw [← he] at xl
 refine Yh (N := 28) (vs0 := [(.agg #[(.slice aw e.length ax)]), (.int .i64 low), (.int .i64 high)]) Try.func112 rfl rfl rfl ?_
 refine Zg fun K1 H1 => ?_
 refine Zc (Zk rfl rfl ?_)
 refine Xw rfl fun bI W2 aY C2 cE => ?_
 have cF := C2.size
 have E := E.trans C2
 have cG := aY.lt
 replace aY : Blk W2 bI 44 [(.slice aw e.length ax)] := aY
 refine Zk rfl rfl ?_
 refine Yr zr44 fun Q W3 ap C3 cH => ?_
 have cI := C3.size
 have E := E.trans C3
 have cJ := ap.lt
 replace ap : Blk W3 Q 44 [(.slice none 0 0)] := ap
 refine Zf (Zb (H1 _ _ ?_))
 refine Zg fun K4 H4 => ?_
 refine Zg fun K5 H5 => ?_
 refine Zc (Za rfl rfl (Zd rfl) (Za rfl rfl (Xu rfl rfl) (Zf (Zb (H5 _ _ ?_)))))
 refine Zx rfl (fun t => ?_) (fun t => ?_)
 ·have bJ := t
  have t := Yo t
  refine Zg fun K7 H7 => ?_
  refine Zc (Zk rfl rfl ?_)
  refine Step.call (Zl (xs := [.const (Go.Value.int Go.IntKind.i64 2)]) fk130 rfl) (Zdc _ ) fun bK W8 R => ?_
  obtain ⟨bL, rfl, R, U, C8⟩ := R
  have cK := C8.size
  have E := E.trans C8
  obtain ⟨y, z, rfl, bc, ak⟩ := R.opn
  refine Zk rfl rfl ?_
  have F9 := ap.ch0 C8
  refine Zy (off := 0) 1 F9 sz44 rfl (us := [(.slice y ([(⟨2, 0, 0, 0⟩ : Token)]).length z)]) rfl rfl rfl rfl fun be A a3 => ?_
  have bM := a3.size
  have E := E.step a3 (lS om)
  replace A : Blk be Q 44 [(.slice y ([(⟨2, 0, 0, 0⟩ : Token)]).length z)] := A
  refine Zf (Zb (H7 _ _ ?_))
  refine Zs (Zm ?_)
  have bN := R.ch a3 (dS U ak om)
  have az : Ol Token.cs 84 4 be (.slice y ([(⟨2, 0, 0, 0⟩ : Token)]).length z) ((timT x low (high).toNat).flat) := by
   have hx := bN
   exact hx.eq (by first | (rw [← tim0 (x := x) (low := low) om]; rfl) | (rw [← timp (x := x) (low := low) om om om, he]; rfl) | (rw [← timn (x := x) (low := low) om om om, he]; rfl))
  exact Zi [_] (Zz A rfl agg44 sz44 trivial) ⟨_, rfl, az, Lo.down U om, E⟩
 have bJ := t
 have t := Yp t
 refine Zu ?_
 refine Zb (H4 _ _ ?_)
 refine Zg fun bO bP => ?_
 have B : ∀ (lj : KL) (h : World) (aA : Nat) (o : Value), Go.KLib.Sub [(1, (.int .i64 low)), (6, (.pointer (some ⟨Q, 0, none⟩))), (7, (.pointer (some ⟨aA, 0, none⟩)))] lj → Ch [] W3 h → Ol Token.cs 84 4 h o (e ++ ((timT x (if (low - 1) > 0 then (low - 1) else 0) ((high - 1)).toNat).flat) ++ [(⟨4, 0, 0, 0⟩ : Token)]) → Lo W3.heap.size o → Blk h aA 44 [o] → W3.heap.size ≤ aA → aA ∉ bl o → bO lj h := by
  intro lj h aA o aB g k p C bf V
  refine bP _ _ (Zon aB ?_)
  have aC := g.size
  have E := E.trans g
  obtain ⟨l, m, rfl, aZ, D⟩ := k.opn
  have bg := C.lt
  refine Zg fun cL bQ => ?_
  refine Zg fun cM bR => ?_
  refine Zc (Za rfl rfl (Zd rfl) (Za rfl rfl (Zec rfl rfl) (Zf (Zb (bR _ _ ?_)))))
  refine Zx rfl (fun r => ?_) (fun r => ?_)
  ·have a4 := r
   have r := Yo r
   refine Zg fun cN bS => ?_
   refine Zc (Za rfl rfl (Zt C.at_ agg44 sz44 rfl) (Zk rfl rfl ?_))
   have bT := ap.ch0 g
   refine Zy (off := 0) 1 bT sz44 rfl (us := [(.slice l (e ++ ((timT x (if (low - 1) > 0 then (low - 1) else 0) ((high - 1)).toNat).flat) ++ [(⟨4, 0, 0, 0⟩ : Token)]).length m)]) rfl rfl rfl rfl fun bh F a5 => ?_
   have bU := a5.size
   have E := E.step a5 (lS om)
   replace F : Blk bh Q 44 [(.slice l (e ++ ((timT x (if (low - 1) > 0 then (low - 1) else 0) ((high - 1)).toNat).flat) ++ [(⟨4, 0, 0, 0⟩ : Token)]).length m)] := F
   refine Zf (Zb (bS _ _ ?_))
   refine Zs (Zm ?_)
   have bV := k.ch a5 (dS p D om)
   have aD : Ol Token.cs 84 4 bh (.slice l (e ++ ((timT x (if (low - 1) > 0 then (low - 1) else 0) ((high - 1)).toNat).flat) ++ [(⟨4, 0, 0, 0⟩ : Token)]).length m) ((timT x low (high).toNat).flat) := by
    have hx := bV
    exact hx.eq (by first | (rw [← tim0 (x := x) (low := low) om]; rfl) | (rw [← timp (x := x) (low := low) om om om, he]; rfl) | (rw [← timn (x := x) (low := low) om om om, he]; rfl))
   exact Zi [_] (Zz F rfl agg44 sz44 trivial) ⟨_, rfl, aD, Lo.down p om, E⟩
  have a4 := r
  have r := Yp r
  refine Zu ?_
  refine Zb (bQ _ _ ?_)
  refine Zg fun cO bW => ?_
  refine Yx [Q] 5 mixed rfl fun a6 aE => ?_
  have bX := aE.size
  have E := E.trans aE
  have bY := C.ch0 aE
  refine dT 0 rfl rfl rfl (Zn bY.at_ (oS om) agg44 sz44 rfl ?_)
  refine dV 2 rfl rfl rfl (fun _ => Yt (parts := [(0, .const (Go.Value.int Go.IntKind.i64 5))]) (cells := [(.int .i64 5), (.int .i64 0), (.int .i64 0), (.int .i64 0)]) zr84 pl84 rfl rfl) (dO 1 (Ye rfl rfl rfl ?_))
  refine Step.call (Zl (xs := [.const (Go.Value.int Go.IntKind.i64 2)]) fk130 rfl) (Zdc _ ) fun bZ b0 S => ?_
  obtain ⟨b1, rfl, S, bi, aF⟩ := S
  have b2 := aF.size
  have E := E.trans aF
  obtain ⟨bj, bk, rfl, bm, a7⟩ := S.opn
  have X : Ch [Q] a6 b0 := ((Ch.refl _ _).trans aF.of_nil)
  refine ⟨X, ?_⟩
  refine dO 3 (Ye rfl rfl rfl ?_)
  have b3 := (k.ch0 aE).ch0 aF
  refine Step.call (Zl (xs := [.tmp 24, .tmp 25, .tmp 26]) fk111 rfl) (Qh b3.ls S.ls ⟨5, 0, 0, 0⟩ (by have t := Zjl (x := x) (n := high - 1) (if low - 1 > 0 then low - 1 else 0) hx om; simp only [List.length_append, List.length_singleton, Tr.flat_len]; omega)) fun b4 b5 T => ?_
  obtain ⟨b6, rfl, T, Y, a0⟩ := T
  have b7 := a0.size
  have E := E.trans a0
  obtain ⟨G, H, rfl, bn, al⟩ := T.opn
  have Z : Ch [Q] a6 b5 := (X.trans a0.of_nil)
  refine ⟨Z, ?_⟩
  refine dO 4 (Ye rfl rfl rfl ?_)
  have b8 := (((ap.ch0 g).ch0 aE).ch0 aF).ch0 a0
  refine Zy (off := 0) 1 b8 sz44 rfl (us := [(.slice G ((e ++ ((timT x (if (low - 1) > 0 then (low - 1) else 0) ((high - 1)).toNat).flat) ++ [(⟨4, 0, 0, 0⟩ : Token)]) ++ ([(⟨2, 0, 0, 0⟩ : Token)]) ++ [(⟨5, 0, 0, 0⟩ : Token)]).length H)]) rfl rfl rfl rfl fun a8 I a1 => ?_
  have b9 := a1.size
  have E := E.step a1 (lS om)
  replace I : Blk a8 Q 44 [(.slice G ((e ++ ((timT x (if (low - 1) > 0 then (low - 1) else 0) ((high - 1)).toNat).flat) ++ [(⟨4, 0, 0, 0⟩ : Token)]) ++ ([(⟨2, 0, 0, 0⟩ : Token)]) ++ [(⟨5, 0, 0, 0⟩ : Token)]).length H)] := I
  have aG : Ch [Q] a6 a8 := (Z.step a1 (fun i hm => by have ao := List.mem_singleton.1 hm; exact .inr (by rw [ao]; exact (List.mem_singleton.2 rfl))))
  refine ⟨aG, ?_⟩
  refine Yb (by kernel_rfl) ?_
  refine Zb (bW _ _ ?_)
  refine Zs ?_
  have ca := T.ch a1 (dS Y al om)
  have aH : Ol Token.cs 84 4 a8 (.slice G ((e ++ ((timT x (if (low - 1) > 0 then (low - 1) else 0) ((high - 1)).toNat).flat) ++ [(⟨4, 0, 0, 0⟩ : Token)]) ++ ([(⟨2, 0, 0, 0⟩ : Token)]) ++ [(⟨5, 0, 0, 0⟩ : Token)]).length H) ((timT x low (high).toNat).flat) := by
   have hx := ca
   exact hx.eq (by first | (rw [← tim0 (x := x) (low := low) om]; rfl) | (rw [← timp (x := x) (low := low) om om om, he]; rfl) | (rw [← timn (x := x) (low := low) om om om, he]; rfl))
  exact Zi [_] (Zz I rfl agg44 sz44 trivial) ⟨_, rfl, aH, Lo.down Y om, E⟩
 refine Yx [] 12 mixed rfl fun J aa => ?_
 have cb := aa.size
 have E := E.trans aa
 have bp := (aY.ch0 C3).ch0 aa
 refine dT 0 rfl rfl rfl (Zn bp.at_ (fun i hi => absurd hi List.not_mem_nil) agg44 sz44 rfl ?_)
 refine dT 1 rfl rfl rfl (Zn bp.at_ (fun i hi => absurd hi List.not_mem_nil) agg44 sz44 rfl ?_)
 refine dV 2 rfl rfl rfl (fun _ => Zd rfl) (dV 3 rfl rfl rfl (fun _ => Zbr om rfl rfl) (dV 4 rfl rfl rfl (fun _ => Zwh rfl rfl) (dV 5 rfl rfl rfl (fun _ => Zd rfl) (dV 6 rfl rfl rfl (fun _ => Zbr om rfl rfl) (dV 8 rfl rfl rfl (fun _ => Yt (parts := [(0, .const (Go.Value.int Go.IntKind.i64 4))]) (cells := [(.int .i64 4), (.int .i64 0), (.int .i64 0), (.int .i64 0)]) zr84 pl84 rfl rfl) ?_)))))
 refine Zau 7 10 (by kernel_rfl) ?_ ?_
 ·refine Ye rfl rfl rfl ?_
  have a9 := ((q.ch0 C2).ch0 C3).ch0 aa
  refine Step.call (Zl (xs := [.tmp 12, .tmp 15, .tmp 17]) fk112 rfl) (ih a9 _ _ x he hx (by split <;> omega) om om (by split <;> omega) om) fun ba cc j => ?_
  obtain ⟨bb, rfl, j, aI, am⟩ := j
  have cd := am.size
  have E := E.trans am
  obtain ⟨aJ, aK, rfl, aL, an⟩ := j.opn
  have K : Ch [] J cc := ((Ch.refl _ _).trans am)
  refine ⟨K, ?_⟩
  refine Zau 9 10 (by kernel_rfl) ?_ ?_
  ·refine Ye rfl rfl rfl ?_
   have ce := a9.ch0 am
   refine Step.call (Zl (xs := [.tmp 11, .tmp 18, .tmp 19]) fk111 rfl) (Qh ce j.ls ⟨4, 0, 0, 0⟩ (by have t := Zjl (x := x) (n := high - 1) (if low - 1 > 0 then low - 1 else 0) hx om; rw [Tr.flat_len]; omega)) fun aM cf f => ?_
   obtain ⟨aN, rfl, f, a, a2⟩ := f
   have cg := a2.size
   have E := E.trans a2
   obtain ⟨b, c, rfl, ab, d⟩ := f.opn
   have ac : Ch [] J cf := (K.trans a2)
   refine ⟨ac, ?_⟩
   refine dO 10 (Ye rfl rfl rfl ?_)
   refine Yr zr44 fun L bq s aO br => ?_
   have ci := aO.size
   have E := E.trans aO
   have bs := s.lt
   replace s : Blk bq L 44 [(.slice none 0 0)] := s
   have ad : Ch [] J bq := (ac.trans aO)
   refine ⟨ad, ?_⟩
   refine dO 11 (Ye rfl rfl rfl ?_)
   refine Zy (off := 0) 1 s sz44 rfl (us := [(.slice b (e ++ ((timT x (if (low - 1) > 0 then (low - 1) else 0) ((high - 1)).toNat).flat) ++ [(⟨4, 0, 0, 0⟩ : Token)]).length c)]) rfl rfl rfl rfl fun bu M aP => ?_
   have cj := aP.size
   have E := E.step aP (lS om)
   replace M : Blk bu L 44 [(.slice b (e ++ ((timT x (if (low - 1) > 0 then (low - 1) else 0) ((high - 1)).toNat).flat) ++ [(⟨4, 0, 0, 0⟩ : Token)]).length c)] := M
   have aQ : Ch [] J bu := (ad.step aP (fun i hm => by have ao := List.mem_singleton.1 hm; left; omega))
   refine ⟨aQ, ?_⟩
   refine Yb (by kernel_rfl) ?_
   refine Zb ?_
   have ck := (f.ch0 aO).ch aP (dS a d om)
   exact B _ _ L (.slice b (e ++ ((timT x (if (low - 1) > 0 then (low - 1) else 0) ((high - 1)).toNat).flat) ++ [(⟨4, 0, 0, 0⟩ : Token)]).length c) (sC2 rfl rfl (sC1 rfl (Sub.nil _))) ((((((Ch.refl [] W3).trans aa).trans am).trans a2).trans aO).step aP (lS om)) ck (Lo.down a om) M om (fun hm => by have bv := a _ hm; have bw := d _ hm; omega)
  refine Ye rfl rfl rfl ?_
  refine Yr zr44 fun L bz s aq br => ?_
  have cm := aq.size
  have E := E.trans aq
  have bs := s.lt
  replace s : Blk bz L 44 [(.slice none 0 0)] := s
  have ae : Ch [] J bz := (K.trans aq)
  refine ⟨ae, ?_⟩
  refine dO 9 (Ye rfl rfl rfl ?_)
  have cn := (a9.ch0 am).ch0 aq
  have co := j.ch0 aq
  refine Step.call (Zl (xs := [.tmp 11, .tmp 18, .tmp 19]) fk111 rfl) (Qh cn co.ls ⟨4, 0, 0, 0⟩ (by have t := Zjl (x := x) (n := high - 1) (if low - 1 > 0 then low - 1 else 0) hx om; rw [Tr.flat_len]; omega)) fun aM cp f => ?_
  obtain ⟨aN, rfl, f, a, aR⟩ := f
  have cq := aR.size
  have E := E.trans aR
  obtain ⟨b, c, rfl, ab, d⟩ := f.opn
  have af : Ch [] J cp := (ae.trans aR)
  refine ⟨af, ?_⟩
  refine dO 11 (Ye rfl rfl rfl ?_)
  have cr := s.ch0 aR
  refine Zy (off := 0) 1 cr sz44 rfl (us := [(.slice b (e ++ ((timT x (if (low - 1) > 0 then (low - 1) else 0) ((high - 1)).toNat).flat) ++ [(⟨4, 0, 0, 0⟩ : Token)]).length c)]) rfl rfl rfl rfl fun bA O aS => ?_
  have ct := aS.size
  have E := E.step aS (lS om)
  replace O : Blk bA L 44 [(.slice b (e ++ ((timT x (if (low - 1) > 0 then (low - 1) else 0) ((high - 1)).toNat).flat) ++ [(⟨4, 0, 0, 0⟩ : Token)]).length c)] := O
  have aT : Ch [] J bA := (af.step aS (fun i hm => by have ao := List.mem_singleton.1 hm; left; omega))
  refine ⟨aT, ?_⟩
  refine Yb (by kernel_rfl) ?_
  refine Zb ?_
  have cu := f.ch aS (dS a d om)
  exact B _ _ L (.slice b (e ++ ((timT x (if (low - 1) > 0 then (low - 1) else 0) ((high - 1)).toNat).flat) ++ [(⟨4, 0, 0, 0⟩ : Token)]).length c) (sC2 rfl rfl (sC1 rfl (Sub.nil _))) ((((((Ch.refl [] W3).trans aa).trans am).trans aq).trans aR).step aS (lS om)) cu (Lo.down a om) O om (fun hm => by have bv := a _ hm; have bw := d _ hm; omega)
 refine Ye rfl rfl rfl ?_
 refine Yr zr44 fun L bB s aU br => ?_
 have cv := aU.size
 have E := E.trans aU
 have bs := s.lt
 replace s : Blk bB L 44 [(.slice none 0 0)] := s
 have ag : Ch [] J bB := ((Ch.refl _ _).trans aU)
 refine ⟨ag, ?_⟩
 refine dO 7 (Ye rfl rfl rfl ?_)
 have bC := (((q.ch0 C2).ch0 C3).ch0 aa).ch0 aU
 refine Step.call (Zl (xs := [.tmp 12, .tmp 15, .tmp 17]) fk112 rfl) (ih bC _ _ x he hx (by split <;> omega) om om (by split <;> omega) om) fun ba cw j => ?_
 obtain ⟨bb, rfl, j, aI, au⟩ := j
 have cx := au.size
 have E := E.trans au
 obtain ⟨aJ, aK, rfl, aL, an⟩ := j.opn
 have ah : Ch [] J cw := (ag.trans au)
 refine ⟨ah, ?_⟩
 refine dO 9 (Ye rfl rfl rfl ?_)
 have cy := bC.ch0 au
 refine Step.call (Zl (xs := [.tmp 11, .tmp 18, .tmp 19]) fk111 rfl) (Qh cy j.ls ⟨4, 0, 0, 0⟩ (by have t := Zjl (x := x) (n := high - 1) (if low - 1 > 0 then low - 1 else 0) hx om; rw [Tr.flat_len]; omega)) fun aM cz f => ?_
 obtain ⟨aN, rfl, f, a, aV⟩ := f
 have cA := aV.size
 have E := E.trans aV
 obtain ⟨b, c, rfl, ab, d⟩ := f.opn
 have ai : Ch [] J cz := (ah.trans aV)
 refine ⟨ai, ?_⟩
 refine dO 11 (Ye rfl rfl rfl ?_)
 have cB := (s.ch0 au).ch0 aV
 refine Zy (off := 0) 1 cB sz44 rfl (us := [(.slice b (e ++ ((timT x (if (low - 1) > 0 then (low - 1) else 0) ((high - 1)).toNat).flat) ++ [(⟨4, 0, 0, 0⟩ : Token)]).length c)]) rfl rfl rfl rfl fun bD P aW => ?_
 have cC := aW.size
 have E := E.step aW (lS om)
 replace P : Blk bD L 44 [(.slice b (e ++ ((timT x (if (low - 1) > 0 then (low - 1) else 0) ((high - 1)).toNat).flat) ++ [(⟨4, 0, 0, 0⟩ : Token)]).length c)] := P
 have aX : Ch [] J bD := (ai.step aW (fun i hm => by have ao := List.mem_singleton.1 hm; left; omega))
 refine ⟨aX, ?_⟩
 refine Yb (by kernel_rfl) ?_
 refine Zb ?_
 have cD := f.ch aW (dS a d om)
 exact B _ _ L (.slice b (e ++ ((timT x (if (low - 1) > 0 then (low - 1) else 0) ((high - 1)).toNat).flat) ++ [(⟨4, 0, 0, 0⟩ : Token)]).length c) (sC2 rfl rfl (sC1 rfl (Sub.nil _))) ((((((Ch.refl [] W3).trans aa).trans aU).trans au).trans aV).step aW (lS om)) cD (Lo.down a om) P om (fun hm => by have bv := a _ hm; have bw := d _ hm; omega)
theorem Zim {w : World} {LL_e b : Nat} {a : Value} {e : List Token} (c : Ls Token.cs 4 w LL_e b a e) (low : Int) (high : Int) (x : Tr) (he : e = x.flat) (hx : x.sz ≤ 5000) (d : 0 ≤ low) (hh : 0 ≤ high) (f : high ≤ 3) (g : low ≤ 3) :
 Ctr Try.prog 112 #[(.agg #[a]), (.int .i64 low), (.int .i64 high)] w (fun v w' => ∃ u, v = .agg #[u] ∧ Ol Token.cs 84 4 w' u ((timT x low (high).toNat).flat) ∧ Lo w.heap.size u ∧ Ch [] w w') := Zgg _ c low high x he hx d hh f g (Nat.lt_succ_self _)

/-- spec.l8Start -/
theorem Zao {w : World} {LL_l m : Nat} {d : Value} {l : List Token} (a : Ls Token.cs 4 w LL_l m d l) (p : List Token) (t : Tr) (hok : Okd t) (hl : l = p ++ t.flat) :
 Ctr Try.prog 106 #[d] w (fun v w' => v = .int .i64 (((p.length : Nat) : Int)) ∧ Ch [] w w') := by
 obtain ⟨e, f, g⟩ := a.val
 subst g
 have A := a.len
 have a := a.here (by decide)
 have E := Ch.refl [] w
 refine Yh (N := 20) (vs0 := [(.slice e l.length f)]) Try.func106 rfl rfl rfl ?_
 refine Zg fun K1 H1 => ?_
 refine Zc (Za rfl rfl (Ze rfl) (Zf (Zb (H1 _ _ ?_))))
 refine Zg fun K2 H2 => ?_
 refine Zc (Za rfl rfl (Ze rfl) (Zf (Zb (H2 _ _ ?_))))
 refine Zg fun K3 H3 => ?_
 refine Zc (Za rfl rfl (Zd rfl) (Za rfl rfl (Xm (by rw [el42]; rfl) rfl) (Za rfl rfl (Ze rfl) (Zf (Zb (H3 _ _ ?_))))))
 refine Zg fun K4 H4 => ?_
 refine Yf ?_
 refine Xo (σ := Int × Int × List Tr) (fun ⟨n, k, ts⟩ => [(0, (.slice e l.length f)), (2, (.int .i64 0)), (3, (.int .i64 n)), (4, (.int .i64 k))]) (fun ⟨n, k, ts⟩ wx => Ch [] w wx ∧ w.heap.size ≤ wx.heap.size ∧ (0 ≤ k) ∧ (k ≤ l.length) ∧ (n = ts.length) ∧ (l.take k.toNat = p ++ Zdj ts) ∧ (∀ x ∈ ts, Okd x)) (fun ⟨n, k, ts⟩ => k.toNat) (1, (l.length : Int), [t]) (sC4 rfl rfl rfl rfl (Sub.nil _)) ⟨E, (Nat.le_refl _), om, om, rfl, (by rw [show ((l.length : Int)).toNat = l.length from by omega, List.take_length, hl]; simp [Zdj]), (fun x hx => by rw [List.mem_singleton.1 hx]; exact hok)⟩ ?_
 rintro ⟨n, k, ts⟩ R5 ⟨E, B, o, s, hn, hp, ho⟩
 have h := E
 have u := h.size
 have s1 := Zib hp o
 refine Zg fun K6 H6 => ?_
 refine Zg fun K7 H7 => ?_
 refine Zc (Za rfl rfl (Zd rfl) (Za rfl rfl (Zec rfl rfl) (Zf (Zb (H7 _ _ ?_)))))
 refine Zx rfl (fun b => ?_) (fun b => ?_)
 ·have C := b
  have b := Yo b
  refine Zu ?_
  refine Zb (H6 _ _ ?_)
  refine Yf ?_
  refine Zg fun K9 H9 => ?_
  refine Zc (Za rfl rfl (Zd rfl) (Za rfl rfl (Zbr om rfl rfl) (Za rfl rfl (Ze rfl) (Zf (Zb (H9 _ _ (Zc (Za rfl rfl (Zd rfl) ?_))))))))
  refine Za rfl rfl (Zbr om rfl rfl) (Za rfl rfl (Zd rfl) (Za rfl rfl (Zd rfl) (Zk rfl rfl ?_)))
  have D := a.ch0 h
  refine (Yy (j := (k - 1).toNat) D Token.len el42 sz84 rfl rfl om om fun F c i q => ?_)
  refine Za rfl rfl (Zt q agg84 sz84 rfl) (Zk rfl rfl ?_)
  refine Step.call (Zl (xs := [.tmp 16]) fk113 rfl) (Zen c ) fun G L r => ?_
  obtain ⟨rfl, y⟩ := r
  have H := y.size
  have E := E.trans y
  have I := Zbd c
  obtain ⟨s2, z, M, J⟩ := Zog hp ho om o s i
  have s3 := Zib z om
  refine Za rfl rfl (Yq om rfl rfl) (Za rfl rfl (Ze rfl) (Zf (Yc ?_)))
  exact Zb (Exists.intro (((n - 1) + arT c), (k - 1), s2) ⟨⟨E, om, om, om, om, z, J⟩, sC4 rfl rfl rfl rfl (Sub.nil _), (by first | omega | (dsimp only; omega))⟩)
 have C := b
 have b := Yp b
 refine Xk (Ya (Ya (Xd ?_)))
 refine Zb (H4 _ _ ?_)
 refine Zg fun O K => ?_
 refine Zc (Za rfl rfl (Zd rfl) (Za rfl rfl (Ze rfl) (Zf (Zb (K _ _ ?_)))))
 refine Zs ?_
 exact Zi [_] ⟨rfl, trivial⟩ ⟨congrArg (Value.int .i64) (Zqg hp hn om o s), E⟩

/-- spec.l10Expand -/
theorem Zfj : ∀ (n : Nat) {w : World} {LL_l az : Nat} {aj : Value} {l : List Token} (F : Ls Token.cs 4 w LL_l az aj l) (t : Tr) (hok : Okd t) (hl : l = t.flat) (hb : Qz t ≤ 5000) (hsz : l.length < n),
 Ctr Try.prog 73 #[aj] w (fun v w' => ∃ u, v = .agg #[u] ∧ Ol Token.cs 84 4 w' u ((Qe t).flat) ∧ Lo w.heap.size u ∧ Ch [] w w') := by
 intro n
 induction n with
 | zero => intros; omega
 | succ n ih =>
 intro w LL_l az aj l F t hok hl hb hsz
 obtain ⟨bv, bw, aA⟩ := F.val
 subst aA
 have cA := F.len
 have F := F.here (by decide)
 have E := Ch.refl [] w
 have cB := t.flat_pos; rw [← hl] at cB; have k2 := hok.len
 refine Yh (N := 56) (vs0 := [(.slice bv l.length bw)]) Try.func73 rfl rfl rfl ?_
 refine Zg fun K1 H1 => ?_
 refine Zc (Zk rfl rfl ?_)
 refine Yr zr44 fun e W2 U C2 d0 => ?_
 have d1 := C2.size
 have E := E.trans C2
 have d2 := U.lt
 replace U : Blk W2 e 44 [(.slice none 0 0)] := U
 refine Zf (Zb (H1 _ _ ?_))
 refine Zg fun K3 H3 => ?_
 refine Zc (Za rfl rfl (Zd rfl) (Za rfl rfl (Xm (by rw [el42]; rfl) rfl) (Za rfl rfl (Zbr om rfl rfl) (Za rfl rfl (Ze rfl) (Zf (Zb (H3 _ _ ?_)))))))
 refine Zg fun K4 H4 => ?_
 refine Zc (Za rfl rfl (Zd rfl) (Za rfl rfl (Zd rfl) (Zk rfl rfl ?_)))
 have F5 := F.ch0 C2
 refine (Yy (j := (((l.length : Nat) : Int) - 1).toNat) F5 Token.len el42 sz84 rfl rfl om om fun cC a aB bz => ?_)
 have d := Zkh hl om aB
 have htk := congrArg Token.kind d
 have hte := congrArg Token.letter d
 have htl := congrArg Token.low d
 have hth := congrArg Token.high d
 refine Za rfl rfl (Zt bz agg84 sz84 rfl) (Zk rfl rfl ?_)
 refine Yr zr84 fun ca W6 bf C6 d3 => ?_
 have d4 := C6.size
 have E := E.trans C6
 have d5 := bf.lt
 replace bf : Blk W6 ca 84 [(.int .i64 0), (.int .i64 0), (.int .i64 0), (.int .i64 0)] := bf
 refine Zk rfl rfl ?_
 refine Zy (off := 0) 4 bf sz84 rfl (us := [(.int .i64 a.kind), (.int .i64 a.letter), (.int .i64 a.low), (.int .i64 a.high)]) rfl rfl rfl rfl fun W7 p C7 => ?_
 have d6 := C7.size
 have E := E.step C7 (lS om)
 replace p : Blk W7 ca 84 [(.int .i64 a.kind), (.int .i64 a.letter), (.int .i64 a.low), (.int .i64 a.high)] := p
 refine Zf (Zb (H4 _ _ ?_))
 refine Zg fun K9 H9 => ?_
 refine Zg fun d7 cD => ?_
 refine Zc (Za rfl rfl (Zh fa84_0 rfl) (Za rfl rfl (Zp p.at_ agg3 rfl rfl) (Zf (Zb (cD _ _ ?_)))))
 refine Yf ?_
 refine Zg fun d8 cb => ?_
 refine Zg fun d9 cE => ?_
 refine Zc (Za rfl rfl (Xu rfl rfl) (Za rfl rfl (Ze rfl) (Zf (Zb (cE _ _ ?_)))))
 refine Zx rfl (fun c => ?_) (fun c => ?_)
 ·have aC := c
  have c := Yo c
  obtain ⟨ta, tb, et, oa, ob, hla, bA⟩ := hok.k2 om d hl
  have b : t.kids[0]? = some ta := by rw [et]; rfl
  have q : t.kids[1]? = some tb := by rw [et]; rfl
  have ga := ta.flat_len
  have gb := tb.flat_len
  have ba := Zfp hok hb b
  have ea := Zcn oa ba
  have fa := (Qe ta).flat_len
  have ra := Qq oa
  have bc := Zfp hok hb q
  have ec := Zcn ob bc
  have fc := (Qe tb).flat_len
  have rc := Qq ob
  refine Zu ?_
  refine Zb (cb _ _ ?_)
  refine Zcy rfl aC ?_
  refine Zg fun eb cF => ?_
  refine Zc (Za rfl rfl (Zd rfl) (Za rfl rfl (Zd rfl) (Zk rfl rfl ?_)))
  have cc := (F5.ch0 C6).ch C7 (oS om)
  refine (Zgs (ys := (ta.flat ++ tb.flat)) 0 ((((l.length : Nat) : Int) - 1).toNat) cc Token.len el42 sz84 rfl rfl ⟨_, _, rfl, by omega⟩ om om (show l.take _ = _ from Ziz hla om) fun bB s aD aE => ?_)
  obtain ⟨bC, bD, ak⟩ := s.val
  subst ak
  have bF := s.len
  refine Zk rfl rfl ?_
  refine Step.call (Zl (xs := [.tmp 20]) fk106 rfl) (Zao s ta.flat tb ob rfl) fun bG ed al => ?_
  obtain ⟨rfl, aF⟩ := al
  have cG := aF.size
  have E := E.trans aF
  refine Za rfl rfl (Ze rfl) (Zf (Zb (cF _ _ ?_)))
  refine Zg fun ee cH => ?_
  refine Yx [e] 12 mixed rfl fun bg aG => ?_
  have cI := aG.size
  have E := E.trans aG
  refine dV 0 rfl rfl rfl (fun _ => Zd rfl) (dV 1 rfl rfl rfl (fun _ => Zd rfl) ?_)
  have cd := (cc.ch0 aF).ch0 aG
  refine dT 2 rfl rfl rfl (Zhk (ys := ta.flat) 0 ta.flat.length cd Token.len el42 sz84 rfl rfl ⟨_, _, rfl, by omega⟩ om om (show l.take _ = _ from Znv hla om) fun bH x aH aI => ?_)
  obtain ⟨bI, bJ, am⟩ := x.val
  subst am
  have bK := x.len
  refine dV 4 rfl rfl rfl (fun _ => Zd rfl) (dV 5 rfl rfl rfl (fun _ => Zd rfl) (dV 6 rfl rfl rfl (fun _ => Zd rfl) ?_))
  refine dT 7 rfl rfl rfl (Zhk (ys := tb.flat) ta.flat.length ((((l.length : Nat) : Int) - 1).toNat) cd Token.len el42 sz84 rfl ⟨_, _, rfl, by omega⟩ ⟨_, _, rfl, by omega⟩ om om (Znu hla om om) fun bL y aJ aK => ?_)
  obtain ⟨bM, bN, an⟩ := y.val
  subst an
  have bO := y.len
  have cJ := (p.ch0 aF).ch0 aG
  refine dT 9 rfl rfl rfl (Zn cJ.at_ (oS om) agg84 sz84 rfl ?_)
  refine dO 3 (Ye rfl rfl rfl ?_)
  refine Step.call (Zl (xs := [.tmp 24]) fk73 rfl) (ih x ta oa rfl ba om) fun bP cK h => ?_
  obtain ⟨bQ, rfl, h, aL, aM⟩ := h
  have cL := aM.size
  have E := E.trans aM
  obtain ⟨aN, aO, rfl, aP, ao⟩ := h.opn
  have V : Ch [e] bg cK := ((Ch.refl _ _).trans aM.of_nil)
  refine ⟨V, ?_⟩
  refine dO 8 (Ye rfl rfl rfl ?_)
  have cM := y.ch0 aM
  refine Step.call (Zl (xs := [.tmp 29]) fk73 rfl) (ih cM tb ob rfl bc om) fun bR cN m => ?_
  obtain ⟨bS, rfl, m, aQ, aR⟩ := m
  have cO := aR.size
  have E := E.trans aR
  obtain ⟨aS, aT, rfl, aU, ap⟩ := m.opn
  have X : Ch [e] bg cN := (V.trans aR.of_nil)
  refine ⟨X, ?_⟩
  refine dO 10 (Ye rfl rfl rfl ?_)
  have cP := h.ch0 aR
  refine Step.call (Zl (xs := [.tmp 25, .tmp 30, .tmp 31]) fk111 rfl) (Qh cP.ls m.ls a om) fun bT cQ o => ?_
  obtain ⟨bU, rfl, o, r, bh⟩ := o
  have cR := bh.size
  have E := E.trans bh
  obtain ⟨f, g, rfl, aV, z⟩ := o.opn
  have Y : Ch [e] bg cQ := (X.trans bh.of_nil)
  refine ⟨Y, ?_⟩
  refine dO 11 (Ye rfl rfl rfl ?_)
  have cS := ((((((U.ch0 C6).ch C7 (nS om)).ch0 aF).ch0 aG).ch0 aM).ch0 aR).ch0 bh
  refine Zy (off := 0) 1 cS sz44 rfl (us := [(.slice f (((Qe ta).flat) ++ ((Qe tb).flat) ++ [a]).length g)]) rfl rfl rfl rfl fun bV G bi => ?_
  have cT := bi.size
  have E := E.step bi (lS om)
  replace G : Blk bV e 44 [(.slice f (((Qe ta).flat) ++ ((Qe tb).flat) ++ [a]).length g)] := G
  have aW : Ch [e] bg bV := (Y.step bi (fun i hm => by have aq := List.mem_singleton.1 hm; exact .inr (by rw [aq]; exact (List.mem_singleton.2 rfl))))
  refine ⟨aW, ?_⟩
  refine Yb (by kernel_rfl) ?_
  refine Zb (cH _ _ ?_)
  refine Zs (Yi (Zm ?_))
  have cU := o.ch bi (dS r z om)
  have aX : Ol Token.cs 84 4 bV (.slice f (((Qe ta).flat) ++ ((Qe tb).flat) ++ [a]).length g) ((Qe t).flat) := by
   have hx := cU
   exact hx.eq (by first | (rw [← exp2 hok om b q, d]; rfl) | (rw [← exp6 hok om b, d]; simp [Tr.flat]; done) | (rw [← exp7 hok om b, d]) | (rw [← exp0 hok om, d]; rfl))
  exact Zi [_] (Zz G rfl agg44 sz44 trivial) ⟨_, rfl, aX, Lo.down r om, E⟩
 have aC := c
 have c := Yp c
 refine Zc (Za rfl rfl (Xu rfl rfl) (Za rfl rfl (Ze rfl) (Zf (Zb (cb _ _ ?_)))))
 refine Zx rfl (fun c => ?_) (fun c => ?_)
 ·have bW := c
  have c := Yo c
  obtain ⟨ta, tb, et, oa, ob, hla, bA⟩ := hok.k2 om d hl
  have b : t.kids[0]? = some ta := by rw [et]; rfl
  have q : t.kids[1]? = some tb := by rw [et]; rfl
  have ga := ta.flat_len
  have gb := tb.flat_len
  have ba := Zfp hok hb b
  have ea := Zcn oa ba
  have fa := (Qe ta).flat_len
  have ra := Qq oa
  have bc := Zfp hok hb q
  have ec := Zcn ob bc
  have fc := (Qe tb).flat_len
  have rc := Qq ob
  refine Zg fun ef cV => ?_
  refine Zc (Za rfl rfl (Zd rfl) (Za rfl rfl (Zd rfl) (Zk rfl rfl ?_)))
  have ce := (F5.ch0 C6).ch C7 (oS om)
  refine (Zgs (ys := (ta.flat ++ tb.flat)) 0 ((((l.length : Nat) : Int) - 1).toNat) ce Token.len el42 sz84 rfl rfl ⟨_, _, rfl, by omega⟩ om om (show l.take _ = _ from Ziz hla om) fun bB s aD aE => ?_)
  obtain ⟨bC, bD, ak⟩ := s.val
  subst ak
  have bF := s.len
  refine Zk rfl rfl ?_
  refine Step.call (Zl (xs := [.tmp 20]) fk106 rfl) (Zao s ta.flat tb ob rfl) fun bG eg al => ?_
  obtain ⟨rfl, aY⟩ := al
  have cW := aY.size
  have E := E.trans aY
  refine Za rfl rfl (Ze rfl) (Zf (Zb (cV _ _ ?_)))
  refine Zg fun eh cX => ?_
  refine Yx [e] 12 mixed rfl fun bj aZ => ?_
  have cY := aZ.size
  have E := E.trans aZ
  refine dV 0 rfl rfl rfl (fun _ => Zd rfl) (dV 1 rfl rfl rfl (fun _ => Zd rfl) ?_)
  have cf := (ce.ch0 aY).ch0 aZ
  refine dT 2 rfl rfl rfl (Zhk (ys := ta.flat) 0 ta.flat.length cf Token.len el42 sz84 rfl rfl ⟨_, _, rfl, by omega⟩ om om (show l.take _ = _ from Znv hla om) fun bH x aH aI => ?_)
  obtain ⟨bI, bJ, am⟩ := x.val
  subst am
  have bK := x.len
  refine dV 4 rfl rfl rfl (fun _ => Zd rfl) (dV 5 rfl rfl rfl (fun _ => Zd rfl) (dV 6 rfl rfl rfl (fun _ => Zd rfl) ?_))
  refine dT 7 rfl rfl rfl (Zhk (ys := tb.flat) ta.flat.length ((((l.length : Nat) : Int) - 1).toNat) cf Token.len el42 sz84 rfl ⟨_, _, rfl, by omega⟩ ⟨_, _, rfl, by omega⟩ om om (Znu hla om om) fun bL y aJ aK => ?_)
  obtain ⟨bM, bN, an⟩ := y.val
  subst an
  have bO := y.len
  have cZ := (p.ch0 aY).ch0 aZ
  refine dT 9 rfl rfl rfl (Zn cZ.at_ (oS om) agg84 sz84 rfl ?_)
  refine dO 3 (Ye rfl rfl rfl ?_)
  refine Step.call (Zl (xs := [.tmp 24]) fk73 rfl) (ih x ta oa rfl ba om) fun bP c0 h => ?_
  obtain ⟨bQ, rfl, h, aL, a0⟩ := h
  have c1 := a0.size
  have E := E.trans a0
  obtain ⟨aN, aO, rfl, aP, ao⟩ := h.opn
  have Z : Ch [e] bj c0 := ((Ch.refl _ _).trans a0.of_nil)
  refine ⟨Z, ?_⟩
  refine dO 8 (Ye rfl rfl rfl ?_)
  have c2 := y.ch0 a0
  refine Step.call (Zl (xs := [.tmp 29]) fk73 rfl) (ih c2 tb ob rfl bc om) fun bR c3 m => ?_
  obtain ⟨bS, rfl, m, aQ, a1⟩ := m
  have c4 := a1.size
  have E := E.trans a1
  obtain ⟨aS, aT, rfl, aU, ap⟩ := m.opn
  have aa : Ch [e] bj c3 := (Z.trans a1.of_nil)
  refine ⟨aa, ?_⟩
  refine dO 10 (Ye rfl rfl rfl ?_)
  have c5 := h.ch0 a1
  refine Step.call (Zl (xs := [.tmp 25, .tmp 30, .tmp 31]) fk111 rfl) (Qh c5.ls m.ls a om) fun bT c6 o => ?_
  obtain ⟨bU, rfl, o, r, bk⟩ := o
  have c7 := bk.size
  have E := E.trans bk
  obtain ⟨f, g, rfl, aV, z⟩ := o.opn
  have ab : Ch [e] bj c6 := (aa.trans bk.of_nil)
  refine ⟨ab, ?_⟩
  refine dO 11 (Ye rfl rfl rfl ?_)
  have c8 := ((((((U.ch0 C6).ch C7 (nS om)).ch0 aY).ch0 aZ).ch0 a0).ch0 a1).ch0 bk
  refine Zy (off := 0) 1 c8 sz44 rfl (us := [(.slice f (((Qe ta).flat) ++ ((Qe tb).flat) ++ [a]).length g)]) rfl rfl rfl rfl fun bX H bm => ?_
  have c9 := bm.size
  have E := E.step bm (lS om)
  replace H : Blk bX e 44 [(.slice f (((Qe ta).flat) ++ ((Qe tb).flat) ++ [a]).length g)] := H
  have a2 : Ch [e] bj bX := (ab.step bm (fun i hm => by have aq := List.mem_singleton.1 hm; exact .inr (by rw [aq]; exact (List.mem_singleton.2 rfl))))
  refine ⟨a2, ?_⟩
  refine Yb (by kernel_rfl) ?_
  refine Zb (cX _ _ ?_)
  refine Zs (Yi (Zm ?_))
  have da := o.ch bm (dS r z om)
  have a3 : Ol Token.cs 84 4 bX (.slice f (((Qe ta).flat) ++ ((Qe tb).flat) ++ [a]).length g) ((Qe t).flat) := by
   have hx := da
   exact hx.eq (by first | (rw [← exp2 hok om b q, d]; rfl) | (rw [← exp6 hok om b, d]; simp [Tr.flat]; done) | (rw [← exp7 hok om b, d]) | (rw [← exp0 hok om, d]; rfl))
  exact Zi [_] (Zz H rfl agg44 sz44 trivial) ⟨_, rfl, a3, Lo.down r om, E⟩
 have bW := c
 have c := Yp c
 refine Zg fun ei db => ?_
 refine Zc (Za rfl rfl (Xu rfl rfl) (Za rfl rfl (Ze rfl) (Zf (Zb (db _ _ ?_)))))
 refine Zx rfl (fun A => ?_) (fun A => ?_)
 ·have bY := A
  have A := Yo A
  obtain ⟨ta, et, oa, hla, bA⟩ := hok.k1 om d hl
  have b : t.kids[0]? = some ta := by rw [et]; rfl
  have ga := ta.flat_len
  have ba := Zfp hok hb b
  have ea := Zcn oa ba
  have fa := (Qe ta).flat_len
  have ra := Qq oa
  refine Zg fun ej dc => ?_
  refine Yx [e] 8 mixed rfl fun bZ a4 => ?_
  have dd := a4.size
  have E := E.trans a4
  refine dV 0 rfl rfl rfl (fun _ => Zd rfl) (dV 1 rfl rfl rfl (fun _ => Zd rfl) ?_)
  have de := ((F5.ch0 C6).ch C7 (oS om)).ch0 a4
  refine dT 2 rfl rfl rfl (Zhk (ys := ta.flat) 0 ((((l.length : Nat) : Int) - 1).toNat) de Token.len el42 sz84 rfl rfl ⟨_, _, rfl, by omega⟩ om om (show l.take _ = _ from Zok hla om) fun df au cg ci => ?_)
  obtain ⟨dg, dh, b0⟩ := au.val
  subst b0
  have di := au.len
  refine dV 4 rfl rfl rfl (fun _ => Yt (parts := []) (cells := [(.slice none 0 0)]) zr44 pl44 rfl rfl) ?_
  have dj := p.ch0 a4
  refine dT 5 rfl rfl rfl (Zn dj.at_ (oS om) agg84 sz84 rfl ?_)
  refine dO 3 (Ye rfl rfl rfl ?_)
  refine Step.call (Zl (xs := [.tmp 37]) fk73 rfl) (ih au ta oa rfl ba om) fun dk dl Q => ?_
  obtain ⟨dm, rfl, Q, cj, bn⟩ := Q
  have dn := bn.size
  have E := E.trans bn
  obtain ⟨ck, cm, rfl, cn, b1⟩ := Q.opn
  have ac : Ch [e] bZ dl := ((Ch.refl _ _).trans bn.of_nil)
  refine ⟨ac, ?_⟩
  refine dO 6 (Ye rfl rfl rfl ?_)
  refine Step.call (Zl (xs := [.tmp 38, .tmp 39, .tmp 40]) fk111 rfl) (Qh Q.ls (Ls.nil (cs := Token.cs) (k := 4) _ 0 0) a (by simp only [List.length_nil]; omega)) fun dp dq R => ?_
  obtain ⟨dr, rfl, R, ad, bp⟩ := R
  have ds := bp.size
  have E := E.trans bp
  obtain ⟨I, J, rfl, co, av⟩ := R.opn
  have ae : Ch [e] bZ dq := (ac.trans bp.of_nil)
  refine ⟨ae, ?_⟩
  refine dO 7 (Ye rfl rfl rfl ?_)
  have dt := ((((U.ch0 C6).ch C7 (nS om)).ch0 a4).ch0 bn).ch0 bp
  refine Zy (off := 0) 1 dt sz44 rfl (us := [(.slice I (((Qe ta).flat) ++ [] ++ [a]).length J)]) rfl rfl rfl rfl fun b2 K bq => ?_
  have du := bq.size
  have E := E.step bq (lS om)
  replace K : Blk b2 e 44 [(.slice I (((Qe ta).flat) ++ [] ++ [a]).length J)] := K
  have a5 : Ch [e] bZ b2 := (ae.step bq (fun i hm => by have aq := List.mem_singleton.1 hm; exact .inr (by rw [aq]; exact (List.mem_singleton.2 rfl))))
  refine ⟨a5, ?_⟩
  refine Yb (by kernel_rfl) ?_
  refine Zb (dc _ _ ?_)
  refine Zs (Yi (Zm ?_))
  have dv := R.ch bq (dS ad av om)
  have a6 : Ol Token.cs 84 4 b2 (.slice I (((Qe ta).flat) ++ [] ++ [a]).length J) ((Qe t).flat) := by
   have hx := dv
   exact hx.eq (by first | (rw [← exp2 hok om b q, d]; rfl) | (rw [← exp6 hok om b, d]; simp [Tr.flat]; done) | (rw [← exp7 hok om b, d]) | (rw [← exp0 hok om, d]; rfl))
  exact Zi [_] (Zz K rfl agg44 sz44 trivial) ⟨_, rfl, a6, Lo.down ad om, E⟩
 have bY := A
 have A := Yp A
 refine Zg fun ek dw => ?_
 refine Zc (Za rfl rfl (Xu rfl rfl) (Za rfl rfl (Ze rfl) (Zf (Zb (dw _ _ ?_)))))
 refine Zx rfl (fun B => ?_) (fun B => ?_)
 ·have b3 := B
  have B := Yo B
  obtain ⟨ta, et, oa, hla, bA⟩ := hok.k1 om d hl
  have b : t.kids[0]? = some ta := by rw [et]; rfl
  have ga := ta.flat_len
  have ba := Zfp hok hb b
  have ea := Zcn oa ba
  have fa := (Qe ta).flat_len
  have ra := Qq oa
  have r7 := hok.r7 om
  refine Zg fun el dx => ?_
  refine Yx [e] 10 mixed rfl fun b4 a7 => ?_
  have dy := a7.size
  have E := E.trans a7
  refine dV 0 rfl rfl rfl (fun _ => Zd rfl) (dV 1 rfl rfl rfl (fun _ => Zd rfl) ?_)
  have dz := ((F5.ch0 C6).ch C7 (oS om)).ch0 a7
  refine dT 2 rfl rfl rfl (Zhk (ys := ta.flat) 0 ((((l.length : Nat) : Int) - 1).toNat) dz Token.len el42 sz84 rfl rfl ⟨_, _, rfl, by omega⟩ om om (show l.take _ = _ from Zok hla om) fun dA aw cp cq => ?_)
  obtain ⟨dB, dC, b5⟩ := aw.val
  subst b5
  have dD := aw.len
  refine dV 4 rfl rfl rfl (fun _ => Zh fa84_2 rfl) ?_
  have cr := p.ch0 a7
  refine dT 5 rfl rfl rfl (Xj cr.at_ (oS om) agg3 rfl rfl ?_)
  refine dV 6 rfl rfl rfl (fun _ => Zh fa84_3 rfl) ?_
  refine dT 7 rfl rfl rfl (Xj cr.at_ (oS om) agg3 rfl rfl ?_)
  refine dO 3 (Ye rfl rfl rfl ?_)
  refine Step.call (Zl (xs := [.tmp 46]) fk73 rfl) (ih aw ta oa rfl ba om) fun dE dF S => ?_
  obtain ⟨dG, rfl, S, ct, br⟩ := S
  have dH := br.size
  have E := E.trans br
  obtain ⟨cu, cv, rfl, cw, b6⟩ := S.opn
  have af : Ch [e] b4 dF := ((Ch.refl _ _).trans br.of_nil)
  refine ⟨af, ?_⟩
  refine dO 8 (Ye rfl rfl rfl ?_)
  refine Step.call (Zl (xs := [.tmp 47, .tmp 49, .tmp 51]) fk112 rfl) (Zim S.ls _ _ (Qe ta) rfl om om om om om) fun dI dJ T => ?_
  obtain ⟨dL, rfl, T, ag, bs⟩ := T
  have dM := bs.size
  have E := E.trans bs
  obtain ⟨L, M, rfl, cx, ax⟩ := T.opn
  have ah : Ch [e] b4 dJ := (af.trans bs.of_nil)
  refine ⟨ah, ?_⟩
  refine dO 9 (Ye rfl rfl rfl ?_)
  have dN := ((((U.ch0 C6).ch C7 (nS om)).ch0 a7).ch0 br).ch0 bs
  refine Zy (off := 0) 1 dN sz44 rfl (us := [(.slice L ((timT (Qe ta) a.low (a.high).toNat).flat).length M)]) rfl rfl rfl rfl fun b7 O bu => ?_
  have dP := bu.size
  have E := E.step bu (lS om)
  replace O : Blk b7 e 44 [(.slice L ((timT (Qe ta) a.low (a.high).toNat).flat).length M)] := O
  have a8 : Ch [e] b4 b7 := (ah.step bu (fun i hm => by have aq := List.mem_singleton.1 hm; exact .inr (by rw [aq]; exact (List.mem_singleton.2 rfl))))
  refine ⟨a8, ?_⟩
  refine Yb (by kernel_rfl) ?_
  refine Zb (dx _ _ ?_)
  refine Zs (Yi (Zm ?_))
  have dQ := T.ch bu (dS ag ax om)
  have a9 : Ol Token.cs 84 4 b7 (.slice L ((timT (Qe ta) a.low (a.high).toNat).flat).length M) ((Qe t).flat) := by
   have hx := dQ
   exact hx.eq (by first | (rw [← exp2 hok om b q, d]; rfl) | (rw [← exp6 hok om b, d]; simp [Tr.flat]; done) | (rw [← exp7 hok om b, d]) | (rw [← exp0 hok om, d]; rfl))
  exact Zi [_] (Zz O rfl agg44 sz44 trivial) ⟨_, rfl, a9, Lo.down ag om, E⟩
 have b3 := B
 have B := Yp B
 refine Zu ?_
 refine Yc (Zb (H9 _ _ ?_))
 refine Zg fun em dR => ?_
 refine Zc (Za rfl rfl (Zt p.at_ agg84 sz84 rfl) (Zk rfl rfl ?_))
 refine Zr (cs := Token.cs) (parts := [(0, .tmp 53)]) (⟨0, 0, 0, 0⟩ : Token) [a] el42 sz84 zr84 Token.len (by decide) rfl rfl rfl (by decide) (by decide) rfl fun dU en bb ai b8 => ?_
 have dW := b8.size
 have E := E.trans b8
 obtain ⟨C, D, rfl, cy, ay⟩ := bb.opn
 refine Za rfl rfl (Yt (parts := [(0, .tmp 54)]) (cells := [(.slice C ([a]).length D)]) zr44 pl44 rfl rfl) (Zk rfl rfl ?_)
 have dX := ((U.ch0 C6).ch C7 (nS om)).ch0 b8
 refine Zy (off := 0) 1 dX sz44 rfl (us := [(.slice C ([a]).length D)]) rfl rfl rfl rfl fun cz P b9 => ?_
 have dY := b9.size
 have E := E.step b9 (lS om)
 replace P : Blk cz e 44 [(.slice C ([a]).length D)] := P
 refine Zf (Zb (dR _ _ ?_))
 refine Zs ?_
 have dZ := bb.ch b9 (dS ai ay om)
 have be : Ol Token.cs 84 4 cz (.slice C ([a]).length D) ((Qe t).flat) := by
  have hx := dZ
  exact hx.eq (by first | (rw [← exp2 hok om b q, d]; rfl) | (rw [← exp6 hok om b, d]; simp [Tr.flat]; done) | (rw [← exp7 hok om b, d]) | (rw [← exp0 hok om, d]; rfl))
 exact Zi [_] (Zz P rfl agg44 sz44 trivial) ⟨_, rfl, be, Lo.down ai om, E⟩
theorem Zha {w : World} {LL_l b : Nat} {a : Value} {l : List Token} (c : Ls Token.cs 4 w LL_l b a l) (t : Tr) (hok : Okd t) (hl : l = t.flat) (hb : Qz t ≤ 5000) :
 Ctr Try.prog 73 #[a] w (fun v w' => ∃ u, v = .agg #[u] ∧ Ol Token.cs 84 4 w' u ((Qe t).flat) ∧ Lo w.heap.size u ∧ Ch [] w w') := Zfj _ c t hok hl hb (Nat.lt_succ_self _)

/-- spec.l10Size -/
theorem Zgw : ∀ (n : Nat) {w : World} {LL_l F : Nat} {s : Value} {l : List Token} (d : Ls Token.cs 4 w LL_l F s l) (t : Tr) (hok : Okd t) (hl : l = t.flat) (hsz : l.length < n),
 Ctr Try.prog 72 #[s] w (fun v w' => v = .int .i64 (Qz t) ∧ Ch [] w w') := by
 intro n
 induction n with
 | zero => intros; omega
 | succ n ih =>
 intro w LL_l F s l d t hok hl hsz
 obtain ⟨Y, Z, G⟩ := d.val
 subst G
 have aU := d.len
 have d := d.here (by decide)
 have E := Ch.refl [] w
 have aV := t.flat_pos; rw [← hl] at aV; have k2 := hok.len; have rb := Qq hok
 refine Yh (N := 54) (vs0 := [(.slice Y l.length Z)]) Try.func72 rfl rfl rfl ?_
 refine Zg fun K1 H1 => ?_
 refine Zc (Za rfl rfl (Ze rfl) (Zf (Zb (H1 _ _ ?_))))
 refine Zg fun K2 H2 => ?_
 refine Zc (Za rfl rfl (Zd rfl) (Za rfl rfl (Xm (by rw [el42]; rfl) rfl) (Za rfl rfl (Zbr om rfl rfl) (Za rfl rfl (Ze rfl) (Zf (Zb (H2 _ _ ?_)))))))
 refine Zg fun K3 H3 => ?_
 refine Zc (Za rfl rfl (Zd rfl) (Za rfl rfl (Zd rfl) (Zk rfl rfl ?_)))
 refine (Yy (j := (((l.length : Nat) : Int) - 1).toNat) d Token.len el42 sz84 rfl rfl om om fun aW c H aa => ?_)
 have m := Zkh hl om H
 have htk := congrArg Token.kind m
 have hte := congrArg Token.letter m
 have htl := congrArg Token.low m
 have hth := congrArg Token.high m
 refine Za rfl rfl (Zt aa agg84 sz84 rfl) (Zk rfl rfl ?_)
 refine Yr zr84 fun aI W4 T C4 bM => ?_
 have bN := C4.size
 have E := E.trans C4
 have bO := T.lt
 replace T : Blk W4 aI 84 [(.int .i64 0), (.int .i64 0), (.int .i64 0), (.int .i64 0)] := T
 refine Zk rfl rfl ?_
 refine Zy (off := 0) 4 T sz84 rfl (us := [(.int .i64 c.kind), (.int .i64 c.letter), (.int .i64 c.low), (.int .i64 c.high)]) rfl rfl rfl rfl fun W5 p C5 => ?_
 have bP := C5.size
 have E := E.step C5 (lS om)
 replace p : Blk W5 aI 84 [(.int .i64 c.kind), (.int .i64 c.letter), (.int .i64 c.low), (.int .i64 c.high)] := p
 refine Zf (Zb (H3 _ _ ?_))
 refine Zg fun K7 H7 => ?_
 refine Zg fun K8 H8 => ?_
 refine Zc (Za rfl rfl (Zh fa84_0 rfl) (Za rfl rfl (Zp p.at_ agg3 rfl rfl) (Zf (Zb (H8 _ _ ?_)))))
 refine Yf ?_
 refine Zg fun K9 H9 => ?_
 refine Zg fun bQ aX => ?_
 refine Zc (Za rfl rfl (Xu rfl rfl) (Za rfl rfl (Ze rfl) (Zf (Zb (aX _ _ ?_)))))
 refine Zx rfl (fun b => ?_) (fun b => ?_)
 ·have I := b
  have b := Yo b
  obtain ⟨ta, tb, et, oa, ob, hla, ab⟩ := hok.k2 om m hl
  have a : t.kids[0]? = some ta := by rw [et]; rfl
  have o : t.kids[1]? = some tb := by rw [et]; rfl
  have ga := ta.flat_len
  have gb := tb.flat_len
  have ra := Qq oa
  have rc := Qq ob
  refine Zu ?_
  refine Zb (H9 _ _ ?_)
  refine Zcy rfl I ?_
  refine Zg fun bR aY => ?_
  refine Zc (Za rfl rfl (Zd rfl) (Za rfl rfl (Zd rfl) (Zk rfl rfl ?_)))
  have aJ := (d.ch0 C4).ch C5 (oS om)
  refine (Zgs (ys := (ta.flat ++ tb.flat)) 0 ((((l.length : Nat) : Int) - 1).toNat) aJ Token.len el42 sz84 rfl rfl ⟨_, _, rfl, by omega⟩ om om (show l.take _ = _ from Ziz hla om) fun ac e J K => ?_)
  obtain ⟨ad, ae, u⟩ := e.val
  subst u
  have af := e.len
  refine Zk rfl rfl ?_
  refine Step.call (Zl (xs := [.tmp 20]) fk106 rfl) (Zao e ta.flat tb ob rfl) fun ag bS x => ?_
  obtain ⟨rfl, ah⟩ := x
  have aZ := ah.size
  have E := E.trans ah
  refine Za rfl rfl (Ze rfl) (Zf (Zb (aY _ _ ?_)))
  refine Zg fun bT a0 => ?_
  refine Yx [] 13 mixed rfl fun aK ai => ?_
  have a1 := ai.size
  have E := E.trans ai
  refine dV 0 rfl rfl rfl (fun _ => Zd rfl) (dV 1 rfl rfl rfl (fun _ => Zd rfl) ?_)
  have aL := (aJ.ch0 ah).ch0 ai
  refine dT 2 rfl rfl rfl (Zhk (ys := ta.flat) 0 ta.flat.length aL Token.len el42 sz84 rfl rfl ⟨_, _, rfl, by omega⟩ om om (show l.take _ = _ from Znv hla om) fun aj f L M => ?_)
  obtain ⟨ak, al, y⟩ := f.val
  subst y
  have am := f.len
  refine dV 4 rfl rfl rfl (fun _ => Zd rfl) (dV 5 rfl rfl rfl (fun _ => Zd rfl) (dV 6 rfl rfl rfl (fun _ => Zd rfl) ?_))
  refine dT 7 rfl rfl rfl (Zhk (ys := tb.flat) ta.flat.length ((((l.length : Nat) : Int) - 1).toNat) aL Token.len el42 sz84 rfl ⟨_, _, rfl, by omega⟩ ⟨_, _, rfl, by omega⟩ om om (Znu hla om om) fun an g O P => ?_)
  obtain ⟨ao, ap, z⟩ := g.val
  subst z
  have aq := g.len
  refine dO 3 (Ye rfl rfl rfl ?_)
  refine Step.call (Zl (xs := [.tmp 24]) fk72 rfl) (ih f ta oa rfl om) fun au a2 A => ?_
  obtain ⟨rfl, U⟩ := A
  have a3 := U.size
  have E := E.trans U
  have q : Ch [] aK a2 := ((Ch.refl _ _).trans U)
  refine ⟨q, ?_⟩
  refine dO 8 (Ye rfl rfl rfl ?_)
  have a4 := g.ch0 U
  refine Step.call (Zl (xs := [.tmp 29]) fk72 rfl) (ih a4 tb ob rfl om) fun av a5 B => ?_
  obtain ⟨rfl, aw⟩ := B
  have a6 := aw.size
  have E := E.trans aw
  have Q : Ch [] aK a5 := (q.trans aw)
  refine ⟨Q, ?_⟩
  refine dV 9 rfl rfl rfl (fun _ => Yq om rfl rfl) (dV 10 rfl rfl rfl (fun _ => Yq om rfl rfl) (dV 11 rfl rfl rfl (fun _ => Zrd rfl rfl) (dV 12 rfl rfl rfl (fun _ => Ze rfl) ?_)))
  refine Yb (by kernel_rfl) ?_
  refine Zb (a0 _ _ ?_)
  refine Zs (Yi (Zm ?_))
  exact Zi [_] ⟨rfl, trivial⟩ ⟨congrArg (Value.int .i64) (by first | exact bnd2 hok om a o | exact bnd6 hok om a | (rw [m]; exact bnd7 hok om a) | exact bnd0 hok om), E⟩
 have I := b
 have b := Yp b
 refine Zc (Za rfl rfl (Xu rfl rfl) (Za rfl rfl (Ze rfl) (Zf (Zb (H9 _ _ ?_)))))
 refine Zx rfl (fun b => ?_) (fun b => ?_)
 ·have ax := b
  have b := Yo b
  obtain ⟨ta, tb, et, oa, ob, hla, ab⟩ := hok.k2 om m hl
  have a : t.kids[0]? = some ta := by rw [et]; rfl
  have o : t.kids[1]? = some tb := by rw [et]; rfl
  have ga := ta.flat_len
  have gb := tb.flat_len
  have ra := Qq oa
  have rc := Qq ob
  refine Zg fun bU a7 => ?_
  refine Zc (Za rfl rfl (Zd rfl) (Za rfl rfl (Zd rfl) (Zk rfl rfl ?_)))
  have aM := (d.ch0 C4).ch C5 (oS om)
  refine (Zgs (ys := (ta.flat ++ tb.flat)) 0 ((((l.length : Nat) : Int) - 1).toNat) aM Token.len el42 sz84 rfl rfl ⟨_, _, rfl, by omega⟩ om om (show l.take _ = _ from Ziz hla om) fun ac e J K => ?_)
  obtain ⟨ad, ae, u⟩ := e.val
  subst u
  have af := e.len
  refine Zk rfl rfl ?_
  refine Step.call (Zl (xs := [.tmp 20]) fk106 rfl) (Zao e ta.flat tb ob rfl) fun ag bV x => ?_
  obtain ⟨rfl, ay⟩ := x
  have a8 := ay.size
  have E := E.trans ay
  refine Za rfl rfl (Ze rfl) (Zf (Zb (a7 _ _ ?_)))
  refine Zg fun bW a9 => ?_
  refine Yx [] 13 mixed rfl fun aN az => ?_
  have ba := az.size
  have E := E.trans az
  refine dV 0 rfl rfl rfl (fun _ => Zd rfl) (dV 1 rfl rfl rfl (fun _ => Zd rfl) ?_)
  have aO := (aM.ch0 ay).ch0 az
  refine dT 2 rfl rfl rfl (Zhk (ys := ta.flat) 0 ta.flat.length aO Token.len el42 sz84 rfl rfl ⟨_, _, rfl, by omega⟩ om om (show l.take _ = _ from Znv hla om) fun aj f L M => ?_)
  obtain ⟨ak, al, y⟩ := f.val
  subst y
  have am := f.len
  refine dV 4 rfl rfl rfl (fun _ => Zd rfl) (dV 5 rfl rfl rfl (fun _ => Zd rfl) (dV 6 rfl rfl rfl (fun _ => Zd rfl) ?_))
  refine dT 7 rfl rfl rfl (Zhk (ys := tb.flat) ta.flat.length ((((l.length : Nat) : Int) - 1).toNat) aO Token.len el42 sz84 rfl ⟨_, _, rfl, by omega⟩ ⟨_, _, rfl, by omega⟩ om om (Znu hla om om) fun an g O P => ?_)
  obtain ⟨ao, ap, z⟩ := g.val
  subst z
  have aq := g.len
  refine dO 3 (Ye rfl rfl rfl ?_)
  refine Step.call (Zl (xs := [.tmp 24]) fk72 rfl) (ih f ta oa rfl om) fun au bb A => ?_
  obtain ⟨rfl, V⟩ := A
  have bc := V.size
  have E := E.trans V
  have r : Ch [] aN bb := ((Ch.refl _ _).trans V)
  refine ⟨r, ?_⟩
  refine dO 8 (Ye rfl rfl rfl ?_)
  have be := g.ch0 V
  refine Step.call (Zl (xs := [.tmp 29]) fk72 rfl) (ih be tb ob rfl om) fun av bf B => ?_
  obtain ⟨rfl, aA⟩ := B
  have bg := aA.size
  have E := E.trans aA
  have R : Ch [] aN bf := (r.trans aA)
  refine ⟨R, ?_⟩
  refine dV 9 rfl rfl rfl (fun _ => Yq om rfl rfl) (dV 10 rfl rfl rfl (fun _ => Yq om rfl rfl) (dV 11 rfl rfl rfl (fun _ => Zrd rfl rfl) (dV 12 rfl rfl rfl (fun _ => Ze rfl) ?_)))
  refine Yb (by kernel_rfl) ?_
  refine Zb (a9 _ _ ?_)
  refine Zs (Yi (Zm ?_))
  exact Zi [_] ⟨rfl, trivial⟩ ⟨congrArg (Value.int .i64) (by first | exact bnd2 hok om a o | exact bnd6 hok om a | (rw [m]; exact bnd7 hok om a) | exact bnd0 hok om), E⟩
 have ax := b
 have b := Yp b
 refine Zg fun bX bh => ?_
 refine Zc (Za rfl rfl (Xu rfl rfl) (Za rfl rfl (Ze rfl) (Zf (Zb (bh _ _ ?_)))))
 refine Zx rfl (fun h => ?_) (fun h => ?_)
 ·have aB := h
  have h := Yo h
  obtain ⟨ta, et, oa, hla, ab⟩ := hok.k1 om m hl
  have a : t.kids[0]? = some ta := by rw [et]; rfl
  have ga := ta.flat_len
  have ra := Qq oa
  refine Zg fun bY bi => ?_
  refine Zc (Za rfl rfl (Zd rfl) (Za rfl rfl (Zd rfl) (Zk rfl rfl ?_)))
  have bj := (d.ch0 C4).ch C5 (oS om)
  refine (Zgs (ys := ta.flat) 0 ((((l.length : Nat) : Int) - 1).toNat) bj Token.len el42 sz84 rfl rfl ⟨_, _, rfl, by omega⟩ om om (show l.take _ = _ from Zok hla om) fun bk C aP aQ => ?_)
  obtain ⟨bm, bn, aC⟩ := C.val
  subst aC
  have bp := C.len
  refine Zk rfl rfl ?_
  refine Step.call (Zl (xs := [.tmp 38]) fk72 rfl) (ih C ta oa rfl om) fun bq bZ aD => ?_
  obtain ⟨rfl, aR⟩ := aD
  have br := aR.size
  have E := E.trans aR
  refine Za rfl rfl (Yq om rfl rfl) (Za rfl rfl (Zrd rfl rfl) (Za rfl rfl (Ze rfl) (Zf (Zb (bi _ _ ?_)))))
  refine Zs (Yi (Zm ?_))
  exact Zi [_] ⟨rfl, trivial⟩ ⟨congrArg (Value.int .i64) (by first | exact bnd2 hok om a o | exact bnd6 hok om a | (rw [m]; exact bnd7 hok om a) | exact bnd0 hok om), E⟩
 have aB := h
 have h := Yp h
 refine Zg fun b0 bs => ?_
 refine Zc (Za rfl rfl (Xu rfl rfl) (Za rfl rfl (Ze rfl) (Zf (Zb (bs _ _ ?_)))))
 refine Zx rfl (fun k => ?_) (fun k => ?_)
 ·have aE := k
  have k := Yo k
  obtain ⟨ta, et, oa, hla, ab⟩ := hok.k1 om m hl
  have a : t.kids[0]? = some ta := by rw [et]; rfl
  have ga := ta.flat_len
  have ra := Qq oa
  have r7 := hok.r7 om
  refine Zg fun b1 bu => ?_
  refine Yx [] 11 mixed rfl fun bv X => ?_
  have bw := X.size
  have E := E.trans X
  refine dV 0 rfl rfl rfl (fun _ => Zd rfl) (dV 1 rfl rfl rfl (fun _ => Zd rfl) ?_)
  have bz := ((d.ch0 C4).ch C5 (oS om)).ch0 X
  refine dT 2 rfl rfl rfl (Zhk (ys := ta.flat) 0 ((((l.length : Nat) : Int) - 1).toNat) bz Token.len el42 sz84 rfl rfl ⟨_, _, rfl, by omega⟩ om om (show l.take _ = _ from Zok hla om) fun bA D aS aT => ?_)
  obtain ⟨bB, bC, aF⟩ := D.val
  subst aF
  have bD := D.len
  refine dV 5 rfl rfl rfl (fun _ => Zh fa84_3 rfl) ?_
  have bF := p.ch0 X
  refine dT 6 rfl rfl rfl (Xj bF.at_ (fun i hi => absurd hi List.not_mem_nil) agg3 rfl rfl ?_)
  refine dO 3 (Ye rfl rfl rfl ?_)
  refine Step.call (Zl (xs := [.tmp 46]) fk72 rfl) (ih D ta oa rfl om) fun bG bH aG => ?_
  obtain ⟨rfl, aH⟩ := aG
  have bI := aH.size
  have E := E.trans aH
  have S : Ch [] bv bH := ((Ch.refl _ _).trans aH)
  refine ⟨S, ?_⟩
  refine dV 4 rfl rfl rfl (fun _ => Yq om rfl rfl) (dV 7 rfl rfl rfl (fun _ => Zrg (by (have bJ := Int.mul_nonneg (show 0 ≤ Qz ta + 3 by omega) (show 0 ≤ c.high by omega); have bK := Int.mul_le_mul (show Qz ta + 3 ≤ 100003 by omega) (show c.high ≤ 3 by omega) om om; omega)) rfl rfl) (dV 8 rfl rfl rfl (fun _ => Yq (by (have bJ := Int.mul_nonneg (show 0 ≤ Qz ta + 3 by omega) (show 0 ≤ c.high by omega); have bK := Int.mul_le_mul (show Qz ta + 3 ≤ 100003 by omega) (show c.high ≤ 3 by omega) om om; omega)) rfl rfl) (dV 9 rfl rfl rfl (fun _ => Zrd rfl rfl) (dV 10 rfl rfl rfl (fun _ => Ze rfl) ?_))))
  refine Yb (by kernel_rfl) ?_
  refine Zb (bu _ _ ?_)
  refine Zs (Yi (Zm ?_))
  exact Zi [_] ⟨rfl, trivial⟩ ⟨congrArg (Value.int .i64) (by first | exact bnd2 hok om a o | exact bnd6 hok om a | (rw [m]; exact bnd7 hok om a) | exact bnd0 hok om), E⟩
 have aE := k
 have k := Yp k
 refine Zu ?_
 refine Yc (Zb (H7 _ _ ?_))
 refine Zg fun b2 bL => ?_
 refine Zc (Za rfl rfl (Ze rfl) (Zf (Zb (bL _ _ ?_))))
 refine Zs ?_
 exact Zi [_] ⟨rfl, trivial⟩ ⟨congrArg (Value.int .i64) (by first | exact bnd2 hok om a o | exact bnd6 hok om a | (rw [m]; exact bnd7 hok om a) | exact bnd0 hok om), E⟩
theorem Zir {w : World} {LL_l b : Nat} {a : Value} {l : List Token} (c : Ls Token.cs 4 w LL_l b a l) (t : Tr) (hok : Okd t) (hl : l = t.flat) :
 Ctr Try.prog 72 #[a] w (fun v w' => v = .int .i64 (Qz t) ∧ Ch [] w w') := Zgw _ c t hok hl (Nat.lt_succ_self _)

/-- spec.ExpandExpr -/
theorem Zga {w : World} {LL_e O : Nat} {y : Value} {e : List Token} (j : Ls Token.cs 4 w LL_e O y e) (hb : e.length ≤ 1048576) :
 Ctr Try.prog 29 #[(.agg #[y])] w (fun v w' => ∃ (t : Value), v = .tuple #[.agg #[t], .bool ((expE e).2)] ∧ Ol Token.cs 84 4 w' t ((expE e).1) ∧ Lo w.heap.size t ∧ Ch [] w w') := by
 obtain ⟨z, A, B⟩ := j.val
 subst B
 have af := j.len
 have j := j.here (by decide)
 have E := Ch.refl [] w
 refine Yh (N := 24) (vs0 := [(.agg #[(.slice z e.length A)])]) Try.func29 rfl rfl rfl ?_
 refine Zg fun K1 H1 => ?_
 refine Zc (Zk rfl rfl ?_)
 refine Xw rfl fun ag W2 K C2 aO => ?_
 have aP := C2.size
 have E := E.trans C2
 have aQ := K.lt
 replace K : Blk W2 ag 44 [(.slice z e.length A)] := K
 refine Zk rfl rfl ?_
 refine Yr zr44 fun C W3 u C3 aR => ?_
 have aS := C3.size
 have E := E.trans C3
 have aT := u.lt
 replace u : Blk W3 C 44 [(.slice none 0 0)] := u
 refine Za rfl rfl (Ze rfl) (Zf (Zb (H1 _ _ ?_)))
 refine Zg fun K4 H4 => ?_
 refine Zg fun K5 H5 => ?_
 refine Zc ?_
 have F6 := K.ch0 C3
 refine Za rfl rfl (Zt F6.at_ agg44 sz44 rfl) (Zk rfl rfl ?_)
 have F7 := (j.ch0 C2).ch0 C3
 refine Step.call (Zl (xs := [.tmp 5]) fk31 rfl) (Zbf F7 ) fun aU W8 ah => ?_
 obtain ⟨rfl, C8⟩ := ah
 have aV := C8.size
 have E := E.trans C8
 refine Za rfl rfl (Xi rfl) (Za rfl rfl (Zd rfl) ?_)
 refine Ym (d := 8) rfl (fun f => ?_) (fun f => ?_)
 ·have ai := f
  have f := Qf f
  refine Zj rfl rfl (Zj rfl rfl (Zj rfl rfl (Zj rfl rfl (Za rfl rfl (Zw rfl rfl) (Zf (Zb (H5 _ _ ?_)))))))
  refine Xl rfl ?_
  refine Zg fun aW aj => ?_
  refine Zc (Za rfl rfl (Yt (parts := []) (cells := [(.slice none 0 0)]) zr44 pl44 rfl rfl) (Zk rfl rfl ?_))
  have ak := u.ch0 C8
  refine Zy (off := 0) 1 ak sz44 rfl (us := [(.slice none 0 0)]) rfl rfl rfl rfl fun P l X => ?_
  have al := X.size
  have E := E.step X (lS om)
  replace l : Blk P C 44 [(.slice none 0 0)] := l
  refine Za rfl rfl (Ze rfl) (Zf (Zb (aj _ _ ?_)))
  refine Zs (Zm ?_)
  have D : Ol Token.cs 84 4 P (.slice none 0 0) ((expE e).1) := by
   have hx := Ol.nil (cs := Token.cs) (e := 84) (k := 4) P
   first | (rw [Zej f]; exact hx) | (rw [Zcm a om]; exact hx) | (rw [Zck a (by rw [← Tr.flat_len]; omega)]; exact hx) | (rw [Zeh a om om (by rw [← Tr.flat_len]; omega)]; exact hx)
  exact Zi [_, _] (Zz l rfl agg44 sz44 ⟨rfl, trivial⟩) ⟨(.slice none 0 0), (congrArg (fun zq => (Value.tuple #[.agg #[(.slice none 0 0)], .bool zq])) (by first | (rw [Zej f]; done) | (rw [Zcm a om]; done) | (rw [Zck a (by rw [← Tr.flat_len]; omega)]; done) | (rw [Zeh a om om (by rw [← Tr.flat_len]; omega)]; done))), D, (Lo.nil _), E⟩
 have ai := f
 have f := Qg f
 obtain ⟨r, a, hok, hl, am⟩ := Ztq f
 refine Za rfl rfl (Zh fa44_0 rfl) ?_
 have Y := F6.ch0 C8
 refine Za rfl rfl (Zp Y.at_ agg42 rfl rfl) (Zk rfl rfl ?_)
 have Z := F7.ch0 C8
 refine Step.call (Zl (xs := [.tmp 10]) fk72 rfl) (Zir Z r hok hl) fun an aX Q => ?_
 obtain ⟨rfl, x⟩ := Q
 have ao := x.size
 have E := E.trans x
 refine Za rfl rfl (Zec rfl rfl) (Za rfl rfl (Zv rfl rfl) (Zf (Zb (H5 _ _ ?_))))
 refine Zx rfl (fun g => ?_) (fun g => ?_)
 ·have R := g
  have g := Yo g
  refine Zg fun aY ap => ?_
  refine Zc (Za rfl rfl (Yt (parts := []) (cells := [(.slice none 0 0)]) zr44 pl44 rfl rfl) (Zk rfl rfl ?_))
  have aq := (u.ch0 C8).ch0 x
  refine Zy (off := 0) 1 aq sz44 rfl (us := [(.slice none 0 0)]) rfl rfl rfl rfl fun S m aa => ?_
  have au := aa.size
  have E := E.step aa (lS om)
  replace m : Blk S C 44 [(.slice none 0 0)] := m
  refine Za rfl rfl (Ze rfl) (Zf (Zb (ap _ _ ?_)))
  refine Zs (Zm ?_)
  have F : Ol Token.cs 84 4 S (.slice none 0 0) ((expE e).1) := by
   have hx := Ol.nil (cs := Token.cs) (e := 84) (k := 4) S
   first | (rw [Zej f]; exact hx) | (rw [Zcm a om]; exact hx) | (rw [Zck a (by rw [← Tr.flat_len]; omega)]; exact hx) | (rw [Zeh a om om (by rw [← Tr.flat_len]; omega)]; exact hx)
  exact Zi [_, _] (Zz m rfl agg44 sz44 ⟨rfl, trivial⟩) ⟨(.slice none 0 0), (congrArg (fun zq => (Value.tuple #[.agg #[(.slice none 0 0)], .bool zq])) (by first | (rw [Zej f]; done) | (rw [Zcm a om]; done) | (rw [Zck a (by rw [← Tr.flat_len]; omega)]; done) | (rw [Zeh a om om (by rw [← Tr.flat_len]; omega)]; done))), F, (Lo.nil _), E⟩
 have R := g
 have g := Yp g
 refine Zu ?_
 refine Zb (H4 _ _ ?_)
 refine Zg fun aZ av => ?_
 refine Zc (Za rfl rfl (Zh fa44_0 rfl) ?_)
 have aw := Y.ch0 x
 refine Za rfl rfl (Zp aw.at_ agg42 rfl rfl) (Zk rfl rfl ?_)
 have ax := Z.ch0 x
 refine Step.call (Zl (xs := [.tmp 16]) fk73 rfl) (Zha ax r hok hl om) fun ay a0 s => ?_
 obtain ⟨az, rfl, s, n, L⟩ := s
 have aA := L.size
 have E := E.trans L
 obtain ⟨b, c, rfl, ab, o⟩ := s.opn
 refine Zk rfl rfl ?_
 refine Yr zr44 fun ac aB M G a1 => ?_
 have aC := G.size
 have E := E.trans G
 have a2 := M.lt
 replace M : Blk aB ac 44 [(.slice none 0 0)] := M
 refine Zk rfl rfl ?_
 refine Zy (off := 0) 1 M sz44 rfl (us := [(.slice b ((Qe r).flat).length c)]) rfl rfl rfl rfl fun aD i H => ?_
 have aE := H.size
 have E := E.step H (lS om)
 replace i : Blk aD ac 44 [(.slice b ((Qe r).flat).length c)] := i
 refine Zf (Zb (av _ _ ?_))
 refine Zg fun a3 aF => ?_
 refine Zg fun a4 aG => ?_
 refine Zc (Za rfl rfl (Zh fa44_0 rfl) (Za rfl rfl (Zp i.at_ agg42 rfl rfl) (Za rfl rfl (Xm (by rw [el42]; rfl) rfl) (Za rfl rfl (Zec rfl rfl) (Zf (Zb (aG _ _ ?_)))))))
 refine Zx rfl (fun h => ?_) (fun h => ?_)
 ·have T := h
  have h := Yo h
  refine Zg fun a5 aH => ?_
  refine Zc (Za rfl rfl (Yt (parts := []) (cells := [(.slice none 0 0)]) zr44 pl44 rfl rfl) (Zk rfl rfl ?_))
  have aI := ((((u.ch0 C8).ch0 x).ch0 L).ch0 G).ch H (nS om)
  refine Zy (off := 0) 1 aI sz44 rfl (us := [(.slice none 0 0)]) rfl rfl rfl rfl fun U p ad => ?_
  have aJ := ad.size
  have E := E.step ad (lS om)
  replace p : Blk U C 44 [(.slice none 0 0)] := p
  refine Za rfl rfl (Ze rfl) (Zf (Zb (aH _ _ ?_)))
  refine Zs (Zm ?_)
  have I : Ol Token.cs 84 4 U (.slice none 0 0) ((expE e).1) := by
   have hx := Ol.nil (cs := Token.cs) (e := 84) (k := 4) U
   first | (rw [Zej f]; exact hx) | (rw [Zcm a om]; exact hx) | (rw [Zck a (by rw [← Tr.flat_len]; omega)]; exact hx) | (rw [Zeh a om om (by rw [← Tr.flat_len]; omega)]; exact hx)
  exact Zi [_, _] (Zz p rfl agg44 sz44 ⟨rfl, trivial⟩) ⟨(.slice none 0 0), (congrArg (fun zq => (Value.tuple #[.agg #[(.slice none 0 0)], .bool zq])) (by first | (rw [Zej f]; done) | (rw [Zcm a om]; done) | (rw [Zck a (by rw [← Tr.flat_len]; omega)]; done) | (rw [Zeh a om om (by rw [← Tr.flat_len]; omega)]; done))), I, (Lo.nil _), E⟩
 have T := h
 have h := Yp h
 refine Zu ?_
 refine Zb (aF _ _ ?_)
 refine Zg fun a6 aK => ?_
 refine Zc (Za rfl rfl (Zt i.at_ agg44 sz44 rfl) (Zk rfl rfl ?_))
 have aL := ((((u.ch0 C8).ch0 x).ch0 L).ch0 G).ch H (nS om)
 refine Zy (off := 0) 1 aL sz44 rfl (us := [(.slice b ((Qe r).flat).length c)]) rfl rfl rfl rfl fun ae q V => ?_
 have aM := V.size
 have E := E.step V (lS om)
 replace q : Blk ae C 44 [(.slice b ((Qe r).flat).length c)] := q
 refine Za rfl rfl (Ze rfl) (Zf (Zb (aK _ _ ?_)))
 refine Zs ?_
 have aN := ((s.ch0 G).ch H (dS n o om)).ch V (dS n o om)
 have J : Ol Token.cs 84 4 ae (.slice b ((Qe r).flat).length c) ((expE e).1) := by
  have hx := aN
  first | (rw [Zej f]; exact hx) | (rw [Zcm a om]; exact hx) | (rw [Zck a (by rw [← Tr.flat_len]; omega)]; exact hx) | (rw [Zeh a om om (by rw [← Tr.flat_len]; omega)]; exact hx)
 exact Zi [_, _] (Zz q rfl agg44 sz44 ⟨rfl, trivial⟩) ⟨(.slice b ((Qe r).flat).length c), (congrArg (fun zq => (Value.tuple #[.agg #[(.slice b ((Qe r).flat).length c)], .bool zq])) (by first | (rw [Zej f]; done) | (rw [Zcm a om]; done) | (rw [Zck a (by rw [← Tr.flat_len]; omega)]; done) | (rw [Zeh a om om (by rw [← Tr.flat_len]; omega)]; done))), J, (Lo.down n om), E⟩

/-- spec.l10Link -/
theorem Zeo {w : World} {b_p t_p L_p : Nat} {c : Value} {t : List Int} {Q : Int} {R : Int} {d : Value} {e : List Int} {S : Bool} (m_p : Blk w b_p t_p [c, (.int .i64 Q), (.int .i64 R), d, (.bool S)]) (af : L_p ≤ b_p) (y : Ol ics 3 1 w c t) (B : b_p ∉ bl c) (T : Lo L_p c) (z : Ol ics 3 1 w d e) (p : b_p ∉ bl d) (U : Lo L_p d) (o : ∀ g ∈ bl c, g ∉ bl d) (l : Int) (f : Int) (hb : e.length ≤ 4194304) :
 Ctr Try.prog 107 #[(.pointer (some ⟨b_p, 0, none⟩)), (.int .i64 l), (.int .i64 f)] w (fun v w' => ∃ (F G : Value), v = .tuple #[] ∧ Blk w' b_p t_p [F, .int .i64 Q, .int .i64 R, G, .bool S] ∧ Ol ics 3 1 w' F (t) ∧ (∀ g ∈ bl F, w.heap.size ≤ g ∨ g ∈ (b_p :: (bl c ++ bl d))) ∧ b_p ∉ bl F ∧ Ol ics 3 1 w' G (lkL l f e) ∧ (∀ g ∈ bl G, w.heap.size ≤ g ∨ g ∈ (b_p :: (bl c ++ bl d))) ∧ b_p ∉ bl G ∧ (∀ g ∈ bl F, g ∉ bl G) ∧ Ch (b_p :: (bl c ++ bl d)) w w') := by
 obtain ⟨h, m, rfl, ag, V⟩ := y.opn
 obtain ⟨a, b, rfl, ah, X⟩ := z.opn
 have ai := m_p.lt
 have E := Ch.refl (b_p :: (bl (.slice h t.length m) ++ bl (.slice a e.length b))) w
 refine Yh (N := 36) (vs0 := [(.pointer (some ⟨b_p, 0, none⟩)), (.int .i64 l), (.int .i64 f)]) Try.func107 rfl rfl rfl ?_
 refine Zg fun K1 H1 => ?_
 refine Zc (Za rfl rfl (Ze rfl) (Zf (Zb (H1 _ _ ?_))))
 refine Yf ?_
 have H : Ol ics 3 1 w (.slice a e.length b) (lkN l f e 0) := by
  have hx := z
  exact hx
 refine Xo (σ := Nat) (fun (k : Nat) => [(0, (.pointer (some ⟨b_p, 0, none⟩))), (1, (.int .i64 l)), (2, (.int .i64 f)), (6, (.int .i64 ((k : Nat) : Int)))]) (fun (k : Nat) wx => Ch (b_p :: (bl (.slice h t.length m) ++ bl (.slice a e.length b))) w wx ∧ w.heap.size ≤ wx.heap.size ∧ (k ≤ e.length) ∧ Blk wx b_p t_p [(.slice h t.length m), (.int .i64 Q), (.int .i64 R), (.slice a e.length b), (.bool S)] ∧ Ol ics 3 1 wx (.slice h t.length m) t ∧ Ol ics 3 1 wx (.slice a e.length b) (lkN l f e k)) (fun (k : Nat) => e.length - k) 0 (sC4 rfl rfl rfl rfl (Sub.nil _)) ⟨E, (Nat.le_refl _), om, m_p, y, H⟩ ?_
 rintro k R3 ⟨E, an, aD, q, u, r⟩
 have Y := E
 have aj := Y.size
 have Z := q.lt
 have ao := Zhy l f e k
 refine Zg fun K4 H4 => ?_
 refine Zg fun K5 H5 => ?_
 refine Zc (Za rfl rfl (Zd rfl) (Za rfl rfl (Zd rfl) (Za rfl rfl (Qc rfl) (Za rfl rfl (Zh fa48_3 rfl) (Za rfl rfl (Zp q.at_ agg30 rfl rfl) (Za rfl rfl (Xm (by rw [el30]; rfl) rfl) (Za rfl rfl (Xv rfl rfl) ?_)))))))
 refine Zf (Zb (H5 _ _ ?_))
 refine Zx rfl (fun s => ?_) (fun s => ?_)
 ·have ap := s
  have s := Yo s
  refine Zu ?_
  refine Zb (H4 _ _ ?_)
  refine Zg fun K7 H7 => ?_
  refine Yf ?_
  refine Zg fun K8 H8 => ?_
  refine Zc (Za rfl rfl (Zd rfl) (Za rfl rfl (Zd rfl) (Za rfl rfl (Zjk om rfl rfl) (Za rfl rfl (Zgu rfl rfl) (Za rfl rfl (Xu rfl rfl) (Zf (Zb (H8 _ _ ?_))))))))
  refine Zx rfl (fun n => ?_) (fun n => ?_)
  ·have aq := n
   have n := Yo n
   refine Yx (bl (.slice a e.length b)) 16 mixed rfl fun au I => ?_
   have av := I.size
   have E := E.trans I.of_nil
   refine dV 0 rfl rfl rfl (fun _ => Zd rfl) (dV 1 rfl rfl rfl (fun _ => Qc rfl) (dV 2 rfl rfl rfl (fun _ => Zh fa48_3 rfl) ?_))
   have aa := q.ch0 I
   refine dT 3 rfl rfl rfl (Xj aa.at_ (fun i hm => by rcases Nat.lt_trichotomy i b_p with x | x | x; (exact .inl x); (exact absurd (x ▸ hm) p); (exact .inr x)) agg30 rfl rfl ?_)
   refine dV 4 rfl rfl rfl (fun _ => Zd rfl) (dV 5 rfl rfl rfl (fun _ => Zd rfl) (dV 6 rfl rfl rfl (fun _ => Qc rfl) (dV 7 rfl rfl rfl (fun _ => Zh fa48_3 rfl) ?_)))
   refine dT 8 rfl rfl rfl (Xj aa.at_ (fun i hm => by rcases Nat.lt_trichotomy i b_p with x | x | x; (exact .inl x); (exact absurd (x ▸ hm) p); (exact .inr x)) agg30 rfl rfl ?_)
   refine dV 9 rfl rfl rfl (fun _ => Zd rfl) (dV 12 rfl rfl rfl (fun _ => Zd rfl) (dO 10 (Ye rfl rfl rfl ?_)))
   have ab := r.ch0 I
   refine (Yy ab.ls Yl el30 sz3 rfl rfl rfl om fun aw ac A ad => ?_)
   refine ⟨(Ch.refl _ _), ?_⟩
   refine dO 11 (Ye rfl rfl rfl ?_)
   refine s_v (Yk ad agg3 rfl rfl) ?_
   refine ⟨(Ch.refl _ _), ?_⟩
   refine dV 13 rfl rfl rfl (fun _ => r_or rfl rfl) (dO 14 (Ye rfl rfl rfl ?_))
   refine Zez (j := k) ab el30 sz3 rfl rfl rfl (by have ax := Zhy l f e k; omega) fun ay az ak ae => ?_
   refine ⟨(Ch.refl _ _), ?_⟩
   refine dO 15 (Ye rfl rfl rfl ?_)
   refine Zey (j := k) (ior ac f) ab ae Yl sz3 rfl rfl rfl rfl (by have ax := Zhy l f e k; omega) fun al J K => ?_
   have aA := K.size
   have E := E.step K (fun i hm => by exact (.inr (List.mem_cons_of_mem _ (List.mem_append_right _ hm))))
   have L : Ch (bl (.slice a e.length b)) au al := ((Ch.refl _ _).step K (fun i hm => by exact .inr hm))
   refine ⟨L, ?_⟩
   refine Yb (by kernel_rfl) ?_
   refine Yc (Zb (H7 _ _ (Zc (Za rfl rfl (Zd rfl) (Za rfl rfl (Yq om rfl rfl) (Za rfl rfl (Ze rfl) (Zf ?_)))))))
   have C : Ol ics 3 1 al (.slice a e.length b) (lkN l f e (k + 1)) := by
    have hx := J
    first | exact hx.eq (Zvh n A) | exact hx.eq (Zvd n)
   have aB := aa.ch K (fun hm => by exact p (by first | exact hm | exact am ▸ hm))
   have aC := (u.ch0 I).ch K (fun g hg hm => by exact o _ hg hm)
   exact Zb (Exists.intro (k + 1) ⟨⟨E, om, om, aB, aC, C⟩, sC4 rfl rfl rfl rfl (Sub.nil _), (by first | omega | (dsimp only; omega))⟩)
  have aq := n
  have n := Yp n
  refine Zu ?_
  refine Yc (Zb (H7 _ _ (Zc (Za rfl rfl (Zd rfl) (Za rfl rfl (Yq om rfl rfl) (Za rfl rfl (Ze rfl) (Zf ?_)))))))
  have D : Ol ics 3 1 R3 (.slice a e.length b) (lkN l f e (k + 1)) := by
   have hx := r
   first | exact hx.eq (Zvh n A) | exact hx.eq (Zvd n)
  exact Zb (Exists.intro (k + 1) ⟨⟨E, om, om, q, u, D⟩, sC4 rfl rfl rfl rfl (Sub.nil _), (by first | omega | (dsimp only; omega))⟩)
 have ap := s
 have s := Yp s
 refine Xk (Ya (Ya (Xd ?_)))
 have M : Ol ics 3 1 R3 (.slice h t.length m) (t) := by
  have hx := u
  first | exact hx | simpa using hx
 have O : Ol ics 3 1 R3 (.slice a e.length b) (lkL l f e) := by
  have hx := r
  exact hx.eq (by rw [show k = e.length by omega]; rfl)
 have P : Blk R3 b_p t_p [(.slice h t.length m), .int .i64 Q, .int .i64 R, (.slice a e.length b), .bool S] := by
  have hx := q
  exact hx
 exact Zqs [] trivial ⟨(.slice h t.length m), (.slice a e.length b), rfl, P, M, (fun g hm => by exact (.inr (List.mem_cons_of_mem _ (List.mem_append_left _ hm)))), (fun hm => by exact B (by first | exact hm | exact am ▸ hm)), O, (fun g hm => by exact (.inr (List.mem_cons_of_mem _ (List.mem_append_right _ hm)))), (fun hm => by exact p (by first | exact hm | exact am ▸ hm)), (fun g hm hg => by exact o _ hm hg), E⟩

/-- spec.l10Build -/
theorem Zgd : ∀ (n : Nat) {w : World} {b_p t_p L_p : Nat} {aS : Value} {a : List Int} {bu : Int} {bv : Int} {aT : Value} {b : List Int} {bw : Bool} (m_p : Blk w b_p t_p [aS, (.int .i64 bu), (.int .i64 bv), aT, (.bool bw)]) (fL : L_p ≤ b_p) (aU : Ol ics 3 1 w aS a) (I : b_p ∉ bl aS) (k : Lo L_p aS) (aV : Ol ics 3 1 w aT b) (Z : b_p ∉ bl aT) (m : Lo L_p aT) (q : ∀ g ∈ bl aS, g ∉ bl aT) {LL_l eh : Nat} {eO : Value} {l : List Token} (ei : Ls Token.cs 4 w LL_l eh eO l) (t : Tr) (hok : Okd t) (hl : l = t.flat) (hbl : eh ≤ L_p) (hb : a.length + l.length ≤ 100000 ∧ b.length + l.length ≤ 100000) (hsz : l.length < n),
 Ctr Try.prog 67 #[(.pointer (some ⟨b_p, 0, none⟩)), eO] w (fun v w' => ∃ (fM fN : Value), v = .agg #[.bool ((bpT t a b).n), .int .i64 ((bpT t a b).f), .int .i64 ((bpT t a b).l)] ∧ Blk w' b_p t_p [fM, .int .i64 bu, .int .i64 bv, fN, .bool bw] ∧ Ol ics 3 1 w' fM ((bpT t a b).L) ∧ (∀ g ∈ bl fM, w.heap.size ≤ g ∨ g ∈ (b_p :: (bl aS ++ bl aT))) ∧ b_p ∉ bl fM ∧ Ol ics 3 1 w' fN ((bpT t a b).F) ∧ (∀ g ∈ bl fN, w.heap.size ≤ g ∨ g ∈ (b_p :: (bl aS ++ bl aT))) ∧ b_p ∉ bl fN ∧ (∀ g ∈ bl fM, g ∉ bl fN) ∧ Ch (b_p :: (bl aS ++ bl aT)) w w') := by
  intro n
  induction n with
  | zero => intros; omega
  | succ n ih =>
 intro w b_p t_p L_p aS a bu bv aT b bw m_p fL aU I k aV Z m q LL_l eh eO l ei t hok hl hbl hb hsz
 obtain ⟨aa, ab, rfl, jo, o⟩ := aU.opn
 obtain ⟨aB, aC, rfl, jp, p⟩ := aV.opn
 have jq := m_p.lt
 obtain ⟨eP, eQ, fO⟩ := ei.val
 subst fO
 have kx := ei.len
 have E := Ch.refl (b_p :: (bl (.slice aa a.length ab) ++ bl (.slice aB b.length aC))) w
 have ky := t.flat_pos; rw [← hl] at ky; have k2 := hok.len
 refine Yh (N := 163) (vs0 := [(.pointer (some ⟨b_p, 0, none⟩)), (.slice eP l.length eQ)]) Try.func67 rfl rfl rfl ?_
 refine Zg fun K1 H1 => ?_
 refine Zc (Zk rfl rfl ?_)
 refine Yr zr91 fun aW W2 cT C2 mJ => ?_
 have mK := C2.size
 have E := E.trans C2.of_nil
 have mL := cT.lt
 replace cT : Blk W2 aW 91 [(.bool false), (.int .i64 0), (.int .i64 0)] := cT
 refine Zf (Zb (H1 _ _ ?_))
 refine Zg fun K3 H3 => ?_
 refine Zc (Za rfl rfl (Zd rfl) (Za rfl rfl (Xm (by rw [el42]; rfl) rfl) (Za rfl rfl (Zbr om rfl rfl) (Za rfl rfl (Ze rfl) (Zf (Zb (H3 _ _ ?_)))))))
 refine Zg fun K4 H4 => ?_
 refine Zc (Za rfl rfl (Zd rfl) (Za rfl rfl (Zd rfl) (Zk rfl rfl ?_)))
 have F5 := ei.ch0 C2
 refine (Yy (j := (((l.length : Nat) : Int) - 1).toNat) F5 Token.len el42 sz84 rfl rfl om om fun kz az fP hc => ?_)
 have eR := Zkh hl om fP
 have htk := congrArg Token.kind eR
 have hte := congrArg Token.letter eR
 have htl := congrArg Token.low eR
 have hth := congrArg Token.high eR
 refine Za rfl rfl (Zt hc agg84 sz84 rfl) (Zk rfl rfl ?_)
 refine Yr zr84 fun cz W6 gO C6 mM => ?_
 have mN := C6.size
 have E := E.trans C6.of_nil
 have mO := gO.lt
 replace gO : Blk W6 cz 84 [(.int .i64 0), (.int .i64 0), (.int .i64 0), (.int .i64 0)] := gO
 refine Zk rfl rfl ?_
 refine Zy (off := 0) 4 gO sz84 rfl (us := [(.int .i64 az.kind), (.int .i64 az.letter), (.int .i64 az.low), (.int .i64 az.high)]) rfl rfl rfl rfl fun W7 ej C7 => ?_
 have mP := C7.size
 have E := E.step C7 (oneL om)
 replace ej : Blk W7 cz 84 [(.int .i64 az.kind), (.int .i64 az.letter), (.int .i64 az.low), (.int .i64 az.high)] := ej
 refine Zf (Zb (H4 _ _ ?_))
 refine Zg fun K9 H9 => ?_
 refine Zg fun mQ kA => ?_
 refine Zc (Za rfl rfl (Zh fa84_0 rfl) (Za rfl rfl (Zp ej.at_ agg3 rfl rfl) (Zf (Zb (kA _ _ ?_)))))
 refine Yf ?_
 refine Zg fun mR kB => ?_
 refine Zc (Za rfl rfl (Xu rfl rfl) (Za rfl rfl (Ze rfl) (Zf (Zb (kB _ _ ?_)))))
 refine Zx rfl (fun cA => ?_) (fun cA => ?_)
 ·have hd := cA
  have cA := Yo cA
  have eb := bp2 (L := a) (F := b) hok om
  refine Zg fun mS kC => ?_
  refine Zc (Za rfl rfl (Yt (parts := [(0, .const (Go.Value.bool true))]) (cells := [(.bool true), (.int .i64 0), (.int .i64 0)]) zr91 pl91 rfl rfl) (Zk rfl rfl ?_))
  have kD := (cT.ch0 C6).ch C7 (ne1 om)
  refine Zy (off := 0) 3 kD sz91 rfl (us := [(.bool true), (.int .i64 0), (.int .i64 0)]) rfl rfl rfl rfl fun gP dm fQ => ?_
  have kE := fQ.size
  have E := E.step fQ (oneL om)
  replace dm : Blk gP aW 91 [(.bool true), (.int .i64 0), (.int .i64 0)] := dm
  refine Zf (Zb (kC _ _ ?_))
  refine Zs (Yi (Zm ?_))
  have kF := (((m_p.ch0 C2).ch0 C6).ch C7 (ne1 om)).ch fQ (ne1 om)
  have kG := (((aU.ch0 C2).ch0 C6).ch C7 (dS k o om)).ch fQ (dS k o om)
  have fR : Ol ics 3 1 gP (.slice aa a.length ab) ((bpT t a b).L) := by
   have hx := kG
   exact hx.eq (by rw [eb] <;> first | rfl | (rw [hte]; done))
  have kH := (((aV.ch0 C2).ch0 C6).ch C7 (dS m p om)).ch fQ (dS m p om)
  have fS : Ol ics 3 1 gP (.slice aB b.length aC) ((bpT t a b).F) := by
   have hx := kH
   exact hx.eq (by rw [eb] <;> first | rfl | (rw [hte]; done))
  have fT : Blk gP b_p t_p [(.slice aa a.length ab), .int .i64 bu, .int .i64 bv, (.slice aB b.length aC), .bool bw] := by
   have hx := kF
   exact hx
  exact Zi [_] (Zz dm rfl agg91 sz91 trivial) ⟨(.slice aa a.length ab), (.slice aB b.length aC), (((congrArg (fun zq => (Value.agg #[.bool zq, .int .i64 0, .int .i64 0])) (by rw [eb] <;> first | rfl | (rw [hte]; done))).trans (congrArg (fun zq => (Value.agg #[.bool ((bpT t a b).n), .int .i64 zq, .int .i64 0])) (by rw [eb] <;> first | rfl | (rw [hte]; done)))).trans (congrArg (fun zq => (Value.agg #[.bool ((bpT t a b).n), .int .i64 ((bpT t a b).f), .int .i64 zq])) (by rw [eb] <;> first | rfl | (rw [hte]; done)))), fT, fR, (fun g hm => by exact (.inr (mCo _ (mAL _ hm)))), I, fS, (fun g hm => by exact (.inr (mCo _ (mAR _ hm)))), Z, q, E⟩
 have hd := cA
 have cA := Yp cA
 refine Zg fun mT kI => ?_
 refine Zc (Za rfl rfl (Xu rfl rfl) (Za rfl rfl (Ze rfl) (Zf (Zb (kI _ _ ?_)))))
 refine Zx rfl (fun cB => ?_) (fun cB => ?_)
 ·have he := cB
  have cB := Yo cB
  have eb := bp3 (L := a) (F := b) hok om
  refine Zg fun mU kJ => ?_
  refine Zc (Za rfl rfl (Zd rfl) (Za rfl rfl (Qc rfl) (Za rfl rfl (Zh fa48_0 rfl) ?_)))
  have hf := ((m_p.ch0 C2).ch0 C6).ch C7 (ne1 om)
  refine Za rfl rfl (Zp hf.at_ agg30 rfl rfl) (Za rfl rfl (Xm (by rw [el30]; rfl) rfl) (Za rfl rfl (Ztp om rfl rfl) (Za rfl rfl (Ze rfl) (Zf (Zb (kJ _ _ ?_))))))
  refine Zg fun kK kL => ?_
  have eI : ∀ (lj : KL) (aA : World) (bC : Value) (bD : Value), Go.KLib.Sub [(0, (.pointer (some ⟨b_p, 0, none⟩))), (1, (.slice eP l.length eQ)), (4, (.pointer (some ⟨aW, 0, none⟩))), (5, (.int .i64 (((l.length : Nat) : Int) - 1))), (7, (.int .i64 (ishl 1 ((a.length : Nat) : Int)))), (24, (.int .i64 az.kind))] lj → Ch (b_p :: (bl (.slice aa a.length ab) ++ bl (.slice aB b.length aC))) w aA → W7.heap.size ≤ aA.heap.size → Ol ics 3 1 aA bC (a ++ [az.letter]) → (∀ g ∈ bl bC, w.heap.size ≤ g ∨ g ∈ (b_p :: (bl (.slice aa a.length ab) ++ bl (.slice aB b.length aC)))) → b_p ∉ bl bC → Ol ics 3 1 aA bD b → (∀ g ∈ bl bD, w.heap.size ≤ g ∨ g ∈ (b_p :: (bl (.slice aa a.length ab) ++ bl (.slice aB b.length aC)))) → b_p ∉ bl bD → (∀ g ∈ bl bC, g ∉ bl bD) → Blk aA b_p t_p [bC, (.int .i64 bu), (.int .i64 bv), bD, (.bool bw)] → Ls Token.cs 4 aA LL_l eh (.slice eP l.length eQ) l → Blk aA aW 91 [(.bool false), (.int .i64 0), (.int .i64 0)] → aW ∉ bl bC → aW ∉ bl bD → kK lj aA := by
   intro lj aA bC bD fU E gQ cU cV b2 cW b3 bz aQ jr js fV bF aE
   refine kL _ _ (Zon fU ?_)
   have fW := E
   have hh := fW.size
   obtain ⟨aX, aY, rfl, gR, ce⟩ := cU.opn
   have dn : Lo L_p (.slice aX ((a ++ [az.letter])).length aY) := fun g hm => by have bG := ce _ hm; rcases cV _ hm with bg | bg; (omega); (rcases List.mem_cons.1 bg with bg | bg; (exact absurd (bg ▸ hm) b2); (replace hm := bg; rcases List.mem_append.1 hm with hm | hm; (have d9 := k _ hm; have eS := o _ hm; omega); (have d9 := m _ hm; have eS := p _ hm; omega)))
   obtain ⟨ek, el, rfl, gS, dp⟩ := cW.opn
   have dq : Lo L_p (.slice ek (b).length el) := fun g hm => by have bG := dp _ hm; rcases b3 _ hm with bg | bg; (omega); (rcases List.mem_cons.1 bg with bg | bg; (exact absurd (bg ▸ hm) bz); (replace hm := bg; rcases List.mem_append.1 hm with hm | hm; (have d9 := k _ hm; have eS := o _ hm; omega); (have d9 := m _ hm; have eS := p _ hm; omega)))
   refine Zg fun mV kM => ?_
   refine Zc (Za rfl rfl (Zd rfl) (Za rfl rfl (Zd rfl) (Za rfl rfl (Qc rfl) (Za rfl rfl (Zh fa48_3 rfl) (Za rfl rfl (Zp jr.at_ agg30 rfl rfl) (Zk rfl rfl ?_))))))
   refine Zr (cs := ics) (parts := [(0, .const (Go.Value.int Go.IntKind.i64 0))]) (0 : Int) [0] el30 sz3 zr3 Yl (by decide) rfl rfl rfl (by decide) (by decide) rfl fun kN mW fX jt fB => ?_
   have kO := fB.size
   have E := E.trans fB.of_nil
   obtain ⟨ju, jv, rfl, jw, hj⟩ := fX.opn
   refine Zk rfl rfl ?_
   have kP := cW.ch0 fB
   refine Yj (cs := ics) el30 sz3 by3 zr3 rfl (by decide) Xz kP fX.ls rfl rfl bd bd dq om fun kQ mX fY jx cf fZ => ?_
   have kR := fZ.size
   have E := E.step fZ (fun i hm => by exact b3 _ hm)
   obtain ⟨cX, cY, rfl, jy, bH⟩ := fY.opn
   refine Za rfl rfl (Qc rfl) (Za rfl rfl (Zh fa48_3 rfl) (Zk rfl rfl ?_))
   have kS := (jr.ch0 fB).ch fZ bz
   refine Xh (off := 3) kS sz30 rfl rfl rfl rfl fun kT dr f0 => ?_
   have kU := f0.size
   have E := E.step f0 (fun i hm => by have r := mSg.1 hm; right; exact r ▸ List.mem_cons_self ..)
   replace dr : Blk kT b_p t_p [(.slice aX ((a ++ [az.letter])).length aY), (.int .i64 bu), (.int .i64 bv), (.slice cX ((b ++ [0])).length cY), (.bool bw)] := dr
   refine Zf (Zb (kM _ _ ?_))
   refine Zg fun mY kV => ?_
   refine Zc (Za rfl rfl (Zd rfl) (Za rfl rfl (Zd rfl) (Za rfl rfl (Yt (parts := [(1, .tmp 56), (2, .tmp 57)]) (cells := [(.bool false), (.int .i64 (ishl 1 ((a.length : Nat) : Int))), (.int .i64 (ishl 1 ((a.length : Nat) : Int)))]) zr91 pl91 rfl rfl) (Zk rfl rfl ?_))))
   have kW := ((fV.ch0 fB).ch fZ aE).ch f0 (ne1 om)
   refine Zy (off := 0) 3 kW sz91 rfl (us := [(.bool false), (.int .i64 (ishl 1 ((a.length : Nat) : Int))), (.int .i64 (ishl 1 ((a.length : Nat) : Int)))]) rfl rfl rfl rfl fun gT ds f1 => ?_
   have kX := f1.size
   have E := E.step f1 (oneL om)
   replace ds : Blk gT aW 91 [(.bool false), (.int .i64 (ishl 1 ((a.length : Nat) : Int))), (.int .i64 (ishl 1 ((a.length : Nat) : Int)))] := ds
   refine Zf (Zb (kV _ _ ?_))
   refine Zs (Yi (Zm ?_))
   have kY := dr.ch f1 (ne1 om)
   have kZ := (((cU.ch0 fB).ch fZ (fun g hg hm => by exact aQ _ hg hm)).ch f0 (fun g hg hm => by have r := mSg.1 hm; exact b2 (by first | exact hg | exact r ▸ hg))).ch f1 (fun g hg hm => by have r := mSg.1 hm; exact bF (by first | exact hg | exact r ▸ hg))
   have f2 : Ol ics 3 1 gT (.slice aX ((a ++ [az.letter])).length aY) ((bpT t a b).L) := by
    have hx := kZ
    exact hx.eq (by rw [eb] <;> first | rfl | (rw [hte]; done))
   have k0 := (fY.ch f0 (fun g hg hm => by have r := mSg.1 hm; rcases cf with ea | ea; (rw [ea] at hg; exact bz (by first | exact hg | exact r ▸ hg)); (have em := bH _ hg; rw [ea] at hg; have bg := mSg.1 hg; omega))).ch f1 (fun g hg hm => by have r := mSg.1 hm; rcases cf with ea | ea; (rw [ea] at hg; exact aE (by first | exact hg | exact r ▸ hg)); (have em := bH _ hg; rw [ea] at hg; have bg := mSg.1 hg; omega))
   have f3 : Ol ics 3 1 gT (.slice cX ((b ++ [0])).length cY) ((bpT t a b).F) := by
    have hx := k0
    exact hx.eq (by rw [eb] <;> first | rfl | (rw [hte]; done))
   have f4 : Blk gT b_p t_p [(.slice aX ((a ++ [az.letter])).length aY), .int .i64 bu, .int .i64 bv, (.slice cX ((b ++ [0])).length cY), .bool bw] := by
    have hx := kY
    exact hx
   exact Zi [_] (Zz ds rfl agg91 sz91 trivial) ⟨(.slice aX ((a ++ [az.letter])).length aY), (.slice cX ((b ++ [0])).length cY), (((congrArg (fun zq => (Value.agg #[.bool zq, .int .i64 (ishl 1 ((a.length : Nat) : Int)), .int .i64 (ishl 1 ((a.length : Nat) : Int))])) (by rw [eb] <;> first | rfl | (rw [hte]; done))).trans (congrArg (fun zq => (Value.agg #[.bool ((bpT t a b).n), .int .i64 zq, .int .i64 (ishl 1 ((a.length : Nat) : Int))])) (by rw [eb] <;> first | rfl | (rw [hte]; done)))).trans (congrArg (fun zq => (Value.agg #[.bool ((bpT t a b).n), .int .i64 ((bpT t a b).f), .int .i64 zq])) (by rw [eb] <;> first | rfl | (rw [hte]; done)))), f4, f2, (fun g hm => by exact cV _ hm), b2, f3, (fun g hm => by rcases cf with ea | ea; (rw [ea] at hm; exact b3 _ hm); (have bG := bH _ hm; rw [ea] at hm; have bg := mSg.1 hm; left; omega)), (fun hm => by rcases cf with ea | ea; (rw [ea] at hm; exact bz (by first | exact hm | exact r ▸ hm)); (have bG := bH _ hm; rw [ea] at hm; have bg := mSg.1 hm; omega)), (fun g hm hg => by rcases cf with ea | ea; (rw [ea] at hg; exact aQ _ hm hg); (have em := bH _ hg; rw [ea] at hg; have bg := mSg.1 hg; have d9 := dn _ hm; have eS := ce _ hm; omega)), E⟩
  refine Yx ((bl (.slice aa a.length ab)) ++ [b_p]) 12 mixed rfl fun jz de => ?_
  have k3 := de.size
  have E := E.trans de.of_nil
  refine dV 0 rfl rfl rfl (fun _ => Zd rfl) (dV 1 rfl rfl rfl (fun _ => Zd rfl) (dV 2 rfl rfl rfl (fun _ => Qc rfl) (dV 3 rfl rfl rfl (fun _ => Zh fa48_0 rfl) (dV 5 rfl rfl rfl (fun _ => Zh fa84_1 rfl) ?_))))
  have k4 := ej.ch0 de
  refine dT 6 rfl rfl rfl (Xj k4.at_ (fun i hm => by rcases List.mem_append.1 hm with hm | hm; (have d9 := k _ hm; have eS := o _ hm; omega); (have d9 := mSg.1 hm; omega)) agg3 rfl rfl ?_)
  refine Zau 4 7 (by kernel_rfl) ?_ ?_
  ·refine Ye rfl rfl rfl ?_
   have jA := hf.ch0 de
   refine s_v (Zp jA.at_ agg30 rfl rfl) ?_
   refine ⟨(Ch.refl _ _), ?_⟩
   refine dO 7 (Ye rfl rfl rfl ?_)
   refine Zr (cs := ics) (parts := [(0, .tmp 42)]) (0 : Int) [az.letter] el30 sz3 zr3 Yl (by decide) rfl rfl rfl (by decide) (by decide) rfl fun hk k5 dt f5 eJ => ?_
   have k6 := eJ.size
   have E := E.trans eJ.of_nil
   obtain ⟨f6, f7, rfl, f8, eT⟩ := dt.opn
   have eK : Ch ((bl (.slice aa a.length ab)) ++ [b_p]) jz k5 := ((Ch.refl _ _).trans eJ.of_nil)
   refine ⟨eK, ?_⟩
   refine dO 8 (Ye rfl rfl rfl ?_)
   have k7 := ((((aU.ch0 C2).ch0 C6).ch C7 (dS k o om)).ch0 de).ch0 eJ
   refine Yj (cs := ics) el30 sz3 by3 zr3 rfl (by decide) Xz k7 dt.ls rfl rfl bd bd k om fun hn mZ du f9 aF eU => ?_
   have k8 := eU.size
   have E := E.step eU (fun i hm => by exact (.inr (mCo _ (mAL _ hm))))
   obtain ⟨dv, dw, rfl, gc, R⟩ := du.opn
   have eL := eK.step eU (fun i hm => by exact .inr (mAL _ hm))
   refine ⟨eL, ?_⟩
   refine dV 9 rfl rfl rfl (fun _ => Qc rfl) (dV 10 rfl rfl rfl (fun _ => Zh fa48_0 rfl) (dO 11 (Ye rfl rfl rfl ?_)))
   have k9 := (jA.ch0 eJ).ch eU I
   refine Xh (off := 0) k9 sz30 rfl rfl rfl rfl fun la dx eV => ?_
   have lb := eV.size
   have E := E.step eV (fun i hm => by have r := mSg.1 hm; right; exact r ▸ List.mem_cons_self ..)
   replace dx : Blk la b_p t_p [(.slice dv ((a ++ [az.letter])).length dw), (.int .i64 bu), (.int .i64 bv), (.slice aB b.length aC), (.bool bw)] := dx
   have gd := eL.step eV (fun i hm => by have r := mSg.1 hm; exact .inr (by rw [r]; exact (mAR _ (mSg.2 rfl))))
   refine ⟨gd, ?_⟩
   refine Yb (by kernel_rfl) ?_
   refine Zb ?_
   have lc := du.ch eV (fun g hg hm => by have r := mSg.1 hm; rcases aF with ea | ea; (rw [ea] at hg; exact I (by first | exact hg | exact r ▸ hg)); (have em := R _ hg; rw [ea] at hg; have bg := mSg.1 hg; omega))
   have ld := ((((((aV.ch0 C2).ch0 C6).ch C7 (dS m p om)).ch0 de).ch0 eJ).ch eU (fun g hg hm => by exact q _ hm hg)).ch eV (fun g hg hm => by have r := mSg.1 hm; exact Z (by first | exact hg | exact r ▸ hg))
   have le := (((((F5.ch0 C6).ch C7 (tfr1 om)).ch0 de).ch0 eJ).ch eU (fun i hi => by have d9 := k _ hi; omega)).ch eV (tfr1 om)
   have lf := (((((cT.ch0 C6).ch C7 (ne1 om)).ch0 de).ch0 eJ).ch eU (Qv k o om)).ch eV (ne1 om)
   exact eI _ _ _ _ (sC4 rfl rfl rfl rfl (sC2 rfl rfl (Sub.nil _))) E om lc (fun g hm => by rcases aF with ea | ea; (rw [ea] at hm; exact (.inr (mCo _ (mAL _ hm)))); (have bG := R _ hm; rw [ea] at hm; have bg := mSg.1 hm; left; omega)) (fun hm => by rcases aF with ea | ea; (rw [ea] at hm; exact I (by first | exact hm | exact r ▸ hm)); (have bG := R _ hm; rw [ea] at hm; have bg := mSg.1 hm; omega)) ld (fun g hm => by exact (.inr (mCo _ (mAR _ hm)))) Z (fun g hm hg => by rcases aF with ea | ea; (rw [ea] at hm; exact q _ hm hg); (have bG := R _ hm; rw [ea] at hm; have bg := mSg.1 hm; have lg := m _ hg; have lh := p _ hg; omega)) dx le lf (fun hm => by rcases aF with ea | ea; (rw [ea] at hm; have d9 := k _ hm; have eS := o _ hm; omega); (have bG := R _ hm; rw [ea] at hm; have bg := mSg.1 hm; omega)) (Qv m p om)
  refine Ye rfl rfl rfl ?_
  refine Zr (cs := ics) (parts := [(0, .tmp 42)]) (0 : Int) [az.letter] el30 sz3 zr3 Yl (by decide) rfl rfl rfl (by decide) (by decide) rfl fun hk li dt f5 eM => ?_
  have lk := eM.size
  have E := E.trans eM.of_nil
  obtain ⟨f6, f7, rfl, f8, eT⟩ := dt.opn
  have dy : Ch ((bl (.slice aa a.length ab)) ++ [b_p]) jz li := ((Ch.refl _ _).trans eM.of_nil)
  refine ⟨dy, ?_⟩
  refine dO 4 (Ye rfl rfl rfl ?_)
  have jB := (hf.ch0 de).ch0 eM
  refine s_v (Zp jB.at_ agg30 rfl rfl) ?_
  refine ⟨dy, ?_⟩
  refine dO 8 (Ye rfl rfl rfl ?_)
  have ll := ((((aU.ch0 C2).ch0 C6).ch C7 (dS k o om)).ch0 de).ch0 eM
  refine Yj (cs := ics) el30 sz3 by3 zr3 rfl (by decide) Xz ll dt.ls rfl rfl bd bd k om fun hn m0 du f9 aF eW => ?_
  have lm := eW.size
  have E := E.step eW (fun i hm => by exact (.inr (mCo _ (mAL _ hm))))
  obtain ⟨dv, dw, rfl, gc, R⟩ := du.opn
  have eN := dy.step eW (fun i hm => by exact .inr (mAL _ hm))
  refine ⟨eN, ?_⟩
  refine dV 9 rfl rfl rfl (fun _ => Qc rfl) (dV 10 rfl rfl rfl (fun _ => Zh fa48_0 rfl) (dO 11 (Ye rfl rfl rfl ?_)))
  have ln := jB.ch eW I
  refine Xh (off := 0) ln sz30 rfl rfl rfl rfl fun lo dz eX => ?_
  have lp := eX.size
  have E := E.step eX (fun i hm => by have r := mSg.1 hm; right; exact r ▸ List.mem_cons_self ..)
  replace dz : Blk lo b_p t_p [(.slice dv ((a ++ [az.letter])).length dw), (.int .i64 bu), (.int .i64 bv), (.slice aB b.length aC), (.bool bw)] := dz
  have ge := eN.step eX (fun i hm => by have r := mSg.1 hm; exact .inr (by rw [r]; exact (mAR _ (mSg.2 rfl))))
  refine ⟨ge, ?_⟩
  refine Yb (by kernel_rfl) ?_
  refine Zb ?_
  have lq := du.ch eX (fun g hg hm => by have r := mSg.1 hm; rcases aF with ea | ea; (rw [ea] at hg; exact I (by first | exact hg | exact r ▸ hg)); (have em := R _ hg; rw [ea] at hg; have bg := mSg.1 hg; omega))
  have lr := ((((((aV.ch0 C2).ch0 C6).ch C7 (dS m p om)).ch0 de).ch0 eM).ch eW (fun g hg hm => by exact q _ hm hg)).ch eX (fun g hg hm => by have r := mSg.1 hm; exact Z (by first | exact hg | exact r ▸ hg))
  have lu := (((((F5.ch0 C6).ch C7 (tfr1 om)).ch0 de).ch0 eM).ch eW (fun i hi => by have d9 := k _ hi; omega)).ch eX (tfr1 om)
  have lv := (((((cT.ch0 C6).ch C7 (ne1 om)).ch0 de).ch0 eM).ch eW (Qv k o om)).ch eX (ne1 om)
  exact eI _ _ _ _ (sC4 rfl rfl rfl rfl (sC2 rfl rfl (Sub.nil _))) E om lq (fun g hm => by rcases aF with ea | ea; (rw [ea] at hm; exact (.inr (mCo _ (mAL _ hm)))); (have bG := R _ hm; rw [ea] at hm; have bg := mSg.1 hm; left; omega)) (fun hm => by rcases aF with ea | ea; (rw [ea] at hm; exact I (by first | exact hm | exact r ▸ hm)); (have bG := R _ hm; rw [ea] at hm; have bg := mSg.1 hm; omega)) lr (fun g hm => by exact (.inr (mCo _ (mAR _ hm)))) Z (fun g hm hg => by rcases aF with ea | ea; (rw [ea] at hm; exact q _ hm hg); (have bG := R _ hm; rw [ea] at hm; have bg := mSg.1 hm; have lg := m _ hg; have lh := p _ hg; omega)) dz lu lv (fun hm => by rcases aF with ea | ea; (rw [ea] at hm; have d9 := k _ hm; have eS := o _ hm; omega); (have bG := R _ hm; rw [ea] at hm; have bg := mSg.1 hm; omega)) (Qv m p om)
 have he := cB
 have cB := Yp cB
 refine Zg fun m1 lw => ?_
 refine Zc (Za rfl rfl (Xu rfl rfl) (Za rfl rfl (Ze rfl) (Zf (Zb (lw _ _ ?_)))))
 refine Zx rfl (fun cC => ?_) (fun cC => ?_)
 ·have ho := cC
  have cC := Yo cC
  obtain ⟨ta, tb, et, oa, ob, hla, jC⟩ := hok.k2 om eR hl
  have dA : t.kids[0]? = some ta := by rw [et]; rfl
  have eY : t.kids[1]? = some tb := by rw [et]; rfl
  have ga := ta.flat_len
  have gb := tb.flat_len
  have za := Zdq ta a b
  have zb := Zdq tb (bpT ta a b).L (bpT ta a b).F
  have eb := bp4 (L := a) (F := b) hok om dA eY
  refine Zg fun m2 lx => ?_
  refine Zc (Za rfl rfl (Zd rfl) (Za rfl rfl (Zd rfl) (Zk rfl rfl ?_)))
  have jD := (F5.ch0 C6).ch C7 (tfr1 om)
  refine (Zgs (ys := (ta.flat ++ tb.flat)) 0 ((((l.length : Nat) : Int) - 1).toNat) jD Token.len el42 sz84 rfl rfl ⟨_, _, rfl, by omega⟩ om om (show l.take _ = _ from Ziz hla om) fun ly eZ jE jF => ?_)
  obtain ⟨lz, lA, hp⟩ := eZ.val
  subst hp
  have lB := eZ.len
  refine Zk rfl rfl ?_
  refine Step.call (Zl (xs := [.tmp 63]) fk106 rfl) (Zao eZ ta.flat tb ob rfl) fun lC m3 hq => ?_
  obtain ⟨rfl, ec⟩ := hq
  have lD := ec.size
  have E := E.trans ec.of_nil
  refine Za rfl rfl (Ze rfl) (Zf (Zb (lx _ _ ?_)))
  refine Zg fun m4 lE => ?_
  refine Zc (Za rfl rfl (Zd rfl) (Za rfl rfl (Zd rfl) (Za rfl rfl (Zd rfl) (Zk rfl rfl ?_))))
  have jG := jD.ch0 ec
  refine (Zgs (ys := ta.flat) 0 ta.flat.length jG Token.len el42 sz84 rfl rfl ⟨_, _, rfl, by omega⟩ om om (show l.take _ = _ from Znv hla om) fun lF e0 jH jI => ?_)
  obtain ⟨lG, lH, hr⟩ := e0.val
  subst hr
  have lI := e0.len
  refine Zk rfl rfl ?_
  have lJ := (((m_p.ch0 C2).ch0 C6).ch C7 (ne1 om)).ch0 ec
  have lK := (((aU.ch0 C2).ch0 C6).ch C7 (dS k o om)).ch0 ec
  have lL := (((aV.ch0 C2).ch0 C6).ch C7 (dS m p om)).ch0 ec
  refine Step.call (Zl (xs := [.tmp 65, .tmp 68]) fk67 rfl) (ih lJ om lK I (Lo.down k om) lL Z (Lo.down m om) q e0 ta oa rfl om ⟨by omega, by omega⟩ (L_p := L_p) om) fun lM lN hs => ?_
  obtain ⟨ht, hu, rfl, e1, cZ, aZ, aG, c0, a0, aH, bS, e2⟩ := hs
  have lO := e2.size
  have E := E.step e2 (fun i hm => by rcases List.mem_cons.1 hm with r | hm; (right; exact r ▸ List.mem_cons_self ..); (rcases List.mem_append.1 hm with hm | hm; (exact (.inr (mCo _ (mAL _ hm)))); (exact (.inr (mCo _ (mAR _ hm))))))
  obtain ⟨dB, dC, rfl, hv, bA⟩ := cZ.opn
  have ac : Lo L_p (.slice dB ((bpT ta a b).L).length dC) := Zed aZ aG om (all2 k m)
  obtain ⟨dD, dE, rfl, hw, bB⟩ := c0.opn
  have ad : Lo L_p (.slice dD ((bpT ta a b).F).length dE) := Zed a0 aH om (all2 k m)
  have ae := Qx aZ aG (show aW < _ by omega) (nin2 (Qv k o om) (Qv m p om))
  have cg := Qx aZ aG (show cz < _ by omega) (nin2 (Qv k o om) (Qv m p om))
  have cD := Zce E aZ aG om (all2 (fun g hm => (.inr (mCo _ (mAL _ hm)))) (fun g hm => (.inr (mCo _ (mAR _ hm)))))
  have af := Qx a0 aH (show aW < _ by omega) (nin2 (Qv k o om) (Qv m p om))
  have ci := Qx a0 aH (show cz < _ by omega) (nin2 (Qv k o om) (Qv m p om))
  have cE := Zce E a0 aH om (all2 (fun g hm => (.inr (mCo _ (mAL _ hm)))) (fun g hm => (.inr (mCo _ (mAR _ hm)))))
  replace e1 : Blk lN b_p t_p [(.slice dB ((bpT ta a b).L).length dC), (.int .i64 bu), (.int .i64 bv), (.slice dD ((bpT ta a b).F).length dE), (.bool bw)] := e1
  refine Zk rfl rfl ?_
  refine Yr zr91 fun fC lP gU ed m5 => ?_
  have lQ := ed.size
  have E := E.trans ed.of_nil
  have m6 := gU.lt
  replace gU : Blk lP fC 91 [(.bool false), (.int .i64 0), (.int .i64 0)] := gU
  refine Zk rfl rfl ?_
  refine Zy (off := 0) 3 gU sz91 rfl (us := [(.bool ((bpT ta a b).n)), (.int .i64 ((bpT ta a b).f)), (.int .i64 ((bpT ta a b).l))]) rfl rfl rfl rfl fun lR dF ee => ?_
  have lT := ee.size
  have E := E.step ee (oneL om)
  replace dF : Blk lR fC 91 [(.bool ((bpT ta a b).n)), (.int .i64 ((bpT ta a b).f)), (.int .i64 ((bpT ta a b).l))] := dF
  refine Zf (Zb (lE _ _ ?_))
  refine Zg fun m7 lU => ?_
  refine Zc (Za rfl rfl (Zd rfl) (Za rfl rfl (Zd rfl) (Za rfl rfl (Zd rfl) (Za rfl rfl (Zd rfl) (Zk rfl rfl ?_)))))
  have lV := ((jG.ch e2 (lwr3 om k om m om)).ch0 ed).ch ee (tfr1 om)
  refine (Zgs (ys := tb.flat) ta.flat.length ((((l.length : Nat) : Int) - 1).toNat) lV Token.len el42 sz84 rfl ⟨_, _, rfl, by omega⟩ ⟨_, _, rfl, by omega⟩ om om (Znu hla om om) fun lW e3 jJ jK => ?_)
  obtain ⟨lX, lY, hy⟩ := e3.val
  subst hy
  have lZ := e3.len
  refine Zk rfl rfl ?_
  have l0 := (e1.ch0 ed).ch ee (ne1 om)
  have l1 := (cZ.ch0 ed).ch ee (dS ac bA om)
  have l2 := (c0.ch0 ed).ch ee (dS ad bB om)
  refine Step.call (Zl (xs := [.tmp 70, .tmp 74]) fk67 rfl) (ih l0 om l1 aG (Lo.down ac om) l2 aH (Lo.down ad om) bS e3 tb ob rfl om ⟨by omega, by omega⟩ (L_p := L_p) om) fun l3 l4 hz => ?_
  obtain ⟨hA, hB, rfl, e4, c1, aI, ag, c2, aJ, ah, bT, e5⟩ := hz
  have l5 := e5.size
  have E := E.step e5 (fun i hm => by rcases List.mem_cons.1 hm with r | hm; (right; exact r ▸ List.mem_cons_self ..); (rcases List.mem_append.1 hm with hm | hm; (exact (cD _ hm)); (exact (cE _ hm))))
  obtain ⟨dG, dH, rfl, hC, a1⟩ := c1.opn
  have ai : Lo L_p (.slice dG ((bpT tb ((bpT ta a b).L) ((bpT ta a b).F)).L).length dH) := Zed aI ag om (all2 ac ad)
  obtain ⟨dI, dJ, rfl, hD, a2⟩ := c2.opn
  have aj : Lo L_p (.slice dI ((bpT tb ((bpT ta a b).L) ((bpT ta a b).F)).F).length dJ) := Zed aJ ah om (all2 ac ad)
  have ak := Qx aI ag (show aW < _ by omega) (nin2 ae af)
  have cj := Qx aI ag (show cz < _ by omega) (nin2 cg ci)
  have bI := Qx aI ag (show fC < _ by omega) (nin2 (Qv ac bA om) (Qv ad bB om))
  have cF := Zce E aI ag om (all2 (fun g hm => (cD _ hm)) (fun g hm => (cE _ hm)))
  have al := Qx aJ ah (show aW < _ by omega) (nin2 ae af)
  have ck := Qx aJ ah (show cz < _ by omega) (nin2 cg ci)
  have bJ := Qx aJ ah (show fC < _ by omega) (nin2 (Qv ac bA om) (Qv ad bB om))
  have cG := Zce E aJ ah om (all2 (fun g hm => (cD _ hm)) (fun g hm => (cE _ hm)))
  replace e4 : Blk l4 b_p t_p [(.slice dG ((bpT tb ((bpT ta a b).L) ((bpT ta a b).F)).L).length dH), (.int .i64 bu), (.int .i64 bv), (.slice dI ((bpT tb ((bpT ta a b).L) ((bpT ta a b).F)).F).length dJ), (.bool bw)] := e4
  refine Zk rfl rfl ?_
  refine Yr zr91 fun en l6 eo ef l7 => ?_
  have l8 := ef.size
  have E := E.trans ef.of_nil
  have l9 := eo.lt
  replace eo : Blk l6 en 91 [(.bool false), (.int .i64 0), (.int .i64 0)] := eo
  refine Zk rfl rfl ?_
  refine Zy (off := 0) 3 eo sz91 rfl (us := [(.bool ((bpT tb ((bpT ta a b).L) ((bpT ta a b).F)).n)), (.int .i64 ((bpT tb ((bpT ta a b).L) ((bpT ta a b).F)).f)), (.int .i64 ((bpT tb ((bpT ta a b).L) ((bpT ta a b).F)).l))]) rfl rfl rfl rfl fun ma bK eg => ?_
  have mb := eg.size
  have E := E.step eg (oneL om)
  replace bK : Blk ma en 91 [(.bool ((bpT tb ((bpT ta a b).L) ((bpT ta a b).F)).n)), (.int .i64 ((bpT tb ((bpT ta a b).L) ((bpT ta a b).F)).f)), (.int .i64 ((bpT tb ((bpT ta a b).L) ((bpT ta a b).F)).l))] := bK
  refine Zf (Zb (lU _ _ ?_))
  refine Zg fun mc hE => ?_
  refine Zc (Za rfl rfl (Zd rfl) (Za rfl rfl (Zh fa91_2 rfl) ?_))
  have gf := ((dF.ch e5 (nin3 om (Zbs bA om) (Zbs bB om))).ch0 ef).ch eg (ne1 om)
  refine Za rfl rfl (Zp gf.at_ agg3 rfl rfl) (Za rfl rfl (Zh fa91_1 rfl) (Za rfl rfl (Zp bK.at_ agg3 rfl rfl) (Zk rfl rfl ?_)))
  have hF := (e4.ch0 ef).ch eg (ne1 om)
  have hG := (c1.ch0 ef).ch eg (dS ai a1 om)
  have hH := (c2.ch0 ef).ch eg (dS aj a2 om)
  refine Step.call (Zl (xs := [.tmp 76, .tmp 78, .tmp 80]) fk107 rfl) (Zeo hF om hG ag (Lo.down ai om) hH ah (Lo.down aj om) bT _ _ om (L_p := L_p)) fun md hI hJ => ?_
  obtain ⟨hK, hL, rfl, df, a3, am, s, a4, an, u, D, b4⟩ := hJ
  have jL := b4.size
  have E := E.step b4 (fun i hm => by rcases List.mem_cons.1 hm with r | hm; (right; exact r ▸ List.mem_cons_self ..); (rcases List.mem_append.1 hm with hm | hm; (exact (cF _ hm)); (exact (cG _ hm))))
  obtain ⟨x, y, rfl, hM, S⟩ := a3.opn
  have G : Lo L_p (.slice x (((bpT tb ((bpT ta a b).L) ((bpT ta a b).F)).L)).length y) := Zed am s om (all2 ai aj)
  obtain ⟨z, A, rfl, hN, T⟩ := a4.opn
  have H : Lo L_p (.slice z (lkL ((bpT ta a b).l) ((bpT tb ((bpT ta a b).L) ((bpT ta a b).F)).f) ((bpT tb ((bpT ta a b).L) ((bpT ta a b).F)).F)).length A) := Zed an u om (all2 ai aj)
  have a5 := Qx am s (show aW < _ by omega) (nin2 ak al)
  have gg := Qx am s (show cz < _ by omega) (nin2 cj ck)
  have gh := Qx am s (show fC < _ by omega) (nin2 bI bJ)
  have fD := Qx am s (show en < _ by omega) (nin2 (Qv ai a1 om) (Qv aj a2 om))
  have b5 := Zce E am s om (all2 (fun g hm => (cF _ hm)) (fun g hm => (cG _ hm)))
  have a6 := Qx an u (show aW < _ by omega) (nin2 ak al)
  have gi := Qx an u (show cz < _ by omega) (nin2 cj ck)
  have gj := Qx an u (show fC < _ by omega) (nin2 bI bJ)
  have fE := Qx an u (show en < _ by omega) (nin2 (Qv ai a1 om) (Qv aj a2 om))
  have b6 := Zce E an u om (all2 (fun g hm => (cF _ hm)) (fun g hm => (cG _ hm)))
  replace df : Blk hI b_p t_p [(.slice x (((bpT tb ((bpT ta a b).L) ((bpT ta a b).F)).L)).length y), (.int .i64 bu), (.int .i64 bv), (.slice z (lkL ((bpT ta a b).l) ((bpT tb ((bpT ta a b).L) ((bpT ta a b).F)).f) ((bpT tb ((bpT ta a b).L) ((bpT ta a b).F)).F)).length A), (.bool bw)] := df
  refine Zf (Zb (hE _ _ ?_))
  refine Zg fun me gk => ?_
  refine Zc (Za rfl rfl (Zh fa91_0 rfl) ?_)
  have dL := gf.ch b4 (nin3 om bI bJ)
  refine Za rfl rfl (Zp dL.at_ agg4 rfl rfl) (Za rfl rfl (Zd rfl) ?_)
  refine Ym (d := 84) rfl (fun e => ?_) (fun e => ?_)
  ·have dM := e
   refine Za rfl rfl (Zh fa91_0 rfl) ?_
   have e6 := bK.ch b4 (nin3 om (Zbs a1 om) (Zbs a2 om))
   refine Za rfl rfl (Zp e6.at_ agg4 rfl rfl) (Za rfl rfl (Zw rfl rfl) (Za rfl rfl (Zh fa91_1 rfl) (Za rfl rfl (Zp dL.at_ agg3 rfl rfl) (Za rfl rfl (Zh fa91_2 rfl) (Za rfl rfl (Zp e6.at_ agg3 rfl rfl) (Za rfl rfl (Yt (parts := [(0, .tmp 87), (1, .tmp 89), (2, .tmp 91)]) (cells := [(.bool ((bpT tb ((bpT ta a b).L) ((bpT ta a b).F)).n)), (.int .i64 ((bpT ta a b).f)), (.int .i64 ((bpT tb ((bpT ta a b).L) ((bpT ta a b).F)).l))]) zr91 pl91 rfl rfl) (Zk rfl rfl ?_)))))))
   refine Yr zr91 fun cm hO b7 bj hP => ?_
   have jM := bj.size
   have E := E.trans bj.of_nil
   have hQ := b7.lt
   replace b7 : Blk hO cm 91 [(.bool false), (.int .i64 0), (.int .i64 0)] := b7
   refine Zk rfl rfl ?_
   refine Zy (off := 0) 3 b7 sz91 rfl (us := [(.bool ((bpT tb ((bpT ta a b).L) ((bpT ta a b).F)).n)), (.int .i64 ((bpT ta a b).f)), (.int .i64 ((bpT tb ((bpT ta a b).L) ((bpT ta a b).F)).l))]) rfl rfl rfl rfl fun hR cH bk => ?_
   have jN := bk.size
   have E := E.step bk (oneL om)
   replace cH : Blk hR cm 91 [(.bool ((bpT tb ((bpT ta a b).L) ((bpT ta a b).F)).n)), (.int .i64 ((bpT ta a b).f)), (.int .i64 ((bpT tb ((bpT ta a b).L) ((bpT ta a b).F)).l))] := cH
   refine Zf (Zb (gk _ _ ?_))
   refine Zg fun mf hS => ?_
   refine Zg fun mg hT => ?_
   refine Zc (Za rfl rfl (Zh fa91_0 rfl) ?_)
   have e7 := (dL.ch0 bj).ch bk (ne1 om)
   refine Za rfl rfl (Zp e7.at_ agg4 rfl rfl) (Zf (Zb (hT _ _ ?_)))
   refine Zcy rfl dM ?_
   refine Zc (Za rfl rfl (Zh fa91_1 rfl) (Za rfl rfl (Zp e7.at_ agg3 rfl rfl) (Za rfl rfl (Zh fa91_1 rfl) ?_)))
   have gl := (e6.ch0 bj).ch bk (ne1 om)
   refine Za rfl rfl (Zp gl.at_ agg3 rfl rfl) (Za rfl rfl (r_or rfl rfl) (Za rfl rfl (Zh fa91_1 rfl) (Zk rfl rfl ?_)))
   refine Xh (off := 1) cH sz3 rfl rfl rfl rfl fun hU b8 bm => ?_
   have jO := bm.size
   have E := E.step bm (oneL om)
   replace b8 : Blk hU cm 91 [(.bool ((bpT tb ((bpT ta a b).L) ((bpT ta a b).F)).n)), (.int .i64 (ior ((bpT ta a b).f) ((bpT tb ((bpT ta a b).L) ((bpT ta a b).F)).f))), (.int .i64 ((bpT tb ((bpT ta a b).L) ((bpT ta a b).F)).l))] := b8
   refine Zf (Zb (hS _ _ ?_))
   refine Zg fun mh gm => ?_
   refine Zg fun mi hV => ?_
   refine Zc (Za rfl rfl (Zh fa91_0 rfl) ?_)
   have gn := gl.ch bm (ne1 om)
   refine Za rfl rfl (Zp gn.at_ agg4 rfl rfl) (Zf (Zb (hV _ _ ?_)))
   refine Zx rfl (fun c => ?_) (fun c => ?_)
   ·have gp := c
    refine Zc (Za rfl rfl (Zh fa91_2 rfl) ?_)
    have hW := e7.ch bm (ne1 om)
    refine Za rfl rfl (Zp hW.at_ agg3 rfl rfl) (Za rfl rfl (Zh fa91_2 rfl) (Za rfl rfl (Zp gn.at_ agg3 rfl rfl) (Za rfl rfl (r_or rfl rfl) (Za rfl rfl (Zh fa91_2 rfl) (Zk rfl rfl ?_)))))
    refine Xh (off := 2) b8 sz3 rfl rfl rfl rfl fun hX cI dg => ?_
    have jP := dg.size
    have E := E.step dg (oneL om)
    replace cI : Blk hX cm 91 [(.bool ((bpT tb ((bpT ta a b).L) ((bpT ta a b).F)).n)), (.int .i64 (ior ((bpT ta a b).f) ((bpT tb ((bpT ta a b).L) ((bpT ta a b).F)).f))), (.int .i64 (ior ((bpT ta a b).l) ((bpT tb ((bpT ta a b).L) ((bpT ta a b).F)).l)))] := cI
    refine Zf (Zb (gm _ _ ?_))
    refine Zg fun mj hY => ?_
    refine Zc (Za rfl rfl (Zt cI.at_ agg91 sz91 rfl) (Zk rfl rfl ?_))
    have hZ := (((((((((((((cT.ch0 C6).ch C7 (ne1 om)).ch0 ec).ch e2 (nin3 om (Zbs o om) (Zbs p om))).ch0 ed).ch ee (ne1 om)).ch e5 (nin3 om ae af)).ch0 ef).ch eg (ne1 om)).ch b4 (nin3 om ak al)).ch0 bj).ch bk (ne1 om)).ch bm (ne1 om)).ch dg (ne1 om)
    refine Zy (off := 0) 3 hZ sz91 rfl (us := [(.bool ((bpT tb ((bpT ta a b).L) ((bpT ta a b).F)).n)), (.int .i64 (ior ((bpT ta a b).f) ((bpT tb ((bpT ta a b).L) ((bpT ta a b).F)).f))), (.int .i64 (ior ((bpT ta a b).l) ((bpT tb ((bpT ta a b).L) ((bpT ta a b).F)).l)))]) rfl rfl rfl rfl fun ep cJ dN => ?_
    have jQ := dN.size
    have E := E.step dN (oneL om)
    replace cJ : Blk ep aW 91 [(.bool ((bpT tb ((bpT ta a b).L) ((bpT ta a b).F)).n)), (.int .i64 (ior ((bpT ta a b).f) ((bpT tb ((bpT ta a b).L) ((bpT ta a b).F)).f))), (.int .i64 (ior ((bpT ta a b).l) ((bpT tb ((bpT ta a b).L) ((bpT ta a b).F)).l)))] := cJ
    refine Zf (Zb (hY _ _ ?_))
    refine Zs (Yi (Zm ?_))
    have h0 := ((((df.ch0 bj).ch bk (ne1 om)).ch bm (ne1 om)).ch dg (ne1 om)).ch dN (ne1 om)
    have h1 := ((((a3.ch0 bj).ch bk (dS G S om)).ch bm (dS G S om)).ch dg (dS G S om)).ch dN (fun g hg hm => by have r := mSg.1 hm; exact a5 (by first | exact hg | exact r ▸ hg))
    have e8 : Ol ics 3 1 ep (.slice x (((bpT tb ((bpT ta a b).L) ((bpT ta a b).F)).L)).length y) ((bpT t a b).L) := by
     have hx := h1
     exact hx.eq (by rw [eb] <;> first | rfl | exact rbA e | exact rbB e | exact rbC e | exact rbD e | exact rbE e | (rw [e]; simp; done) | exact rbA c | exact rbB c | exact rbC c | exact rbD c | exact rbE c | (rw [c]; simp; done) | (rw [hte]; done))
    have h2 := ((((a4.ch0 bj).ch bk (dS H T om)).ch bm (dS H T om)).ch dg (dS H T om)).ch dN (fun g hg hm => by have r := mSg.1 hm; exact a6 (by first | exact hg | exact r ▸ hg))
    have e9 : Ol ics 3 1 ep (.slice z (lkL ((bpT ta a b).l) ((bpT tb ((bpT ta a b).L) ((bpT ta a b).F)).f) ((bpT tb ((bpT ta a b).L) ((bpT ta a b).F)).F)).length A) ((bpT t a b).F) := by
     have hx := h2
     exact hx.eq (by rw [eb] <;> first | rfl | exact rbA e | exact rbB e | exact rbC e | exact rbD e | exact rbE e | (rw [e]; simp; done) | exact rbA c | exact rbB c | exact rbC c | exact rbD c | exact rbE c | (rw [c]; simp; done) | (rw [hte]; done))
    have fa : Blk ep b_p t_p [(.slice x (((bpT tb ((bpT ta a b).L) ((bpT ta a b).F)).L)).length y), .int .i64 bu, .int .i64 bv, (.slice z (lkL ((bpT ta a b).l) ((bpT tb ((bpT ta a b).L) ((bpT ta a b).F)).f) ((bpT tb ((bpT ta a b).L) ((bpT ta a b).F)).F)).length A), .bool bw] := by
     have hx := h0
     exact hx
    exact Zi [_] (Zz cJ rfl agg91 sz91 trivial) ⟨(.slice x (((bpT tb ((bpT ta a b).L) ((bpT ta a b).F)).L)).length y), (.slice z (lkL ((bpT ta a b).l) ((bpT tb ((bpT ta a b).L) ((bpT ta a b).F)).f) ((bpT tb ((bpT ta a b).L) ((bpT ta a b).F)).F)).length A), (((congrArg (fun zq => (Value.agg #[.bool zq, .int .i64 (ior ((bpT ta a b).f) ((bpT tb ((bpT ta a b).L) ((bpT ta a b).F)).f)), .int .i64 (ior ((bpT ta a b).l) ((bpT tb ((bpT ta a b).L) ((bpT ta a b).F)).l))])) (by rw [eb] <;> first | rfl | exact rbA e | exact rbB e | exact rbC e | exact rbD e | exact rbE e | (rw [e]; simp; done) | exact rbA c | exact rbB c | exact rbC c | exact rbD c | exact rbE c | (rw [c]; simp; done) | (rw [hte]; done))).trans (congrArg (fun zq => (Value.agg #[.bool ((bpT t a b).n), .int .i64 zq, .int .i64 (ior ((bpT ta a b).l) ((bpT tb ((bpT ta a b).L) ((bpT ta a b).F)).l))])) (by rw [eb] <;> first | rfl | exact rbA e | exact rbB e | exact rbC e | exact rbD e | exact rbE e | (rw [e]; simp; done) | exact rbA c | exact rbB c | exact rbC c | exact rbD c | exact rbE c | (rw [c]; simp; done) | (rw [hte]; done)))).trans (congrArg (fun zq => (Value.agg #[.bool ((bpT t a b).n), .int .i64 ((bpT t a b).f), .int .i64 zq])) (by rw [eb] <;> first | rfl | exact rbA e | exact rbB e | exact rbC e | exact rbD e | exact rbE e | (rw [e]; simp; done) | exact rbA c | exact rbB c | exact rbC c | exact rbD c | exact rbE c | (rw [c]; simp; done) | (rw [hte]; done)))), fa, e8, b5, s, e9, b6, u, D, E⟩
   have gp := c
   refine Zu ?_
   refine Zb (gm _ _ ?_)
   refine Zg fun ml h3 => ?_
   refine Zc (Za rfl rfl (Zt b8.at_ agg91 sz91 rfl) (Zk rfl rfl ?_))
   have h4 := ((((((((((((cT.ch0 C6).ch C7 (ne1 om)).ch0 ec).ch e2 (nin3 om (Zbs o om) (Zbs p om))).ch0 ed).ch ee (ne1 om)).ch e5 (nin3 om ae af)).ch0 ef).ch eg (ne1 om)).ch b4 (nin3 om ak al)).ch0 bj).ch bk (ne1 om)).ch bm (ne1 om)
   refine Zy (off := 0) 3 h4 sz91 rfl (us := [(.bool ((bpT tb ((bpT ta a b).L) ((bpT ta a b).F)).n)), (.int .i64 (ior ((bpT ta a b).f) ((bpT tb ((bpT ta a b).L) ((bpT ta a b).F)).f))), (.int .i64 ((bpT tb ((bpT ta a b).L) ((bpT ta a b).F)).l))]) rfl rfl rfl rfl fun er cK dP => ?_
   have jR := dP.size
   have E := E.step dP (oneL om)
   replace cK : Blk er aW 91 [(.bool ((bpT tb ((bpT ta a b).L) ((bpT ta a b).F)).n)), (.int .i64 (ior ((bpT ta a b).f) ((bpT tb ((bpT ta a b).L) ((bpT ta a b).F)).f))), (.int .i64 ((bpT tb ((bpT ta a b).L) ((bpT ta a b).F)).l))] := cK
   refine Zf (Zb (h3 _ _ ?_))
   refine Zs (Yi (Zm ?_))
   have h5 := (((df.ch0 bj).ch bk (ne1 om)).ch bm (ne1 om)).ch dP (ne1 om)
   have h6 := (((a3.ch0 bj).ch bk (dS G S om)).ch bm (dS G S om)).ch dP (fun g hg hm => by have r := mSg.1 hm; exact a5 (by first | exact hg | exact r ▸ hg))
   have fb : Ol ics 3 1 er (.slice x (((bpT tb ((bpT ta a b).L) ((bpT ta a b).F)).L)).length y) ((bpT t a b).L) := by
    have hx := h6
    exact hx.eq (by rw [eb] <;> first | rfl | exact rbA e | exact rbB e | exact rbC e | exact rbD e | exact rbE e | (rw [e]; simp; done) | exact rbA c | exact rbB c | exact rbC c | exact rbD c | exact rbE c | (rw [c]; simp; done) | (rw [hte]; done))
   have h7 := (((a4.ch0 bj).ch bk (dS H T om)).ch bm (dS H T om)).ch dP (fun g hg hm => by have r := mSg.1 hm; exact a6 (by first | exact hg | exact r ▸ hg))
   have fc : Ol ics 3 1 er (.slice z (lkL ((bpT ta a b).l) ((bpT tb ((bpT ta a b).L) ((bpT ta a b).F)).f) ((bpT tb ((bpT ta a b).L) ((bpT ta a b).F)).F)).length A) ((bpT t a b).F) := by
    have hx := h7
    exact hx.eq (by rw [eb] <;> first | rfl | exact rbA e | exact rbB e | exact rbC e | exact rbD e | exact rbE e | (rw [e]; simp; done) | exact rbA c | exact rbB c | exact rbC c | exact rbD c | exact rbE c | (rw [c]; simp; done) | (rw [hte]; done))
   have fd : Blk er b_p t_p [(.slice x (((bpT tb ((bpT ta a b).L) ((bpT ta a b).F)).L)).length y), .int .i64 bu, .int .i64 bv, (.slice z (lkL ((bpT ta a b).l) ((bpT tb ((bpT ta a b).L) ((bpT ta a b).F)).f) ((bpT tb ((bpT ta a b).L) ((bpT ta a b).F)).F)).length A), .bool bw] := by
    have hx := h5
    exact hx
   exact Zi [_] (Zz cK rfl agg91 sz91 trivial) ⟨(.slice x (((bpT tb ((bpT ta a b).L) ((bpT ta a b).F)).L)).length y), (.slice z (lkL ((bpT ta a b).l) ((bpT tb ((bpT ta a b).L) ((bpT ta a b).F)).f) ((bpT tb ((bpT ta a b).L) ((bpT ta a b).F)).F)).length A), (((congrArg (fun zq => (Value.agg #[.bool zq, .int .i64 (ior ((bpT ta a b).f) ((bpT tb ((bpT ta a b).L) ((bpT ta a b).F)).f)), .int .i64 ((bpT tb ((bpT ta a b).L) ((bpT ta a b).F)).l)])) (by rw [eb] <;> first | rfl | exact rbA e | exact rbB e | exact rbC e | exact rbD e | exact rbE e | (rw [e]; simp; done) | exact rbA c | exact rbB c | exact rbC c | exact rbD c | exact rbE c | (rw [c]; simp; done) | (rw [hte]; done))).trans (congrArg (fun zq => (Value.agg #[.bool ((bpT t a b).n), .int .i64 zq, .int .i64 ((bpT tb ((bpT ta a b).L) ((bpT ta a b).F)).l)])) (by rw [eb] <;> first | rfl | exact rbA e | exact rbB e | exact rbC e | exact rbD e | exact rbE e | (rw [e]; simp; done) | exact rbA c | exact rbB c | exact rbC c | exact rbD c | exact rbE c | (rw [c]; simp; done) | (rw [hte]; done)))).trans (congrArg (fun zq => (Value.agg #[.bool ((bpT t a b).n), .int .i64 ((bpT t a b).f), .int .i64 zq])) (by rw [eb] <;> first | rfl | exact rbA e | exact rbB e | exact rbC e | exact rbD e | exact rbE e | (rw [e]; simp; done) | exact rbA c | exact rbB c | exact rbC c | exact rbD c | exact rbE c | (rw [c]; simp; done) | (rw [hte]; done)))), fd, fb, b5, s, fc, b6, u, D, E⟩
  have dM := e
  refine Zj rfl rfl (Zj rfl rfl (Za rfl rfl (Zv rfl rfl) (Za rfl rfl (Zh fa91_1 rfl) (Za rfl rfl (Zp dL.at_ agg3 rfl rfl) (Za rfl rfl (Zh fa91_2 rfl) ?_)))))
  have gq := bK.ch b4 (nin3 om (Zbs a1 om) (Zbs a2 om))
  refine Za rfl rfl (Zp gq.at_ agg3 rfl rfl) (Za rfl rfl (Yt (parts := [(0, .tmp 87), (1, .tmp 89), (2, .tmp 91)]) (cells := [(.bool false), (.int .i64 ((bpT ta a b).f)), (.int .i64 ((bpT tb ((bpT ta a b).L) ((bpT ta a b).F)).l))]) zr91 pl91 rfl rfl) (Zk rfl rfl ?_))
  refine Yr zr91 fun cm h8 b7 bn hP => ?_
  have jS := bn.size
  have E := E.trans bn.of_nil
  have hQ := b7.lt
  replace b7 : Blk h8 cm 91 [(.bool false), (.int .i64 0), (.int .i64 0)] := b7
  refine Zk rfl rfl ?_
  refine Zy (off := 0) 3 b7 sz91 rfl (us := [(.bool false), (.int .i64 ((bpT ta a b).f)), (.int .i64 ((bpT tb ((bpT ta a b).L) ((bpT ta a b).F)).l))]) rfl rfl rfl rfl fun h9 b9 bp => ?_
  have jT := bp.size
  have E := E.step bp (oneL om)
  replace b9 : Blk h9 cm 91 [(.bool false), (.int .i64 ((bpT ta a b).f)), (.int .i64 ((bpT tb ((bpT ta a b).L) ((bpT ta a b).F)).l))] := b9
  refine Zf (Zb (gk _ _ ?_))
  refine Zg fun mm ia => ?_
  refine Zg fun mn ib => ?_
  refine Zc (Za rfl rfl (Zh fa91_0 rfl) ?_)
  have gr := (dL.ch0 bn).ch bp (ne1 om)
  refine Za rfl rfl (Zp gr.at_ agg4 rfl rfl) (Zf (Zb (ib _ _ ?_)))
  refine Zsh rfl dM ?_
  refine Zu ?_
  refine Zb (ia _ _ ?_)
  refine Zg fun mo gs => ?_
  refine Zg fun mp ic => ?_
  refine Zc (Za rfl rfl (Zh fa91_0 rfl) ?_)
  have gt := (gq.ch0 bn).ch bp (ne1 om)
  refine Za rfl rfl (Zp gt.at_ agg4 rfl rfl) (Zf (Zb (ic _ _ ?_)))
  refine Zx rfl (fun c => ?_) (fun c => ?_)
  ·have gu := c
   refine Zc (Za rfl rfl (Zh fa91_2 rfl) (Za rfl rfl (Zp gr.at_ agg3 rfl rfl) (Za rfl rfl (Zh fa91_2 rfl) (Za rfl rfl (Zp gt.at_ agg3 rfl rfl) (Za rfl rfl (r_or rfl rfl) (Za rfl rfl (Zh fa91_2 rfl) (Zk rfl rfl ?_)))))))
   refine Xh (off := 2) b9 sz3 rfl rfl rfl rfl fun ie cL dh => ?_
   have jU := dh.size
   have E := E.step dh (oneL om)
   replace cL : Blk ie cm 91 [(.bool false), (.int .i64 ((bpT ta a b).f)), (.int .i64 (ior ((bpT ta a b).l) ((bpT tb ((bpT ta a b).L) ((bpT ta a b).F)).l)))] := cL
   refine Zf (Zb (gs _ _ ?_))
   refine Zg fun mq ig => ?_
   refine Zc (Za rfl rfl (Zt cL.at_ agg91 sz91 rfl) (Zk rfl rfl ?_))
   have ii := ((((((((((((cT.ch0 C6).ch C7 (ne1 om)).ch0 ec).ch e2 (nin3 om (Zbs o om) (Zbs p om))).ch0 ed).ch ee (ne1 om)).ch e5 (nin3 om ae af)).ch0 ef).ch eg (ne1 om)).ch b4 (nin3 om ak al)).ch0 bn).ch bp (ne1 om)).ch dh (ne1 om)
   refine Zy (off := 0) 3 ii sz91 rfl (us := [(.bool false), (.int .i64 ((bpT ta a b).f)), (.int .i64 (ior ((bpT ta a b).l) ((bpT tb ((bpT ta a b).L) ((bpT ta a b).F)).l)))]) rfl rfl rfl rfl fun es cM dQ => ?_
   have jV := dQ.size
   have E := E.step dQ (oneL om)
   replace cM : Blk es aW 91 [(.bool false), (.int .i64 ((bpT ta a b).f)), (.int .i64 (ior ((bpT ta a b).l) ((bpT tb ((bpT ta a b).L) ((bpT ta a b).F)).l)))] := cM
   refine Zf (Zb (ig _ _ ?_))
   refine Zs (Yi (Zm ?_))
   have ij := (((df.ch0 bn).ch bp (ne1 om)).ch dh (ne1 om)).ch dQ (ne1 om)
   have ik := (((a3.ch0 bn).ch bp (dS G S om)).ch dh (dS G S om)).ch dQ (fun g hg hm => by have r := mSg.1 hm; exact a5 (by first | exact hg | exact r ▸ hg))
   have fe : Ol ics 3 1 es (.slice x (((bpT tb ((bpT ta a b).L) ((bpT ta a b).F)).L)).length y) ((bpT t a b).L) := by
    have hx := ik
    exact hx.eq (by rw [eb] <;> first | rfl | exact rbA e | exact rbB e | exact rbC e | exact rbD e | exact rbE e | (rw [e]; simp; done) | exact rbA c | exact rbB c | exact rbC c | exact rbD c | exact rbE c | (rw [c]; simp; done) | (rw [hte]; done))
   have il := (((a4.ch0 bn).ch bp (dS H T om)).ch dh (dS H T om)).ch dQ (fun g hg hm => by have r := mSg.1 hm; exact a6 (by first | exact hg | exact r ▸ hg))
   have ff : Ol ics 3 1 es (.slice z (lkL ((bpT ta a b).l) ((bpT tb ((bpT ta a b).L) ((bpT ta a b).F)).f) ((bpT tb ((bpT ta a b).L) ((bpT ta a b).F)).F)).length A) ((bpT t a b).F) := by
    have hx := il
    exact hx.eq (by rw [eb] <;> first | rfl | exact rbA e | exact rbB e | exact rbC e | exact rbD e | exact rbE e | (rw [e]; simp; done) | exact rbA c | exact rbB c | exact rbC c | exact rbD c | exact rbE c | (rw [c]; simp; done) | (rw [hte]; done))
   have fg : Blk es b_p t_p [(.slice x (((bpT tb ((bpT ta a b).L) ((bpT ta a b).F)).L)).length y), .int .i64 bu, .int .i64 bv, (.slice z (lkL ((bpT ta a b).l) ((bpT tb ((bpT ta a b).L) ((bpT ta a b).F)).f) ((bpT tb ((bpT ta a b).L) ((bpT ta a b).F)).F)).length A), .bool bw] := by
    have hx := ij
    exact hx
   exact Zi [_] (Zz cM rfl agg91 sz91 trivial) ⟨(.slice x (((bpT tb ((bpT ta a b).L) ((bpT ta a b).F)).L)).length y), (.slice z (lkL ((bpT ta a b).l) ((bpT tb ((bpT ta a b).L) ((bpT ta a b).F)).f) ((bpT tb ((bpT ta a b).L) ((bpT ta a b).F)).F)).length A), (((congrArg (fun zq => (Value.agg #[.bool zq, .int .i64 ((bpT ta a b).f), .int .i64 (ior ((bpT ta a b).l) ((bpT tb ((bpT ta a b).L) ((bpT ta a b).F)).l))])) (by rw [eb] <;> first | rfl | exact rbA e | exact rbB e | exact rbC e | exact rbD e | exact rbE e | (rw [e]; simp; done) | exact rbA c | exact rbB c | exact rbC c | exact rbD c | exact rbE c | (rw [c]; simp; done) | (rw [hte]; done))).trans (congrArg (fun zq => (Value.agg #[.bool ((bpT t a b).n), .int .i64 zq, .int .i64 (ior ((bpT ta a b).l) ((bpT tb ((bpT ta a b).L) ((bpT ta a b).F)).l))])) (by rw [eb] <;> first | rfl | exact rbA e | exact rbB e | exact rbC e | exact rbD e | exact rbE e | (rw [e]; simp; done) | exact rbA c | exact rbB c | exact rbC c | exact rbD c | exact rbE c | (rw [c]; simp; done) | (rw [hte]; done)))).trans (congrArg (fun zq => (Value.agg #[.bool ((bpT t a b).n), .int .i64 ((bpT t a b).f), .int .i64 zq])) (by rw [eb] <;> first | rfl | exact rbA e | exact rbB e | exact rbC e | exact rbD e | exact rbE e | (rw [e]; simp; done) | exact rbA c | exact rbB c | exact rbC c | exact rbD c | exact rbE c | (rw [c]; simp; done) | (rw [hte]; done)))), fg, fe, b5, s, ff, b6, u, D, E⟩
  have gu := c
  refine Zu ?_
  refine Zb (gs _ _ ?_)
  refine Zg fun mr im => ?_
  refine Zc (Za rfl rfl (Zt b9.at_ agg91 sz91 rfl) (Zk rfl rfl ?_))
  have io := (((((((((((cT.ch0 C6).ch C7 (ne1 om)).ch0 ec).ch e2 (nin3 om (Zbs o om) (Zbs p om))).ch0 ed).ch ee (ne1 om)).ch e5 (nin3 om ae af)).ch0 ef).ch eg (ne1 om)).ch b4 (nin3 om ak al)).ch0 bn).ch bp (ne1 om)
  refine Zy (off := 0) 3 io sz91 rfl (us := [(.bool false), (.int .i64 ((bpT ta a b).f)), (.int .i64 ((bpT tb ((bpT ta a b).L) ((bpT ta a b).F)).l))]) rfl rfl rfl rfl fun eu cN dR => ?_
  have jW := dR.size
  have E := E.step dR (oneL om)
  replace cN : Blk eu aW 91 [(.bool false), (.int .i64 ((bpT ta a b).f)), (.int .i64 ((bpT tb ((bpT ta a b).L) ((bpT ta a b).F)).l))] := cN
  refine Zf (Zb (im _ _ ?_))
  refine Zs (Yi (Zm ?_))
  have ip := ((df.ch0 bn).ch bp (ne1 om)).ch dR (ne1 om)
  have iq := ((a3.ch0 bn).ch bp (dS G S om)).ch dR (fun g hg hm => by have r := mSg.1 hm; exact a5 (by first | exact hg | exact r ▸ hg))
  have fh : Ol ics 3 1 eu (.slice x (((bpT tb ((bpT ta a b).L) ((bpT ta a b).F)).L)).length y) ((bpT t a b).L) := by
   have hx := iq
   exact hx.eq (by rw [eb] <;> first | rfl | exact rbA e | exact rbB e | exact rbC e | exact rbD e | exact rbE e | (rw [e]; simp; done) | exact rbA c | exact rbB c | exact rbC c | exact rbD c | exact rbE c | (rw [c]; simp; done) | (rw [hte]; done))
  have ir := ((a4.ch0 bn).ch bp (dS H T om)).ch dR (fun g hg hm => by have r := mSg.1 hm; exact a6 (by first | exact hg | exact r ▸ hg))
  have fi : Ol ics 3 1 eu (.slice z (lkL ((bpT ta a b).l) ((bpT tb ((bpT ta a b).L) ((bpT ta a b).F)).f) ((bpT tb ((bpT ta a b).L) ((bpT ta a b).F)).F)).length A) ((bpT t a b).F) := by
   have hx := ir
   exact hx.eq (by rw [eb] <;> first | rfl | exact rbA e | exact rbB e | exact rbC e | exact rbD e | exact rbE e | (rw [e]; simp; done) | exact rbA c | exact rbB c | exact rbC c | exact rbD c | exact rbE c | (rw [c]; simp; done) | (rw [hte]; done))
  have fj : Blk eu b_p t_p [(.slice x (((bpT tb ((bpT ta a b).L) ((bpT ta a b).F)).L)).length y), .int .i64 bu, .int .i64 bv, (.slice z (lkL ((bpT ta a b).l) ((bpT tb ((bpT ta a b).L) ((bpT ta a b).F)).f) ((bpT tb ((bpT ta a b).L) ((bpT ta a b).F)).F)).length A), .bool bw] := by
   have hx := ip
   exact hx
  exact Zi [_] (Zz cN rfl agg91 sz91 trivial) ⟨(.slice x (((bpT tb ((bpT ta a b).L) ((bpT ta a b).F)).L)).length y), (.slice z (lkL ((bpT ta a b).l) ((bpT tb ((bpT ta a b).L) ((bpT ta a b).F)).f) ((bpT tb ((bpT ta a b).L) ((bpT ta a b).F)).F)).length A), (((congrArg (fun zq => (Value.agg #[.bool zq, .int .i64 ((bpT ta a b).f), .int .i64 ((bpT tb ((bpT ta a b).L) ((bpT ta a b).F)).l)])) (by rw [eb] <;> first | rfl | exact rbA e | exact rbB e | exact rbC e | exact rbD e | exact rbE e | (rw [e]; simp; done) | exact rbA c | exact rbB c | exact rbC c | exact rbD c | exact rbE c | (rw [c]; simp; done) | (rw [hte]; done))).trans (congrArg (fun zq => (Value.agg #[.bool ((bpT t a b).n), .int .i64 zq, .int .i64 ((bpT tb ((bpT ta a b).L) ((bpT ta a b).F)).l)])) (by rw [eb] <;> first | rfl | exact rbA e | exact rbB e | exact rbC e | exact rbD e | exact rbE e | (rw [e]; simp; done) | exact rbA c | exact rbB c | exact rbC c | exact rbD c | exact rbE c | (rw [c]; simp; done) | (rw [hte]; done)))).trans (congrArg (fun zq => (Value.agg #[.bool ((bpT t a b).n), .int .i64 ((bpT t a b).f), .int .i64 zq])) (by rw [eb] <;> first | rfl | exact rbA e | exact rbB e | exact rbC e | exact rbD e | exact rbE e | (rw [e]; simp; done) | exact rbA c | exact rbB c | exact rbC c | exact rbD c | exact rbE c | (rw [c]; simp; done) | (rw [hte]; done)))), fj, fh, b5, s, fi, b6, u, D, E⟩
 have ho := cC
 have cC := Yp cC
 refine Zg fun ms it => ?_
 refine Zc (Za rfl rfl (Xu rfl rfl) (Za rfl rfl (Ze rfl) (Zf (Zb (it _ _ ?_)))))
 refine Zx rfl (fun bL => ?_) (fun bL => ?_)
 ·have gv := bL
  have bL := Yo bL
  obtain ⟨ta, tb, et, oa, ob, hla, jC⟩ := hok.k2 om eR hl
  have dA : t.kids[0]? = some ta := by rw [et]; rfl
  have eY : t.kids[1]? = some tb := by rw [et]; rfl
  have ga := ta.flat_len
  have gb := tb.flat_len
  have za := Zdq ta a b
  have zb := Zdq tb (bpT ta a b).L (bpT ta a b).F
  have eb := bp5 (L := a) (F := b) hok om dA eY
  refine Zg fun mt iu => ?_
  refine Zc (Za rfl rfl (Zd rfl) (Za rfl rfl (Zd rfl) (Zk rfl rfl ?_)))
  have gw := (F5.ch0 C6).ch C7 (tfr1 om)
  refine (Zgs (ys := (ta.flat ++ tb.flat)) 0 ((((l.length : Nat) : Int) - 1).toNat) gw Token.len el42 sz84 rfl rfl ⟨_, _, rfl, by omega⟩ om om (show l.take _ = _ from Ziz hla om) fun jX dU iv iw => ?_)
  obtain ⟨jY, jZ, gx⟩ := dU.val
  subst gx
  have j0 := dU.len
  refine Zk rfl rfl ?_
  refine Step.call (Zl (xs := [.tmp 114]) fk106 rfl) (Zao dU ta.flat tb ob rfl) fun j1 mu gy => ?_
  obtain ⟨rfl, cn⟩ := gy
  have j2 := cn.size
  have E := E.trans cn.of_nil
  refine Za rfl rfl (Ze rfl) (Zf (Zb (iu _ _ ?_)))
  refine Zg fun mv ix => ?_
  refine Zc (Za rfl rfl (Zd rfl) (Za rfl rfl (Zd rfl) (Za rfl rfl (Zd rfl) (Zk rfl rfl ?_))))
  have gz := gw.ch0 cn
  refine (Zgs (ys := ta.flat) 0 ta.flat.length gz Token.len el42 sz84 rfl rfl ⟨_, _, rfl, by omega⟩ om om (show l.take _ = _ from Znv hla om) fun j3 dW iy iz => ?_)
  obtain ⟨j4, j5, gA⟩ := dW.val
  subst gA
  have j6 := dW.len
  refine Zk rfl rfl ?_
  have iA := (((m_p.ch0 C2).ch0 C6).ch C7 (ne1 om)).ch0 cn
  have iB := (((aU.ch0 C2).ch0 C6).ch C7 (dS k o om)).ch0 cn
  have iC := (((aV.ch0 C2).ch0 C6).ch C7 (dS m p om)).ch0 cn
  refine Step.call (Zl (xs := [.tmp 116, .tmp 119]) fk67 rfl) (ih iA om iB I (Lo.down k om) iC Z (Lo.down m om) q dW ta oa rfl om ⟨by omega, by omega⟩ (L_p := L_p) om) fun j7 iD gB => ?_
  obtain ⟨gV, gW, rfl, dX, co, aK, ao, cp, aL, ap, bq, dY⟩ := gB
  have j8 := dY.size
  have E := E.step dY (fun i hm => by rcases List.mem_cons.1 hm with r | hm; (right; exact r ▸ List.mem_cons_self ..); (rcases List.mem_append.1 hm with hm | hm; (exact (.inr (mCo _ (mAL _ hm)))); (exact (.inr (mCo _ (mAR _ hm))))))
  obtain ⟨c3, c4, rfl, gX, a7⟩ := co.opn
  have J : Lo L_p (.slice c3 ((bpT ta a b).L).length c4) := Zed aK ao om (all2 k m)
  obtain ⟨c5, c6, rfl, gY, a8⟩ := cp.opn
  have K : Lo L_p (.slice c5 ((bpT ta a b).F).length c6) := Zed aL ap om (all2 k m)
  have aM := Qx aK ao (show aW < _ by omega) (nin2 (Qv k o om) (Qv m p om))
  have bU := Qx aK ao (show cz < _ by omega) (nin2 (Qv k o om) (Qv m p om))
  have ca := Zce E aK ao om (all2 (fun g hm => (.inr (mCo _ (mAL _ hm)))) (fun g hm => (.inr (mCo _ (mAR _ hm)))))
  have aN := Qx aL ap (show aW < _ by omega) (nin2 (Qv k o om) (Qv m p om))
  have bV := Qx aL ap (show cz < _ by omega) (nin2 (Qv k o om) (Qv m p om))
  have cb := Zce E aL ap om (all2 (fun g hm => (.inr (mCo _ (mAL _ hm)))) (fun g hm => (.inr (mCo _ (mAR _ hm)))))
  replace dX : Blk iD b_p t_p [(.slice c3 ((bpT ta a b).L).length c4), (.int .i64 bu), (.int .i64 bv), (.slice c5 ((bpT ta a b).F).length c6), (.bool bw)] := dX
  refine Zk rfl rfl ?_
  refine Yr zr91 fun ew iE ex cq mw => ?_
  have j9 := cq.size
  have E := E.trans cq.of_nil
  have mx := ex.lt
  replace ex : Blk iE ew 91 [(.bool false), (.int .i64 0), (.int .i64 0)] := ex
  refine Zk rfl rfl ?_
  refine Zy (off := 0) 3 ex sz91 rfl (us := [(.bool ((bpT ta a b).n)), (.int .i64 ((bpT ta a b).f)), (.int .i64 ((bpT ta a b).l))]) rfl rfl rfl rfl fun iF cO cr => ?_
  have ka := cr.size
  have E := E.step cr (oneL om)
  replace cO : Blk iF ew 91 [(.bool ((bpT ta a b).n)), (.int .i64 ((bpT ta a b).f)), (.int .i64 ((bpT ta a b).l))] := cO
  refine Zf (Zb (ix _ _ ?_))
  refine Zg fun my iG => ?_
  refine Zc (Za rfl rfl (Zd rfl) (Za rfl rfl (Zd rfl) (Za rfl rfl (Zd rfl) (Za rfl rfl (Zd rfl) (Zk rfl rfl ?_)))))
  have iH := ((gz.ch dY (lwr3 om k om m om)).ch0 cq).ch cr (tfr1 om)
  refine (Zgs (ys := tb.flat) ta.flat.length ((((l.length : Nat) : Int) - 1).toNat) iH Token.len el42 sz84 rfl ⟨_, _, rfl, by omega⟩ ⟨_, _, rfl, by omega⟩ om om (Znu hla om om) fun kb dZ iI iJ => ?_)
  obtain ⟨kc, kd, gC⟩ := dZ.val
  subst gC
  have ke := dZ.len
  refine Zk rfl rfl ?_
  have iK := (dX.ch0 cq).ch cr (ne1 om)
  have iL := (co.ch0 cq).ch cr (dS J a7 om)
  have iM := (cp.ch0 cq).ch cr (dS K a8 om)
  refine Step.call (Zl (xs := [.tmp 121, .tmp 125]) fk67 rfl) (ih iK om iL ao (Lo.down J om) iM ap (Lo.down K om) bq dZ tb ob rfl om ⟨by omega, by omega⟩ (L_p := L_p) om) fun kf iN gD => ?_
  obtain ⟨gZ, g0, rfl, c7, bM, aq, B, bN, au, C, aD, d0⟩ := gD
  have kg := d0.size
  have E := E.step d0 (fun i hm => by rcases List.mem_cons.1 hm with r | hm; (right; exact r ▸ List.mem_cons_self ..); (rcases List.mem_append.1 hm with hm | hm; (exact (ca _ hm)); (exact (cb _ hm))))
  obtain ⟨U, V, rfl, g1, ct⟩ := bM.opn
  have bW : Lo L_p (.slice U ((bpT tb ((bpT ta a b).L) ((bpT ta a b).F)).L).length V) := Zed aq B om (all2 J K)
  obtain ⟨X, Y, rfl, g2, cu⟩ := bN.opn
  have bX : Lo L_p (.slice X ((bpT tb ((bpT ta a b).L) ((bpT ta a b).F)).F).length Y) := Zed au C om (all2 J K)
  have bY := Qx aq B (show aW < _ by omega) (nin2 aM aN)
  have fF := Qx aq B (show cz < _ by omega) (nin2 bU bV)
  have fk := Qx aq B (show ew < _ by omega) (nin2 (Qv J a7 om) (Qv K a8 om))
  have c8 := Zce E aq B om (all2 (fun g hm => (ca _ hm)) (fun g hm => (cb _ hm)))
  have bZ := Qx au C (show aW < _ by omega) (nin2 aM aN)
  have fG := Qx au C (show cz < _ by omega) (nin2 bU bV)
  have fl := Qx au C (show ew < _ by omega) (nin2 (Qv J a7 om) (Qv K a8 om))
  have c9 := Zce E au C om (all2 (fun g hm => (ca _ hm)) (fun g hm => (cb _ hm)))
  replace c7 : Blk iN b_p t_p [(.slice U ((bpT tb ((bpT ta a b).L) ((bpT ta a b).F)).L).length V), (.int .i64 bu), (.int .i64 bv), (.slice X ((bpT tb ((bpT ta a b).L) ((bpT ta a b).F)).F).length Y), (.bool bw)] := c7
  refine Zk rfl rfl ?_
  refine Yr zr91 fun gE iO ey bO mz => ?_
  have kh := bO.size
  have E := E.trans bO.of_nil
  have mA := ey.lt
  replace ey : Blk iO gE 91 [(.bool false), (.int .i64 0), (.int .i64 0)] := ey
  refine Zk rfl rfl ?_
  refine Zy (off := 0) 3 ey sz91 rfl (us := [(.bool ((bpT tb ((bpT ta a b).L) ((bpT ta a b).F)).n)), (.int .i64 ((bpT tb ((bpT ta a b).L) ((bpT ta a b).F)).f)), (.int .i64 ((bpT tb ((bpT ta a b).L) ((bpT ta a b).F)).l))]) rfl rfl rfl rfl fun iP aR bP => ?_
  have ki := bP.size
  have E := E.step bP (oneL om)
  replace aR : Blk iP gE 91 [(.bool ((bpT tb ((bpT ta a b).L) ((bpT ta a b).F)).n)), (.int .i64 ((bpT tb ((bpT ta a b).L) ((bpT ta a b).F)).f)), (.int .i64 ((bpT tb ((bpT ta a b).L) ((bpT ta a b).F)).l))] := aR
  refine Zf (Zb (iG _ _ ?_))
  refine Zg fun mB gF => ?_
  refine Zc (Za rfl rfl (Zh fa91_0 rfl) ?_)
  have d1 := ((cO.ch d0 (nin3 om (Zbs a7 om) (Zbs a8 om))).ch0 bO).ch bP (ne1 om)
  refine Za rfl rfl (Zp d1.at_ agg4 rfl rfl) (Za rfl rfl (Zd rfl) ?_)
  refine Ym (d := 129) rfl (fun h => ?_) (fun h => ?_)
  ·have gG := h
   refine Zj rfl rfl (Zj rfl rfl (Za rfl rfl (Zw rfl rfl) (Za rfl rfl (Zh fa91_1 rfl) (Za rfl rfl (Zp d1.at_ agg3 rfl rfl) (Za rfl rfl (Zh fa91_1 rfl) (Za rfl rfl (Zp aR.at_ agg3 rfl rfl) (Za rfl rfl (r_or rfl rfl) ?_)))))))
   refine Za rfl rfl (Zh fa91_2 rfl) (Za rfl rfl (Zp d1.at_ agg3 rfl rfl) (Za rfl rfl (Zh fa91_2 rfl) (Za rfl rfl (Zp aR.at_ agg3 rfl rfl) (Za rfl rfl (r_or rfl rfl) (Za rfl rfl (Yt (parts := [(0, .tmp 132), (1, .tmp 137), (2, .tmp 142)]) (cells := [(.bool true), (.int .i64 (ior ((bpT ta a b).f) ((bpT tb ((bpT ta a b).L) ((bpT ta a b).F)).f))), (.int .i64 (ior ((bpT ta a b).l) ((bpT tb ((bpT ta a b).L) ((bpT ta a b).F)).l)))]) zr91 pl91 rfl rfl) (Zk rfl rfl ?_))))))
   have iQ := ((((((((cT.ch0 C6).ch C7 (ne1 om)).ch0 cn).ch dY (nin3 om (Zbs o om) (Zbs p om))).ch0 cq).ch cr (ne1 om)).ch d0 (nin3 om aM aN)).ch0 bO).ch bP (ne1 om)
   refine Zy (off := 0) 3 iQ sz91 rfl (us := [(.bool true), (.int .i64 (ior ((bpT ta a b).f) ((bpT tb ((bpT ta a b).L) ((bpT ta a b).F)).f))), (.int .i64 (ior ((bpT ta a b).l) ((bpT tb ((bpT ta a b).L) ((bpT ta a b).F)).l)))]) rfl rfl rfl rfl fun ez cP d2 => ?_
   have kj := d2.size
   have E := E.step d2 (oneL om)
   replace cP : Blk ez aW 91 [(.bool true), (.int .i64 (ior ((bpT ta a b).f) ((bpT tb ((bpT ta a b).L) ((bpT ta a b).F)).f))), (.int .i64 (ior ((bpT ta a b).l) ((bpT tb ((bpT ta a b).L) ((bpT ta a b).F)).l)))] := cP
   refine Zf (Zb (gF _ _ ?_))
   refine Zs (Yi (Zm ?_))
   have iR := ((c7.ch0 bO).ch bP (ne1 om)).ch d2 (ne1 om)
   have iS := ((bM.ch0 bO).ch bP (dS bW ct om)).ch d2 (fun g hg hm => by have r := mSg.1 hm; exact bY (by first | exact hg | exact r ▸ hg))
   have fm : Ol ics 3 1 ez (.slice U ((bpT tb ((bpT ta a b).L) ((bpT ta a b).F)).L).length V) ((bpT t a b).L) := by
    have hx := iS
    exact hx.eq (by rw [eb] <;> first | rfl | exact rbA h | exact rbB h | exact rbC h | exact rbD h | exact rbE h | (rw [h]; simp; done) | (rw [hte]; done))
   have iT := ((bN.ch0 bO).ch bP (dS bX cu om)).ch d2 (fun g hg hm => by have r := mSg.1 hm; exact bZ (by first | exact hg | exact r ▸ hg))
   have fn : Ol ics 3 1 ez (.slice X ((bpT tb ((bpT ta a b).L) ((bpT ta a b).F)).F).length Y) ((bpT t a b).F) := by
    have hx := iT
    exact hx.eq (by rw [eb] <;> first | rfl | exact rbA h | exact rbB h | exact rbC h | exact rbD h | exact rbE h | (rw [h]; simp; done) | (rw [hte]; done))
   have fo : Blk ez b_p t_p [(.slice U ((bpT tb ((bpT ta a b).L) ((bpT ta a b).F)).L).length V), .int .i64 bu, .int .i64 bv, (.slice X ((bpT tb ((bpT ta a b).L) ((bpT ta a b).F)).F).length Y), .bool bw] := by
    have hx := iR
    exact hx
   exact Zi [_] (Zz cP rfl agg91 sz91 trivial) ⟨(.slice U ((bpT tb ((bpT ta a b).L) ((bpT ta a b).F)).L).length V), (.slice X ((bpT tb ((bpT ta a b).L) ((bpT ta a b).F)).F).length Y), (((congrArg (fun zq => (Value.agg #[.bool zq, .int .i64 (ior ((bpT ta a b).f) ((bpT tb ((bpT ta a b).L) ((bpT ta a b).F)).f)), .int .i64 (ior ((bpT ta a b).l) ((bpT tb ((bpT ta a b).L) ((bpT ta a b).F)).l))])) (by rw [eb] <;> first | rfl | exact rbA h | exact rbB h | exact rbC h | exact rbD h | exact rbE h | (rw [h]; simp; done) | (rw [hte]; done))).trans (congrArg (fun zq => (Value.agg #[.bool ((bpT t a b).n), .int .i64 zq, .int .i64 (ior ((bpT ta a b).l) ((bpT tb ((bpT ta a b).L) ((bpT ta a b).F)).l))])) (by rw [eb] <;> first | rfl | exact rbA h | exact rbB h | exact rbC h | exact rbD h | exact rbE h | (rw [h]; simp; done) | (rw [hte]; done)))).trans (congrArg (fun zq => (Value.agg #[.bool ((bpT t a b).n), .int .i64 ((bpT t a b).f), .int .i64 zq])) (by rw [eb] <;> first | rfl | exact rbA h | exact rbB h | exact rbC h | exact rbD h | exact rbE h | (rw [h]; simp; done) | (rw [hte]; done)))), fo, fm, c8, B, fn, c9, C, aD, E⟩
  have gG := h
  refine Za rfl rfl (Zh fa91_0 rfl) (Za rfl rfl (Zp aR.at_ agg4 rfl rfl) (Za rfl rfl (Zv rfl rfl) (Za rfl rfl (Zh fa91_1 rfl) (Za rfl rfl (Zp d1.at_ agg3 rfl rfl) (Za rfl rfl (Zh fa91_1 rfl) (Za rfl rfl (Zp aR.at_ agg3 rfl rfl) (Za rfl rfl (r_or rfl rfl) ?_)))))))
  refine Za rfl rfl (Zh fa91_2 rfl) (Za rfl rfl (Zp d1.at_ agg3 rfl rfl) (Za rfl rfl (Zh fa91_2 rfl) (Za rfl rfl (Zp aR.at_ agg3 rfl rfl) (Za rfl rfl (r_or rfl rfl) (Za rfl rfl (Yt (parts := [(0, .tmp 132), (1, .tmp 137), (2, .tmp 142)]) (cells := [(.bool ((bpT tb ((bpT ta a b).L) ((bpT ta a b).F)).n)), (.int .i64 (ior ((bpT ta a b).f) ((bpT tb ((bpT ta a b).L) ((bpT ta a b).F)).f))), (.int .i64 (ior ((bpT ta a b).l) ((bpT tb ((bpT ta a b).L) ((bpT ta a b).F)).l)))]) zr91 pl91 rfl rfl) (Zk rfl rfl ?_))))))
  have iU := ((((((((cT.ch0 C6).ch C7 (ne1 om)).ch0 cn).ch dY (nin3 om (Zbs o om) (Zbs p om))).ch0 cq).ch cr (ne1 om)).ch d0 (nin3 om aM aN)).ch0 bO).ch bP (ne1 om)
  refine Zy (off := 0) 3 iU sz91 rfl (us := [(.bool ((bpT tb ((bpT ta a b).L) ((bpT ta a b).F)).n)), (.int .i64 (ior ((bpT ta a b).f) ((bpT tb ((bpT ta a b).L) ((bpT ta a b).F)).f))), (.int .i64 (ior ((bpT ta a b).l) ((bpT tb ((bpT ta a b).L) ((bpT ta a b).F)).l)))]) rfl rfl rfl rfl fun eA cQ d3 => ?_
  have kk := d3.size
  have E := E.step d3 (oneL om)
  replace cQ : Blk eA aW 91 [(.bool ((bpT tb ((bpT ta a b).L) ((bpT ta a b).F)).n)), (.int .i64 (ior ((bpT ta a b).f) ((bpT tb ((bpT ta a b).L) ((bpT ta a b).F)).f))), (.int .i64 (ior ((bpT ta a b).l) ((bpT tb ((bpT ta a b).L) ((bpT ta a b).F)).l)))] := cQ
  refine Zf (Zb (gF _ _ ?_))
  refine Zs (Yi (Zm ?_))
  have iV := ((c7.ch0 bO).ch bP (ne1 om)).ch d3 (ne1 om)
  have iW := ((bM.ch0 bO).ch bP (dS bW ct om)).ch d3 (fun g hg hm => by have r := mSg.1 hm; exact bY (by first | exact hg | exact r ▸ hg))
  have fp : Ol ics 3 1 eA (.slice U ((bpT tb ((bpT ta a b).L) ((bpT ta a b).F)).L).length V) ((bpT t a b).L) := by
   have hx := iW
   exact hx.eq (by rw [eb] <;> first | rfl | exact rbA h | exact rbB h | exact rbC h | exact rbD h | exact rbE h | (rw [h]; simp; done) | (rw [hte]; done))
  have iX := ((bN.ch0 bO).ch bP (dS bX cu om)).ch d3 (fun g hg hm => by have r := mSg.1 hm; exact bZ (by first | exact hg | exact r ▸ hg))
  have fq : Ol ics 3 1 eA (.slice X ((bpT tb ((bpT ta a b).L) ((bpT ta a b).F)).F).length Y) ((bpT t a b).F) := by
   have hx := iX
   exact hx.eq (by rw [eb] <;> first | rfl | exact rbA h | exact rbB h | exact rbC h | exact rbD h | exact rbE h | (rw [h]; simp; done) | (rw [hte]; done))
  have fr : Blk eA b_p t_p [(.slice U ((bpT tb ((bpT ta a b).L) ((bpT ta a b).F)).L).length V), .int .i64 bu, .int .i64 bv, (.slice X ((bpT tb ((bpT ta a b).L) ((bpT ta a b).F)).F).length Y), .bool bw] := by
   have hx := iV
   exact hx
  exact Zi [_] (Zz cQ rfl agg91 sz91 trivial) ⟨(.slice U ((bpT tb ((bpT ta a b).L) ((bpT ta a b).F)).L).length V), (.slice X ((bpT tb ((bpT ta a b).L) ((bpT ta a b).F)).F).length Y), (((congrArg (fun zq => (Value.agg #[.bool zq, .int .i64 (ior ((bpT ta a b).f) ((bpT tb ((bpT ta a b).L) ((bpT ta a b).F)).f)), .int .i64 (ior ((bpT ta a b).l) ((bpT tb ((bpT ta a b).L) ((bpT ta a b).F)).l))])) (by rw [eb] <;> first | rfl | exact rbA h | exact rbB h | exact rbC h | exact rbD h | exact rbE h | (rw [h]; simp; done) | (rw [hte]; done))).trans (congrArg (fun zq => (Value.agg #[.bool ((bpT t a b).n), .int .i64 zq, .int .i64 (ior ((bpT ta a b).l) ((bpT tb ((bpT ta a b).L) ((bpT ta a b).F)).l))])) (by rw [eb] <;> first | rfl | exact rbA h | exact rbB h | exact rbC h | exact rbD h | exact rbE h | (rw [h]; simp; done) | (rw [hte]; done)))).trans (congrArg (fun zq => (Value.agg #[.bool ((bpT t a b).n), .int .i64 ((bpT t a b).f), .int .i64 zq])) (by rw [eb] <;> first | rfl | exact rbA h | exact rbB h | exact rbC h | exact rbD h | exact rbE h | (rw [h]; simp; done) | (rw [hte]; done)))), fr, fp, c8, B, fq, c9, C, aD, E⟩
 have gv := bL
 have bL := Yp bL
 refine Zg fun mC iY => ?_
 refine Zc (Za rfl rfl (Xu rfl rfl) (Za rfl rfl (Ze rfl) (Zf (Zb (iY _ _ ?_)))))
 refine Zx rfl (fun bQ => ?_) (fun bQ => ?_)
 ·have gH := bQ
  have bQ := Yo bQ
  obtain ⟨ta, et, oa, hla, jC⟩ := hok.k1 om eR hl
  have dA : t.kids[0]? = some ta := by rw [et]; rfl
  have ga := ta.flat_len
  have za := Zdq ta a b
  have eb := bp6 (L := a) (F := b) hok om dA
  refine Zg fun mD iZ => ?_
  refine Zc (Za rfl rfl (Zd rfl) (Za rfl rfl (Zd rfl) (Za rfl rfl (Zd rfl) (Zk rfl rfl ?_))))
  have i0 := (F5.ch0 C6).ch C7 (tfr1 om)
  refine (Zgs (ys := ta.flat) 0 ((((l.length : Nat) : Int) - 1).toNat) i0 Token.len el42 sz84 rfl rfl ⟨_, _, rfl, by omega⟩ om om (show l.take _ = _ from Zok hla om) fun kl d4 i1 i2 => ?_)
  obtain ⟨km, kn, gI⟩ := d4.val
  subst gI
  have ko := d4.len
  refine Zk rfl rfl ?_
  have i3 := ((m_p.ch0 C2).ch0 C6).ch C7 (ne1 om)
  have i4 := ((aU.ch0 C2).ch0 C6).ch C7 (dS k o om)
  have i5 := ((aV.ch0 C2).ch0 C6).ch C7 (dS m p om)
  refine Step.call (Zl (xs := [.tmp 146, .tmp 149]) fk67 rfl) (ih i3 om i4 I (Lo.down k om) i5 Z (Lo.down m om) q d4 ta oa rfl om ⟨by omega, by omega⟩ (L_p := L_p) om) fun kp i6 gJ => ?_
  obtain ⟨g3, g4, rfl, d5, cv, aO, av, cw, aP, aw, br, fs⟩ := gJ
  have kq := fs.size
  have E := E.step fs (fun i hm => by rcases List.mem_cons.1 hm with r | hm; (right; exact r ▸ List.mem_cons_self ..); (rcases List.mem_append.1 hm with hm | hm; (exact (.inr (mCo _ (mAL _ hm)))); (exact (.inr (mCo _ (mAR _ hm))))))
  obtain ⟨da, db, rfl, g5, a9⟩ := cv.opn
  have M : Lo L_p (.slice da ((bpT ta a b).L).length db) := Zed aO av om (all2 k m)
  obtain ⟨dc, dd, rfl, g6, ba⟩ := cw.opn
  have O : Lo L_p (.slice dc ((bpT ta a b).F).length dd) := Zed aP aw om (all2 k m)
  have bh := Qx aO av (show aW < _ by omega) (nin2 (Qv k o om) (Qv m p om))
  have b0 := Qx aO av (show cz < _ by omega) (nin2 (Qv k o om) (Qv m p om))
  have cc := Zce E aO av om (all2 (fun g hm => (.inr (mCo _ (mAL _ hm)))) (fun g hm => (.inr (mCo _ (mAR _ hm)))))
  have bi := Qx aP aw (show aW < _ by omega) (nin2 (Qv k o om) (Qv m p om))
  have b1 := Qx aP aw (show cz < _ by omega) (nin2 (Qv k o om) (Qv m p om))
  have cd := Zce E aP aw om (all2 (fun g hm => (.inr (mCo _ (mAL _ hm)))) (fun g hm => (.inr (mCo _ (mAR _ hm)))))
  replace d5 : Blk i6 b_p t_p [(.slice da ((bpT ta a b).L).length db), (.int .i64 bu), (.int .i64 bv), (.slice dc ((bpT ta a b).F).length dd), (.bool bw)] := d5
  refine Zk rfl rfl ?_
  refine Yr zr91 fun eB i7 eC di mE => ?_
  have kr := di.size
  have E := E.trans di.of_nil
  have mF := eC.lt
  replace eC : Blk i7 eB 91 [(.bool false), (.int .i64 0), (.int .i64 0)] := eC
  refine Zk rfl rfl ?_
  refine Zy (off := 0) 3 eC sz91 rfl (us := [(.bool ((bpT ta a b).n)), (.int .i64 ((bpT ta a b).f)), (.int .i64 ((bpT ta a b).l))]) rfl rfl rfl rfl fun i8 bR dj => ?_
  have ks := dj.size
  have E := E.step dj (oneL om)
  replace bR : Blk i8 eB 91 [(.bool ((bpT ta a b).n)), (.int .i64 ((bpT ta a b).f)), (.int .i64 ((bpT ta a b).l))] := bR
  refine Zf (Zb (iZ _ _ ?_))
  refine Zg fun mG i9 => ?_
  refine Zc (Za rfl rfl (Zd rfl) (Za rfl rfl (Zh fa91_2 rfl) (Za rfl rfl (Zp bR.at_ agg3 rfl rfl) (Za rfl rfl (Zh fa91_1 rfl) (Za rfl rfl (Zp bR.at_ agg3 rfl rfl) (Zk rfl rfl ?_))))))
  have ja := (d5.ch0 di).ch dj (ne1 om)
  have jb := (cv.ch0 di).ch dj (dS M a9 om)
  have jc := (cw.ch0 di).ch dj (dS O ba om)
  refine Step.call (Zl (xs := [.tmp 151, .tmp 153, .tmp 155]) fk107 rfl) (Zeo ja om jb av (Lo.down M om) jc aw (Lo.down O om) br _ _ om (L_p := L_p)) fun kt jd gK => ?_
  obtain ⟨g7, g8, rfl, d6, cx, ax, P, cy, ay, Q, bs, eD⟩ := gK
  have ku := eD.size
  have E := E.step eD (fun i hm => by rcases List.mem_cons.1 hm with r | hm; (right; exact r ▸ List.mem_cons_self ..); (rcases List.mem_append.1 hm with hm | hm; (exact (cc _ hm)); (exact (cd _ hm))))
  obtain ⟨bb, bc, rfl, g9, gL⟩ := cx.opn
  have fH : Lo L_p (.slice bb (((bpT ta a b).L)).length bc) := Zed ax P om (all2 M O)
  obtain ⟨be, bf, rfl, ha, gM⟩ := cy.opn
  have fI : Lo L_p (.slice be (lkL ((bpT ta a b).l) ((bpT ta a b).f) ((bpT ta a b).F)).length bf) := Zed ay Q om (all2 M O)
  have dk := Qx ax P (show aW < _ by omega) (nin2 bh bi)
  have fJ := Qx ax P (show cz < _ by omega) (nin2 b0 b1)
  have ft := Qx ax P (show eB < _ by omega) (nin2 (Qv M a9 om) (Qv O ba om))
  have eE := Zce E ax P om (all2 (fun g hm => (cc _ hm)) (fun g hm => (cd _ hm)))
  have dl := Qx ay Q (show aW < _ by omega) (nin2 bh bi)
  have fK := Qx ay Q (show cz < _ by omega) (nin2 b0 b1)
  have fu := Qx ay Q (show eB < _ by omega) (nin2 (Qv M a9 om) (Qv O ba om))
  have eF := Zce E ay Q om (all2 (fun g hm => (cc _ hm)) (fun g hm => (cd _ hm)))
  replace d6 : Blk jd b_p t_p [(.slice bb (((bpT ta a b).L)).length bc), (.int .i64 bu), (.int .i64 bv), (.slice be (lkL ((bpT ta a b).l) ((bpT ta a b).f) ((bpT ta a b).F)).length bf), (.bool bw)] := d6
  refine Zf (Zb (i9 _ _ ?_))
  refine Zg fun mH je => ?_
  refine Zc (Za rfl rfl (Zh fa91_1 rfl) ?_)
  have gN := bR.ch eD (nin3 om (Zbs a9 om) (Zbs ba om))
  refine Za rfl rfl (Zp gN.at_ agg3 rfl rfl) (Za rfl rfl (Zh fa91_2 rfl) (Za rfl rfl (Zp gN.at_ agg3 rfl rfl) (Za rfl rfl (Yt (parts := [(0, .const (Go.Value.bool true)), (1, .tmp 158), (2, .tmp 160)]) (cells := [(.bool true), (.int .i64 ((bpT ta a b).f)), (.int .i64 ((bpT ta a b).l))]) zr91 pl91 rfl rfl) (Zk rfl rfl ?_))))
  have jf := (((((cT.ch0 C6).ch C7 (ne1 om)).ch fs (nin3 om (Zbs o om) (Zbs p om))).ch0 di).ch dj (ne1 om)).ch eD (nin3 om bh bi)
  refine Zy (off := 0) 3 jf sz91 rfl (us := [(.bool true), (.int .i64 ((bpT ta a b).f)), (.int .i64 ((bpT ta a b).l))]) rfl rfl rfl rfl fun eG cR d7 => ?_
  have kv := d7.size
  have E := E.step d7 (oneL om)
  replace cR : Blk eG aW 91 [(.bool true), (.int .i64 ((bpT ta a b).f)), (.int .i64 ((bpT ta a b).l))] := cR
  refine Zf (Zb (je _ _ ?_))
  refine Zs (Yi (Zm ?_))
  have jg := d6.ch d7 (ne1 om)
  have jh := cx.ch d7 (fun g hg hm => by have r := mSg.1 hm; exact dk (by first | exact hg | exact r ▸ hg))
  have fv : Ol ics 3 1 eG (.slice bb (((bpT ta a b).L)).length bc) ((bpT t a b).L) := by
   have hx := jh
   exact hx.eq (by rw [eb] <;> first | rfl | (rw [hte]; done))
  have ji := cy.ch d7 (fun g hg hm => by have r := mSg.1 hm; exact dl (by first | exact hg | exact r ▸ hg))
  have fw : Ol ics 3 1 eG (.slice be (lkL ((bpT ta a b).l) ((bpT ta a b).f) ((bpT ta a b).F)).length bf) ((bpT t a b).F) := by
   have hx := ji
   exact hx.eq (by rw [eb] <;> first | rfl | (rw [hte]; done))
  have fx : Blk eG b_p t_p [(.slice bb (((bpT ta a b).L)).length bc), .int .i64 bu, .int .i64 bv, (.slice be (lkL ((bpT ta a b).l) ((bpT ta a b).f) ((bpT ta a b).F)).length bf), .bool bw] := by
   have hx := jg
   exact hx
  exact Zi [_] (Zz cR rfl agg91 sz91 trivial) ⟨(.slice bb (((bpT ta a b).L)).length bc), (.slice be (lkL ((bpT ta a b).l) ((bpT ta a b).f) ((bpT ta a b).F)).length bf), (((congrArg (fun zq => (Value.agg #[.bool zq, .int .i64 ((bpT ta a b).f), .int .i64 ((bpT ta a b).l)])) (by rw [eb] <;> first | rfl | (rw [hte]; done))).trans (congrArg (fun zq => (Value.agg #[.bool ((bpT t a b).n), .int .i64 zq, .int .i64 ((bpT ta a b).l)])) (by rw [eb] <;> first | rfl | (rw [hte]; done)))).trans (congrArg (fun zq => (Value.agg #[.bool ((bpT t a b).n), .int .i64 ((bpT t a b).f), .int .i64 zq])) (by rw [eb] <;> first | rfl | (rw [hte]; done)))), fx, fv, eE, P, fw, eF, Q, bs, E⟩
 have gH := bQ
 have bQ := Yp bQ
 have eb := bp0 (t := t) (L := a) (F := b) ⟨by omega, by omega, by omega, by omega, by omega⟩
 refine Zu ?_
 refine Yc (Zb (H9 _ _ ?_))
 refine Zg fun mI jj => ?_
 refine Zc (Za rfl rfl (Yt (parts := []) (cells := [(.bool false), (.int .i64 0), (.int .i64 0)]) zr91 pl91 rfl rfl) (Zk rfl rfl ?_))
 have jk := (cT.ch0 C6).ch C7 (ne1 om)
 refine Zy (off := 0) 3 jk sz91 rfl (us := [(.bool false), (.int .i64 0), (.int .i64 0)]) rfl rfl rfl rfl fun eH cS d8 => ?_
 have kw := d8.size
 have E := E.step d8 (oneL om)
 replace cS : Blk eH aW 91 [(.bool false), (.int .i64 0), (.int .i64 0)] := cS
 refine Zf (Zb (jj _ _ ?_))
 refine Zs ?_
 have jl := (((m_p.ch0 C2).ch0 C6).ch C7 (ne1 om)).ch d8 (ne1 om)
 have jm := (((aU.ch0 C2).ch0 C6).ch C7 (dS k o om)).ch d8 (dS k o om)
 have fy : Ol ics 3 1 eH (.slice aa a.length ab) ((bpT t a b).L) := by
  have hx := jm
  exact hx.eq (by rw [eb] <;> first | rfl | (rw [hte]; done))
 have jn := (((aV.ch0 C2).ch0 C6).ch C7 (dS m p om)).ch d8 (dS m p om)
 have fz : Ol ics 3 1 eH (.slice aB b.length aC) ((bpT t a b).F) := by
  have hx := jn
  exact hx.eq (by rw [eb] <;> first | rfl | (rw [hte]; done))
 have fA : Blk eH b_p t_p [(.slice aa a.length ab), .int .i64 bu, .int .i64 bv, (.slice aB b.length aC), .bool bw] := by
  have hx := jl
  exact hx
 exact Zi [_] (Zz cS rfl agg91 sz91 trivial) ⟨(.slice aa a.length ab), (.slice aB b.length aC), (((congrArg (fun zq => (Value.agg #[.bool zq, .int .i64 0, .int .i64 0])) (by rw [eb] <;> first | rfl | (rw [hte]; done))).trans (congrArg (fun zq => (Value.agg #[.bool ((bpT t a b).n), .int .i64 zq, .int .i64 0])) (by rw [eb] <;> first | rfl | (rw [hte]; done)))).trans (congrArg (fun zq => (Value.agg #[.bool ((bpT t a b).n), .int .i64 ((bpT t a b).f), .int .i64 zq])) (by rw [eb] <;> first | rfl | (rw [hte]; done)))), fA, fy, (fun g hm => by exact (.inr (mCo _ (mAL _ hm)))), I, fz, (fun g hm => by exact (.inr (mCo _ (mAR _ hm)))), Z, q, E⟩
theorem Zii {w : World} {b_p t_p L_p : Nat} {a : Value} {d : List Int} {y : Int} {z : Int} {b : Value} {e : List Int} {A : Bool} (m_p : Blk w b_p t_p [a, (.int .i64 y), (.int .i64 z), b, (.bool A)]) (m : L_p ≤ b_p) (o : Ol ics 3 1 w a d) (h : b_p ∉ bl a) (i : Lo L_p a) (p : Ol ics 3 1 w b e) (j : b_p ∉ bl b) (k : Lo L_p b) (c : ∀ g ∈ bl a, g ∉ bl b) {LL_l q : Nat} {r : Value} {l : List Token} (x : Ls Token.cs 4 w LL_l q r l) (t : Tr) (hok : Okd t) (hl : l = t.flat) (hbl : q ≤ L_p) (hb : d.length + l.length ≤ 100000 ∧ e.length + l.length ≤ 100000) :
 Ctr Try.prog 67 #[(.pointer (some ⟨b_p, 0, none⟩)), r] w (fun v w' => ∃ (s u : Value), v = .agg #[.bool ((bpT t d e).n), .int .i64 ((bpT t d e).f), .int .i64 ((bpT t d e).l)] ∧ Blk w' b_p t_p [s, .int .i64 y, .int .i64 z, u, .bool A] ∧ Ol ics 3 1 w' s ((bpT t d e).L) ∧ (∀ g ∈ bl s, w.heap.size ≤ g ∨ g ∈ (b_p :: (bl a ++ bl b))) ∧ b_p ∉ bl s ∧ Ol ics 3 1 w' u ((bpT t d e).F) ∧ (∀ g ∈ bl u, w.heap.size ≤ g ∨ g ∈ (b_p :: (bl a ++ bl b))) ∧ b_p ∉ bl u ∧ (∀ g ∈ bl s, g ∉ bl u) ∧ Ch (b_p :: (bl a ++ bl b)) w w') := Zgd _ m_p m o h i p j k c x t hok hl hbl hb (Nat.lt_succ_self _)

end Go.Proofs.Ytgnlfnkgkcmdjaa
