/- Walks of functions that FnMinimal reaches: what each returns, and that it leaves the memory that was there alone. -/
import Derived.Test.YtgnlfnkgkcmdjaaLibA
import Derived.Test.YtgnlfnkgkcmdjaaLibB
import Derived.Test.YtgnlfnkgkcmdjaaWMinimal
import Derived.Test.YtgnlfnkgkcmdjaaWMinimalb
import Derived.Test.YtgnlfnkgkcmdjaaWMinimalc
import Derived.Test.YtgnlfnkgkcmdjaaProg
namespace Go.Proofs.Ytgnlfnkgkcmdjaa
open Go.KLib Go.Shelf
set_option maxHeartbeats 1000000
set_option maxRecDepth 20000
set_option linter.unusedVariables false
set_option linter.unusedSimpArgs false
namespace TMinimald
theorem agg24 : Ys Try.prog 24 = some false := by kernel_rfl
theorem agg25 : Ys Try.prog 25 = some false := by kernel_rfl
theorem agg27 : Ys Try.prog 27 = some true := by kernel_rfl
theorem agg3 : Ys Try.prog 3 = some false := by kernel_rfl
theorem agg30 : Ys Try.prog 30 = some false := by kernel_rfl
theorem agg42 : Ys Try.prog 42 = some false := by kernel_rfl
theorem agg44 : Ys Try.prog 44 = some true := by kernel_rfl
theorem agg48 : Ys Try.prog 48 = some true := by kernel_rfl
theorem agg5 : Ys Try.prog 5 = some false := by kernel_rfl
theorem agg84 : Ys Try.prog 84 = some true := by kernel_rfl
theorem agg9 : Ys Try.prog 9 = some false := by kernel_rfl
theorem by3 : Qe Try.prog 3 = some 8 := by kernel_rfl
theorem by30 : Qe Try.prog 30 = some 24 := by kernel_rfl
theorem by4 : Qe Try.prog 4 = some 1 := by kernel_rfl
theorem by84 : Qe Try.prog 84 = some 32 := by kernel_rfl
theorem by9 : Qe Try.prog 9 = some 16 := by kernel_rfl
theorem el160 : elB Try.prog 160 = some 9 := by kernel_rfl
theorem el22 : elB Try.prog 22 = some 5 := by kernel_rfl
theorem el24 : elB Try.prog 24 = some 4 := by kernel_rfl
theorem el25 : elB Try.prog 25 = some 30 := by kernel_rfl
theorem el30 : elB Try.prog 30 = some 3 := by kernel_rfl
theorem el42 : elB Try.prog 42 = some 84 := by kernel_rfl
theorem fa27_0 : faB Try.prog 27 0 = some 0 := by kernel_rfl
theorem fa27_1 : faB Try.prog 27 1 = some 1 := by kernel_rfl
theorem fa27_2 : faB Try.prog 27 2 = some 2 := by kernel_rfl
theorem fa44_0 : faB Try.prog 44 0 = some 0 := by kernel_rfl
theorem fa84_0 : faB Try.prog 84 0 = some 0 := by kernel_rfl
theorem fa84_1 : faB Try.prog 84 1 = some 1 := by kernel_rfl
theorem fa84_2 : faB Try.prog 84 2 = some 2 := by kernel_rfl
theorem fa84_3 : faB Try.prog 84 3 = some 3 := by kernel_rfl
theorem fk100 : fnB Try.prog 100 = true := by kernel_rfl
theorem fk111 : fnB Try.prog 111 = true := by kernel_rfl
theorem fk119 : fnB Try.prog 119 = true := by kernel_rfl
theorem fk120 : fnB Try.prog 120 = true := by kernel_rfl
theorem fk125 : fnB Try.prog 125 = true := by kernel_rfl
theorem fk126 : fnB Try.prog 126 = true := by kernel_rfl
theorem fk130 : fnB Try.prog 130 = true := by kernel_rfl
theorem fk134 : fnB Try.prog 134 = true := by kernel_rfl
theorem fk135 : fnB Try.prog 135 = true := by kernel_rfl
theorem fk136 : fnB Try.prog 136 = true := by kernel_rfl
theorem fk138 : fnB Try.prog 138 = true := by kernel_rfl
theorem fk139 : fnB Try.prog 139 = true := by kernel_rfl
theorem fk140 : fnB Try.prog 140 = true := by kernel_rfl
theorem fk142 : fnB Try.prog 142 = true := by kernel_rfl
theorem fk143 : fnB Try.prog 143 = true := by kernel_rfl
theorem fk144 : fnB Try.prog 144 = true := by kernel_rfl
theorem fk145 : fnB Try.prog 145 = true := by kernel_rfl
theorem fk146 : fnB Try.prog 146 = true := by kernel_rfl
theorem fk147 : fnB Try.prog 147 = true := by kernel_rfl
theorem fk27 : fnB Try.prog 27 = true := by kernel_rfl
theorem fk31 : fnB Try.prog 31 = true := by kernel_rfl
theorem fk40 : fnB Try.prog 40 = true := by kernel_rfl
theorem fk41 : fnB Try.prog 41 = true := by kernel_rfl
theorem fk42 : fnB Try.prog 42 = true := by kernel_rfl
theorem fk75 : fnB Try.prog 75 = true := by kernel_rfl
theorem fk84 : fnB Try.prog 84 = true := by kernel_rfl
theorem fk85 : fnB Try.prog 85 = true := by kernel_rfl
theorem fk96 : fnB Try.prog 96 = true := by kernel_rfl
theorem mixed : Try.prog.follows .mixedOrders = true := by kernel_rfl
theorem pl101 : Qh Try.prog 101 = some [(0, 1), (1, 1), (2, 1)] := by kernel_rfl
theorem pl27 : Qh Try.prog 27 = some [(0, 1), (1, 1), (2, 1)] := by kernel_rfl
theorem pl44 : Qh Try.prog 44 = some [(0, 1)] := by kernel_rfl
theorem pl84 : Qh Try.prog 84 = some [(0, 1), (1, 1), (2, 1), (3, 1)] := by kernel_rfl
theorem sz24 : Yb Try.prog 24 = some 1 := by kernel_rfl
theorem sz25 : Yb Try.prog 25 = some 1 := by kernel_rfl
theorem sz27 : Yb Try.prog 27 = some 3 := by kernel_rfl
theorem sz3 : Yb Try.prog 3 = some 1 := by kernel_rfl
theorem sz30 : Yb Try.prog 30 = some 1 := by kernel_rfl
theorem sz4 : Yb Try.prog 4 = some 1 := by kernel_rfl
theorem sz42 : Yb Try.prog 42 = some 1 := by kernel_rfl
theorem sz44 : Yb Try.prog 44 = some 1 := by kernel_rfl
theorem sz48 : Yb Try.prog 48 = some 5 := by kernel_rfl
theorem sz5 : Yb Try.prog 5 = some 1 := by kernel_rfl
theorem sz84 : Yb Try.prog 84 = some 4 := by kernel_rfl
theorem sz9 : Yb Try.prog 9 = some 1 := by kernel_rfl
theorem un3 : Try.prog.underlying 3 = some (.int .i64) := by kernel_rfl
theorem un5 : Try.prog.underlying 5 = some (.int .u8) := by kernel_rfl
theorem un9 : Try.prog.underlying 9 = some (.string) := by kernel_rfl
theorem zr101 : Xb Try.prog 101 = some (.agg #[.slice none 0 0, .int .i64 0, .int .i64 0]) := by kernel_rfl
theorem zr27 : Xb Try.prog 27 = some (.agg #[.int .i64 0, .slice none 0 0, .slice none 0 0]) := by kernel_rfl
theorem zr3 : Xb Try.prog 3 = some (.int .i64 0) := by kernel_rfl
theorem zr30 : Xb Try.prog 30 = some (.slice none 0 0) := by kernel_rfl
theorem zr4 : Xb Try.prog 4 = some (.bool false) := by kernel_rfl
theorem zr44 : Xb Try.prog 44 = some (.agg #[.slice none 0 0]) := by kernel_rfl
theorem zr48 : Xb Try.prog 48 = some (.agg #[.slice none 0 0, .int .i64 0, .int .i64 0, .slice none 0 0, .bool false]) := by kernel_rfl
theorem zr5 : Xb Try.prog 5 = some (.int .u8 0) := by kernel_rfl
theorem zr84 : Xb Try.prog 84 = some (.agg #[.int .i64 0, .int .i64 0, .int .i64 0, .int .i64 0]) := by kernel_rfl
theorem zr9 : Xb Try.prog 9 = some (.string ⟨#[]⟩) := by kernel_rfl
end TMinimald
open TMinimald

/-- spec.l11Subsets -/
theorem Zfk {w : World} {LL_pL dR : Nat} {c1 : Value} {pL : List Int} (Z : Ls ics 1 w LL_pL dR c1 pL) (pfirst : Int) (plast : Int) {LL_pF dU : Nat} {c2 : Value} {pF : List Int} (aa : Ls ics 1 w LL_pF dU c2 pF) (pnull : Bool) (most : Int) (hF : pF.length = pL.length) (hn : pL.length ≤ 20) (hm : 1 ≤ most ∧ most ≤ 12) :
 Ctr Try.prog 120 #[(.agg #[c1, (.int .i64 pfirst), (.int .i64 plast), c2, (.bool pnull)]), (.int .i64 most)] w (fun v w' => ∃ (dW : Int) (c3 : List Bool) (bf : List (List Int)) (ge : Bool) (bg : Value) (bh : Value) (aV : List Sv), v = .tuple #[.agg #[.int .i64 dW, bg, bh], .bool ge] ∧ Ol bcs 4 1 w' bg (c3) ∧ Lo w.heap.size bg ∧ Ol Sv.cs 30 1 w' bh aV ∧ Lo w.heap.size bh ∧ Od ics 3 1 w' w.heap.size w'.heap.size aV (bf) ∧ Sep bh aV ∧ (∀ g ∈ bl bg, g ∉ bl bh) ∧ Sep bg aV ∧ (ge = true → 1 ≤ bf.length ∧ bf.length ≤ 12 ∧ c3.length = bf.length ∧ ∀ r ∈ bf, r.length = 9) ∧ Ch [] w w') := by
 obtain ⟨bK, bL, di⟩ := Z.val
 subst di
 have gf := Z.len
 have Z := Z.here (by decide)
 obtain ⟨bM, bN, dj⟩ := aa.val
 subst dj
 have gg := aa.len
 have aa := aa.here (by decide)
 have E := Ch.refl [] w
 refine Yc (N := 73) (vs0 := [(.agg #[(.slice bK pL.length bL), (.int .i64 pfirst), (.int .i64 plast), (.slice bM pF.length bN), (.bool pnull)]), (.int .i64 most)]) Try.func120 rfl rfl rfl ?_
 refine Zg fun K1 H1 => ?_
 refine Zc (Zk rfl rfl ?_)
 refine Xz rfl fun dX W2 ey C2 iH => ?_
 have iI := C2.size
 have E := E.trans C2
 have iJ := ey.lt
 replace ey : Blk W2 dX 48 [(.slice bK pL.length bL), (.int .i64 pfirst), (.int .i64 plast), (.slice bM pF.length bN), (.bool pnull)] := ey
 refine Zk rfl rfl ?_
 refine Yp zr27 fun dk W3 ez C3 iK => ?_
 have iL := C3.size
 have E := E.trans C3
 have iM := ez.lt
 replace ez : Blk W3 dk 27 [(.int .i64 0), (.slice none 0 0), (.slice none 0 0)] := ez
 refine Za rfl rfl (Zd rfl) (Zf (Zb (H1 _ _ ?_)))
 refine Zg fun K4 H4 => ?_
 refine Zc (Za rfl rfl (Yr (parts := []) (cells := [(.int .i64 0), (.slice none 0 0), (.slice none 0 0)]) zr27 pl27 rfl rfl) (Zk rfl rfl ?_))
 refine Yp zr27 fun U W5 eA C5 iN => ?_
 have iO := C5.size
 have E := E.trans C5
 have iP := eA.lt
 replace eA : Blk W5 U 27 [(.int .i64 0), (.slice none 0 0), (.slice none 0 0)] := eA
 refine Zk rfl rfl ?_
 refine Zt (off := 0) 3 eA sz27 rfl (us := [(.int .i64 0), (.slice none 0 0), (.slice none 0 0)]) rfl rfl rfl rfl fun W6 dl C6 => ?_
 have iQ := C6.size
 have E := E.step C6 (lS (by omega))
 replace dl : Blk W6 U 27 [(.int .i64 0), (.slice none 0 0), (.slice none 0 0)] := dl
 refine Zf (Zb (H4 _ _ ?_))
 refine Zg fun K8 H8 => ?_
 refine Zc (Zk rfl rfl ?_)
 refine Zo (cs := ics) (parts := [(0, .const (Go.Value.int Go.IntKind.i64 1))]) (0 : Int) [1] el30 sz3 zr3 Yh (by decide) rfl rfl rfl (by decide) (by decide) rfl fun hd W9 dY dZ C9 => ?_
 have iR := C9.size
 have E := E.trans C9
 obtain ⟨c4, c5, rfl, gh, eC⟩ := dY.opn
 refine Za rfl rfl (Zd rfl) (Zf (Zb (H8 _ _ ?_)))
 refine Zg fun iS gi => ?_
 refine Zg fun iT he => ?_
 refine Zc (Za rfl rfl (Zd rfl) (Zf (Zb (he _ _ ?_))))
 refine Zx ?_
 have dm : Ol ics 3 1 W9 (.slice c4 ([1]).length c5) ([(1 : Int)]) := by
  have hx := dY
  exact hx
 have dn : Ol bcs 4 1 W9 (.slice none 0 0) (([] : List Bool)) := by
  have hx := (Ol.nil (cs := bcs) (e := 4) (k := 1) W9)
  exact hx
 have dp : Ol Sv.cs 30 1 W9 (.slice none 0 0) (([] : List Sv)) := by
  have hx := (Ol.nil (cs := Sv.cs) (e := 30) (k := 1) W9)
  exact hx
 have hf := (dl.ch0 C9)
 have hh := ((((ey.ch0 C3).ch0 C5).ch C6 (nS (by omega))).ch0 C9)
 have hj := (((ez.ch0 C5).ch C6 (nS (by omega))).ch0 C9)
 refine Xf (σ := Nat × List Bool × List Sv × List (List Int) × List Int × Value × Value × Value) (fun ⟨s, ab, vs, rs, sets, sv, av, nv⟩ => [(1, (.int .i64 most)), (2, (.pointer (some ⟨dX, 0, none⟩))), (4, (.pointer (some ⟨dk, 0, none⟩))), (6, (.pointer (some ⟨U, 0, none⟩))), (7, sv), (8, (.int .i64 ((s : Nat) : Int)))]) (fun ⟨s, ab, vs, rs, sets, sv, av, nv⟩ wx => Ch [] w wx ∧ W9.heap.size ≤ wx.heap.size ∧ (s ≤ sets.length ∧ 1 ≤ sets.length ∧ (sets.length : Int) ≤ most) ∧ (ab.length = s ∧ rs.length = s ∧ vs.length = s) ∧ (∀ r ∈ rs, r.length = 9) ∧ Blk wx dX 48 [(.slice bK pL.length bL), (.int .i64 pfirst), (.int .i64 plast), (.slice bM pF.length bN), (.bool pnull)] ∧ Blk wx dk 27 [(.int .i64 0), (.slice none 0 0), (.slice none 0 0)] ∧ Ol ics 3 1 wx sv sets ∧ Lo W6.heap.size sv ∧ Ol bcs 4 1 wx av ab ∧ Lo W9.heap.size av ∧ Ol Sv.cs 30 1 wx nv vs ∧ Lo W9.heap.size nv ∧ Od ics 3 1 wx W9.heap.size wx.heap.size vs rs ∧ Blk wx U 27 [(.int .i64 0), av, nv] ∧ (∀ g ∈ bl av, g ∉ bl sv) ∧ (U ∉ bl av) ∧ (∀ g ∈ bl nv, g ∉ bl sv) ∧ (∀ g ∈ bl nv, g ∉ bl av) ∧ (U ∉ bl nv) ∧ (Sep sv vs) ∧ (Sep av vs) ∧ (Sep nv vs)) (fun ⟨s, ab, vs, rs, sets, sv, av, nv⟩ => most.toNat - s) (0, ([] : List Bool), ([] : List Sv), ([] : List (List Int)), [(1 : Int)], (.slice c4 ([1]).length c5), (.slice none 0 0), (.slice none 0 0)) (sC4 rfl rfl rfl rfl (sC2 rfl rfl (Sub.nil _))) ⟨E, (Nat.le_refl _), (by simp; omega), ⟨rfl, rfl, rfl⟩, (fun r h => by cases h), hh, hj, dm, dZ, dn, (Lo.nil _), dp, (Lo.nil _), Od.nil, hf, (fun g hm hg => by cases hm), (fun hm => by cases hm), (fun g hm hg => by cases hm), (fun g hm hg => by cases hm), (fun hm => by cases hm), (fun u hu => by cases hu), (fun u hu => by cases hu), (fun u hu => by cases hu)⟩ ?_
 rintro ⟨s, ab, vs, rs, sets, sv, av, nv⟩ gj ⟨E, hk, hs, hl, hr, c6, b3, c7, b4, bn, c, bp, b, od, c8, bq, p, br, o, q, cw, K, L⟩
 have eD := E
 have gk := eD.size
 have eE := c6.lt
 have eF := b3.lt
 obtain ⟨Asv, Csv, rfl, lsv, hisv⟩ := c7.opn
 obtain ⟨Aav, Cav, rfl, lav, hiav⟩ := bn.opn
 obtain ⟨Anv, Cnv, rfl, lnv, hinv⟩ := bp.opn
 refine Zg fun iU ho => ?_
 refine Zg fun iV hp => ?_
 refine Zc (Za rfl rfl (Ze rfl) (Za rfl rfl (Ze rfl) (Za rfl rfl (Xa (by rw [el30]; rfl) rfl) (Za rfl rfl (Xi rfl rfl) (Zf (Zb (hp _ _ ?_)))))))
 refine Zp rfl (fun bs => ?_) (fun bs => ?_)
 ·have eG := bs
  have bs := Yf bs
  refine Zq ?_
  refine Zb (ho _ _ ?_)
  refine Zg fun iW dQ => ?_
  refine Zx ?_
  refine Zg fun iX hq => ?_
  refine Zc (Zk rfl rfl ?_)
  refine Xd (k := 1) ics el30 sz3 fun ht eH d0 b5 cx => ?_
  have hv := cx.size
  have E := E.trans cx
  obtain ⟨c9, da, rfl, gl, b6⟩ := d0.opn
  refine Za rfl rfl (Zd rfl) (Zf (Zb (hq _ _ ?_)))
  refine Zg fun iY hw => ?_
  refine Zg fun iZ hy => ?_
  refine Zc (Za rfl rfl (Zd rfl) (Zf (Zb (hy _ _ ?_))))
  refine Zx ?_
  have hz := (c7.ch0 cx)
  have dq : Ol ics 3 1 eH (.slice Asv (sets).length Csv) (sets) := by
   have hx := hz
   exact hx
  have dr : Ol ics 3 1 eH (.slice c9 (([] : List Int)).length da) (([] : List Int)) := by
   have hx := d0
   exact hx
  have gm := (od.ch0 cx)
  have hA := (c6.ch0 cx)
  have hB := (b3.ch0 cx)
  have hC := (c8.ch0 cx)
  have hD := (bn.ch0 cx)
  have hE := (bp.ch0 cx)
  refine Xf (σ := Nat × List Int × List Int × Value × Value) (fun ⟨k, row, us, uv, rv⟩ => [(1, (.int .i64 most)), (2, (.pointer (some ⟨dX, 0, none⟩))), (4, (.pointer (some ⟨dk, 0, none⟩))), (6, (.pointer (some ⟨U, 0, none⟩))), (7, uv), (8, (.int .i64 ((s : Nat) : Int))), (9, rv), (10, (.int .i64 ((k : Nat) : Int))), (18, (.bool (decide (((s : Nat) : Int) < ((sets.length : Nat) : Int)))))]) (fun ⟨k, row, us, uv, rv⟩ wx => Ch [] w wx ∧ eH.heap.size ≤ wx.heap.size ∧ (k ≤ 9 ∧ row.length = k) ∧ (sets.length ≤ us.length ∧ us.length ≤ sets.length + k) ∧ Blk wx dX 48 [(.slice bK pL.length bL), (.int .i64 pfirst), (.int .i64 plast), (.slice bM pF.length bN), (.bool pnull)] ∧ Blk wx dk 27 [(.int .i64 0), (.slice none 0 0), (.slice none 0 0)] ∧ Blk wx U 27 [(.int .i64 0), (.slice Aav (ab).length Cav), (.slice Anv (vs).length Cnv)] ∧ Ol bcs 4 1 wx (.slice Aav (ab).length Cav) ab ∧ Ol Sv.cs 30 1 wx (.slice Anv (vs).length Cnv) vs ∧ Ol ics 3 1 wx uv us ∧ Lo W6.heap.size uv ∧ Ol ics 3 1 wx rv row ∧ Lo gj.heap.size rv ∧ Od ics 3 1 wx W9.heap.size gj.heap.size vs rs ∧ (∀ g ∈ bl uv, g ∉ bl (.slice Aav (ab).length Cav)) ∧ (∀ g ∈ bl uv, g ∉ bl (.slice Anv (vs).length Cnv)) ∧ (∀ g ∈ bl rv, g ∉ bl uv) ∧ (Sep uv vs) ∧ (Sep rv vs)) (fun ⟨k, row, us, uv, rv⟩ => 9 - k) (0, ([] : List Int), sets, (.slice Asv (sets).length Csv), (.slice c9 (([] : List Int)).length da)) (sC8 rfl rfl rfl rfl rfl rfl rfl rfl (sC1 rfl (Sub.nil _))) ⟨E, (Nat.le_refl _), ⟨by omega, rfl⟩, (by omega), hA, hB, hC, hD, hE, dq, b4, dr, b5, gm, (fun g hm hg => by exact bq _ hg hm), (fun g hm hg => by exact br _ hg hm), (fun g hm hg => by have z := b5 _ hm; have H := b6 _ hm; have P := b4 _ hg; have Q := hisv _ hg; omega), cw, (Od.sepO gm (fun g hm => by have z := b5 _ hm; have H := b6 _ hm; omega))⟩ ?_
  rintro ⟨k, row, us, uv, rv⟩ i0 ⟨E, hG, i1, hu, b7, Y, ac, al, am, bO, m, ad, a, od, f, j, y, R, X⟩
  have aw := E
  have gn := aw.size
  have eI := b7.lt
  have eJ := Y.lt
  have eK := ac.lt
  obtain ⟨Auv, Cuv, rfl, luv, C⟩ := bO.opn
  obtain ⟨Arv, Crv, rfl, lrv, hirv⟩ := ad.opn
  refine Zg fun i2 gp => ?_
  refine Zg fun i3 hH => ?_
  refine Zc (Za rfl rfl (Ze rfl) (Za rfl rfl (Xi rfl rfl) (Zf (Zb (hH _ _ ?_)))))
  refine Zp rfl (fun bu => ?_) (fun bu => ?_)
  ·have eL := bu
   have bu := Yf bu
   refine Zq ?_
   refine Zb (gp _ _ ?_)
   refine Zg fun i4 eM => ?_
   refine Zx ?_
   refine Zg fun i5 hI => ?_
   refine Xg [] 8 mixed rfl fun hJ au => ?_
   have hK := au.size
   have E := E.trans au
   have eB := (b7.ch0 au)
   refine dT 0 rfl rfl rfl (Yx eB.at_ (fun i hi => absurd hi List.not_mem_nil) agg48 sz48 rfl ?_)
   refine dV 1 rfl rfl rfl (fun _ => Ze rfl) (dV 2 rfl rfl rfl (fun _ => Ze rfl) (dV 5 rfl rfl rfl (fun _ => Ze rfl) (dO 3 (Yl rfl rfl rfl ?_))))
   have eN := (bO.ch0 au)
   refine (Yo eN.ls Yh el30 sz3 rfl rfl rfl (by omega) fun hL b8 gq eO => ?_)
   refine ⟨(Ch.refl _ _), ?_⟩
   refine dT 4 rfl rfl rfl (Ql eO (fun i hi => absurd hi List.not_mem_nil) agg3 rfl rfl ?_)
   refine dO 6 (Yl rfl rfl rfl ?_)
   have hM := ((Z.ch0 aw).ch0 au)
   have hN := ((aa.ch0 aw).ch0 au)
   refine Step.call (Zn (xs := [.tmp 26, .tmp 30, .tmp 31]) fk134 rfl) (Zhs hM _ _ hN _ _ _ hF hn) fun hO hP eP => ?_
   obtain ⟨rfl, an⟩ := eP
   have hQ := an.size
   have E := E.trans an
   have d1 : Ch [] hJ hP := ((Ch.refl _ _).trans an)
   refine ⟨d1, ?_⟩
   refine dV 7 rfl rfl rfl (fun _ => Zd rfl) ?_
   refine Yq (by kernel_rfl) ?_
   refine Zb (hI _ _ ?_)
   refine Zg fun i6 hR => ?_
   refine Zc (Za rfl rfl (Zd rfl) (Zf (Zb (hR _ _ ?_))))
   refine Zg fun i7 eQ => ?_
   refine Zg fun i8 hS => ?_
   refine Zc (Za rfl rfl (Ze rfl) (Za rfl rfl (Qv rfl rfl) (Zf (Zb (hS _ _ ?_)))))
   refine Zp rfl (fun bv => ?_) (fun bv => ?_)
   ·have eR := bv
    have bv := Ye (Qb bv)
    refine Zg fun i9 hT => ?_
    refine Zc (Za rfl rfl (Ze rfl) (Za rfl rfl (Ze rfl) (Zk rfl rfl ?_)))
    have eS := (eN.ch0 an)
    refine Step.call (Zn (xs := [.tmp 35, .tmp 36]) fk135 rfl) (Zhw eS.ls _ ) fun hU ja eT => ?_
    obtain ⟨bi, rfl, eU, be⟩ := eT
    have hV := be.size
    have E := E.trans be
    refine Za rfl rfl (Zd rfl) (Zf (Zb (hT _ _ ?_)))
    refine Zg fun jb hW => ?_
    refine Zc (Za rfl rfl (Ze rfl) (Za rfl rfl (Xi rfl rfl) (Zf (Zb (hW _ _ ?_)))))
    refine Zp rfl (fun bw => ?_) (fun bw => ?_)
    ·have eV := bw
     have bw := Yf bw
     refine Zg fun jc hX => ?_
     refine Zc (Za rfl rfl (Ze rfl) (Za rfl rfl (Xa (by rw [el30]; rfl) rfl) (Za rfl rfl (Zd rfl) (Zf (Zb (hX _ _ (Zc (Za rfl rfl (Ze rfl) ?_))))))))
     refine Za rfl rfl (Ze rfl) (Zk rfl rfl ?_)
     refine Zo (cs := ics) (parts := [(0, .tmp 43)]) (0 : Int) [Zfv pL pfirst pF b8 ((k : Nat) : Int)] el30 sz3 zr3 Yh (by decide) rfl rfl rfl (by decide) (by decide) rfl fun hY jd d2 gr cr => ?_
     have hZ := cr.size
     have E := E.trans cr
     obtain ⟨gs, gt, rfl, gu, eW⟩ := d2.opn
     refine Zk rfl rfl ?_
     have h0 := ((eS.ch0 be).ch0 cr)
     refine Yd (cs := ics) el30 sz3 by3 zr3 rfl (by decide) Xn h0 d2.ls rfl rfl (by first | omega | (simp only [List.length_append, List.length_nil, List.length_cons, List.length_replicate, List.length_set, List.length_reverse, List.length_map] at *; omega) | (simp at *; omega)) (by first | omega | (simp only [List.length_append, List.length_nil, List.length_cons, List.length_replicate, List.length_set, List.length_reverse, List.length_map] at *; omega) | (simp at *; omega)) m (by omega) fun h1 je d3 d4 aU cy => ?_
     have h2 := cy.size
     have E := E.step cy (fun i hi => .inl (by have z := m _ hi; omega))
     obtain ⟨db, dc, rfl, gv, ak⟩ := d3.opn
     refine Za rfl rfl (Zd rfl) (Zf (Zb (eQ _ _ (Zc (Za rfl rfl (Ze rfl) (Za rfl rfl (Ze rfl) (Zk rfl rfl ?_)))))))
     refine Zo (cs := ics) (parts := [(0, .tmp 47)]) (0 : Int) [((us.length : Nat) : Int)] el30 sz3 zr3 Yh (by decide) rfl rfl rfl (by decide) (by decide) rfl fun d5 jf bj dd ct => ?_
     have h3 := ct.size
     have E := E.trans ct
     obtain ⟨de, df, rfl, dg, b9⟩ := bj.opn
     refine Zk rfl rfl ?_
     have h4 := ((((((ad.ch0 au).ch0 an).ch0 be).ch0 cr).ch cy (fun g hg hm => by exact y _ hg hm)).ch0 ct)
     refine Yd (cs := ics) el30 sz3 by3 zr3 rfl (by decide) Xn h4 bj.ls rfl rfl (by first | omega | (simp only [List.length_append, List.length_nil, List.length_cons, List.length_replicate, List.length_set, List.length_reverse, List.length_map] at *; omega) | (simp at *; omega)) (by first | omega | (simp only [List.length_append, List.length_nil, List.length_cons, List.length_replicate, List.length_set, List.length_reverse, List.length_map] at *; omega) | (simp at *; omega)) a (by omega) fun d6 gw bk bm ao cz => ?_
     have h5 := cz.size
     have E := E.step cz (fun i hi => .inl (by have z := a _ hi; omega))
     obtain ⟨ap, aq, rfl, dh, V⟩ := bk.opn
     refine Za rfl rfl (Zd rfl) (Zf (Zv (Zb (eM _ _ (Zc (Za rfl rfl (Ze rfl) (Za rfl rfl (Yk (by omega) rfl rfl) (Za rfl rfl (Zd rfl) ?_))))))))
     refine Zf ?_
     have h6 := ((d3.ch0 ct).ch cz (fun g hg hm => by rcases aU with ea | ea; (rw [ea] at hg; exact y _ hm hg); (have J := ak _ hg; rw [ea] at hg; have B := List.mem_singleton.1 hg; have z := a _ hm; have H := hirv _ hm; omega)))
     have ds : Ol ics 3 1 gw (.slice db ((us ++ [Zfv pL pfirst pF b8 ((k : Nat) : Int)])).length dc) ((us ++ [Zfv pL pfirst pF b8 ((k : Nat) : Int)])) := by
      have hx := h6
      exact hx
     have dt : Ol ics 3 1 gw (.slice ap ((row ++ [((us.length : Nat) : Int)])).length aq) ((row ++ [((us.length : Nat) : Int)])) := by
      have hx := bk
      exact hx
     have eX := (((((((od.ch0 au).ch0 an).ch0 be).ch0 cr).chS cy R).ch0 ct).chS cz X)
     have h7 := ((((((eB.ch0 an).ch0 be).ch0 cr).ch cy (fun hm => by have z := m _ hm; have H := C _ hm; omega)).ch0 ct).ch cz (fun hm => by have z := a _ hm; have H := hirv _ hm; omega))
     have h8 := (((((((Y.ch0 au).ch0 an).ch0 be).ch0 cr).ch cy (fun hm => by have z := m _ hm; have H := C _ hm; omega)).ch0 ct).ch cz (fun hm => by have z := a _ hm; have H := hirv _ hm; omega))
     have h9 := (((((((ac.ch0 au).ch0 an).ch0 be).ch0 cr).ch cy (fun hm => by have z := m _ hm; have H := C _ hm; omega)).ch0 ct).ch cz (fun hm => by have z := a _ hm; have H := hirv _ hm; omega))
     have ia := (((((((al.ch0 au).ch0 an).ch0 be).ch0 cr).ch cy (fun g hg hm => by exact f _ hm hg)).ch0 ct).ch cz (fun g hg hm => by have z := a _ hm; have H := hirv _ hm; have P := c _ hg; have Q := hiav _ hg; omega))
     have ib := (((((((am.ch0 au).ch0 an).ch0 be).ch0 cr).ch cy (fun g hg hm => by exact j _ hm hg)).ch0 ct).ch cz (fun g hg hm => by have z := a _ hm; have H := hirv _ hm; have P := b _ hg; have Q := hinv _ hg; omega))
     exact Zb (Exists.intro ((k + 1), (row ++ [((us.length : Nat) : Int)]), (us ++ [Zfv pL pfirst pF b8 ((k : Nat) : Int)]), (.slice db ((us ++ [Zfv pL pfirst pF b8 ((k : Nat) : Int)])).length dc), (.slice ap ((row ++ [((us.length : Nat) : Int)])).length aq)) ⟨⟨E, (by omega), ⟨by omega, by simp only [List.length_append, List.length_singleton]; omega⟩, (by first | omega | (simp only [List.length_append, List.length_singleton]; omega)), h7, h8, h9, ia, ib, ds, (Lo.down d4 (by omega)), dt, (Lo.down bm (by omega)), eX, (fun g hm hg => by rcases aU with ea | ea; (rw [ea] at hm; exact f _ hm hg); (have t := ak _ hm; rw [ea] at hm; have B := List.mem_singleton.1 hm; have P := c _ hg; have Q := hiav _ hg; omega)), (fun g hm hg => by rcases aU with ea | ea; (rw [ea] at hm; exact j _ hm hg); (have t := ak _ hm; rw [ea] at hm; have B := List.mem_singleton.1 hm; have P := b _ hg; have Q := hinv _ hg; omega)), (fun g hm hg => by rcases ao with ea | ea; (rw [ea] at hm; rcases aU with ea | ea; (rw [ea] at hg; exact y _ hm hg); (have J := ak _ hg; rw [ea] at hg; have B := List.mem_singleton.1 hg; have z := a _ hm; have H := hirv _ hm; omega)); (have t := V _ hm; rw [ea] at hm; have B := List.mem_singleton.1 hm; rcases aU with ea | ea; (rw [ea] at hg; have P := m _ hg; have Q := C _ hg; omega); (have J := ak _ hg; rw [ea] at hg; have B := List.mem_singleton.1 hg; omega))), (fun u hu g hg hm => by rcases aU with ea | ea; (rw [ea] at hm; exact R _ hu _ hg hm); (have t := ak _ hm; rw [ea] at hm; have B := List.mem_singleton.1 hm; have b0 := eX.rng hu hg; omega)), (fun u hu g hg hm => by rcases ao with ea | ea; (rw [ea] at hm; exact X _ hu _ hg hm); (have t := V _ hm; rw [ea] at hm; have B := List.mem_singleton.1 hm; have b0 := eX.rng hu hg; omega))⟩, sC8 rfl rfl rfl rfl rfl rfl rfl rfl (sC1 rfl (Sub.nil _)), (by first | omega | (dsimp only; omega))⟩)
    have eV := bw
    have bw := Ye bw
    refine Zq ?_
    refine Zb (eQ _ _ (Zc (Za rfl rfl (Ze rfl) (Za rfl rfl (Ze rfl) (Zk rfl rfl ?_)))))
    refine Zo (cs := ics) (parts := [(0, .tmp 47)]) (0 : Int) [bi] el30 sz3 zr3 Yh (by decide) rfl rfl rfl (by decide) (by decide) rfl fun d5 jg bj dd cu => ?_
    have ic := cu.size
    have E := E.trans cu
    obtain ⟨de, df, rfl, dg, b9⟩ := bj.opn
    refine Zk rfl rfl ?_
    have ie := ((((ad.ch0 au).ch0 an).ch0 be).ch0 cu)
    refine Yd (cs := ics) el30 sz3 by3 zr3 rfl (by decide) Xn ie bj.ls rfl rfl (by first | omega | (simp only [List.length_append, List.length_nil, List.length_cons, List.length_replicate, List.length_set, List.length_reverse, List.length_map] at *; omega) | (simp at *; omega)) (by first | omega | (simp only [List.length_append, List.length_nil, List.length_cons, List.length_replicate, List.length_set, List.length_reverse, List.length_map] at *; omega) | (simp at *; omega)) a (by omega) fun d6 gx bk bm ao cA => ?_
    have ig := cA.size
    have E := E.step cA (fun i hi => .inl (by have z := a _ hi; omega))
    obtain ⟨ap, aq, rfl, dh, V⟩ := bk.opn
    refine Za rfl rfl (Zd rfl) (Zf (Zv (Zb (eM _ _ (Zc (Za rfl rfl (Ze rfl) (Za rfl rfl (Yk (by omega) rfl rfl) (Za rfl rfl (Zd rfl) ?_))))))))
    refine Zf ?_
    have ih := (((eS.ch0 be).ch0 cu).ch cA (fun g hg hm => by exact y _ hm hg))
    have du : Ol ics 3 1 gx (.slice Auv (us).length Cuv) (us) := by
     have hx := ih
     exact hx
    have dv : Ol ics 3 1 gx (.slice ap ((row ++ [bi])).length aq) ((row ++ [bi])) := by
     have hx := bk
     exact hx
    have gy := (((((od.ch0 au).ch0 an).ch0 be).ch0 cu).chS cA X)
    have ii := ((((eB.ch0 an).ch0 be).ch0 cu).ch cA (fun hm => by have z := a _ hm; have H := hirv _ hm; omega))
    have ij := (((((Y.ch0 au).ch0 an).ch0 be).ch0 cu).ch cA (fun hm => by have z := a _ hm; have H := hirv _ hm; omega))
    have ik := (((((ac.ch0 au).ch0 an).ch0 be).ch0 cu).ch cA (fun hm => by have z := a _ hm; have H := hirv _ hm; omega))
    have il := (((((al.ch0 au).ch0 an).ch0 be).ch0 cu).ch cA (fun g hg hm => by have z := a _ hm; have H := hirv _ hm; have P := c _ hg; have Q := hiav _ hg; omega))
    have im := (((((am.ch0 au).ch0 an).ch0 be).ch0 cu).ch cA (fun g hg hm => by have z := a _ hm; have H := hirv _ hm; have P := b _ hg; have Q := hinv _ hg; omega))
    exact Zb (Exists.intro ((k + 1), (row ++ [bi]), us, (.slice Auv (us).length Cuv), (.slice ap ((row ++ [bi])).length aq)) ⟨⟨E, (by omega), ⟨by omega, by simp only [List.length_append, List.length_singleton]; omega⟩, (by first | omega | (simp only [List.length_append, List.length_singleton]; omega)), ii, ij, ik, il, im, du, (Lo.down m (by omega)), dv, (Lo.down bm (by omega)), gy, (fun g hm hg => by exact f _ hm hg), (fun g hm hg => by exact j _ hm hg), (fun g hm hg => by rcases ao with ea | ea; (rw [ea] at hm; exact y _ hm hg); (have t := V _ hm; rw [ea] at hm; have B := List.mem_singleton.1 hm; have P := m _ hg; have Q := C _ hg; omega)), (fun u hu g hg hm => by exact R _ hu _ hg hm), (fun u hu g hg hm => by rcases ao with ea | ea; (rw [ea] at hm; exact X _ hu _ hg hm); (have t := V _ hm; rw [ea] at hm; have B := List.mem_singleton.1 hm; have b0 := gy.rng hu hg; omega))⟩, sC8 rfl rfl rfl rfl rfl rfl rfl rfl (sC1 rfl (Sub.nil _)), (by first | omega | (dsimp only; omega))⟩)
   have eR := bv
   have bv := Yf (Qc bv)
   refine Zq ?_
   refine Zb (eQ _ _ (Zc (Za rfl rfl (Ze rfl) (Za rfl rfl (Ze rfl) (Zk rfl rfl ?_)))))
   refine Zo (cs := ics) (parts := [(0, .tmp 47)]) (0 : Int) [(-1)] el30 sz3 zr3 Yh (by decide) rfl rfl rfl (by decide) (by decide) rfl fun d5 jh bj dd cv => ?_
   have io := cv.size
   have E := E.trans cv
   obtain ⟨de, df, rfl, dg, b9⟩ := bj.opn
   refine Zk rfl rfl ?_
   have ip := (((ad.ch0 au).ch0 an).ch0 cv)
   refine Yd (cs := ics) el30 sz3 by3 zr3 rfl (by decide) Xn ip bj.ls rfl rfl (by first | omega | (simp only [List.length_append, List.length_nil, List.length_cons, List.length_replicate, List.length_set, List.length_reverse, List.length_map] at *; omega) | (simp at *; omega)) (by first | omega | (simp only [List.length_append, List.length_nil, List.length_cons, List.length_replicate, List.length_set, List.length_reverse, List.length_map] at *; omega) | (simp at *; omega)) a (by omega) fun d6 gz bk bm ao cB => ?_
   have iq := cB.size
   have E := E.step cB (fun i hi => .inl (by have z := a _ hi; omega))
   obtain ⟨ap, aq, rfl, dh, V⟩ := bk.opn
   refine Za rfl rfl (Zd rfl) (Zf (Zv (Zb (eM _ _ (Zc (Za rfl rfl (Ze rfl) (Za rfl rfl (Yk (by omega) rfl rfl) (Za rfl rfl (Zd rfl) ?_))))))))
   refine Zf ?_
   have ir := (((eN.ch0 an).ch0 cv).ch cB (fun g hg hm => by exact y _ hm hg))
   have dw : Ol ics 3 1 gz (.slice Auv (us).length Cuv) (us) := by
    have hx := ir
    exact hx
   have dx : Ol ics 3 1 gz (.slice ap ((row ++ [(-1)])).length aq) ((row ++ [(-1)])) := by
    have hx := bk
    exact hx
   have gA := ((((od.ch0 au).ch0 an).ch0 cv).chS cB X)
   have it := (((eB.ch0 an).ch0 cv).ch cB (fun hm => by have z := a _ hm; have H := hirv _ hm; omega))
   have iu := ((((Y.ch0 au).ch0 an).ch0 cv).ch cB (fun hm => by have z := a _ hm; have H := hirv _ hm; omega))
   have iv := ((((ac.ch0 au).ch0 an).ch0 cv).ch cB (fun hm => by have z := a _ hm; have H := hirv _ hm; omega))
   have iw := ((((al.ch0 au).ch0 an).ch0 cv).ch cB (fun g hg hm => by have z := a _ hm; have H := hirv _ hm; have P := c _ hg; have Q := hiav _ hg; omega))
   have ix := ((((am.ch0 au).ch0 an).ch0 cv).ch cB (fun g hg hm => by have z := a _ hm; have H := hirv _ hm; have P := b _ hg; have Q := hinv _ hg; omega))
   exact Zb (Exists.intro ((k + 1), (row ++ [(-1)]), us, (.slice Auv (us).length Cuv), (.slice ap ((row ++ [(-1)])).length aq)) ⟨⟨E, (by omega), ⟨by omega, by simp only [List.length_append, List.length_singleton]; omega⟩, (by first | omega | (simp only [List.length_append, List.length_singleton]; omega)), it, iu, iv, iw, ix, dw, (Lo.down m (by omega)), dx, (Lo.down bm (by omega)), gA, (fun g hm hg => by exact f _ hm hg), (fun g hm hg => by exact j _ hm hg), (fun g hm hg => by rcases ao with ea | ea; (rw [ea] at hm; exact y _ hm hg); (have t := V _ hm; rw [ea] at hm; have B := List.mem_singleton.1 hm; have P := m _ hg; have Q := C _ hg; omega)), (fun u hu g hg hm => by exact R _ hu _ hg hm), (fun u hu g hg hm => by rcases ao with ea | ea; (rw [ea] at hm; exact X _ hu _ hg hm); (have t := V _ hm; rw [ea] at hm; have B := List.mem_singleton.1 hm; have b0 := gA.rng hu hg; omega))⟩, sC8 rfl rfl rfl rfl rfl rfl rfl rfl (sC1 rfl (Sub.nil _)), (by first | omega | (dsimp only; omega))⟩)
  have eL := bu
  have bu := Ye bu
  refine Xc (Zs (Zs (Yu ?_)))
  refine Zb (hw _ _ ?_)
  refine Zg fun ji gB => ?_
  refine Zg fun jj iy => ?_
  refine Zc (Za rfl rfl (Ze rfl) (Za rfl rfl (Xa (by rw [el30]; rfl) rfl) (Za rfl rfl (Ze rfl) (Za rfl rfl (Zeh rfl rfl) (Zf (Zb (iy _ _ ?_)))))))
  refine Zp rfl (fun bz => ?_) (fun bz => ?_)
  ·have d7 := bz
   have bz := Yf bz
   refine Zg fun iz eY => ?_
   refine Zc (Za rfl rfl (Yr (parts := []) (cells := [(.int .i64 0), (.slice none 0 0), (.slice none 0 0)]) zr27 pl27 rfl rfl) (Zk rfl rfl ?_))
   refine Zt (off := 0) 3 Y sz27 rfl (us := [(.int .i64 0), (.slice none 0 0), (.slice none 0 0)]) rfl rfl rfl rfl fun dy bA d8 => ?_
   have gC := d8.size
   have E := E.step d8 (lS (by omega))
   replace bA : Blk dy dk 27 [(.int .i64 0), (.slice none 0 0), (.slice none 0 0)] := bA
   refine Za rfl rfl (Zd rfl) (Zf (Zb (eY _ _ ?_)))
   refine Zr (Zl (Ya (Zl (Zl (Ya (Zl ?_))))))
   clear gi dQ gp gB
   have dz : Ol bcs 4 1 dy (.slice none 0 0) (([] : List Bool)) := by
    have hx := (Ol.nil (cs := bcs) (e := 4) (k := 1) dy)
    first | exact hx | simpa using hx
   exact Zi [_, _] (Zu bA rfl agg27 sz27 ⟨rfl, trivial⟩) ⟨0, ([] : List Bool), ([] : List (List Int)), false, (.slice none 0 0), (.slice none 0 0), [], ((congrArg (fun zq => (Value.tuple #[.agg #[.int .i64 zq, (.slice none 0 0), (.slice none 0 0)], .bool false])) (by first | rfl | simp_all)).trans (congrArg (fun zq => (Value.tuple #[.agg #[.int .i64 0, (.slice none 0 0), (.slice none 0 0)], .bool zq])) (by first | rfl | simp_all))), dz, (Lo.nil _), (Ol.nil _), (Lo.nil _), Od.nil, (fun u hu => by cases hu), (fun g hm hg => by cases hm), (fun u hu => by cases hu), (fun h => by cases h), E⟩
  have d7 := bz
  have bz := Ye bz
  refine Zq ?_
  refine Zb (gB _ _ ?_)
  refine Zg fun iA ca => ?_
  refine Xg ((bl (.slice Aav (ab).length Cav)) ++ [U]) 12 mixed rfl fun S A => ?_
  have gD := A.size
  have E := E.trans A
  refine dV 0 rfl rfl rfl (fun _ => Zh fa27_1 rfl) ?_
  have b1 := (b7.ch0 A)
  refine dT 2 rfl rfl rfl (Yx b1.at_ (fun i hm => by rcases List.mem_append.1 hm with hm | hm; (have z := c _ hm; have H := hiav _ hm; omega); (have z := List.mem_singleton.1 hm; omega)) agg48 sz48 rfl ?_)
  refine dV 3 rfl rfl rfl (fun _ => Ze rfl) (dV 4 rfl rfl rfl (fun _ => Ze rfl) ?_)
  refine Zas 1 5 (by kernel_rfl) ?_ ?_
  ·refine Yl rfl rfl rfl ?_
   have d9 := (ac.ch0 A)
   refine s_v (Zm d9.at_ agg24 rfl rfl) ?_
   refine ⟨(Ch.refl _ _), ?_⟩
   refine dO 5 (Yl rfl rfl rfl ?_)
   have eb := (bO.ch0 A)
   refine (Yo eb.ls Yh el30 sz3 rfl rfl rfl (by omega) fun eZ G ec cC => ?_)
   refine ⟨(Ch.refl _ _), ?_⟩
   refine dO 6 (Yl rfl rfl rfl ?_)
   refine s_v (Yg cC agg3 rfl rfl) ?_
   refine ⟨(Ch.refl _ _), ?_⟩
   refine dO 7 (Yl rfl rfl rfl ?_)
   have e0 := ((Z.ch0 aw).ch0 A)
   have e1 := ((aa.ch0 aw).ch0 A)
   refine Step.call (Zn (xs := [.tmp 57, .tmp 61]) fk136 rfl) (Zan e0 _ _ e1 _ _ ) fun dA e2 bB => ?_
   obtain ⟨rfl, ax⟩ := bB
   have gE := ax.size
   have E := E.trans ax
   have cb : Ch ((bl (.slice Aav (ab).length Cav)) ++ [U]) S e2 := ((Ch.refl _ _).trans ax.of_nil)
   refine ⟨cb, ?_⟩
   refine dO 8 (Yl rfl rfl rfl ?_)
   refine Zo (cs := bcs) (parts := [(0, .tmp 62)]) false [accB plast pnull G] el24 sz4 zr4 Qq (by decide) rfl rfl rfl (by decide) (by decide) rfl fun cD e3 ae bP ay => ?_
   have gF := ay.size
   have E := E.trans ay
   obtain ⟨bQ, bR, rfl, bS, aW⟩ := ae.opn
   have cc : Ch ((bl (.slice Aav (ab).length Cav)) ++ [U]) S e3 := (cb.trans ay.of_nil)
   refine ⟨cc, ?_⟩
   refine dO 9 (Yl rfl rfl rfl ?_)
   have e4 := (((al.ch0 A).ch0 ax).ch0 ay)
   refine Yd (cs := bcs) el24 sz4 by4 zr4 rfl (by decide) Zbo e4 ae.ls rfl rfl (by first | omega | (simp only [List.length_append, List.length_nil, List.length_cons, List.length_replicate, List.length_set, List.length_reverse, List.length_map] at *; omega) | (simp at *; omega)) (by first | omega | (simp only [List.length_append, List.length_nil, List.length_cons, List.length_replicate, List.length_set, List.length_reverse, List.length_map] at *; omega) | (simp at *; omega)) c (by omega) fun cE e5 af ag l aF => ?_
   have gG := aF.size
   have E := E.step aF (fun i hi => .inl (by have z := c _ hi; omega))
   obtain ⟨D, F, rfl, bT, d⟩ := af.opn
   have cd : Ch ((bl (.slice Aav (ab).length Cav)) ++ [U]) S e5 := (cc.step aF (fun i hm => by exact .inr (List.mem_append_left _ hm)))
   refine ⟨cd, ?_⟩
   refine dV 10 rfl rfl rfl (fun _ => Zh fa27_1 rfl) (dO 11 (Yl rfl rfl rfl ?_))
   have e6 := (((d9.ch0 ax).ch0 ay).ch aF (fun hm => by exact p (by first | exact hm | exact I ▸ hm)))
   refine Yv (off := 1) e6 sz24 rfl rfl rfl rfl fun ed aX aG => ?_
   have gH := aG.size
   have E := E.step aG (lS (by omega))
   replace aX : Blk ed U 27 [(.int .i64 0), (.slice D ((ab ++ [accB plast pnull G])).length F), (.slice Anv (vs).length Cnv)] := aX
   have dB : Ch ((bl (.slice Aav (ab).length Cav)) ++ [U]) S ed := (cd.step aG (fun i hm => by have I := List.mem_singleton.1 hm; exact .inr (by rw [I]; exact (List.mem_append_right _ (List.mem_singleton.2 rfl)))))
   refine ⟨dB, ?_⟩
   refine Yq (by kernel_rfl) ?_
   refine Zb (ca _ _ (Zc (Za rfl rfl (Zh fa27_2 rfl) (Za rfl rfl (Zm aX.at_ agg25 rfl rfl) (Za rfl rfl (Ze rfl) (Zk rfl rfl ?_))))))
   refine Zo (cs := Sv.cs) (parts := [(0, .tmp 68)]) (⟨none, 0, 0⟩ : Sv) [(⟨Arv, (row).length, Crv⟩ : Sv)] el25 sz30 zr30 Sv.len (by decide) rfl rfl rfl (by decide) (by decide) rfl fun cF ee ah bU aH => ?_
   have gI := aH.size
   have E := E.trans aH
   obtain ⟨bV, bW, rfl, bX, aY⟩ := ah.opn
   have ef := ((((((ad.ch0 A).ch0 ax).ch0 ay).ch aF (fun g hg hm => by have z := c _ hm; have H := hiav _ hm; have P := a _ hg; have Q := hirv _ hg; omega)).ch aG (dS a hirv (by omega))).ch0 aH)
   have bY : Rd ics 1 ee 0 ee.heap.size ([(⟨Arv, (row).length, Crv⟩ : Sv)]) ([row]) := (Rd.cons (ef.ls.up (by omega) (by omega)) Rd.nil)
   refine Zk rfl rfl ?_
   have e7 := ((((((am.ch0 A).ch0 ax).ch0 ay).ch aF (fun g hg hm => by exact o _ hg hm)).ch aG (fun g hg hm => by have I := List.mem_singleton.1 hm; exact q (by first | exact hg | exact I ▸ hg))).ch0 aH)
   refine Yd (cs := Sv.cs) el25 sz30 by30 zr30 rfl (by decide) Sv.one e7 ah.ls rfl rfl (by first | omega | (simp only [List.length_append, List.length_nil, List.length_cons, List.length_replicate, List.length_set, List.length_reverse, List.length_map] at *; omega) | (simp at *; omega)) (by first | omega | (simp only [List.length_append, List.length_nil, List.length_cons, List.length_replicate, List.length_set, List.length_reverse, List.length_map] at *; omega) | (simp at *; omega)) b (by omega) fun cG iB ai aj x aZ => ?_
   have gJ := aZ.size
   have E := E.step aZ (fun i hi => .inl (by have z := b _ hi; omega))
   obtain ⟨M, O, rfl, bZ, n⟩ := ai.opn
   refine Za rfl rfl (Zh fa27_2 rfl) (Zk rfl rfl ?_)
   have e8 := ((aX.ch0 aH).ch aZ (fun hm => by exact q (by first | exact hm | exact I ▸ hm)))
   refine Yv (off := 2) e8 sz25 rfl rfl rfl rfl fun cH bC a0 => ?_
   have gK := a0.size
   have E := E.step a0 (lS (by omega))
   replace bC : Blk cH U 27 [(.int .i64 0), (.slice D ((ab ++ [accB plast pnull G])).length F), (.slice M ((vs ++ [(⟨Arv, (row).length, Crv⟩ : Sv)])).length O)] := bC
   refine Zf (Zv (Zb (dQ _ _ (Zc (Za rfl rfl (Ze rfl) (Za rfl rfl (Yk (by omega) rfl rfl) (Za rfl rfl (Zd rfl) (Zf ?_))))))))
   have e9 := (((((((eb.ch0 ax).ch0 ay).ch aF (fun g hg hm => by exact f _ hg hm)).ch aG (dS m C (by omega))).ch0 aH).ch aZ (fun g hg hm => by exact j _ hg hm)).ch a0 (dS m C (by omega)))
   have cI : Ol ics 3 1 cH (.slice Auv (us).length Cuv) (us) := by
    have hx := e9
    exact hx
   have fa := ((((af.ch aG (fun g hg hm => by have I := List.mem_singleton.1 hm; rcases l with ea | ea; (rw [ea] at hg; exact p (by first | exact hg | exact I ▸ hg)); (have J := d _ hg; rw [ea] at hg; have B := List.mem_singleton.1 hg; omega))).ch0 aH).ch aZ (fun g hg hm => by rcases l with ea | ea; (rw [ea] at hg; exact o _ hm hg); (have J := d _ hg; rw [ea] at hg; have B := List.mem_singleton.1 hg; have z := b _ hm; have H := hinv _ hm; omega))).ch a0 (fun g hg hm => by have I := List.mem_singleton.1 hm; rcases l with ea | ea; (rw [ea] at hg; exact p (by first | exact hg | exact I ▸ hg)); (have J := d _ hg; rw [ea] at hg; have B := List.mem_singleton.1 hg; omega)))
   have cJ : Ol bcs 4 1 cH (.slice D ((ab ++ [accB plast pnull G])).length F) ((ab ++ [accB plast pnull G])) := by
    have hx := fa
    exact hx
   have fb := (ai.ch a0 (fun g hg hm => by have I := List.mem_singleton.1 hm; rcases x with ea | ea; (rw [ea] at hg; exact q (by first | exact hg | exact I ▸ hg)); (have J := n _ hg; rw [ea] at hg; have B := List.mem_singleton.1 hg; omega)))
   have cK : Ol Sv.cs 30 1 cH (.slice M ((vs ++ [(⟨Arv, (row).length, Crv⟩ : Sv)])).length O) ((vs ++ [(⟨Arv, (row).length, Crv⟩ : Sv)])) := by
    have hx := fb
    exact hx
   have dC := ((((((((od.ch0 A).ch0 ax).ch0 ay).chS aF K).ch aG (oS (by omega))).ch0 aH).chS aZ L).ch a0 (oS (by omega)))
   have fc := ((ef.ch aZ (fun g hg hm => by have z := b _ hm; have H := hinv _ hm; have P := a _ hg; have Q := hirv _ hg; omega)).ch a0 (dS a hirv (by omega)))
   have fd := (((((((b1.ch0 ax).ch0 ay).ch aF (fun hm => by have z := c _ hm; have H := hiav _ hm; omega)).ch aG (nS (by omega))).ch0 aH).ch aZ (fun hm => by have z := b _ hm; have H := hinv _ hm; omega)).ch a0 (nS (by omega)))
   have fe := ((((((((Y.ch0 A).ch0 ax).ch0 ay).ch aF (fun hm => by have z := c _ hm; have H := hiav _ hm; omega)).ch aG (nS (by omega))).ch0 aH).ch aZ (fun hm => by have z := b _ hm; have H := hinv _ hm; omega)).ch a0 (nS (by omega)))
   exact Zb (Exists.intro ((s + 1), (ab ++ [accB plast pnull G]), (vs ++ [(⟨Arv, (row).length, Crv⟩ : Sv)]), (rs ++ [row]), us, (.slice Auv (us).length Cuv), (.slice D ((ab ++ [accB plast pnull G])).length F), (.slice M ((vs ++ [(⟨Arv, (row).length, Crv⟩ : Sv)])).length O)) ⟨⟨E, (by omega), (by omega), (by simp only [List.length_append, List.length_singleton]; omega), (fun r h => by rcases List.mem_append.1 h with h | h; exact hr r h; rw [List.mem_singleton.1 h]; omega), fd, fe, cI, (Lo.down m (by omega)), cJ, (Lo.down ag (by omega)), cK, (Lo.down aj (by omega)), (Od.snoc dC (v := (⟨Arv, (row).length, Crv⟩ : Sv)) fc (Lo.down a (by omega)) (fun g hg => by have z := hirv g hg; omega) (by omega) (by omega)), bC, (fun g hm hg => by rcases l with ea | ea; (rw [ea] at hm; exact f _ hg hm); (have t := d _ hm; rw [ea] at hm; have B := List.mem_singleton.1 hm; have P := m _ hg; have Q := C _ hg; omega)), (fun hm => by rcases l with ea | ea; (rw [ea] at hm; exact p (by first | exact hm | exact I ▸ hm)); (have t := d _ hm; rw [ea] at hm; have B := List.mem_singleton.1 hm; omega)), (fun g hm hg => by rcases x with ea | ea; (rw [ea] at hm; exact j _ hg hm); (have t := n _ hm; rw [ea] at hm; have B := List.mem_singleton.1 hm; have P := m _ hg; have Q := C _ hg; omega)), (fun g hm hg => by rcases x with ea | ea; (rw [ea] at hm; rcases l with ea | ea; (rw [ea] at hg; exact o _ hm hg); (have J := d _ hg; rw [ea] at hg; have B := List.mem_singleton.1 hg; have z := b _ hm; have H := hinv _ hm; omega)); (have t := n _ hm; rw [ea] at hm; have B := List.mem_singleton.1 hm; rcases l with ea | ea; (rw [ea] at hg; have P := c _ hg; have Q := hiav _ hg; omega); (have J := d _ hg; rw [ea] at hg; have B := List.mem_singleton.1 hg; omega))), (fun hm => by rcases x with ea | ea; (rw [ea] at hm; exact q (by first | exact hm | exact I ▸ hm)); (have t := n _ hm; rw [ea] at hm; have B := List.mem_singleton.1 hm; omega)), (fun u hu g hg hm => by rcases List.mem_append.1 hu with hu | hu; (exact R _ hu _ hg hm); (rw [List.mem_singleton.1 hu] at hg; replace hg : g ∈ bl (.slice Arv (row).length Crv) := hg; exact y _ hg hm)), (fun u hu g hg hm => by rcases List.mem_append.1 hu with hu | hu; (rcases l with ea | ea; (rw [ea] at hm; exact K _ hu _ hg hm); (have t := d _ hm; rw [ea] at hm; have B := List.mem_singleton.1 hm; have b0 := dC.rng hu hg; omega)); (rw [List.mem_singleton.1 hu] at hg; replace hg : g ∈ bl (.slice Arv (row).length Crv) := hg; rcases l with ea | ea; (rw [ea] at hm; have z := c _ hm; have H := hiav _ hm; have P := a _ hg; have Q := hirv _ hg; omega); (have t := d _ hm; rw [ea] at hm; have B := List.mem_singleton.1 hm; have P := a _ hg; have Q := hirv _ hg; omega))), (fun u hu g hg hm => by rcases List.mem_append.1 hu with hu | hu; (rcases x with ea | ea; (rw [ea] at hm; exact L _ hu _ hg hm); (have t := n _ hm; rw [ea] at hm; have B := List.mem_singleton.1 hm; have b0 := dC.rng hu hg; omega)); (rw [List.mem_singleton.1 hu] at hg; replace hg : g ∈ bl (.slice Arv (row).length Crv) := hg; rcases x with ea | ea; (rw [ea] at hm; have z := b _ hm; have H := hinv _ hm; have P := a _ hg; have Q := hirv _ hg; omega); (have t := n _ hm; rw [ea] at hm; have B := List.mem_singleton.1 hm; have P := a _ hg; have Q := hirv _ hg; omega)))⟩, sC4 rfl rfl rfl rfl (sC2 rfl rfl (Sub.nil _)), (by first | omega | (dsimp only; omega))⟩)
  refine Yl rfl rfl rfl ?_
  have ce := (bO.ch0 A)
  refine (Yo ce.ls Yh el30 sz3 rfl rfl rfl (by omega) fun eZ G ec cC => ?_)
  refine ⟨(Ch.refl _ _), ?_⟩
  refine Zas 1 6 (by kernel_rfl) ?_ ?_
  ·refine Yl rfl rfl rfl ?_
   have eg := (ac.ch0 A)
   refine s_v (Zm eg.at_ agg24 rfl rfl) ?_
   refine ⟨(Ch.refl _ _), ?_⟩
   refine dO 6 (Yl rfl rfl rfl ?_)
   refine s_v (Yg cC agg3 rfl rfl) ?_
   refine ⟨(Ch.refl _ _), ?_⟩
   refine dO 7 (Yl rfl rfl rfl ?_)
   have ff := ((Z.ch0 aw).ch0 A)
   have fg := ((aa.ch0 aw).ch0 A)
   refine Step.call (Zn (xs := [.tmp 57, .tmp 61]) fk136 rfl) (Zan ff _ _ fg _ _ ) fun dA fh bB => ?_
   obtain ⟨rfl, az⟩ := bB
   have gL := az.size
   have E := E.trans az
   have cf : Ch ((bl (.slice Aav (ab).length Cav)) ++ [U]) S fh := ((Ch.refl _ _).trans az.of_nil)
   refine ⟨cf, ?_⟩
   refine dO 8 (Yl rfl rfl rfl ?_)
   refine Zo (cs := bcs) (parts := [(0, .tmp 62)]) false [accB plast pnull G] el24 sz4 zr4 Qq (by decide) rfl rfl rfl (by decide) (by decide) rfl fun cD fi ae bP aA => ?_
   have gM := aA.size
   have E := E.trans aA
   obtain ⟨bQ, bR, rfl, bS, aW⟩ := ae.opn
   have cg : Ch ((bl (.slice Aav (ab).length Cav)) ++ [U]) S fi := (cf.trans aA.of_nil)
   refine ⟨cg, ?_⟩
   refine dO 9 (Yl rfl rfl rfl ?_)
   have fj := (((al.ch0 A).ch0 az).ch0 aA)
   refine Yd (cs := bcs) el24 sz4 by4 zr4 rfl (by decide) Zbo fj ae.ls rfl rfl (by first | omega | (simp only [List.length_append, List.length_nil, List.length_cons, List.length_replicate, List.length_set, List.length_reverse, List.length_map] at *; omega) | (simp at *; omega)) (by first | omega | (simp only [List.length_append, List.length_nil, List.length_cons, List.length_replicate, List.length_set, List.length_reverse, List.length_map] at *; omega) | (simp at *; omega)) c (by omega) fun cE fk af ag l aI => ?_
   have gN := aI.size
   have E := E.step aI (fun i hi => .inl (by have z := c _ hi; omega))
   obtain ⟨D, F, rfl, bT, d⟩ := af.opn
   have ci : Ch ((bl (.slice Aav (ab).length Cav)) ++ [U]) S fk := (cg.step aI (fun i hm => by exact .inr (List.mem_append_left _ hm)))
   refine ⟨ci, ?_⟩
   refine dV 10 rfl rfl rfl (fun _ => Zh fa27_1 rfl) (dO 11 (Yl rfl rfl rfl ?_))
   have fl := (((eg.ch0 az).ch0 aA).ch aI (fun hm => by exact p (by first | exact hm | exact I ▸ hm)))
   refine Yv (off := 1) fl sz24 rfl rfl rfl rfl fun eh a1 aJ => ?_
   have gO := aJ.size
   have E := E.step aJ (lS (by omega))
   replace a1 : Blk eh U 27 [(.int .i64 0), (.slice D ((ab ++ [accB plast pnull G])).length F), (.slice Anv (vs).length Cnv)] := a1
   have dD : Ch ((bl (.slice Aav (ab).length Cav)) ++ [U]) S eh := (ci.step aJ (fun i hm => by have I := List.mem_singleton.1 hm; exact .inr (by rw [I]; exact (List.mem_append_right _ (List.mem_singleton.2 rfl)))))
   refine ⟨dD, ?_⟩
   refine Yq (by kernel_rfl) ?_
   refine Zb (ca _ _ (Zc (Za rfl rfl (Zh fa27_2 rfl) (Za rfl rfl (Zm a1.at_ agg25 rfl rfl) (Za rfl rfl (Ze rfl) (Zk rfl rfl ?_))))))
   refine Zo (cs := Sv.cs) (parts := [(0, .tmp 68)]) (⟨none, 0, 0⟩ : Sv) [(⟨Arv, (row).length, Crv⟩ : Sv)] el25 sz30 zr30 Sv.len (by decide) rfl rfl rfl (by decide) (by decide) rfl fun cF ei ah bU aK => ?_
   have gP := aK.size
   have E := E.trans aK
   obtain ⟨bV, bW, rfl, bX, aY⟩ := ah.opn
   have ej := ((((((ad.ch0 A).ch0 az).ch0 aA).ch aI (fun g hg hm => by have z := c _ hm; have H := hiav _ hm; have P := a _ hg; have Q := hirv _ hg; omega)).ch aJ (dS a hirv (by omega))).ch0 aK)
   have bY : Rd ics 1 ei 0 ei.heap.size ([(⟨Arv, (row).length, Crv⟩ : Sv)]) ([row]) := (Rd.cons (ej.ls.up (by omega) (by omega)) Rd.nil)
   refine Zk rfl rfl ?_
   have fm := ((((((am.ch0 A).ch0 az).ch0 aA).ch aI (fun g hg hm => by exact o _ hg hm)).ch aJ (fun g hg hm => by have I := List.mem_singleton.1 hm; exact q (by first | exact hg | exact I ▸ hg))).ch0 aK)
   refine Yd (cs := Sv.cs) el25 sz30 by30 zr30 rfl (by decide) Sv.one fm ah.ls rfl rfl (by first | omega | (simp only [List.length_append, List.length_nil, List.length_cons, List.length_replicate, List.length_set, List.length_reverse, List.length_map] at *; omega) | (simp at *; omega)) (by first | omega | (simp only [List.length_append, List.length_nil, List.length_cons, List.length_replicate, List.length_set, List.length_reverse, List.length_map] at *; omega) | (simp at *; omega)) b (by omega) fun cG iC ai aj x a2 => ?_
   have gQ := a2.size
   have E := E.step a2 (fun i hi => .inl (by have z := b _ hi; omega))
   obtain ⟨M, O, rfl, bZ, n⟩ := ai.opn
   refine Za rfl rfl (Zh fa27_2 rfl) (Zk rfl rfl ?_)
   have fn := ((a1.ch0 aK).ch a2 (fun hm => by exact q (by first | exact hm | exact I ▸ hm)))
   refine Yv (off := 2) fn sz25 rfl rfl rfl rfl fun cL bD a3 => ?_
   have gR := a3.size
   have E := E.step a3 (lS (by omega))
   replace bD : Blk cL U 27 [(.int .i64 0), (.slice D ((ab ++ [accB plast pnull G])).length F), (.slice M ((vs ++ [(⟨Arv, (row).length, Crv⟩ : Sv)])).length O)] := bD
   refine Zf (Zv (Zb (dQ _ _ (Zc (Za rfl rfl (Ze rfl) (Za rfl rfl (Yk (by omega) rfl rfl) (Za rfl rfl (Zd rfl) (Zf ?_))))))))
   have fo := (((((((ce.ch0 az).ch0 aA).ch aI (fun g hg hm => by exact f _ hg hm)).ch aJ (dS m C (by omega))).ch0 aK).ch a2 (fun g hg hm => by exact j _ hg hm)).ch a3 (dS m C (by omega)))
   have cM : Ol ics 3 1 cL (.slice Auv (us).length Cuv) (us) := by
    have hx := fo
    exact hx
   have fp := ((((af.ch aJ (fun g hg hm => by have I := List.mem_singleton.1 hm; rcases l with ea | ea; (rw [ea] at hg; exact p (by first | exact hg | exact I ▸ hg)); (have J := d _ hg; rw [ea] at hg; have B := List.mem_singleton.1 hg; omega))).ch0 aK).ch a2 (fun g hg hm => by rcases l with ea | ea; (rw [ea] at hg; exact o _ hm hg); (have J := d _ hg; rw [ea] at hg; have B := List.mem_singleton.1 hg; have z := b _ hm; have H := hinv _ hm; omega))).ch a3 (fun g hg hm => by have I := List.mem_singleton.1 hm; rcases l with ea | ea; (rw [ea] at hg; exact p (by first | exact hg | exact I ▸ hg)); (have J := d _ hg; rw [ea] at hg; have B := List.mem_singleton.1 hg; omega)))
   have cN : Ol bcs 4 1 cL (.slice D ((ab ++ [accB plast pnull G])).length F) ((ab ++ [accB plast pnull G])) := by
    have hx := fp
    exact hx
   have fq := (ai.ch a3 (fun g hg hm => by have I := List.mem_singleton.1 hm; rcases x with ea | ea; (rw [ea] at hg; exact q (by first | exact hg | exact I ▸ hg)); (have J := n _ hg; rw [ea] at hg; have B := List.mem_singleton.1 hg; omega)))
   have cO : Ol Sv.cs 30 1 cL (.slice M ((vs ++ [(⟨Arv, (row).length, Crv⟩ : Sv)])).length O) ((vs ++ [(⟨Arv, (row).length, Crv⟩ : Sv)])) := by
    have hx := fq
    exact hx
   have dE := ((((((((od.ch0 A).ch0 az).ch0 aA).chS aI K).ch aJ (oS (by omega))).ch0 aK).chS a2 L).ch a3 (oS (by omega)))
   have fr := ((ej.ch a2 (fun g hg hm => by have z := b _ hm; have H := hinv _ hm; have P := a _ hg; have Q := hirv _ hg; omega)).ch a3 (dS a hirv (by omega)))
   have fs := (((((((b1.ch0 az).ch0 aA).ch aI (fun hm => by have z := c _ hm; have H := hiav _ hm; omega)).ch aJ (nS (by omega))).ch0 aK).ch a2 (fun hm => by have z := b _ hm; have H := hinv _ hm; omega)).ch a3 (nS (by omega)))
   have ft := ((((((((Y.ch0 A).ch0 az).ch0 aA).ch aI (fun hm => by have z := c _ hm; have H := hiav _ hm; omega)).ch aJ (nS (by omega))).ch0 aK).ch a2 (fun hm => by have z := b _ hm; have H := hinv _ hm; omega)).ch a3 (nS (by omega)))
   exact Zb (Exists.intro ((s + 1), (ab ++ [accB plast pnull G]), (vs ++ [(⟨Arv, (row).length, Crv⟩ : Sv)]), (rs ++ [row]), us, (.slice Auv (us).length Cuv), (.slice D ((ab ++ [accB plast pnull G])).length F), (.slice M ((vs ++ [(⟨Arv, (row).length, Crv⟩ : Sv)])).length O)) ⟨⟨E, (by omega), (by omega), (by simp only [List.length_append, List.length_singleton]; omega), (fun r h => by rcases List.mem_append.1 h with h | h; exact hr r h; rw [List.mem_singleton.1 h]; omega), fs, ft, cM, (Lo.down m (by omega)), cN, (Lo.down ag (by omega)), cO, (Lo.down aj (by omega)), (Od.snoc dE (v := (⟨Arv, (row).length, Crv⟩ : Sv)) fr (Lo.down a (by omega)) (fun g hg => by have z := hirv g hg; omega) (by omega) (by omega)), bD, (fun g hm hg => by rcases l with ea | ea; (rw [ea] at hm; exact f _ hg hm); (have t := d _ hm; rw [ea] at hm; have B := List.mem_singleton.1 hm; have P := m _ hg; have Q := C _ hg; omega)), (fun hm => by rcases l with ea | ea; (rw [ea] at hm; exact p (by first | exact hm | exact I ▸ hm)); (have t := d _ hm; rw [ea] at hm; have B := List.mem_singleton.1 hm; omega)), (fun g hm hg => by rcases x with ea | ea; (rw [ea] at hm; exact j _ hg hm); (have t := n _ hm; rw [ea] at hm; have B := List.mem_singleton.1 hm; have P := m _ hg; have Q := C _ hg; omega)), (fun g hm hg => by rcases x with ea | ea; (rw [ea] at hm; rcases l with ea | ea; (rw [ea] at hg; exact o _ hm hg); (have J := d _ hg; rw [ea] at hg; have B := List.mem_singleton.1 hg; have z := b _ hm; have H := hinv _ hm; omega)); (have t := n _ hm; rw [ea] at hm; have B := List.mem_singleton.1 hm; rcases l with ea | ea; (rw [ea] at hg; have P := c _ hg; have Q := hiav _ hg; omega); (have J := d _ hg; rw [ea] at hg; have B := List.mem_singleton.1 hg; omega))), (fun hm => by rcases x with ea | ea; (rw [ea] at hm; exact q (by first | exact hm | exact I ▸ hm)); (have t := n _ hm; rw [ea] at hm; have B := List.mem_singleton.1 hm; omega)), (fun u hu g hg hm => by rcases List.mem_append.1 hu with hu | hu; (exact R _ hu _ hg hm); (rw [List.mem_singleton.1 hu] at hg; replace hg : g ∈ bl (.slice Arv (row).length Crv) := hg; exact y _ hg hm)), (fun u hu g hg hm => by rcases List.mem_append.1 hu with hu | hu; (rcases l with ea | ea; (rw [ea] at hm; exact K _ hu _ hg hm); (have t := d _ hm; rw [ea] at hm; have B := List.mem_singleton.1 hm; have b0 := dE.rng hu hg; omega)); (rw [List.mem_singleton.1 hu] at hg; replace hg : g ∈ bl (.slice Arv (row).length Crv) := hg; rcases l with ea | ea; (rw [ea] at hm; have z := c _ hm; have H := hiav _ hm; have P := a _ hg; have Q := hirv _ hg; omega); (have t := d _ hm; rw [ea] at hm; have B := List.mem_singleton.1 hm; have P := a _ hg; have Q := hirv _ hg; omega))), (fun u hu g hg hm => by rcases List.mem_append.1 hu with hu | hu; (rcases x with ea | ea; (rw [ea] at hm; exact L _ hu _ hg hm); (have t := n _ hm; rw [ea] at hm; have B := List.mem_singleton.1 hm; have b0 := dE.rng hu hg; omega)); (rw [List.mem_singleton.1 hu] at hg; replace hg : g ∈ bl (.slice Arv (row).length Crv) := hg; rcases x with ea | ea; (rw [ea] at hm; have z := b _ hm; have H := hinv _ hm; have P := a _ hg; have Q := hirv _ hg; omega); (have t := n _ hm; rw [ea] at hm; have B := List.mem_singleton.1 hm; have P := a _ hg; have Q := hirv _ hg; omega)))⟩, sC4 rfl rfl rfl rfl (sC2 rfl rfl (Sub.nil _)), (by first | omega | (dsimp only; omega))⟩)
  refine Yl rfl rfl rfl ?_
  refine s_v (Yg cC agg3 rfl rfl) ?_
  refine ⟨(Ch.refl _ _), ?_⟩
  refine Zas 1 7 (by kernel_rfl) ?_ ?_
  ·refine Yl rfl rfl rfl ?_
   have ek := (ac.ch0 A)
   refine s_v (Zm ek.at_ agg24 rfl rfl) ?_
   refine ⟨(Ch.refl _ _), ?_⟩
   refine dO 7 (Yl rfl rfl rfl ?_)
   have fu := ((Z.ch0 aw).ch0 A)
   have fv := ((aa.ch0 aw).ch0 A)
   refine Step.call (Zn (xs := [.tmp 57, .tmp 61]) fk136 rfl) (Zan fu _ _ fv _ _ ) fun dA fw bB => ?_
   obtain ⟨rfl, aB⟩ := bB
   have gS := aB.size
   have E := E.trans aB
   have cj : Ch ((bl (.slice Aav (ab).length Cav)) ++ [U]) S fw := ((Ch.refl _ _).trans aB.of_nil)
   refine ⟨cj, ?_⟩
   refine dO 8 (Yl rfl rfl rfl ?_)
   refine Zo (cs := bcs) (parts := [(0, .tmp 62)]) false [accB plast pnull G] el24 sz4 zr4 Qq (by decide) rfl rfl rfl (by decide) (by decide) rfl fun cD fx ae bP aC => ?_
   have gT := aC.size
   have E := E.trans aC
   obtain ⟨bQ, bR, rfl, bS, aW⟩ := ae.opn
   have ck : Ch ((bl (.slice Aav (ab).length Cav)) ++ [U]) S fx := (cj.trans aC.of_nil)
   refine ⟨ck, ?_⟩
   refine dO 9 (Yl rfl rfl rfl ?_)
   have fy := (((al.ch0 A).ch0 aB).ch0 aC)
   refine Yd (cs := bcs) el24 sz4 by4 zr4 rfl (by decide) Zbo fy ae.ls rfl rfl (by first | omega | (simp only [List.length_append, List.length_nil, List.length_cons, List.length_replicate, List.length_set, List.length_reverse, List.length_map] at *; omega) | (simp at *; omega)) (by first | omega | (simp only [List.length_append, List.length_nil, List.length_cons, List.length_replicate, List.length_set, List.length_reverse, List.length_map] at *; omega) | (simp at *; omega)) c (by omega) fun cE fz af ag l aL => ?_
   have gU := aL.size
   have E := E.step aL (fun i hi => .inl (by have z := c _ hi; omega))
   obtain ⟨D, F, rfl, bT, d⟩ := af.opn
   have cm : Ch ((bl (.slice Aav (ab).length Cav)) ++ [U]) S fz := (ck.step aL (fun i hm => by exact .inr (List.mem_append_left _ hm)))
   refine ⟨cm, ?_⟩
   refine dV 10 rfl rfl rfl (fun _ => Zh fa27_1 rfl) (dO 11 (Yl rfl rfl rfl ?_))
   have fA := (((ek.ch0 aB).ch0 aC).ch aL (fun hm => by exact p (by first | exact hm | exact I ▸ hm)))
   refine Yv (off := 1) fA sz24 rfl rfl rfl rfl fun el a4 aM => ?_
   have gV := aM.size
   have E := E.step aM (lS (by omega))
   replace a4 : Blk el U 27 [(.int .i64 0), (.slice D ((ab ++ [accB plast pnull G])).length F), (.slice Anv (vs).length Cnv)] := a4
   have dF : Ch ((bl (.slice Aav (ab).length Cav)) ++ [U]) S el := (cm.step aM (fun i hm => by have I := List.mem_singleton.1 hm; exact .inr (by rw [I]; exact (List.mem_append_right _ (List.mem_singleton.2 rfl)))))
   refine ⟨dF, ?_⟩
   refine Yq (by kernel_rfl) ?_
   refine Zb (ca _ _ (Zc (Za rfl rfl (Zh fa27_2 rfl) (Za rfl rfl (Zm a4.at_ agg25 rfl rfl) (Za rfl rfl (Ze rfl) (Zk rfl rfl ?_))))))
   refine Zo (cs := Sv.cs) (parts := [(0, .tmp 68)]) (⟨none, 0, 0⟩ : Sv) [(⟨Arv, (row).length, Crv⟩ : Sv)] el25 sz30 zr30 Sv.len (by decide) rfl rfl rfl (by decide) (by decide) rfl fun cF em ah bU aN => ?_
   have gW := aN.size
   have E := E.trans aN
   obtain ⟨bV, bW, rfl, bX, aY⟩ := ah.opn
   have en := ((((((ad.ch0 A).ch0 aB).ch0 aC).ch aL (fun g hg hm => by have z := c _ hm; have H := hiav _ hm; have P := a _ hg; have Q := hirv _ hg; omega)).ch aM (dS a hirv (by omega))).ch0 aN)
   have bY : Rd ics 1 em 0 em.heap.size ([(⟨Arv, (row).length, Crv⟩ : Sv)]) ([row]) := (Rd.cons (en.ls.up (by omega) (by omega)) Rd.nil)
   refine Zk rfl rfl ?_
   have fB := ((((((am.ch0 A).ch0 aB).ch0 aC).ch aL (fun g hg hm => by exact o _ hg hm)).ch aM (fun g hg hm => by have I := List.mem_singleton.1 hm; exact q (by first | exact hg | exact I ▸ hg))).ch0 aN)
   refine Yd (cs := Sv.cs) el25 sz30 by30 zr30 rfl (by decide) Sv.one fB ah.ls rfl rfl (by first | omega | (simp only [List.length_append, List.length_nil, List.length_cons, List.length_replicate, List.length_set, List.length_reverse, List.length_map] at *; omega) | (simp at *; omega)) (by first | omega | (simp only [List.length_append, List.length_nil, List.length_cons, List.length_replicate, List.length_set, List.length_reverse, List.length_map] at *; omega) | (simp at *; omega)) b (by omega) fun cG iD ai aj x a5 => ?_
   have gX := a5.size
   have E := E.step a5 (fun i hi => .inl (by have z := b _ hi; omega))
   obtain ⟨M, O, rfl, bZ, n⟩ := ai.opn
   refine Za rfl rfl (Zh fa27_2 rfl) (Zk rfl rfl ?_)
   have fC := ((a4.ch0 aN).ch a5 (fun hm => by exact q (by first | exact hm | exact I ▸ hm)))
   refine Yv (off := 2) fC sz25 rfl rfl rfl rfl fun cP bF a6 => ?_
   have gY := a6.size
   have E := E.step a6 (lS (by omega))
   replace bF : Blk cP U 27 [(.int .i64 0), (.slice D ((ab ++ [accB plast pnull G])).length F), (.slice M ((vs ++ [(⟨Arv, (row).length, Crv⟩ : Sv)])).length O)] := bF
   refine Zf (Zv (Zb (dQ _ _ (Zc (Za rfl rfl (Ze rfl) (Za rfl rfl (Yk (by omega) rfl rfl) (Za rfl rfl (Zd rfl) (Zf ?_))))))))
   have fD := (((((((ce.ch0 aB).ch0 aC).ch aL (fun g hg hm => by exact f _ hg hm)).ch aM (dS m C (by omega))).ch0 aN).ch a5 (fun g hg hm => by exact j _ hg hm)).ch a6 (dS m C (by omega)))
   have cQ : Ol ics 3 1 cP (.slice Auv (us).length Cuv) (us) := by
    have hx := fD
    exact hx
   have fE := ((((af.ch aM (fun g hg hm => by have I := List.mem_singleton.1 hm; rcases l with ea | ea; (rw [ea] at hg; exact p (by first | exact hg | exact I ▸ hg)); (have J := d _ hg; rw [ea] at hg; have B := List.mem_singleton.1 hg; omega))).ch0 aN).ch a5 (fun g hg hm => by rcases l with ea | ea; (rw [ea] at hg; exact o _ hm hg); (have J := d _ hg; rw [ea] at hg; have B := List.mem_singleton.1 hg; have z := b _ hm; have H := hinv _ hm; omega))).ch a6 (fun g hg hm => by have I := List.mem_singleton.1 hm; rcases l with ea | ea; (rw [ea] at hg; exact p (by first | exact hg | exact I ▸ hg)); (have J := d _ hg; rw [ea] at hg; have B := List.mem_singleton.1 hg; omega)))
   have cR : Ol bcs 4 1 cP (.slice D ((ab ++ [accB plast pnull G])).length F) ((ab ++ [accB plast pnull G])) := by
    have hx := fE
    exact hx
   have fF := (ai.ch a6 (fun g hg hm => by have I := List.mem_singleton.1 hm; rcases x with ea | ea; (rw [ea] at hg; exact q (by first | exact hg | exact I ▸ hg)); (have J := n _ hg; rw [ea] at hg; have B := List.mem_singleton.1 hg; omega)))
   have cS : Ol Sv.cs 30 1 cP (.slice M ((vs ++ [(⟨Arv, (row).length, Crv⟩ : Sv)])).length O) ((vs ++ [(⟨Arv, (row).length, Crv⟩ : Sv)])) := by
    have hx := fF
    exact hx
   have dG := ((((((((od.ch0 A).ch0 aB).ch0 aC).chS aL K).ch aM (oS (by omega))).ch0 aN).chS a5 L).ch a6 (oS (by omega)))
   have fG := ((en.ch a5 (fun g hg hm => by have z := b _ hm; have H := hinv _ hm; have P := a _ hg; have Q := hirv _ hg; omega)).ch a6 (dS a hirv (by omega)))
   have fH := (((((((b1.ch0 aB).ch0 aC).ch aL (fun hm => by have z := c _ hm; have H := hiav _ hm; omega)).ch aM (nS (by omega))).ch0 aN).ch a5 (fun hm => by have z := b _ hm; have H := hinv _ hm; omega)).ch a6 (nS (by omega)))
   have fI := ((((((((Y.ch0 A).ch0 aB).ch0 aC).ch aL (fun hm => by have z := c _ hm; have H := hiav _ hm; omega)).ch aM (nS (by omega))).ch0 aN).ch a5 (fun hm => by have z := b _ hm; have H := hinv _ hm; omega)).ch a6 (nS (by omega)))
   exact Zb (Exists.intro ((s + 1), (ab ++ [accB plast pnull G]), (vs ++ [(⟨Arv, (row).length, Crv⟩ : Sv)]), (rs ++ [row]), us, (.slice Auv (us).length Cuv), (.slice D ((ab ++ [accB plast pnull G])).length F), (.slice M ((vs ++ [(⟨Arv, (row).length, Crv⟩ : Sv)])).length O)) ⟨⟨E, (by omega), (by omega), (by simp only [List.length_append, List.length_singleton]; omega), (fun r h => by rcases List.mem_append.1 h with h | h; exact hr r h; rw [List.mem_singleton.1 h]; omega), fH, fI, cQ, (Lo.down m (by omega)), cR, (Lo.down ag (by omega)), cS, (Lo.down aj (by omega)), (Od.snoc dG (v := (⟨Arv, (row).length, Crv⟩ : Sv)) fG (Lo.down a (by omega)) (fun g hg => by have z := hirv g hg; omega) (by omega) (by omega)), bF, (fun g hm hg => by rcases l with ea | ea; (rw [ea] at hm; exact f _ hg hm); (have t := d _ hm; rw [ea] at hm; have B := List.mem_singleton.1 hm; have P := m _ hg; have Q := C _ hg; omega)), (fun hm => by rcases l with ea | ea; (rw [ea] at hm; exact p (by first | exact hm | exact I ▸ hm)); (have t := d _ hm; rw [ea] at hm; have B := List.mem_singleton.1 hm; omega)), (fun g hm hg => by rcases x with ea | ea; (rw [ea] at hm; exact j _ hg hm); (have t := n _ hm; rw [ea] at hm; have B := List.mem_singleton.1 hm; have P := m _ hg; have Q := C _ hg; omega)), (fun g hm hg => by rcases x with ea | ea; (rw [ea] at hm; rcases l with ea | ea; (rw [ea] at hg; exact o _ hm hg); (have J := d _ hg; rw [ea] at hg; have B := List.mem_singleton.1 hg; have z := b _ hm; have H := hinv _ hm; omega)); (have t := n _ hm; rw [ea] at hm; have B := List.mem_singleton.1 hm; rcases l with ea | ea; (rw [ea] at hg; have P := c _ hg; have Q := hiav _ hg; omega); (have J := d _ hg; rw [ea] at hg; have B := List.mem_singleton.1 hg; omega))), (fun hm => by rcases x with ea | ea; (rw [ea] at hm; exact q (by first | exact hm | exact I ▸ hm)); (have t := n _ hm; rw [ea] at hm; have B := List.mem_singleton.1 hm; omega)), (fun u hu g hg hm => by rcases List.mem_append.1 hu with hu | hu; (exact R _ hu _ hg hm); (rw [List.mem_singleton.1 hu] at hg; replace hg : g ∈ bl (.slice Arv (row).length Crv) := hg; exact y _ hg hm)), (fun u hu g hg hm => by rcases List.mem_append.1 hu with hu | hu; (rcases l with ea | ea; (rw [ea] at hm; exact K _ hu _ hg hm); (have t := d _ hm; rw [ea] at hm; have B := List.mem_singleton.1 hm; have b0 := dG.rng hu hg; omega)); (rw [List.mem_singleton.1 hu] at hg; replace hg : g ∈ bl (.slice Arv (row).length Crv) := hg; rcases l with ea | ea; (rw [ea] at hm; have z := c _ hm; have H := hiav _ hm; have P := a _ hg; have Q := hirv _ hg; omega); (have t := d _ hm; rw [ea] at hm; have B := List.mem_singleton.1 hm; have P := a _ hg; have Q := hirv _ hg; omega))), (fun u hu g hg hm => by rcases List.mem_append.1 hu with hu | hu; (rcases x with ea | ea; (rw [ea] at hm; exact L _ hu _ hg hm); (have t := n _ hm; rw [ea] at hm; have B := List.mem_singleton.1 hm; have b0 := dG.rng hu hg; omega)); (rw [List.mem_singleton.1 hu] at hg; replace hg : g ∈ bl (.slice Arv (row).length Crv) := hg; rcases x with ea | ea; (rw [ea] at hm; have z := b _ hm; have H := hinv _ hm; have P := a _ hg; have Q := hirv _ hg; omega); (have t := n _ hm; rw [ea] at hm; have B := List.mem_singleton.1 hm; have P := a _ hg; have Q := hirv _ hg; omega)))⟩, sC4 rfl rfl rfl rfl (sC2 rfl rfl (Sub.nil _)), (by first | omega | (dsimp only; omega))⟩)
  refine Yl rfl rfl rfl ?_
  have fJ := ((Z.ch0 aw).ch0 A)
  have fK := ((aa.ch0 aw).ch0 A)
  refine Step.call (Zn (xs := [.tmp 57, .tmp 61]) fk136 rfl) (Zan fJ _ _ fK _ _ ) fun dA fL bB => ?_
  obtain ⟨rfl, T⟩ := bB
  have gZ := T.size
  have E := E.trans T
  have a7 : Ch ((bl (.slice Aav (ab).length Cav)) ++ [U]) S fL := ((Ch.refl _ _).trans T.of_nil)
  refine ⟨a7, ?_⟩
  refine Zas 1 8 (by kernel_rfl) ?_ ?_
  ·refine Yl rfl rfl rfl ?_
   have eo := ((ac.ch0 A).ch0 T)
   refine s_v (Zm eo.at_ agg24 rfl rfl) ?_
   refine ⟨a7, ?_⟩
   refine dO 8 (Yl rfl rfl rfl ?_)
   refine Zo (cs := bcs) (parts := [(0, .tmp 62)]) false [accB plast pnull G] el24 sz4 zr4 Qq (by decide) rfl rfl rfl (by decide) (by decide) rfl fun cD fM ae bP aD => ?_
   have g0 := aD.size
   have E := E.trans aD
   obtain ⟨bQ, bR, rfl, bS, aW⟩ := ae.opn
   have cn : Ch ((bl (.slice Aav (ab).length Cav)) ++ [U]) S fM := (a7.trans aD.of_nil)
   refine ⟨cn, ?_⟩
   refine dO 9 (Yl rfl rfl rfl ?_)
   have fN := (((al.ch0 A).ch0 T).ch0 aD)
   refine Yd (cs := bcs) el24 sz4 by4 zr4 rfl (by decide) Zbo fN ae.ls rfl rfl (by first | omega | (simp only [List.length_append, List.length_nil, List.length_cons, List.length_replicate, List.length_set, List.length_reverse, List.length_map] at *; omega) | (simp at *; omega)) (by first | omega | (simp only [List.length_append, List.length_nil, List.length_cons, List.length_replicate, List.length_set, List.length_reverse, List.length_map] at *; omega) | (simp at *; omega)) c (by omega) fun cE fO af ag l aO => ?_
   have g1 := aO.size
   have E := E.step aO (fun i hi => .inl (by have z := c _ hi; omega))
   obtain ⟨D, F, rfl, bT, d⟩ := af.opn
   have co : Ch ((bl (.slice Aav (ab).length Cav)) ++ [U]) S fO := (cn.step aO (fun i hm => by exact .inr (List.mem_append_left _ hm)))
   refine ⟨co, ?_⟩
   refine dV 10 rfl rfl rfl (fun _ => Zh fa27_1 rfl) (dO 11 (Yl rfl rfl rfl ?_))
   have fP := ((eo.ch0 aD).ch aO (fun hm => by exact p (by first | exact hm | exact I ▸ hm)))
   refine Yv (off := 1) fP sz24 rfl rfl rfl rfl fun ep a8 aP => ?_
   have g2 := aP.size
   have E := E.step aP (lS (by omega))
   replace a8 : Blk ep U 27 [(.int .i64 0), (.slice D ((ab ++ [accB plast pnull G])).length F), (.slice Anv (vs).length Cnv)] := a8
   have dH : Ch ((bl (.slice Aav (ab).length Cav)) ++ [U]) S ep := (co.step aP (fun i hm => by have I := List.mem_singleton.1 hm; exact .inr (by rw [I]; exact (List.mem_append_right _ (List.mem_singleton.2 rfl)))))
   refine ⟨dH, ?_⟩
   refine Yq (by kernel_rfl) ?_
   refine Zb (ca _ _ (Zc (Za rfl rfl (Zh fa27_2 rfl) (Za rfl rfl (Zm a8.at_ agg25 rfl rfl) (Za rfl rfl (Ze rfl) (Zk rfl rfl ?_))))))
   refine Zo (cs := Sv.cs) (parts := [(0, .tmp 68)]) (⟨none, 0, 0⟩ : Sv) [(⟨Arv, (row).length, Crv⟩ : Sv)] el25 sz30 zr30 Sv.len (by decide) rfl rfl rfl (by decide) (by decide) rfl fun cF er ah bU aQ => ?_
   have g3 := aQ.size
   have E := E.trans aQ
   obtain ⟨bV, bW, rfl, bX, aY⟩ := ah.opn
   have es := ((((((ad.ch0 A).ch0 T).ch0 aD).ch aO (fun g hg hm => by have z := c _ hm; have H := hiav _ hm; have P := a _ hg; have Q := hirv _ hg; omega)).ch aP (dS a hirv (by omega))).ch0 aQ)
   have bY : Rd ics 1 er 0 er.heap.size ([(⟨Arv, (row).length, Crv⟩ : Sv)]) ([row]) := (Rd.cons (es.ls.up (by omega) (by omega)) Rd.nil)
   refine Zk rfl rfl ?_
   have fQ := ((((((am.ch0 A).ch0 T).ch0 aD).ch aO (fun g hg hm => by exact o _ hg hm)).ch aP (fun g hg hm => by have I := List.mem_singleton.1 hm; exact q (by first | exact hg | exact I ▸ hg))).ch0 aQ)
   refine Yd (cs := Sv.cs) el25 sz30 by30 zr30 rfl (by decide) Sv.one fQ ah.ls rfl rfl (by first | omega | (simp only [List.length_append, List.length_nil, List.length_cons, List.length_replicate, List.length_set, List.length_reverse, List.length_map] at *; omega) | (simp at *; omega)) (by first | omega | (simp only [List.length_append, List.length_nil, List.length_cons, List.length_replicate, List.length_set, List.length_reverse, List.length_map] at *; omega) | (simp at *; omega)) b (by omega) fun cG iE ai aj x a9 => ?_
   have g4 := a9.size
   have E := E.step a9 (fun i hi => .inl (by have z := b _ hi; omega))
   obtain ⟨M, O, rfl, bZ, n⟩ := ai.opn
   refine Za rfl rfl (Zh fa27_2 rfl) (Zk rfl rfl ?_)
   have fR := ((a8.ch0 aQ).ch a9 (fun hm => by exact q (by first | exact hm | exact I ▸ hm)))
   refine Yv (off := 2) fR sz25 rfl rfl rfl rfl fun cT bG ba => ?_
   have g5 := ba.size
   have E := E.step ba (lS (by omega))
   replace bG : Blk cT U 27 [(.int .i64 0), (.slice D ((ab ++ [accB plast pnull G])).length F), (.slice M ((vs ++ [(⟨Arv, (row).length, Crv⟩ : Sv)])).length O)] := bG
   refine Zf (Zv (Zb (dQ _ _ (Zc (Za rfl rfl (Ze rfl) (Za rfl rfl (Yk (by omega) rfl rfl) (Za rfl rfl (Zd rfl) (Zf ?_))))))))
   have fS := (((((((ce.ch0 T).ch0 aD).ch aO (fun g hg hm => by exact f _ hg hm)).ch aP (dS m C (by omega))).ch0 aQ).ch a9 (fun g hg hm => by exact j _ hg hm)).ch ba (dS m C (by omega)))
   have cU : Ol ics 3 1 cT (.slice Auv (us).length Cuv) (us) := by
    have hx := fS
    exact hx
   have fT := ((((af.ch aP (fun g hg hm => by have I := List.mem_singleton.1 hm; rcases l with ea | ea; (rw [ea] at hg; exact p (by first | exact hg | exact I ▸ hg)); (have J := d _ hg; rw [ea] at hg; have B := List.mem_singleton.1 hg; omega))).ch0 aQ).ch a9 (fun g hg hm => by rcases l with ea | ea; (rw [ea] at hg; exact o _ hm hg); (have J := d _ hg; rw [ea] at hg; have B := List.mem_singleton.1 hg; have z := b _ hm; have H := hinv _ hm; omega))).ch ba (fun g hg hm => by have I := List.mem_singleton.1 hm; rcases l with ea | ea; (rw [ea] at hg; exact p (by first | exact hg | exact I ▸ hg)); (have J := d _ hg; rw [ea] at hg; have B := List.mem_singleton.1 hg; omega)))
   have cV : Ol bcs 4 1 cT (.slice D ((ab ++ [accB plast pnull G])).length F) ((ab ++ [accB plast pnull G])) := by
    have hx := fT
    exact hx
   have fU := (ai.ch ba (fun g hg hm => by have I := List.mem_singleton.1 hm; rcases x with ea | ea; (rw [ea] at hg; exact q (by first | exact hg | exact I ▸ hg)); (have J := n _ hg; rw [ea] at hg; have B := List.mem_singleton.1 hg; omega)))
   have cW : Ol Sv.cs 30 1 cT (.slice M ((vs ++ [(⟨Arv, (row).length, Crv⟩ : Sv)])).length O) ((vs ++ [(⟨Arv, (row).length, Crv⟩ : Sv)])) := by
    have hx := fU
    exact hx
   have dI := ((((((((od.ch0 A).ch0 T).ch0 aD).chS aO K).ch aP (oS (by omega))).ch0 aQ).chS a9 L).ch ba (oS (by omega)))
   have fV := ((es.ch a9 (fun g hg hm => by have z := b _ hm; have H := hinv _ hm; have P := a _ hg; have Q := hirv _ hg; omega)).ch ba (dS a hirv (by omega)))
   have fW := (((((((b1.ch0 T).ch0 aD).ch aO (fun hm => by have z := c _ hm; have H := hiav _ hm; omega)).ch aP (nS (by omega))).ch0 aQ).ch a9 (fun hm => by have z := b _ hm; have H := hinv _ hm; omega)).ch ba (nS (by omega)))
   have fX := ((((((((Y.ch0 A).ch0 T).ch0 aD).ch aO (fun hm => by have z := c _ hm; have H := hiav _ hm; omega)).ch aP (nS (by omega))).ch0 aQ).ch a9 (fun hm => by have z := b _ hm; have H := hinv _ hm; omega)).ch ba (nS (by omega)))
   exact Zb (Exists.intro ((s + 1), (ab ++ [accB plast pnull G]), (vs ++ [(⟨Arv, (row).length, Crv⟩ : Sv)]), (rs ++ [row]), us, (.slice Auv (us).length Cuv), (.slice D ((ab ++ [accB plast pnull G])).length F), (.slice M ((vs ++ [(⟨Arv, (row).length, Crv⟩ : Sv)])).length O)) ⟨⟨E, (by omega), (by omega), (by simp only [List.length_append, List.length_singleton]; omega), (fun r h => by rcases List.mem_append.1 h with h | h; exact hr r h; rw [List.mem_singleton.1 h]; omega), fW, fX, cU, (Lo.down m (by omega)), cV, (Lo.down ag (by omega)), cW, (Lo.down aj (by omega)), (Od.snoc dI (v := (⟨Arv, (row).length, Crv⟩ : Sv)) fV (Lo.down a (by omega)) (fun g hg => by have z := hirv g hg; omega) (by omega) (by omega)), bG, (fun g hm hg => by rcases l with ea | ea; (rw [ea] at hm; exact f _ hg hm); (have t := d _ hm; rw [ea] at hm; have B := List.mem_singleton.1 hm; have P := m _ hg; have Q := C _ hg; omega)), (fun hm => by rcases l with ea | ea; (rw [ea] at hm; exact p (by first | exact hm | exact I ▸ hm)); (have t := d _ hm; rw [ea] at hm; have B := List.mem_singleton.1 hm; omega)), (fun g hm hg => by rcases x with ea | ea; (rw [ea] at hm; exact j _ hg hm); (have t := n _ hm; rw [ea] at hm; have B := List.mem_singleton.1 hm; have P := m _ hg; have Q := C _ hg; omega)), (fun g hm hg => by rcases x with ea | ea; (rw [ea] at hm; rcases l with ea | ea; (rw [ea] at hg; exact o _ hm hg); (have J := d _ hg; rw [ea] at hg; have B := List.mem_singleton.1 hg; have z := b _ hm; have H := hinv _ hm; omega)); (have t := n _ hm; rw [ea] at hm; have B := List.mem_singleton.1 hm; rcases l with ea | ea; (rw [ea] at hg; have P := c _ hg; have Q := hiav _ hg; omega); (have J := d _ hg; rw [ea] at hg; have B := List.mem_singleton.1 hg; omega))), (fun hm => by rcases x with ea | ea; (rw [ea] at hm; exact q (by first | exact hm | exact I ▸ hm)); (have t := n _ hm; rw [ea] at hm; have B := List.mem_singleton.1 hm; omega)), (fun u hu g hg hm => by rcases List.mem_append.1 hu with hu | hu; (exact R _ hu _ hg hm); (rw [List.mem_singleton.1 hu] at hg; replace hg : g ∈ bl (.slice Arv (row).length Crv) := hg; exact y _ hg hm)), (fun u hu g hg hm => by rcases List.mem_append.1 hu with hu | hu; (rcases l with ea | ea; (rw [ea] at hm; exact K _ hu _ hg hm); (have t := d _ hm; rw [ea] at hm; have B := List.mem_singleton.1 hm; have b0 := dI.rng hu hg; omega)); (rw [List.mem_singleton.1 hu] at hg; replace hg : g ∈ bl (.slice Arv (row).length Crv) := hg; rcases l with ea | ea; (rw [ea] at hm; have z := c _ hm; have H := hiav _ hm; have P := a _ hg; have Q := hirv _ hg; omega); (have t := d _ hm; rw [ea] at hm; have B := List.mem_singleton.1 hm; have P := a _ hg; have Q := hirv _ hg; omega))), (fun u hu g hg hm => by rcases List.mem_append.1 hu with hu | hu; (rcases x with ea | ea; (rw [ea] at hm; exact L _ hu _ hg hm); (have t := n _ hm; rw [ea] at hm; have B := List.mem_singleton.1 hm; have b0 := dI.rng hu hg; omega)); (rw [List.mem_singleton.1 hu] at hg; replace hg : g ∈ bl (.slice Arv (row).length Crv) := hg; rcases x with ea | ea; (rw [ea] at hm; have z := b _ hm; have H := hinv _ hm; have P := a _ hg; have Q := hirv _ hg; omega); (have t := n _ hm; rw [ea] at hm; have B := List.mem_singleton.1 hm; have P := a _ hg; have Q := hirv _ hg; omega)))⟩, sC4 rfl rfl rfl rfl (sC2 rfl rfl (Sub.nil _)), (by first | omega | (dsimp only; omega))⟩)
  refine Yl rfl rfl rfl ?_
  refine Zo (cs := bcs) (parts := [(0, .tmp 62)]) false [accB plast pnull G] el24 sz4 zr4 Qq (by decide) rfl rfl rfl (by decide) (by decide) rfl fun cD fY ae bP aE => ?_
  have g6 := aE.size
  have E := E.trans aE
  obtain ⟨bQ, bR, rfl, bS, aW⟩ := ae.opn
  have bH : Ch ((bl (.slice Aav (ab).length Cav)) ++ [U]) S fY := (a7.trans aE.of_nil)
  refine ⟨bH, ?_⟩
  refine dO 1 (Yl rfl rfl rfl ?_)
  have et := (((ac.ch0 A).ch0 T).ch0 aE)
  refine s_v (Zm et.at_ agg24 rfl rfl) ?_
  refine ⟨bH, ?_⟩
  refine dO 9 (Yl rfl rfl rfl ?_)
  have fZ := (((al.ch0 A).ch0 T).ch0 aE)
  refine Yd (cs := bcs) el24 sz4 by4 zr4 rfl (by decide) Zbo fZ ae.ls rfl rfl (by first | omega | (simp only [List.length_append, List.length_nil, List.length_cons, List.length_replicate, List.length_set, List.length_reverse, List.length_map] at *; omega) | (simp at *; omega)) (by first | omega | (simp only [List.length_append, List.length_nil, List.length_cons, List.length_replicate, List.length_set, List.length_reverse, List.length_map] at *; omega) | (simp at *; omega)) c (by omega) fun cE f0 af ag l aR => ?_
  have g7 := aR.size
  have E := E.step aR (fun i hi => .inl (by have z := c _ hi; omega))
  obtain ⟨D, F, rfl, bT, d⟩ := af.opn
  have cp : Ch ((bl (.slice Aav (ab).length Cav)) ++ [U]) S f0 := (bH.step aR (fun i hm => by exact .inr (List.mem_append_left _ hm)))
  refine ⟨cp, ?_⟩
  refine dV 10 rfl rfl rfl (fun _ => Zh fa27_1 rfl) (dO 11 (Yl rfl rfl rfl ?_))
  have f1 := (et.ch aR (fun hm => by exact p (by first | exact hm | exact I ▸ hm)))
  refine Yv (off := 1) f1 sz24 rfl rfl rfl rfl fun eu bb aS => ?_
  have g8 := aS.size
  have E := E.step aS (lS (by omega))
  replace bb : Blk eu U 27 [(.int .i64 0), (.slice D ((ab ++ [accB plast pnull G])).length F), (.slice Anv (vs).length Cnv)] := bb
  have dJ : Ch ((bl (.slice Aav (ab).length Cav)) ++ [U]) S eu := (cp.step aS (fun i hm => by have I := List.mem_singleton.1 hm; exact .inr (by rw [I]; exact (List.mem_append_right _ (List.mem_singleton.2 rfl)))))
  refine ⟨dJ, ?_⟩
  refine Yq (by kernel_rfl) ?_
  refine Zb (ca _ _ (Zc (Za rfl rfl (Zh fa27_2 rfl) (Za rfl rfl (Zm bb.at_ agg25 rfl rfl) (Za rfl rfl (Ze rfl) (Zk rfl rfl ?_))))))
  refine Zo (cs := Sv.cs) (parts := [(0, .tmp 68)]) (⟨none, 0, 0⟩ : Sv) [(⟨Arv, (row).length, Crv⟩ : Sv)] el25 sz30 zr30 Sv.len (by decide) rfl rfl rfl (by decide) (by decide) rfl fun cF ew ah bU aT => ?_
  have g9 := aT.size
  have E := E.trans aT
  obtain ⟨bV, bW, rfl, bX, aY⟩ := ah.opn
  have ex := ((((((ad.ch0 A).ch0 T).ch0 aE).ch aR (fun g hg hm => by have z := c _ hm; have H := hiav _ hm; have P := a _ hg; have Q := hirv _ hg; omega)).ch aS (dS a hirv (by omega))).ch0 aT)
  have bY : Rd ics 1 ew 0 ew.heap.size ([(⟨Arv, (row).length, Crv⟩ : Sv)]) ([row]) := (Rd.cons (ex.ls.up (by omega) (by omega)) Rd.nil)
  refine Zk rfl rfl ?_
  have f2 := ((((((am.ch0 A).ch0 T).ch0 aE).ch aR (fun g hg hm => by exact o _ hg hm)).ch aS (fun g hg hm => by have I := List.mem_singleton.1 hm; exact q (by first | exact hg | exact I ▸ hg))).ch0 aT)
  refine Yd (cs := Sv.cs) el25 sz30 by30 zr30 rfl (by decide) Sv.one f2 ah.ls rfl rfl (by first | omega | (simp only [List.length_append, List.length_nil, List.length_cons, List.length_replicate, List.length_set, List.length_reverse, List.length_map] at *; omega) | (simp at *; omega)) (by first | omega | (simp only [List.length_append, List.length_nil, List.length_cons, List.length_replicate, List.length_set, List.length_reverse, List.length_map] at *; omega) | (simp at *; omega)) b (by omega) fun cG iF ai aj x bc => ?_
  have ha := bc.size
  have E := E.step bc (fun i hi => .inl (by have z := b _ hi; omega))
  obtain ⟨M, O, rfl, bZ, n⟩ := ai.opn
  refine Za rfl rfl (Zh fa27_2 rfl) (Zk rfl rfl ?_)
  have f3 := ((bb.ch0 aT).ch bc (fun hm => by exact q (by first | exact hm | exact I ▸ hm)))
  refine Yv (off := 2) f3 sz25 rfl rfl rfl rfl fun cX bI bd => ?_
  have hb := bd.size
  have E := E.step bd (lS (by omega))
  replace bI : Blk cX U 27 [(.int .i64 0), (.slice D ((ab ++ [accB plast pnull G])).length F), (.slice M ((vs ++ [(⟨Arv, (row).length, Crv⟩ : Sv)])).length O)] := bI
  refine Zf (Zv (Zb (dQ _ _ (Zc (Za rfl rfl (Ze rfl) (Za rfl rfl (Yk (by omega) rfl rfl) (Za rfl rfl (Zd rfl) (Zf ?_))))))))
  have f4 := (((((((ce.ch0 T).ch0 aE).ch aR (fun g hg hm => by exact f _ hg hm)).ch aS (dS m C (by omega))).ch0 aT).ch bc (fun g hg hm => by exact j _ hg hm)).ch bd (dS m C (by omega)))
  have cY : Ol ics 3 1 cX (.slice Auv (us).length Cuv) (us) := by
   have hx := f4
   exact hx
  have f5 := ((((af.ch aS (fun g hg hm => by have I := List.mem_singleton.1 hm; rcases l with ea | ea; (rw [ea] at hg; exact p (by first | exact hg | exact I ▸ hg)); (have J := d _ hg; rw [ea] at hg; have B := List.mem_singleton.1 hg; omega))).ch0 aT).ch bc (fun g hg hm => by rcases l with ea | ea; (rw [ea] at hg; exact o _ hm hg); (have J := d _ hg; rw [ea] at hg; have B := List.mem_singleton.1 hg; have z := b _ hm; have H := hinv _ hm; omega))).ch bd (fun g hg hm => by have I := List.mem_singleton.1 hm; rcases l with ea | ea; (rw [ea] at hg; exact p (by first | exact hg | exact I ▸ hg)); (have J := d _ hg; rw [ea] at hg; have B := List.mem_singleton.1 hg; omega)))
  have cZ : Ol bcs 4 1 cX (.slice D ((ab ++ [accB plast pnull G])).length F) ((ab ++ [accB plast pnull G])) := by
   have hx := f5
   exact hx
  have f6 := (ai.ch bd (fun g hg hm => by have I := List.mem_singleton.1 hm; rcases x with ea | ea; (rw [ea] at hg; exact q (by first | exact hg | exact I ▸ hg)); (have J := n _ hg; rw [ea] at hg; have B := List.mem_singleton.1 hg; omega)))
  have c0 : Ol Sv.cs 30 1 cX (.slice M ((vs ++ [(⟨Arv, (row).length, Crv⟩ : Sv)])).length O) ((vs ++ [(⟨Arv, (row).length, Crv⟩ : Sv)])) := by
   have hx := f6
   exact hx
  have dL := ((((((((od.ch0 A).ch0 T).ch0 aE).chS aR K).ch aS (oS (by omega))).ch0 aT).chS bc L).ch bd (oS (by omega)))
  have f7 := ((ex.ch bc (fun g hg hm => by have z := b _ hm; have H := hinv _ hm; have P := a _ hg; have Q := hirv _ hg; omega)).ch bd (dS a hirv (by omega)))
  have f8 := (((((((b1.ch0 T).ch0 aE).ch aR (fun hm => by have z := c _ hm; have H := hiav _ hm; omega)).ch aS (nS (by omega))).ch0 aT).ch bc (fun hm => by have z := b _ hm; have H := hinv _ hm; omega)).ch bd (nS (by omega)))
  have f9 := ((((((((Y.ch0 A).ch0 T).ch0 aE).ch aR (fun hm => by have z := c _ hm; have H := hiav _ hm; omega)).ch aS (nS (by omega))).ch0 aT).ch bc (fun hm => by have z := b _ hm; have H := hinv _ hm; omega)).ch bd (nS (by omega)))
  exact Zb (Exists.intro ((s + 1), (ab ++ [accB plast pnull G]), (vs ++ [(⟨Arv, (row).length, Crv⟩ : Sv)]), (rs ++ [row]), us, (.slice Auv (us).length Cuv), (.slice D ((ab ++ [accB plast pnull G])).length F), (.slice M ((vs ++ [(⟨Arv, (row).length, Crv⟩ : Sv)])).length O)) ⟨⟨E, (by omega), (by omega), (by simp only [List.length_append, List.length_singleton]; omega), (fun r h => by rcases List.mem_append.1 h with h | h; exact hr r h; rw [List.mem_singleton.1 h]; omega), f8, f9, cY, (Lo.down m (by omega)), cZ, (Lo.down ag (by omega)), c0, (Lo.down aj (by omega)), (Od.snoc dL (v := (⟨Arv, (row).length, Crv⟩ : Sv)) f7 (Lo.down a (by omega)) (fun g hg => by have z := hirv g hg; omega) (by omega) (by omega)), bI, (fun g hm hg => by rcases l with ea | ea; (rw [ea] at hm; exact f _ hg hm); (have t := d _ hm; rw [ea] at hm; have B := List.mem_singleton.1 hm; have P := m _ hg; have Q := C _ hg; omega)), (fun hm => by rcases l with ea | ea; (rw [ea] at hm; exact p (by first | exact hm | exact I ▸ hm)); (have t := d _ hm; rw [ea] at hm; have B := List.mem_singleton.1 hm; omega)), (fun g hm hg => by rcases x with ea | ea; (rw [ea] at hm; exact j _ hg hm); (have t := n _ hm; rw [ea] at hm; have B := List.mem_singleton.1 hm; have P := m _ hg; have Q := C _ hg; omega)), (fun g hm hg => by rcases x with ea | ea; (rw [ea] at hm; rcases l with ea | ea; (rw [ea] at hg; exact o _ hm hg); (have J := d _ hg; rw [ea] at hg; have B := List.mem_singleton.1 hg; have z := b _ hm; have H := hinv _ hm; omega)); (have t := n _ hm; rw [ea] at hm; have B := List.mem_singleton.1 hm; rcases l with ea | ea; (rw [ea] at hg; have P := c _ hg; have Q := hiav _ hg; omega); (have J := d _ hg; rw [ea] at hg; have B := List.mem_singleton.1 hg; omega))), (fun hm => by rcases x with ea | ea; (rw [ea] at hm; exact q (by first | exact hm | exact I ▸ hm)); (have t := n _ hm; rw [ea] at hm; have B := List.mem_singleton.1 hm; omega)), (fun u hu g hg hm => by rcases List.mem_append.1 hu with hu | hu; (exact R _ hu _ hg hm); (rw [List.mem_singleton.1 hu] at hg; replace hg : g ∈ bl (.slice Arv (row).length Crv) := hg; exact y _ hg hm)), (fun u hu g hg hm => by rcases List.mem_append.1 hu with hu | hu; (rcases l with ea | ea; (rw [ea] at hm; exact K _ hu _ hg hm); (have t := d _ hm; rw [ea] at hm; have B := List.mem_singleton.1 hm; have b0 := dL.rng hu hg; omega)); (rw [List.mem_singleton.1 hu] at hg; replace hg : g ∈ bl (.slice Arv (row).length Crv) := hg; rcases l with ea | ea; (rw [ea] at hm; have z := c _ hm; have H := hiav _ hm; have P := a _ hg; have Q := hirv _ hg; omega); (have t := d _ hm; rw [ea] at hm; have B := List.mem_singleton.1 hm; have P := a _ hg; have Q := hirv _ hg; omega))), (fun u hu g hg hm => by rcases List.mem_append.1 hu with hu | hu; (rcases x with ea | ea; (rw [ea] at hm; exact L _ hu _ hg hm); (have t := n _ hm; rw [ea] at hm; have B := List.mem_singleton.1 hm; have b0 := dL.rng hu hg; omega)); (rw [List.mem_singleton.1 hu] at hg; replace hg : g ∈ bl (.slice Arv (row).length Crv) := hg; rcases x with ea | ea; (rw [ea] at hm; have z := b _ hm; have H := hinv _ hm; have P := a _ hg; have Q := hirv _ hg; omega); (have t := n _ hm; rw [ea] at hm; have B := List.mem_singleton.1 hm; have P := a _ hg; have Q := hirv _ hg; omega)))⟩, sC4 rfl rfl rfl rfl (sC2 rfl rfl (Sub.nil _)), (by first | omega | (dsimp only; omega))⟩)
 have eG := bs
 have bs := Ye bs
 refine Xc (Zs (Zs (Yu ?_)))
 refine Zb (gi _ _ ?_)
 refine Zg fun iG ga => ?_
 refine Zc (Za rfl rfl (Zw c8.at_ agg27 sz27 rfl) (Zk rfl rfl ?_))
 refine Zt (off := 0) 3 b3 sz27 rfl (us := [(.int .i64 0), (.slice Aav (ab).length Cav), (.slice Anv (vs).length Cnv)]) rfl rfl rfl rfl fun b2 bJ cq => ?_
 have hc := cq.size
 have E := E.step cq (lS (by omega))
 replace bJ : Blk b2 dk 27 [(.int .i64 0), (.slice Aav (ab).length Cav), (.slice Anv (vs).length Cnv)] := bJ
 refine Za rfl rfl (Zd rfl) (Zf (Zb (ga _ _ ?_)))
 refine Zr ?_
 have gb := (bn.ch cq (dS c hiav (by omega)))
 have dM : Ol bcs 4 1 b2 (.slice Aav (ab).length Cav) (ab) := by
  have hx := gb
  first | exact hx | simpa using hx
 have gc := (bp.ch cq (dS b hinv (by omega)))
 have gd := (od.ch cq (oS (by omega)))
 have dN : Ol Sv.cs 30 1 b2 (.slice Anv (vs).length Cnv) vs := by
  have hx := gc
  exact hx
 have dP : Od ics 3 1 b2 w.heap.size b2.heap.size vs (rs) := by
  have hx := gd.up (lo' := w.heap.size) (hi' := b2.heap.size) (by omega) (by omega)
  exact hx
 exact Zi [_, _] (Zu bJ rfl agg27 sz27 ⟨rfl, trivial⟩) ⟨0, ab, rs, true, (.slice Aav (ab).length Cav), (.slice Anv (vs).length Cnv), vs, ((congrArg (fun zq => (Value.tuple #[.agg #[.int .i64 zq, (.slice Aav (ab).length Cav), (.slice Anv (vs).length Cnv)], .bool true])) (by first | rfl | simp_all)).trans (congrArg (fun zq => (Value.tuple #[.agg #[.int .i64 0, (.slice Aav (ab).length Cav), (.slice Anv (vs).length Cnv)], .bool zq])) (by first | rfl | simp_all))), dM, (Lo.down c (by omega)), dN, (Lo.down b (by omega)), dP, L, (fun g hm hg => by exact o _ hg hm), K, (fun _ => ⟨by omega, by omega, by omega, hr⟩), E⟩

/-- spec.l2Cut -/
theorem Zli {w : World} (s : List UInt8) (sep : Int) (hb : s.length ≤ 4194304) :
 Ctr Try.prog 142 #[(bst s), (.int .u8 sep)] w (fun v w' => Ol scs 9 1 w' v (Xv s sep []) ∧ Lo w.heap.size v ∧ Ch [] w w') := by
 have E := Ch.refl [] w
 refine Yc (N := 35) (vs0 := [(bst s), (.int .u8 sep)]) Try.func142 rfl rfl rfl ?_
 refine Zg fun K1 H1 => ?_
 refine Zc (Za rfl rfl (Zd rfl) (Zf (Zb (H1 _ _ ?_))))
 refine Zg fun K2 H2 => ?_
 refine Zc (Zk rfl rfl ?_)
 refine Xd (k := 1) scs el160 sz9 fun aC W3 L A C3 => ?_
 have aD := C3.size
 have E := E.trans C3
 obtain ⟨l, m, rfl, af, M⟩ := L.opn
 refine Za rfl rfl (Zd rfl) (Zf (Zb (H2 _ _ ?_)))
 refine Zg fun K4 H4 => ?_
 refine Zc (Za rfl rfl (Zd rfl) (Zf (Zb (H4 _ _ ?_))))
 refine Zg fun K5 H5 => ?_
 refine Zg fun K6 H6 => ?_
 refine Zc (Za rfl rfl (Zd rfl) (Zf (Zb (H6 _ _ ?_))))
 refine Zx ?_
 have n : Ol scs 9 1 W3 (.slice l (([] : List (List UInt8))).length m) (([] : List (List UInt8))) := by
  have hx := L
  exact hx
 refine Xf (σ := Nat × Nat × List (List UInt8) × Value) (fun ⟨i, f, out, ov⟩ => [(0, (bst s)), (1, (.int .u8 sep)), (4, (.slice none 0 0)), (5, ov), (6, (.int .i64 ((f : Nat) : Int))), (7, (.int .i64 ((i : Nat) : Int)))]) (fun ⟨i, f, out, ov⟩ wx => Ch [] w wx ∧ W3.heap.size ≤ wx.heap.size ∧ (f ≤ i ∧ i ≤ s.length) ∧ (out ++ Xv (s.drop i) sep ((s.drop f).take (i - f)) = Xv s sep []) ∧ Ol scs 9 1 wx ov out ∧ Lo w.heap.size ov) (fun ⟨i, f, out, ov⟩ => s.length - i) (0, 0, ([] : List (List UInt8)), (.slice l (([] : List (List UInt8))).length m)) (sC4 rfl rfl rfl rfl (sC2 rfl rfl (Sub.nil _))) ⟨E, (Nat.le_refl _), (by omega), Zqv, n, A⟩ ?_
 rintro ⟨i, f, out, ov⟩ R8 ⟨E, ag, hi, hc, d, a⟩
 have B := E
 have O := B.size
 obtain ⟨Aov, Cov, rfl, lov, hiov⟩ := d.opn
 have ah := congrArg List.length hc
 have aE := Zgr s sep []
 rw [List.length_append] at ah
 refine Zg fun K9 H9 => ?_
 refine Zg fun aF ai => ?_
 refine Zc (Za rfl rfl (Ze rfl) (Za rfl rfl (Ze rfl) (Za rfl rfl (Zsf un9 rfl) (Za rfl rfl (Xi rfl rfl) (Zf (Zb (ai _ _ ?_)))))))
 refine Zp rfl (fun c => ?_) (fun c => ?_)
 ·have C := c
  have c := Yf c
  refine Zq ?_
  refine Zb (H9 _ _ ?_)
  refine Zg fun aG P => ?_
  refine Zx ?_
  refine Zg fun aH aj => ?_
  refine Zc (Za rfl rfl (Ze rfl) (Za rfl rfl (Ze rfl) (Za rfl rfl (Zdy (by omega) un9 rfl rfl) (Za rfl rfl (Ze rfl) (Za rfl rfl (Xj rfl rfl) (Zf (Zb (aj _ _ ?_))))))))
  refine Zp rfl (fun b => ?_) (fun b => ?_)
  ·have D := b
   have b := Yf b
   refine Zg fun aI ak => ?_
   refine Zc (Za rfl rfl (Ze rfl) (Za rfl rfl (Ze rfl) (Za rfl rfl (Ze rfl) (Za rfl rfl (Ze rfl) (Za rfl rfl (Zuz (by omega) un9 rfl rfl rfl) (Zk rfl rfl ?_))))))
   refine Zo (cs := scs) (parts := [(0, .tmp 24)]) ([] : List UInt8) [((s.drop f).take (i - f))] el160 sz9 zr9 Zej (by decide) rfl rfl rfl (by decide) (by decide) rfl fun al aJ o Q F => ?_
   have am := F.size
   have E := E.trans F
   obtain ⟨R, S, rfl, T, G⟩ := o.opn
   refine Zk rfl rfl ?_
   have an := (d.ch0 F)
   refine Yd (cs := scs) el160 sz9 by9 zr9 rfl (by decide) Zoo an o.ls rfl rfl (by first | omega | (simp only [List.length_append, List.length_nil, List.length_cons, List.length_replicate, List.length_set, List.length_reverse, List.length_map] at *; omega) | (simp at *; omega)) (by first | omega | (simp only [List.length_append, List.length_nil, List.length_cons, List.length_replicate, List.length_set, List.length_reverse, List.length_map] at *; omega) | (simp at *; omega)) a (by omega) fun ao ap p q U V => ?_
   have aq := V.size
   have E := E.step V (fun i hi => .inl (by have au := a _ hi; omega))
   obtain ⟨e, g, rfl, X, H⟩ := p.opn
   refine Za rfl rfl (Zd rfl) (Zf (Zb (ak _ _ (Zc (Za rfl rfl (Ze rfl) (Za rfl rfl (Yk (by omega) rfl rfl) (Za rfl rfl (Zd rfl) (Zf ?_))))))))
   refine Zv (Zb (P _ _ (Zc (Za rfl rfl (Ze rfl) (Za rfl rfl (Yk (by omega) rfl rfl) (Za rfl rfl (Zd rfl) (Zf ?_)))))))
   have h : Ol scs 9 1 ap (.slice e ((out ++ [((s.drop f).take (i - f))])).length g) ((out ++ [((s.drop f).take (i - f))])) := by
    have hx := p
    exact hx
   exact Zb (Exists.intro ((i + 1), (i + 1), (out ++ [((s.drop f).take (i - f))]), (.slice e ((out ++ [((s.drop f).take (i - f))])).length g)) ⟨⟨E, (by omega), (by omega), (by first | exact Zph hc (by omega) b | exact Zmp hc (by omega) (by omega) b), h, (Lo.down q (by omega))⟩, sC4 rfl rfl rfl rfl (sC2 rfl rfl (Sub.nil _)), (by first | omega | (dsimp only; omega))⟩)
  have D := b
  have b := Ye b
  refine Zq ?_
  refine Zv (Zb (P _ _ (Zc (Za rfl rfl (Ze rfl) (Za rfl rfl (Yk (by omega) rfl rfl) (Za rfl rfl (Zd rfl) (Zf ?_)))))))
  have j : Ol scs 9 1 R8 (.slice Aov (out).length Cov) (out) := by
   have hx := d
   exact hx
  exact Zb (Exists.intro ((i + 1), f, out, (.slice Aov (out).length Cov)) ⟨⟨E, (by omega), (by omega), (by first | exact Zph hc (by omega) b | exact Zmp hc (by omega) (by omega) b), j, (Lo.down a (by omega))⟩, sC4 rfl rfl rfl rfl (sC2 rfl rfl (Sub.nil _)), (by first | omega | (dsimp only; omega))⟩)
 have C := c
 have c := Ye c
 refine Xc (Zs (Zs (Yu ?_)))
 refine Zb (H5 _ _ ?_)
 refine Zg fun aK av => ?_
 refine Zc (Za rfl rfl (Ze rfl) (Za rfl rfl (Ze rfl) (Za rfl rfl (Ze rfl) (Za rfl rfl (Zth (by omega) un9 rfl rfl) (Zk rfl rfl ?_)))))
 refine Zo (cs := scs) (parts := [(0, .tmp 32)]) ([] : List UInt8) [(s.drop f)] el160 sz9 zr9 Zej (by decide) rfl rfl rfl (by decide) (by decide) rfl fun aw aL r Y I => ?_
 have ax := I.size
 have E := E.trans I
 obtain ⟨Z, aa, rfl, ab, J⟩ := r.opn
 refine Zk rfl rfl ?_
 have ay := (d.ch0 I)
 refine Yd (cs := scs) el160 sz9 by9 zr9 rfl (by decide) Zoo ay r.ls rfl rfl (by first | omega | (simp only [List.length_append, List.length_nil, List.length_cons, List.length_replicate, List.length_set, List.length_reverse, List.length_map] at *; omega) | (simp at *; omega)) (by first | omega | (simp only [List.length_append, List.length_nil, List.length_cons, List.length_replicate, List.length_set, List.length_reverse, List.length_map] at *; omega) | (simp at *; omega)) a (by omega) fun az aA t u ac ad => ?_
 have aB := ad.size
 have E := E.step ad (fun i hi => .inl (by have au := a _ hi; omega))
 obtain ⟨x, y, rfl, ae, K⟩ := t.opn
 refine Za rfl rfl (Zd rfl) (Zf (Zb (av _ _ ?_)))
 refine Zr ?_
 have z : Ol scs 9 1 aA (.slice x ((out ++ [(s.drop f)])).length y) (Xv s sep []) := by
  have hx := t
  exact hx.eq (Zua hc (by omega))
 exact Zi [_] ⟨rfl, trivial⟩ ⟨z, Lo.down u (by omega), E⟩

/-- spec.FormatLetter -/
theorem Zbt {w : World} (n : Int) :
 Ctr Try.prog 146 #[(.int .i64 n)] w (fun v w' => v = bst (fmtL n) ∧ Ch [] w w') := by
 have E := Ch.refl [] w
 refine Yc (N := 10) (vs0 := [(.int .i64 n)]) Try.func146 rfl rfl rfl ?_
 refine Zg fun K1 H1 => ?_
 refine Zc (Za rfl rfl (Zd rfl) (Zf (Zb (H1 _ _ ?_))))
 refine Zg fun K2 H2 => ?_
 refine Zg fun K3 H3 => ?_
 refine Zc (Za rfl rfl (Ze rfl) (Zk rfl rfl ?_))
 refine Step.call (Zn (xs := [.tmp 3]) fk75 rfl) (Zds _ ) fun m W4 e => ?_
 obtain ⟨rfl, C4⟩ := e
 have o := C4.size
 have E := E.trans C4
 refine Za rfl rfl (Xu rfl) (Zf (Zb (H3 _ _ ?_)))
 refine Zp rfl (fun a => ?_) (fun a => ?_)
 ·have f := a
  have a := Ye (Qb a)
  refine Zg fun K6 H6 => ?_
  refine Zc (Za rfl rfl (Zd rfl) (Zf (Zb (H6 _ _ ?_))))
  refine Zr (Zl ?_)
  exact Zi [_] ⟨rfl, trivial⟩ ⟨congrArg bst (Zvb (by omega)), E⟩
 have f := a
 have a := Yf (Qc a)
 refine Zq ?_
 refine Zb (H2 _ _ ?_)
 refine Zg fun K7 H7 => ?_
 refine Zc (Zk rfl rfl ?_)
 refine Zo (cs := scs) (parts := [(0, .const (Go.Value.string { data := #[97] })), (1, .const (Go.Value.string { data := #[97, 45] })), (2, .const (Go.Value.string { data := #[98] })), (3, .const (Go.Value.string { data := #[98, 45] })), (4, .const (Go.Value.string { data := #[99] })), (5, .const (Go.Value.string { data := #[99, 45] })), (6, .const (Go.Value.string { data := #[48] })), (7, .const (Go.Value.string { data := #[49] })), (8, .const (Go.Value.string { data := #[50] }))]) ([] : List UInt8) [[97], [97, 45], [98], [98, 45], [99], [99, 45], [48], [49], [50]] el160 sz9 zr9 Zej (by decide) rfl rfl rfl (by decide) (by decide) rfl fun p W8 c g C8 => ?_
 have q := C8.size
 have E := E.trans C8
 obtain ⟨h, i, rfl, k, d⟩ := c.opn
 refine Za rfl rfl (Ze rfl) (Zk rfl rfl ?_)
 refine (Yo (j := n.toNat) c.ls Zej el160 sz9 rfl rfl (by omega) (by first | omega | (simp; omega)) fun r s b l => ?_)
 refine Za rfl rfl (Yg l agg9 rfl rfl) (Za rfl rfl (Zd rfl) (Zf (Zb (H7 _ _ ?_))))
 refine Zr ?_
 exact Zi [_] ⟨rfl, trivial⟩ ⟨congrArg bst (Zvi (by omega) b), E⟩

/-- spec.ParseLetter -/
theorem Zey {w : World} (s : List UInt8) :
 Ctr Try.prog 145 #[(bst s)] w (fun v w' => v = .tuple #[.int .i64 ((plR s).1), .bool ((plR s).2)] ∧ Ch [] w w') := by
 have E := Ch.refl [] w
 refine Yc (N := 14) (vs0 := [(bst s)]) Try.func145 rfl rfl rfl ?_
 refine Zg fun K1 H1 => ?_
 refine Zc (Za rfl rfl (Zd rfl) (Za rfl rfl (Zd rfl) (Zf (Zb (H1 _ _ ?_)))))
 refine Zg fun K2 H2 => ?_
 refine Zg fun K3 H3 => ?_
 refine Zc (Za rfl rfl (Zd rfl) (Zf (Zb (H3 _ _ ?_))))
 refine Zx ?_
 refine Xf (σ := Nat) (fun (k : Nat) => [(0, (bst s)), (4, (.int .i64 ((k : Nat) : Int)))]) (fun (k : Nat) wx => Ch [] w wx ∧ w.heap.size ≤ wx.heap.size ∧ (k ≤ 9) ∧ (ltrI s k = none)) (fun (k : Nat) => 9 - k) 0 (sC2 rfl rfl (Sub.nil _)) ⟨E, (Nat.le_refl _), (by omega), Zps⟩ ?_
 rintro k R4 ⟨E, h, o, hn⟩
 have c := E
 have f := c.size
 refine Zg fun K5 H5 => ?_
 refine Zg fun K6 H6 => ?_
 refine Zc (Za rfl rfl (Ze rfl) (Za rfl rfl (Xi rfl rfl) (Zf (Zb (H6 _ _ ?_)))))
 refine Zp rfl (fun b => ?_) (fun b => ?_)
 ·have i := b
  have b := Yf b
  refine Zq ?_
  refine Zb (H5 _ _ ?_)
  refine Zg fun K8 H8 => ?_
  refine Zx ?_
  refine Zg fun K9 H9 => ?_
  refine Zc (Za rfl rfl (Ze rfl) (Zk rfl rfl ?_))
  refine Step.call (Zn (xs := [.tmp 9]) fk146 rfl) (Zbt _ ) fun j p d => ?_
  obtain ⟨rfl, g⟩ := d
  have l := g.size
  have E := E.trans g
  refine Za rfl rfl (Ze rfl) (Za rfl rfl (Zsj rfl rfl) (Zf (Zb (H9 _ _ ?_))))
  refine Zp rfl (fun a => ?_) (fun a => ?_)
  ·have e := a
   have a := Yf a
   refine Zg fun q m => ?_
   refine Zc (Za rfl rfl (Ze rfl) (Za rfl rfl (Zd rfl) (Za rfl rfl (Zd rfl) (Zf (Zb (m _ _ ?_))))))
   refine Zr (Ya (Zl (Zl (Ya (Zl ?_)))))
   clear H2 H8
   exact Zi [_, _] ⟨rfl, ⟨rfl, trivial⟩⟩ ⟨((congrArg (fun zq => (Value.tuple #[.int .i64 zq, .bool true])) (by first | exact congrArg Prod.fst (Zqg hn (by omega) a) | exact congrArg Prod.fst (Zqj hn (by omega) (by omega)))).trans (congrArg (fun zq => (Value.tuple #[.int .i64 ((plR s).1), .bool zq])) (by first | exact congrArg Prod.snd (Zqg hn (by omega) a) | exact congrArg Prod.snd (Zqj hn (by omega) (by omega))))), E⟩
  have e := a
  have a := Ye a
  refine Zq ?_
  refine Zv (Zb (H8 _ _ (Zc (Za rfl rfl (Ze rfl) (Za rfl rfl (Yk (by omega) rfl rfl) (Za rfl rfl (Zd rfl) (Zf ?_)))))))
  exact Zb (Exists.intro (k + 1) ⟨⟨E, (by omega), (by omega), (Zuy hn (by omega) a)⟩, sC2 rfl rfl (Sub.nil _), (by first | omega | (dsimp only; omega))⟩)
 have i := b
 have b := Ye b
 refine Xc (Zs (Zs (Yu ?_)))
 refine Zb (H2 _ _ ?_)
 refine Zg fun r n => ?_
 refine Zc (Za rfl rfl (Zd rfl) (Za rfl rfl (Zd rfl) (Zf (Zb (n _ _ ?_)))))
 refine Zr ?_
 exact Zi [_, _] ⟨rfl, ⟨rfl, trivial⟩⟩ ⟨((congrArg (fun zq => (Value.tuple #[.int .i64 zq, .bool false])) (by first | exact congrArg Prod.fst (Zqg hn (by omega) a) | exact congrArg Prod.fst (Zqj hn (by omega) (by omega)))).trans (congrArg (fun zq => (Value.tuple #[.int .i64 ((plR s).1), .bool zq])) (by first | exact congrArg Prod.snd (Zqg hn (by omega) a) | exact congrArg Prod.snd (Zqj hn (by omega) (by omega))))), E⟩

/-- spec.FormatInt -/
theorem Zcz {w : World} (n : Int) (z : -9223372036854775808 ≤ n ∧ n ≤ 9223372036854775807) :
 Ctr Try.prog 147 #[(.int .i64 n)] w (fun v w' => v = bst (fmtI n) ∧ Ch [] w w') := by
 have E := Ch.refl [] w
 refine Yc (N := 31) (vs0 := [(.int .i64 n)]) Try.func147 rfl rfl rfl ?_
 refine Zg fun K1 H1 => ?_
 refine Zc (Za rfl rfl (Zd rfl) (Zf (Zb (H1 _ _ ?_))))
 refine Zg fun K2 H2 => ?_
 refine Zg fun K3 H3 => ?_
 refine Zc (Za rfl rfl (Ze rfl) (Za rfl rfl (Xj rfl rfl) (Zf (Zb (H3 _ _ ?_)))))
 refine Zp rfl (fun e => ?_) (fun e => ?_)
 ·have A := e
  have e := Yf e
  refine Zg fun K5 H5 => ?_
  refine Zc (Za rfl rfl (Zd rfl) (Zf (Zb (H5 _ _ ?_))))
  refine Zr (Zl ?_)
  exact Zi [_] ⟨rfl, trivial⟩ ⟨congrArg bst (Zvc e), E⟩
 have A := e
 have e := Ye e
 refine Zq ?_
 refine Zb (H2 _ _ ?_)
 refine Zg fun K6 H6 => ?_
 refine Zc (Za rfl rfl (Zd rfl) (Zf (Zb (H6 _ _ ?_))))
 refine Zg fun K7 H7 => ?_
 refine Zc (Za rfl rfl (Ze rfl) (Za rfl rfl (Xi rfl rfl) (Za rfl rfl (Zd rfl) (Zf (Zb (H7 _ _ ?_))))))
 refine Zg fun K8 H8 => ?_
 refine Zx ?_
 refine Xf (σ := Int × List UInt8) (fun ⟨m, out⟩ => [(0, (.int .i64 m)), (2, (bst ([] : List UInt8))), (3, (bst out)), (4, (.bool (decide (n < 0))))]) (fun ⟨m, out⟩ wx => Ch [] w wx ∧ w.heap.size ≤ wx.heap.size ∧ (dgF 20 m.natAbs ++ out = dgF 20 n.natAbs) ∧ (-9223372036854775808 ≤ m ∧ m ≤ 9223372036854775807)) (fun ⟨m, out⟩ => m.natAbs) (n, ([] : List UInt8)) (sC4 rfl rfl rfl rfl (Sub.nil _)) ⟨E, (Nat.le_refl _), (by simp), z⟩ ?_
 rintro ⟨m, out⟩ R9 ⟨E, B, hm, hr⟩
 have k := E
 have r := k.size
 have C := congrArg List.length hm
 have P := Zlz 20 n.natAbs
 rw [List.length_append] at C
 refine Zg fun Q s => ?_
 refine Zg fun R D => ?_
 refine Zc (Za rfl rfl (Ze rfl) (Za rfl rfl (Qv rfl rfl) (Zf (Zb (D _ _ ?_)))))
 refine Zp rfl (fun a => ?_) (fun a => ?_)
 ·have l := a
  have a := Ye (Qb a)
  have S := tm10 m
  refine Zq ?_
  refine Zb (s _ _ ?_)
  refine Zx ?_
  refine Zg fun T F => ?_
  refine Zc (Za rfl rfl (Ze rfl) (Za rfl rfl (Zsx (by omega) rfl rfl) (Za rfl rfl (Zd rfl) (Zf (Zb (F _ _ ?_))))))
  refine Zg fun U t => ?_
  refine Zg fun V G => ?_
  refine Zc (Za rfl rfl (Ze rfl) (Za rfl rfl (Xi rfl rfl) (Zf (Zb (G _ _ ?_)))))
  refine Zp rfl (fun c => ?_) (fun c => ?_)
  ·have o := c
   have c := Yf c
   refine Zc (Za rfl rfl (Ze rfl) (Za rfl rfl (Zwc (by omega) rfl) (Za rfl rfl (Zd rfl) (Zf (Zb (t _ _ ?_))))))
   refine Zg fun X H => ?_
   refine Zc (Za rfl rfl (Ze rfl) (Za rfl rfl (Yk (by omega) rfl rfl) (Za rfl rfl (Zdp (by rw [un3]; rfl) un5 rfl) (Zk rfl rfl ?_))))
   refine Zo (cs := ucs) (parts := [(0, .tmp 20)]) (0 : Int) [(w8 (48 + (-(m.tmod 10))))] el22 sz5 zr5 Zha (by decide) rfl rfl rfl (by decide) (by decide) rfl fun p Y d g u => ?_
   have I := u.size
   have E := E.trans u
   obtain ⟨h, i, rfl, j, f⟩ := d.opn
   refine Za rfl rfl (Zin d.ls el22 un5 un9 rfl) (Za rfl rfl (Ze rfl) (Za rfl rfl (Zgz (by (simp only [u8s, List.map_cons, List.map_nil, List.length_cons, List.length_nil]; omega)) rfl rfl) (Za rfl rfl (Zd rfl) (Zf (Zb (H _ _ (Zc (Za rfl rfl (Ze rfl) ?_))))))))
   refine Za rfl rfl (Zut (by omega) (td10 (by omega)) rfl rfl) (Za rfl rfl (Zd rfl) (Zf (Zv ?_)))
   exact Zb (Exists.intro ((m.tdiv 10), ((u8s ([(w8 (48 + (-(m.tmod 10))))])) ++ out)) ⟨⟨E, (by omega), (Zpb hm a hr (by first | exact .inl rfl | exact .inr rfl) (by omega)), (td10 hr)⟩, sC4 rfl rfl rfl rfl (Sub.nil _), (Zup a)⟩)
  have o := c
  have c := Ye c
  refine Zq ?_
  refine Zb (t _ _ ?_)
  refine Zg fun Z J => ?_
  refine Zc (Za rfl rfl (Ze rfl) (Za rfl rfl (Yk (by omega) rfl rfl) (Za rfl rfl (Zdp (by rw [un3]; rfl) un5 rfl) (Zk rfl rfl ?_))))
  refine Zo (cs := ucs) (parts := [(0, .tmp 20)]) (0 : Int) [(w8 (48 + (m.tmod 10)))] el22 sz5 zr5 Zha (by decide) rfl rfl rfl (by decide) (by decide) rfl fun p aa d g x => ?_
  have K := x.size
  have E := E.trans x
  obtain ⟨h, i, rfl, j, f⟩ := d.opn
  refine Za rfl rfl (Zin d.ls el22 un5 un9 rfl) (Za rfl rfl (Ze rfl) (Za rfl rfl (Zgz (by (simp only [u8s, List.map_cons, List.map_nil, List.length_cons, List.length_nil]; omega)) rfl rfl) (Za rfl rfl (Zd rfl) (Zf (Zb (J _ _ (Zc (Za rfl rfl (Ze rfl) ?_))))))))
  refine Za rfl rfl (Zut (by omega) (td10 (by omega)) rfl rfl) (Za rfl rfl (Zd rfl) (Zf (Zv ?_)))
  exact Zb (Exists.intro ((m.tdiv 10), ((u8s ([(w8 (48 + (m.tmod 10)))])) ++ out)) ⟨⟨E, (by omega), (Zpb hm a hr (by first | exact .inl rfl | exact .inr rfl) (by omega)), (td10 hr)⟩, sC4 rfl rfl rfl rfl (Sub.nil _), (Zup a)⟩)
 have l := a
 have a := Yf (Qc a)
 refine Xc (Zs (Zs (Yu ?_)))
 refine Zb (H8 _ _ ?_)
 refine Zg fun ab y => ?_
 refine Zg fun ac L => ?_
 refine Zc (Za rfl rfl (Ze rfl) (Zf (Zb (L _ _ ?_))))
 refine Zp rfl (fun b => ?_) (fun b => ?_)
 ·have q := b
  have b := Yf b
  refine Zg fun ad M => ?_
  refine Zc (Za rfl rfl (Ze rfl) (Za rfl rfl (Zgz (by (simp only [u8s, List.map_cons, List.map_nil, List.length_cons, List.length_nil]; omega)) rfl rfl) (Za rfl rfl (Zd rfl) (Zf (Zb (M _ _ ?_))))))
  refine Zr (Zl ?_)
  clear s y
  exact Zi [_] ⟨rfl, trivial⟩ ⟨congrArg bst (Zsa b (Zsv hm a)), E⟩
 have q := b
 have b := Ye b
 refine Zq ?_
 refine Zb (y _ _ ?_)
 refine Zg fun ae O => ?_
 refine Zc (Za rfl rfl (Ze rfl) (Za rfl rfl (Zd rfl) (Zf (Zb (O _ _ ?_)))))
 refine Zr ?_
 exact Zi [_] ⟨rfl, trivial⟩ ⟨congrArg bst (Zqr b e (Zsv hm a)), E⟩

/-- spec.l8Token -/
theorem Zhz {w : World} (t : Token) (hl : 0 ≤ t.low ∧ t.low ≤ 255) (hh : 0 ≤ t.high ∧ t.high ≤ 255) :
 Ctr Try.prog 144 #[(.agg #[(.int .i64 t.kind), (.int .i64 t.letter), (.int .i64 t.low), (.int .i64 t.high)])] w (fun v w' => v = bst (tokS t) ∧ Ch [] w w') := by
 have E := Ch.refl [] w
 have Z := Zne t.low; have aa := Zne t.high
 refine Yc (N := 30) (vs0 := [(.agg #[(.int .i64 t.kind), (.int .i64 t.letter), (.int .i64 t.low), (.int .i64 t.high)])]) Try.func144 rfl rfl rfl ?_
 refine Zg fun K1 H1 => ?_
 refine Zc (Zk rfl rfl ?_)
 refine Xz rfl fun A W2 h C2 ab => ?_
 have ac := C2.size
 have E := E.trans C2
 have ad := h.lt
 replace h : Blk W2 A 84 [(.int .i64 t.kind), (.int .i64 t.letter), (.int .i64 t.low), (.int .i64 t.high)] := h
 refine Za rfl rfl (Zd rfl) (Zf (Zb (H1 _ _ ?_)))
 refine Zg fun K3 H3 => ?_
 refine Zg fun K4 H4 => ?_
 refine Zc (Za rfl rfl (Zh fa84_0 rfl) (Za rfl rfl (Zm h.at_ agg3 rfl rfl) (Zf (Zb (H4 _ _ ?_)))))
 refine Zx ?_
 refine Zg fun K5 H5 => ?_
 refine Zc (Za rfl rfl (Xj rfl rfl) (Za rfl rfl (Zd rfl) (Zf (Zb (H5 _ _ ?_)))))
 refine Zp rfl (fun d => ?_) (fun d => ?_)
 ·have B := d
  have d := Yf d
  refine Zg fun K7 H7 => ?_
  refine Zc (Za rfl rfl (Zd rfl) (Zf (Zb (H7 _ _ ?_))))
  refine Zr (Ya (Zl ?_))
  exact Zi [_] ⟨rfl, trivial⟩ ⟨congrArg bst (by unfold tokS; rw [if_pos d]), E⟩
 have B := d
 have d := Ye d
 refine Zg fun K8 H8 => ?_
 refine Zc (Za rfl rfl (Xj rfl rfl) (Za rfl rfl (Zd rfl) (Zf (Zb (H8 _ _ ?_)))))
 refine Zp rfl (fun e => ?_) (fun e => ?_)
 ·have C := e
  have e := Yf e
  refine Zg fun ae D => ?_
  refine Zc (Za rfl rfl (Zd rfl) (Zf (Zb (D _ _ ?_))))
  refine Zr (Ya (Zl ?_))
  exact Zi [_] ⟨rfl, trivial⟩ ⟨congrArg bst (by unfold tokS; rw [if_neg d, if_pos e]), E⟩
 have C := e
 have e := Ye e
 refine Zg fun af F => ?_
 refine Zc (Za rfl rfl (Xj rfl rfl) (Za rfl rfl (Zd rfl) (Zf (Zb (F _ _ ?_)))))
 refine Zp rfl (fun f => ?_) (fun f => ?_)
 ·have k := f
  have f := Yf f
  refine Zg fun ag G => ?_
  refine Zc (Za rfl rfl (Zh fa84_1 rfl) (Za rfl rfl (Zm h.at_ agg3 rfl rfl) (Zk rfl rfl ?_)))
  refine Step.call (Zn (xs := [.tmp 12]) fk146 rfl) (Zbt _ ) fun H ah l => ?_
  obtain ⟨rfl, x⟩ := l
  have I := x.size
  have E := E.trans x
  refine Za rfl rfl (Zd rfl) (Zf (Zb (G _ _ ?_)))
  refine Zr (Ya (Zl ?_))
  exact Zi [_] ⟨rfl, trivial⟩ ⟨congrArg bst (by unfold tokS; rw [if_neg d, if_neg e, if_pos f]), E⟩
 have k := f
 have f := Ye f
 refine Zg fun ai J => ?_
 refine Zc (Za rfl rfl (Xj rfl rfl) (Za rfl rfl (Zd rfl) (Zf (Zb (J _ _ ?_)))))
 refine Zp rfl (fun a => ?_) (fun a => ?_)
 ·have m := a
  have a := Yf a
  refine Zg fun aj K => ?_
  refine Zc (Za rfl rfl (Zd rfl) (Zf (Zb (K _ _ ?_))))
  refine Zr (Ya (Zl ?_))
  exact Zi [_] ⟨rfl, trivial⟩ ⟨congrArg bst (by unfold tokS; rw [if_neg d, if_neg e, if_neg f, if_pos a]), E⟩
 have m := a
 have a := Ye a
 refine Zg fun ak L => ?_
 refine Zc (Za rfl rfl (Xj rfl rfl) (Za rfl rfl (Zd rfl) (Zf (Zb (L _ _ ?_)))))
 refine Zp rfl (fun b => ?_) (fun b => ?_)
 ·have n := b
  have b := Yf b
  refine Zg fun al M => ?_
  refine Zc (Za rfl rfl (Zd rfl) (Zf (Zb (M _ _ ?_))))
  refine Zr (Ya (Zl ?_))
  exact Zi [_] ⟨rfl, trivial⟩ ⟨congrArg bst (by unfold tokS; rw [if_neg d, if_neg e, if_neg f, if_neg a, if_pos b]), E⟩
 have n := b
 have b := Ye b
 refine Zg fun am O => ?_
 refine Zc (Za rfl rfl (Xj rfl rfl) (Za rfl rfl (Zd rfl) (Zf (Zb (O _ _ ?_)))))
 refine Zp rfl (fun c => ?_) (fun c => ?_)
 ·have o := c
  have c := Yf c
  refine Zg fun an P => ?_
  refine Zc (Za rfl rfl (Zd rfl) (Zf (Zb (P _ _ ?_))))
  refine Zr (Ya (Zl ?_))
  exact Zi [_] ⟨rfl, trivial⟩ ⟨congrArg bst (by unfold tokS; rw [if_neg d, if_neg e, if_neg f, if_neg a, if_neg b, if_pos c]), E⟩
 have o := c
 have c := Ye c
 refine Zq ?_
 refine Zv (Zb (H3 _ _ ?_))
 refine Zg fun ao Q => ?_
 refine Xg [] 11 mixed rfl fun y p => ?_
 have R := p.size
 have E := E.trans p
 refine dV 0 rfl rfl rfl (fun _ => Zh fa84_2 rfl) ?_
 have z := (h.ch0 p)
 refine dT 1 rfl rfl rfl (Yw z.at_ (fun i hi => absurd hi List.not_mem_nil) agg3 rfl rfl ?_)
 refine dV 5 rfl rfl rfl (fun _ => Zh fa84_3 rfl) ?_
 refine dT 6 rfl rfl rfl (Yw z.at_ (fun i hi => absurd hi List.not_mem_nil) agg3 rfl rfl ?_)
 refine dO 2 (Yl rfl rfl rfl ?_)
 refine Step.call (Zn (xs := [.tmp 21]) fk147 rfl) (Zcz _ (by omega)) fun S T q => ?_
 obtain ⟨rfl, r⟩ := q
 have U := r.size
 have E := E.trans r
 have g : Ch [] y T := ((Ch.refl _ _).trans r)
 refine ⟨g, ?_⟩
 refine dV 3 rfl rfl rfl (fun _ => Zgz (by (simp only [List.length_append, List.length_cons, List.length_nil]; omega)) rfl rfl) (dV 4 rfl rfl rfl (fun _ => Zgz (by (simp only [List.length_append, List.length_cons, List.length_nil]; omega)) rfl rfl) (dO 7 (Yl rfl rfl rfl ?_)))
 refine Step.call (Zn (xs := [.tmp 26]) fk147 rfl) (Zcz _ (by omega)) fun V X s => ?_
 obtain ⟨rfl, u⟩ := s
 have Y := u.size
 have E := E.trans u
 have j : Ch [] y X := (g.trans u)
 refine ⟨j, ?_⟩
 refine dV 8 rfl rfl rfl (fun _ => Zgz (by (simp only [List.length_append, List.length_cons, List.length_nil]; omega)) rfl rfl) (dV 9 rfl rfl rfl (fun _ => Zgz (by (simp only [List.length_append, List.length_cons, List.length_nil]; omega)) rfl rfl) (dV 10 rfl rfl rfl (fun _ => Zd rfl) ?_))
 refine Yq (by kernel_rfl) ?_
 refine Zb (Q _ _ ?_)
 refine Zr ?_
 exact Zi [_] ⟨rfl, trivial⟩ ⟨congrArg bst (by unfold tokS; rw [if_neg d, if_neg e, if_neg f, if_neg a, if_neg b, if_neg c]), E⟩

/-- spec.l8Read -/
theorem Zew {w : World} (s : List UInt8) :
 Ctr Try.prog 143 #[(bst s)] w (fun v w' => v = .agg (Token.cs (rdT s)).toArray ∧ Ch [] w w') := by
 have E := Ch.refl [] w
 refine Yc (N := 57) (vs0 := [(bst s)]) Try.func143 rfl rfl rfl ?_
 refine Zg fun K1 H1 => ?_
 refine Zc (Zk rfl rfl ?_)
 refine Yp zr84 fun o W2 D C2 aX => ?_
 have aY := C2.size
 have E := E.trans C2
 have aZ := D.lt
 replace D : Blk W2 o 84 [(.int .i64 0), (.int .i64 0), (.int .i64 0), (.int .i64 0)] := D
 refine Zf (Zb (H1 _ _ ?_))
 refine Zg fun K3 H3 => ?_
 refine Zg fun K4 H4 => ?_
 refine Zc (Za rfl rfl (Zd rfl) (Zf (Zb (H4 _ _ ?_))))
 refine Zx ?_
 refine Xf (σ := Nat) (fun (k : Nat) => [(0, (bst s)), (2, (.pointer (some ⟨o, 0, none⟩))), (3, (.int .i64 ((k : Nat) : Int)))]) (fun (k : Nat) wx => Ch [] w wx ∧ W2.heap.size ≤ wx.heap.size ∧ (1 ≤ k ∧ k ≤ 7) ∧ (rdK s k = none) ∧ Blk wx o 84 [(.int .i64 0), (.int .i64 0), (.int .i64 0), (.int .i64 0)]) (fun (k : Nat) => 7 - k) 1 (sC2 rfl rfl (sC1 rfl (Sub.nil _))) ⟨E, (Nat.le_refl _), (by omega), Zrw, D⟩ ?_
 rintro k R5 ⟨E, ag, a0, hn, j⟩
 have H := E
 have V := H.size
 have I := j.lt
 refine Zg fun K6 H6 => ?_
 refine Zg fun K7 H7 => ?_
 refine Zc (Za rfl rfl (Ze rfl) (Za rfl rfl (Zit rfl rfl) (Zf (Zb (H7 _ _ ?_)))))
 refine Zp rfl (fun l => ?_) (fun l => ?_)
 ·have ah := l
  have l := Yf l
  refine Zq ?_
  refine Zb (H6 _ _ ?_)
  refine Zg fun K9 H9 => ?_
  refine Zx ?_
  refine Zg fun a1 X => ?_
  refine Zc (Za rfl rfl (Ze rfl) (Za rfl rfl (Qv rfl rfl) (Za rfl rfl (Ze rfl) ?_)))
  refine Yn (d := 12) rfl (fun m => ?_) (fun m => ?_)
  ·have J := m
   have m := Ye (Qb m)
   refine Za rfl rfl (Ze rfl) (Za rfl rfl (Yr (parts := [(0, .tmp 13)]) (cells := [(.int .i64 ((k : Nat) : Int)), (.int .i64 0), (.int .i64 0), (.int .i64 0)]) zr84 pl84 rfl rfl) (Zk rfl rfl ?_))
   refine Step.call (Zn (xs := [.tmp 14]) fk144 rfl) (Zhz ⟨((k : Nat) : Int), 0, 0, 0⟩ (by first | omega | (dsimp only; omega) | simp) (by first | omega | (dsimp only; omega) | simp)) fun ai a2 K => ?_
   obtain ⟨rfl, F⟩ := K
   have aj := F.size
   have E := E.trans F
   refine Za rfl rfl (Ze rfl) (Za rfl rfl (Zsj rfl rfl) (Za rfl rfl (Yi rfl rfl) (Zf (Zb (X _ _ ?_)))))
   refine Zp rfl (fun g => ?_) (fun g => ?_)
   ·have L := g
    have g := Yf g
    refine Zg fun a3 ak => ?_
    refine Zc (Za rfl rfl (Ze rfl) (Za rfl rfl (Yr (parts := [(0, .tmp 19)]) (cells := [(.int .i64 ((k : Nat) : Int)), (.int .i64 0), (.int .i64 0), (.int .i64 0)]) zr84 pl84 rfl rfl) (Zk rfl rfl ?_)))
    have al := (j.ch0 F)
    refine Zt (off := 0) 4 al sz84 rfl (us := [(.int .i64 ((k : Nat) : Int)), (.int .i64 0), (.int .i64 0), (.int .i64 0)]) rfl rfl rfl rfl fun am p Y => ?_
    have an := Y.size
    have E := E.step Y (lS (by omega))
    replace p : Blk am o 84 [(.int .i64 ((k : Nat) : Int)), (.int .i64 0), (.int .i64 0), (.int .i64 0)] := p
    refine Zf (Zb (ak _ _ ?_))
    refine Zr (Ya (Zl (Zl (Ya (Zl ?_)))))
    clear H3 H9
    exact Zi [_] (Zu p rfl agg84 sz84 trivial) ⟨(by have key : ∀ z : Token, z = rdT s → Value.agg (Token.cs z).toArray = Value.agg (Token.cs (rdT s)).toArray := (fun z h => by rw [h]); first | exact key _ (Zlo hn (by omega) (by omega) (by omega) g) | exact key _ (Zln (Qr hn l (by omega)) a) | exact key _ (Zlj (Qr hn l (by omega)) a ⟨by omega, b, e, f⟩) | exact key _ (Zlk (Qr hn l (by omega)) a (fun c => by first | exact f c.2.2.2 | exact e c.2.2.1 | exact b c.2.1 | omega))), E⟩
   have L := g
   have g := Ye g
   refine Zq ?_
   refine Zv (Zb (H9 _ _ (Zc (Za rfl rfl (Ze rfl) (Za rfl rfl (Yk (by omega) rfl rfl) (Za rfl rfl (Zd rfl) (Zf ?_)))))))
   have ao := (j.ch0 F)
   exact Zb (Exists.intro (k + 1) ⟨⟨E, (by omega), (by omega), (Zuk hn (by first | exact .inr g | (left; omega))), ao⟩, sC2 rfl rfl (sC1 rfl (Sub.nil _)), (by first | omega | (dsimp only; omega))⟩)
  have J := m
  have m := Yf (Qc m)
  refine Zj rfl rfl (Zj rfl rfl (Zj rfl rfl (Zj rfl rfl (Zj rfl rfl (Za rfl rfl (Ym rfl rfl) (Zf (Zb (X _ _ ?_))))))))
  refine Qw rfl ?_
  refine Zq ?_
  refine Zv (Zb (H9 _ _ (Zc (Za rfl rfl (Ze rfl) (Za rfl rfl (Yk (by omega) rfl rfl) (Za rfl rfl (Zd rfl) (Zf ?_)))))))
  exact Zb (Exists.intro (k + 1) ⟨⟨E, (by omega), (by omega), (Zuk hn (by first | exact .inr g | (left; omega))), j⟩, sC2 rfl rfl (sC1 rfl (Sub.nil _)), (by first | omega | (dsimp only; omega))⟩)
 have ah := l
 have l := Ye l
 refine Xc (Zs (Zs (Yu ?_)))
 refine Zb (H3 _ _ ?_)
 refine Zg fun a4 ap => ?_
 refine Zc (Za rfl rfl (Ze rfl) (Zk rfl rfl ?_))
 refine Step.call (Zn (xs := [.tmp 22]) fk145 rfl) (Zey s ) fun aq a5 M => ?_
 obtain ⟨rfl, A⟩ := M
 have au := A.size
 have E := E.trans A
 refine Za rfl rfl (Ze rfl) (Za rfl rfl (Xm rfl rfl) (Za rfl rfl (Xm rfl rfl) (Za rfl rfl (Zd rfl) (Za rfl rfl (Zd rfl) (Zf (Zb (ap _ _ ?_)))))))
 refine Zg fun a6 Z => ?_
 refine Zg fun a7 av => ?_
 refine Zc (Za rfl rfl (Ze rfl) (Zf (Zb (av _ _ ?_))))
 refine Zp rfl (fun a => ?_) (fun a => ?_)
 ·have O := a
  refine Zg fun a8 aw => ?_
  refine Zc (Za rfl rfl (Ze rfl) (Za rfl rfl (Yr (parts := [(0, .const (Go.Value.int Go.IntKind.i64 3)), (1, .tmp 27)]) (cells := [(.int .i64 3), (.int .i64 ((plR s).1)), (.int .i64 0), (.int .i64 0)]) zr84 pl84 rfl rfl) (Zk rfl rfl ?_)))
  have ax := (j.ch0 A)
  refine Zt (off := 0) 4 ax sz84 rfl (us := [(.int .i64 3), (.int .i64 ((plR s).1)), (.int .i64 0), (.int .i64 0)]) rfl rfl rfl rfl fun ay q aa => ?_
  have az := aa.size
  have E := E.step aa (lS (by omega))
  replace q : Blk ay o 84 [(.int .i64 3), (.int .i64 ((plR s).1)), (.int .i64 0), (.int .i64 0)] := q
  refine Zf (Zb (aw _ _ ?_))
  refine Zr (Zl ?_)
  clear H6 Z
  exact Zi [_] (Zu q rfl agg84 sz84 trivial) ⟨(by have key : ∀ z : Token, z = rdT s → Value.agg (Token.cs z).toArray = Value.agg (Token.cs (rdT s)).toArray := (fun z h => by rw [h]); first | exact key _ (Zlo hn (by omega) (by omega) (by omega) g) | exact key _ (Zln (Qr hn l (by omega)) a) | exact key _ (Zlj (Qr hn l (by omega)) a ⟨by omega, b, e, f⟩) | exact key _ (Zlk (Qr hn l (by omega)) a (fun c => by first | exact f c.2.2.2 | exact e c.2.2.1 | exact b c.2.1 | omega))), E⟩
 have O := a
 refine Zq ?_
 refine Zb (Z _ _ ?_)
 refine Zg fun a9 B => ?_
 refine Zg fun ba G => ?_
 refine Zc (Za rfl rfl (Ze rfl) (Za rfl rfl (Zsf un9 rfl) (Za rfl rfl (Xj rfl rfl) (Za rfl rfl (Ze rfl) ?_))))
 refine Yn (d := 32) rfl (fun n => ?_) (fun n => ?_)
 ·have P := n
  have n := Yf n
  refine Za rfl rfl (Ze rfl) (Za rfl rfl (Zdy (by omega) un9 rfl rfl) (Za rfl rfl (Xj rfl rfl) (Za rfl rfl (Yi rfl rfl) (Za rfl rfl (Ze rfl) ?_))))
  refine Yn (d := 37) rfl (fun b => ?_) (fun b => ?_)
  ·have Q := b
   have b := Yf b
   refine Za rfl rfl (Ze rfl) (Za rfl rfl (Zdy (by omega) un9 rfl rfl) (Za rfl rfl (Xj rfl rfl) (Za rfl rfl (Yi rfl rfl) (Za rfl rfl (Ze rfl) ?_))))
   refine Yn (d := 42) rfl (fun e => ?_) (fun e => ?_)
   ·have R := e
    have e := Yf e
    refine Za rfl rfl (Ze rfl) (Za rfl rfl (Zdy (by omega) un9 rfl rfl) (Za rfl rfl (Xj rfl rfl) (Za rfl rfl (Yi rfl rfl) (Zf (Zb (G _ _ ?_))))))
    refine Zp rfl (fun f => ?_) (fun f => ?_)
    ·have S := f
     have f := Yf f
     refine Zg fun bb aA => ?_
     refine Xg [o] 10 mixed rfl fun aB T => ?_
     have aC := T.size
     have E := E.trans T
     refine dV 0 rfl rfl rfl (fun _ => Ze rfl) (dV 1 rfl rfl rfl (fun _ => Zdy (by omega) un9 rfl rfl) (dV 2 rfl rfl rfl (fun _ => Zhk (Zst _ _) (by rw [un5]; rfl) un3 rfl) (dV 3 rfl rfl rfl (fun _ => Zay (by have aD := Zlu s (Int.toNat 1); omega) rfl rfl) (dV 4 rfl rfl rfl (fun _ => Ze rfl) (dV 5 rfl rfl rfl (fun _ => Zdy (by omega) un9 rfl rfl) (dV 6 rfl rfl rfl (fun _ => Zhk (Zst _ _) (by rw [un5]; rfl) un3 rfl) (dV 7 rfl rfl rfl (fun _ => Zay (by have aD := Zlu s (Int.toNat 3); omega) rfl rfl) ?_)))))))
     refine dV 8 rfl rfl rfl (fun _ => Yr (parts := [(0, .const (Go.Value.int Go.IntKind.i64 7)), (2, .tmp 50), (3, .tmp 54)]) (cells := [(.int .i64 7), (.int .i64 0), (.int .i64 ((bat s 1) - 48)), (.int .i64 ((bat s 3) - 48))]) zr84 pl84 rfl rfl) (dO 9 (Yl rfl rfl rfl ?_))
     have aE := ((j.ch0 A).ch0 T)
     refine Zt (off := 0) 4 aE sz84 rfl (us := [(.int .i64 7), (.int .i64 0), (.int .i64 ((bat s 1) - 48)), (.int .i64 ((bat s 3) - 48))]) rfl rfl rfl rfl fun ab r U => ?_
     have aF := U.size
     have E := E.step U (lS (by omega))
     replace r : Blk ab o 84 [(.int .i64 7), (.int .i64 0), (.int .i64 ((bat s 1) - 48)), (.int .i64 ((bat s 3) - 48))] := r
     have C : Ch [o] aB ab := ((Ch.refl _ _).step U (fun i hm => by have aG := List.mem_singleton.1 hm; exact .inr (by rw [aG]; exact (List.mem_singleton.2 rfl))))
     refine ⟨C, ?_⟩
     refine Yq (by kernel_rfl) ?_
     refine Zb (aA _ _ ?_)
     refine Zr (Zl ?_)
     clear H6 B
     exact Zi [_] (Zu r rfl agg84 sz84 trivial) ⟨(by have key : ∀ z : Token, z = rdT s → Value.agg (Token.cs z).toArray = Value.agg (Token.cs (rdT s)).toArray := (fun z h => by rw [h]); first | exact key _ (Zlo hn (by omega) (by omega) (by omega) g) | exact key _ (Zln (Qr hn l (by omega)) a) | exact key _ (Zlj (Qr hn l (by omega)) a ⟨by omega, b, e, f⟩) | exact key _ (Zlk (Qr hn l (by omega)) a (fun c => by first | exact f c.2.2.2 | exact e c.2.2.1 | exact b c.2.1 | omega))), E⟩
    have S := f
    have f := Ye f
    refine Zq ?_
    refine Zb (B _ _ ?_)
    refine Zg fun bc aH => ?_
    refine Zc (Za rfl rfl (Yr (parts := []) (cells := [(.int .i64 0), (.int .i64 0), (.int .i64 0), (.int .i64 0)]) zr84 pl84 rfl rfl) (Zk rfl rfl ?_))
    have aI := (j.ch0 A)
    refine Zt (off := 0) 4 aI sz84 rfl (us := [(.int .i64 0), (.int .i64 0), (.int .i64 0), (.int .i64 0)]) rfl rfl rfl rfl fun aJ t ac => ?_
    have aK := ac.size
    have E := E.step ac (lS (by omega))
    replace t : Blk aJ o 84 [(.int .i64 0), (.int .i64 0), (.int .i64 0), (.int .i64 0)] := t
    refine Zf (Zb (aH _ _ ?_))
    refine Zr ?_
    exact Zi [_] (Zu t rfl agg84 sz84 trivial) ⟨(by have key : ∀ z : Token, z = rdT s → Value.agg (Token.cs z).toArray = Value.agg (Token.cs (rdT s)).toArray := (fun z h => by rw [h]); first | exact key _ (Zlo hn (by omega) (by omega) (by omega) g) | exact key _ (Zln (Qr hn l (by omega)) a) | exact key _ (Zlj (Qr hn l (by omega)) a ⟨by omega, b, e, f⟩) | exact key _ (Zlk (Qr hn l (by omega)) a (fun c => by first | exact f c.2.2.2 | exact e c.2.2.1 | exact b c.2.1 | omega))), E⟩
   have R := e
   have e := Ye e
   refine Zj rfl rfl (Zj rfl rfl (Zj rfl rfl (Za rfl rfl (Ym rfl rfl) (Zf (Zb (G _ _ ?_))))))
   refine Qw rfl ?_
   refine Zq ?_
   refine Zb (B _ _ ?_)
   refine Zg fun bd aL => ?_
   refine Zc (Za rfl rfl (Yr (parts := []) (cells := [(.int .i64 0), (.int .i64 0), (.int .i64 0), (.int .i64 0)]) zr84 pl84 rfl rfl) (Zk rfl rfl ?_))
   have aM := (j.ch0 A)
   refine Zt (off := 0) 4 aM sz84 rfl (us := [(.int .i64 0), (.int .i64 0), (.int .i64 0), (.int .i64 0)]) rfl rfl rfl rfl fun aN u ad => ?_
   have aO := ad.size
   have E := E.step ad (lS (by omega))
   replace u : Blk aN o 84 [(.int .i64 0), (.int .i64 0), (.int .i64 0), (.int .i64 0)] := u
   refine Zf (Zb (aL _ _ ?_))
   refine Zr ?_
   exact Zi [_] (Zu u rfl agg84 sz84 trivial) ⟨(by have key : ∀ z : Token, z = rdT s → Value.agg (Token.cs z).toArray = Value.agg (Token.cs (rdT s)).toArray := (fun z h => by rw [h]); first | exact key _ (Zlo hn (by omega) (by omega) (by omega) g) | exact key _ (Zln (Qr hn l (by omega)) a) | exact key _ (Zlj (Qr hn l (by omega)) a ⟨by omega, b, e, f⟩) | exact key _ (Zlk (Qr hn l (by omega)) a (fun c => by first | exact f c.2.2.2 | exact e c.2.2.1 | exact b c.2.1 | omega))), E⟩
  have Q := b
  have b := Ye b
  refine Zj rfl rfl (Zj rfl rfl (Zj rfl rfl (Za rfl rfl (Ym rfl rfl) (Za rfl rfl (Ze rfl) (Zj rfl rfl (Zj rfl rfl (Zj rfl rfl ?_)))))))
  refine Za rfl rfl (Ym rfl rfl) (Zf (Zb (G _ _ ?_)))
  refine Qw rfl ?_
  refine Zq ?_
  refine Zb (B _ _ ?_)
  refine Zg fun be aP => ?_
  refine Zc (Za rfl rfl (Yr (parts := []) (cells := [(.int .i64 0), (.int .i64 0), (.int .i64 0), (.int .i64 0)]) zr84 pl84 rfl rfl) (Zk rfl rfl ?_))
  have aQ := (j.ch0 A)
  refine Zt (off := 0) 4 aQ sz84 rfl (us := [(.int .i64 0), (.int .i64 0), (.int .i64 0), (.int .i64 0)]) rfl rfl rfl rfl fun aR x ae => ?_
  have aS := ae.size
  have E := E.step ae (lS (by omega))
  replace x : Blk aR o 84 [(.int .i64 0), (.int .i64 0), (.int .i64 0), (.int .i64 0)] := x
  refine Zf (Zb (aP _ _ ?_))
  refine Zr ?_
  exact Zi [_] (Zu x rfl agg84 sz84 trivial) ⟨(by have key : ∀ z : Token, z = rdT s → Value.agg (Token.cs z).toArray = Value.agg (Token.cs (rdT s)).toArray := (fun z h => by rw [h]); first | exact key _ (Zlo hn (by omega) (by omega) (by omega) g) | exact key _ (Zln (Qr hn l (by omega)) a) | exact key _ (Zlj (Qr hn l (by omega)) a ⟨by omega, b, e, f⟩) | exact key _ (Zlk (Qr hn l (by omega)) a (fun c => by first | exact f c.2.2.2 | exact e c.2.2.1 | exact b c.2.1 | omega))), E⟩
 have P := n
 have n := Ye n
 refine Zj rfl rfl (Zj rfl rfl (Zj rfl rfl (Za rfl rfl (Ym rfl rfl) (Za rfl rfl (Ze rfl) (Zj rfl rfl (Zj rfl rfl (Zj rfl rfl ?_)))))))
 refine Za rfl rfl (Ym rfl rfl) (Za rfl rfl (Ze rfl) (Zj rfl rfl (Zj rfl rfl (Zj rfl rfl (Za rfl rfl (Ym rfl rfl) (Zf (Zb (G _ _ ?_))))))))
 refine Qw rfl ?_
 refine Zq ?_
 refine Zb (B _ _ ?_)
 refine Zg fun bf aT => ?_
 refine Zc (Za rfl rfl (Yr (parts := []) (cells := [(.int .i64 0), (.int .i64 0), (.int .i64 0), (.int .i64 0)]) zr84 pl84 rfl rfl) (Zk rfl rfl ?_))
 have aU := (j.ch0 A)
 refine Zt (off := 0) 4 aU sz84 rfl (us := [(.int .i64 0), (.int .i64 0), (.int .i64 0), (.int .i64 0)]) rfl rfl rfl rfl fun aV y af => ?_
 have aW := af.size
 have E := E.step af (lS (by omega))
 replace y : Blk aV o 84 [(.int .i64 0), (.int .i64 0), (.int .i64 0), (.int .i64 0)] := y
 refine Zf (Zb (aT _ _ ?_))
 refine Zr ?_
 exact Zi [_] (Zu y rfl agg84 sz84 trivial) ⟨(by have key : ∀ z : Token, z = rdT s → Value.agg (Token.cs z).toArray = Value.agg (Token.cs (rdT s)).toArray := (fun z h => by rw [h]); first | exact key _ (Zlo hn (by omega) (by omega) (by omega) g) | exact key _ (Zln (Qr hn l (by omega)) a) | exact key _ (Zlj (Qr hn l (by omega)) a ⟨by omega, b, e, f⟩) | exact key _ (Zlk (Qr hn l (by omega)) a (fun c => by first | exact f c.2.2.2 | exact e c.2.2.1 | exact b c.2.1 | omega))), E⟩

/-- spec.ParseExpr -/
theorem Zgk {w : World} (s : List UInt8) (hb : s.length ≤ 4194304) :
 Ctr Try.prog 138 #[(bst s)] w (fun v w' => ∃ (ae : Value), v = .tuple #[.agg #[ae], .bool ((parS s).2)] ∧ Ol Token.cs 84 4 w' ae ((parS s).1) ∧ Lo w.heap.size ae ∧ Ch [] w w') := by
 have E := Ch.refl [] w
 have cy := Zgr s 32 []
 refine Yc (N := 35) (vs0 := [(bst s)]) Try.func138 rfl rfl rfl ?_
 refine Zg fun K1 H1 => ?_
 refine Zc (Zk rfl rfl ?_)
 refine Yp zr44 fun af W2 aQ C2 cz => ?_
 have cA := C2.size
 have E := E.trans C2
 have cB := aQ.lt
 replace aQ : Blk W2 af 44 [(.slice none 0 0)] := aQ
 refine Za rfl rfl (Zd rfl) (Zf (Zb (H1 _ _ ?_)))
 refine Zg fun K3 H3 => ?_
 refine Zc (Za rfl rfl (Yr (parts := []) (cells := [(.slice none 0 0)]) zr44 pl44 rfl rfl) (Zk rfl rfl ?_))
 refine Yp zr44 fun p W4 aR C4 cC => ?_
 have cD := C4.size
 have E := E.trans C4
 have cE := aR.lt
 replace aR : Blk W4 p 44 [(.slice none 0 0)] := aR
 refine Zk rfl rfl ?_
 refine Zt (off := 0) 1 aR sz44 rfl (us := [(.slice none 0 0)]) rfl rfl rfl rfl fun W5 ag C5 => ?_
 have cF := C5.size
 have E := E.step C5 (lS (by omega))
 replace ag : Blk W5 p 44 [(.slice none 0 0)] := ag
 refine Zf (Zb (H3 _ _ ?_))
 refine Zg fun K7 H7 => ?_
 refine Zc (Za rfl rfl (Ze rfl) (Zk rfl rfl ?_))
 refine Step.call (Zn (xs := [.tmp 8, .const (Go.Value.int Go.IntKind.u8 32)]) fk142 rfl) (Zli s _ (by omega)) fun cG W8 aS => ?_
 obtain ⟨aS, aU, C8⟩ := aS
 have cH := C8.size
 have E := E.trans C8
 obtain ⟨aC, aD, rfl, bs, aE⟩ := aS.opn
 have aV := Ol.lsR aS (lo := W5.heap.size) (hi := W8.heap.size) aU aE
 refine Za rfl rfl (Zd rfl) (Zf (Zb (H7 _ _ ?_)))
 refine Zg fun K9 H9 => ?_
 refine Zg fun cI bu => ?_
 refine Zc (Za rfl rfl (Zd rfl) (Zf (Zb (bu _ _ ?_))))
 refine Zx ?_
 have ah : Ol Token.cs 84 4 W8 (.slice none 0 0) (((Xv s 32 []).take 0).map rdT) := by
  have hx := (Ol.nil (cs := Token.cs) (e := 84) (k := 4) W8)
  simpa using hx
 have bv := (ag.ch0 C8)
 have bw := (((aQ.ch0 C4).ch C5 (nS (by omega))).ch0 C8)
 refine Xf (σ := Nat × Value) (fun ⟨i, tv⟩ => [(2, (.pointer (some ⟨af, 0, none⟩))), (3, (.bool false)), (4, (.pointer (some ⟨p, 0, none⟩))), (5, (.slice aC (Xv s 32 []).length aD)), (6, (.int .i64 ((i : Nat) : Int)))]) (fun ⟨i, tv⟩ wx => Ch [] w wx ∧ W8.heap.size ≤ wx.heap.size ∧ (i ≤ (Xv s 32 []).length ∧ i ≤ 25) ∧ Blk wx af 44 [(.slice none 0 0)] ∧ Ls scs 1 wx W5.heap.size W8.heap.size (.slice aC (Xv s 32 []).length aD) (Xv s 32 []) ∧ Ol Token.cs 84 4 wx tv (((Xv s 32 []).take i).map rdT) ∧ Lo W8.heap.size tv ∧ Blk wx p 44 [tv] ∧ (p ∉ bl tv)) (fun ⟨i, tv⟩ => (Xv s 32 []).length - i) (0, (.slice none 0 0)) (sC4 rfl rfl rfl rfl (sC1 rfl (Sub.nil _))) ⟨E, (Nat.le_refl _), (by omega), bw, aV, ah, (Lo.nil _), bv, (fun hm => by cases hm)⟩ ?_
 rintro ⟨i, tv⟩ cJ ⟨E, bz, hi, l, aF, m, a, o, c⟩
 have aW := E
 have bf := aW.size
 have aX := l.lt
 obtain ⟨Atv, Ctv, rfl, ltv, q⟩ := m.opn
 refine Zg fun cK aY => ?_
 refine Zg fun cL bg => ?_
 refine Zc (Za rfl rfl (Ze rfl) (Za rfl rfl (Ze rfl) (Za rfl rfl (Xa (by rw [el160]; rfl) rfl) (Za rfl rfl (Xi rfl rfl) (Za rfl rfl (Ze rfl) ?_)))))
 refine Yn (d := 14) rfl (fun y => ?_) (fun y => ?_)
 ·have aZ := y
  have y := Yf y
  refine Za rfl rfl (Ze rfl) (Za rfl rfl (Zit rfl rfl) (Za rfl rfl (Yi rfl rfl) (Zf (Zb (bg _ _ ?_)))))
  refine Zp rfl (fun z => ?_) (fun z => ?_)
  ·have a0 := z
   have z := Yf z
   refine Zq ?_
   refine Zb (aY _ _ ?_)
   refine Zg fun cM a1 => ?_
   refine Zx ?_
   refine Xg ((bl (.slice Atv (((Xv s 32 []).take i).map rdT).length Ctv)) ++ [p]) 11 mixed rfl fun C B => ?_
   have bA := B.size
   have E := E.trans B
   refine dV 0 rfl rfl rfl (fun _ => Zh fa44_0 rfl) (dV 2 rfl rfl rfl (fun _ => Ze rfl) (dV 3 rfl rfl rfl (fun _ => Ze rfl) ?_))
   have aT := (aF.ch0 B)
   refine dT 4 rfl rfl rfl (Qn aT Zej el160 sz9 rfl rfl rfl (by omega) fun bB j D a2 => ?_)
   refine dT 5 rfl rfl rfl (Ql a2 (fun i hm => by rcases List.mem_append.1 hm with hm | hm; (have R := a _ hm; have a3 := q _ hm; omega); (have R := List.mem_singleton.1 hm; omega)) agg9 rfl rfl ?_)
   refine Zas 1 6 (by kernel_rfl) ?_ ?_
   ·refine Yl rfl rfl rfl ?_
    have bh := (o.ch0 B)
    refine s_v (Zm bh.at_ agg42 rfl rfl) ?_
    refine ⟨(Ch.refl _ _), ?_⟩
    refine dO 6 (Yl rfl rfl rfl ?_)
    refine Step.call (Zn (xs := [.tmp 25]) fk143 rfl) (Zew j ) fun a4 bC ai => ?_
    obtain ⟨rfl, aj⟩ := ai
    have bD := aj.size
    have E := E.trans aj
    have S : Ch ((bl (.slice Atv (((Xv s 32 []).take i).map rdT).length Ctv)) ++ [p]) C bC := ((Ch.refl _ _).trans aj.of_nil)
    refine ⟨S, ?_⟩
    refine dO 7 (Yl rfl rfl rfl ?_)
    refine Zo (cs := Token.cs) (parts := [(0, .tmp 26)]) (⟨0, 0, 0, 0⟩ : Token) [(rdT j)] el42 sz84 zr84 Token.len (by decide) rfl rfl rfl (by decide) (by decide) rfl fun aG bF r T ak => ?_
    have bG := ak.size
    have E := E.trans ak
    obtain ⟨U, V, rfl, X, F⟩ := r.opn
    have Y : Ch ((bl (.slice Atv (((Xv s 32 []).take i).map rdT).length Ctv)) ++ [p]) C bF := (S.trans ak.of_nil)
    refine ⟨Y, ?_⟩
    refine dO 8 (Yl rfl rfl rfl ?_)
    have bH := (((m.ch0 B).ch0 aj).ch0 ak)
    refine Yd (cs := Token.cs) el42 sz84 by84 zr84 rfl (by decide) Token.one bH r.ls rfl rfl (by first | omega | (simp only [List.length_append, List.length_nil, List.length_cons, List.length_replicate, List.length_set, List.length_reverse, List.length_map] at *; omega) | (simp at *; omega)) (by first | omega | (simp only [List.length_append, List.length_nil, List.length_cons, List.length_replicate, List.length_set, List.length_reverse, List.length_map] at *; omega) | (simp at *; omega)) a (by omega) fun aH bI t u n au => ?_
    have bJ := au.size
    have E := E.step au (fun i hi => .inl (by have R := a _ hi; omega))
    obtain ⟨f, h, rfl, Z, G⟩ := t.opn
    have aa : Ch ((bl (.slice Atv (((Xv s 32 []).take i).map rdT).length Ctv)) ++ [p]) C bI := (Y.step au (fun i hm => by exact .inr (List.mem_append_left _ hm)))
    refine ⟨aa, ?_⟩
    refine dV 9 rfl rfl rfl (fun _ => Zh fa44_0 rfl) (dO 10 (Yl rfl rfl rfl ?_))
    have bK := (((bh.ch0 aj).ch0 ak).ch au (fun hm => by exact c (by first | exact hm | exact x ▸ hm)))
    refine Yv (off := 0) bK sz42 rfl rfl rfl rfl fun a5 H av => ?_
    have bL := av.size
    have E := E.step av (lS (by omega))
    replace H : Blk a5 p 44 [(.slice f ((((Xv s 32 []).take i).map rdT ++ [(rdT j)])).length h)] := H
    have aI : Ch ((bl (.slice Atv (((Xv s 32 []).take i).map rdT).length Ctv)) ++ [p]) C a5 := (aa.step av (fun i hm => by have x := List.mem_singleton.1 hm; exact .inr (by rw [x]; exact (List.mem_append_right _ (List.mem_singleton.2 rfl)))))
    refine ⟨aI, ?_⟩
    refine Yq (by kernel_rfl) ?_
    refine Zv (Zb (a1 _ _ (Zc (Za rfl rfl (Ze rfl) (Za rfl rfl (Yk (by omega) rfl rfl) (Za rfl rfl (Zd rfl) (Zf ?_)))))))
    have bM := (t.ch av (fun g hg hm => by have x := List.mem_singleton.1 hm; rcases n with ea | ea; (rw [ea] at hg; exact c (by first | exact hg | exact x ▸ hg)); (rw [ea] at hg; have aJ := List.mem_singleton.1 hg; omega)))
    have al : Ol Token.cs 84 4 a5 (.slice f ((((Xv s 32 []).take i).map rdT ++ [(rdT j)])).length h) (((Xv s 32 []).take (i + 1)).map rdT) := by
     have hx := bM
     exact hx.eq (Zcw D)
    have bN := (((((l.ch0 B).ch0 aj).ch0 ak).ch au (fun hm => by have R := a _ hm; have a3 := q _ hm; omega)).ch av (nS (by omega)))
    have bO := ((((aT.ch0 aj).ch0 ak).ch au (fun i hi => by have R := a _ hi; omega)).ch av (oS (by omega)))
    exact Zb (Exists.intro ((i + 1), (.slice f ((((Xv s 32 []).take i).map rdT ++ [(rdT j)])).length h)) ⟨⟨E, (by omega), (by omega), bN, bO, al, (Lo.down u (by omega)), H, (fun hm => by rcases n with ea | ea; (rw [ea] at hm; exact c (by first | exact hm | exact x ▸ hm)); (rw [ea] at hm; have aJ := List.mem_singleton.1 hm; omega))⟩, sC4 rfl rfl rfl rfl (sC1 rfl (Sub.nil _)), (by first | omega | (dsimp only; omega))⟩)
   refine Yl rfl rfl rfl ?_
   refine Step.call (Zn (xs := [.tmp 25]) fk143 rfl) (Zew j ) fun a4 bP ai => ?_
   obtain ⟨rfl, I⟩ := ai
   have bQ := I.size
   have E := E.trans I
   have A : Ch ((bl (.slice Atv (((Xv s 32 []).take i).map rdT).length Ctv)) ++ [p]) C bP := ((Ch.refl _ _).trans I.of_nil)
   refine ⟨A, ?_⟩
   refine Zas 1 7 (by kernel_rfl) ?_ ?_
   ·refine Yl rfl rfl rfl ?_
    have bi := ((o.ch0 B).ch0 I)
    refine s_v (Zm bi.at_ agg42 rfl rfl) ?_
    refine ⟨A, ?_⟩
    refine dO 7 (Yl rfl rfl rfl ?_)
    refine Zo (cs := Token.cs) (parts := [(0, .tmp 26)]) (⟨0, 0, 0, 0⟩ : Token) [(rdT j)] el42 sz84 zr84 Token.len (by decide) rfl rfl rfl (by decide) (by decide) rfl fun aG bR r T am => ?_
    have bS := am.size
    have E := E.trans am
    obtain ⟨U, V, rfl, X, F⟩ := r.opn
    have ab : Ch ((bl (.slice Atv (((Xv s 32 []).take i).map rdT).length Ctv)) ++ [p]) C bR := (A.trans am.of_nil)
    refine ⟨ab, ?_⟩
    refine dO 8 (Yl rfl rfl rfl ?_)
    have bT := (((m.ch0 B).ch0 I).ch0 am)
    refine Yd (cs := Token.cs) el42 sz84 by84 zr84 rfl (by decide) Token.one bT r.ls rfl rfl (by first | omega | (simp only [List.length_append, List.length_nil, List.length_cons, List.length_replicate, List.length_set, List.length_reverse, List.length_map] at *; omega) | (simp at *; omega)) (by first | omega | (simp only [List.length_append, List.length_nil, List.length_cons, List.length_replicate, List.length_set, List.length_reverse, List.length_map] at *; omega) | (simp at *; omega)) a (by omega) fun aH bU t u n aw => ?_
    have bV := aw.size
    have E := E.step aw (fun i hi => .inl (by have R := a _ hi; omega))
    obtain ⟨f, h, rfl, Z, G⟩ := t.opn
    have ac : Ch ((bl (.slice Atv (((Xv s 32 []).take i).map rdT).length Ctv)) ++ [p]) C bU := (ab.step aw (fun i hm => by exact .inr (List.mem_append_left _ hm)))
    refine ⟨ac, ?_⟩
    refine dV 9 rfl rfl rfl (fun _ => Zh fa44_0 rfl) (dO 10 (Yl rfl rfl rfl ?_))
    have bW := ((bi.ch0 am).ch aw (fun hm => by exact c (by first | exact hm | exact x ▸ hm)))
    refine Yv (off := 0) bW sz42 rfl rfl rfl rfl fun a6 J ax => ?_
    have bX := ax.size
    have E := E.step ax (lS (by omega))
    replace J : Blk a6 p 44 [(.slice f ((((Xv s 32 []).take i).map rdT ++ [(rdT j)])).length h)] := J
    have aK : Ch ((bl (.slice Atv (((Xv s 32 []).take i).map rdT).length Ctv)) ++ [p]) C a6 := (ac.step ax (fun i hm => by have x := List.mem_singleton.1 hm; exact .inr (by rw [x]; exact (List.mem_append_right _ (List.mem_singleton.2 rfl)))))
    refine ⟨aK, ?_⟩
    refine Yq (by kernel_rfl) ?_
    refine Zv (Zb (a1 _ _ (Zc (Za rfl rfl (Ze rfl) (Za rfl rfl (Yk (by omega) rfl rfl) (Za rfl rfl (Zd rfl) (Zf ?_)))))))
    have bY := (t.ch ax (fun g hg hm => by have x := List.mem_singleton.1 hm; rcases n with ea | ea; (rw [ea] at hg; exact c (by first | exact hg | exact x ▸ hg)); (rw [ea] at hg; have aJ := List.mem_singleton.1 hg; omega)))
    have an : Ol Token.cs 84 4 a6 (.slice f ((((Xv s 32 []).take i).map rdT ++ [(rdT j)])).length h) (((Xv s 32 []).take (i + 1)).map rdT) := by
     have hx := bY
     exact hx.eq (Zcw D)
    have bZ := (((((l.ch0 B).ch0 I).ch0 am).ch aw (fun hm => by have R := a _ hm; have a3 := q _ hm; omega)).ch ax (nS (by omega)))
    have b0 := ((((aT.ch0 I).ch0 am).ch aw (fun i hi => by have R := a _ hi; omega)).ch ax (oS (by omega)))
    exact Zb (Exists.intro ((i + 1), (.slice f ((((Xv s 32 []).take i).map rdT ++ [(rdT j)])).length h)) ⟨⟨E, (by omega), (by omega), bZ, b0, an, (Lo.down u (by omega)), J, (fun hm => by rcases n with ea | ea; (rw [ea] at hm; exact c (by first | exact hm | exact x ▸ hm)); (rw [ea] at hm; have aJ := List.mem_singleton.1 hm; omega))⟩, sC4 rfl rfl rfl rfl (sC1 rfl (Sub.nil _)), (by first | omega | (dsimp only; omega))⟩)
   refine Yl rfl rfl rfl ?_
   refine Zo (cs := Token.cs) (parts := [(0, .tmp 26)]) (⟨0, 0, 0, 0⟩ : Token) [(rdT j)] el42 sz84 zr84 Token.len (by decide) rfl rfl rfl (by decide) (by decide) rfl fun aG b1 r T ao => ?_
   have b2 := ao.size
   have E := E.trans ao
   obtain ⟨U, V, rfl, X, F⟩ := r.opn
   have K : Ch ((bl (.slice Atv (((Xv s 32 []).take i).map rdT).length Ctv)) ++ [p]) C b1 := (A.trans ao.of_nil)
   refine ⟨K, ?_⟩
   refine dO 1 (Yl rfl rfl rfl ?_)
   have bj := (((o.ch0 B).ch0 I).ch0 ao)
   refine s_v (Zm bj.at_ agg42 rfl rfl) ?_
   refine ⟨K, ?_⟩
   refine dO 8 (Yl rfl rfl rfl ?_)
   have b3 := (((m.ch0 B).ch0 I).ch0 ao)
   refine Yd (cs := Token.cs) el42 sz84 by84 zr84 rfl (by decide) Token.one b3 r.ls rfl rfl (by first | omega | (simp only [List.length_append, List.length_nil, List.length_cons, List.length_replicate, List.length_set, List.length_reverse, List.length_map] at *; omega) | (simp at *; omega)) (by first | omega | (simp only [List.length_append, List.length_nil, List.length_cons, List.length_replicate, List.length_set, List.length_reverse, List.length_map] at *; omega) | (simp at *; omega)) a (by omega) fun aH b4 t u n ay => ?_
   have b5 := ay.size
   have E := E.step ay (fun i hi => .inl (by have R := a _ hi; omega))
   obtain ⟨f, h, rfl, Z, G⟩ := t.opn
   have ad : Ch ((bl (.slice Atv (((Xv s 32 []).take i).map rdT).length Ctv)) ++ [p]) C b4 := (K.step ay (fun i hm => by exact .inr (List.mem_append_left _ hm)))
   refine ⟨ad, ?_⟩
   refine dV 9 rfl rfl rfl (fun _ => Zh fa44_0 rfl) (dO 10 (Yl rfl rfl rfl ?_))
   have b6 := (bj.ch ay (fun hm => by exact c (by first | exact hm | exact x ▸ hm)))
   refine Yv (off := 0) b6 sz42 rfl rfl rfl rfl fun a7 L az => ?_
   have b7 := az.size
   have E := E.step az (lS (by omega))
   replace L : Blk a7 p 44 [(.slice f ((((Xv s 32 []).take i).map rdT ++ [(rdT j)])).length h)] := L
   have aL : Ch ((bl (.slice Atv (((Xv s 32 []).take i).map rdT).length Ctv)) ++ [p]) C a7 := (ad.step az (fun i hm => by have x := List.mem_singleton.1 hm; exact .inr (by rw [x]; exact (List.mem_append_right _ (List.mem_singleton.2 rfl)))))
   refine ⟨aL, ?_⟩
   refine Yq (by kernel_rfl) ?_
   refine Zv (Zb (a1 _ _ (Zc (Za rfl rfl (Ze rfl) (Za rfl rfl (Yk (by omega) rfl rfl) (Za rfl rfl (Zd rfl) (Zf ?_)))))))
   have b8 := (t.ch az (fun g hg hm => by have x := List.mem_singleton.1 hm; rcases n with ea | ea; (rw [ea] at hg; exact c (by first | exact hg | exact x ▸ hg)); (rw [ea] at hg; have aJ := List.mem_singleton.1 hg; omega)))
   have ap : Ol Token.cs 84 4 a7 (.slice f ((((Xv s 32 []).take i).map rdT ++ [(rdT j)])).length h) (((Xv s 32 []).take (i + 1)).map rdT) := by
    have hx := b8
    exact hx.eq (Zcw D)
   have b9 := (((((l.ch0 B).ch0 I).ch0 ao).ch ay (fun hm => by have R := a _ hm; have a3 := q _ hm; omega)).ch az (nS (by omega)))
   have ca := ((((aT.ch0 I).ch0 ao).ch ay (fun i hi => by have R := a _ hi; omega)).ch az (oS (by omega)))
   exact Zb (Exists.intro ((i + 1), (.slice f ((((Xv s 32 []).take i).map rdT ++ [(rdT j)])).length h)) ⟨⟨E, (by omega), (by omega), b9, ca, ap, (Lo.down u (by omega)), L, (fun hm => by rcases n with ea | ea; (rw [ea] at hm; exact c (by first | exact hm | exact x ▸ hm)); (rw [ea] at hm; have aJ := List.mem_singleton.1 hm; omega))⟩, sC4 rfl rfl rfl rfl (sC1 rfl (Sub.nil _)), (by first | omega | (dsimp only; omega))⟩)
  have a0 := z
  have z := Ye z
  refine Xc (Zs (Zs (Yu ?_)))
  refine Zb (H9 _ _ ?_)
  refine Zg fun cN bk => ?_
  refine Zg fun cO cb => ?_
  refine Zc (Za rfl rfl (Zw o.at_ agg44 sz44 rfl) (Zk rfl rfl ?_))
  refine Step.call (Zn (xs := [.tmp 30]) fk31 rfl) (Zax m.ls ) fun a8 cP aq => ?_
  obtain ⟨rfl, aA⟩ := aq
  have cc := aA.size
  have E := E.trans aA
  refine Za rfl rfl (Xu rfl) (Zf (Zb (cb _ _ ?_)))
  refine Zp rfl (fun b => ?_) (fun b => ?_)
  ·have a9 := b
   have b := Qb b
   refine Zg fun cQ cd => ?_
   refine Zc (Za rfl rfl (Yr (parts := []) (cells := [(.slice none 0 0)]) zr44 pl44 rfl rfl) (Zk rfl rfl ?_))
   have ce := (l.ch0 aA)
   refine Zt (off := 0) 1 ce sz44 rfl (us := [(.slice none 0 0)]) rfl rfl rfl rfl fun ba M bm => ?_
   have cf := bm.size
   have E := E.step bm (lS (by omega))
   replace M : Blk ba af 44 [(.slice none 0 0)] := M
   refine Za rfl rfl (Zd rfl) (Zf (Zb (cd _ _ ?_)))
   refine Zr (Zl ?_)
   clear aY bk
   have aM : Ol Token.cs 84 4 ba (.slice none 0 0) ((parS s).1) := by
    have hx := (Ol.nil (cs := Token.cs) (e := 84) (k := 4) ba)
    first | (rw [Zfu (congrArg (List.map rdT) (Qm (by omega) (by omega))) b]; exact hx) | (rw [Zfx (congrArg (List.map rdT) (Qm (by omega) (by omega))) b]; exact hx)
   exact Zi [_, _] (Zu M rfl agg44 sz44 ⟨rfl, trivial⟩) ⟨(.slice none 0 0), (congrArg (fun zq => (Value.tuple #[.agg #[(.slice none 0 0)], .bool zq])) (by first | rw [Zfu (congrArg (List.map rdT) (Qm (by omega) (by omega))) b] | rw [Zfx (congrArg (List.map rdT) (Qm (by omega) (by omega))) b])), aM, (Lo.nil _), E⟩
  have a9 := b
  have b := Qc b
  refine Zq ?_
  refine Zb (bk _ _ ?_)
  refine Zg fun cR cg => ?_
  refine Zc ?_
  have ci := (o.ch0 aA)
  refine Za rfl rfl (Zw ci.at_ agg44 sz44 rfl) (Zk rfl rfl ?_)
  have cj := (l.ch0 aA)
  refine Zt (off := 0) 1 cj sz44 rfl (us := [(.slice Atv (((Xv s 32 []).take i).map rdT).length Ctv)]) rfl rfl rfl rfl fun bn O bb => ?_
  have ck := bb.size
  have E := E.step bb (lS (by omega))
  replace O : Blk bn af 44 [(.slice Atv (((Xv s 32 []).take i).map rdT).length Ctv)] := O
  refine Za rfl rfl (Zd rfl) (Zf (Zb (cg _ _ ?_)))
  refine Zr ?_
  have cm := ((m.ch0 aA).ch bb (dS a q (by omega)))
  have aN : Ol Token.cs 84 4 bn (.slice Atv (((Xv s 32 []).take i).map rdT).length Ctv) ((parS s).1) := by
   have hx := cm
   first | (rw [Zfu (congrArg (List.map rdT) (Qm (by omega) (by omega))) b]; exact hx) | (rw [Zfx (congrArg (List.map rdT) (Qm (by omega) (by omega))) b]; exact hx)
  exact Zi [_, _] (Zu O rfl agg44 sz44 ⟨rfl, trivial⟩) ⟨(.slice Atv (((Xv s 32 []).take i).map rdT).length Ctv), (congrArg (fun zq => (Value.tuple #[.agg #[(.slice Atv (((Xv s 32 []).take i).map rdT).length Ctv)], .bool zq])) (by first | rw [Zfu (congrArg (List.map rdT) (Qm (by omega) (by omega))) b] | rw [Zfx (congrArg (List.map rdT) (Qm (by omega) (by omega))) b])), aN, (Lo.down a (by omega)), E⟩
 have aZ := y
 have y := Ye y
 refine Zj rfl rfl (Zj rfl rfl (Za rfl rfl (Ym rfl rfl) (Zf (Zb (bg _ _ ?_)))))
 refine Qw rfl ?_
 refine Xc (Zs (Zs (Yu ?_)))
 refine Zb (H9 _ _ ?_)
 refine Zg fun cS bp => ?_
 refine Zg fun cT cn => ?_
 refine Zc (Za rfl rfl (Zw o.at_ agg44 sz44 rfl) (Zk rfl rfl ?_))
 refine Step.call (Zn (xs := [.tmp 30]) fk31 rfl) (Zax m.ls ) fun a8 cU aq => ?_
 obtain ⟨rfl, aB⟩ := aq
 have co := aB.size
 have E := E.trans aB
 refine Za rfl rfl (Xu rfl) (Zf (Zb (cn _ _ ?_)))
 refine Zp rfl (fun b => ?_) (fun b => ?_)
 ·have bc := b
  have b := Qb b
  refine Zg fun cV cp => ?_
  refine Zc (Za rfl rfl (Yr (parts := []) (cells := [(.slice none 0 0)]) zr44 pl44 rfl rfl) (Zk rfl rfl ?_))
  have cq := (l.ch0 aB)
  refine Zt (off := 0) 1 cq sz44 rfl (us := [(.slice none 0 0)]) rfl rfl rfl rfl fun bd P bq => ?_
  have cr := bq.size
  have E := E.step bq (lS (by omega))
  replace P : Blk bd af 44 [(.slice none 0 0)] := P
  refine Za rfl rfl (Zd rfl) (Zf (Zb (cp _ _ ?_)))
  refine Zr (Zl ?_)
  clear aY bp
  have aO : Ol Token.cs 84 4 bd (.slice none 0 0) ((parS s).1) := by
   have hx := (Ol.nil (cs := Token.cs) (e := 84) (k := 4) bd)
   first | (rw [Zfu (congrArg (List.map rdT) (Qm (by omega) (by omega))) b]; exact hx) | (rw [Zfx (congrArg (List.map rdT) (Qm (by omega) (by omega))) b]; exact hx)
  exact Zi [_, _] (Zu P rfl agg44 sz44 ⟨rfl, trivial⟩) ⟨(.slice none 0 0), (congrArg (fun zq => (Value.tuple #[.agg #[(.slice none 0 0)], .bool zq])) (by first | rw [Zfu (congrArg (List.map rdT) (Qm (by omega) (by omega))) b] | rw [Zfx (congrArg (List.map rdT) (Qm (by omega) (by omega))) b])), aO, (Lo.nil _), E⟩
 have bc := b
 have b := Qc b
 refine Zq ?_
 refine Zb (bp _ _ ?_)
 refine Zg fun cW ct => ?_
 refine Zc ?_
 have cu := (o.ch0 aB)
 refine Za rfl rfl (Zw cu.at_ agg44 sz44 rfl) (Zk rfl rfl ?_)
 have cv := (l.ch0 aB)
 refine Zt (off := 0) 1 cv sz44 rfl (us := [(.slice Atv (((Xv s 32 []).take i).map rdT).length Ctv)]) rfl rfl rfl rfl fun br Q be => ?_
 have cw := be.size
 have E := E.step be (lS (by omega))
 replace Q : Blk br af 44 [(.slice Atv (((Xv s 32 []).take i).map rdT).length Ctv)] := Q
 refine Za rfl rfl (Zd rfl) (Zf (Zb (ct _ _ ?_)))
 refine Zr ?_
 have cx := ((m.ch0 aB).ch be (dS a q (by omega)))
 have aP : Ol Token.cs 84 4 br (.slice Atv (((Xv s 32 []).take i).map rdT).length Ctv) ((parS s).1) := by
  have hx := cx
  first | (rw [Zfu (congrArg (List.map rdT) (Qm (by omega) (by omega))) b]; exact hx) | (rw [Zfx (congrArg (List.map rdT) (Qm (by omega) (by omega))) b]; exact hx)
 exact Zi [_, _] (Zu Q rfl agg44 sz44 ⟨rfl, trivial⟩) ⟨(.slice Atv (((Xv s 32 []).take i).map rdT).length Ctv), (congrArg (fun zq => (Value.tuple #[.agg #[(.slice Atv (((Xv s 32 []).take i).map rdT).length Ctv)], .bool zq])) (by first | rw [Zfu (congrArg (List.map rdT) (Qm (by omega) (by omega))) b] | rw [Zfx (congrArg (List.map rdT) (Qm (by omega) (by omega))) b])), aP, (Lo.down a (by omega)), E⟩

/-- spec.l1Pick -/
theorem Zke {w : World} {b_c : Nat} (f : Cu w b_c) {e_list : Nat} {a : Value} {list : List (List UInt8)} (b : Ol scs e_list 1 w a list) (hl : 0 < list.length ∧ list.length ≤ 4096) (K9 : Nat) (q : b_c < K9) (i : Lo K9 a) :
 Ctr Try.prog 139 #[(.pointer (some ⟨b_c, 0, none⟩)), a] w (fun v w' => ∃ (n : List UInt8) , v = .string (bys n) ∧ (n ∈ list) ∧ Cu w' b_c ∧ Ch [b_c] w w') := by
 have o := f.lt
 obtain ⟨d, e, rfl, h, c⟩ := b.opn
 have E := Ch.refl [b_c] w
 refine Yc (N := 12) (vs0 := [(.pointer (some ⟨b_c, 0, none⟩)), (.slice d list.length e)]) Try.func139 rfl rfl rfl ?_
 refine Zg fun V1 H1 => ?_
 refine Zc (Za rfl rfl (Zd rfl) (Zf (Zb (H1 _ _ ?_))))
 refine Zg fun V2 H2 => ?_
 refine Zc (Za rfl rfl (Ze rfl) (Za rfl rfl (Ze rfl) (Za rfl rfl (Ze rfl) (Za rfl rfl (Xa (by rw [el160]; rfl) rfl) (Zk rfl rfl ?_)))))
 refine Step.call (Zn (xs := [.tmp 6, .tmp 8]) fk42 rfl) (Xl f _ (by omega)) fun u W3 r => ?_
 obtain ⟨k, rfl, p, s, C3⟩ := r
 have x := C3.size
 have E := E.trans C3
 refine Zk rfl rfl ?_
 have F4 := (b.ch C3 (dS i c (by omega)))
 refine (Yo (j := k.toNat) F4.ls Zej el160 sz9 rfl rfl (by omega) (by omega) fun t l g m => ?_)
 refine Za rfl rfl (Yg m agg9 rfl rfl) (Za rfl rfl (Zd rfl) (Zf (Zb (H2 _ _ ?_))))
 refine Zr ?_
 exact Zi [_] ⟨rfl, trivial⟩ ⟨l, (congrArg (fun zq => (Value.string (bys zq))) (by first | rfl | simp_all)), (Yy g), s, E⟩

/-- spec.l8Known -/
theorem Zid {w : World} {b_c : Nat} (k : Cu w b_c) :
 Ctr Try.prog 125 #[(.pointer (some ⟨b_c, 0, none⟩))] w (fun v w' => ∃ (q : List Token) (g : Value), v = .agg #[g] ∧ Ol Token.cs 84 4 w' g (q) ∧ Lo w.heap.size g ∧ (1 ≤ q.length ∧ q.length ≤ 24) ∧ Cu w' b_c ∧ Ch [b_c] w w') := by
 have t := k.lt
 have E := Ch.refl [b_c] w
 refine Yc (N := 13) (vs0 := [(.pointer (some ⟨b_c, 0, none⟩))]) Try.func125 rfl rfl rfl ?_
 refine Zg fun K1 H1 => ?_
 refine Zc (Zk rfl rfl ?_)
 refine Yp zr44 fun u W2 m C2 O => ?_
 have P := C2.size
 have E := E.trans C2.of_nil
 have Q := m.lt
 replace m : Blk W2 u 44 [(.slice none 0 0)] := m
 refine Zf (Zb (H1 _ _ ?_))
 refine Zg fun K3 H3 => ?_
 refine Zc (Za rfl rfl (Ze rfl) (Zk rfl rfl ?_))
 refine Zo (cs := scs) (parts := [(0, .const (Go.Value.string { data := #[97] })), (1, .const (Go.Value.string { data := #[97, 32, 98, 32, 46] })), (2, .const (Go.Value.string { data := #[97, 32, 42] })), (3, .const (Go.Value.string { data := #[97, 32, 98, 32, 124, 32, 42] })), (4, .const (Go.Value.string { data := #[97, 32, 97, 45, 32, 46] })), (5, .const (Go.Value.string { data := #[97, 32, 42, 32, 98, 32, 46] })), (6, .const (Go.Value.string { data := #[97, 32, 98, 32, 42, 32, 46, 32, 99, 32, 46] })), (7, .const (Go.Value.string { data := #[97, 32, 97, 32, 124, 32, 42] })), (8, .const (Go.Value.string { data := #[97, 32, 98, 32, 46, 32, 42] })), (9, .const (Go.Value.string { data := #[48, 32, 97, 32, 46, 32, 42] })), (10, .const (Go.Value.string { data := #[97, 32, 49, 32, 46, 32, 98, 32, 46] })), (11, .const (Go.Value.string { data := #[97, 32, 123, 48, 44, 50, 125] })), (12, .const (Go.Value.string { data := #[97, 32, 98, 32, 124, 32, 123, 49, 44, 51, 125] })), (13, .const (Go.Value.string { data := #[40, 41] })), (14, .const (Go.Value.string { data := #[33] })), (15, .const (Go.Value.string { data := #[97, 45, 32, 42, 32, 97, 32, 46] })), (16, .const (Go.Value.string { data := #[97, 32, 98, 45, 32, 46, 32, 42, 32, 99, 32, 124] })), (17, .const (Go.Value.string { data := #[97, 32, 42, 32, 97, 32, 42, 32, 46] })), (18, .const (Go.Value.string { data := #[97, 32, 48, 32, 124, 32, 42, 32, 98, 32, 46] })), (19, .const (Go.Value.string { data := #[97, 32, 97, 32, 46, 32, 42] })), (20, .const (Go.Value.string { data := #[97, 32, 98, 32, 46, 32, 98, 32, 97, 32, 46, 32, 124, 32, 42] }))]) ([] : List UInt8) [[97], [97, 32, 98, 32, 46], [97, 32, 42], [97, 32, 98, 32, 124, 32, 42], [97, 32, 97, 45, 32, 46], [97, 32, 42, 32, 98, 32, 46], [97, 32, 98, 32, 42, 32, 46, 32, 99, 32, 46], [97, 32, 97, 32, 124, 32, 42], [97, 32, 98, 32, 46, 32, 42], [48, 32, 97, 32, 46, 32, 42], [97, 32, 49, 32, 46, 32, 98, 32, 46], [97, 32, 123, 48, 44, 50, 125], [97, 32, 98, 32, 124, 32, 123, 49, 44, 51, 125], [40, 41], [33], [97, 45, 32, 42, 32, 97, 32, 46], [97, 32, 98, 45, 32, 46, 32, 42, 32, 99, 32, 124], [97, 32, 42, 32, 97, 32, 42, 32, 46], [97, 32, 48, 32, 124, 32, 42, 32, 98, 32, 46], [97, 32, 97, 32, 46, 32, 42], [97, 32, 98, 32, 46, 32, 98, 32, 97, 32, 46, 32, 124, 32, 42]] el160 sz9 zr9 Zej (by decide) rfl rfl rfl (by decide) (by decide) rfl fun R W4 x r C4 => ?_
 have S := C4.size
 have E := E.trans C4.of_nil
 obtain ⟨B, C, rfl, D, y⟩ := x.opn
 refine Zk rfl rfl ?_
 have F5 := ((k.ch0 C2).ch0 C4)
 refine Step.call (Zn (xs := [.tmp 6, .tmp 7]) fk139 rfl) (Zke F5 x (by decide) W2.heap.size (by omega) r) fun T W6 F => ?_
 obtain ⟨f, rfl, j, G, C6⟩ := F
 have U := C6.size
 have E := E.trans C6
 refine Zk rfl rfl ?_
 refine Step.call (Zn (xs := [.tmp 8]) fk138 rfl) (Zgk f (by have V := Zpt _ j; omega)) fun X W7 H => ?_
 obtain ⟨s, rfl, d, c, C7⟩ := H
 have Y := C7.size
 have E := E.trans C7.of_nil
 obtain ⟨a, b, rfl, n, e⟩ := d.opn
 refine Za rfl rfl (Ze rfl) (Za rfl rfl (Xm rfl rfl) (Za rfl rfl (Xm rfl rfl) (Zk rfl rfl ?_)))
 refine Yp zr44 fun z W8 o C8 Z => ?_
 have aa := C8.size
 have E := E.trans C8.of_nil
 have ab := o.lt
 replace o : Blk W8 z 44 [(.slice none 0 0)] := o
 refine Zk rfl rfl ?_
 refine Zt (off := 0) 1 o sz44 rfl (us := [(.slice a ((parS f).1).length b)]) rfl rfl rfl rfl fun W9 h C9 => ?_
 have ac := C9.size
 have E := E.step C9 (lS (by omega))
 replace h : Blk W9 z 44 [(.slice a ((parS f).1).length b)] := h
 refine Za rfl rfl (Zd rfl) (Zf (Zb (H3 _ _ ?_)))
 refine Zg fun ad I => ?_
 refine Zc (Za rfl rfl (Zw h.at_ agg44 sz44 rfl) (Zk rfl rfl ?_))
 have J := (((((m.ch0 C4).ch C6 (nS (by omega))).ch0 C7).ch0 C8).ch C9 (nS (by omega)))
 refine Zt (off := 0) 1 J sz44 rfl (us := [(.slice a ((parS f).1).length b)]) rfl rfl rfl rfl fun A i p => ?_
 have K := p.size
 have E := E.step p (lS (by omega))
 replace i : Blk A u 44 [(.slice a ((parS f).1).length b)] := i
 refine Zf (Zb (I _ _ ?_))
 refine Zr ?_
 have L := (((d.ch0 C8).ch C9 (dS c e (by omega))).ch p (dS c e (by omega)))
 have l : Ol Token.cs 84 4 A (.slice a ((parS f).1).length b) ((parS f).1) := by
  have hx := L
  first | exact hx | simpa using hx
 have M := ((((G.ch0 C7).ch0 C8).ch C9 (oS (by omega))).ch p (oS (by omega)))
 exact Zi [_] (Zu i rfl agg44 sz44 trivial) ⟨((parS f).1), (.slice a ((parS f).1).length b), rfl, l, (Lo.down c (by omega)), (Zqu _ j), M, E⟩

/-- spec.LetterExpr -/
theorem Zfn {w : World} (l : Int) :
 Ctr Try.prog 140 #[(.int .i64 l)] w (fun v w' => ∃ u, v = .agg #[u] ∧ Ol Token.cs 84 4 w' u ([(⟨3, l, 0, 0⟩ : Token)]) ∧ Lo w.heap.size u ∧ Ch [] w w') := by
 have E := Ch.refl [] w
 refine Yc (N := 7) (vs0 := [(.int .i64 l)]) Try.func140 rfl rfl rfl ?_
 refine Zg fun K1 H1 => ?_
 refine Zc (Zk rfl rfl ?_)
 refine Yp zr44 fun h W2 f C2 k => ?_
 have m := C2.size
 have E := E.trans C2
 have n := f.lt
 replace f : Blk W2 h 44 [(.slice none 0 0)] := f
 refine Zf (Zb (H1 _ _ ?_))
 refine Zg fun K3 H3 => ?_
 refine Zc (Za rfl rfl (Ze rfl) (Za rfl rfl (Yr (parts := [(0, .const (Go.Value.int Go.IntKind.i64 3)), (1, .tmp 3)]) (cells := [(.int .i64 3), (.int .i64 l), (.int .i64 0), (.int .i64 0)]) zr84 pl84 rfl rfl) (Zk rfl rfl ?_)))
 refine Zo (cs := Token.cs) (parts := [(0, .tmp 4)]) (⟨0, 0, 0, 0⟩ : Token) [(⟨3, l, 0, 0⟩ : Token)] el42 sz84 zr84 Token.len (by decide) rfl rfl rfl (by decide) (by decide) rfl fun o W4 i d C4 => ?_
 have p := C4.size
 have E := E.trans C4
 obtain ⟨a, b, rfl, j, e⟩ := i.opn
 refine Za rfl rfl (Yr (parts := [(0, .tmp 5)]) (cells := [(.slice a ([(⟨3, l, 0, 0⟩ : Token)]).length b)]) zr44 pl44 rfl rfl) (Zk rfl rfl ?_)
 have F5 := (f.ch0 C4)
 refine Zt (off := 0) 1 F5 sz44 rfl (us := [(.slice a ([(⟨3, l, 0, 0⟩ : Token)]).length b)]) rfl rfl rfl rfl fun W6 c C6 => ?_
 have q := C6.size
 have E := E.step C6 (lS (by omega))
 replace c : Blk W6 h 44 [(.slice a ([(⟨3, l, 0, 0⟩ : Token)]).length b)] := c
 refine Zf (Zb (H3 _ _ ?_))
 refine Zr ?_
 have F9 := (i.ch C6 (dS d e (by omega)))
 have g : Ol Token.cs 84 4 W6 (.slice a ([(⟨3, l, 0, 0⟩ : Token)]).length b) ([(⟨3, l, 0, 0⟩ : Token)]) := by
  have hx := F9
  first | exact hx | simpa using hx
 exact Zi [_] (Zu c rfl agg44 sz44 trivial) ⟨_, rfl, g, Lo.down d (by omega), E⟩

/-- spec.l1PickInt -/
theorem Zaq {w : World} {b_c : Nat} (f : Cu w b_c) {e_list : Nat} {a : Value} {list : List Int} (b : Ol ics e_list 1 w a list) (hl : 0 < list.length ∧ list.length ≤ 4096) (K9 : Nat) (q : b_c < K9) (i : Lo K9 a) :
 Ctr Try.prog 85 #[(.pointer (some ⟨b_c, 0, none⟩)), a] w (fun v w' => ∃ (n : Int) , v = .int .i64 n ∧ (n ∈ list) ∧ Cu w' b_c ∧ Ch [b_c] w w') := by
 have o := f.lt
 obtain ⟨d, e, rfl, h, c⟩ := b.opn
 have E := Ch.refl [b_c] w
 refine Yc (N := 12) (vs0 := [(.pointer (some ⟨b_c, 0, none⟩)), (.slice d list.length e)]) Try.func85 rfl rfl rfl ?_
 refine Zg fun V1 H1 => ?_
 refine Zc (Za rfl rfl (Zd rfl) (Zf (Zb (H1 _ _ ?_))))
 refine Zg fun V2 H2 => ?_
 refine Zc (Za rfl rfl (Ze rfl) (Za rfl rfl (Ze rfl) (Za rfl rfl (Ze rfl) (Za rfl rfl (Xa (by rw [el30]; rfl) rfl) (Zk rfl rfl ?_)))))
 refine Step.call (Zn (xs := [.tmp 6, .tmp 8]) fk42 rfl) (Xl f _ (by omega)) fun u W3 r => ?_
 obtain ⟨k, rfl, p, s, C3⟩ := r
 have x := C3.size
 have E := E.trans C3
 refine Zk rfl rfl ?_
 have F4 := (b.ch C3 (dS i c (by omega)))
 refine (Yo (j := k.toNat) F4.ls Yh el30 sz3 rfl rfl (by omega) (by omega) fun t l g m => ?_)
 refine Za rfl rfl (Yg m agg3 rfl rfl) (Za rfl rfl (Zd rfl) (Zf (Zb (H2 _ _ ?_))))
 refine Zr ?_
 exact Zi [_] ⟨rfl, trivial⟩ ⟨l, (congrArg (fun zq => (Value.int .i64 zq)) (by first | rfl | simp_all)), (Yy g), s, E⟩

/-- spec.l8Make -/
theorem Zhl : ∀ (n : Nat) {w : World} {b_c : Nat} (aI : Cu w b_c) (deep : Int) (hd : 0 ≤ deep ∧ deep ≤ 3) (hsz : deep.toNat < n),
 Ctr Try.prog 126 #[(.pointer (some ⟨b_c, 0, none⟩)), (.int .i64 deep)] w (fun v w' => ∃ (b6 : List Token) (ak : Value), v = .agg #[ak] ∧ Ol Token.cs 84 4 w' ak (b6) ∧ Lo w.heap.size ak ∧ (1 ≤ b6.length ∧ b6.length + 1 ≤ 2 ^ (deep.toNat + 1)) ∧ Cu w' b_c ∧ Ch [b_c] w w') := by
 intro n
 induction n with
 | zero => intros; omega
 | succ n ih =>
 intro w b_c aI deep hd hsz
 have cY := aI.lt
 have E := Ch.refl [b_c] w
 refine Yc (N := 70) (vs0 := [(.pointer (some ⟨b_c, 0, none⟩)), (.int .i64 deep)]) Try.func126 rfl rfl rfl ?_
 refine Zg fun K1 H1 => ?_
 refine Zc (Zk rfl rfl ?_)
 refine Yp zr44 fun aJ W2 al C2 e5 => ?_
 have e6 := C2.size
 have E := E.trans C2.of_nil
 have e7 := al.lt
 replace al : Blk W2 aJ 44 [(.slice none 0 0)] := al
 refine Zf (Zb (H1 _ _ ?_))
 refine Zg fun K3 H3 => ?_
 refine Zg fun K4 H4 => ?_
 refine Zc (Za rfl rfl (Ze rfl) (Za rfl rfl (Xj rfl rfl) (Zf (Zb (H4 _ _ ?_)))))
 refine Zp rfl (fun a1 => ?_) (fun a1 => ?_)
 ·have dq := a1
  have a1 := Yf a1
  refine Zg fun K6 H6 => ?_
  refine Zg fun K7 H7 => ?_
  refine Zc (Za rfl rfl (Ze rfl) (Zk rfl rfl ?_))
  have F8 := (aI.ch0 C2)
  refine Step.call (Zn (xs := [.tmp 8, .const (Go.Value.int Go.IntKind.i64 12)]) fk96 rfl) (Zal F8 _ (by omega)) fun e8 W9 dr => ?_
  obtain ⟨ds, rfl, cZ, C9⟩ := dr
  have e9 := C9.size
  have E := E.trans C9
  refine Zf (Zb (H7 _ _ ?_))
  refine Zp rfl (fun b7 => ?_) (fun b7 => ?_)
  ·have b8 := b7
   refine Zg fun fa dt => ?_
   refine Zc (Za rfl rfl (Ze rfl) (Zk rfl rfl ?_))
   refine Zo (cs := ics) (parts := [(0, .const (Go.Value.int Go.IntKind.i64 1)), (1, .const (Go.Value.int Go.IntKind.i64 2))]) (0 : Int) [1, 2] el30 sz3 zr3 Yh (by decide) rfl rfl rfl (by decide) (by decide) rfl fun du fb bi bj bK => ?_
   have dv := bK.size
   have E := E.trans bK.of_nil
   obtain ⟨c0, c1, rfl, c2, b9⟩ := bi.opn
   refine Zk rfl rfl ?_
   have dw := (cZ.ch0 bK)
   refine Step.call (Zn (xs := [.tmp 10, .tmp 11]) fk85 rfl) (Zaq dw bi (by decide) W9.heap.size (by omega) bj) fun dx fc ca => ?_
   obtain ⟨H, rfl, cb, cc, cd⟩ := ca
   have dy := cd.size
   have E := E.trans cd
   refine Zk rfl rfl ?_
   refine Step.call (Zn (xs := [.tmp 12]) fk130 rfl) (Zcv _ ) fun dz fd aK => ?_
   obtain ⟨dA, rfl, aK, aV, bL⟩ := aK
   have dB := bL.size
   have E := E.trans bL.of_nil
   obtain ⟨ab, ac, rfl, c3, a2⟩ := aK.opn
   refine Zk rfl rfl ?_
   have dC := ((((al.ch C9 (nS (by omega))).ch0 bK).ch cd (nS (by omega))).ch0 bL)
   refine Zt (off := 0) 1 dC sz44 rfl (us := [(.slice ab ([(⟨H, 0, 0, 0⟩ : Token)]).length ac)]) rfl rfl rfl rfl fun c4 am bM => ?_
   have dD := bM.size
   have E := E.step bM (lS (by omega))
   replace am : Blk c4 aJ 44 [(.slice ab ([(⟨H, 0, 0, 0⟩ : Token)]).length ac)] := am
   refine Zf (Zb (dt _ _ ?_))
   refine Zr (Zl (Zl ?_))
   clear H3 H6
   have dE := (aK.ch bM (dS aV a2 (by omega)))
   have bk : Ol Token.cs 84 4 c4 (.slice ab ([(⟨H, 0, 0, 0⟩ : Token)]).length ac) ([(⟨H, 0, 0, 0⟩ : Token)]) := by
    have hx := dE
    first | exact hx | simpa using hx
   have dF := ((cc.ch0 bL).ch bM (oS (by omega)))
   exact Zi [_] (Zu am rfl agg44 sz44 trivial) ⟨([(⟨H, 0, 0, 0⟩ : Token)]), (.slice ab ([(⟨H, 0, 0, 0⟩ : Token)]).length ac), rfl, bk, (Lo.down aV (by omega)), (by first | exact Zdn (by omega) | exact Zbh a b rfl (by omega) | exact Zbh c d rfl (by omega) | exact Zbg o rfl (by omega) | exact Zbg p rfl (by omega)), dF, E⟩
  have b8 := b7
  refine Zq ?_
  refine Zb (H6 _ _ ?_)
  refine Zg fun fe dG => ?_
  refine Zc (Za rfl rfl (Ze rfl) (Zk rfl rfl ?_))
  refine Zo (cs := ics) (parts := [(0, .const (Go.Value.int Go.IntKind.i64 0)), (1, .const (Go.Value.int Go.IntKind.i64 0)), (2, .const (Go.Value.int Go.IntKind.i64 2)), (3, .const (Go.Value.int Go.IntKind.i64 2)), (4, .const (Go.Value.int Go.IntKind.i64 1)), (5, .const (Go.Value.int Go.IntKind.i64 4)), (6, .const (Go.Value.int Go.IntKind.i64 3)), (7, .const (Go.Value.int Go.IntKind.i64 6)), (8, .const (Go.Value.int Go.IntKind.i64 7))]) (0 : Int) [0, 0, 2, 2, 1, 4, 3, 6, 7] el30 sz3 zr3 Yh (by decide) rfl rfl rfl (by decide) (by decide) rfl fun dH ff bm bn bN => ?_
  have dI := bN.size
  have E := E.trans bN.of_nil
  obtain ⟨c5, c6, rfl, c7, ce⟩ := bm.opn
  refine Zk rfl rfl ?_
  have dJ := (cZ.ch0 bN)
  refine Step.call (Zn (xs := [.tmp 14, .tmp 15]) fk85 rfl) (Zaq dJ bm (by decide) W9.heap.size (by omega) bn) fun dL fg cf => ?_
  obtain ⟨I, rfl, cg, ci, cj⟩ := cf
  have dM := cj.size
  have E := E.trans cj
  refine Zk rfl rfl ?_
  refine Step.call (Zn (xs := [.tmp 16]) fk140 rfl) (Zfn _ ) fun dN fh aL => ?_
  obtain ⟨dP, rfl, aL, aW, bO⟩ := aL
  have dQ := bO.size
  have E := E.trans bO.of_nil
  obtain ⟨ad, ae, rfl, c8, a3⟩ := aL.opn
  refine Zk rfl rfl ?_
  have dR := ((((al.ch C9 (nS (by omega))).ch0 bN).ch cj (nS (by omega))).ch0 bO)
  refine Zt (off := 0) 1 dR sz44 rfl (us := [(.slice ad ([(⟨3, I, 0, 0⟩ : Token)]).length ae)]) rfl rfl rfl rfl fun c9 an bP => ?_
  have dU := bP.size
  have E := E.step bP (lS (by omega))
  replace an : Blk c9 aJ 44 [(.slice ad ([(⟨3, I, 0, 0⟩ : Token)]).length ae)] := an
  refine Zf (Zb (dG _ _ ?_))
  refine Zr (Zl ?_)
  have dW := (aL.ch bP (dS aW a3 (by omega)))
  have bp : Ol Token.cs 84 4 c9 (.slice ad ([(⟨3, I, 0, 0⟩ : Token)]).length ae) ([(⟨3, I, 0, 0⟩ : Token)]) := by
   have hx := dW
   first | exact hx | simpa using hx
  have dX := ((ci.ch0 bO).ch bP (oS (by omega)))
  exact Zi [_] (Zu an rfl agg44 sz44 trivial) ⟨([(⟨3, I, 0, 0⟩ : Token)]), (.slice ad ([(⟨3, I, 0, 0⟩ : Token)]).length ae), rfl, bp, (Lo.down aW (by omega)), (by first | exact Zdn (by omega) | exact Zbh a b rfl (by omega) | exact Zbh c d rfl (by omega) | exact Zbg o rfl (by omega) | exact Zbg p rfl (by omega)), dX, E⟩
 have dq := a1
 have a1 := Ye a1
 refine Zq ?_
 refine Zb (H3 _ _ ?_)
 refine Zg fun fi dY => ?_
 refine Zg fun fj dZ => ?_
 refine Zc (Za rfl rfl (Ze rfl) (Zk rfl rfl ?_))
 have d0 := (aI.ch0 C2)
 refine Step.call (Zn (xs := [.tmp 18, .const (Go.Value.int Go.IntKind.i64 6)]) fk42 rfl) (Xl d0 _ (by omega)) fun d1 fk ck => ?_
 obtain ⟨da, rfl, cm, aj, aX⟩ := ck
 have d2 := aX.size
 have E := E.trans aX
 refine Zf (Zb (dZ _ _ ?_))
 refine Zx ?_
 refine Zg fun fl db => ?_
 refine Zg fun fm d3 => ?_
 refine Zc (Za rfl rfl (Xj rfl rfl) (Za rfl rfl (Zd rfl) (Zf (Zb (d3 _ _ ?_)))))
 refine Zp rfl (fun s => ?_) (fun s => ?_)
 ·have bq := s
  have s := Yf s
  refine Zq ?_
  refine Zb (db _ _ ?_)
  refine Zcs rfl bq ?_
  refine Zg fun fn d4 => ?_
  refine Zc (Za rfl rfl (Ze rfl) (Za rfl rfl (Ze rfl) (Za rfl rfl (Zay (by omega) rfl rfl) (Zk rfl rfl ?_))))
  refine Step.call (Zn (xs := [.tmp 23, .tmp 25]) fk126 rfl) (ih aj _ (by omega) (by omega)) fun cn fo a4 => ?_
  obtain ⟨i, aM, rfl, e, q, a, a5, co⟩ := a4
  have d5 := co.size
  have E := E.trans co
  obtain ⟨ao, ap, rfl, aq, t⟩ := e.opn
  have cp := Zgw a (by omega)
  refine Za rfl rfl (Ze rfl) (Za rfl rfl (Ze rfl) (Za rfl rfl (Zay (by omega) rfl rfl) (Zk rfl rfl ?_)))
  refine Step.call (Zn (xs := [.tmp 27, .tmp 29]) fk126 rfl) (ih a5 _ (by omega) (by omega)) fun cq fp a6 => ?_
  obtain ⟨j, aN, rfl, f, O, b, a7, bQ⟩ := a6
  have d6 := bQ.size
  have E := E.trans bQ
  obtain ⟨au, av, rfl, aw, T⟩ := f.opn
  have cr := Zgw b (by omega)
  refine Za rfl rfl (Yr (parts := [(0, .const (Go.Value.int Go.IntKind.i64 4))]) (cells := [(.int .i64 4), (.int .i64 0), (.int .i64 0), (.int .i64 0)]) zr84 pl84 rfl rfl) (Zk rfl rfl ?_)
  have d7 := (e.ch bQ (dS q t (by omega)))
  refine Step.call (Zn (xs := [.tmp 26, .tmp 30, .tmp 31]) fk111 rfl) (Xr d7.ls f.ls ⟨4, 0, 0, 0⟩ (by first | omega | (simp only [List.length_nil]; omega))) fun ct fq L => ?_
  obtain ⟨cu, rfl, L, P, bR⟩ := L
  have d8 := bR.size
  have E := E.trans bR.of_nil
  obtain ⟨y, z, rfl, br, U⟩ := L.opn
  refine Zk rfl rfl ?_
  have d9 := ((((al.ch aX (nS (by omega))).ch co (nS (by omega))).ch bQ (nS (by omega))).ch0 bR)
  refine Zt (off := 0) 1 d9 sz44 rfl (us := [(.slice y (i ++ j ++ [(⟨4, 0, 0, 0⟩ : Token)]).length z)]) rfl rfl rfl rfl fun dc ax bS => ?_
  have ea := bS.size
  have E := E.step bS (lS (by omega))
  replace ax : Blk dc aJ 44 [(.slice y (i ++ j ++ [(⟨4, 0, 0, 0⟩ : Token)]).length z)] := ax
  refine Zf (Zb (d4 _ _ ?_))
  refine Zr (Ya (Zl ?_))
  have eb := (L.ch bS (dS P U (by omega)))
  have bs : Ol Token.cs 84 4 dc (.slice y (i ++ j ++ [(⟨4, 0, 0, 0⟩ : Token)]).length z) (i ++ j ++ [(⟨4, 0, 0, 0⟩ : Token)]) := by
   have hx := eb
   first | exact hx | simpa using hx
  have ec := ((a7.ch0 bR).ch bS (oS (by omega)))
  exact Zi [_] (Zu ax rfl agg44 sz44 trivial) ⟨(i ++ j ++ [(⟨4, 0, 0, 0⟩ : Token)]), (.slice y (i ++ j ++ [(⟨4, 0, 0, 0⟩ : Token)]).length z), rfl, bs, (Lo.down P (by omega)), (by first | exact Zdn (by omega) | exact Zbh a b rfl (by omega) | exact Zbh c d rfl (by omega) | exact Zbg o rfl (by omega) | exact Zbg p rfl (by omega)), ec, E⟩
 have bq := s
 have s := Ye s
 refine Zc (Za rfl rfl (Xj rfl rfl) (Za rfl rfl (Zd rfl) (Zf (Zb (db _ _ ?_)))))
 refine Zp rfl (fun s => ?_) (fun s => ?_)
 ·have cv := s
  have s := Yf s
  refine Zg fun fr ed => ?_
  refine Zc (Za rfl rfl (Ze rfl) (Za rfl rfl (Ze rfl) (Za rfl rfl (Zay (by omega) rfl rfl) (Zk rfl rfl ?_))))
  refine Step.call (Zn (xs := [.tmp 23, .tmp 25]) fk126 rfl) (ih aj _ (by omega) (by omega)) fun cn fs a4 => ?_
  obtain ⟨i, aM, rfl, e, q, a, a5, cw⟩ := a4
  have ee := cw.size
  have E := E.trans cw
  obtain ⟨ao, ap, rfl, aq, t⟩ := e.opn
  have cp := Zgw a (by omega)
  refine Za rfl rfl (Ze rfl) (Za rfl rfl (Ze rfl) (Za rfl rfl (Zay (by omega) rfl rfl) (Zk rfl rfl ?_)))
  refine Step.call (Zn (xs := [.tmp 27, .tmp 29]) fk126 rfl) (ih a5 _ (by omega) (by omega)) fun cq ft a6 => ?_
  obtain ⟨j, aN, rfl, f, O, b, a7, bT⟩ := a6
  have ef := bT.size
  have E := E.trans bT
  obtain ⟨au, av, rfl, aw, T⟩ := f.opn
  have cr := Zgw b (by omega)
  refine Za rfl rfl (Yr (parts := [(0, .const (Go.Value.int Go.IntKind.i64 4))]) (cells := [(.int .i64 4), (.int .i64 0), (.int .i64 0), (.int .i64 0)]) zr84 pl84 rfl rfl) (Zk rfl rfl ?_)
  have eg := (e.ch bT (dS q t (by omega)))
  refine Step.call (Zn (xs := [.tmp 26, .tmp 30, .tmp 31]) fk111 rfl) (Xr eg.ls f.ls ⟨4, 0, 0, 0⟩ (by first | omega | (simp only [List.length_nil]; omega))) fun ct fu L => ?_
  obtain ⟨cu, rfl, L, P, bU⟩ := L
  have eh := bU.size
  have E := E.trans bU.of_nil
  obtain ⟨y, z, rfl, br, U⟩ := L.opn
  refine Zk rfl rfl ?_
  have ei := ((((al.ch aX (nS (by omega))).ch cw (nS (by omega))).ch bT (nS (by omega))).ch0 bU)
  refine Zt (off := 0) 1 ei sz44 rfl (us := [(.slice y (i ++ j ++ [(⟨4, 0, 0, 0⟩ : Token)]).length z)]) rfl rfl rfl rfl fun dd ay bV => ?_
  have ej := bV.size
  have E := E.step bV (lS (by omega))
  replace ay : Blk dd aJ 44 [(.slice y (i ++ j ++ [(⟨4, 0, 0, 0⟩ : Token)]).length z)] := ay
  refine Zf (Zb (ed _ _ ?_))
  refine Zr (Ya (Zl ?_))
  have ek := (L.ch bV (dS P U (by omega)))
  have bu : Ol Token.cs 84 4 dd (.slice y (i ++ j ++ [(⟨4, 0, 0, 0⟩ : Token)]).length z) (i ++ j ++ [(⟨4, 0, 0, 0⟩ : Token)]) := by
   have hx := ek
   first | exact hx | simpa using hx
  have el := ((a7.ch0 bU).ch bV (oS (by omega)))
  exact Zi [_] (Zu ay rfl agg44 sz44 trivial) ⟨(i ++ j ++ [(⟨4, 0, 0, 0⟩ : Token)]), (.slice y (i ++ j ++ [(⟨4, 0, 0, 0⟩ : Token)]).length z), rfl, bu, (Lo.down P (by omega)), (by first | exact Zdn (by omega) | exact Zbh a b rfl (by omega) | exact Zbh c d rfl (by omega) | exact Zbg o rfl (by omega) | exact Zbg p rfl (by omega)), el, E⟩
 have cv := s
 have s := Ye s
 refine Zg fun fv de => ?_
 refine Zg fun fw em => ?_
 refine Zc (Za rfl rfl (Xj rfl rfl) (Za rfl rfl (Zd rfl) (Zf (Zb (em _ _ ?_)))))
 refine Zp rfl (fun u => ?_) (fun u => ?_)
 ·have bv := u
  have u := Yf u
  refine Zq ?_
  refine Zb (de _ _ ?_)
  refine Zcs rfl bv ?_
  refine Zg fun fx en => ?_
  refine Zc (Za rfl rfl (Ze rfl) (Za rfl rfl (Ze rfl) (Za rfl rfl (Zay (by omega) rfl rfl) (Zk rfl rfl ?_))))
  refine Step.call (Zn (xs := [.tmp 36, .tmp 38]) fk126 rfl) (ih aj _ (by omega) (by omega)) fun cx fy a8 => ?_
  obtain ⟨l, aO, rfl, g, r, c, a9, cy⟩ := a8
  have eo := cy.size
  have E := E.trans cy
  obtain ⟨az, aA, rfl, aB, x⟩ := g.opn
  have cz := Zgw c (by omega)
  refine Za rfl rfl (Ze rfl) (Za rfl rfl (Ze rfl) (Za rfl rfl (Zay (by omega) rfl rfl) (Zk rfl rfl ?_)))
  refine Step.call (Zn (xs := [.tmp 40, .tmp 42]) fk126 rfl) (ih a9 _ (by omega) (by omega)) fun cA fz ba => ?_
  obtain ⟨m, aP, rfl, h, Q, d, bb, bW⟩ := ba
  have ep := bW.size
  have E := E.trans bW
  obtain ⟨aC, aD, rfl, aE, V⟩ := h.opn
  have cB := Zgw d (by omega)
  refine Za rfl rfl (Yr (parts := [(0, .const (Go.Value.int Go.IntKind.i64 5))]) (cells := [(.int .i64 5), (.int .i64 0), (.int .i64 0), (.int .i64 0)]) zr84 pl84 rfl rfl) (Zk rfl rfl ?_)
  have er := (g.ch bW (dS r x (by omega)))
  refine Step.call (Zn (xs := [.tmp 39, .tmp 43, .tmp 44]) fk111 rfl) (Xr er.ls h.ls ⟨5, 0, 0, 0⟩ (by first | omega | (simp only [List.length_nil]; omega))) fun cC fA M => ?_
  obtain ⟨cD, rfl, M, R, bX⟩ := M
  have es := bX.size
  have E := E.trans bX.of_nil
  obtain ⟨A, B, rfl, bw, X⟩ := M.opn
  refine Zk rfl rfl ?_
  have et := ((((al.ch aX (nS (by omega))).ch cy (nS (by omega))).ch bW (nS (by omega))).ch0 bX)
  refine Zt (off := 0) 1 et sz44 rfl (us := [(.slice A (l ++ m ++ [(⟨5, 0, 0, 0⟩ : Token)]).length B)]) rfl rfl rfl rfl fun df aF bY => ?_
  have eu := bY.size
  have E := E.step bY (lS (by omega))
  replace aF : Blk df aJ 44 [(.slice A (l ++ m ++ [(⟨5, 0, 0, 0⟩ : Token)]).length B)] := aF
  refine Zf (Zb (en _ _ ?_))
  refine Zr (Ya (Zl ?_))
  have ew := (M.ch bY (dS R X (by omega)))
  have bz : Ol Token.cs 84 4 df (.slice A (l ++ m ++ [(⟨5, 0, 0, 0⟩ : Token)]).length B) (l ++ m ++ [(⟨5, 0, 0, 0⟩ : Token)]) := by
   have hx := ew
   first | exact hx | simpa using hx
  have ex := ((bb.ch0 bX).ch bY (oS (by omega)))
  exact Zi [_] (Zu aF rfl agg44 sz44 trivial) ⟨(l ++ m ++ [(⟨5, 0, 0, 0⟩ : Token)]), (.slice A (l ++ m ++ [(⟨5, 0, 0, 0⟩ : Token)]).length B), rfl, bz, (Lo.down R (by omega)), (by first | exact Zdn (by omega) | exact Zbh a b rfl (by omega) | exact Zbh c d rfl (by omega) | exact Zbg o rfl (by omega) | exact Zbg p rfl (by omega)), ex, E⟩
 have bv := u
 have u := Ye u
 refine Zc (Za rfl rfl (Xj rfl rfl) (Za rfl rfl (Zd rfl) (Zf (Zb (de _ _ ?_)))))
 refine Zp rfl (fun u => ?_) (fun u => ?_)
 ·have cE := u
  have u := Yf u
  refine Zg fun fB ey => ?_
  refine Zc (Za rfl rfl (Ze rfl) (Za rfl rfl (Ze rfl) (Za rfl rfl (Zay (by omega) rfl rfl) (Zk rfl rfl ?_))))
  refine Step.call (Zn (xs := [.tmp 36, .tmp 38]) fk126 rfl) (ih aj _ (by omega) (by omega)) fun cx fC a8 => ?_
  obtain ⟨l, aO, rfl, g, r, c, a9, cF⟩ := a8
  have ez := cF.size
  have E := E.trans cF
  obtain ⟨az, aA, rfl, aB, x⟩ := g.opn
  have cz := Zgw c (by omega)
  refine Za rfl rfl (Ze rfl) (Za rfl rfl (Ze rfl) (Za rfl rfl (Zay (by omega) rfl rfl) (Zk rfl rfl ?_)))
  refine Step.call (Zn (xs := [.tmp 40, .tmp 42]) fk126 rfl) (ih a9 _ (by omega) (by omega)) fun cA fD ba => ?_
  obtain ⟨m, aP, rfl, h, Q, d, bb, bZ⟩ := ba
  have eA := bZ.size
  have E := E.trans bZ
  obtain ⟨aC, aD, rfl, aE, V⟩ := h.opn
  have cB := Zgw d (by omega)
  refine Za rfl rfl (Yr (parts := [(0, .const (Go.Value.int Go.IntKind.i64 5))]) (cells := [(.int .i64 5), (.int .i64 0), (.int .i64 0), (.int .i64 0)]) zr84 pl84 rfl rfl) (Zk rfl rfl ?_)
  have eB := (g.ch bZ (dS r x (by omega)))
  refine Step.call (Zn (xs := [.tmp 39, .tmp 43, .tmp 44]) fk111 rfl) (Xr eB.ls h.ls ⟨5, 0, 0, 0⟩ (by first | omega | (simp only [List.length_nil]; omega))) fun cC fE M => ?_
  obtain ⟨cD, rfl, M, R, b0⟩ := M
  have eC := b0.size
  have E := E.trans b0.of_nil
  obtain ⟨A, B, rfl, bw, X⟩ := M.opn
  refine Zk rfl rfl ?_
  have eD := ((((al.ch aX (nS (by omega))).ch cF (nS (by omega))).ch bZ (nS (by omega))).ch0 b0)
  refine Zt (off := 0) 1 eD sz44 rfl (us := [(.slice A (l ++ m ++ [(⟨5, 0, 0, 0⟩ : Token)]).length B)]) rfl rfl rfl rfl fun dg aG b1 => ?_
  have eE := b1.size
  have E := E.step b1 (lS (by omega))
  replace aG : Blk dg aJ 44 [(.slice A (l ++ m ++ [(⟨5, 0, 0, 0⟩ : Token)]).length B)] := aG
  refine Zf (Zb (ey _ _ ?_))
  refine Zr (Ya (Zl ?_))
  have eF := (M.ch b1 (dS R X (by omega)))
  have bA : Ol Token.cs 84 4 dg (.slice A (l ++ m ++ [(⟨5, 0, 0, 0⟩ : Token)]).length B) (l ++ m ++ [(⟨5, 0, 0, 0⟩ : Token)]) := by
   have hx := eF
   first | exact hx | simpa using hx
  have eG := ((bb.ch0 b0).ch b1 (oS (by omega)))
  exact Zi [_] (Zu aG rfl agg44 sz44 trivial) ⟨(l ++ m ++ [(⟨5, 0, 0, 0⟩ : Token)]), (.slice A (l ++ m ++ [(⟨5, 0, 0, 0⟩ : Token)]).length B), rfl, bA, (Lo.down R (by omega)), (by first | exact Zdn (by omega) | exact Zbh a b rfl (by omega) | exact Zbh c d rfl (by omega) | exact Zbg o rfl (by omega) | exact Zbg p rfl (by omega)), eG, E⟩
 have cE := u
 have u := Ye u
 refine Zg fun fF eH => ?_
 refine Zc (Za rfl rfl (Xj rfl rfl) (Za rfl rfl (Zd rfl) (Zf (Zb (eH _ _ ?_)))))
 refine Zp rfl (fun Y => ?_) (fun Y => ?_)
 ·have cG := Y
  have Y := Yf Y
  refine Zg fun fG eI => ?_
  refine Zc (Za rfl rfl (Ze rfl) (Za rfl rfl (Ze rfl) (Za rfl rfl (Zay (by omega) rfl rfl) (Zk rfl rfl ?_))))
  refine Step.call (Zn (xs := [.tmp 48, .tmp 50]) fk126 rfl) (ih aj _ (by omega) (by omega)) fun eJ fH cH => ?_
  obtain ⟨J, b2, rfl, F, aY, o, cI, cJ⟩ := cH
  have eK := cJ.size
  have E := E.trans cJ
  obtain ⟨bB, bC, rfl, bD, bc⟩ := F.opn
  have eL := Zgw o (by omega)
  refine Za rfl rfl (Yr (parts := []) (cells := [(.slice none 0 0)]) zr44 pl44 rfl rfl) (Za rfl rfl (Yr (parts := [(0, .const (Go.Value.int Go.IntKind.i64 6))]) (cells := [(.int .i64 6), (.int .i64 0), (.int .i64 0), (.int .i64 0)]) zr84 pl84 rfl rfl) (Zk rfl rfl ?_))
  refine Step.call (Zn (xs := [.tmp 51, .tmp 52, .tmp 53]) fk111 rfl) (Xr F.ls (Ls.nil (cs := Token.cs) (k := 4) _ 0 0) ⟨6, 0, 0, 0⟩ (by first | omega | (simp only [List.length_nil]; omega))) fun eM fI aQ => ?_
  obtain ⟨eN, rfl, aQ, aZ, b3⟩ := aQ
  have eO := b3.size
  have E := E.trans b3.of_nil
  obtain ⟨af, ag, rfl, dh, bd⟩ := aQ.opn
  refine Zk rfl rfl ?_
  have eP := (((al.ch aX (nS (by omega))).ch cJ (nS (by omega))).ch0 b3)
  refine Zt (off := 0) 1 eP sz44 rfl (us := [(.slice af (J ++ [] ++ [(⟨6, 0, 0, 0⟩ : Token)]).length ag)]) rfl rfl rfl rfl fun di aH b4 => ?_
  have eQ := b4.size
  have E := E.step b4 (lS (by omega))
  replace aH : Blk di aJ 44 [(.slice af (J ++ [] ++ [(⟨6, 0, 0, 0⟩ : Token)]).length ag)] := aH
  refine Zf (Zb (eI _ _ ?_))
  refine Zr (Ya (Zl ?_))
  have eR := (aQ.ch b4 (dS aZ bd (by omega)))
  have bF : Ol Token.cs 84 4 di (.slice af (J ++ [] ++ [(⟨6, 0, 0, 0⟩ : Token)]).length ag) (J ++ [] ++ [(⟨6, 0, 0, 0⟩ : Token)]) := by
   have hx := eR
   first | exact hx | simpa using hx
  have eS := ((cI.ch0 b3).ch b4 (oS (by omega)))
  exact Zi [_] (Zu aH rfl agg44 sz44 trivial) ⟨(J ++ [] ++ [(⟨6, 0, 0, 0⟩ : Token)]), (.slice af (J ++ [] ++ [(⟨6, 0, 0, 0⟩ : Token)]).length ag), rfl, bF, (Lo.down aZ (by omega)), (by first | exact Zdn (by omega) | exact Zbh a b rfl (by omega) | exact Zbh c d rfl (by omega) | exact Zbg o rfl (by omega) | exact Zbg p rfl (by omega)), eS, E⟩
 have cG := Y
 have Y := Ye Y
 refine Zq ?_
 refine Zv (Zb (dY _ _ ?_))
 refine Zg fun eT cK => ?_
 refine Zc (Za rfl rfl (Ze rfl) (Zk rfl rfl ?_))
 refine Step.call (Zn (xs := [.tmp 55, .const (Go.Value.int Go.IntKind.i64 3)]) fk42 rfl) (Xl aj _ (by omega)) fun eU eV cL => ?_
 obtain ⟨C, rfl, cM, cN, be⟩ := cL
 have dj := be.size
 have E := E.trans be
 refine Za rfl rfl (Yk (by omega) rfl rfl) (Za rfl rfl (Zd rfl) (Zf (Zb (cK _ _ ?_))))
 refine Zg fun eW cO => ?_
 refine Zc (Za rfl rfl (Ze rfl) (Za rfl rfl (Ze rfl) (Za rfl rfl (Zay (by omega) rfl rfl) (Zk rfl rfl ?_))))
 refine Step.call (Zn (xs := [.tmp 58, .tmp 60]) fk126 rfl) (ih cN _ (by omega) (by omega)) fun eX eY cP => ?_
 obtain ⟨K, b5, rfl, G, S, p, cQ, bf⟩ := cP
 have dk := bf.size
 have E := E.trans bf
 obtain ⟨bG, bH, rfl, bI, Z⟩ := G.opn
 have eZ := Zgw p (by omega)
 refine Za rfl rfl (Yr (parts := []) (cells := [(.slice none 0 0)]) zr44 pl44 rfl rfl) (Za rfl rfl (Ze rfl) (Za rfl rfl (Ze rfl) (Za rfl rfl (Yk (by omega) rfl rfl) (Zk rfl rfl ?_))))
 refine Step.call (Zn (xs := [.tmp 63, .tmp 65]) fk42 rfl) (Xl cQ _ (by omega)) fun e0 e1 cR => ?_
 obtain ⟨D, rfl, cS, cT, aR⟩ := cR
 have dl := aR.size
 have E := E.trans aR
 refine Za rfl rfl (Ze rfl) (Za rfl rfl (Yr (parts := [(0, .const (Go.Value.int Go.IntKind.i64 7)), (2, .tmp 66), (3, .tmp 67)]) (cells := [(.int .i64 7), (.int .i64 0), (.int .i64 D), (.int .i64 (1 + C))]) zr84 pl84 rfl rfl) (Zk rfl rfl ?_))
 have cU := (G.ch aR (dS S Z (by omega)))
 refine Step.call (Zn (xs := [.tmp 61, .tmp 62, .tmp 68]) fk111 rfl) (Xr cU.ls (Ls.nil (cs := Token.cs) (k := 4) _ 0 0) ⟨7, 0, D, (1 + C)⟩ (by first | omega | (simp only [List.length_nil]; omega))) fun e2 e3 aS => ?_
 obtain ⟨e4, rfl, aS, a0, aT⟩ := aS
 have dm := aT.size
 have E := E.trans aT.of_nil
 obtain ⟨ah, ai, rfl, dn, bg⟩ := aS.opn
 refine Zk rfl rfl ?_
 have cV := (((((al.ch aX (nS (by omega))).ch be (nS (by omega))).ch bf (nS (by omega))).ch aR (nS (by omega))).ch0 aT)
 refine Zt (off := 0) 1 cV sz44 rfl (us := [(.slice ah (K ++ [] ++ [(⟨7, 0, D, (1 + C)⟩ : Token)]).length ai)]) rfl rfl rfl rfl fun bJ aa aU => ?_
 have dp := aU.size
 have E := E.step aU (lS (by omega))
 replace aa : Blk bJ aJ 44 [(.slice ah (K ++ [] ++ [(⟨7, 0, D, (1 + C)⟩ : Token)]).length ai)] := aa
 refine Zf (Zb (cO _ _ ?_))
 refine Zr ?_
 have cW := (aS.ch aU (dS a0 bg (by omega)))
 have bh : Ol Token.cs 84 4 bJ (.slice ah (K ++ [] ++ [(⟨7, 0, D, (1 + C)⟩ : Token)]).length ai) (K ++ [] ++ [(⟨7, 0, D, (1 + C)⟩ : Token)]) := by
  have hx := cW
  first | exact hx | simpa using hx
 have cX := ((cT.ch0 aT).ch aU (oS (by omega)))
 exact Zi [_] (Zu aa rfl agg44 sz44 trivial) ⟨(K ++ [] ++ [(⟨7, 0, D, (1 + C)⟩ : Token)]), (.slice ah (K ++ [] ++ [(⟨7, 0, D, (1 + C)⟩ : Token)]).length ai), rfl, bh, (Lo.down a0 (by omega)), (by first | exact Zdn (by omega) | exact Zbh a b rfl (by omega) | exact Zbh c d rfl (by omega) | exact Zbg o rfl (by omega) | exact Zbg p rfl (by omega)), cX, E⟩
theorem Zjw {w : World} {b_c : Nat} (b : Cu w b_c) (deep : Int) (hd : 0 ≤ deep ∧ deep ≤ 3) :
 Ctr Try.prog 126 #[(.pointer (some ⟨b_c, 0, none⟩)), (.int .i64 deep)] w (fun v w' => ∃ (c : List Token) (a : Value), v = .agg #[a] ∧ Ol Token.cs 84 4 w' a (c) ∧ Lo w.heap.size a ∧ (1 ≤ c.length ∧ c.length + 1 ≤ 2 ^ (deep.toNat + 1)) ∧ Cu w' b_c ∧ Ch [b_c] w w') := Zhl _ b deep hd (Nat.lt_succ_self _)

/-- spec.l8Expr -/
theorem Zka {w : World} {b_c : Nat} (q : Cu w b_c) :
 Ctr Try.prog 100 #[(.pointer (some ⟨b_c, 0, none⟩))] w (fun v w' => ∃ (C : List Token) (m : Value), v = .agg #[m] ∧ Ol Token.cs 84 4 w' m (C) ∧ Lo w.heap.size m ∧ (1 ≤ C.length ∧ C.length ≤ 24) ∧ Cu w' b_c ∧ Ch [b_c] w w') := by
 have L := q.lt
 have E := Ch.refl [b_c] w
 refine Yc (N := 12) (vs0 := [(.pointer (some ⟨b_c, 0, none⟩))]) Try.func100 rfl rfl rfl ?_
 refine Zg fun K1 H1 => ?_
 refine Zc (Zk rfl rfl ?_)
 refine Yp zr44 fun D W2 r C2 am => ?_
 have an := C2.size
 have E := E.trans C2.of_nil
 have ao := r.lt
 replace r : Blk W2 D 44 [(.slice none 0 0)] := r
 refine Zf (Zb (H1 _ _ ?_))
 refine Zg fun K3 H3 => ?_
 refine Zg fun K4 H4 => ?_
 refine Zc (Za rfl rfl (Ze rfl) (Zk rfl rfl ?_))
 have F5 := (q.ch0 C2)
 refine Step.call (Zn (xs := [.tmp 3, .const (Go.Value.int Go.IntKind.i64 2)]) fk96 rfl) (Zal F5 _ (by omega)) fun ap W6 R => ?_
 obtain ⟨S, rfl, M, C6⟩ := R
 have aq := C6.size
 have E := E.trans C6
 refine Zf (Zb (H4 _ _ ?_))
 refine Zp rfl (fun F => ?_) (fun F => ?_)
 ·have T := F
  refine Zg fun K8 H8 => ?_
  refine Zc (Za rfl rfl (Ze rfl) (Zk rfl rfl ?_))
  refine Step.call (Zn (xs := [.tmp 5]) fk125 rfl) (Zid M ) fun au W9 U => ?_
  obtain ⟨k, G, rfl, h, f, s, V, C9⟩ := U
  have av := C9.size
  have E := E.trans C9
  obtain ⟨d, e, rfl, y, l⟩ := h.opn
  refine Zk rfl rfl ?_
  have X := ((r.ch C6 (nS (by omega))).ch C9 (nS (by omega)))
  refine Zt (off := 0) 1 X sz44 rfl (us := [(.slice d (k).length e)]) rfl rfl rfl rfl fun O n z => ?_
  have Y := z.size
  have E := E.step z (lS (by omega))
  replace n : Blk O D 44 [(.slice d (k).length e)] := n
  refine Zf (Zb (H8 _ _ ?_))
  refine Zr (Zl ?_)
  have Z := (h.ch z (dS f l (by omega)))
  have t : Ol Token.cs 84 4 O (.slice d (k).length e) (k) := by
   have hx := Z
   first | exact hx | simpa using hx
  have aa := (V.ch z (oS (by omega)))
  exact Zi [_] (Zu n rfl agg44 sz44 trivial) ⟨k, (.slice d (k).length e), rfl, t, (Lo.down f (by omega)), s, aa, E⟩
 have T := F
 refine Zq ?_
 refine Zb (H3 _ _ ?_)
 refine Zg fun aw ab => ?_
 refine Zc (Za rfl rfl (Ze rfl) (Za rfl rfl (Ze rfl) (Zk rfl rfl ?_)))
 refine Step.call (Zn (xs := [.tmp 8, .const (Go.Value.int Go.IntKind.i64 3)]) fk42 rfl) (Xl M _ (by omega)) fun ax ay ac => ?_
 obtain ⟨ad, rfl, P, ae, H⟩ := ac
 have af := H.size
 have E := E.trans H
 refine Za rfl rfl (Yk (by omega) rfl rfl) (Zk rfl rfl ?_)
 refine Step.call (Zn (xs := [.tmp 7, .tmp 10]) fk126 rfl) (Zjw ae _ (by omega)) fun ag az I => ?_
 obtain ⟨i, A, rfl, g, c, p, J, K⟩ := I
 have ah := K.size
 have E := E.trans K
 obtain ⟨a, b, rfl, u, j⟩ := g.opn
 refine Zk rfl rfl ?_
 have ai := (((r.ch C6 (nS (by omega))).ch H (nS (by omega))).ch K (nS (by omega)))
 refine Zt (off := 0) 1 ai sz44 rfl (us := [(.slice a (i).length b)]) rfl rfl rfl rfl fun Q o B => ?_
 have aj := B.size
 have E := E.step B (lS (by omega))
 replace o : Blk Q D 44 [(.slice a (i).length b)] := o
 refine Zf (Zb (ab _ _ ?_))
 refine Zr ?_
 have ak := (g.ch B (dS c j (by omega)))
 have x : Ol Token.cs 84 4 Q (.slice a (i).length b) (i) := by
  have hx := ak
  first | exact hx | simpa using hx
 have al := (J.ch B (oS (by omega)))
 exact Zi [_] (Zu o rfl agg44 sz44 trivial) ⟨i, (.slice a (i).length b), rfl, x, (Lo.down c (by omega)), (by have aA := Zgw p (by omega); omega), al, E⟩

/-- spec.l11Aut -/
theorem Zjv {w : World} {b_c : Nat} (a9 : Cu w b_c) :
 Ctr Try.prog 84 #[(.pointer (some ⟨b_c, 0, none⟩))] w (fun v w' => ∃ (ba : Int) (aR : List Bool) (am : List (List Int)) (an : Value) (ao : Value) (ag : List Sv), v = .agg #[.int .i64 ba, an, ao] ∧ Ol bcs 4 1 w' an (aR) ∧ Lo w.heap.size an ∧ Ol Sv.cs 30 1 w' ao ag ∧ Lo w.heap.size ao ∧ Od ics 3 1 w' w.heap.size w'.heap.size ag (am) ∧ Sep ao ag ∧ (∀ g ∈ bl an, g ∉ bl ao) ∧ Sep an ag ∧ (1 ≤ am.length ∧ am.length ≤ 12 ∧ aR.length = am.length) ∧ (∀ r ∈ am, r.length = 9) ∧ Cu w' b_c ∧ Ch [b_c] w w') := by
 have b0 := a9.lt
 have E := Ch.refl [b_c] w
 refine Yc (N := 27) (vs0 := [(.pointer (some ⟨b_c, 0, none⟩))]) Try.func84 rfl rfl rfl ?_
 refine Zg fun K1 H1 => ?_
 refine Zc (Zk rfl rfl ?_)
 refine Yp zr27 fun bB W2 a0 C2 cT => ?_
 have cU := C2.size
 have E := E.trans C2.of_nil
 have cV := a0.lt
 replace a0 : Blk W2 bB 27 [(.int .i64 0), (.slice none 0 0), (.slice none 0 0)] := a0
 refine Zf (Zb (H1 _ _ ?_))
 refine Zg fun K3 H3 => ?_
 refine Zg fun K4 H4 => ?_
 refine Zc (Za rfl rfl (Ze rfl) (Zk rfl rfl ?_))
 have F5 := (a9.ch0 C2)
 refine Step.call (Zn (xs := [.tmp 7, .const (Go.Value.int Go.IntKind.i64 3)]) fk96 rfl) (Zal F5 _ (by omega)) fun cW W6 b5 => ?_
 obtain ⟨b6, rfl, b1, C6⟩ := b5
 have cX := C6.size
 have E := E.trans C6
 refine Zf (Zb (H4 _ _ ?_))
 refine Zp rfl (fun bP => ?_) (fun bP => ?_)
 ·have b7 := bP
  refine Zg fun K8 H8 => ?_
  refine Zc (Za rfl rfl (Ze rfl) (Zk rfl rfl ?_))
  refine Step.call (Zn (xs := [.tmp 9]) fk119 rfl) (Zcy b1 ) fun b8 W9 bQ => ?_
  obtain ⟨ah, k, aF, bC, bD, b, rfl, R, M, S, O, ai, ad, H, o, aV, aW, bR, C9⟩ := bQ
  have cY := C9.size
  have E := E.trans C9
  obtain ⟨s, t, rfl, bb, az⟩ := R.opn
  obtain ⟨u, x, rfl, bc, aA⟩ := S.opn
  refine Zk rfl rfl ?_
  have b9 := ((a0.ch C6 (nS (by omega))).ch C9 (nS (by omega)))
  refine Zt (off := 0) 3 b9 sz27 rfl (us := [(.int .i64 ah), (.slice s (k).length t), (.slice u (b).length x)]) rfl rfl rfl rfl fun a1 aI a2 => ?_
  have ca := a2.size
  have E := E.step a2 (lS (by omega))
  replace aI : Blk a1 bB 27 [(.int .i64 ah), (.slice s (k).length t), (.slice u (b).length x)] := aI
  refine Zf (Zb (H8 _ _ ?_))
  refine Zr (Zl ?_)
  have cb := (R.ch a2 (dS M az (by omega)))
  have bd : Ol bcs 4 1 a1 (.slice s (k).length t) (k) := by
   have hx := cb
   first | exact hx | simpa using hx
  have cc := (S.ch a2 (dS O aA (by omega)))
  have cd := (ai.ch a2 (oS (by omega)))
  have be : Ol Sv.cs 30 1 a1 (.slice u (b).length x) b := by
   have hx := cc
   exact hx
  have bf : Od ics 3 1 a1 w.heap.size a1.heap.size b (aF) := by
   have hx := cd.up (lo' := w.heap.size) (hi' := a1.heap.size) (by omega) (by omega)
   exact hx
  have ce := (bR.ch a2 (oS (by omega)))
  exact Zi [_] (Zu aI rfl agg27 sz27 trivial) ⟨ah, k, aF, (.slice s (k).length t), (.slice u (b).length x), b, (congrArg (fun zq => (Value.agg #[.int .i64 zq, (.slice s (k).length t), (.slice u (b).length x)])) (by first | rfl | simp_all)), bd, (Lo.down M (by omega)), be, (Lo.down O (by omega)), bf, ad, (fun g hm hg => by exact H _ hm hg), o, aV, aW, ce, E⟩
 have b7 := bP
 refine Zq ?_
 refine Zb (H3 _ _ ?_)
 refine Zg fun cZ cf => ?_
 refine Zc (Za rfl rfl (Ze rfl) (Zk rfl rfl ?_))
 refine Step.call (Zn (xs := [.tmp 12]) fk100 rfl) (Zka b1 ) fun cg c0 bS => ?_
 obtain ⟨y, bF, rfl, T, aS, bT, bg, bG⟩ := bS
 have ci := bG.size
 have E := E.trans bG
 obtain ⟨bh, bi, rfl, bj, aX⟩ := T.opn
 refine Zk rfl rfl ?_
 refine Step.call (Zn (xs := [.tmp 13]) fk27 rfl) (Zdu T.ls (by omega)) fun cj c1 bU => ?_
 obtain ⟨bH, bI, rfl, U, ap, V, aq, ay, a3⟩ := bU
 have ck := a3.size
 have E := E.trans a3.of_nil
 obtain ⟨au, av, rfl, bk, aB⟩ := U.opn
 obtain ⟨aw, ax, rfl, bm, aC⟩ := V.opn
 have c2 := Zvk y
 refine Za rfl rfl (Ze rfl) (Za rfl rfl (Xm rfl rfl) (Za rfl rfl (Xm rfl rfl) (Zk rfl rfl ?_)))
 refine Yp zr48 fun b2 cm bJ aT c3 => ?_
 have cn := aT.size
 have E := E.trans aT.of_nil
 have c4 := bJ.lt
 replace bJ : Blk cm b2 48 [(.slice none 0 0), (.int .i64 0), (.int .i64 0), (.slice none 0 0), (.bool false)] := bJ
 refine Zk rfl rfl ?_
 refine Zt (off := 0) 5 bJ sz48 rfl (us := [(.slice au ((bpE y).1.L).length av), (.int .i64 ((bpE y).1.f)), (.int .i64 ((bpE y).1.l)), (.slice aw ((bpE y).1.F).length ax), (.bool ((bpE y).1.n))]) rfl rfl rfl rfl fun co aJ aU => ?_
 have cp := aU.size
 have E := E.step aU (lS (by omega))
 replace aJ : Blk co b2 48 [(.slice au ((bpE y).1.L).length av), (.int .i64 ((bpE y).1.f)), (.int .i64 ((bpE y).1.l)), (.slice aw ((bpE y).1.F).length ax), (.bool ((bpE y).1.n))] := aJ
 refine Za rfl rfl (Zd rfl) (Zf (Zb (cf _ _ ?_)))
 refine Zg fun c5 cq => ?_
 refine Zc (Za rfl rfl (Zw aJ.at_ agg48 sz48 rfl) (Zk rfl rfl ?_))
 have cr := ((U.ch0 aT).ch aU (dS ap aB (by omega)))
 have ct := ((V.ch0 aT).ch aU (dS aq aC (by omega)))
 refine Step.call (Zn (xs := [.tmp 18, .const (Go.Value.int Go.IntKind.i64 12)]) fk120 rfl) (Zfk cr.ls _ _ ct.ls _ _ (by omega) (by omega) (by omega)) fun cu c6 bV => ?_
 obtain ⟨K, d, aG, b3, bK, bL, a, rfl, X, z, Y, A, aj, ae, I, p, aK, a4⟩ := bV
 have cv := a4.size
 have E := E.trans a4.of_nil
 obtain ⟨e, h, rfl, bn, Z⟩ := X.opn
 obtain ⟨i, j, rfl, bp, aa⟩ := Y.opn
 refine Za rfl rfl (Ze rfl) (Za rfl rfl (Xm rfl rfl) (Za rfl rfl (Xm rfl rfl) (Zk rfl rfl ?_)))
 refine Yp zr27 fun b4 cw bM aP c7 => ?_
 have cx := aP.size
 have E := E.trans aP.of_nil
 have c8 := bM.lt
 replace bM : Blk cw b4 27 [(.int .i64 0), (.slice none 0 0), (.slice none 0 0)] := bM
 refine Zk rfl rfl ?_
 refine Zt (off := 0) 3 bM sz27 rfl (us := [(.int .i64 K), (.slice e (d).length h), (.slice i (a).length j)]) rfl rfl rfl rfl fun cy aL aQ => ?_
 have cz := aQ.size
 have E := E.step aQ (lS (by omega))
 replace aL : Blk cy b4 27 [(.int .i64 K), (.slice e (d).length h), (.slice i (a).length j)] := aL
 refine Za rfl rfl (Zd rfl) (Zf (Zb (cq _ _ ?_)))
 refine Zg fun c9 cA => ?_
 refine Zg fun da cB => ?_
 refine Zc (Za rfl rfl (Ze rfl) (Za rfl rfl (Xu rfl) (Zf (Zb (cB _ _ ?_)))))
 refine Zp rfl (fun aM => ?_) (fun aM => ?_)
 ·have bW := aM
  refine Zg fun db cC => ?_
  refine Zc (Za rfl rfl (Ze rfl) (Zk rfl rfl ?_))
  have cD := ((((((bg.ch0 a3).ch0 aT).ch aU (oS (by omega))).ch0 a4).ch0 aP).ch aQ (oS (by omega)))
  refine Step.call (Zn (xs := [.tmp 24]) fk119 rfl) (Zcy cD ) fun cE dc bX => ?_
  obtain ⟨ak, m, aH, bN, bO, c, rfl, ab, P, ac, Q, al, af, J, q, aY, aZ, bY, bZ⟩ := bX
  have cF := bZ.size
  have E := E.trans bZ
  obtain ⟨B, C, rfl, bq, aD⟩ := ab.opn
  obtain ⟨D, G, rfl, br, aE⟩ := ac.opn
  refine Zk rfl rfl ?_
  have cG := (((((((((a0.ch C6 (nS (by omega))).ch bG (nS (by omega))).ch0 a3).ch0 aT).ch aU (nS (by omega))).ch0 a4).ch0 aP).ch aQ (nS (by omega))).ch bZ (nS (by omega)))
  refine Zt (off := 0) 3 cG sz27 rfl (us := [(.int .i64 ak), (.slice B (m).length C), (.slice D (c).length G)]) rfl rfl rfl rfl fun a5 aN a6 => ?_
  have cH := a6.size
  have E := E.step a6 (lS (by omega))
  replace aN : Blk a5 bB 27 [(.int .i64 ak), (.slice B (m).length C), (.slice D (c).length G)] := aN
  refine Zf (Zb (cC _ _ ?_))
  refine Zr (Zl ?_)
  have cI := (ab.ch a6 (dS P aD (by omega)))
  have bs : Ol bcs 4 1 a5 (.slice B (m).length C) (m) := by
   have hx := cI
   first | exact hx | simpa using hx
  have cJ := (ac.ch a6 (dS Q aE (by omega)))
  have cK := (al.ch a6 (oS (by omega)))
  have bu : Ol Sv.cs 30 1 a5 (.slice D (c).length G) c := by
   have hx := cJ
   exact hx
  have bv : Od ics 3 1 a5 w.heap.size a5.heap.size c (aH) := by
   have hx := cK.up (lo' := w.heap.size) (hi' := a5.heap.size) (by omega) (by omega)
   exact hx
  have cL := (bY.ch a6 (oS (by omega)))
  exact Zi [_] (Zu aN rfl agg27 sz27 trivial) ⟨ak, m, aH, (.slice B (m).length C), (.slice D (c).length G), c, (congrArg (fun zq => (Value.agg #[.int .i64 zq, (.slice B (m).length C), (.slice D (c).length G)])) (by first | rfl | simp_all)), bs, (Lo.down P (by omega)), bu, (Lo.down Q (by omega)), bv, af, (fun g hm hg => by exact J _ hm hg), q, aY, aZ, cL, E⟩
 have bW := aM
 refine Zq ?_
 refine Zb (cA _ _ ?_)
 refine Zg fun dd cM => ?_
 refine Zc (Za rfl rfl (Zw aL.at_ agg27 sz27 rfl) (Zk rfl rfl ?_))
 have cN := ((((((((a0.ch C6 (nS (by omega))).ch bG (nS (by omega))).ch0 a3).ch0 aT).ch aU (nS (by omega))).ch0 a4).ch0 aP).ch aQ (nS (by omega)))
 refine Zt (off := 0) 3 cN sz27 rfl (us := [(.int .i64 K), (.slice e (d).length h), (.slice i (a).length j)]) rfl rfl rfl rfl fun a7 aO a8 => ?_
 have cO := a8.size
 have E := E.step a8 (lS (by omega))
 replace aO : Blk a7 bB 27 [(.int .i64 K), (.slice e (d).length h), (.slice i (a).length j)] := aO
 refine Zf (Zb (cM _ _ ?_))
 refine Zr ?_
 have cP := (((X.ch0 aP).ch aQ (dS z Z (by omega))).ch a8 (dS z Z (by omega)))
 have bw : Ol bcs 4 1 a7 (.slice e (d).length h) (d) := by
  have hx := cP
  first | exact hx | simpa using hx
 have cQ := (((Y.ch0 aP).ch aQ (dS A aa (by omega))).ch a8 (dS A aa (by omega)))
 have cR := (((aj.ch0 aP).ch aQ (oS (by omega))).ch a8 (oS (by omega)))
 have bz : Ol Sv.cs 30 1 a7 (.slice i (a).length j) a := by
  have hx := cQ
  exact hx
 have bA : Od ics 3 1 a7 w.heap.size a7.heap.size a (aG) := by
  have hx := cR.up (lo' := w.heap.size) (hi' := a7.heap.size) (by omega) (by omega)
  exact hx
 have cS := (((((((bg.ch0 a3).ch0 aT).ch aU (oS (by omega))).ch0 a4).ch0 aP).ch aQ (oS (by omega))).ch a8 (oS (by omega)))
 exact Zi [_] (Zu aO rfl agg27 sz27 trivial) ⟨K, d, aG, (.slice e (d).length h), (.slice i (a).length j), a, (congrArg (fun zq => (Value.agg #[.int .i64 zq, (.slice e (d).length h), (.slice i (a).length j)])) (by first | rfl | simp_all)), bw, (Lo.down z (by omega)), bz, (Lo.down A (by omega)), bA, ae, (fun g hm hg => by exact I _ hm hg), p, (by have de := aK (by simpa using aM); omega), (aK (by simpa using aM)).2.2.2, cS, E⟩

/-- spec.l11Any -/
theorem Zjy {w : World} {b_c : Nat} (bk : Cu w b_c) :
 Ctr Try.prog 41 #[(.pointer (some ⟨b_c, 0, none⟩))] w (fun v w' => ∃ (bm : Int) (aM : List Bool) (aN : List (List Int)) (S : Value) (T : Value) (M : List Sv), v = .agg #[.int .i64 bm, S, T] ∧ Ol bcs 4 1 w' S (aM) ∧ Lo w.heap.size S ∧ Ol Sv.cs 30 1 w' T M ∧ Lo w.heap.size T ∧ Od ics 3 1 w' w.heap.size w'.heap.size M (aN) ∧ Sep T M ∧ (∀ g ∈ bl S, g ∉ bl T) ∧ Sep S M ∧ (aM.length ≤ 13 ∧ aN.length ≤ 12) ∧ Cu w' b_c ∧ Ch [b_c] w w') := by
 have cN := bk.lt
 have E := Ch.refl [b_c] w
 refine Yc (N := 42) (vs0 := [(.pointer (some ⟨b_c, 0, none⟩))]) Try.func41 rfl rfl rfl ?_
 refine Zg fun K1 H1 => ?_
 refine Zc (Zk rfl rfl ?_)
 refine Yp zr27 fun bd W2 aO C2 eH => ?_
 have eI := C2.size
 have E := E.trans C2.of_nil
 have eJ := aO.lt
 replace aO : Blk W2 bd 27 [(.int .i64 0), (.slice none 0 0), (.slice none 0 0)] := aO
 refine Zf (Zb (H1 _ _ ?_))
 refine Zg fun K3 H3 => ?_
 refine Zc (Za rfl rfl (Ze rfl) (Zk rfl rfl ?_))
 have F4 := (bk.ch0 C2)
 refine Step.call (Zn (xs := [.tmp 4]) fk84 rfl) (Zjv F4 ) fun eK W5 dh => ?_
 obtain ⟨r, k, z, bZ, b0, a, rfl, t, c, x, b, s, q, o, l, cO, aP, di, C5⟩ := dh
 have eL := C5.size
 have E := E.trans C5
 obtain ⟨m, n, rfl, bU, h⟩ := t.opn
 obtain ⟨e, f, rfl, bV, d⟩ := x.opn
 refine Zk rfl rfl ?_
 refine Yp zr27 fun bW W6 bX C6 eM => ?_
 have eN := C6.size
 have E := E.trans C6.of_nil
 have eO := bX.lt
 replace bX : Blk W6 bW 27 [(.int .i64 0), (.slice none 0 0), (.slice none 0 0)] := bX
 refine Zk rfl rfl ?_
 refine Zt (off := 0) 3 bX sz27 rfl (us := [(.int .i64 r), (.slice m (k).length n), (.slice e (a).length f)]) rfl rfl rfl rfl fun W7 Y C7 => ?_
 have eP := C7.size
 have E := E.step C7 (lS (by omega))
 replace Y : Blk W7 bW 27 [(.int .i64 r), (.slice m (k).length n), (.slice e (a).length f)] := Y
 refine Zf (Zb (H3 _ _ ?_))
 refine Zg fun K9 H9 => ?_
 refine Zg fun eQ dj => ?_
 refine Zc (Za rfl rfl (Ze rfl) (Zk rfl rfl ?_))
 have dk := ((di.ch0 C6).ch C7 (oS (by omega)))
 refine Step.call (Zn (xs := [.tmp 6, .const (Go.Value.int Go.IntKind.i64 14)]) fk42 rfl) (Xl dk _ (by omega)) fun eR b1 dl => ?_
 obtain ⟨dm, rfl, cP, bn, A⟩ := dl
 have dn := A.size
 have E := E.trans A
 refine Zf (Zb (dj _ _ ?_))
 refine Zx ?_
 refine Zg fun eS dp => ?_
 refine Zc (Za rfl rfl (Xj rfl rfl) (Za rfl rfl (Zd rfl) (Zf (Zb (dp _ _ ?_)))))
 refine Zp rfl (fun aV => ?_) (fun aV => ?_)
 ·have b2 := aV
  have aV := Yf aV
  refine Zc (Za rfl rfl (Ze rfl) (Zk rfl rfl ?_))
  refine Zo (cs := ics) (parts := [(0, .const (Go.Value.int Go.IntKind.i64 (-1))), (1, .const (Go.Value.int Go.IntKind.i64 12)), (2, .const (Go.Value.int Go.IntKind.i64 1))]) (0 : Int) [(-1), 12, 1] el30 sz3 zr3 Yh (by decide) rfl rfl rfl (by decide) (by decide) rfl fun dq eT bp bq aQ => ?_
  have dr := aQ.size
  have E := E.trans aQ.of_nil
  obtain ⟨cQ, cR, rfl, cS, b3⟩ := bp.opn
  refine Zk rfl rfl ?_
  have ds := (bn.ch0 aQ)
  refine Step.call (Zn (xs := [.tmp 10, .tmp 11]) fk85 rfl) (Zaq ds bp (by decide) b1.heap.size (by omega) bq) fun dt eU b4 => ?_
  obtain ⟨ag, rfl, b5, b6, aW⟩ := b4
  have du := aW.size
  have E := E.trans aW
  refine Za rfl rfl (Zh fa27_0 rfl) (Zk rfl rfl ?_)
  have dv := (((Y.ch A (nS (by omega))).ch0 aQ).ch aW (nS (by omega)))
  refine Yv (off := 0) dv sz3 rfl rfl rfl rfl fun dw aq aX => ?_
  have dx := aX.size
  have E := E.step aX (lS (by omega))
  replace aq : Blk dw bW 27 [(.int .i64 ag), (.slice m (k).length n), (.slice e (a).length f)] := aq
  refine Zf (Zv (Zb (H9 _ _ ?_)))
  refine Zg fun eV dy => ?_
  refine Zc (Za rfl rfl (Zw aq.at_ agg27 sz27 rfl) (Zk rfl rfl ?_))
  have dz := (((((((aO.ch C5 (nS (by omega))).ch0 C6).ch C7 (nS (by omega))).ch A (nS (by omega))).ch0 aQ).ch aW (nS (by omega))).ch aX (nS (by omega)))
  refine Zt (off := 0) 3 dz sz27 rfl (us := [(.int .i64 ag), (.slice m (k).length n), (.slice e (a).length f)]) rfl rfl rfl rfl fun be au bf => ?_
  have dA := bf.size
  have E := E.step bf (lS (by omega))
  replace au : Blk be bd 27 [(.int .i64 ag), (.slice m (k).length n), (.slice e (a).length f)] := au
  refine Zf (Zb (dy _ _ ?_))
  refine Zr ?_
  have dB := (((((((t.ch0 C6).ch C7 (dS c h (by omega))).ch A (dS c h (by omega))).ch0 aQ).ch aW (dS c h (by omega))).ch aX (dS c h (by omega))).ch bf (dS c h (by omega)))
  have br : Ol bcs 4 1 be (.slice m (k).length n) (k) := by
   have hx := dB
   first | exact hx | simpa using hx
  have dC := (((((((x.ch0 C6).ch C7 (dS b d (by omega))).ch A (dS b d (by omega))).ch0 aQ).ch aW (dS b d (by omega))).ch aX (dS b d (by omega))).ch bf (dS b d (by omega)))
  have dD := (((((((s.ch0 C6).ch C7 (oS (by omega))).ch A (oS (by omega))).ch0 aQ).ch aW (oS (by omega))).ch aX (oS (by omega))).ch bf (oS (by omega)))
  have bs : Ol Sv.cs 30 1 be (.slice e (a).length f) a := by
   have hx := dC
   exact hx
  have bu : Od ics 3 1 be w.heap.size be.heap.size a (z) := by
   have hx := dD.up (lo' := w.heap.size) (hi' := be.heap.size) (by omega) (by omega)
   exact hx
  have dE := ((b6.ch aX (oS (by omega))).ch bf (oS (by omega)))
  exact Zi [_] (Zu au rfl agg27 sz27 trivial) ⟨ag, k, z, (.slice m (k).length n), (.slice e (a).length f), a, (congrArg (fun zq => (Value.agg #[.int .i64 zq, (.slice m (k).length n), (.slice e (a).length f)])) (by first | rfl | simp_all)), br, (Lo.down c (by omega)), bs, (Lo.down b (by omega)), bu, q, (fun g hm hg => by exact o _ hm hg), l, (by first | omega | (simp only [List.length_append, List.length_singleton, List.length_set]; omega)), dE, E⟩
 have b2 := aV
 have aV := Ye aV
 refine Zg fun eW dF => ?_
 refine Zc (Za rfl rfl (Xj rfl rfl) (Za rfl rfl (Zd rfl) (Zf (Zb (dF _ _ ?_)))))
 refine Zp rfl (fun Z => ?_) (fun Z => ?_)
 ·have b7 := Z
  have Z := Yf Z
  refine Zc (Za rfl rfl (Zh fa27_1 rfl) ?_)
  have cT := (Y.ch A (nS (by omega)))
  refine Za rfl rfl (Zm cT.at_ agg24 rfl rfl) (Zk rfl rfl ?_)
  refine Zo (cs := bcs) (parts := [(0, .const (Go.Value.bool true))]) false [true] el24 sz4 zr4 Qq (by decide) rfl rfl rfl (by decide) (by decide) rfl fun dG eX bv cU aR => ?_
  have dH := aR.size
  have E := E.trans aR.of_nil
  obtain ⟨cV, cW, rfl, cX, b8⟩ := bv.opn
  refine Zk rfl rfl ?_
  have dI := ((((t.ch0 C6).ch C7 (dS c h (by omega))).ch A (dS c h (by omega))).ch0 aR)
  refine Yd (cs := bcs) el24 sz4 by4 zr4 rfl (by decide) Zbo dI bv.ls rfl rfl (by first | omega | (simp only [List.length_append, List.length_nil, List.length_cons, List.length_replicate, List.length_set, List.length_reverse, List.length_map] at *; omega) | (simp at *; omega)) (by first | omega | (simp only [List.length_append, List.length_nil, List.length_cons, List.length_replicate, List.length_set, List.length_reverse, List.length_map] at *; omega) | (simp at *; omega)) c (by omega) fun dJ eY bw bz ah aY => ?_
  have dL := aY.size
  have E := E.step aY (fun i hi => .inl (by have R := c _ hi; omega))
  obtain ⟨K, L, rfl, cY, O⟩ := bw.opn
  refine Za rfl rfl (Zh fa27_1 rfl) (Zk rfl rfl ?_)
  have dM := ((cT.ch0 aR).ch aY (fun hm => by have R := c _ hm; have aa := h _ hm; omega))
  refine Yv (off := 1) dM sz24 rfl rfl rfl rfl fun dN av aZ => ?_
  have dP := aZ.size
  have E := E.step aZ (lS (by omega))
  replace av : Blk dN bW 27 [(.int .i64 r), (.slice K ((k ++ [true])).length L), (.slice e (a).length f)] := av
  refine Zf (Zv (Zb (H9 _ _ ?_)))
  refine Zg fun eZ dQ => ?_
  refine Zc (Za rfl rfl (Zw av.at_ agg27 sz27 rfl) (Zk rfl rfl ?_))
  have dR := (((((((aO.ch C5 (nS (by omega))).ch0 C6).ch C7 (nS (by omega))).ch A (nS (by omega))).ch0 aR).ch aY (fun hm => by have R := c _ hm; have aa := h _ hm; omega)).ch aZ (nS (by omega)))
  refine Zt (off := 0) 3 dR sz27 rfl (us := [(.int .i64 r), (.slice K ((k ++ [true])).length L), (.slice e (a).length f)]) rfl rfl rfl rfl fun bg aw bh => ?_
  have dU := bh.size
  have E := E.step bh (lS (by omega))
  replace aw : Blk bg bd 27 [(.int .i64 r), (.slice K ((k ++ [true])).length L), (.slice e (a).length f)] := aw
  refine Zf (Zb (dQ _ _ ?_))
  refine Zr ?_
  have dW := ((bw.ch aZ (fun g hg hm => by have b9 := List.mem_singleton.1 hm; rcases ah with ea | ea; (rw [ea] at hg; have aa := c _ hg; have cZ := h _ hg; omega); (have ca := O _ hg; rw [ea] at hg; have cb := List.mem_singleton.1 hg; omega))).ch bh (fun g hg hm => by have b9 := List.mem_singleton.1 hm; rcases ah with ea | ea; (rw [ea] at hg; have aa := c _ hg; have cZ := h _ hg; omega); (have ca := O _ hg; rw [ea] at hg; have cb := List.mem_singleton.1 hg; omega)))
  have bA : Ol bcs 4 1 bg (.slice K ((k ++ [true])).length L) ((k ++ [true])) := by
   have hx := dW
   first | exact hx | simpa using hx
  have dX := (((((((x.ch0 C6).ch C7 (dS b d (by omega))).ch A (dS b d (by omega))).ch0 aR).ch aY (fun g hg hm => by exact o _ hm hg)).ch aZ (dS b d (by omega))).ch bh (dS b d (by omega)))
  have c0 := (((((((s.ch0 C6).ch C7 (oS (by omega))).ch A (oS (by omega))).ch0 aR).chS aY l).ch aZ (oS (by omega))).ch bh (oS (by omega)))
  have bB : Ol Sv.cs 30 1 bg (.slice e (a).length f) a := by
   have hx := dX
   exact hx
  have bC : Od ics 3 1 bg w.heap.size bg.heap.size a (z) := by
   have hx := c0.up (lo' := w.heap.size) (hi' := bg.heap.size) (by omega) (by omega)
   exact hx
  have dY := ((((bn.ch0 aR).ch aY (fun i hm => by have R := c _ hm; have aa := h _ hm; omega)).ch aZ (oS (by omega))).ch bh (oS (by omega)))
  exact Zi [_] (Zu aw rfl agg27 sz27 trivial) ⟨r, (k ++ [true]), z, (.slice K ((k ++ [true])).length L), (.slice e (a).length f), a, (congrArg (fun zq => (Value.agg #[.int .i64 zq, (.slice K ((k ++ [true])).length L), (.slice e (a).length f)])) (by first | rfl | simp_all)), bA, (Lo.down bz (by omega)), bB, (Lo.down b (by omega)), bC, q, (fun g hm hg => by rcases ah with ea | ea; (rw [ea] at hm; exact o _ hm hg); (have cc := O _ hm; rw [ea] at hm; have cb := List.mem_singleton.1 hm; have cZ := b _ hg; have e0 := d _ hg; omega)), (fun u hu g hg hm => by rcases ah with ea | ea; (rw [ea] at hm; exact l _ hu _ hg hm); (have cc := O _ hm; rw [ea] at hm; have cb := List.mem_singleton.1 hm; have aH := c0.rng hu hg; omega)), (by first | omega | (simp only [List.length_append, List.length_singleton, List.length_set]; omega)), dY, E⟩
 have b7 := Z
 have Z := Ye Z
 refine Zg fun e1 dZ => ?_
 refine Zc (Za rfl rfl (Xj rfl rfl) (Za rfl rfl (Zd rfl) (Zf (Zb (dZ _ _ ?_)))))
 refine Zp rfl (fun ab => ?_) (fun ab => ?_)
 ·have cd := ab
  have ab := Yf ab
  have c1 := (((x.ch0 C6).ch C7 (dS b d (by omega))).ch A (dS b d (by omega)))
  have ce := (((s.ch0 C6).ch C7 (oS (by omega))).ch A (oS (by omega)))
  have cf := (ce).1
  obtain ⟨ai, ac, a0⟩ := Ol.lsE c1 (by omega)
  have cg := b ai (by rw [ac]; simp)
  have ci := d ai (by rw [ac]; simp)
  obtain ⟨bD, P⟩ := Zjk (xs := a) (j := 0) (by omega)
  have bF : Sep (.slice e (a).length f) a := q
  have ax := bF _ (Yy P)
  obtain ⟨y, aj, G, ay⟩ := ce.ownget P
  have ak := P
  obtain ⟨C, c2, D⟩ := bD
  obtain rfl := G.ls.eqn
  have c3 := G.len
  have B : Lo W2.heap.size (.slice C y.length D) := fun g hg => (ay g hg).1
  have U : ∀ g ∈ bl (.slice C y.length D), g < W5.heap.size := fun g hg => (ay g hg).2
  have aI := l _ (Yy ak)
  replace G : Ol ics 3 1 b1 (.slice C y.length D) y := G
  have r9 := aP _ (Yy aj)
  have d0 := (Y.ch A (nS (by omega)))
  refine Xg ([b_c] ++ (bl (.slice C y.length D))) 9 mixed rfl fun bG aF => ?_
  have d1 := aF.size
  have E := E.trans aF.of_nil
  refine dV 0 rfl rfl rfl (fun _ => Zh fa27_2 rfl) ?_
  have c4 := (d0.ch0 aF)
  refine dT 1 rfl rfl rfl (Yw c4.at_ (fun i hm => by rcases List.mem_append.1 hm with hm | hm; (have R := List.mem_singleton.1 hm; omega); (have R := B _ hm; have aa := U _ hm; omega)) agg25 rfl rfl ?_)
  have d2 := (a0.ch0 aF)
  refine dT 2 rfl rfl rfl (Qn (j := 0) d2 Sv.len el25 sz30 rfl rfl rfl (by omega) fun cj d3 bH a1 => ?_)
  obtain rfl := Qg P bH
  replace a1 : At bG ai (ai + 1) cj ([(.slice C y.length D)]) := a1
  refine dT 3 rfl rfl rfl (Ql a1 (fun i hm => by rcases List.mem_append.1 hm with hm | hm; (have R := List.mem_singleton.1 hm; omega); (exact Zvf (ax _ hm) ac)) agg30 rfl rfl ?_)
  refine dV 4 rfl rfl rfl (fun _ => Ze rfl) (dO 5 (Yl rfl rfl rfl ?_))
  refine Zo (cs := ics) (parts := [(0, .const (Go.Value.int Go.IntKind.i64 (-2))), (1, .const (Go.Value.int Go.IntKind.i64 12)), (2, .const (Go.Value.int Go.IntKind.i64 0))]) (0 : Int) [(-2), 12, 0] el30 sz3 zr3 Yh (by decide) rfl rfl rfl (by decide) (by decide) rfl fun d4 d5 bI bJ aG => ?_
  have d6 := aG.size
  have E := E.trans aG.of_nil
  obtain ⟨c5, c6, rfl, c7, ck⟩ := bI.opn
  have aS : Ch ([b_c] ++ (bl (.slice C y.length D))) bG d5 := ((Ch.refl _ _).trans aG.of_nil)
  refine ⟨aS, ?_⟩
  refine dO 6 (Yl rfl rfl rfl ?_)
  have d7 := ((bn.ch0 aF).ch0 aG)
  refine Step.call (Zn (xs := [.tmp 27, .tmp 28]) fk85 rfl) (Zaq d7 bI (by decide) bG.heap.size (by omega) bJ) fun d8 d9 cm => ?_
  obtain ⟨az, rfl, cn, co, aJ⟩ := cm
  have eb := aJ.size
  have E := E.trans aJ
  have aA : Ch ([b_c] ++ (bl (.slice C y.length D))) bG d9 := (aS.step aJ (fun i hm => by have b9 := List.mem_singleton.1 hm; exact .inr (by rw [b9]; exact (List.mem_append_left _ (List.mem_singleton.2 rfl)))))
  refine ⟨aA, ?_⟩
  refine dO 7 (Yl rfl rfl rfl ?_)
  have c8 := (((G.ch0 aF).ch0 aG).ch aJ (dS B U (by omega)))
  refine Zen (j := 0) c8 el30 sz3 rfl rfl rfl (by (first | omega | (simp; omega))) fun ec ed c9 cp => ?_
  refine ⟨aA, ?_⟩
  refine dO 8 (Yl rfl rfl rfl ?_)
  refine Zep (j := 0) az c8 cp Yh sz3 rfl rfl rfl rfl (by (first | omega | (simp; omega))) fun ee bK aK => ?_
  have ef := (((ce.ch0 aF).ch0 aG).ch aJ (oS (by omega)))
  have eg := aK.size
  have E := E.step aK (fun i hi => .inl (by have R := B _ hi; omega))
  have a2 := Od.set ef ak aj aK bK
  have bL : Ch ([b_c] ++ (bl (.slice C y.length D))) bG ee := (aA.step aK (fun i hm => by exact .inr (List.mem_append_right _ hm)))
  refine ⟨bL, ?_⟩
  refine Yq (by kernel_rfl) ?_
  refine Zv (Zb (H9 _ _ ?_))
  refine Zg fun e2 eh => ?_
  refine Zc ?_
  have ei := (((c4.ch0 aG).ch aJ (nS (by omega))).ch aK (fun hm => by have R := B _ hm; have aa := U _ hm; omega))
  refine Za rfl rfl (Zw ei.at_ agg27 sz27 rfl) (Zk rfl rfl ?_)
  have ej := ((((((((aO.ch C5 (nS (by omega))).ch0 C6).ch C7 (nS (by omega))).ch A (nS (by omega))).ch0 aF).ch0 aG).ch aJ (nS (by omega))).ch aK (fun hm => by have R := B _ hm; have aa := U _ hm; omega))
  refine Zt (off := 0) 3 ej sz27 rfl (us := [(.int .i64 r), (.slice m (k).length n), (.slice e (a).length f)]) rfl rfl rfl rfl fun bi aB bj => ?_
  have ek := bj.size
  have E := E.step bj (lS (by omega))
  replace aB : Blk bi bd 27 [(.int .i64 r), (.slice m (k).length n), (.slice e (a).length f)] := aB
  refine Zf (Zb (eh _ _ ?_))
  refine Zr ?_
  have el := ((((((((t.ch0 C6).ch C7 (dS c h (by omega))).ch A (dS c h (by omega))).ch0 aF).ch0 aG).ch aJ (dS c h (by omega))).ch aK (fun g hg hm => by exact aI _ hm hg)).ch bj (dS c h (by omega)))
  have bM : Ol bcs 4 1 bi (.slice m (k).length n) (k) := by
   have hx := el
   first | exact hx | simpa using hx
  have em := (((((c1.ch0 aF).ch0 aG).ch aJ (dS b d (by omega))).ch aK (fun g hg hm => by exact ax _ hm hg)).ch bj (dS b d (by omega)))
  have en := (a2.ch bj (oS (by omega)))
  have bN : Ol Sv.cs 30 1 bi (.slice e (a).length f) a := by
   have hx := em
   exact hx
  have bO : Od ics 3 1 bi w.heap.size bi.heap.size a ((z.set 0 (y.set 0 az))) := by
   have hx := en.up (lo' := w.heap.size) (hi' := bi.heap.size) (by omega) (by omega)
   exact hx
  have eo := ((co.ch aK (fun i hm => by have R := B _ hm; have aa := U _ hm; omega)).ch bj (oS (by omega)))
  exact Zi [_] (Zu aB rfl agg27 sz27 trivial) ⟨r, k, (z.set 0 (y.set 0 az)), (.slice m (k).length n), (.slice e (a).length f), a, (congrArg (fun zq => (Value.agg #[.int .i64 zq, (.slice m (k).length n), (.slice e (a).length f)])) (by first | rfl | simp_all)), bM, (Lo.down c (by omega)), bN, (Lo.down b (by omega)), bO, q, (fun g hm hg => by exact o _ hm hg), l, (by first | omega | (simp only [List.length_append, List.length_singleton, List.length_set]; omega)), eo, E⟩
 have cd := ab
 have ab := Ye ab
 refine Zg fun e3 ep => ?_
 refine Zc (Za rfl rfl (Xj rfl rfl) (Za rfl rfl (Zd rfl) (Zf (Zb (ep _ _ ?_)))))
 refine Zp rfl (fun ad => ?_) (fun ad => ?_)
 ·have cq := ad
  have ad := Yf ad
  have er := (((x.ch0 C6).ch C7 (dS b d (by omega))).ch A (dS b d (by omega)))
  have cr := (((s.ch0 C6).ch C7 (oS (by omega))).ch A (oS (by omega)))
  have ct := (cr).1
  obtain ⟨bP, Q⟩ := Zjk (xs := a) (j := 0) (by omega)
  have aT : Sep (.slice e (a).length f) a := q
  have cu := aT _ (Yy Q)
  obtain ⟨p, al, H, aC⟩ := cr.ownget Q
  have F := Q
  obtain ⟨V, da, X⟩ := bP
  obtain rfl := H.ls.eqn
  have db := H.len
  have cv : Lo W2.heap.size (.slice V p.length X) := fun g hg => (aC g hg).1
  have dc : ∀ g ∈ bl (.slice V p.length X), g < W5.heap.size := fun g hg => (aC g hg).2
  have bY := l _ (Yy F)
  replace H : Ol ics 3 1 b1 (.slice V p.length X) p := H
  have r9 := aP _ (Yy al)
  have es := (Y.ch A (nS (by omega)))
  refine Xg (bl (.slice e (a).length f)) 9 mixed rfl fun a3 aL => ?_
  have et := aL.size
  have E := E.trans aL.of_nil
  refine dV 0 rfl rfl rfl (fun _ => Zh fa27_2 rfl) ?_
  have cw := (es.ch0 aL)
  refine dT 1 rfl rfl rfl (Yw cw.at_ (fun i hm => by have R := b _ hm; have aa := d _ hm; omega) agg25 rfl rfl ?_)
  refine dV 2 rfl rfl rfl (fun _ => Zh fa27_2 rfl) ?_
  refine dT 3 rfl rfl rfl (Yw cw.at_ (fun i hm => by have R := b _ hm; have aa := d _ hm; omega) agg25 rfl rfl ?_)
  refine dO 4 (Yl rfl rfl rfl ?_)
  have cx := (er.ch0 aL)
  refine (Yo (j := 0) cx.ls Sv.len el25 sz30 rfl rfl rfl (by omega) fun cy eu bQ a4 => ?_)
  obtain rfl := Qg Q bQ
  replace a4 : At a3 0 a3.heap.size cy ([(.slice V p.length X)]) := a4
  refine ⟨(Ch.refl _ _), ?_⟩
  refine dO 5 (Yl rfl rfl rfl ?_)
  refine s_v (Yg a4 agg30 rfl rfl) ?_
  refine ⟨(Ch.refl _ _), ?_⟩
  refine dO 6 (Yl rfl rfl rfl ?_)
  have ew := (H.ch0 aL)
  refine (Zsu (ys := (p.take 8)) 0 8 ew Yh el30 sz3 rfl rfl ⟨_, _, rfl, by omega⟩ (by (first | omega | (simp; omega))) (by (first | omega | (simp; omega))) rfl fun ex bR aD dd => ?_)
  obtain ⟨I, J, rfl, ey, ez⟩ := bR.opn
  have eA := (cr.ch0 aL)
  have a5 := Od.put (v' := (⟨I, ((p.take 8)).length, J⟩ : Sv)) (hi' := a3.heap.size) eA F al (Ch.refl (bl (.slice V p.length X)) a3) (fun g hg => hg) bR (fun g hg => by have aH : g ∈ bl (.slice I ((p.take 8)).length J) := hg; rw [aD] at aH; exact .inl aH) (by omega) (by omega)
  have aE : Sep (.slice e (a).length f) (a.set 0 (⟨I, ((p.take 8)).length, J⟩ : Sv)) := Sep.put (hi' := a3.heap.size) (hi := W5.heap.size) aT F (fun g hg => by have aH : g ∈ bl (.slice I ((p.take 8)).length J) := hg; rw [aD] at aH; exact .inl aH) (fun g hm => by have R := b _ hm; have aa := d _ hm; omega)
  have a6 : Sep (.slice m (k).length n) (a.set 0 (⟨I, ((p.take 8)).length, J⟩ : Sv)) := Sep.put (hi' := a3.heap.size) (hi := W5.heap.size) l F (fun g hg => by have aH : g ∈ bl (.slice I ((p.take 8)).length J) := hg; rw [aD] at aH; exact .inl aH) (fun g hm => by have R := c _ hm; have aa := h _ hm; omega)
  refine ⟨(Ch.refl _ _), ?_⟩
  refine dO 7 (Yl rfl rfl rfl ?_)
  refine Zen (j := 0) cx el25 sz30 rfl rfl rfl (by (first | omega | (simp; omega))) fun eB eC de cz => ?_
  refine ⟨(Ch.refl _ _), ?_⟩
  refine dO 8 (Yl rfl rfl rfl ?_)
  refine Zep (j := 0) (⟨I, ((p.take 8)).length, J⟩ : Sv) cx cz Sv.len sz30 rfl rfl rfl rfl (by (first | omega | (simp; omega))) fun eD bS aU => ?_
  have eE := aU.size
  have E := E.step aU (fun i hi => .inl (by have R := b _ hi; omega))
  have bT : Ch (bl (.slice e (a).length f)) a3 eD := ((Ch.refl _ _).step aU (fun i hm => by exact .inr hm))
  refine ⟨bT, ?_⟩
  refine Yq (by kernel_rfl) ?_
  refine Zv (Zb (H9 _ _ ?_))
  refine Zg fun e4 eF => ?_
  refine Zc ?_
  have cA := (cw.ch aU (fun hm => by have R := b _ hm; have aa := d _ hm; omega))
  refine Za rfl rfl (Zw cA.at_ agg27 sz27 rfl) (Zk rfl rfl ?_)
  have cB := ((((((aO.ch C5 (nS (by omega))).ch0 C6).ch C7 (nS (by omega))).ch A (nS (by omega))).ch0 aL).ch aU (fun hm => by have R := b _ hm; have aa := d _ hm; omega))
  refine Zt (off := 0) 3 cB sz27 rfl (us := [(.int .i64 r), (.slice m (k).length n), (.slice e (a).length f)]) rfl rfl rfl rfl fun am ae an => ?_
  have df := an.size
  have E := E.step an (lS (by omega))
  replace ae : Blk am bd 27 [(.int .i64 r), (.slice m (k).length n), (.slice e (a).length f)] := ae
  refine Zf (Zb (eF _ _ ?_))
  refine Zr ?_
  have cC := ((((((t.ch0 C6).ch C7 (dS c h (by omega))).ch A (dS c h (by omega))).ch0 aL).ch aU (fun g hg hm => by exact o _ hg hm)).ch an (dS c h (by omega)))
  have a7 : Ol bcs 4 1 am (.slice m (k).length n) (k) := by
   have hx := cC
   first | exact hx | simpa using hx
  have cD := (bS.ch an (dS b d (by omega)))
  have cE := ((a5.chS aU aE).ch an (oS (by omega)))
  have a8 : Ol Sv.cs 30 1 am (.slice e (a).length f) (a.set 0 (⟨I, ((p.take 8)).length, J⟩ : Sv)) := by
   have hx := cD
   exact hx
  have a9 : Od ics 3 1 am w.heap.size am.heap.size (a.set 0 (⟨I, ((p.take 8)).length, J⟩ : Sv)) ((z.set 0 (p.take 8))) := by
   have hx := cE.up (lo' := w.heap.size) (hi' := am.heap.size) (by omega) (by omega)
   exact hx
  have cF := (((bn.ch0 aL).ch aU (fun i hm => by have R := b _ hm; have aa := d _ hm; omega)).ch an (oS (by omega)))
  exact Zi [_] (Zu ae rfl agg27 sz27 trivial) ⟨r, k, (z.set 0 (p.take 8)), (.slice m (k).length n), (.slice e (a).length f), (a.set 0 (⟨I, ((p.take 8)).length, J⟩ : Sv)), (congrArg (fun zq => (Value.agg #[.int .i64 zq, (.slice m (k).length n), (.slice e (a).length f)])) (by first | rfl | simp_all)), a7, (Lo.down c (by omega)), a8, (Lo.down b (by omega)), a9, aE, (fun g hm hg => by exact o _ hm hg), a6, (by first | omega | (simp only [List.length_append, List.length_singleton, List.length_set]; omega)), cF, E⟩
 have cq := ad
 have ad := Ye ad
 refine Zq ?_
 refine Zv (Zb (H9 _ _ ?_))
 refine Zg fun eG cG => ?_
 refine Zc ?_
 have cH := (Y.ch A (nS (by omega)))
 refine Za rfl rfl (Zw cH.at_ agg27 sz27 rfl) (Zk rfl rfl ?_)
 have cI := ((((aO.ch C5 (nS (by omega))).ch0 C6).ch C7 (nS (by omega))).ch A (nS (by omega)))
 refine Zt (off := 0) 3 cI sz27 rfl (us := [(.int .i64 r), (.slice m (k).length n), (.slice e (a).length f)]) rfl rfl rfl rfl fun ao af ap => ?_
 have dg := ap.size
 have E := E.step ap (lS (by omega))
 replace af : Blk ao bd 27 [(.int .i64 r), (.slice m (k).length n), (.slice e (a).length f)] := af
 refine Zf (Zb (cG _ _ ?_))
 refine Zr ?_
 have cJ := ((((t.ch0 C6).ch C7 (dS c h (by omega))).ch A (dS c h (by omega))).ch ap (dS c h (by omega)))
 have ba : Ol bcs 4 1 ao (.slice m (k).length n) (k) := by
  have hx := cJ
  first | exact hx | simpa using hx
 have cK := ((((x.ch0 C6).ch C7 (dS b d (by omega))).ch A (dS b d (by omega))).ch ap (dS b d (by omega)))
 have cL := ((((s.ch0 C6).ch C7 (oS (by omega))).ch A (oS (by omega))).ch ap (oS (by omega)))
 have bb : Ol Sv.cs 30 1 ao (.slice e (a).length f) a := by
  have hx := cK
  exact hx
 have bc : Od ics 3 1 ao w.heap.size ao.heap.size a (z) := by
  have hx := cL.up (lo' := w.heap.size) (hi' := ao.heap.size) (by omega) (by omega)
  exact hx
 have cM := (bn.ch ap (oS (by omega)))
 exact Zi [_] (Zu af rfl agg27 sz27 trivial) ⟨r, k, z, (.slice m (k).length n), (.slice e (a).length f), a, (congrArg (fun zq => (Value.agg #[.int .i64 zq, (.slice m (k).length n), (.slice e (a).length f)])) (by first | rfl | simp_all)), ba, (Lo.down c (by omega)), bb, (Lo.down b (by omega)), bc, q, (fun g hm hg => by exact o _ hm hg), l, (by first | omega | (simp only [List.length_append, List.length_singleton, List.length_set]; omega)), cM, E⟩

/-- spec.l1New -/
theorem Zlf {w : World} {LL_code m : Nat} {k : Value} {code : List Int} (a : Ls ucs 1 w LL_code m k code) (hb : code.length ≤ 4194304) :
 Ctr Try.prog 40 #[k] w (fun v w' => ∃ b, v = .pointer (some ⟨b, 0, none⟩) ∧ Cu w' b ∧ w.heap.size ≤ b ∧ Ch [] w w') := by
 obtain ⟨c, e, l⟩ := a.val
 subst l
 have p := a.len
 have a := a.here (by decide)
 have E := Ch.refl [] w
 refine Yc (N := 32) (vs0 := [(.slice c code.length e)]) Try.func40 rfl rfl rfl ?_
 refine Zg fun K1 H1 => ?_
 refine Zc (Za rfl rfl (Zd rfl) (Zf (Zb (H1 _ _ ?_))))
 refine Zg fun K2 H2 => ?_
 refine Zc (Za rfl rfl (Ze rfl) (Za rfl rfl (Xa (by rw [el22]; rfl) rfl) (Za rfl rfl (Yk (by omega) rfl rfl) (Za rfl rfl (Zd rfl) (Zf (Zb (H2 _ _ ?_)))))))
 refine Zg fun K3 H3 => ?_
 refine Zg fun K4 H4 => ?_
 refine Zc (Za rfl rfl (Zd rfl) (Zf (Zb (H4 _ _ ?_))))
 refine Zx ?_
 refine Xf (σ := Nat × Int) (fun ⟨i, h⟩ => [(0, (.slice c code.length e)), (2, (.pointer none)), (3, (.int .i64 h)), (4, (.int .i64 ((i : Nat) : Int)))]) (fun ⟨i, h⟩ wx => Ch [] w wx ∧ w.heap.size ≤ wx.heap.size ∧ (i ≤ code.length)) (fun ⟨i, h⟩ => code.length - i) (0, (10101 + ((code.length : Nat) : Int))) (sC4 rfl rfl rfl rfl (Sub.nil _)) ⟨E, (Nat.le_refl _), (by omega)⟩ ?_
 rintro ⟨i, h⟩ R5 ⟨E, A, hi⟩
 have n := E
 have y := n.size
 refine Zg fun K6 H6 => ?_
 refine Zg fun K7 H7 => ?_
 refine Zc (Za rfl rfl (Ze rfl) (Za rfl rfl (Ze rfl) (Za rfl rfl (Xa (by rw [el22]; rfl) rfl) (Za rfl rfl (Xi rfl rfl) (Za rfl rfl (Ze rfl) ?_)))))
 refine Yn (d := 12) rfl (fun g => ?_) (fun g => ?_)
 ·have B := g
  have g := Yf g
  refine Za rfl rfl (Ze rfl) (Za rfl rfl (Xi rfl rfl) (Za rfl rfl (Yi rfl rfl) (Zf (Zb (H7 _ _ ?_)))))
  refine Zp rfl (fun j => ?_) (fun j => ?_)
  ·have C := j
   have j := Yf j
   refine Zq ?_
   refine Zb (H6 _ _ ?_)
   refine Zg fun Q D => ?_
   refine Zx ?_
   refine Zc (Za rfl rfl (Ze rfl) (Za rfl rfl (Zos rfl rfl) (Za rfl rfl (Ze rfl) (Za rfl rfl (Ze rfl) (Zk rfl rfl ?_)))))
   have F := (a.ch0 n)
   refine (Yo F Zha el22 sz5 rfl rfl rfl (by omega) fun G q z r => ?_)
   refine Za rfl rfl (Yg r agg5 rfl rfl) (Za rfl rfl (Zdp (by rw [un5]; rfl) un3 rfl) (Za rfl rfl (Zjg rfl rfl) (Za rfl rfl (Zjg rfl rfl) (Za rfl rfl (Zgd rfl rfl) (Za rfl rfl (Zd rfl) (Zf (Zv ?_)))))))
   refine Zb (D _ _ (Zc (Za rfl rfl (Ze rfl) (Za rfl rfl (Yk (by omega) rfl rfl) (Za rfl rfl (Zd rfl) (Zf ?_))))))
   exact Zb (Exists.intro ((i + 1), (iand (w64 ((w64 ((w64 (h * 131)) + (w64 q))) + 7)) 1073741823)) ⟨⟨E, (by omega), (by omega)⟩, sC4 rfl rfl rfl rfl (Sub.nil _), (by first | omega | (dsimp only; omega))⟩)
  have C := j
  have j := Ye j
  refine Xc (Zs (Zs (Yu ?_)))
  refine Zb (H3 _ _ ?_)
  refine Zg fun R H => ?_
  refine Zc (Za rfl rfl (Ze rfl) (Za rfl rfl (Ze rfl) (Za rfl rfl (Yr (parts := [(0, .tmp 28), (2, .tmp 29)]) (cells := [(.slice c code.length e), (.int .i64 0), (.int .i64 h)]) zr101 pl101 rfl rfl) (Zk rfl rfl ?_))))
  refine Xz rfl fun o I f s t => ?_
  have J := s.size
  have E := E.trans s
  have u := f.lt
  replace f : Blk I o 101 [(.slice c code.length e), (.int .i64 0), (.int .i64 h)] := f
  refine Za rfl rfl (Zd rfl) (Zf (Zb (H _ _ ?_)))
  refine Zr ?_
  have K := ((a.ch0 n).ch0 s)
  exact Zi [_] ⟨rfl, trivial⟩ ⟨_, rfl, ⟨_, _, _, _, _, f, K.up (by omega) (by omega), (by omega), (by omega)⟩, (by omega), E⟩
 have B := g
 have g := Ye g
 refine Zj rfl rfl (Zj rfl rfl (Za rfl rfl (Ym rfl rfl) (Zf (Zb (H7 _ _ ?_)))))
 refine Qw rfl ?_
 refine Xc (Zs (Zs (Yu ?_)))
 refine Zb (H3 _ _ ?_)
 refine Zg fun S L => ?_
 refine Zc (Za rfl rfl (Ze rfl) (Za rfl rfl (Ze rfl) (Za rfl rfl (Yr (parts := [(0, .tmp 28), (2, .tmp 29)]) (cells := [(.slice c code.length e), (.int .i64 0), (.int .i64 h)]) zr101 pl101 rfl rfl) (Zk rfl rfl ?_))))
 refine Xz rfl fun o M f x t => ?_
 have O := x.size
 have E := E.trans x
 have u := f.lt
 replace f : Blk M o 101 [(.slice c code.length e), (.int .i64 0), (.int .i64 h)] := f
 refine Za rfl rfl (Zd rfl) (Zf (Zb (L _ _ ?_)))
 refine Zr ?_
 have P := ((a.ch0 n).ch0 x)
 exact Zi [_] ⟨rfl, trivial⟩ ⟨_, rfl, ⟨_, _, _, _, _, f, P.up (by omega) (by omega), (by omega), (by omega)⟩, (by omega), E⟩

/-- spec.DrawDistinguishingWord -/
theorem Zbf {w : World} {LL_code H : Nat} {z : Value} {code : List Int} (p : Ls ucs 1 w LL_code H z code) (hb : code.length ≤ 4194304) :
 Ctr Try.prog 7 #[z] w (fun v w' => ∃ (T : Int) (U : List Bool) (V : List (List Int)) (ay : Int) (az : Int) (x : Value) (y : Value) (t : List Sv), v = .tuple #[.agg #[.int .i64 T, x, y], .int .i64 ay, .int .i64 az] ∧ Ol bcs 4 1 w' x (U) ∧ Lo w.heap.size x ∧ Ol Sv.cs 30 1 w' y t ∧ Lo w.heap.size y ∧ Od ics 3 1 w' w.heap.size w'.heap.size t (V) ∧ Sep y t ∧ (∀ g ∈ bl x, g ∉ bl y) ∧ Sep x t ∧ (0 ≤ ay ∧ 0 ≤ az) ∧ Ch [] w w') := by
 obtain ⟨I, J, B⟩ := p.val
 subst B
 have af := p.len
 have p := p.here (by decide)
 have E := Ch.refl [] w
 refine Yc (N := 24) (vs0 := [(.slice I code.length J)]) Try.func7 rfl rfl rfl ?_
 refine Zg fun K1 H1 => ?_
 refine Zc (Zk rfl rfl ?_)
 refine Yp zr27 fun R W2 ag C2 aT => ?_
 have aU := C2.size
 have E := E.trans C2
 have aV := ag.lt
 replace ag : Blk W2 R 27 [(.int .i64 0), (.slice none 0 0), (.slice none 0 0)] := ag
 refine Za rfl rfl (Zd rfl) (Za rfl rfl (Zd rfl) (Zf (Zb (H1 _ _ ?_))))
 refine Zg fun K3 H3 => ?_
 refine Zc (Za rfl rfl (Ze rfl) (Zk rfl rfl ?_))
 have F4 := (p.ch0 C2)
 refine Step.call (Zn (xs := [.tmp 7]) fk40 rfl) (Zlf F4 (by omega)) fun aW W5 aC => ?_
 obtain ⟨ah, rfl, aA, aX, C5⟩ := aC
 have aY := C5.size
 have E := E.trans C5
 have aZ := aA.lt
 refine Za rfl rfl (Zd rfl) (Zf (Zb (H3 _ _ ?_)))
 refine Zg fun K6 H6 => ?_
 refine Zc (Za rfl rfl (Ze rfl) (Zk rfl rfl ?_))
 refine Step.call (Zn (xs := [.tmp 9]) fk41 rfl) (Zjy aA ) fun aD W7 al => ?_
 obtain ⟨k, b, A, ai, aj, a, rfl, q, h, r, j, u, s, o, n, am, an, C7⟩ := al
 have a0 := C7.size
 have E := E.step C7 (lS (by omega))
 obtain ⟨c, d, rfl, X, l⟩ := q.opn
 obtain ⟨e, f, rfl, Y, m⟩ := r.opn
 refine Zk rfl rfl ?_
 refine Yp zr27 fun aB W8 ak C8 a1 => ?_
 have a2 := C8.size
 have E := E.trans C8
 have a3 := ak.lt
 replace ak : Blk W8 aB 27 [(.int .i64 0), (.slice none 0 0), (.slice none 0 0)] := ak
 refine Zk rfl rfl ?_
 refine Zt (off := 0) 3 ak sz27 rfl (us := [(.int .i64 k), (.slice c (b).length d), (.slice e (a).length f)]) rfl rfl rfl rfl fun W9 C C9 => ?_
 have a4 := C9.size
 have E := E.step C9 (lS (by omega))
 replace C : Blk W9 aB 27 [(.int .i64 k), (.slice c (b).length d), (.slice e (a).length f)] := C
 refine Zf (Zb (H6 _ _ ?_))
 refine Zg fun a5 aE => ?_
 refine Xg ([ah] ++ [R]) 16 mixed rfl fun ao K => ?_
 have aF := K.size
 have E := E.trans K
 have ap := (C.ch0 K)
 refine dT 0 rfl rfl rfl (Yx ap.at_ (fun i hm => by rcases List.mem_append.1 hm with hm | hm; (have Z := List.mem_singleton.1 hm; omega); (have Z := List.mem_singleton.1 hm; omega)) agg27 sz27 rfl ?_)
 refine dV 1 rfl rfl rfl (fun _ => Ze rfl) (dV 2 rfl rfl rfl (fun _ => Zh fa27_1 rfl) ?_)
 refine dT 3 rfl rfl rfl (Yw ap.at_ (fun i hm => by rcases List.mem_append.1 hm with hm | hm; (have Z := List.mem_singleton.1 hm; omega); (have Z := List.mem_singleton.1 hm; omega)) agg24 rfl rfl ?_)
 refine dV 4 rfl rfl rfl (fun _ => Xa (by rw [el24]; rfl) rfl) (dV 5 rfl rfl rfl (fun _ => Yk (by omega) rfl rfl) (dV 7 rfl rfl rfl (fun _ => Ze rfl) (dV 8 rfl rfl rfl (fun _ => Zh fa27_1 rfl) ?_)))
 refine dT 9 rfl rfl rfl (Yw ap.at_ (fun i hm => by rcases List.mem_append.1 hm with hm | hm; (have Z := List.mem_singleton.1 hm; omega); (have Z := List.mem_singleton.1 hm; omega)) agg24 rfl rfl ?_)
 refine dV 10 rfl rfl rfl (fun _ => Xa (by rw [el24]; rfl) rfl) (dV 11 rfl rfl rfl (fun _ => Yk (by omega) rfl rfl) (dO 6 (Yl rfl rfl rfl ?_)))
 have aG := (((an.ch0 C8).ch C9 (oS (by omega))).ch0 K)
 refine Step.call (Zn (xs := [.tmp 12, .tmp 16]) fk42 rfl) (Xl aG _ (by omega)) fun aH aI aq => ?_
 obtain ⟨D, rfl, au, av, O⟩ := aq
 have aJ := O.size
 have E := E.step O (lS (by omega))
 have L : Ch ([ah] ++ [R]) ao aI := ((Ch.refl _ _).step O (fun i hm => by have aa := List.mem_singleton.1 hm; exact .inr (by rw [aa]; exact (List.mem_append_left _ (List.mem_singleton.2 rfl)))))
 refine ⟨L, ?_⟩
 refine dO 12 (Yl rfl rfl rfl ?_)
 refine Step.call (Zn (xs := [.tmp 18, .tmp 22]) fk42 rfl) (Xl av _ (by omega)) fun aK aL aw => ?_
 obtain ⟨F, rfl, ax, aM, P⟩ := aw
 have aN := P.size
 have E := E.step P (lS (by omega))
 have M : Ch ([ah] ++ [R]) ao aL := (L.step P (fun i hm => by have aa := List.mem_singleton.1 hm; exact .inr (by rw [aa]; exact (List.mem_append_left _ (List.mem_singleton.2 rfl)))))
 refine ⟨M, ?_⟩
 refine dO 13 (Yl rfl rfl rfl ?_)
 have aO := (((((((ag.ch0 C5).ch C7 (nS (by omega))).ch0 C8).ch C9 (nS (by omega))).ch0 K).ch O (nS (by omega))).ch P (nS (by omega)))
 refine Zt (off := 0) 3 aO sz27 rfl (us := [(.int .i64 k), (.slice c (b).length d), (.slice e (a).length f)]) rfl rfl rfl rfl fun Q G S => ?_
 have aP := S.size
 have E := E.step S (lS (by omega))
 replace G : Blk Q R 27 [(.int .i64 k), (.slice c (b).length d), (.slice e (a).length f)] := G
 have ab : Ch ([ah] ++ [R]) ao Q := (M.step S (fun i hm => by have aa := List.mem_singleton.1 hm; exact .inr (by rw [aa]; exact (List.mem_append_right _ (List.mem_singleton.2 rfl)))))
 refine ⟨ab, ?_⟩
 refine dV 14 rfl rfl rfl (fun _ => Zd rfl) (dV 15 rfl rfl rfl (fun _ => Zd rfl) ?_)
 refine Yq (by kernel_rfl) ?_
 refine Zb (aE _ _ ?_)
 refine Zr ?_
 have aQ := ((((((q.ch0 C8).ch C9 (dS h l (by omega))).ch0 K).ch O (dS h l (by omega))).ch P (dS h l (by omega))).ch S (dS h l (by omega)))
 have ac : Ol bcs 4 1 Q (.slice c (b).length d) (b) := by
  have hx := aQ
  first | exact hx | simpa using hx
 have aR := ((((((r.ch0 C8).ch C9 (dS j m (by omega))).ch0 K).ch O (dS j m (by omega))).ch P (dS j m (by omega))).ch S (dS j m (by omega)))
 have aS := ((((((u.ch0 C8).ch C9 (oS (by omega))).ch0 K).ch O (oS (by omega))).ch P (oS (by omega))).ch S (oS (by omega)))
 have ad : Ol Sv.cs 30 1 Q (.slice e (a).length f) a := by
  have hx := aR
  exact hx
 have ae : Od ics 3 1 Q w.heap.size Q.heap.size a (A) := by
  have hx := aS.up (lo' := w.heap.size) (hi' := Q.heap.size) (by omega) (by omega)
  exact hx
 exact Zi [_, _, _] (Zu G rfl agg27 sz27 ⟨rfl, ⟨rfl, trivial⟩⟩) ⟨k, b, A, D, F, (.slice c (b).length d), (.slice e (a).length f), a, (((congrArg (fun zq => (Value.tuple #[.agg #[.int .i64 zq, (.slice c (b).length d), (.slice e (a).length f)], .int .i64 D, .int .i64 F])) (by first | rfl | simp_all)).trans (congrArg (fun zq => (Value.tuple #[.agg #[.int .i64 k, (.slice c (b).length d), (.slice e (a).length f)], .int .i64 zq, .int .i64 F])) (by first | rfl | simp_all))).trans (congrArg (fun zq => (Value.tuple #[.agg #[.int .i64 k, (.slice c (b).length d), (.slice e (a).length f)], .int .i64 D, .int .i64 zq])) (by first | rfl | simp_all))), ac, (Lo.down h (by omega)), ad, (Lo.down j (by omega)), ae, s, (fun g hm hg => by exact o _ hm hg), n, (by omega), E⟩

end Go.Proofs.Ytgnlfnkgkcmdjaa
