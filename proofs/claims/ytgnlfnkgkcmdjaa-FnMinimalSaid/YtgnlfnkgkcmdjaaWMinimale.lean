/- Walks of functions that FnMinimal reaches: what each returns, and that it leaves the memory that was there alone. -/
import Derived.Test.YtgnlfnkgkcmdjaaLibA
import Derived.Test.YtgnlfnkgkcmdjaaLibB
import Derived.Test.YtgnlfnkgkcmdjaaWMinimal
import Derived.Test.YtgnlfnkgkcmdjaaWMinimalb
import Derived.Test.YtgnlfnkgkcmdjaaWMinimalc
import Derived.Test.YtgnlfnkgkcmdjaaWMinimald
import Derived.Test.YtgnlfnkgkcmdjaaProg
namespace Go.Proofs.Ytgnlfnkgkcmdjaa
open Go.KLib Go.Shelf
set_option maxHeartbeats 1000000
set_option maxRecDepth 20000
set_option linter.unusedVariables false
set_option linter.unusedSimpArgs false
namespace TMinimale
theorem agg24 : Ys Try.prog 24 = some false := by kernel_rfl
theorem agg25 : Ys Try.prog 25 = some false := by kernel_rfl
theorem agg27 : Ys Try.prog 27 = some true := by kernel_rfl
theorem agg3 : Ys Try.prog 3 = some false := by kernel_rfl
theorem agg30 : Ys Try.prog 30 = some false := by kernel_rfl
theorem agg4 : Ys Try.prog 4 = some false := by kernel_rfl
theorem by3 : Qe Try.prog 3 = some 8 := by kernel_rfl
theorem by30 : Qe Try.prog 30 = some 24 := by kernel_rfl
theorem by4 : Qe Try.prog 4 = some 1 := by kernel_rfl
theorem el24 : elB Try.prog 24 = some 4 := by kernel_rfl
theorem el25 : elB Try.prog 25 = some 30 := by kernel_rfl
theorem el30 : elB Try.prog 30 = some 3 := by kernel_rfl
theorem fa27_0 : faB Try.prog 27 0 = some 0 := by kernel_rfl
theorem fa27_1 : faB Try.prog 27 1 = some 1 := by kernel_rfl
theorem fa27_2 : faB Try.prog 27 2 = some 2 := by kernel_rfl
theorem fk10 : fnB Try.prog 10 = true := by kernel_rfl
theorem fk11 : fnB Try.prog 11 = true := by kernel_rfl
theorem fk12 : fnB Try.prog 12 = true := by kernel_rfl
theorem fk13 : fnB Try.prog 13 = true := by kernel_rfl
theorem fk14 : fnB Try.prog 14 = true := by kernel_rfl
theorem fk52 : fnB Try.prog 52 = true := by kernel_rfl
theorem fk59 : fnB Try.prog 59 = true := by kernel_rfl
theorem fk6 : fnB Try.prog 6 = true := by kernel_rfl
theorem fk7 : fnB Try.prog 7 = true := by kernel_rfl
theorem fk8 : fnB Try.prog 8 = true := by kernel_rfl
theorem fk9 : fnB Try.prog 9 = true := by kernel_rfl
theorem fk94 : fnB Try.prog 94 = true := by kernel_rfl
theorem fk95 : fnB Try.prog 95 = true := by kernel_rfl
theorem mixed : Try.prog.follows .mixedOrders = true := by kernel_rfl
theorem sz27 : Yb Try.prog 27 = some 3 := by kernel_rfl
theorem sz3 : Yb Try.prog 3 = some 1 := by kernel_rfl
theorem sz30 : Yb Try.prog 30 = some 1 := by kernel_rfl
theorem sz4 : Yb Try.prog 4 = some 1 := by kernel_rfl
theorem un4 : Try.prog.underlying 4 = some (.bool) := by kernel_rfl
theorem zr27 : Xb Try.prog 27 = some (.agg #[.int .i64 0, .slice none 0 0, .slice none 0 0]) := by kernel_rfl
theorem zr3 : Xb Try.prog 3 = some (.int .i64 0) := by kernel_rfl
theorem zr30 : Xb Try.prog 30 = some (.slice none 0 0) := by kernel_rfl
theorem zr4 : Xb Try.prog 4 = some (.bool false) := by kernel_rfl
end TMinimale
open TMinimale

/-- spec.l11Live -/
theorem Zhv {w : World} (aS : Int) {LL_aA aE : Nat} {ad : Value} {aA : List Bool} (C : Ls bcs 1 w LL_aA aE ad aA) {LL_saN ai : Nat} {S : Value} {saN : List Sv} (m : Ls Sv.cs 1 w LL_saN ai S saN) {LR_aN BB_aN : Nat} {aN : List (List Int)} (A : Rd ics 1 w LR_aN BB_aN saN aN) (hv : Xe aS aA aN) :
 Ctr Try.prog 59 #[(.agg #[(.int .i64 aS), ad, S])] w (fun v w' => Ol bcs 4 1 w' v (Zy aA aN) ∧ Lo w.heap.size v ∧ Ch [] w w') := by
 obtain ⟨c, f, aj⟩ := C.val
 subst aj
 have bi := C.len
 have C := C.here (by decide)
 obtain ⟨n, o, aa⟩ := m.val
 subst aa
 have aT := m.len
 have m := m.here (by decide)
 have A := A.here (by decide)
 have aU := A.1
 have E := Ch.refl [] w
 have bF := hv.2.2.1; have ck := hv.1
 refine Yc (N := 55) (vs0 := [(.agg #[(.int .i64 aS), (.slice c aA.length f), (.slice n saN.length o)])]) Try.func59 rfl rfl rfl ?_
 refine Zg fun K1 H1 => ?_
 refine Zc (Zk rfl rfl ?_)
 refine Xz rfl fun Y W2 aQ C2 cm => ?_
 have cn := C2.size
 have E := E.trans C2
 have bG := aQ.lt
 replace aQ : Blk W2 Y 27 [(.int .i64 aS), (.slice c aA.length f), (.slice n saN.length o)] := aQ
 refine Za rfl rfl (Zd rfl) (Zf (Zb (H1 _ _ ?_)))
 refine Zg fun K3 H3 => ?_
 refine Zc (Zk rfl rfl ?_)
 refine Xd (k := 1) bcs el24 sz4 fun co W4 bj T C4 => ?_
 have cp := C4.size
 have E := E.trans C4
 obtain ⟨bH, bI, rfl, bJ, ae⟩ := bj.opn
 refine Za rfl rfl (Zh fa27_1 rfl) ?_
 have F5 := (aQ.ch0 C4)
 refine Za rfl rfl (Zm F5.at_ agg24 rfl rfl) (Zk rfl rfl ?_)
 have F7 := ((C.ch0 C2).ch0 C4)
 refine Yd (cs := bcs) el24 sz4 by4 zr4 rfl (by decide) Zbo bj F7 rfl rfl (by first | omega | (simp only [List.length_append, List.length_nil, List.length_cons, List.length_replicate, List.length_set, List.length_reverse, List.length_map] at *; omega) | (simp at *; omega)) (by first | omega | (simp only [List.length_append, List.length_nil, List.length_cons, List.length_replicate, List.length_set, List.length_reverse, List.length_map] at *; omega) | (simp at *; omega)) T (by omega) fun aV W6 ab U aF C6 => ?_
 have cq := C6.size
 have E := E.step C6 (fun i hi => .inl (by have aD := T _ hi; omega))
 replace ab : Ol bcs 4 1 W6 aV aA := ab
 obtain ⟨a, b, rfl, bk, aW⟩ := ab.opn
 refine Za rfl rfl (Zd rfl) (Zf (Zb (H3 _ _ ?_)))
 refine Zg fun K8 H8 => ?_
 refine Zg fun K9 H9 => ?_
 refine Zc (Za rfl rfl (Zd rfl) (Zf (Zb (H9 _ _ ?_))))
 refine Zx ?_
 have ak : Ol bcs 4 1 W6 (.slice a (aA).length b) (aA) := by
  have hx := ab
  exact hx
 have bK := (F5.ch C6 (fun hm => by have aD := T _ hm; have bL := ae _ hm; omega))
 have bM := (F7.ch C6 (fun i hi => by have aD := T _ hi; omega))
 refine Xf (σ := Nat × List Bool) (fun ⟨j, ac⟩ => [(1, (.pointer (some ⟨Y, 0, none⟩))), (2, (.slice none 0 0)), (3, (.slice a (aA).length b)), (4, (.int .i64 ((j : Nat) : Int)))]) (fun ⟨j, ac⟩ wx => Ch [] w wx ∧ W6.heap.size ≤ wx.heap.size ∧ (j ≤ aA.length) ∧ (ac.length = aA.length) ∧ (Zba (Zbe aA) (Zbi aN) ac) ∧ (Zcc (Zbe aA) (Zbi aN) ac j) ∧ Blk wx Y 27 [(.int .i64 aS), (.slice c aA.length f), (.slice n saN.length o)] ∧ Ls bcs 1 wx LL_aA w.heap.size (.slice c aA.length f) aA ∧ Ol bcs 4 1 wx (.slice a (aA).length b) ac) (fun ⟨j, ac⟩ => aA.length - j) (0, aA) (sC4 rfl rfl rfl rfl (Sub.nil _)) ⟨E, (Nat.le_refl _), (by omega), rfl, (fun s h => .base h), (fun s h => h), bK, bM, ak⟩ ?_
 rintro ⟨j, ac⟩ aX ⟨E, bN, hj, bm, bn, bp, V, aG, af⟩
 have aY := E
 have bq := aY.size
 have aZ := V.lt
 refine Zg fun cr bO => ?_
 refine Zg fun ct bP => ?_
 refine Zc (Za rfl rfl (Ze rfl) (Za rfl rfl (Zh fa27_1 rfl) (Za rfl rfl (Zm V.at_ agg24 rfl rfl) (Za rfl rfl (Xa (by rw [el24]; rfl) rfl) (Za rfl rfl (Xi rfl rfl) (Zf (Zb (bP _ _ ?_))))))))
 refine Zp rfl (fun I => ?_) (fun I => ?_)
 ·have a0 := I
  have I := Yf I
  refine Zq ?_
  refine Zb (bO _ _ ?_)
  refine Zg fun cu bQ => ?_
  refine Zx ?_
  refine Zg fun cv bR => ?_
  refine Zc (Za rfl rfl (Zd rfl) (Zf (Zb (bR _ _ ?_))))
  refine Zx ?_
  have al : Ol bcs 4 1 aX (.slice a (aA).length b) (ac) := by
   have hx := af
   exact hx
  refine Xf (σ := Nat × List Bool) (fun ⟨s, R⟩ => [(1, (.pointer (some ⟨Y, 0, none⟩))), (2, (.slice none 0 0)), (3, (.slice a (aA).length b)), (4, (.int .i64 ((j : Nat) : Int))), (5, (.int .i64 ((s : Nat) : Int))), (11, (.int .i64 ((j : Nat) : Int))), (12, (.pointer (some (Addr.add ⟨Y, 0, none⟩ 1)))), (13, (.slice c aA.length f)), (14, (.int .i64 ((aA.length : Nat) : Int))), (15, (.bool (decide (((j : Nat) : Int) < ((aA.length : Nat) : Int)))))]) (fun ⟨s, R⟩ wx => Ch [] w wx ∧ aX.heap.size ≤ wx.heap.size ∧ (s ≤ aA.length) ∧ (R.length = aA.length) ∧ (Zba (Zbe aA) (Zbi aN) R) ∧ (Zcc (Zbe aA) (Zbi aN) R j) ∧ (UpTo aA aN j R s) ∧ Blk wx Y 27 [(.int .i64 aS), (.slice c aA.length f), (.slice n saN.length o)] ∧ Ls bcs 1 wx LL_aA w.heap.size (.slice c aA.length f) aA ∧ Ol bcs 4 1 wx (.slice a (aA).length b) R) (fun ⟨s, R⟩ => aA.length - s) (0, ac) (sC8 rfl rfl rfl rfl rfl rfl rfl rfl (sC2 rfl rfl (Sub.nil _))) ⟨E, (Nat.le_refl _), (by omega), bm, bn, bp, Zqe, V, aG, al⟩ ?_
  rintro ⟨s, R⟩ a1 ⟨E, bS, hs, br, bs, bu, bv, O, ag, ah⟩
  have a2 := E
  have bw := a2.size
  have a3 := O.lt
  refine Zg fun cw bT => ?_
  refine Zg fun cx bU => ?_
  refine Zc (Za rfl rfl (Ze rfl) (Za rfl rfl (Zh fa27_1 rfl) (Za rfl rfl (Zm O.at_ agg24 rfl rfl) (Za rfl rfl (Xa (by rw [el24]; rfl) rfl) (Za rfl rfl (Xi rfl rfl) (Zf (Zb (bU _ _ ?_))))))))
  refine Zp rfl (fun J => ?_) (fun J => ?_)
  ·have a4 := J
   have J := Yf J
   refine Zq ?_
   refine Zb (bT _ _ ?_)
   refine Zg fun cy bV => ?_
   refine Zx ?_
   refine Zg fun cz bW => ?_
   refine Zc (Za rfl rfl (Zd rfl) (Zf (Zb (bW _ _ ?_))))
   refine Zx ?_
   have am : Ol bcs 4 1 a1 (.slice a (aA).length b) (R) := by
    have hx := ah
    exact hx
   refine Xf (σ := Nat × List Bool) (fun ⟨k, D⟩ => [(1, (.pointer (some ⟨Y, 0, none⟩))), (2, (.slice none 0 0)), (3, (.slice a (aA).length b)), (4, (.int .i64 ((j : Nat) : Int))), (5, (.int .i64 ((s : Nat) : Int))), (6, (.int .i64 ((k : Nat) : Int))), (11, (.int .i64 ((j : Nat) : Int))), (12, (.pointer (some (Addr.add ⟨Y, 0, none⟩ 1)))), (13, (.slice c aA.length f)), (14, (.int .i64 ((aA.length : Nat) : Int))), (15, (.bool (decide (((j : Nat) : Int) < ((aA.length : Nat) : Int))))), (18, (.int .i64 ((s : Nat) : Int))), (19, (.pointer (some (Addr.add ⟨Y, 0, none⟩ 1)))), (20, (.slice c aA.length f)), (21, (.int .i64 ((aA.length : Nat) : Int))), (22, (.bool (decide (((s : Nat) : Int) < ((aA.length : Nat) : Int)))))]) (fun ⟨k, D⟩ wx => Ch [] w wx ∧ a1.heap.size ≤ wx.heap.size ∧ (k ≤ 9) ∧ (D.length = aA.length) ∧ (Zba (Zbe aA) (Zbi aN) D) ∧ (Zcc (Zbe aA) (Zbi aN) D j) ∧ (UpTo aA aN j D s) ∧ (Znl aA aN j D s k) ∧ Blk wx Y 27 [(.int .i64 aS), (.slice c aA.length f), (.slice n saN.length o)] ∧ Ls bcs 1 wx LL_aA w.heap.size (.slice c aA.length f) aA ∧ Ol bcs 4 1 wx (.slice a (aA).length b) D) (fun ⟨k, D⟩ => 9 - k) (0, R) (sC8 rfl rfl rfl rfl rfl rfl rfl rfl (sC8 rfl rfl rfl rfl rfl rfl rfl rfl (Sub.nil _))) ⟨E, (Nat.le_refl _), (by omega), br, bs, bu, bv, Znp, O, ag, am⟩ ?_
   rintro ⟨k, D⟩ an ⟨E, bX, cA, ao, Z, Q, ap, aq, p, P, x⟩
   have au := E
   have bz := au.size
   have a5 := p.lt
   refine Zg fun cB bY => ?_
   refine Zg fun cC bZ => ?_
   refine Zc (Za rfl rfl (Ze rfl) (Za rfl rfl (Xi rfl rfl) (Zf (Zb (bZ _ _ ?_)))))
   refine Zp rfl (fun K => ?_) (fun K => ?_)
   ·have a6 := K
    have K := Yf K
    refine Zq ?_
    refine Zb (bY _ _ ?_)
    refine Zg fun cD a7 => ?_
    refine Zx ?_
    refine Zg fun cE bA => ?_
    refine Zc (Za rfl rfl (Zh fa27_2 rfl) (Za rfl rfl (Zm p.at_ agg25 rfl rfl) (Za rfl rfl (Ze rfl) (Zk rfl rfl ?_))))
    have bB := (m.ch0 au)
    refine (Yo bB Sv.len el25 sz30 rfl rfl rfl (by omega) fun a8 a9 aH av => ?_)
    have bC := (A.ch0 au)
    obtain ⟨X, g, F⟩ := bC.get aH
    obtain ⟨aI, b0, aJ⟩ := a9
    obtain rfl := F.eqn
    have b1 := F.len
    replace F : Ls ics 1 an LR_aN w.heap.size (.slice aI X.length aJ) X := F
    replace av : At an LL_saN w.heap.size a8 ([(.slice aI X.length aJ)]) := av
    have b2 := (Xo hv.2 g).1
    refine Za rfl rfl (Yg av agg30 rfl rfl) (Za rfl rfl (Ze rfl) (Zk rfl rfl ?_))
    refine (Yo F Yh el30 sz3 rfl rfl rfl (by omega) fun b3 b4 u ba => ?_)
    refine Za rfl rfl (Yg ba agg3 rfl rfl) (Za rfl rfl (Ziv rfl rfl) (Za rfl rfl (Ze rfl) ?_))
    refine Yn (d := 38) rfl (fun L => ?_) (fun L => ?_)
    ·have bb := L
     have L := Yf L
     refine Za rfl rfl (Ze rfl) (Za rfl rfl (Zh fa27_2 rfl) (Za rfl rfl (Zm p.at_ agg25 rfl rfl) (Za rfl rfl (Ze rfl) (Zk rfl rfl ?_))))
     refine (Yo bB Sv.len el25 sz30 rfl rfl rfl (by omega) fun bc bd aK aw => ?_)
     obtain ⟨y, l, G⟩ := bC.get aK
     obtain ⟨aL, b5, aM⟩ := bd
     obtain rfl := G.eqn
     have b6 := G.len
     replace G : Ls ics 1 an LR_aN w.heap.size (.slice aL y.length aM) y := G
     replace aw : At an LL_saN w.heap.size bc ([(.slice aL y.length aM)]) := aw
     have b7 := (Xo hv.2 l).1
     refine Za rfl rfl (Yg aw agg30 rfl rfl) (Za rfl rfl (Ze rfl) (Zk rfl rfl ?_))
     refine (Yo G Yh el30 sz3 rfl rfl rfl (by omega) fun b8 M H be => ?_)
     have b9 := Qg u ((Qg l g) ▸ H)
     have cF := Zag hv.2 l H
     refine Za rfl rfl (Yg be agg3 rfl rfl) (Zk rfl rfl ?_)
     refine (Yo (j := M.toNat) x.ls Qq el24 sz4 rfl rfl (by omega) (by omega) fun ca cb z bf => ?_)
     refine Za rfl rfl (Yg bf agg4 rfl rfl) (Za rfl rfl (Yi rfl rfl) (Zf (Zb (bA _ _ ?_))))
     refine Zp rfl (fun B => ?_) (fun B => ?_)
     ·have bg := B
      refine Zc (Za rfl rfl (Ze rfl) (Za rfl rfl (Ze rfl) (Zk rfl rfl ?_)))
      refine Zen (j := s) x el24 sz4 rfl rfl rfl (by omega) fun cc cd bD bh => ?_
      refine Zk rfl rfl ?_
      refine Zep (j := s) true x bh Qq sz4 rfl rfl rfl rfl (by omega) fun ce aO aR => ?_
      have cf := aR.size
      have E := E.step aR (fun i hi => .inl (by have aD := U _ hi; omega))
      refine Zf (Zv (Zb (a7 _ _ (Zc (Za rfl rfl (Ze rfl) (Za rfl rfl (Yk (by omega) rfl rfl) (Za rfl rfl (Zd rfl) (Zf ?_))))))))
      have ax : Ol bcs 4 1 ce (.slice a (aA).length b) ((D.set s true)) := by
       have hx := aO
       exact hx
      have cg := (p.ch aR (fun hm => by rcases aF with ea | ea; (rw [ea] at hm; have aD := T _ hm; have bL := ae _ hm; omega); (rw [ea] at hm; have bG := List.mem_singleton.1 hm; omega)))
      have ci := (P.ch aR (fun i hi => by have aD := U _ hi; omega))
      exact Zb (Exists.intro ((k + 1), (D.set s true)) ⟨⟨E, (by omega), (by omega), (by first | exact ao | simpa using ao), (by first | exact Z | exact Zbp Z (.step (t := M.toNat) ⟨k, y, l, by rw [H, Int.toNat_of_nonneg (by omega)]⟩ (Z _ (by rw [z, B])))), (by first | exact Q | exact Zhh Q), (by first | exact ap | exact Zji ap), (by first | exact Zhf (by omega) | exact Zbn aq g u (fun t e _ => by omega) Q | exact Zbn aq g u (fun t e q => by obtain rfl : t = M.toNat := (by omega); rw [z, B] at q; cases q) Q), cg, ci, ax⟩, sC8 rfl rfl rfl rfl rfl rfl rfl rfl (sC8 rfl rfl rfl rfl rfl rfl rfl rfl (Sub.nil _)), (by first | omega | (dsimp only; omega))⟩)
     have bg := B
     refine Zq ?_
     refine Zv (Zb (a7 _ _ (Zc (Za rfl rfl (Ze rfl) (Za rfl rfl (Yk (by omega) rfl rfl) (Za rfl rfl (Zd rfl) (Zf ?_)))))))
     have ay : Ol bcs 4 1 an (.slice a (aA).length b) (D) := by
      have hx := x
      exact hx
     exact Zb (Exists.intro ((k + 1), D) ⟨⟨E, (by omega), (by omega), (by first | exact ao | simpa using ao), (by first | exact Z | exact Zbp Z (.step (t := M.toNat) ⟨k, y, l, by rw [H, Int.toNat_of_nonneg (by omega)]⟩ (Z _ (by rw [z, B])))), (by first | exact Q | exact Zhh Q), (by first | exact ap | exact Zji ap), (by first | exact Zhf (by omega) | exact Zbn aq g u (fun t e _ => by omega) Q | exact Zbn aq g u (fun t e q => by obtain rfl : t = M.toNat := (by omega); rw [z, B] at q; cases q) Q), p, P, ay⟩, sC8 rfl rfl rfl rfl rfl rfl rfl rfl (sC8 rfl rfl rfl rfl rfl rfl rfl rfl (Sub.nil _)), (by first | omega | (dsimp only; omega))⟩)
    have bb := L
    have L := Ye L
    refine Zj rfl rfl (Zj rfl rfl (Zj rfl rfl (Zj rfl rfl (Zj rfl rfl (Zj rfl rfl (Zj rfl rfl (Zj rfl rfl ?_)))))))
    refine Zj rfl rfl (Zj rfl rfl (Zj rfl rfl (Za rfl rfl (Ym rfl rfl) (Zf (Zb (bA _ _ ?_))))))
    refine Qw rfl ?_
    refine Zq ?_
    refine Zv (Zb (a7 _ _ (Zc (Za rfl rfl (Ze rfl) (Za rfl rfl (Yk (by omega) rfl rfl) (Za rfl rfl (Zd rfl) (Zf ?_)))))))
    have az : Ol bcs 4 1 an (.slice a (aA).length b) (D) := by
     have hx := x
     exact hx
    exact Zb (Exists.intro ((k + 1), D) ⟨⟨E, (by omega), (by omega), (by first | exact ao | simpa using ao), (by first | exact Z | exact Zbp Z (.step (t := M.toNat) ⟨k, y, l, by rw [H, Int.toNat_of_nonneg (by omega)]⟩ (Z _ (by rw [z, B])))), (by first | exact Q | exact Zhh Q), (by first | exact ap | exact Zji ap), (by first | exact Zhf (by omega) | exact Zbn aq g u (fun t e _ => by omega) Q | exact Zbn aq g u (fun t e q => by obtain rfl : t = M.toNat := (by omega); rw [z, B] at q; cases q) Q), p, P, az⟩, sC8 rfl rfl rfl rfl rfl rfl rfl rfl (sC8 rfl rfl rfl rfl rfl rfl rfl rfl (Sub.nil _)), (by first | omega | (dsimp only; omega))⟩)
   have a6 := K
   have K := Ye K
   refine Xc (Zs (Zs (Yu ?_)))
   refine Zv (Zb (bV _ _ (Zc (Za rfl rfl (Ze rfl) (Za rfl rfl (Yk (by omega) rfl rfl) (Za rfl rfl (Zd rfl) (Zf ?_)))))))
   have aB : Ol bcs 4 1 an (.slice a (aA).length b) (D) := by
    have hx := x
    exact hx
   exact Zb (Exists.intro ((s + 1), D) ⟨⟨E, (by omega), (by omega), ao, Z, Q, (Zrl ap aq (fun r hr => by have aD := (Xo hv.2 hr).1; omega)), p, P, aB⟩, sC8 rfl rfl rfl rfl rfl rfl rfl rfl (sC2 rfl rfl (Sub.nil _)), (by first | omega | (dsimp only; omega))⟩)
  have a4 := J
  have J := Ye J
  refine Xc (Zs (Zs (Yu ?_)))
  refine Zv (Zb (bQ _ _ (Zc (Za rfl rfl (Ze rfl) (Za rfl rfl (Yk (by omega) rfl rfl) (Za rfl rfl (Zd rfl) (Zf ?_)))))))
  have aC : Ol bcs 4 1 a1 (.slice a (aA).length b) (R) := by
   have hx := ah
   exact hx
  exact Zb (Exists.intro ((j + 1), R) ⟨⟨E, (by omega), (by omega), br, bs, (Zrm bu bv (by omega)), O, ag, aC⟩, sC4 rfl rfl rfl rfl (Sub.nil _), (by first | omega | (dsimp only; omega))⟩)
 have a0 := I
 have I := Ye I
 refine Xc (Zs (Zs (Yu ?_)))
 refine Zb (H8 _ _ ?_)
 refine Zg fun cG cj => ?_
 refine Zc (Za rfl rfl (Ze rfl) (Za rfl rfl (Zd rfl) (Zf (Zb (cj _ _ ?_)))))
 refine Zr ?_
 have aP : Ol bcs 4 1 aX (.slice a (aA).length b) (Zy aA aN) := by
  have hx := af
  (rw [← Zhu bm bF bn bp (by omega)]; exact hx)
 exact Zi [_] ⟨rfl, trivial⟩ ⟨aP, Lo.down U (by omega), E⟩

/-- spec.l12Key -/
theorem Zkb {w : World} (aS : Int) {LL_aA Y : Nat} {D : Value} {aA : List Bool} (o : Ls bcs 1 w LL_aA Y D aA) {LL_saN O : Nat} {r : Value} {saN : List Sv} (c : Ls Sv.cs 1 w LL_saN O r saN) {LR_aN BB_aN : Nat} {aN : List (List Int)} (d : Rd ics 1 w LR_aN BB_aN saN aN) {LL_cl Z : Nat} {F : Value} {cl : List Int} (e : Ls ics 1 w LL_cl Z F cl) (s : Int) (hv : Xe aS aA aN) (hl : cl.length = aA.length) (hs : 0 ≤ s ∧ s < aA.length) :
 Ctr Try.prog 94 #[(.agg #[(.int .i64 aS), D, r]), F, (.int .i64 s)] w (fun v w' => Ol ics 3 1 w' v (Qu cl (aN.getD s.toNat []) (cl.getD s.toNat 0)) ∧ Lo w.heap.size v ∧ Ch [] w w') := by
 obtain ⟨t, u, P⟩ := o.val
 subst P
 have aT := o.len
 have o := o.here (by decide)
 obtain ⟨h, l, B⟩ := c.val
 subst B
 have ax := c.len
 have c := c.here (by decide)
 have d := d.here (by decide)
 have ay := d.1
 obtain ⟨x, y, Q⟩ := e.val
 subst Q
 have aU := e.len
 have e := e.here (by decide)
 have E := Ch.refl [] w
 have bO := hv.2.2.1; have bP := hv.1; obtain ⟨r9, aV⟩ := Zjk (xs := aN) (j := s.toNat) (by omega); have bQ := (Xo hv.2 aV).1
 refine Yc (N := 40) (vs0 := [(.agg #[(.int .i64 aS), (.slice t aA.length u), (.slice h saN.length l)]), (.slice x cl.length y), (.int .i64 s)]) Try.func94 rfl rfl rfl ?_
 refine Zg fun K1 H1 => ?_
 refine Zc (Zk rfl rfl ?_)
 refine Xz rfl fun az W2 au C2 bR => ?_
 have bS := C2.size
 have E := E.trans C2
 have bT := au.lt
 replace au : Blk W2 az 27 [(.int .i64 aS), (.slice t aA.length u), (.slice h saN.length l)] := au
 refine Za rfl rfl (Zd rfl) (Zf (Zb (H1 _ _ ?_)))
 refine Zg fun K3 H3 => ?_
 refine Zc (Za rfl rfl (Ze rfl) (Za rfl rfl (Ze rfl) (Zk rfl rfl ?_)))
 have F4 := (e.ch0 C2)
 refine (Yo (j := s.toNat) F4 Yh el30 sz3 rfl rfl (by omega) (by omega) fun bb R aa aB => ?_)
 refine Za rfl rfl (Yg aB agg3 rfl rfl) (Zk rfl rfl ?_)
 refine Zo (cs := ics) (parts := [(0, .tmp 13)]) (0 : Int) [R] el30 sz3 zr3 Yh (by decide) rfl rfl rfl (by decide) (by decide) rfl fun bc W5 ab ac C5 => ?_
 have bU := C5.size
 have E := E.trans C5
 obtain ⟨G, H, rfl, aW, aC⟩ := ab.opn
 refine Za rfl rfl (Zd rfl) (Zf (Zb (H3 _ _ ?_)))
 refine Zg fun K6 H6 => ?_
 refine Zg fun K7 H7 => ?_
 refine Zc (Za rfl rfl (Zd rfl) (Zf (Zb (H7 _ _ ?_))))
 refine Zx ?_
 have ad : Ol ics 3 1 W5 (.slice G ([R]).length H) (Qy cl aN s.toNat 0) := by
  have hx := ab
  exact hx.eq (Zkw aa)
 have F9 := (F4.ch0 C5)
 have bd := (au.ch0 C5)
 refine Xf (σ := Nat × Value) (fun ⟨k, kv⟩ => [(1, (.slice x cl.length y)), (2, (.int .i64 s)), (3, (.pointer (some ⟨az, 0, none⟩))), (6, (.slice none 0 0)), (7, kv), (8, (.int .i64 ((k : Nat) : Int)))]) (fun ⟨k, kv⟩ wx => Ch [] w wx ∧ W5.heap.size ≤ wx.heap.size ∧ (k ≤ 9) ∧ Ls ics 1 wx LL_cl w.heap.size (.slice x cl.length y) cl ∧ Blk wx az 27 [(.int .i64 aS), (.slice t aA.length u), (.slice h saN.length l)] ∧ Ol ics 3 1 wx kv (Qy cl aN s.toNat k) ∧ Lo W2.heap.size kv) (fun ⟨k, kv⟩ => 9 - k) (0, (.slice G ([R]).length H)) (sC4 rfl rfl rfl rfl (sC2 rfl rfl (Sub.nil _))) ⟨E, (Nat.le_refl _), (by omega), F9, bd, ad, ac⟩ ?_
 rintro ⟨k, kv⟩ aD ⟨E, be, bV, z, p, q, a⟩
 have S := E
 have aX := S.size
 have aE := p.lt
 obtain ⟨Akv, Ckv, rfl, lkv, hikv⟩ := q.opn
 refine Zg fun bW bf => ?_
 refine Zg fun bX bg => ?_
 refine Zc (Za rfl rfl (Ze rfl) (Za rfl rfl (Xi rfl rfl) (Zf (Zb (bg _ _ ?_)))))
 refine Zp rfl (fun m => ?_) (fun m => ?_)
 ·have aF := m
  have m := Yf m
  refine Zq ?_
  refine Zb (bf _ _ ?_)
  refine Zg fun bY aY => ?_
  refine Zx ?_
  refine Zg fun bZ bh => ?_
  refine Zc (Za rfl rfl (Zh fa27_2 rfl) (Za rfl rfl (Zm p.at_ agg25 rfl rfl) (Za rfl rfl (Ze rfl) (Zk rfl rfl ?_))))
  have bi := (c.ch0 S)
  refine (Yo (j := s.toNat) bi Sv.len el25 sz30 rfl rfl (by omega) (by omega) fun aG aH ae T => ?_)
  have bj := (d.ch0 S)
  obtain ⟨A, b, f⟩ := bj.get ae
  obtain ⟨af, bk, ag⟩ := aH
  obtain rfl := f.eqn
  have bm := f.len
  replace f : Ls ics 1 aD LR_aN w.heap.size (.slice af A.length ag) A := f
  replace T : At aD LL_saN w.heap.size aG ([(.slice af A.length ag)]) := T
  have bn := (Xo hv.2 b).1
  refine Za rfl rfl (Yg T agg30 rfl rfl) (Za rfl rfl (Ze rfl) (Zk rfl rfl ?_))
  refine (Yo f Yh el30 sz3 rfl rfl rfl (by omega) fun bp aI g aJ => ?_)
  have b0 := Zag hv.2 b g
  refine Za rfl rfl (Yg aJ agg3 rfl rfl) (Za rfl rfl (Zd rfl) (Zf (Zb (bh _ _ ?_))))
  refine Zg fun b1 bq => ?_
  refine Zc (Za rfl rfl (Ze rfl) (Za rfl rfl (Xi rfl rfl) (Zf (Zb (bq _ _ ?_)))))
  refine Zp rfl (fun n => ?_) (fun n => ?_)
  ·have aK := n
   have n := Yf n
   refine Zc (Za rfl rfl (Ze rfl) (Zk rfl rfl ?_))
   refine Zo (cs := ics) (parts := [(0, .const (Go.Value.int Go.IntKind.i64 (-1)))]) (0 : Int) [(-1)] el30 sz3 zr3 Yh (by decide) rfl rfl rfl (by decide) (by decide) rfl fun br b2 ah aZ ai => ?_
   have bs := ai.size
   have E := E.trans ai
   obtain ⟨a0, a1, rfl, a2, aL⟩ := ah.opn
   refine Zk rfl rfl ?_
   have bu := (q.ch0 ai)
   refine Yd (cs := ics) el30 sz3 by3 zr3 rfl (by decide) Xn bu ah.ls rfl rfl (by have aM := Zca (C := cl) (N := aN) (s := s.toNat) (k := k); simp only [List.length_singleton]; omega) (by have aM := Zca (C := cl) (N := aN) (s := s.toNat) (k := k); simp only [List.length_singleton]; omega) a (by omega) fun bv bw aj ak a3 av => ?_
   have bz := av.size
   have E := E.step av (fun i hi => .inl (by have al := a _ hi; omega))
   obtain ⟨I, J, rfl, a4, aO⟩ := aj.opn
   refine Za rfl rfl (Zd rfl) (Zf (Zv (Zb (aY _ _ (Zc (Za rfl rfl (Ze rfl) (Za rfl rfl (Yk (by omega) rfl rfl) (Za rfl rfl (Zd rfl) ?_))))))))
   refine Zf ?_
   have U : Ol ics 3 1 bw (.slice I ((Qy cl aN s.toNat k ++ [(-1)])).length J) (Qy cl aN s.toNat (k + 1)) := by
    have hx := aj
    first | exact hx.eq (Zoc b g (by omega)) | exact hx.eq (Zmk b g (by omega) K)
   have bA := ((z.ch0 ai).ch av (fun i hi => by have al := a _ hi; omega))
   have bB := ((p.ch0 ai).ch av (fun hm => by have al := a _ hm; have bC := hikv _ hm; omega))
   exact Zb (Exists.intro ((k + 1), (.slice I ((Qy cl aN s.toNat k ++ [(-1)])).length J)) ⟨⟨E, (by omega), (by omega), bA, bB, U, (Lo.down ak (by omega))⟩, sC4 rfl rfl rfl rfl (sC2 rfl rfl (Sub.nil _)), (by first | omega | (dsimp only; omega))⟩)
  have aK := n
  have n := Ye n
  refine Zc (Za rfl rfl (Ze rfl) (Za rfl rfl (Ze rfl) (Za rfl rfl (Ze rfl) (Zk rfl rfl ?_))))
  refine (Yo (j := aI.toNat) z Yh el30 sz3 rfl rfl (by omega) (by omega) fun bD V K aP => ?_)
  refine Za rfl rfl (Yg aP agg3 rfl rfl) (Zk rfl rfl ?_)
  refine Zo (cs := ics) (parts := [(0, .tmp 36)]) (0 : Int) [V] el30 sz3 zr3 Yh (by decide) rfl rfl rfl (by decide) (by decide) rfl fun bF b3 am a5 an => ?_
  have bG := an.size
  have E := E.trans an
  obtain ⟨a6, a7, rfl, a8, aQ⟩ := am.opn
  refine Zk rfl rfl ?_
  have bH := (q.ch0 an)
  refine Yd (cs := ics) el30 sz3 by3 zr3 rfl (by decide) Xn bH am.ls rfl rfl (by have aM := Zca (C := cl) (N := aN) (s := s.toNat) (k := k); simp only [List.length_singleton]; omega) (by have aM := Zca (C := cl) (N := aN) (s := s.toNat) (k := k); simp only [List.length_singleton]; omega) a (by omega) fun bI bJ ao ap a9 aw => ?_
  have bK := aw.size
  have E := E.step aw (fun i hi => .inl (by have al := a _ hi; omega))
  obtain ⟨L, M, rfl, ba, aR⟩ := ao.opn
  refine Za rfl rfl (Zd rfl) (Zf (Zv (Zb (aY _ _ (Zc (Za rfl rfl (Ze rfl) (Za rfl rfl (Yk (by omega) rfl rfl) (Za rfl rfl (Zd rfl) ?_))))))))
  refine Zf ?_
  have X : Ol ics 3 1 bJ (.slice L ((Qy cl aN s.toNat k ++ [V])).length M) (Qy cl aN s.toNat (k + 1)) := by
   have hx := ao
   first | exact hx.eq (Zoc b g (by omega)) | exact hx.eq (Zmk b g (by omega) K)
  have bL := ((z.ch0 an).ch aw (fun i hi => by have al := a _ hi; omega))
  have bM := ((p.ch0 an).ch aw (fun hm => by have al := a _ hm; have bC := hikv _ hm; omega))
  exact Zb (Exists.intro ((k + 1), (.slice L ((Qy cl aN s.toNat k ++ [V])).length M)) ⟨⟨E, (by omega), (by omega), bL, bM, X, (Lo.down ap (by omega))⟩, sC4 rfl rfl rfl rfl (sC2 rfl rfl (Sub.nil _)), (by first | omega | (dsimp only; omega))⟩)
 have aF := m
 have m := Ye m
 refine Xc (Zs (Zs (Yu ?_)))
 refine Zb (H6 _ _ ?_)
 refine Zg fun b4 bN => ?_
 refine Zc (Za rfl rfl (Ze rfl) (Za rfl rfl (Zd rfl) (Zf (Zb (bN _ _ ?_)))))
 refine Zr ?_
 have aq : Ol ics 3 1 aD (.slice Akv (Qy cl aN s.toNat k).length Ckv) (Qu cl (aN.getD s.toNat []) (cl.getD s.toNat 0)) := by
  have hx := q
  exact hx.eq (Zak aV (by omega))
 exact Zi [_] ⟨rfl, trivial⟩ ⟨aq, Lo.down a (by omega), E⟩

/-- spec.l2Cmp -/
theorem Zgc {w : World} {LL_a G : Nat} {t : Value} {a : List Int} (q : Ls ics 1 w LL_a G t a) {LL_b H : Nat} {u : Value} {b : List Int} (r : Ls ics 1 w LL_b H u b) :
 Ctr Try.prog 95 #[t, u] w (fun v w' => v = .int .i64 (cmpL a b) ∧ Ch [] w w') := by
 obtain ⟨x, y, z⟩ := q.val
 subst z
 have ac := q.len
 have q := q.here (by decide)
 obtain ⟨A, B, C⟩ := r.val
 subst C
 have ad := r.len
 have r := r.here (by decide)
 have E := Ch.refl [] w
 refine Yc (N := 46) (vs0 := [(.slice x a.length y), (.slice A b.length B)]) Try.func95 rfl rfl rfl ?_
 refine Zg fun K1 H1 => ?_
 refine Zc (Za rfl rfl (Zd rfl) (Zf (Zb (H1 _ _ ?_))))
 refine Zg fun K2 H2 => ?_
 refine Zg fun K3 H3 => ?_
 refine Zc (Za rfl rfl (Zd rfl) (Zf (Zb (H3 _ _ ?_))))
 refine Zx ?_
 refine Xf (σ := Nat) (fun (k : Nat) => [(0, (.slice x a.length y)), (1, (.slice A b.length B)), (5, (.int .i64 ((k : Nat) : Int)))]) (fun (k : Nat) wx => Ch [] w wx ∧ w.heap.size ≤ wx.heap.size ∧ (k ≤ a.length) ∧ (k ≤ b.length) ∧ (a.take k = b.take k)) (fun (k : Nat) => a.length - k) 0 (sC2 rfl rfl (sC1 rfl (Sub.nil _))) ⟨E, (Nat.le_refl _), (by omega), (by omega), rfl⟩ ?_
 rintro k R4 ⟨E, ae, aL, af, n⟩
 have s := E
 have T := s.size
 refine Zg fun K5 H5 => ?_
 refine Zg fun K6 H6 => ?_
 refine Zc (Za rfl rfl (Ze rfl) (Za rfl rfl (Ze rfl) (Za rfl rfl (Xa (by rw [el30]; rfl) rfl) (Za rfl rfl (Xi rfl rfl) (Za rfl rfl (Ze rfl) ?_)))))
 refine Yn (d := 10) rfl (fun o => ?_) (fun o => ?_)
 ·have ag := o
  have o := Yf o
  refine Za rfl rfl (Ze rfl) (Za rfl rfl (Ze rfl) (Za rfl rfl (Xa (by rw [el30]; rfl) rfl) (Za rfl rfl (Xi rfl rfl) (Za rfl rfl (Yi rfl rfl) (Zf (Zb (H6 _ _ ?_)))))))
  refine Zp rfl (fun p => ?_) (fun p => ?_)
  ·have ah := p
   have p := Yf p
   refine Zq ?_
   refine Zb (H5 _ _ ?_)
   refine Zg fun K9 H9 => ?_
   refine Zx ?_
   refine Zg fun aM U => ?_
   refine Zg fun aN ai => ?_
   refine Xg [] 9 mixed rfl fun aO D => ?_
   have aj := D.size
   have E := E.trans D
   refine dV 0 rfl rfl rfl (fun _ => Ze rfl) (dV 1 rfl rfl rfl (fun _ => Ze rfl) ?_)
   have V := ((q.ch0 s).ch0 D)
   refine dT 2 rfl rfl rfl (Qn V Yh el30 sz3 rfl rfl rfl (by omega) fun ak al c I => ?_)
   refine dT 3 rfl rfl rfl (Ql I (fun i hi => absurd hi List.not_mem_nil) agg3 rfl rfl ?_)
   refine dV 4 rfl rfl rfl (fun _ => Ze rfl) (dV 5 rfl rfl rfl (fun _ => Ze rfl) ?_)
   have X := ((r.ch0 s).ch0 D)
   refine dT 6 rfl rfl rfl (Qn X Yh el30 sz3 rfl rfl rfl (by omega) fun am an e J => ?_)
   refine dT 7 rfl rfl rfl (Ql J (fun i hi => absurd hi List.not_mem_nil) agg3 rfl rfl ?_)
   refine dV 8 rfl rfl rfl (fun _ => Xi rfl rfl) ?_
   refine Yq (by kernel_rfl) ?_
   refine Zb (ai _ _ ?_)
   refine Zp rfl (fun f => ?_) (fun f => ?_)
   ·have K := f
    have f := Yf f
    refine Zg fun aP ao => ?_
    refine Zc (Za rfl rfl (Zd rfl) (Zf (Zb (ao _ _ ?_))))
    refine Zr (Zl (Ya (Zl (Zl (Ya (Zl ?_))))))
    clear H2 H9 U
    exact Zi [_] ⟨rfl, trivial⟩ ⟨congrArg (Value.int .i64) (by first | exact Zdl n c e f | exact Zdh n l m g | (have hc := Zbz n (by omega) (by omega) (by omega); rw [hc]; first | (rw [if_pos (by omega)]; done) | (rw [if_neg (by omega), if_pos (by omega)]; done) | (rw [if_neg (by omega), if_neg (by omega)]; done))), E⟩
   have K := f
   have f := Ye f
   refine Zq ?_
   refine Zb (U _ _ ?_)
   refine Zg fun aQ ap => ?_
   refine Xg [] 9 mixed rfl fun aR F => ?_
   have aq := F.size
   have E := E.trans F
   refine dV 0 rfl rfl rfl (fun _ => Ze rfl) (dV 1 rfl rfl rfl (fun _ => Ze rfl) ?_)
   have au := (V.ch0 F)
   refine dT 2 rfl rfl rfl (Qn au Yh el30 sz3 rfl rfl rfl (by omega) fun av aw l L => ?_)
   refine dT 3 rfl rfl rfl (Ql L (fun i hi => absurd hi List.not_mem_nil) agg3 rfl rfl ?_)
   refine dV 4 rfl rfl rfl (fun _ => Ze rfl) (dV 5 rfl rfl rfl (fun _ => Ze rfl) ?_)
   have ax := (X.ch0 F)
   refine dT 6 rfl rfl rfl (Qn ax Yh el30 sz3 rfl rfl rfl (by omega) fun ay az m M => ?_)
   refine dT 7 rfl rfl rfl (Ql M (fun i hi => absurd hi List.not_mem_nil) agg3 rfl rfl ?_)
   refine dV 8 rfl rfl rfl (fun _ => Zeh rfl rfl) ?_
   refine Yq (by kernel_rfl) ?_
   refine Zb (ap _ _ ?_)
   refine Zp rfl (fun g => ?_) (fun g => ?_)
   ·have O := g
    have g := Yf g
    refine Zg fun aS aA => ?_
    refine Zc (Za rfl rfl (Zd rfl) (Zf (Zb (aA _ _ ?_))))
    refine Zr (Ya (Zl (Zl (Ya (Zl ?_)))))
    clear H2 H9
    exact Zi [_] ⟨rfl, trivial⟩ ⟨congrArg (Value.int .i64) (by first | exact Zdl n c e f | exact Zdh n l m g | (have hc := Zbz n (by omega) (by omega) (by omega); rw [hc]; first | (rw [if_pos (by omega)]; done) | (rw [if_neg (by omega), if_pos (by omega)]; done) | (rw [if_neg (by omega), if_neg (by omega)]; done))), E⟩
   have O := g
   have g := Ye g
   refine Zq ?_
   refine Zv (Zb (H9 _ _ (Zc (Za rfl rfl (Ze rfl) (Za rfl rfl (Yk (by omega) rfl rfl) (Za rfl rfl (Zd rfl) (Zf ?_)))))))
   exact Zb (Exists.intro (k + 1) ⟨⟨E, (by omega), (by omega), (by omega), (Zdq n c e (by have aT := Qg c l; have aU := Qg e m; omega))⟩, sC2 rfl rfl (sC1 rfl (Sub.nil _)), (by first | omega | (dsimp only; omega))⟩)
  have ah := p
  have p := Ye p
  refine Xc (Zs (Zs (Yu ?_)))
  refine Zb (H2 _ _ ?_)
  refine Zg fun aV Y => ?_
  refine Zg fun aW aB => ?_
  refine Zc (Za rfl rfl (Ze rfl) (Za rfl rfl (Xa (by rw [el30]; rfl) rfl) (Za rfl rfl (Ze rfl) (Za rfl rfl (Xa (by rw [el30]; rfl) rfl) (Za rfl rfl (Xi rfl rfl) (Zf (Zb (aB _ _ ?_))))))))
  refine Zp rfl (fun h => ?_) (fun h => ?_)
  ·have P := h
   have h := Yf h
   refine Zg fun aX aC => ?_
   refine Zc (Za rfl rfl (Zd rfl) (Zf (Zb (aC _ _ ?_))))
   refine Zr (Zl ?_)
   clear H5 Y
   exact Zi [_] ⟨rfl, trivial⟩ ⟨congrArg (Value.int .i64) (by first | exact Zdl n c e f | exact Zdh n l m g | (have hc := Zbz n (by omega) (by omega) (by omega); rw [hc]; first | (rw [if_pos (by omega)]; done) | (rw [if_neg (by omega), if_pos (by omega)]; done) | (rw [if_neg (by omega), if_neg (by omega)]; done))), E⟩
  have P := h
  have h := Ye h
  refine Zq ?_
  refine Zb (Y _ _ ?_)
  refine Zg fun aY Z => ?_
  refine Zg fun aZ aD => ?_
  refine Zc (Za rfl rfl (Ze rfl) (Za rfl rfl (Xa (by rw [el30]; rfl) rfl) (Za rfl rfl (Ze rfl) (Za rfl rfl (Xa (by rw [el30]; rfl) rfl) (Za rfl rfl (Zeh rfl rfl) (Zf (Zb (aD _ _ ?_))))))))
  refine Zp rfl (fun j => ?_) (fun j => ?_)
  ·have Q := j
   have j := Yf j
   refine Zg fun a0 aE => ?_
   refine Zc (Za rfl rfl (Zd rfl) (Zf (Zb (aE _ _ ?_))))
   refine Zr (Zl ?_)
   clear H5 Z
   exact Zi [_] ⟨rfl, trivial⟩ ⟨congrArg (Value.int .i64) (by first | exact Zdl n c e f | exact Zdh n l m g | (have hc := Zbz n (by omega) (by omega) (by omega); rw [hc]; first | (rw [if_pos (by omega)]; done) | (rw [if_neg (by omega), if_pos (by omega)]; done) | (rw [if_neg (by omega), if_neg (by omega)]; done))), E⟩
  have Q := j
  have j := Ye j
  refine Zq ?_
  refine Zb (Z _ _ ?_)
  refine Zg fun a1 aF => ?_
  refine Zc (Za rfl rfl (Zd rfl) (Zf (Zb (aF _ _ ?_))))
  refine Zr ?_
  exact Zi [_] ⟨rfl, trivial⟩ ⟨congrArg (Value.int .i64) (by first | exact Zdl n c e f | exact Zdh n l m g | (have hc := Zbz n (by omega) (by omega) (by omega); rw [hc]; first | (rw [if_pos (by omega)]; done) | (rw [if_neg (by omega), if_pos (by omega)]; done) | (rw [if_neg (by omega), if_neg (by omega)]; done))), E⟩
 have ag := o
 have o := Ye o
 refine Zj rfl rfl (Zj rfl rfl (Zj rfl rfl (Zj rfl rfl (Za rfl rfl (Ym rfl rfl) (Zf (Zb (H6 _ _ ?_)))))))
 refine Qw rfl ?_
 refine Xc (Zs (Zs (Yu ?_)))
 refine Zb (H2 _ _ ?_)
 refine Zg fun a2 aa => ?_
 refine Zg fun a3 aG => ?_
 refine Zc (Za rfl rfl (Ze rfl) (Za rfl rfl (Xa (by rw [el30]; rfl) rfl) (Za rfl rfl (Ze rfl) (Za rfl rfl (Xa (by rw [el30]; rfl) rfl) (Za rfl rfl (Xi rfl rfl) (Zf (Zb (aG _ _ ?_))))))))
 refine Zp rfl (fun h => ?_) (fun h => ?_)
 ·have R := h
  have h := Yf h
  refine Zg fun a4 aH => ?_
  refine Zc (Za rfl rfl (Zd rfl) (Zf (Zb (aH _ _ ?_))))
  refine Zr (Zl ?_)
  clear H5 aa
  exact Zi [_] ⟨rfl, trivial⟩ ⟨congrArg (Value.int .i64) (by first | exact Zdl n c e f | exact Zdh n l m g | (have hc := Zbz n (by omega) (by omega) (by omega); rw [hc]; first | (rw [if_pos (by omega)]; done) | (rw [if_neg (by omega), if_pos (by omega)]; done) | (rw [if_neg (by omega), if_neg (by omega)]; done))), E⟩
 have R := h
 have h := Ye h
 refine Zq ?_
 refine Zb (aa _ _ ?_)
 refine Zg fun a5 ab => ?_
 refine Zg fun a6 aI => ?_
 refine Zc (Za rfl rfl (Ze rfl) (Za rfl rfl (Xa (by rw [el30]; rfl) rfl) (Za rfl rfl (Ze rfl) (Za rfl rfl (Xa (by rw [el30]; rfl) rfl) (Za rfl rfl (Zeh rfl rfl) (Zf (Zb (aI _ _ ?_))))))))
 refine Zp rfl (fun j => ?_) (fun j => ?_)
 ·have S := j
  have j := Yf j
  refine Zg fun a7 aJ => ?_
  refine Zc (Za rfl rfl (Zd rfl) (Zf (Zb (aJ _ _ ?_))))
  refine Zr (Zl ?_)
  clear H5 ab
  exact Zi [_] ⟨rfl, trivial⟩ ⟨congrArg (Value.int .i64) (by first | exact Zdl n c e f | exact Zdh n l m g | (have hc := Zbz n (by omega) (by omega) (by omega); rw [hc]; first | (rw [if_pos (by omega)]; done) | (rw [if_neg (by omega), if_pos (by omega)]; done) | (rw [if_neg (by omega), if_neg (by omega)]; done))), E⟩
 have S := j
 have j := Ye j
 refine Zq ?_
 refine Zb (ab _ _ ?_)
 refine Zg fun a8 aK => ?_
 refine Zc (Za rfl rfl (Zd rfl) (Zf (Zb (aK _ _ ?_))))
 refine Zr ?_
 exact Zi [_] ⟨rfl, trivial⟩ ⟨congrArg (Value.int .i64) (by first | exact Zdl n c e f | exact Zdh n l m g | (have hc := Zbz n (by omega) (by omega) (by omega); rw [hc]; first | (rw [if_pos (by omega)]; done) | (rw [if_neg (by omega), if_pos (by omega)]; done) | (rw [if_neg (by omega), if_neg (by omega)]; done))), E⟩

/-- spec.l12Classes -/
theorem Zfm {w : World} (aS : Int) {LL_aA cm : Nat} {bs : Value} {aA : List Bool} (af : Ls bcs 1 w LL_aA cm bs aA) {LL_saN bR : Nat} {aX : Value} {saN : List Sv} (D : Ls Sv.cs 1 w LL_saN bR aX saN) {LR_aN BB_aN : Nat} {aN : List (List Int)} (Z : Rd ics 1 w LR_aN BB_aN saN aN) (hv : Xe aS aA aN)  :
 Ctr Try.prog 52 #[(.agg #[(.int .i64 aS), bs, aX])] w (fun v w' => Ol ics 3 1 w' v (clsF aN (Yt aA (Zy aA aN) aA.length) aA.length) ∧ Lo w.heap.size v ∧ Ch [] w w') := by
 obtain ⟨s, t, bS⟩ := af.val
 subst bS
 have eQ := af.len
 have af := af.here (by decide)
 obtain ⟨l, m, bd⟩ := D.val
 subst bd
 have c2 := D.len
 have D := D.here (by decide)
 have Z := Z.here (by decide)
 have c3 := Z.1
 have E := Ch.refl [] w
 have hk := hv.2.2.1; have hl := hv.1; have fv := Zkp aA aN
 refine Yc (N := 99) (vs0 := [(.agg #[(.int .i64 aS), (.slice s aA.length t), (.slice l saN.length m)])]) Try.func52 rfl rfl rfl ?_
 refine Zg fun K1 H1 => ?_
 refine Zc (Zk rfl rfl ?_)
 refine Xz rfl fun be W2 cn C2 hn => ?_
 have ho := C2.size
 have E := E.trans C2
 have aW := cn.lt
 replace cn : Blk W2 be 27 [(.int .i64 aS), (.slice s aA.length t), (.slice l saN.length m)] := cn
 refine Za rfl rfl (Zd rfl) (Zf (Zb (H1 _ _ ?_)))
 refine Zg fun K3 H3 => ?_
 refine Zc (Za rfl rfl (Zw cn.at_ agg27 sz27 rfl) (Zk rfl rfl ?_))
 have F4 := (af.ch0 C2)
 have F5 := (Z.ch0 C2)
 have F6 := (D.ch0 C2)
 refine Step.call (Zn (xs := [.tmp 14]) fk59 rfl) (Zhv _ F4 F6 F5 hv) fun fw W7 bf => ?_
 obtain ⟨bf, aJ, C7⟩ := bf
 have hp := C7.size
 have E := E.trans C7
 obtain ⟨bu, bv, rfl, eR, aa⟩ := bf.opn
 refine Za rfl rfl (Zd rfl) (Zf (Zb (H3 _ _ ?_)))
 refine Zg fun K8 H8 => ?_
 refine Zc (Zk rfl rfl ?_)
 refine Xd (k := 1) ics el30 sz3 fun fx W9 co cp C9 => ?_
 have hr := C9.size
 have E := E.trans C9
 obtain ⟨bw, bz, rfl, eS, c4⟩ := co.opn
 refine Za rfl rfl (Zd rfl) (Zf (Zb (H8 _ _ ?_)))
 refine Zg fun hs fy => ?_
 refine Zg fun ht fz => ?_
 refine Zc (Za rfl rfl (Zd rfl) (Zf (Zb (fz _ _ ?_))))
 refine Zx ?_
 have bT : Ol ics 3 1 W9 (.slice bw (([] : List Int)).length bz) (Yt aA (Zy aA aN) 0) := by
  have hx := co
  exact hx
 have fA := ((cn.ch0 C7).ch0 C9)
 have fB := ((F4.ch0 C7).ch0 C9)
 have fC := ((F6.ch0 C7).ch0 C9)
 have fD := ((F5.ch0 C7).ch0 C9)
 have fE := (bf.ch0 C9)
 refine Xf (σ := Nat × Value) (fun ⟨q, iv⟩ => [(1, (.pointer (some ⟨be, 0, none⟩))), (2, (.slice none 0 0)), (3, (.slice bu (Zy aA aN).length bv)), (4, iv), (5, (.int .i64 ((q : Nat) : Int)))]) (fun ⟨q, iv⟩ wx => Ch [] w wx ∧ W9.heap.size ≤ wx.heap.size ∧ (q ≤ aA.length) ∧ Blk wx be 27 [(.int .i64 aS), (.slice s aA.length t), (.slice l saN.length m)] ∧ Ls bcs 1 wx LL_aA w.heap.size (.slice s aA.length t) aA ∧ Ls Sv.cs 1 wx LL_saN w.heap.size (.slice l saN.length m) saN ∧ Rd ics 1 wx LR_aN w.heap.size saN aN ∧ Ol bcs 4 1 wx (.slice bu (Zy aA aN).length bv) (Zy aA aN) ∧ Ol ics 3 1 wx iv (Yt aA (Zy aA aN) q) ∧ Lo W7.heap.size iv) (fun ⟨q, iv⟩ => aA.length - q) (0, (.slice bw (([] : List Int)).length bz)) (sC4 rfl rfl rfl rfl (sC1 rfl (Sub.nil _))) ⟨E, (Nat.le_refl _), (by omega), fA, fB, fC, fD, fE, bT, cp⟩ ?_
 rintro ⟨q, iv⟩ eT ⟨E, fF, hq, B, S, ag, ah, T, U, a⟩
 have c5 := E
 have eU := c5.size
 have c6 := B.lt
 obtain ⟨Aiv, Civ, rfl, liv, hiiv⟩ := U.opn
 refine Zg fun hw c7 => ?_
 refine Zg fun hy fG => ?_
 refine Zc (Za rfl rfl (Ze rfl) (Za rfl rfl (Zh fa27_1 rfl) (Za rfl rfl (Zm B.at_ agg24 rfl rfl) (Za rfl rfl (Xa (by rw [el24]; rfl) rfl) (Za rfl rfl (Xi rfl rfl) (Zf (Zb (fG _ _ ?_))))))))
 refine Zp rfl (fun ax => ?_) (fun ax => ?_)
 ·have c8 := ax
  have ax := Yf ax
  refine Zq ?_
  refine Zb (c7 _ _ ?_)
  refine Zg fun hz c1 => ?_
  refine Zx ?_
  refine Zg fun hA fH => ?_
  refine Zc (Za rfl rfl (Zd rfl) (Zf (Zb (fH _ _ ?_))))
  refine Zg fun hB eV => ?_
  refine Zg fun hC fI => ?_
  refine Zc (Za rfl rfl (Zh fa27_1 rfl) (Za rfl rfl (Zm B.at_ agg24 rfl rfl) (Za rfl rfl (Ze rfl) (Zk rfl rfl ?_))))
  refine (Yo S Qq el24 sz4 rfl rfl rfl (by omega) fun fJ fK aK c9 => ?_)
  refine Za rfl rfl (Yg c9 agg4 rfl rfl) (Zf (Zb (fI _ _ ?_)))
  refine Zp rfl (fun bU => ?_) (fun bU => ?_)
  ·have da := bU
   refine Zc (Za rfl rfl (Zd rfl) (Zf (Zb (eV _ _ ?_))))
   refine Zg fun hD eW => ?_
   refine Zg fun hE fL => ?_
   refine Zc (Za rfl rfl (Ze rfl) (Za rfl rfl (Ze rfl) (Zk rfl rfl ?_)))
   refine (Yo T.ls Qq el24 sz4 rfl rfl rfl (by omega) fun db dc ai bV => ?_)
   refine Za rfl rfl (Yg bV agg4 rfl rfl) (Za rfl rfl (Xu rfl) (Zf (Zb (fL _ _ ?_))))
   refine Zp rfl (fun ay => ?_) (fun ay => ?_)
   ·have dd := ay
    refine Zc (Za rfl rfl (Zd rfl) (Zf (Zb (eW _ _ (Zc (Za rfl rfl (Ze rfl) (Za rfl rfl (Ze rfl) (Zk rfl rfl ?_))))))))
    refine Zo (cs := ics) (parts := [(0, .tmp 35)]) (0 : Int) [(-1)] el30 sz3 zr3 Yh (by decide) rfl rfl rfl (by decide) (by decide) rfl fun bW hF F aY bA => ?_
    have fM := bA.size
    have E := E.trans bA
    obtain ⟨aZ, a0, rfl, a1, az⟩ := F.opn
    refine Zk rfl rfl ?_
    have fN := (U.ch0 bA)
    refine Yd (cs := ics) el30 sz3 by3 zr3 rfl (by decide) Xn fN F.ls rfl rfl (by have a2 := Qo aA (Zy aA aN) q; simp only [List.length_singleton]; omega) (by have a2 := Qo aA (Zy aA aN) q; simp only [List.length_singleton]; omega) a (by omega) fun bX fO G H a3 bY => ?_
    have fP := bY.size
    have E := E.step bY (fun i hi => .inl (by have j := a _ hi; omega))
    obtain ⟨o, p, rfl, a4, aB⟩ := G.opn
    refine Za rfl rfl (Zd rfl) (Zf (Zv (Zb (c1 _ _ (Zc (Za rfl rfl (Ze rfl) (Za rfl rfl (Yk (by omega) rfl rfl) (Za rfl rfl (Zd rfl) ?_))))))))
    refine Zf ?_
    have bZ : Ol ics 3 1 fO (.slice o ((Yt aA (Zy aA aN) q ++ [(-1)])).length p) (Yt aA (Zy aA aN) (q + 1)) := by
     have hx := G
     exact hx.eq (Zes aK ai (by simp_all))
    have fQ := ((B.ch0 bA).ch bY (fun hm => by have j := a _ hm; have L := hiiv _ hm; omega))
    have fR := ((S.ch0 bA).ch bY (fun i hi => by have j := a _ hi; omega))
    have fS := ((ag.ch0 bA).ch bY (fun i hi => by have j := a _ hi; omega))
    have fT := ((ah.ch0 bA).ch bY (fun i hi => by have j := a _ hi; omega))
    have fU := ((T.ch0 bA).ch bY (fun g hg hm => by have j := a _ hm; have L := hiiv _ hm; have aj := aJ _ hg; have ak := aa _ hg; omega))
    exact Zb (Exists.intro ((q + 1), (.slice o ((Yt aA (Zy aA aN) q ++ [(-1)])).length p)) ⟨⟨E, (by omega), (by omega), fQ, fR, fS, fT, fU, bZ, (Lo.down H (by omega))⟩, sC4 rfl rfl rfl rfl (sC1 rfl (Sub.nil _)), (by first | omega | (dsimp only; omega))⟩)
   have dd := ay
   refine Zq ?_
   refine Zb (eW _ _ (Zc (Za rfl rfl (Ze rfl) (Za rfl rfl (Ze rfl) (Zk rfl rfl ?_)))))
   refine Zo (cs := ics) (parts := [(0, .tmp 35)]) (0 : Int) [1] el30 sz3 zr3 Yh (by decide) rfl rfl rfl (by decide) (by decide) rfl fun bW hG F aY bB => ?_
   have fV := bB.size
   have E := E.trans bB
   obtain ⟨aZ, a0, rfl, a1, az⟩ := F.opn
   refine Zk rfl rfl ?_
   have fW := (U.ch0 bB)
   refine Yd (cs := ics) el30 sz3 by3 zr3 rfl (by decide) Xn fW F.ls rfl rfl (by have a2 := Qo aA (Zy aA aN) q; simp only [List.length_singleton]; omega) (by have a2 := Qo aA (Zy aA aN) q; simp only [List.length_singleton]; omega) a (by omega) fun bX fX G H a3 b0 => ?_
   have fY := b0.size
   have E := E.step b0 (fun i hi => .inl (by have j := a _ hi; omega))
   obtain ⟨o, p, rfl, a4, aB⟩ := G.opn
   refine Za rfl rfl (Zd rfl) (Zf (Zv (Zb (c1 _ _ (Zc (Za rfl rfl (Ze rfl) (Za rfl rfl (Yk (by omega) rfl rfl) (Za rfl rfl (Zd rfl) ?_))))))))
   refine Zf ?_
   have b1 : Ol ics 3 1 fX (.slice o ((Yt aA (Zy aA aN) q ++ [1])).length p) (Yt aA (Zy aA aN) (q + 1)) := by
    have hx := G
    exact hx.eq (Zes aK ai (by simp_all))
   have fZ := ((B.ch0 bB).ch b0 (fun hm => by have j := a _ hm; have L := hiiv _ hm; omega))
   have f0 := ((S.ch0 bB).ch b0 (fun i hi => by have j := a _ hi; omega))
   have f1 := ((ag.ch0 bB).ch b0 (fun i hi => by have j := a _ hi; omega))
   have f2 := ((ah.ch0 bB).ch b0 (fun i hi => by have j := a _ hi; omega))
   have f3 := ((T.ch0 bB).ch b0 (fun g hg hm => by have j := a _ hm; have L := hiiv _ hm; have aj := aJ _ hg; have ak := aa _ hg; omega))
   exact Zb (Exists.intro ((q + 1), (.slice o ((Yt aA (Zy aA aN) q ++ [1])).length p)) ⟨⟨E, (by omega), (by omega), fZ, f0, f1, f2, f3, b1, (Lo.down H (by omega))⟩, sC4 rfl rfl rfl rfl (sC1 rfl (Sub.nil _)), (by first | omega | (dsimp only; omega))⟩)
  have da := bU
  refine Zq ?_
  refine Zb (eV _ _ ?_)
  refine Zg fun hH eX => ?_
  refine Zg fun hI f4 => ?_
  refine Zc (Za rfl rfl (Ze rfl) (Za rfl rfl (Ze rfl) (Zk rfl rfl ?_)))
  refine (Yo T.ls Qq el24 sz4 rfl rfl rfl (by omega) fun db dc ai bV => ?_)
  refine Za rfl rfl (Yg bV agg4 rfl rfl) (Za rfl rfl (Xu rfl) (Zf (Zb (f4 _ _ ?_))))
  refine Zp rfl (fun ay => ?_) (fun ay => ?_)
  ·have de := ay
   refine Zc (Za rfl rfl (Zd rfl) (Zf (Zb (eX _ _ (Zc (Za rfl rfl (Ze rfl) (Za rfl rfl (Ze rfl) (Zk rfl rfl ?_))))))))
   refine Zo (cs := ics) (parts := [(0, .tmp 35)]) (0 : Int) [(-1)] el30 sz3 zr3 Yh (by decide) rfl rfl rfl (by decide) (by decide) rfl fun bW hJ F aY bC => ?_
   have f5 := bC.size
   have E := E.trans bC
   obtain ⟨aZ, a0, rfl, a1, az⟩ := F.opn
   refine Zk rfl rfl ?_
   have f6 := (U.ch0 bC)
   refine Yd (cs := ics) el30 sz3 by3 zr3 rfl (by decide) Xn f6 F.ls rfl rfl (by have a2 := Qo aA (Zy aA aN) q; simp only [List.length_singleton]; omega) (by have a2 := Qo aA (Zy aA aN) q; simp only [List.length_singleton]; omega) a (by omega) fun bX f7 G H a3 b2 => ?_
   have f8 := b2.size
   have E := E.step b2 (fun i hi => .inl (by have j := a _ hi; omega))
   obtain ⟨o, p, rfl, a4, aB⟩ := G.opn
   refine Za rfl rfl (Zd rfl) (Zf (Zv (Zb (c1 _ _ (Zc (Za rfl rfl (Ze rfl) (Za rfl rfl (Yk (by omega) rfl rfl) (Za rfl rfl (Zd rfl) ?_))))))))
   refine Zf ?_
   have b3 : Ol ics 3 1 f7 (.slice o ((Yt aA (Zy aA aN) q ++ [(-1)])).length p) (Yt aA (Zy aA aN) (q + 1)) := by
    have hx := G
    exact hx.eq (Zes aK ai (by simp_all))
   have f9 := ((B.ch0 bC).ch b2 (fun hm => by have j := a _ hm; have L := hiiv _ hm; omega))
   have ga := ((S.ch0 bC).ch b2 (fun i hi => by have j := a _ hi; omega))
   have gb := ((ag.ch0 bC).ch b2 (fun i hi => by have j := a _ hi; omega))
   have gc := ((ah.ch0 bC).ch b2 (fun i hi => by have j := a _ hi; omega))
   have gd := ((T.ch0 bC).ch b2 (fun g hg hm => by have j := a _ hm; have L := hiiv _ hm; have aj := aJ _ hg; have ak := aa _ hg; omega))
   exact Zb (Exists.intro ((q + 1), (.slice o ((Yt aA (Zy aA aN) q ++ [(-1)])).length p)) ⟨⟨E, (by omega), (by omega), f9, ga, gb, gc, gd, b3, (Lo.down H (by omega))⟩, sC4 rfl rfl rfl rfl (sC1 rfl (Sub.nil _)), (by first | omega | (dsimp only; omega))⟩)
  have de := ay
  refine Zq ?_
  refine Zb (eX _ _ (Zc (Za rfl rfl (Ze rfl) (Za rfl rfl (Ze rfl) (Zk rfl rfl ?_)))))
  refine Zo (cs := ics) (parts := [(0, .tmp 35)]) (0 : Int) [0] el30 sz3 zr3 Yh (by decide) rfl rfl rfl (by decide) (by decide) rfl fun bW hK F aY bD => ?_
  have ge := bD.size
  have E := E.trans bD
  obtain ⟨aZ, a0, rfl, a1, az⟩ := F.opn
  refine Zk rfl rfl ?_
  have gf := (U.ch0 bD)
  refine Yd (cs := ics) el30 sz3 by3 zr3 rfl (by decide) Xn gf F.ls rfl rfl (by have a2 := Qo aA (Zy aA aN) q; simp only [List.length_singleton]; omega) (by have a2 := Qo aA (Zy aA aN) q; simp only [List.length_singleton]; omega) a (by omega) fun bX gg G H a3 b4 => ?_
  have gh := b4.size
  have E := E.step b4 (fun i hi => .inl (by have j := a _ hi; omega))
  obtain ⟨o, p, rfl, a4, aB⟩ := G.opn
  refine Za rfl rfl (Zd rfl) (Zf (Zv (Zb (c1 _ _ (Zc (Za rfl rfl (Ze rfl) (Za rfl rfl (Yk (by omega) rfl rfl) (Za rfl rfl (Zd rfl) ?_))))))))
  refine Zf ?_
  have b5 : Ol ics 3 1 gg (.slice o ((Yt aA (Zy aA aN) q ++ [0])).length p) (Yt aA (Zy aA aN) (q + 1)) := by
   have hx := G
   exact hx.eq (Zes aK ai (by simp_all))
  have gi := ((B.ch0 bD).ch b4 (fun hm => by have j := a _ hm; have L := hiiv _ hm; omega))
  have gj := ((S.ch0 bD).ch b4 (fun i hi => by have j := a _ hi; omega))
  have gk := ((ag.ch0 bD).ch b4 (fun i hi => by have j := a _ hi; omega))
  have gl := ((ah.ch0 bD).ch b4 (fun i hi => by have j := a _ hi; omega))
  have gm := ((T.ch0 bD).ch b4 (fun g hg hm => by have j := a _ hm; have L := hiiv _ hm; have aj := aJ _ hg; have ak := aa _ hg; omega))
  exact Zb (Exists.intro ((q + 1), (.slice o ((Yt aA (Zy aA aN) q ++ [0])).length p)) ⟨⟨E, (by omega), (by omega), gi, gj, gk, gl, gm, b5, (Lo.down H (by omega))⟩, sC4 rfl rfl rfl rfl (sC1 rfl (Sub.nil _)), (by first | omega | (dsimp only; omega))⟩)
 have c8 := ax
 have ax := Ye ax
 refine Xc (Zs (Zs (Yu ?_)))
 refine Zb (fy _ _ ?_)
 refine Zg fun hL eY => ?_
 refine Zg fun hM gn => ?_
 refine Zc (Za rfl rfl (Zd rfl) (Zf (Zb (gn _ _ ?_))))
 refine Zx ?_
 have b6 : Ol ics 3 1 eT (.slice Aiv (Yt aA (Zy aA aN) q).length Civ) (Yz aN (Yt aA (Zy aA aN) aA.length) aA.length 0) := by
  have hx := U
  exact hx.eq (by rw [show q = aA.length by omega]; rfl)
 refine Xf (σ := Nat × Value) (fun ⟨c, cv⟩ => [(1, (.pointer (some ⟨be, 0, none⟩))), (4, cv), (7, (.int .i64 ((c : Nat) : Int)))]) (fun ⟨c, cv⟩ wx => Ch [] w wx ∧ eT.heap.size ≤ wx.heap.size ∧ (c ≤ aA.length + 1) ∧ Blk wx be 27 [(.int .i64 aS), (.slice s aA.length t), (.slice l saN.length m)] ∧ Ls bcs 1 wx LL_aA w.heap.size (.slice s aA.length t) aA ∧ Ls Sv.cs 1 wx LL_saN w.heap.size (.slice l saN.length m) saN ∧ Rd ics 1 wx LR_aN w.heap.size saN aN ∧ Ol ics 3 1 wx cv (Yz aN (Yt aA (Zy aA aN) aA.length) aA.length c) ∧ Lo W7.heap.size cv) (fun ⟨c, cv⟩ => aA.length + 1 - c) (0, (.slice Aiv (Yt aA (Zy aA aN) q).length Civ)) (sC2 rfl rfl (sC1 rfl (Sub.nil _))) ⟨E, (Nat.le_refl _), (by omega), B, S, ag, ah, b6, a⟩ ?_
 rintro ⟨c, cv⟩ eZ ⟨E, gp, hN, a5, cq, cr, ct, a6, A⟩
 have df := E
 have e0 := df.size
 have dg := a5.lt
 obtain ⟨Acv, Ccv, rfl, lcv, hicv⟩ := a6.opn
 have d9 := Qo aA (Zy aA aN) aA.length
 have gq := Zjl (N := aN) d9 c
 refine Zg fun hO e1 => ?_
 refine Zg fun hP gr => ?_
 refine Zc (Za rfl rfl (Ze rfl) (Za rfl rfl (Zh fa27_1 rfl) (Za rfl rfl (Zm a5.at_ agg24 rfl rfl) (Za rfl rfl (Xa (by rw [el24]; rfl) rfl) (Za rfl rfl (Zit rfl rfl) (Zf (Zb (gr _ _ ?_))))))))
 refine Zp rfl (fun aC => ?_) (fun aC => ?_)
 ·have dh := aC
  have aC := Yf aC
  refine Zq ?_
  refine Zb (e1 _ _ ?_)
  refine Zg fun hQ e2 => ?_
  refine Zx ?_
  refine Zg fun hR gs => ?_
  refine Zc (Zk rfl rfl ?_)
  refine Xd (k := 1) Sv.cs el25 sz30 fun gt gu cu bF b7 => ?_
  have gv := b7.size
  have E := E.trans b7
  obtain ⟨bG, bH, rfl, e3, b8⟩ := cu.opn
  refine Za rfl rfl (Zd rfl) (Zf (Zb (gs _ _ ?_)))
  refine Zg fun hS gw => ?_
  refine Zc (Zk rfl rfl ?_)
  refine Xd (k := 1) ics el30 sz3 fun gx cw cx bI bJ => ?_
  have gy := bJ.size
  have E := E.trans bJ
  obtain ⟨bK, bL, rfl, e4, b9⟩ := cx.opn
  refine Za rfl rfl (Zd rfl) (Zf (Zb (gw _ _ ?_)))
  refine Zg fun hT gz => ?_
  refine Zg fun hU gA => ?_
  refine Zc (Za rfl rfl (Zd rfl) (Zf (Zb (gA _ _ ?_))))
  refine Zx ?_
  have gB := (cu.ch0 bJ)
  have ca : Ol Sv.cs 30 1 cw (.slice bG (([] : List Sv)).length bH) (([] : List Sv)) := by
   have hx := gB
   exact hx
  have cb : Ol ics 3 1 cw (.slice bK (([] : List Int)).length bL) ((rfn (Yz aN (Yt aA (Zy aA aN) aA.length) aA.length c) aN 0).2) := by
   have hx := cx
   exact hx
  have gC := ((a5.ch0 b7).ch0 bJ)
  have gD := ((cq.ch0 b7).ch0 bJ)
  have gE := ((cr.ch0 b7).ch0 bJ)
  have gF := ((ct.ch0 b7).ch0 bJ)
  have gG := ((a6.ch0 b7).ch0 bJ)
  refine Xf (σ := Nat × List Sv × Value × Value) (fun ⟨i, vs, kv, ov⟩ => [(1, (.pointer (some ⟨be, 0, none⟩))), (4, (.slice Acv (Yz aN (Yt aA (Zy aA aN) aA.length) aA.length c).length Ccv)), (7, (.int .i64 ((c : Nat) : Int))), (8, kv), (9, ov), (10, (.int .i64 ((i : Nat) : Int))), (42, (.bool (decide (((c : Nat) : Int) ≤ ((aA.length : Nat) : Int)))))]) (fun ⟨i, vs, kv, ov⟩ wx => Ch [] w wx ∧ cw.heap.size ≤ wx.heap.size ∧ (i ≤ aA.length) ∧ (vs.length = (rfn (Yz aN (Yt aA (Zy aA aN) aA.length) aA.length c) aN i).1.length) ∧ Blk wx be 27 [(.int .i64 aS), (.slice s aA.length t), (.slice l saN.length m)] ∧ Ls bcs 1 wx LL_aA w.heap.size (.slice s aA.length t) aA ∧ Ls Sv.cs 1 wx LL_saN w.heap.size (.slice l saN.length m) saN ∧ Rd ics 1 wx LR_aN w.heap.size saN aN ∧ Ol ics 3 1 wx (.slice Acv (Yz aN (Yt aA (Zy aA aN) aA.length) aA.length c).length Ccv) (Yz aN (Yt aA (Zy aA aN) aA.length) aA.length c) ∧ Ol Sv.cs 30 1 wx kv vs ∧ Lo eZ.heap.size kv ∧ Ol ics 3 1 wx ov ((rfn (Yz aN (Yt aA (Zy aA aN) aA.length) aA.length c) aN i).2) ∧ Lo gu.heap.size ov ∧ Od ics 3 1 wx cw.heap.size wx.heap.size vs ((rfn (Yz aN (Yt aA (Zy aA aN) aA.length) aA.length c) aN i).1) ∧ (∀ g ∈ bl ov, g ∉ bl kv) ∧ (Sep kv vs) ∧ (Sep ov vs)) (fun ⟨i, vs, kv, ov⟩ => aA.length - i) (0, ([] : List Sv), (.slice bG (([] : List Sv)).length bH), (.slice bK (([] : List Int)).length bL)) (sC4 rfl rfl rfl rfl (sC2 rfl rfl (sC1 rfl (Sub.nil _)))) ⟨E, (Nat.le_refl _), (by omega), rfl, gC, gD, gE, gF, gG, ca, bF, cb, bI, Od.nil, (fun g hm hg => by have j := bI _ hm; have L := b9 _ hm; have aj := bF _ hg; have ak := b8 _ hg; omega), (fun u hu => by cases hu), (fun u hu => by cases hu)⟩ ?_
  rintro ⟨i, vs, kv, ov⟩ gH ⟨E, gI, hi, hvl, V, aL, aM, aO, X, a7, f, al, b, od, d, C, r⟩
  have di := E
  have e5 := di.size
  have dj := V.lt
  obtain ⟨Akv, Ckv, rfl, lkv, hikv⟩ := a7.opn
  obtain ⟨Aov, Cov, rfl, lov, hiov⟩ := al.opn
  have hV := Zdm (Yz aN (Yt aA (Zy aA aN) aA.length) aA.length c) aN i
  refine Zg fun hW e6 => ?_
  refine Zg fun hX gJ => ?_
  refine Zc (Za rfl rfl (Ze rfl) (Za rfl rfl (Zh fa27_1 rfl) (Za rfl rfl (Zm V.at_ agg24 rfl rfl) (Za rfl rfl (Xa (by rw [el24]; rfl) rfl) (Za rfl rfl (Xi rfl rfl) (Zf (Zb (gJ _ _ ?_))))))))
  refine Zp rfl (fun aD => ?_) (fun aD => ?_)
  ·have dk := aD
   have aD := Yf aD
   refine Zq ?_
   refine Zb (e6 _ _ ?_)
   refine Zg fun hY dl => ?_
   refine Zx ?_
   refine Zg fun hZ gK => ?_
   refine Zg fun h0 gL => ?_
   refine Zc (Za rfl rfl (Ze rfl) (Za rfl rfl (Ze rfl) (Zk rfl rfl ?_)))
   refine (Yo X.ls Yh el30 sz3 rfl rfl rfl (by omega) fun gM dm h dn => ?_)
   refine Za rfl rfl (Yg dn agg3 rfl rfl) (Za rfl rfl (Xi rfl rfl) (Zf (Zb (gL _ _ ?_))))
   refine Zp rfl (fun aE => ?_) (fun aE => ?_)
   ·have dp := aE
    have aE := Yf aE
    refine Zg fun h1 gN => ?_
    refine Zc (Za rfl rfl (Ze rfl) (Zk rfl rfl ?_))
    refine Zo (cs := ics) (parts := [(0, .const (Go.Value.int Go.IntKind.i64 (-1)))]) (0 : Int) [(-1)] el30 sz3 zr3 Yh (by decide) rfl rfl rfl (by decide) (by decide) rfl fun gO gP cy e7 M => ?_
    have e8 := M.size
    have E := E.trans M
    obtain ⟨e9, fa, rfl, fb, dq⟩ := cy.opn
    refine Zk rfl rfl ?_
    have dr := (al.ch0 M)
    refine Yd (cs := ics) el30 sz3 by3 zr3 rfl (by decide) Xn dr cy.ls rfl rfl (by simp only [List.length_singleton]; omega) (by simp only [List.length_singleton]; omega) b (by omega) fun gQ cz cA cB bM ab => ?_
    have fc := ab.size
    have E := E.step ab (fun i hi => .inl (by have j := b _ hi; omega))
    obtain ⟨bN, bO, rfl, fd, cc⟩ := cA.opn
    refine Za rfl rfl (Zd rfl) (Zf (Zb (gN _ _ ?_)))
    refine Xc (Zs (Yu ?_))
    refine Zb (dl _ _ (Zc (Za rfl rfl (Ze rfl) (Za rfl rfl (Yk (by omega) rfl rfl) (Za rfl rfl (Zd rfl) (Zf ?_))))))
    have ds := ((a7.ch0 M).ch ab (fun g hg hm => by exact d _ hm hg))
    have bg : Ol Sv.cs 30 1 cz (.slice Akv (vs).length Ckv) (vs) := by
     have hx := ds
     exact hx
    have bh : Ol ics 3 1 cz (.slice bN (((rfn (Yz aN (Yt aA (Zy aA aN) aA.length) aA.length c) aN i).2 ++ [(-1)])).length bO) ((rfn (Yz aN (Yt aA (Zy aA aN) aA.length) aA.length c) aN (i + 1)).2) := by
     have hx := cA
     first | exact hx.eq (Zig h (by omega)) | exact hx.eq (Znj h (by omega) rfl (Zae hat (by omega) (Qk _ _ _)) (by omega)) | exact hx.eq (Zez h (by omega) rfl (Zae hat (by omega) (Qk _ _ _)) (by omega) hvl)
    have cd := ((od.ch0 M).chS ab r)
    have dt := ((V.ch0 M).ch ab (fun hm => by have j := b _ hm; have L := hiov _ hm; omega))
    have du := ((aL.ch0 M).ch ab (fun i hi => by have j := b _ hi; omega))
    have dv := ((aM.ch0 M).ch ab (fun i hi => by have j := b _ hi; omega))
    have dw := ((aO.ch0 M).ch ab (fun i hi => by have j := b _ hi; omega))
    have dx := ((X.ch0 M).ch ab (fun g hg hm => by have j := b _ hm; have L := hiov _ hm; have aj := A _ hg; have ak := hicv _ hg; omega))
    exact Zb (Exists.intro ((i + 1), vs, (.slice Akv (vs).length Ckv), (.slice bN (((rfn (Yz aN (Yt aA (Zy aA aN) aA.length) aA.length c) aN i).2 ++ [(-1)])).length bO)) ⟨⟨E, (by omega), (by omega), (by first | (rw [Zfs h (by omega)]; exact hvl) | (rw [Zkg h (by omega) rfl (Zae hat (by omega) (Qk _ _ _)) (by omega)]; exact hvl)), dt, du, dv, dw, dx, bg, (Lo.down f (by omega)), bh, (Lo.down cB (by omega)), (by first | (rw [Zfs h (by omega)]; exact cd.up (Nat.le_refl _) (by omega)) | (rw [Zkg h (by omega) rfl (Zae hat (by omega) (Qk _ _ _)) (by omega)]; exact cd.up (Nat.le_refl _) (by omega))), (fun g hm hg => by rcases bM with ea | ea; (rw [ea] at hm; exact d _ hm hg); (have cC := cc _ hm; rw [ea] at hm; have aW := List.mem_singleton.1 hm; have aj := f _ hg; have ak := hikv _ hg; omega)), (fun u hu g hg hm => by exact C _ hu _ hg hm), (fun u hu g hg hm => by rcases bM with ea | ea; (rw [ea] at hm; exact r _ hu _ hg hm); (rw [ea] at hm; have aW := List.mem_singleton.1 hm; have a2 := cd.rng hu hg; omega))⟩, sC4 rfl rfl rfl rfl (sC2 rfl rfl (sC1 rfl (Sub.nil _))), (by first | omega | (dsimp only; omega))⟩)
   have dp := aE
   have aE := Ye aE
   refine Zq ?_
   refine Zb (gK _ _ ?_)
   refine Zg fun gR dy => ?_
   refine Zc (Za rfl rfl (Zw V.at_ agg27 sz27 rfl) (Za rfl rfl (Ze rfl) (Za rfl rfl (Ze rfl) (Zk rfl rfl ?_))))
   refine Step.call (Zn (xs := [.tmp 62, .tmp 63, .tmp 64]) fk94 rfl) (Zkb _ aL aM aO X.ls _ hv gq (by omega)) fun gS dz bi => ?_
   obtain ⟨bi, I, O⟩ := bi
   have fe := O.size
   have E := E.trans O
   obtain ⟨x, y, rfl, ff, z⟩ := bi.opn
   refine Za rfl rfl (Zd rfl) (Zf (Zb (dy _ _ ?_)))
   refine Zg fun gT dA => ?_
   refine Zc (Za rfl rfl (Zd rfl) (Zf (Zb (dA _ _ ?_))))
   refine Zg fun gU dB => ?_
   refine Zg fun gV dC => ?_
   refine Zc (Za rfl rfl (Zd rfl) (Zf (Zb (dC _ _ ?_))))
   refine Zx ?_
   have dD := (V.ch0 O)
   have dE := (aL.ch0 O)
   have dF := (aM.ch0 O)
   have dG := (aO.ch0 O)
   have dH := (X.ch0 O)
   have dI := (a7.ch0 O)
   have dJ := (al.ch0 O)
   have dL := (od.ch0 O)
   refine Xf (σ := Nat × Int) (fun ⟨k, bj⟩ => [(1, (.pointer (some ⟨be, 0, none⟩))), (4, (.slice Acv (Yz aN (Yt aA (Zy aA aN) aA.length) aA.length c).length Ccv)), (7, (.int .i64 ((c : Nat) : Int))), (8, (.slice Akv (vs).length Ckv)), (9, (.slice Aov ((rfn (Yz aN (Yt aA (Zy aA aN) aA.length) aA.length c) aN i).2).length Cov)), (10, (.int .i64 ((i : Nat) : Int))), (11, (.slice x (Qu (Yz aN (Yt aA (Zy aA aN) aA.length) aA.length c) (aN.getD ((i : Nat) : Int).toNat []) ((Yz aN (Yt aA (Zy aA aN) aA.length) aA.length c).getD ((i : Nat) : Int).toNat 0)).length y)), (12, (.int .i64 bj)), (13, (.int .i64 ((k : Nat) : Int))), (42, (.bool (decide (((c : Nat) : Int) ≤ ((aA.length : Nat) : Int))))), (51, (.bool (decide (((i : Nat) : Int) < ((aA.length : Nat) : Int))))), (58, (.bool (decide (dm < 0))))]) (fun ⟨k, bj⟩ wx => Ch [] w wx ∧ dz.heap.size ≤ wx.heap.size ∧ (k ≤ vs.length) ∧ (Zll (rfn (Yz aN (Yt aA (Zy aA aN) aA.length) aA.length c) aN i).1 (Qu (Yz aN (Yt aA (Zy aA aN) aA.length) aA.length c) (aN.getD i []) ((Yz aN (Yt aA (Zy aA aN) aA.length) aA.length c).getD i 0)) k bj) ∧ Blk wx be 27 [(.int .i64 aS), (.slice s aA.length t), (.slice l saN.length m)] ∧ Ls bcs 1 wx LL_aA w.heap.size (.slice s aA.length t) aA ∧ Ls Sv.cs 1 wx LL_saN w.heap.size (.slice l saN.length m) saN ∧ Rd ics 1 wx LR_aN w.heap.size saN aN ∧ Ol ics 3 1 wx (.slice Acv (Yz aN (Yt aA (Zy aA aN) aA.length) aA.length c).length Ccv) (Yz aN (Yt aA (Zy aA aN) aA.length) aA.length c) ∧ Ol Sv.cs 30 1 wx (.slice Akv (vs).length Ckv) vs ∧ Ol ics 3 1 wx (.slice Aov ((rfn (Yz aN (Yt aA (Zy aA aN) aA.length) aA.length c) aN i).2).length Cov) ((rfn (Yz aN (Yt aA (Zy aA aN) aA.length) aA.length c) aN i).2) ∧ Ol ics 3 1 wx (.slice x (Qu (Yz aN (Yt aA (Zy aA aN) aA.length) aA.length c) (aN.getD ((i : Nat) : Int).toNat []) ((Yz aN (Yt aA (Zy aA aN) aA.length) aA.length c).getD ((i : Nat) : Int).toNat 0)).length y) (Qu (Yz aN (Yt aA (Zy aA aN) aA.length) aA.length c) (aN.getD ((i : Nat) : Int).toNat []) ((Yz aN (Yt aA (Zy aA aN) aA.length) aA.length c).getD ((i : Nat) : Int).toNat 0)) ∧ Od ics 3 1 wx cw.heap.size gH.heap.size vs ((rfn (Yz aN (Yt aA (Zy aA aN) aA.length) aA.length c) aN i).1)) (fun ⟨k, bj⟩ => vs.length - k) (0, -1) (sC8 rfl rfl rfl rfl rfl rfl rfl rfl (sC4 rfl rfl rfl rfl (Sub.nil _))) ⟨E, (Nat.le_refl _), (by omega), (Zno _ _), dD, dE, dF, dG, dH, dI, dJ, bi, dL⟩ ?_
   rintro ⟨k, bj⟩ bk ⟨E, gW, h2, hat, am, aP, aQ, aR, aT, an, aU, aV, ao⟩
   have dM := E
   have fg := dM.size
   have dN := am.lt
   refine Zg fun gX dP => ?_
   refine Zg fun gY dQ => ?_
   refine Zc (Za rfl rfl (Ze rfl) (Za rfl rfl (Ze rfl) (Za rfl rfl (Xa (by rw [el25]; rfl) rfl) (Za rfl rfl (Xi rfl rfl) (Zf (Zb (dQ _ _ ?_)))))))
   refine Zp rfl (fun aF => ?_) (fun aF => ?_)
   ·have cD := aF
    have aF := Yf aF
    refine Zq ?_
    refine Zb (dP _ _ ?_)
    refine Zg fun gZ cE => ?_
    refine Zx ?_
    refine Zg fun g0 dR => ?_
    refine Zc (Za rfl rfl (Ze rfl) (Za rfl rfl (Ze rfl) (Zk rfl rfl ?_)))
    refine (Yo an.ls Sv.len el25 sz30 rfl rfl rfl (by omega) fun dU dW cF ce => ?_)
    obtain ⟨a8, ac, ap⟩ := ao.get cF
    obtain ⟨cG, g1, cH⟩ := dW
    obtain rfl := ap.eqn
    have g2 := ap.len
    replace ap : Ls ics 1 bk 0 bk.heap.size (.slice cG a8.length cH) a8 := ap
    replace ce : At bk 0 bk.heap.size dU ([(.slice cG a8.length cH)]) := ce
    refine Za rfl rfl (Yg ce agg30 rfl rfl) (Za rfl rfl (Ze rfl) (Zk rfl rfl ?_))
    refine Step.call (Zn (xs := [.tmp 75, .tmp 76]) fk95 rfl) (Zgc ap aV.ls ) fun g3 g4 dX => ?_
    obtain ⟨rfl, n⟩ := dX
    have fh := n.size
    have E := E.trans n
    refine Za rfl rfl (Xj rfl rfl) (Zf (Zb (dR _ _ ?_)))
    refine Zp rfl (fun aG => ?_) (fun aG => ?_)
    ·have cI := aG
     have aG := Yf aG
     refine Zc (Za rfl rfl (Ze rfl) (Za rfl rfl (Zd rfl) (Zf (Zv (Zb (cE _ _ (Zc (Za rfl rfl (Ze rfl) ?_))))))))
     refine Za rfl rfl (Yk (by omega) rfl rfl) (Za rfl rfl (Zd rfl) (Zf ?_))
     have dY := (am.ch0 n)
     have dZ := (aP.ch0 n)
     have d0 := (aQ.ch0 n)
     have d1 := (aR.ch0 n)
     have d2 := (aT.ch0 n)
     have d3 := (an.ch0 n)
     have d4 := (aU.ch0 n)
     have d5 := (aV.ch0 n)
     have d6 := (ao.ch0 n)
     exact Zb (Exists.intro ((k + 1), ((k : Nat) : Int)) ⟨⟨E, (by omega), (by omega), (by first | exact Zkv ac (Zei.1 (by assumption)) | exact Zio hat ac (fun e => (by assumption : ¬ _) (Zei.2 e))), dY, dZ, d0, d1, d2, d3, d4, d5, d6⟩, sC8 rfl rfl rfl rfl rfl rfl rfl rfl (sC4 rfl rfl rfl rfl (Sub.nil _)), (by first | omega | (dsimp only; omega))⟩)
    have cI := aG
    have aG := Ye aG
    refine Zq ?_
    refine Zv (Zb (cE _ _ (Zc (Za rfl rfl (Ze rfl) (Za rfl rfl (Yk (by omega) rfl rfl) (Za rfl rfl (Zd rfl) (Zf ?_)))))))
    have d7 := (am.ch0 n)
    have d8 := (aP.ch0 n)
    have eb := (aQ.ch0 n)
    have ec := (aR.ch0 n)
    have ed := (aT.ch0 n)
    have ee := (an.ch0 n)
    have ef := (aU.ch0 n)
    have eg := (aV.ch0 n)
    have eh := (ao.ch0 n)
    exact Zb (Exists.intro ((k + 1), bj) ⟨⟨E, (by omega), (by omega), (by first | exact Zkv ac (Zei.1 (by assumption)) | exact Zio hat ac (fun e => (by assumption : ¬ _) (Zei.2 e))), d7, d8, eb, ec, ed, ee, ef, eg, eh⟩, sC8 rfl rfl rfl rfl rfl rfl rfl rfl (sC4 rfl rfl rfl rfl (Sub.nil _)), (by first | omega | (dsimp only; omega))⟩)
   have cD := aF
   have aF := Ye aF
   refine Xc (Zs (Zs (Yu ?_)))
   refine Zb (dB _ _ ?_)
   refine Zg fun g5 cJ => ?_
   refine Zg fun g6 ei => ?_
   refine Zc (Za rfl rfl (Ze rfl) (Za rfl rfl (Xi rfl rfl) (Zf (Zb (ei _ _ ?_)))))
   refine Zp rfl (fun aH => ?_) (fun aH => ?_)
   ·have cK := aH
    have aH := Yf aH
    refine Zg fun g7 ej => ?_
    refine Zc (Za rfl rfl (Ze rfl) (Za rfl rfl (Xa (by rw [el25]; rfl) rfl) (Za rfl rfl (Zd rfl) (Zf (Zb (ej _ _ (Zc (Za rfl rfl (Ze rfl) ?_))))))))
    refine Za rfl rfl (Ze rfl) (Zk rfl rfl ?_)
    refine Zo (cs := Sv.cs) (parts := [(0, .tmp 85)]) (⟨none, 0, 0⟩ : Sv) [(⟨x, (Qu (Yz aN (Yt aA (Zy aA aN) aA.length) aA.length c) (aN.getD ((i : Nat) : Int).toNat []) ((Yz aN (Yt aA (Zy aA aN) aA.length) aA.length c).getD ((i : Nat) : Int).toNat 0)).length, y⟩ : Sv)] el25 sz30 zr30 Sv.len (by decide) rfl rfl rfl (by decide) (by decide) rfl fun g8 cL cM fi J => ?_
    have fj := J.size
    have E := E.trans J
    obtain ⟨fk, fl, rfl, fm, ek⟩ := cM.opn
    have cN := (aV.ch0 J)
    have fn : Rd ics 1 cL 0 cL.heap.size ([(⟨x, (Qu (Yz aN (Yt aA (Zy aA aN) aA.length) aA.length c) (aN.getD ((i : Nat) : Int).toNat []) ((Yz aN (Yt aA (Zy aA aN) aA.length) aA.length c).getD ((i : Nat) : Int).toNat 0)).length, y⟩ : Sv)]) ([Qu (Yz aN (Yt aA (Zy aA aN) aA.length) aA.length c) (aN.getD ((i : Nat) : Int).toNat []) ((Yz aN (Yt aA (Zy aA aN) aA.length) aA.length c).getD ((i : Nat) : Int).toNat 0)]) := (Rd.cons (cN.ls.up (by omega) (by omega)) Rd.nil)
    refine Zk rfl rfl ?_
    have el := (an.ch0 J)
    refine Yd (cs := Sv.cs) el25 sz30 by30 zr30 rfl (by decide) Sv.one el cM.ls rfl rfl (by simp only [List.length_singleton]; omega) (by simp only [List.length_singleton]; omega) f (by omega) fun g9 ha cO cP aq P => ?_
    have fo := P.size
    have E := E.step P (fun i hi => .inl (by have j := f _ hi; omega))
    obtain ⟨bP, bQ, rfl, fp, a9⟩ := cO.opn
    refine Za rfl rfl (Zd rfl) (Zf (Zb (cJ _ _ (Zc (Za rfl rfl (Ze rfl) (Za rfl rfl (Ze rfl) (Zk rfl rfl ?_)))))))
    refine Zo (cs := ics) (parts := [(0, .tmp 89)]) (0 : Int) [((vs.length : Nat) : Int)] el30 sz3 zr3 Yh (by decide) rfl rfl rfl (by decide) (by decide) rfl fun em hb ba cQ K => ?_
    have fq := K.size
    have E := E.trans K
    obtain ⟨cR, cS, rfl, cT, cf⟩ := ba.opn
    refine Zk rfl rfl ?_
    have en := (((aU.ch0 J).ch P (fun g hg hm => by exact d _ hg hm)).ch0 K)
    refine Yd (cs := ics) el30 sz3 by3 zr3 rfl (by decide) Xn en ba.ls rfl rfl (by simp only [List.length_singleton]; omega) (by simp only [List.length_singleton]; omega) b (by omega) fun eo cU bb bc Y Q => ?_
    have fr := Q.size
    have E := E.step Q (fun i hi => .inl (by have j := b _ hi; omega))
    obtain ⟨au, av, rfl, cV, aI⟩ := bb.opn
    refine Za rfl rfl (Zd rfl) (Zf (Zv (Zb (dl _ _ (Zc (Za rfl rfl (Ze rfl) (Za rfl rfl (Yk (by omega) rfl rfl) (Za rfl rfl (Zd rfl) ?_))))))))
    refine Zf ?_
    have ep := ((cO.ch0 K).ch Q (fun g hg hm => by rcases aq with ea | ea; (rw [ea] at hg; exact d _ hm hg); (rw [ea] at hg; have aW := List.mem_singleton.1 hg; have j := b _ hm; have L := hiov _ hm; omega)))
    have bm : Ol Sv.cs 30 1 cU (.slice bP ((vs ++ [(⟨x, (Qu (Yz aN (Yt aA (Zy aA aN) aA.length) aA.length c) (aN.getD ((i : Nat) : Int).toNat []) ((Yz aN (Yt aA (Zy aA aN) aA.length) aA.length c).getD ((i : Nat) : Int).toNat 0)).length, y⟩ : Sv)])).length bQ) ((vs ++ [(⟨x, (Qu (Yz aN (Yt aA (Zy aA aN) aA.length) aA.length c) (aN.getD ((i : Nat) : Int).toNat []) ((Yz aN (Yt aA (Zy aA aN) aA.length) aA.length c).getD ((i : Nat) : Int).toNat 0)).length, y⟩ : Sv)])) := by
     have hx := ep
     exact hx
    have bn : Ol ics 3 1 cU (.slice au (((rfn (Yz aN (Yt aA (Zy aA aN) aA.length) aA.length c) aN i).2 ++ [((vs.length : Nat) : Int)])).length av) ((rfn (Yz aN (Yt aA (Zy aA aN) aA.length) aA.length c) aN (i + 1)).2) := by
     have hx := bb
     first | exact hx.eq (Zig h (by omega)) | exact hx.eq (Znj h (by omega) rfl (Zae hat (by omega) (Qk _ _ _)) (by omega)) | exact hx.eq (Zez h (by omega) rfl (Zae hat (by omega) (Qk _ _ _)) (by omega) hvl)
    have cg := ((((ao.ch0 J).chS P C).ch0 K).chS Q r)
    have er := (((cN.ch P (fun g hg hm => by have j := f _ hm; have L := hikv _ hm; have aj := I _ hg; have ak := z _ hg; omega)).ch0 K).ch Q (fun g hg hm => by have j := b _ hm; have L := hiov _ hm; have aj := I _ hg; have ak := z _ hg; omega))
    have es := ((((am.ch0 J).ch P (fun hm => by have j := f _ hm; have L := hikv _ hm; omega)).ch0 K).ch Q (fun hm => by have j := b _ hm; have L := hiov _ hm; omega))
    have et := ((((aP.ch0 J).ch P (fun i hi => by have j := f _ hi; omega)).ch0 K).ch Q (fun i hi => by have j := b _ hi; omega))
    have eu := ((((aQ.ch0 J).ch P (fun i hi => by have j := f _ hi; omega)).ch0 K).ch Q (fun i hi => by have j := b _ hi; omega))
    have ew := ((((aR.ch0 J).ch P (fun i hi => by have j := f _ hi; omega)).ch0 K).ch Q (fun i hi => by have j := b _ hi; omega))
    have ex := ((((aT.ch0 J).ch P (fun g hg hm => by have j := f _ hm; have L := hikv _ hm; have aj := A _ hg; have ak := hicv _ hg; omega)).ch0 K).ch Q (fun g hg hm => by have j := b _ hm; have L := hiov _ hm; have aj := A _ hg; have ak := hicv _ hg; omega))
    exact Zb (Exists.intro ((i + 1), (vs ++ [(⟨x, (Qu (Yz aN (Yt aA (Zy aA aN) aA.length) aA.length c) (aN.getD ((i : Nat) : Int).toNat []) ((Yz aN (Yt aA (Zy aA aN) aA.length) aA.length c).getD ((i : Nat) : Int).toNat 0)).length, y⟩ : Sv)]), (.slice bP ((vs ++ [(⟨x, (Qu (Yz aN (Yt aA (Zy aA aN) aA.length) aA.length c) (aN.getD ((i : Nat) : Int).toNat []) ((Yz aN (Yt aA (Zy aA aN) aA.length) aA.length c).getD ((i : Nat) : Int).toNat 0)).length, y⟩ : Sv)])).length bQ), (.slice au (((rfn (Yz aN (Yt aA (Zy aA aN) aA.length) aA.length c) aN i).2 ++ [((vs.length : Nat) : Int)])).length av)) ⟨⟨E, (by omega), (by omega), (by rw [Zjh h (by omega) rfl (Zae hat (by omega) (Qk _ _ _)) (by omega), List.length_append, List.length_append, hvl]; rfl), es, et, eu, ew, ex, bm, (Lo.down cP (by omega)), bn, (Lo.down bc (by omega)), (by rw [Zjh h (by omega) rfl (Zae hat (by omega) (Qk _ _ _)) (by omega)]; exact Od.snoc cg er (Lo.down I (by omega)) (fun g hg => by have j := z g hg; omega) (by omega) (by omega)), (fun g hm hg => by rcases Y with ea | ea; (rw [ea] at hm; rcases aq with ea | ea; (rw [ea] at hg; exact d _ hm hg); (have ey := a9 _ hg; rw [ea] at hg; have aW := List.mem_singleton.1 hg; have j := b _ hm; have L := hiov _ hm; omega)); (have cC := aI _ hm; rw [ea] at hm; have aW := List.mem_singleton.1 hm; rcases aq with ea | ea; (rw [ea] at hg; have aj := f _ hg; have ak := hikv _ hg; omega); (have ey := a9 _ hg; rw [ea] at hg; have aW := List.mem_singleton.1 hg; omega))), (fun u hu g hg hm => by rcases List.mem_append.1 hu with hu | hu; (rcases aq with ea | ea; (rw [ea] at hm; exact C _ hu _ hg hm); (rw [ea] at hm; have aW := List.mem_singleton.1 hm; have a2 := cg.rng hu hg; omega)); (rw [List.mem_singleton.1 hu] at hg; replace hg : g ∈ bl (.slice x (Qu (Yz aN (Yt aA (Zy aA aN) aA.length) aA.length c) (aN.getD ((i : Nat) : Int).toNat []) ((Yz aN (Yt aA (Zy aA aN) aA.length) aA.length c).getD ((i : Nat) : Int).toNat 0)).length y) := hg; rcases aq with ea | ea; (rw [ea] at hm; have j := f _ hm; have L := hikv _ hm; have aj := I _ hg; have ak := z _ hg; omega); (rw [ea] at hm; have aW := List.mem_singleton.1 hm; have aj := I _ hg; have ak := z _ hg; omega))), (fun u hu g hg hm => by rcases List.mem_append.1 hu with hu | hu; (rcases Y with ea | ea; (rw [ea] at hm; exact r _ hu _ hg hm); (rw [ea] at hm; have aW := List.mem_singleton.1 hm; have a2 := cg.rng hu hg; omega)); (rw [List.mem_singleton.1 hu] at hg; replace hg : g ∈ bl (.slice x (Qu (Yz aN (Yt aA (Zy aA aN) aA.length) aA.length c) (aN.getD ((i : Nat) : Int).toNat []) ((Yz aN (Yt aA (Zy aA aN) aA.length) aA.length c).getD ((i : Nat) : Int).toNat 0)).length y) := hg; rcases Y with ea | ea; (rw [ea] at hm; have j := b _ hm; have L := hiov _ hm; have aj := I _ hg; have ak := z _ hg; omega); (rw [ea] at hm; have aW := List.mem_singleton.1 hm; have aj := I _ hg; have ak := z _ hg; omega)))⟩, sC4 rfl rfl rfl rfl (sC2 rfl rfl (sC1 rfl (Sub.nil _))), (by first | omega | (dsimp only; omega))⟩)
   have cK := aH
   have aH := Ye aH
   refine Zq ?_
   refine Zb (cJ _ _ (Zc (Za rfl rfl (Ze rfl) (Za rfl rfl (Ze rfl) (Zk rfl rfl ?_)))))
   refine Zo (cs := ics) (parts := [(0, .tmp 89)]) (0 : Int) [bj] el30 sz3 zr3 Yh (by decide) rfl rfl rfl (by decide) (by decide) rfl fun em hc ba cQ R => ?_
   have fs := R.size
   have E := E.trans R
   obtain ⟨cR, cS, rfl, cT, cf⟩ := ba.opn
   refine Zk rfl rfl ?_
   have ez := (aU.ch0 R)
   refine Yd (cs := ics) el30 sz3 by3 zr3 rfl (by decide) Xn ez ba.ls rfl rfl (by simp only [List.length_singleton]; omega) (by simp only [List.length_singleton]; omega) b (by omega) fun eo cW bb bc Y ad => ?_
   have ft := ad.size
   have E := E.step ad (fun i hi => .inl (by have j := b _ hi; omega))
   obtain ⟨au, av, rfl, cV, aI⟩ := bb.opn
   refine Za rfl rfl (Zd rfl) (Zf (Zv (Zb (dl _ _ (Zc (Za rfl rfl (Ze rfl) (Za rfl rfl (Yk (by omega) rfl rfl) (Za rfl rfl (Zd rfl) ?_))))))))
   refine Zf ?_
   have eA := ((an.ch0 R).ch ad (fun g hg hm => by exact d _ hm hg))
   have bp : Ol Sv.cs 30 1 cW (.slice Akv (vs).length Ckv) (vs) := by
    have hx := eA
    exact hx
   have bq : Ol ics 3 1 cW (.slice au (((rfn (Yz aN (Yt aA (Zy aA aN) aA.length) aA.length c) aN i).2 ++ [bj])).length av) ((rfn (Yz aN (Yt aA (Zy aA aN) aA.length) aA.length c) aN (i + 1)).2) := by
    have hx := bb
    first | exact hx.eq (Zig h (by omega)) | exact hx.eq (Znj h (by omega) rfl (Zae hat (by omega) (Qk _ _ _)) (by omega)) | exact hx.eq (Zez h (by omega) rfl (Zae hat (by omega) (Qk _ _ _)) (by omega) hvl)
   have ci := ((ao.ch0 R).chS ad r)
   have eB := ((am.ch0 R).ch ad (fun hm => by have j := b _ hm; have L := hiov _ hm; omega))
   have eC := ((aP.ch0 R).ch ad (fun i hi => by have j := b _ hi; omega))
   have eD := ((aQ.ch0 R).ch ad (fun i hi => by have j := b _ hi; omega))
   have eE := ((aR.ch0 R).ch ad (fun i hi => by have j := b _ hi; omega))
   have eF := ((aT.ch0 R).ch ad (fun g hg hm => by have j := b _ hm; have L := hiov _ hm; have aj := A _ hg; have ak := hicv _ hg; omega))
   exact Zb (Exists.intro ((i + 1), vs, (.slice Akv (vs).length Ckv), (.slice au (((rfn (Yz aN (Yt aA (Zy aA aN) aA.length) aA.length c) aN i).2 ++ [bj])).length av)) ⟨⟨E, (by omega), (by omega), (by first | (rw [Zfs h (by omega)]; exact hvl) | (rw [Zkg h (by omega) rfl (Zae hat (by omega) (Qk _ _ _)) (by omega)]; exact hvl)), eB, eC, eD, eE, eF, bp, (Lo.down f (by omega)), bq, (Lo.down bc (by omega)), (by first | (rw [Zfs h (by omega)]; exact ci.up (Nat.le_refl _) (by omega)) | (rw [Zkg h (by omega) rfl (Zae hat (by omega) (Qk _ _ _)) (by omega)]; exact ci.up (Nat.le_refl _) (by omega))), (fun g hm hg => by rcases Y with ea | ea; (rw [ea] at hm; exact d _ hm hg); (have cC := aI _ hm; rw [ea] at hm; have aW := List.mem_singleton.1 hm; have aj := f _ hg; have ak := hikv _ hg; omega)), (fun u hu g hg hm => by exact C _ hu _ hg hm), (fun u hu g hg hm => by rcases Y with ea | ea; (rw [ea] at hm; exact r _ hu _ hg hm); (rw [ea] at hm; have aW := List.mem_singleton.1 hm; have a2 := ci.rng hu hg; omega))⟩, sC4 rfl rfl rfl rfl (sC2 rfl rfl (sC1 rfl (Sub.nil _))), (by first | omega | (dsimp only; omega))⟩)
  have dk := aD
  have aD := Ye aD
  refine Xc (Zs (Zs (Yu ?_)))
  refine Zb (gz _ _ ?_)
  refine Zg fun hd cX => ?_
  refine Zg fun he eG => ?_
  refine Zc (Za rfl rfl (Ze rfl) (Za rfl rfl (Ze rfl) (Zk rfl rfl ?_)))
  refine Step.call (Zn (xs := [.tmp 92, .tmp 93]) fk95 rfl) (Zgc al.ls X.ls ) fun hf cY eH => ?_
  obtain ⟨rfl, aw⟩ := eH
  have fu := aw.size
  have E := E.trans aw
  refine Za rfl rfl (Xj rfl rfl) (Zf (Zb (eG _ _ ?_)))
  refine Zp rfl (fun ae => ?_) (fun ae => ?_)
  ·have cZ := ae
   have ae := Yf ae
   refine Zg fun hh eI => ?_
   refine Zc (Za rfl rfl (Ze rfl) (Za rfl rfl (Zd rfl) (Zf (Zb (eI _ _ ?_)))))
   refine Zr (Zl (Ya (Zl (Zl (Ya (Zl ?_))))))
   clear c7 eY e2 e6 cX
   have eJ := (X.ch0 aw)
   have cj : Ol ics 3 1 cY (.slice Acv (Yz aN (Yt aA (Zy aA aN) aA.length) aA.length c).length Ccv) (clsF aN (Yt aA (Zy aA aN) aA.length) aA.length) := by
    have hx := eJ
    first | exact hx.eq (Zlx d9 (by have c0 := Zei.1 ae; rw [show i = aA.length by omega] at c0; exact c0)) | exact hx.eq (by rw [show c = aA.length + 1 by omega]; exact Zmx d9)
   exact Zi [_] ⟨rfl, trivial⟩ ⟨cj, Lo.down A (by omega), E⟩
  have cZ := ae
  have ae := Ye ae
  refine Zq ?_
  refine Zb (cX _ _ (Zc (Za rfl rfl (Ze rfl) (Za rfl rfl (Zd rfl) (Zf (Zv (Zb (e2 _ _ (Zc ?_)))))))))
  refine Za rfl rfl (Ze rfl) (Za rfl rfl (Yk (by omega) rfl rfl) (Za rfl rfl (Zd rfl) (Zf ?_)))
  have eK := (al.ch0 aw)
  have br : Ol ics 3 1 cY (.slice Aov ((rfn (Yz aN (Yt aA (Zy aA aN) aA.length) aA.length c) aN i).2).length Cov) (Yz aN (Yt aA (Zy aA aN) aA.length) aA.length (c + 1)) := by
   have hx := eK
   exact hx.eq (by rw [show i = aA.length by omega]; rfl)
  have eL := (V.ch0 aw)
  have eM := (aL.ch0 aw)
  have eN := (aM.ch0 aw)
  have eO := (aO.ch0 aw)
  exact Zb (Exists.intro ((c + 1), (.slice Aov ((rfn (Yz aN (Yt aA (Zy aA aN) aA.length) aA.length c) aN i).2).length Cov)) ⟨⟨E, (by omega), (by omega), eL, eM, eN, eO, br, (Lo.down b (by omega))⟩, sC2 rfl rfl (sC1 rfl (Sub.nil _)), (by first | omega | (dsimp only; omega))⟩)
 have dh := aC
 have aC := Ye aC
 refine Xc (Zs (Zs (Yu ?_)))
 refine Zb (eY _ _ ?_)
 refine Zg fun hj eP => ?_
 refine Zc (Za rfl rfl (Ze rfl) (Za rfl rfl (Zd rfl) (Zf (Zb (eP _ _ ?_)))))
 refine Zr ?_
 clear c7 e1
 have ck : Ol ics 3 1 eZ (.slice Acv (Yz aN (Yt aA (Zy aA aN) aA.length) aA.length c).length Ccv) (clsF aN (Yt aA (Zy aA aN) aA.length) aA.length) := by
  have hx := a6
  first | exact hx.eq (Zlx d9 (by have c0 := Zei.1 ae; rw [show i = aA.length by omega] at c0; exact c0)) | exact hx.eq (by rw [show c = aA.length + 1 by omega]; exact Zmx d9)
 exact Zi [_] ⟨rfl, trivial⟩ ⟨ck, Lo.down A (by omega), E⟩

/-- spec.StateClasses -/
theorem Zel {w : World} (aS : Int) {LL_aA o : Nat} {i : Value} {aA : List Bool} (c : Ls bcs 1 w LL_aA o i aA) {LL_saN m : Nat} {e : Value} {saN : List Sv} (a : Ls Sv.cs 1 w LL_saN m e saN) {LR_aN BB_aN : Nat} {aN : List (List Int)} (b : Rd ics 1 w LR_aN BB_aN saN aN) :
 Ctr Try.prog 12 #[(.agg #[(.int .i64 aS), i, e])] w (fun v w' => Ol ics 3 1 w' v (scR aS aA aN) ∧ Lo w.heap.size v ∧ Ch [] w w') := by
 obtain ⟨j, l, n⟩ := c.val
 subst n
 have D := c.len
 have c := c.here (by decide)
 obtain ⟨f, g, h⟩ := a.val
 subst h
 have t := a.len
 have a := a.here (by decide)
 have b := b.here (by decide)
 have u := b.1
 have E := Ch.refl [] w
 refine Yc (N := 9) (vs0 := [(.agg #[(.int .i64 aS), (.slice j aA.length l), (.slice f saN.length g)])]) Try.func12 rfl rfl rfl ?_
 refine Zg fun K1 H1 => ?_
 refine Zc (Zk rfl rfl ?_)
 refine Xz rfl fun K W2 p C2 ab => ?_
 have ac := C2.size
 have E := E.trans C2
 have ad := p.lt
 replace p : Blk W2 K 27 [(.int .i64 aS), (.slice j aA.length l), (.slice f saN.length g)] := p
 refine Za rfl rfl (Zd rfl) (Zf (Zb (H1 _ _ ?_)))
 refine Zg fun K3 H3 => ?_
 refine Zg fun K4 H4 => ?_
 refine Zc (Za rfl rfl (Zw p.at_ agg27 sz27 rfl) (Zk rfl rfl ?_))
 have F5 := (c.ch0 C2)
 have F6 := (b.ch0 C2)
 have F7 := (a.ch0 C2)
 refine Step.call (Zn (xs := [.tmp 3]) fk13 rfl) (Zab _ F5 F7 F6 ) fun ae W8 L => ?_
 obtain ⟨rfl, C8⟩ := L
 have af := C8.size
 have E := E.trans C8
 refine Za rfl rfl (Xu rfl) (Zf (Zb (H4 _ _ ?_)))
 refine Zp rfl (fun d => ?_) (fun d => ?_)
 ·have M := d
  have d := bf_t (Qb d)
  refine Zg fun ag O => ?_
  refine Zc (Zk rfl rfl ?_)
  refine Xd (k := 1) ics el30 sz3 fun ah P F x G => ?_
  have Q := G.size
  have E := E.trans G
  obtain ⟨y, z, rfl, R, H⟩ := F.opn
  refine Za rfl rfl (Zd rfl) (Zf (Zb (O _ _ ?_)))
  refine Zr (Zl ?_)
  have q : Ol ics 3 1 P (.slice y (([] : List Int)).length z) (scR aS aA aN) := by
   have hx := F
   first | exact hx.eq (Zqo d) | exact hx.eq (Zlm d)
  exact Zi [_] ⟨rfl, trivial⟩ ⟨q, Lo.down x (by omega), E⟩
 have M := d
 have d := bt_t (Qc d)
 refine Zq ?_
 refine Zb (H3 _ _ ?_)
 refine Zg fun ai S => ?_
 refine Zc ?_
 have T := (p.ch0 C8)
 refine Za rfl rfl (Zw T.at_ agg27 sz27 rfl) (Zk rfl rfl ?_)
 have U := (F5.ch0 C8)
 have V := (F6.ch0 C8)
 have X := (F7.ch0 C8)
 refine Step.call (Zn (xs := [.tmp 7]) fk52 rfl) (Zfm _ U X V d) fun aj Y s => ?_
 obtain ⟨s, A, I⟩ := s
 have Z := I.size
 have E := E.trans I
 obtain ⟨B, C, rfl, aa, J⟩ := s.opn
 refine Za rfl rfl (Zd rfl) (Zf (Zb (S _ _ ?_)))
 refine Zr ?_
 have r : Ol ics 3 1 Y (.slice B (clsF aN (Yt aA (Zy aA aN) aA.length) aA.length).length C) (scR aS aA aN) := by
  have hx := s
  first | exact hx.eq (Zqo d) | exact hx.eq (Zlm d)
 exact Zi [_] ⟨rfl, trivial⟩ ⟨r, Lo.down A (by omega), E⟩

/-- laws.FnMinimal -/
theorem Zgj {w : World} {LL_code aG : Nat} {ao : Value} {code : List Int} (H : Ls ucs 1 w LL_code aG ao code) :
 Ctr Try.prog 3 #[ao] w (fun v w' => v = .bool (true) ∧ Ch [] w w') := by
 obtain ⟨aH, aI, ax⟩ := H.val
 subst ax
 have br := H.len
 have H := H.here (by decide)
 have E := Ch.refl [] w
 refine Yc (N := 104) (vs0 := [(.slice aH code.length aI)]) Try.func3 rfl rfl rfl ?_
 refine Zg fun K1 H1 => ?_
 refine Zc (Za rfl rfl (Zd rfl) (Zf (Zb (H1 _ _ ?_))))
 refine Zg fun K2 H2 => ?_
 refine Zg fun K3 H3 => ?_
 refine Zc (Za rfl rfl (Ze rfl) (Zk rfl rfl ?_))
 refine Step.call (Zn (xs := [.tmp 13]) fk6 rfl) (Znu H ) fun dj W4 bw => ?_
 obtain ⟨rfl, C4⟩ := bw
 have ex := C4.size
 have E := E.trans C4
 refine Zf (Zb (H3 _ _ ?_))
 refine Zp rfl (fun U => ?_) (fun U => ?_)
 ·have dk := U
  have U := Yf U
  refine Zg fun K6 H6 => ?_
  refine Zc (Za rfl rfl (Zd rfl) (Zf (Zb (H6 _ _ ?_))))
  refine Zr (Zl ?_)
  exact Zi [_] ⟨rfl, trivial⟩ ⟨congrArg Value.bool (by first | rfl | (rw [Zbc (fun q => u q.1)]; rfl) | (rw [Zbc (fun q => by have av := q.2.1; have aw := q.2.2; omega)]; rfl) | (exfalso; have G := Zaz u c.1 c.2 D F; rw [G] at n; simp at n; done) | (have G := Zbb (S := b) (A := a) (N := r) (s := z) (t := B) (by simpa using y); simp_all; done) | (exfalso; simp_all; done) | (simp_all; done)), E⟩
 have dk := U
 have U := Ye U
 refine Zq ?_
 refine Zb (H2 _ _ ?_)
 refine Zg fun K7 H7 => ?_
 refine Zc (Za rfl rfl (Ze rfl) (Zk rfl rfl ?_))
 have F8 := (H.ch0 C4)
 refine Step.call (Zn (xs := [.tmp 16]) fk7 rfl) (Zbf F8 (by omega)) fun dl W9 bz => ?_
 obtain ⟨b, a, r, z, B, bs, bu, e, rfl, I, f, J, g, K, aE, T, O, c, C9⟩ := bz
 have ey := C9.size
 have E := E.trans C9
 obtain ⟨h, k, rfl, a8, o⟩ := I.opn
 obtain ⟨l, m, rfl, a9, p⟩ := J.opn
 refine Za rfl rfl (Ze rfl) (Za rfl rfl (Xm rfl rfl) (Za rfl rfl (Xm rfl rfl) (Za rfl rfl (Xm rfl rfl) (Zk rfl rfl ?_))))
 refine Yp zr27 fun cz dm bv ba ez => ?_
 have dn := ba.size
 have E := E.trans ba
 have eA := bv.lt
 replace bv : Blk dm cz 27 [(.int .i64 0), (.slice none 0 0), (.slice none 0 0)] := bv
 refine Zk rfl rfl ?_
 refine Zt (off := 0) 3 bv sz27 rfl (us := [(.int .i64 b), (.slice h (a).length k), (.slice l (e).length m)]) rfl rfl rfl rfl fun dp ap bb => ?_
 have dq := bb.size
 have E := E.step bb (lS (by omega))
 replace ap : Blk dp cz 27 [(.int .i64 b), (.slice h (a).length k), (.slice l (e).length m)] := ap
 refine Za rfl rfl (Zd rfl) (Za rfl rfl (Zd rfl) (Zf (Zb (H7 _ _ ?_))))
 refine Zg fun eB dr => ?_
 refine Zc (Za rfl rfl (Zw ap.at_ agg27 sz27 rfl) (Za rfl rfl (Ze rfl) (Za rfl rfl (Ze rfl) (Zk rfl rfl ?_))))
 have cA := ((I.ch0 ba).ch bb (dS f o (by omega)))
 have cB := ((K.ch0 ba).ch bb (oS (by omega)))
 have cC := ((J.ch0 ba).ch bb (dS g p (by omega)))
 refine Step.call (Zn (xs := [.tmp 22, .tmp 23, .tmp 24]) fk8 rfl) (Zcg _ cA.ls cC.ls cB.rd _ _ ) fun ds eC bA => ?_
 obtain ⟨cD, rfl, P, x, a6⟩ := bA
 have dt := a6.size
 have E := E.trans a6
 obtain ⟨bB, bC, rfl, bD, C⟩ := P.opn
 refine Za rfl rfl (Ze rfl) (Za rfl rfl (Xm rfl rfl) (Za rfl rfl (Xm rfl rfl) (Za rfl rfl (Zd rfl) (Za rfl rfl (Zd rfl) (Zf (Zb (dr _ _ ?_)))))))
 refine Zg fun eD du => ?_
 refine Zc ?_
 have cE := (ap.ch0 a6)
 refine Za rfl rfl (Zw cE.at_ agg27 sz27 rfl) (Za rfl rfl (Ze rfl) (Za rfl rfl (Ze rfl) (Zk rfl rfl ?_)))
 have cF := (cA.ch0 a6)
 have cG := (cB.ch0 a6)
 have cH := (cC.ch0 a6)
 refine Step.call (Zn (xs := [.tmp 29, .tmp 30, .tmp 31]) fk9 rfl) (Zch _ cF.ls cH.ls cG.rd _ _ ) fun dv eE bF => ?_
 obtain ⟨cI, rfl, Q, a7, aS⟩ := bF
 have dw := aS.size
 have E := E.trans aS
 obtain ⟨bG, bH, rfl, bI, bc⟩ := Q.opn
 refine Za rfl rfl (Ze rfl) (Za rfl rfl (Xm rfl rfl) (Za rfl rfl (Xm rfl rfl) (Za rfl rfl (Zd rfl) (Za rfl rfl (Zd rfl) (Zf (Zb (du _ _ ?_)))))))
 refine Zg fun eF dx => ?_
 refine Zg fun eG cJ => ?_
 refine Zc (Za rfl rfl (Ze rfl) (Za rfl rfl (Ze rfl) (Za rfl rfl (Zik un4 rfl rfl) (Za rfl rfl (Ze rfl) ?_))))
 refine Yn (d := 38) rfl (fun V => ?_) (fun V => ?_)
 ·have bJ := V
  have V := bf_e (Qb V)
  refine Zj rfl rfl (Zj rfl rfl (Zj rfl rfl (Zj rfl rfl (Za rfl rfl (Yi rfl rfl) (Zf (Zb (cJ _ _ ?_)))))))
  refine Xp rfl ?_
  refine Zg fun eH dy => ?_
  refine Zc (Za rfl rfl (Zd rfl) (Zf (Zb (dy _ _ ?_))))
  refine Zr (Zl ?_)
  exact Zi [_] ⟨rfl, trivial⟩ ⟨congrArg Value.bool (by first | rfl | (rw [Zbc (fun q => u q.1)]; rfl) | (rw [Zbc (fun q => by have av := q.2.1; have aw := q.2.2; omega)]; rfl) | (exfalso; have G := Zaz u c.1 c.2 D F; rw [G] at n; simp at n; done) | (have G := Zbb (S := b) (A := a) (N := r) (s := z) (t := B) (by simpa using y); simp_all; done) | (exfalso; simp_all; done) | (simp_all; done)), E⟩
 have bJ := V
 have V := bt_e (Qc V)
 refine Za rfl rfl (Ze rfl) (Za rfl rfl (Ze rfl) (Zk rfl rfl ?_))
 have bK := (P.ch0 aS)
 refine Step.call (Zn (xs := [.tmp 39, .tmp 40]) fk10 rfl) (Zdr bK.ls Q.ls ) fun bL eI aJ => ?_
 replace aJ : bL = .bool (true) ∧ _ := ⟨aJ.1.trans (congrArg Value.bool (decide_eq_true rfl)), aJ.2⟩
 obtain ⟨rfl, aO⟩ := aJ
 have dz := aO.size
 have E := E.trans aO
 refine Za rfl rfl (Xu rfl) (Za rfl rfl (Ym rfl rfl) (Zf (Zb (cJ _ _ ?_))))
 refine Qw rfl ?_
 refine Zq ?_
 refine Zb (dx _ _ ?_)
 refine Zg fun eJ dA => ?_
 refine Zc ?_
 have cK := ((cE.ch0 aS).ch0 aO)
 refine Za rfl rfl (Zw cK.at_ agg27 sz27 rfl) (Zk rfl rfl ?_)
 have cL := ((cF.ch0 aS).ch0 aO)
 have cM := ((cG.ch0 aS).ch0 aO)
 have cN := ((cH.ch0 aS).ch0 aO)
 refine Step.call (Zn (xs := [.tmp 44]) fk11 rfl) (Zem _ cL.ls cN.ls cM.rd ) fun dB eK aK => ?_
 obtain ⟨aK, cO, aP⟩ := aK
 have dC := aP.size
 have E := E.trans aP
 obtain ⟨cP, cQ, rfl, cR, bM⟩ := aK.opn
 refine Za rfl rfl (Zd rfl) (Zf (Zb (dA _ _ ?_)))
 refine Zg fun eL dD => ?_
 refine Zg fun eM dE => ?_
 refine Zc (Za rfl rfl (Ze rfl) ?_)
 have cS := (cK.ch0 aP)
 refine Za rfl rfl (Zw cS.at_ agg27 sz27 rfl) (Zk rfl rfl ?_)
 have cT := (cL.ch0 aP)
 have cU := (cM.ch0 aP)
 have cV := (cN.ch0 aP)
 refine Step.call (Zn (xs := [.tmp 47]) fk12 rfl) (Zel _ cT.ls cV.ls cU.rd ) fun dF eN aL => ?_
 obtain ⟨aL, cW, aM⟩ := aL
 have dG := aM.size
 have E := E.trans aM
 obtain ⟨cX, cY, rfl, cZ, bN⟩ := aL.opn
 refine Zk rfl rfl ?_
 have bO := (aK.ch0 aM)
 refine Step.call (Zn (xs := [.tmp 46, .tmp 48]) fk10 rfl) (Zdr bO.ls aL.ls ) fun bP eO aN => ?_
 replace aN : bP = .bool (true) ∧ _ := ⟨aN.1.trans (congrArg Value.bool (decide_eq_true rfl)), aN.2⟩
 obtain ⟨rfl, aF⟩ := aN
 have dH := aF.size
 have E := E.trans aF
 refine Za rfl rfl (Xu rfl) (Zf (Zb (dE _ _ ?_)))
 refine Qw rfl ?_
 refine Zq ?_
 refine Zb (dD _ _ ?_)
 refine Zg fun eP dI => ?_
 refine Zg fun eQ bd => ?_
 refine Zc ?_
 have bQ := ((cS.ch0 aM).ch0 aF)
 refine Za rfl rfl (Zw bQ.at_ agg27 sz27 rfl) (Zk rfl rfl ?_)
 have bR := ((cT.ch0 aM).ch0 aF)
 have bS := ((cU.ch0 aM).ch0 aF)
 have bT := ((cV.ch0 aM).ch0 aF)
 refine Step.call (Zn (xs := [.tmp 51]) fk13 rfl) (Zab _ bR.ls bT.ls bS.rd ) fun dJ eR bU => ?_
 obtain ⟨rfl, aq⟩ := bU
 have dL := aq.size
 have E := E.trans aq
 refine Za rfl rfl (Xu rfl) (Za rfl rfl (Ze rfl) ?_)
 refine Yn (d := 54) rfl (fun u => ?_) (fun u => ?_)
 ·have bV := u
  have u := bf_t (Qb u)
  refine Zj rfl rfl (Zj rfl rfl (Za rfl rfl (Yi rfl rfl) (Za rfl rfl (Ze rfl) (Zj rfl rfl (Zj rfl rfl (Za rfl rfl (Yi rfl rfl) (Za rfl rfl (Ze rfl) ?_)))))))
  refine Zj rfl rfl (Zj rfl rfl (Zj rfl rfl (Zj rfl rfl (Za rfl rfl (Yi rfl rfl) (Za rfl rfl (Ze rfl) (Zj rfl rfl (Zj rfl rfl ?_)))))))
  refine Zj rfl rfl (Zj rfl rfl (Za rfl rfl (Yi rfl rfl) (Zf (Zb (bd _ _ ?_)))))
  refine Xp rfl ?_
  refine Zg fun eS dM => ?_
  refine Zc (Za rfl rfl (Ze rfl) (Za rfl rfl (Xu rfl) (Za rfl rfl (Zd rfl) (Zf (Zb (dM _ _ ?_))))))
  refine Zr (Zl ?_)
  exact Zi [_] ⟨rfl, trivial⟩ ⟨congrArg Value.bool (by first | rfl | (rw [Zbc (fun q => u q.1)]; rfl) | (rw [Zbc (fun q => by have av := q.2.1; have aw := q.2.2; omega)]; rfl) | (exfalso; have G := Zaz u c.1 c.2 D F; rw [G] at n; simp at n; done) | (have G := Zbb (S := b) (A := a) (N := r) (s := z) (t := B) (by simpa using y); simp_all; done) | (exfalso; simp_all; done) | (simp_all; done)), E⟩
 have bV := u
 have u := bt_t (Qc u)
 refine Za rfl rfl (Ze rfl) (Za rfl rfl (Xi rfl rfl) (Za rfl rfl (Ym rfl rfl) (Za rfl rfl (Ze rfl) ?_)))
 refine Yn (d := 58) rfl (fun X => ?_) (fun X => ?_)
 ·have bW := X
  have X := Yf X
  refine Zj rfl rfl (Zj rfl rfl (Za rfl rfl (Yi rfl rfl) (Za rfl rfl (Ze rfl) (Zj rfl rfl (Zj rfl rfl (Zj rfl rfl (Zj rfl rfl ?_)))))))
  refine Za rfl rfl (Yi rfl rfl) (Za rfl rfl (Ze rfl) (Zj rfl rfl (Zj rfl rfl (Zj rfl rfl (Zj rfl rfl (Za rfl rfl (Yi rfl rfl) (Zf ?_)))))))
  refine Zb (bd _ _ ?_)
  refine Xp rfl ?_
  refine Zg fun eT dN => ?_
  refine Zc (Za rfl rfl (Ze rfl) (Za rfl rfl (Xu rfl) (Za rfl rfl (Zd rfl) (Zf (Zb (dN _ _ ?_))))))
  refine Zr (Zl ?_)
  exact Zi [_] ⟨rfl, trivial⟩ ⟨congrArg Value.bool (by first | rfl | (rw [Zbc (fun q => u q.1)]; rfl) | (rw [Zbc (fun q => by have av := q.2.1; have aw := q.2.2; omega)]; rfl) | (exfalso; have G := Zaz u c.1 c.2 D F; rw [G] at n; simp at n; done) | (have G := Zbb (S := b) (A := a) (N := r) (s := z) (t := B) (by simpa using y); simp_all; done) | (exfalso; simp_all; done) | (simp_all; done)), E⟩
 have bW := X
 have X := Ye X
 refine Za rfl rfl (Ze rfl) (Za rfl rfl (Xi rfl rfl) (Za rfl rfl (Ym rfl rfl) (Za rfl rfl (Ze rfl) ?_)))
 refine Yn (d := 62) rfl (fun Y => ?_) (fun Y => ?_)
 ·have bX := Y
  have Y := Yf Y
  refine Zj rfl rfl (Zj rfl rfl (Zj rfl rfl (Zj rfl rfl (Za rfl rfl (Yi rfl rfl) (Za rfl rfl (Ze rfl) (Zj rfl rfl (Zj rfl rfl ?_)))))))
  refine Zj rfl rfl (Zj rfl rfl (Za rfl rfl (Yi rfl rfl) (Zf (Zb (bd _ _ ?_)))))
  refine Xp rfl ?_
  refine Zg fun eU dP => ?_
  refine Zc (Za rfl rfl (Ze rfl) (Za rfl rfl (Xu rfl) (Za rfl rfl (Zd rfl) (Zf (Zb (dP _ _ ?_))))))
  refine Zr (Zl ?_)
  exact Zi [_] ⟨rfl, trivial⟩ ⟨congrArg Value.bool (by first | rfl | (rw [Zbc (fun q => u q.1)]; rfl) | (rw [Zbc (fun q => by have av := q.2.1; have aw := q.2.2; omega)]; rfl) | (exfalso; have G := Zaz u c.1 c.2 D F; rw [G] at n; simp at n; done) | (have G := Zbb (S := b) (A := a) (N := r) (s := z) (t := B) (by simpa using y); simp_all; done) | (exfalso; simp_all; done) | (simp_all; done)), E⟩
 have bX := Y
 have Y := Ye Y
 refine Za rfl rfl (Ze rfl) (Za rfl rfl (Ze rfl) (Za rfl rfl (Xa (by rw [el30]; rfl) rfl) (Za rfl rfl (Ziv rfl rfl) (Za rfl rfl (Ym rfl rfl) (Za rfl rfl (Ze rfl) ?_)))))
 refine Yn (d := 68) rfl (fun Z => ?_) (fun Z => ?_)
 ·have bY := Z
  have Z := Yf Z
  refine Zj rfl rfl (Zj rfl rfl (Zj rfl rfl (Zj rfl rfl (Za rfl rfl (Yi rfl rfl) (Zf (Zb (bd _ _ ?_)))))))
  refine Xp rfl ?_
  refine Zg fun eV dQ => ?_
  refine Zc (Za rfl rfl (Ze rfl) (Za rfl rfl (Xu rfl) (Za rfl rfl (Zd rfl) (Zf (Zb (dQ _ _ ?_))))))
  refine Zr (Zl ?_)
  exact Zi [_] ⟨rfl, trivial⟩ ⟨congrArg Value.bool (by first | rfl | (rw [Zbc (fun q => u q.1)]; rfl) | (rw [Zbc (fun q => by have av := q.2.1; have aw := q.2.2; omega)]; rfl) | (exfalso; have G := Zaz u c.1 c.2 D F; rw [G] at n; simp at n; done) | (have G := Zbb (S := b) (A := a) (N := r) (s := z) (t := B) (by simpa using y); simp_all; done) | (exfalso; simp_all; done) | (simp_all; done)), E⟩
 have bY := Z
 have Z := Ye Z
 refine Za rfl rfl (Ze rfl) (Za rfl rfl (Ze rfl) (Za rfl rfl (Xa (by rw [el30]; rfl) rfl) (Za rfl rfl (Ziv rfl rfl) (Za rfl rfl (Ym rfl rfl) (Zf (Zb (bd _ _ ?_)))))))
 refine Zp rfl (fun aa => ?_) (fun aa => ?_)
 ·have bZ := aa
  have aa := Yf aa
  refine Zg fun eW dR => ?_
  refine Zc (Za rfl rfl (Ze rfl) (Za rfl rfl (Xu rfl) (Za rfl rfl (Zd rfl) (Zf (Zb (dR _ _ ?_))))))
  refine Zr (Zl ?_)
  exact Zi [_] ⟨rfl, trivial⟩ ⟨congrArg Value.bool (by first | rfl | (rw [Zbc (fun q => u q.1)]; rfl) | (rw [Zbc (fun q => by have av := q.2.1; have aw := q.2.2; omega)]; rfl) | (exfalso; have G := Zaz u c.1 c.2 D F; rw [G] at n; simp at n; done) | (have G := Zbb (S := b) (A := a) (N := r) (s := z) (t := B) (by simpa using y); simp_all; done) | (exfalso; simp_all; done) | (simp_all; done)), E⟩
 have bZ := aa
 have aa := Ye aa
 refine Zq ?_
 refine Zb (dI _ _ ?_)
 refine Zg fun eX c0 => ?_
 refine Zg fun eY c1 => ?_
 refine Xg [] 11 mixed rfl fun eZ au => ?_
 have dU := au.size
 have E := E.trans au
 refine dV 0 rfl rfl rfl (fun _ => Ze rfl) (dV 1 rfl rfl rfl (fun _ => Ze rfl) (dV 2 rfl rfl rfl (fun _ => Ze rfl) (dV 5 rfl rfl rfl (fun _ => Ze rfl) (dV 6 rfl rfl rfl (fun _ => Ze rfl) ?_))))
 refine Zas 3 7 (by kernel_rfl) ?_ ?_
 ·refine Yl rfl rfl rfl ?_
  have c2 := (((bO.ch0 aF).ch0 aq).ch0 au)
  refine (Yo (j := z.toNat) c2.ls Yh el30 sz3 rfl rfl (by omega) (by omega) fun b0 b1 D aT => ?_)
  refine ⟨(Ch.refl _ _), ?_⟩
  refine dT 4 rfl rfl rfl (Ql aT (fun i hi => absurd hi List.not_mem_nil) agg3 rfl rfl ?_)
  refine dO 7 (Yl rfl rfl rfl ?_)
  refine (Yo (j := B.toNat) c2.ls Yh el30 sz3 rfl rfl (by omega) (by omega) fun b2 b3 F aU => ?_)
  refine ⟨(Ch.refl _ _), ?_⟩
  refine dT 8 rfl rfl rfl (Ql aU (fun i hi => absurd hi List.not_mem_nil) agg3 rfl rfl ?_)
  refine dV 9 rfl rfl rfl (fun _ => Qv rfl rfl) (dV 10 rfl rfl rfl (fun _ => Zik un4 rfl rfl) ?_)
  refine Yq (by kernel_rfl) ?_
  refine Zb (c1 _ _ ?_)
  refine Zp rfl (fun n => ?_) (fun n => ?_)
  ·have b4 := n
   have n := bf_e (Qb n)
   refine Zg fun e0 dW => ?_
   refine Zc (Za rfl rfl (Zd rfl) (Zf (Zb (dW _ _ ?_))))
   refine Zr (Zl ?_)
   exact Zi [_] ⟨rfl, trivial⟩ ⟨congrArg Value.bool (by first | rfl | (rw [Zbc (fun q => u q.1)]; rfl) | (rw [Zbc (fun q => by have av := q.2.1; have aw := q.2.2; omega)]; rfl) | (exfalso; have G := Zaz u c.1 c.2 D F; rw [G] at n; simp at n; done) | (have G := Zbb (S := b) (A := a) (N := r) (s := z) (t := B) (by simpa using y); simp_all; done) | (exfalso; simp_all; done) | (simp_all; done)), E⟩
  have b4 := n
  have n := bt_e (Qc n)
  refine Zq ?_
  refine Zb (c0 _ _ ?_)
  refine Zg fun e1 dX => ?_
  refine Zc ?_
  have c3 := ((bQ.ch0 aq).ch0 au)
  refine Za rfl rfl (Zw c3.at_ agg27 sz27 rfl) (Zk rfl rfl ?_)
  refine Yp zr27 fun ab dY L aV b5 => ?_
  have dZ := aV.size
  have E := E.trans aV
  have b6 := L.lt
  replace L : Blk dY ab 27 [(.int .i64 0), (.slice none 0 0), (.slice none 0 0)] := L
  refine Zk rfl rfl ?_
  refine Zt (off := 0) 3 L sz27 rfl (us := [(.int .i64 b), (.slice h (a).length k), (.slice l (e).length m)]) rfl rfl rfl rfl fun d0 ay aW => ?_
  have d1 := aW.size
  have E := E.step aW (lS (by omega))
  replace ay : Blk d0 ab 27 [(.int .i64 b), (.slice h (a).length k), (.slice l (e).length m)] := ay
  refine Zf (Zb (dX _ _ ?_))
  refine Zg fun e2 d2 => ?_
  refine Zc (Za rfl rfl (Ze rfl) (Za rfl rfl (Zh fa27_0 rfl) (Zk rfl rfl ?_)))
  refine Yv (off := 0) ay sz3 rfl rfl rfl rfl fun d3 az aX => ?_
  have d4 := aX.size
  have E := E.step aX (lS (by omega))
  replace az : Blk d3 ab 27 [(.int .i64 z), (.slice h (a).length k), (.slice l (e).length m)] := az
  refine Zf (Zb (d2 _ _ ?_))
  refine Zg fun e3 d5 => ?_
  refine Zc ?_
  have d6 := (((c3.ch0 aV).ch aW (nS (by omega))).ch aX (nS (by omega)))
  refine Za rfl rfl (Zw d6.at_ agg27 sz27 rfl) (Zk rfl rfl ?_)
  refine Yp zr27 fun ac d7 M aY b7 => ?_
  have d8 := aY.size
  have E := E.trans aY
  have b8 := M.lt
  replace M : Blk d7 ac 27 [(.int .i64 0), (.slice none 0 0), (.slice none 0 0)] := M
  refine Zk rfl rfl ?_
  refine Zt (off := 0) 3 M sz27 rfl (us := [(.int .i64 b), (.slice h (a).length k), (.slice l (e).length m)]) rfl rfl rfl rfl fun d9 aA aZ => ?_
  have ea := aZ.size
  have E := E.step aZ (lS (by omega))
  replace aA : Blk d9 ac 27 [(.int .i64 b), (.slice h (a).length k), (.slice l (e).length m)] := aA
  refine Zf (Zb (d5 _ _ ?_))
  refine Zg fun e4 eb => ?_
  refine Zc (Za rfl rfl (Ze rfl) (Za rfl rfl (Zh fa27_0 rfl) (Zk rfl rfl ?_)))
  refine Yv (off := 0) aA sz3 rfl rfl rfl rfl fun ec aB a0 => ?_
  have ed := a0.size
  have E := E.step a0 (lS (by omega))
  replace aB : Blk ec ac 27 [(.int .i64 B), (.slice h (a).length k), (.slice l (e).length m)] := aB
  refine Zf (Zb (eb _ _ ?_))
  refine Zg fun e5 c4 => ?_
  refine Xg [] 12 mixed rfl fun c5 aQ => ?_
  have ee := aQ.size
  have E := E.trans aQ
  refine dV 0 rfl rfl rfl (fun _ => Ze rfl) (dV 1 rfl rfl rfl (fun _ => Xu rfl) (dV 2 rfl rfl rfl (fun _ => Ze rfl) ?_))
  refine Zgq (d := 95) rfl (fun y => ?_) (fun y => ?_)
  ·have b9 := y
   have y := Qb y
   refine dK 3 rfl rfl rfl (dK 4 rfl rfl rfl (dK 5 rfl rfl rfl (dK 6 rfl rfl rfl (dK 7 rfl rfl rfl (dK 8 rfl rfl rfl (dK 9 rfl rfl rfl (dV 10 rfl rfl rfl (fun _ => Yi rfl rfl) ?_)))))))
   refine dV 11 rfl rfl rfl (fun _ => Zd rfl) ?_
   refine Yq (by kernel_rfl) ?_
   refine Zb (c4 _ _ ?_)
   refine Zr ?_
   exact Zi [_] ⟨rfl, trivial⟩ ⟨congrArg Value.bool (by first | rfl | (rw [Zbc (fun q => u q.1)]; rfl) | (rw [Zbc (fun q => by have av := q.2.1; have aw := q.2.2; omega)]; rfl) | (exfalso; have G := Zaz u c.1 c.2 D F; rw [G] at n; simp at n; done) | (have G := Zbb (S := b) (A := a) (N := r) (s := z) (t := B) (by simpa using y); simp_all; done) | (exfalso; simp_all; done) | (simp_all; done)), E⟩
  have b9 := y
  have y := Qc y
  have ef := ((((az.ch0 aY).ch aZ (nS (by omega))).ch a0 (nS (by omega))).ch0 aQ)
  refine dT 3 rfl rfl rfl (Yx ef.at_ (fun i hi => absurd hi List.not_mem_nil) agg27 sz27 rfl ?_)
  refine dV 4 rfl rfl rfl (fun _ => Ze rfl) ?_
  have eg := (aB.ch0 aQ)
  refine dT 6 rfl rfl rfl (Yx eg.at_ (fun i hi => absurd hi List.not_mem_nil) agg27 sz27 rfl ?_)
  refine dV 7 rfl rfl rfl (fun _ => Ze rfl) (dO 5 (Yl rfl rfl rfl ?_))
  have c6 := (((((((((bR.ch0 aq).ch0 au).ch0 aV).ch aW (dS f o (by omega))).ch aX (dS f o (by omega))).ch0 aY).ch aZ (dS f o (by omega))).ch a0 (dS f o (by omega))).ch0 aQ)
  have c7 := (((((((((bS.ch0 aq).ch0 au).ch0 aV).ch aW (oS (by omega))).ch aX (oS (by omega))).ch0 aY).ch aZ (oS (by omega))).ch a0 (oS (by omega))).ch0 aQ)
  have c8 := (((((((((bT.ch0 aq).ch0 au).ch0 aV).ch aW (dS g p (by omega))).ch aX (dS g p (by omega))).ch0 aY).ch aZ (dS g p (by omega))).ch a0 (dS g p (by omega))).ch0 aQ)
  have c9 := (((((((((((((bK.ch0 aO).ch0 aP).ch0 aM).ch0 aF).ch0 aq).ch0 au).ch0 aV).ch aW (dS x C (by omega))).ch aX (dS x C (by omega))).ch0 aY).ch aZ (dS x C (by omega))).ch a0 (dS x C (by omega))).ch0 aQ)
  refine Step.call (Zn (xs := [.tmp 96, .tmp 97]) fk14 rfl) (Zaf _ c6.ls c8.ls c7.rd c9.ls ) fun ca eh a1 => ?_
  obtain ⟨rfl, a2⟩ := a1
  have ei := a2.size
  have E := E.trans a2
  have aR : Ch [] c5 eh := ((Ch.refl _ _).trans a2)
  refine ⟨aR, ?_⟩
  refine dO 8 (Yl rfl rfl rfl ?_)
  have ej := (c6.ch0 a2)
  have ek := (c7.ch0 a2)
  have el := (c8.ch0 a2)
  have em := (c9.ch0 a2)
  refine Step.call (Zn (xs := [.tmp 99, .tmp 100]) fk14 rfl) (Zaf _ ej.ls el.ls ek.rd em.ls ) fun be en aC => ?_
  obtain ⟨rfl, cb⟩ := aC
  have eo := cb.size
  have E := E.trans cb
  have a3 : Ch [] c5 en := (aR.trans cb)
  refine ⟨a3, ?_⟩
  refine dV 9 rfl rfl rfl (fun _ => Zik un4 rfl rfl) (dV 10 rfl rfl rfl (fun _ => Ym rfl rfl) (dV 11 rfl rfl rfl (fun _ => Zd rfl) ?_))
  refine Yq (by kernel_rfl) ?_
  refine Zb (c4 _ _ ?_)
  refine Zr ?_
  exact Zi [_] ⟨rfl, trivial⟩ ⟨congrArg Value.bool (by first | rfl | (rw [Zbc (fun q => u q.1)]; rfl) | (rw [Zbc (fun q => by have av := q.2.1; have aw := q.2.2; omega)]; rfl) | (exfalso; have G := Zaz u c.1 c.2 D F; rw [G] at n; simp at n; done) | (have G := Zbb (S := b) (A := a) (N := r) (s := z) (t := B) (by simpa using y); simp_all; done) | (exfalso; simp_all; done) | (simp_all; done)), E⟩
 refine Yl rfl rfl rfl ?_
 have bf := (((bO.ch0 aF).ch0 aq).ch0 au)
 refine (Yo (j := B.toNat) bf.ls Yh el30 sz3 rfl rfl (by omega) (by omega) fun b2 b3 F aU => ?_)
 refine ⟨(Ch.refl _ _), ?_⟩
 refine dT 8 rfl rfl rfl (Ql aU (fun i hi => absurd hi List.not_mem_nil) agg3 rfl rfl ?_)
 refine dO 3 (Yl rfl rfl rfl ?_)
 refine (Yo (j := z.toNat) bf.ls Yh el30 sz3 rfl rfl (by omega) (by omega) fun b0 b1 D aT => ?_)
 refine ⟨(Ch.refl _ _), ?_⟩
 refine dT 4 rfl rfl rfl (Ql aT (fun i hi => absurd hi List.not_mem_nil) agg3 rfl rfl ?_)
 refine dV 9 rfl rfl rfl (fun _ => Qv rfl rfl) (dV 10 rfl rfl rfl (fun _ => Zik un4 rfl rfl) ?_)
 refine Yq (by kernel_rfl) ?_
 refine Zb (c1 _ _ ?_)
 refine Zp rfl (fun n => ?_) (fun n => ?_)
 ·have bg := n
  have n := bf_e (Qb n)
  refine Zg fun ep cc => ?_
  refine Zc (Za rfl rfl (Zd rfl) (Zf (Zb (cc _ _ ?_))))
  refine Zr (Zl ?_)
  exact Zi [_] ⟨rfl, trivial⟩ ⟨congrArg Value.bool (by first | rfl | (rw [Zbc (fun q => u q.1)]; rfl) | (rw [Zbc (fun q => by have av := q.2.1; have aw := q.2.2; omega)]; rfl) | (exfalso; have G := Zaz u c.1 c.2 D F; rw [G] at n; simp at n; done) | (have G := Zbb (S := b) (A := a) (N := r) (s := z) (t := B) (by simpa using y); simp_all; done) | (exfalso; simp_all; done) | (simp_all; done)), E⟩
 have bg := n
 have n := bt_e (Qc n)
 refine Zq ?_
 refine Zb (c0 _ _ ?_)
 refine Zg fun er cd => ?_
 refine Zc ?_
 have bh := ((bQ.ch0 aq).ch0 au)
 refine Za rfl rfl (Zw bh.at_ agg27 sz27 rfl) (Zk rfl rfl ?_)
 refine Yp zr27 fun ab ce L ad b5 => ?_
 have da := ad.size
 have E := E.trans ad
 have b6 := L.lt
 replace L : Blk ce ab 27 [(.int .i64 0), (.slice none 0 0), (.slice none 0 0)] := L
 refine Zk rfl rfl ?_
 refine Zt (off := 0) 3 L sz27 rfl (us := [(.int .i64 b), (.slice h (a).length k), (.slice l (e).length m)]) rfl rfl rfl rfl fun cf ae af => ?_
 have db := af.size
 have E := E.step af (lS (by omega))
 replace ae : Blk cf ab 27 [(.int .i64 b), (.slice h (a).length k), (.slice l (e).length m)] := ae
 refine Zf (Zb (cd _ _ ?_))
 refine Zg fun es cg => ?_
 refine Zc (Za rfl rfl (Ze rfl) (Za rfl rfl (Zh fa27_0 rfl) (Zk rfl rfl ?_)))
 refine Yv (off := 0) ae sz3 rfl rfl rfl rfl fun ci ag ah => ?_
 have dc := ah.size
 have E := E.step ah (lS (by omega))
 replace ag : Blk ci ab 27 [(.int .i64 z), (.slice h (a).length k), (.slice l (e).length m)] := ag
 refine Zf (Zb (cg _ _ ?_))
 refine Zg fun et cj => ?_
 refine Zc ?_
 have ck := (((bh.ch0 ad).ch af (nS (by omega))).ch ah (nS (by omega)))
 refine Za rfl rfl (Zw ck.at_ agg27 sz27 rfl) (Zk rfl rfl ?_)
 refine Yp zr27 fun ac cm M ai b7 => ?_
 have dd := ai.size
 have E := E.trans ai
 have b8 := M.lt
 replace M : Blk cm ac 27 [(.int .i64 0), (.slice none 0 0), (.slice none 0 0)] := M
 refine Zk rfl rfl ?_
 refine Zt (off := 0) 3 M sz27 rfl (us := [(.int .i64 b), (.slice h (a).length k), (.slice l (e).length m)]) rfl rfl rfl rfl fun cn aj ak => ?_
 have de := ak.size
 have E := E.step ak (lS (by omega))
 replace aj : Blk cn ac 27 [(.int .i64 b), (.slice h (a).length k), (.slice l (e).length m)] := aj
 refine Zf (Zb (cj _ _ ?_))
 refine Zg fun eu co => ?_
 refine Zc (Za rfl rfl (Ze rfl) (Za rfl rfl (Zh fa27_0 rfl) (Zk rfl rfl ?_)))
 refine Yv (off := 0) aj sz3 rfl rfl rfl rfl fun cp al am => ?_
 have df := am.size
 have E := E.step am (lS (by omega))
 replace al : Blk cp ac 27 [(.int .i64 B), (.slice h (a).length k), (.slice l (e).length m)] := al
 refine Zf (Zb (co _ _ ?_))
 refine Zg fun ew bi => ?_
 refine Xg [] 12 mixed rfl fun bj R => ?_
 have dg := R.size
 have E := E.trans R
 refine dV 0 rfl rfl rfl (fun _ => Ze rfl) (dV 1 rfl rfl rfl (fun _ => Xu rfl) (dV 2 rfl rfl rfl (fun _ => Ze rfl) ?_))
 refine Zgq (d := 95) rfl (fun y => ?_) (fun y => ?_)
 ·have bk := y
  have y := Qb y
  refine dK 3 rfl rfl rfl (dK 4 rfl rfl rfl (dK 5 rfl rfl rfl (dK 6 rfl rfl rfl (dK 7 rfl rfl rfl (dK 8 rfl rfl rfl (dK 9 rfl rfl rfl (dV 10 rfl rfl rfl (fun _ => Yi rfl rfl) ?_)))))))
  refine dV 11 rfl rfl rfl (fun _ => Zd rfl) ?_
  refine Yq (by kernel_rfl) ?_
  refine Zb (bi _ _ ?_)
  refine Zr ?_
  exact Zi [_] ⟨rfl, trivial⟩ ⟨congrArg Value.bool (by first | rfl | (rw [Zbc (fun q => u q.1)]; rfl) | (rw [Zbc (fun q => by have av := q.2.1; have aw := q.2.2; omega)]; rfl) | (exfalso; have G := Zaz u c.1 c.2 D F; rw [G] at n; simp at n; done) | (have G := Zbb (S := b) (A := a) (N := r) (s := z) (t := B) (by simpa using y); simp_all; done) | (exfalso; simp_all; done) | (simp_all; done)), E⟩
 have bk := y
 have y := Qc y
 have cq := ((((ag.ch0 ai).ch ak (nS (by omega))).ch am (nS (by omega))).ch0 R)
 refine dT 3 rfl rfl rfl (Yx cq.at_ (fun i hi => absurd hi List.not_mem_nil) agg27 sz27 rfl ?_)
 refine dV 4 rfl rfl rfl (fun _ => Ze rfl) ?_
 have cr := (al.ch0 R)
 refine dT 6 rfl rfl rfl (Yx cr.at_ (fun i hi => absurd hi List.not_mem_nil) agg27 sz27 rfl ?_)
 refine dV 7 rfl rfl rfl (fun _ => Ze rfl) (dO 5 (Yl rfl rfl rfl ?_))
 have bm := (((((((((bR.ch0 aq).ch0 au).ch0 ad).ch af (dS f o (by omega))).ch ah (dS f o (by omega))).ch0 ai).ch ak (dS f o (by omega))).ch am (dS f o (by omega))).ch0 R)
 have bn := (((((((((bS.ch0 aq).ch0 au).ch0 ad).ch af (oS (by omega))).ch ah (oS (by omega))).ch0 ai).ch ak (oS (by omega))).ch am (oS (by omega))).ch0 R)
 have bp := (((((((((bT.ch0 aq).ch0 au).ch0 ad).ch af (dS g p (by omega))).ch ah (dS g p (by omega))).ch0 ai).ch ak (dS g p (by omega))).ch am (dS g p (by omega))).ch0 R)
 have bq := (((((((((((((bK.ch0 aO).ch0 aP).ch0 aM).ch0 aF).ch0 aq).ch0 au).ch0 ad).ch af (dS x C (by omega))).ch ah (dS x C (by omega))).ch0 ai).ch ak (dS x C (by omega))).ch am (dS x C (by omega))).ch0 R)
 refine Step.call (Zn (xs := [.tmp 96, .tmp 97]) fk14 rfl) (Zaf _ bm.ls bp.ls bn.rd bq.ls ) fun ca ct a1 => ?_
 obtain ⟨rfl, an⟩ := a1
 have dh := an.size
 have E := E.trans an
 have aD : Ch [] bj ct := ((Ch.refl _ _).trans an)
 refine ⟨aD, ?_⟩
 refine dO 8 (Yl rfl rfl rfl ?_)
 have cu := (bm.ch0 an)
 have cv := (bn.ch0 an)
 have cw := (bp.ch0 an)
 have cx := (bq.ch0 an)
 refine Step.call (Zn (xs := [.tmp 99, .tmp 100]) fk14 rfl) (Zaf _ cu.ls cw.ls cv.rd cx.ls ) fun be cy aC => ?_
 obtain ⟨rfl, a4⟩ := aC
 have di := a4.size
 have E := E.trans a4
 have a5 : Ch [] bj cy := (aD.trans a4)
 refine ⟨a5, ?_⟩
 refine dV 9 rfl rfl rfl (fun _ => Zik un4 rfl rfl) (dV 10 rfl rfl rfl (fun _ => Ym rfl rfl) (dV 11 rfl rfl rfl (fun _ => Zd rfl) ?_))
 refine Yq (by kernel_rfl) ?_
 refine Zb (bi _ _ ?_)
 refine Zr ?_
 exact Zi [_] ⟨rfl, trivial⟩ ⟨congrArg Value.bool (by first | rfl | (rw [Zbc (fun q => u q.1)]; rfl) | (rw [Zbc (fun q => by have av := q.2.1; have aw := q.2.2; omega)]; rfl) | (exfalso; have G := Zaz u c.1 c.2 D F; rw [G] at n; simp at n; done) | (have G := Zbb (S := b) (A := a) (N := r) (s := z) (t := B) (by simpa using y); simp_all; done) | (exfalso; simp_all; done) | (simp_all; done)), E⟩

end Go.Proofs.Ytgnlfnkgkcmdjaa
