/- Walks of functions that FnExactProductSteps reaches: what each returns, and that it leaves the memory that was there alone. -/
import Derived.Test.YtkmhgeppenifoaaLibA
import Derived.Test.YtkmhgeppenifoaaLibB
import Derived.Test.YtkmhgeppenifoaaWExactProductSteps
import Derived.Test.YtkmhgeppenifoaaWExactProductStepsb
import Derived.Test.YtkmhgeppenifoaaWExactProductStepsc
import Derived.Test.YtkmhgeppenifoaaProg
namespace Go.Proofs.Ytkmhgeppenifoaa
open Go.KLib Go.Shelf
set_option maxHeartbeats 1000000
set_option maxRecDepth 20000
set_option linter.unusedVariables false
set_option linter.unusedSimpArgs false
namespace TExactProductStepsd
theorem agg129 : Ys Try.prog 129 = some true := by kernel_rfl
theorem agg22 : Ys Try.prog 22 = some false := by kernel_rfl
theorem agg25 : Ys Try.prog 25 = some true := by kernel_rfl
theorem agg26 : Ys Try.prog 26 = some false := by kernel_rfl
theorem agg27 : Ys Try.prog 27 = some false := by kernel_rfl
theorem agg29 : Ys Try.prog 29 = some true := by kernel_rfl
theorem agg3 : Ys Try.prog 3 = some false := by kernel_rfl
theorem agg34 : Ys Try.prog 34 = some false := by kernel_rfl
theorem agg36 : Ys Try.prog 36 = some true := by kernel_rfl
theorem agg38 : Ys Try.prog 38 = some true := by kernel_rfl
theorem agg4 : Ys Try.prog 4 = some false := by kernel_rfl
theorem agg97 : Ys Try.prog 97 = some true := by kernel_rfl
theorem by103 : Zan Try.prog 103 = some 32 := by kernel_rfl
theorem el133 : elB Try.prog 133 = some 97 := by kernel_rfl
theorem el22 : elB Try.prog 22 = some 3 := by kernel_rfl
theorem el26 : elB Try.prog 26 = some 4 := by kernel_rfl
theorem el27 : elB Try.prog 27 = some 22 := by kernel_rfl
theorem el32 : elB Try.prog 32 = some 103 := by kernel_rfl
theorem el34 : elB Try.prog 34 = some 129 := by kernel_rfl
theorem fa36_0 : faB Try.prog 36 0 = some 0 := by kernel_rfl
theorem fa36_1 : faB Try.prog 36 1 = some 1 := by kernel_rfl
theorem fa38_1 : faB Try.prog 38 1 = some 1 := by kernel_rfl
theorem fa38_2 : faB Try.prog 38 2 = some 2 := by kernel_rfl
theorem fa97_0 : faB Try.prog 97 0 = some 0 := by kernel_rfl
theorem fa97_1 : faB Try.prog 97 1 = some 1 := by kernel_rfl
theorem fk10 : fnB Try.prog 10 = true := by kernel_rfl
theorem fk100 : fnB Try.prog 100 = true := by kernel_rfl
theorem fk101 : fnB Try.prog 101 = true := by kernel_rfl
theorem fk11 : fnB Try.prog 11 = true := by kernel_rfl
theorem fk12 : fnB Try.prog 12 = true := by kernel_rfl
theorem fk13 : fnB Try.prog 13 = true := by kernel_rfl
theorem fk14 : fnB Try.prog 14 = true := by kernel_rfl
theorem fk15 : fnB Try.prog 15 = true := by kernel_rfl
theorem fk16 : fnB Try.prog 16 = true := by kernel_rfl
theorem fk17 : fnB Try.prog 17 = true := by kernel_rfl
theorem fk18 : fnB Try.prog 18 = true := by kernel_rfl
theorem fk49 : fnB Try.prog 49 = true := by kernel_rfl
theorem fk50 : fnB Try.prog 50 = true := by kernel_rfl
theorem fk6 : fnB Try.prog 6 = true := by kernel_rfl
theorem fk7 : fnB Try.prog 7 = true := by kernel_rfl
theorem fk8 : fnB Try.prog 8 = true := by kernel_rfl
theorem fk9 : fnB Try.prog 9 = true := by kernel_rfl
theorem fk97 : fnB Try.prog 97 = true := by kernel_rfl
theorem fk98 : fnB Try.prog 98 = true := by kernel_rfl
theorem fk99 : fnB Try.prog 99 = true := by kernel_rfl
theorem mixed : Try.prog.follows .mixedOrders = true := by kernel_rfl
theorem pl103 : Zcb Try.prog 103 = some [(0, 2), (2, 1), (3, 1)] := by kernel_rfl
theorem sz103 : Yh Try.prog 103 = some 4 := by kernel_rfl
theorem sz129 : Yh Try.prog 129 = some 4 := by kernel_rfl
theorem sz22 : Yh Try.prog 22 = some 1 := by kernel_rfl
theorem sz25 : Yh Try.prog 25 = some 2 := by kernel_rfl
theorem sz29 : Yh Try.prog 29 = some 3 := by kernel_rfl
theorem sz3 : Yh Try.prog 3 = some 1 := by kernel_rfl
theorem sz36 : Yh Try.prog 36 = some 2 := by kernel_rfl
theorem sz38 : Yh Try.prog 38 = some 3 := by kernel_rfl
theorem sz97 : Yh Try.prog 97 = some 2 := by kernel_rfl
theorem zr103 : Xz Try.prog 103 = some (.agg #[.int .i64 0, .bool false, .int .i64 0, .int .i64 0]) := by kernel_rfl
theorem zr129 : Xz Try.prog 129 = some (.agg #[.int .i64 0, .int .i64 0, .int .i64 0, .int .i64 0]) := by kernel_rfl
theorem zr36 : Xz Try.prog 36 = some (.agg #[.slice none 0 0, .slice none 0 0]) := by kernel_rfl
theorem zr38 : Xz Try.prog 38 = some (.agg #[.int .i64 0, .slice none 0 0, .slice none 0 0]) := by kernel_rfl
end TExactProductStepsd
open TExactProductStepsd

/-- spec.l14Steps -/
theorem Zdz {w : World} {LL_gV he : Nat} {f9 : Value} {gV : List Int} (dq : Ls ics 1 w LL_gV he f9 gV) {LL_gE hf : Nat} {ga : Value} {gE : List GEdge} (dr : Ls GEdge.cs 4 w LL_gE hf ga gE) (aS : Int) {LL_aA hh : Nat} {gb : Value} {aA : List Bool} (ds : Ls bcs 1 w LL_aA hh gb aA) {LL_saN gm : Nat} {d1 : Value} {saN : List Sv} (c3 : Ls Sv.cs 1 w LL_saN gm d1 saN) {LR_aN BB_aN : Nat} {aN : List (List Int)} (df : Rd ics 1 w LR_aN BB_aN saN aN) (node : Int) (s : Int) (hp : Zgs gV gE aS aA aN node s) :
 Ctr Try.prog 50 #[(.agg #[f9, ga]), (.agg #[(.int .i64 aS), gb, d1]), (.int .i64 node), (.int .i64 s)] w (fun v w' => Ol PStep.cs 103 4 w' v (psL gV gE aN node s) ∧ Lo w.heap.size v ∧ Ch [] w w') := by
 obtain ⟨aM, aO, gn⟩ := dq.val
 subst gn
 have rl := dq.len
 have dq := dq.here (by decide)
 obtain ⟨aP, aQ, gp⟩ := dr.val
 subst gp
 have rm := dr.len
 have dr := dr.here (by decide)
 obtain ⟨aR, aT, gq⟩ := ds.val
 subst gq
 have rn := ds.len
 have ds := ds.here (by decide)
 obtain ⟨aq, au, fj⟩ := c3.val
 subst fj
 have iT := c3.len
 have c3 := c3.here (by decide)
 have df := df.here (by decide)
 have iU := df.1
 have E := Ch.refl [] w
 have hg := hp.1; have hv := hp.2.1; have tn := hv.1; have u4 := hv.2.2.1; have hn := hp.2.2.1; have hs := hp.2.2.2; have to := Zig tn
 refine Yf (N := 110) (vs0 := [(.agg #[(.slice aM gV.length aO), (.slice aP gE.length aQ)]), (.agg #[(.int .i64 aS), (.slice aR aA.length aT), (.slice aq saN.length au)]), (.int .i64 node), (.int .i64 s)]) Try.func50 rfl rfl rfl ?_
 refine Zg fun K1 H1 => ?_
 refine Zc (Zx rfl rfl ?_)
 refine Xj rfl fun dB W2 iM C2 u5 => ?_
 have u6 := C2.size
 have E := E.trans C2
 have u7 := iM.lt
 replace iM : Blk W2 dB 36 [(.slice aM gV.length aO), (.slice aP gE.length aQ)] := iM
 refine Zx rfl rfl ?_
 refine Xj rfl fun dC W3 iN C3 u8 => ?_
 have u9 := C3.size
 have E := E.trans C3
 have va := iN.lt
 replace iN : Blk W3 dC 38 [(.int .i64 aS), (.slice aR aA.length aT), (.slice aq saN.length au)] := iN
 refine Za rfl rfl (Zd rfl) (Ze (Zb (H1 _ _ ?_)))
 refine Zg fun K4 H4 => ?_
 refine Zc (Zx rfl rfl ?_)
 refine Zaa (k := 4) PStep.cs el32 sz103 fun tp W5 hj gc C5 => ?_
 have vb := C5.size
 have E := E.trans C5
 obtain ⟨gd, ge, rfl, ro, gr⟩ := hj.opn
 refine Za rfl rfl (Zd rfl) (Ze (Zb (H4 _ _ ?_)))
 refine Zg fun K6 H6 => ?_
 refine Xl [] 9 mixed rfl fun W7 C7 => ?_
 have vc := C7.size
 have E := E.trans C7
 have F8 := (iN.ch0 C5).ch0 C7
 refine dT 0 rfl rfl rfl (Yr F8.at_ (fun i hi => absurd hi List.not_mem_nil) agg38 sz38 rfl ?_)
 refine dV 1 rfl rfl rfl (fun _ => Zf rfl) (dV 2 rfl rfl rfl (fun _ => Zh fa36_0 rfl) ?_)
 have F9 := ((iM.ch0 C3).ch0 C5).ch0 C7
 refine dT 3 rfl rfl rfl (Yo F9.at_ (fun i hi => absurd hi List.not_mem_nil) agg22 rfl rfl ?_)
 refine dV 4 rfl rfl rfl (fun _ => Zf rfl) ?_
 have rp := (((dq.ch0 C2).ch0 C3).ch0 C5).ch0 C7
 refine dT 5 rfl rfl rfl (Xt (j := node.toNat) rp Xr el22 sz3 rfl rfl om om fun tq b gf iV => ?_)
 have iW := Qo hg gf
 have gs := Qb (d := 0) gf
 have tr := Zis (c := 6 + b) (s := s) hv om
 have rq := Zcm (c := 6 + b) (s := s) hv om
 refine dT 6 rfl rfl rfl (Xu iV (fun i hi => absurd hi List.not_mem_nil) agg3 rfl rfl ?_)
 refine dO 7 (Zk rfl rfl rfl ?_)
 have rr := (((ds.ch0 C2).ch0 C3).ch0 C5).ch0 C7
 have rs := (((df.ch0 C2).ch0 C3).ch0 C5).ch0 C7
 have rt := (((c3.ch0 C2).ch0 C3).ch0 C5).ch0 C7
 refine Step.call (Zr (xs := [.tmp 19, .tmp 20, .tmp 25]) fk97 rfl) (Zcy _ rr rt rs _ _ hv hs iW) fun ts tu iX => ?_
 obtain ⟨rfl, d2⟩ := iX
 have tv := d2.size
 have E := E.trans d2
 have hk : Ch [] W7 tu := ((Ch.refl _ _).trans d2)
 refine ⟨hk, ?_⟩
 refine dV 8 rfl rfl rfl (fun _ => Zd rfl) ?_
 refine Zw (by kernel_rfl) ?_
 refine Zb (H6 _ _ ?_)
 refine Zg fun vd tw => ?_
 refine Zc ?_
 have ru := F9.ch0 d2
 refine Za rfl rfl (Zs ru.at_ agg36 sz36 rfl) (Za rfl rfl (Zf rfl) (Zx rfl rfl ?_))
 have rv := rp.ch0 d2
 have rx := ((((dr.ch0 C2).ch0 C3).ch0 C5).ch0 C7).ch0 d2
 refine Step.call (Zr (xs := [.tmp 27, .tmp 28]) fk98 rfl) (Zfm rv rx _ hg) fun tx ry fk => ?_
 obtain ⟨fk, ad, fi⟩ := fk
 have ty := fi.size
 have E := E.trans fi
 obtain ⟨aH, aI, rfl, rz, M⟩ := fk.opn
 refine Za rfl rfl (Zd rfl) (Ze (Zb (tw _ _ ?_)))
 refine Zg fun ve tz => ?_
 refine Zg fun vf tA => ?_
 refine Zc (Za rfl rfl (Zd rfl) (Ze (Zb (tA _ _ ?_))))
 refine Yd ?_
 have tB := ((hj.ch0 C7).ch0 d2).ch0 fi
 have gt : Ol PStep.cs 103 4 ry (.slice gd (([] : List PStep)).length ge) (psT gV gE aN node s 0) := by
  have hx := tB
  exact hx
 have tC := ru.ch0 fi
 have tD := rv.ch0 fi
 have tE := rx.ch0 fi
 have tF := (F8.ch0 d2).ch0 fi
 have tG := (rr.ch0 d2).ch0 fi
 have tH := (rt.ch0 d2).ch0 fi
 have tI := (rs.ch0 d2).ch0 fi
 refine Xd (σ := Nat × Value) (fun ⟨i, ov⟩ => [(4, (.pointer (some ⟨dB, 0, none⟩))), (5, (.pointer (some ⟨dC, 0, none⟩))), (8, (.slice none 0 0)), (9, ov), (10, (.int .i64 ((cloR aN (6 + b) s : Nat) : Int))), (11, (.slice aH (stL gE node).length aI)), (12, (.int .i64 ((i : Nat) : Int)))]) (fun ⟨i, ov⟩ wx => Ch [] w wx ∧ ry.heap.size ≤ wx.heap.size ∧ (i ≤ (stL gE node).length) ∧ Blk wx dB 36 [(.slice aM gV.length aO), (.slice aP gE.length aQ)] ∧ Ls ics 1 wx LL_gV w.heap.size (.slice aM gV.length aO) gV ∧ Ls GEdge.cs 4 wx LL_gE w.heap.size (.slice aP gE.length aQ) gE ∧ Blk wx dC 38 [(.int .i64 aS), (.slice aR aA.length aT), (.slice aq saN.length au)] ∧ Ls bcs 1 wx LL_aA w.heap.size (.slice aR aA.length aT) aA ∧ Ls Sv.cs 1 wx LL_saN w.heap.size (.slice aq saN.length au) saN ∧ Rd ics 1 wx LR_aN w.heap.size saN aN ∧ Ol GStp.cs 97 2 wx (.slice aH (stL gE node).length aI) (stL gE node) ∧ Ol PStep.cs 103 4 wx ov (psT gV gE aN node s i) ∧ Lo W3.heap.size ov ∧ (∀ g ∈ bl ov, g ∉ bl (.slice aH (stL gE node).length aI))) (fun ⟨i, ov⟩ => (stL gE node).length - i) (0, (.slice gd (([] : List PStep)).length ge)) (sC4 rfl rfl rfl rfl (sC2 rfl rfl (sC1 rfl (Sub.nil _)))) ⟨E, (Nat.le_refl _), om, tC, tD, tE, tF, tG, tH, tI, fk, gt, gc, (fun g hm hg => by have C := gc _ hm; have ay := gr _ hm; have bd := ad _ hg; have be := M _ hg; omega)⟩ ?_
 rintro ⟨i, ov⟩ tJ ⟨E, tK, hi, gg, d3, d4, dX, d5, d6, d7, gh, dt, a5, bc⟩
 have iY := E
 have rA := iY.size
 have iZ := gg.lt
 have i0 := dX.lt
 obtain ⟨Aov, Cov, rfl, lov, hiov⟩ := dt.opn
 refine Zg fun vg tL => ?_
 refine Zg fun vh tM => ?_
 refine Zc (Za rfl rfl (Zf rfl) (Za rfl rfl (Zf rfl) (Za rfl rfl (Yz (by rw [el133]; rfl) rfl) (Za rfl rfl (Xh rfl rfl) (Ze (Zb (tM _ _ ?_)))))))
 refine Zz rfl (fun dD => ?_) (fun dD => ?_)
 ·have i1 := dD
  have dD := Yp dD
  refine Zu ?_
  refine Zb (tL _ _ ?_)
  refine Zg fun vi i2 => ?_
  refine Yd ?_
  refine Zg fun vj i3 => ?_
  refine Xl [] 13 mixed rfl fun fl co => ?_
  have tN := co.size
  have E := E.trans co
  refine dV 0 rfl rfl rfl (fun _ => Zh fa36_1 rfl) ?_
  have hl := gg.ch0 co
  refine dT 1 rfl rfl rfl (Yo hl.at_ (fun i hi => absurd hi List.not_mem_nil) agg34 rfl rfl ?_)
  refine dT 2 rfl rfl rfl (Yr hl.at_ (fun i hi => absurd hi List.not_mem_nil) agg36 sz36 rfl ?_)
  refine dV 3 rfl rfl rfl (fun _ => Zf rfl) (dV 4 rfl rfl rfl (fun _ => Zf rfl) ?_)
  refine Yt 5 11 (by kernel_rfl) ?_ ?_
  ·refine Zk rfl rfl rfl ?_
   have i4 := gh.ch0 co
   refine (Yc i4.ls GStp.len el133 sz97 rfl rfl rfl om fun i5 du ai gu => ?_)
   obtain ⟨l, hc, i6⟩ := Zkx ai
   have am : l.edge = du.ed ∧ l.back = du.bk := by rw [← i6]; exact ⟨rfl, rfl⟩
   have hd := Zhp hg hc
   rw [am.1] at hd
   have tO := Zhe (v := b) (x := l.letter) hv (s := s) om
   refine ⟨(Ch.refl _ _), ?_⟩
   refine dV 6 rfl rfl rfl (fun _ => Zh fa97_0 rfl) ?_
   refine dT 7 rfl rfl rfl (Yo gu (fun i hi => absurd hi List.not_mem_nil) agg3 rfl rfl ?_)
   refine Yt 8 11 (by kernel_rfl) ?_ ?_
   ·refine Zk rfl rfl rfl ?_
    have rB := d3.ch0 co
    have i7 := d4.ch0 co
    refine Step.call (Zr (xs := [.tmp 38, .tmp 43]) fk99 rfl) (Zah rB i7 _ ) fun ho tP d8 => ?_
    obtain ⟨rfl, dY⟩ := d8
    have tQ := dY.size
    have E := E.trans dY
    have gi : Ch [] fl tP := ((Ch.refl _ _).trans dY)
    refine ⟨gi, ?_⟩
    refine dT 9 rfl rfl rfl (Xt (j := (eiR gE du.ed).toNat) i7 GEdge.len el34 sz129 rfl rfl om om fun hr o a7 d9 => ?_)
    have a6 := hd.2.2 _ a7
    rw [am.2] at a6
    refine dT 10 rfl rfl rfl (Yr d9 (fun i hi => absurd hi List.not_mem_nil) agg129 sz129 rfl ?_)
    refine dO 11 (Zk rfl rfl rfl ?_)
    refine Qr zr129 fun aJ rC bf dZ ht => ?_
    have tR := dZ.size
    have E := E.trans dZ
    have hu := bf.lt
    replace bf : Blk rC aJ 129 [(.int .i64 0), (.int .i64 0), (.int .i64 0), (.int .i64 0)] := bf
    have gj : Ch [] fl rC := (gi.trans dZ)
    refine ⟨gj, ?_⟩
    refine dO 12 (Zk rfl rfl rfl ?_)
    refine Qw (off := 0) 4 bf sz129 rfl (us := [(.int .i64 o.id), (.int .i64 o.f), (.int .i64 o.t), (.int .i64 o.label)]) rfl rfl rfl rfl fun i8 eb d0 => ?_
    have tS := d0.size
    have E := E.step d0 (lS om)
    replace eb : Blk i8 aJ 129 [(.int .i64 o.id), (.int .i64 o.f), (.int .i64 o.t), (.int .i64 o.label)] := eb
    have hw : Ch [] fl i8 := (gj.step d0 (fun i hm => by have ax := List.mem_singleton.1 hm; left; omega))
    refine ⟨hw, ?_⟩
    refine Zw (by kernel_rfl) ?_
    refine Zb (i3 _ _ ?_)
    refine Zg fun vk tT => ?_
    refine Zc (Za rfl rfl (Zd rfl) (Ze (Zb (tT _ _ ?_))))
    refine Zg fun vl tU => ?_
    refine Zg fun vm tV => ?_
    refine Zc (Za rfl rfl (Zd rfl) (Ze (Zb (tV _ _ ?_))))
    refine Yd ?_
    have tW := ((hl.ch0 dY).ch0 dZ).ch d0 (nS om)
    have tX := ((rB.ch0 dY).ch0 dZ).ch d0 (oS om)
    have tY := ((i7.ch0 dY).ch0 dZ).ch d0 (oS om)
    have tZ := (((dX.ch0 co).ch0 dY).ch0 dZ).ch d0 (nS om)
    have t0 := (((d5.ch0 co).ch0 dY).ch0 dZ).ch d0 (oS om)
    have t1 := (((d6.ch0 co).ch0 dY).ch0 dZ).ch d0 (oS om)
    have t2 := (((d7.ch0 co).ch0 dY).ch0 dZ).ch d0 (oS om)
    have t3 := ((i4.ch0 dY).ch0 dZ).ch d0 (dS ad M om)
    have t4 := (((dt.ch0 co).ch0 dY).ch0 dZ).ch d0 (dS a5 hiov om)
    refine Xd (σ := Nat × Int) (fun ⟨q, m⟩ => [(4, (.pointer (some ⟨dB, 0, none⟩))), (5, (.pointer (some ⟨dC, 0, none⟩))), (8, (.slice none 0 0)), (9, (.slice Aov (psT gV gE aN node s i).length Cov)), (10, (.int .i64 ((cloR aN (6 + b) s : Nat) : Int))), (11, (.slice aH (stL gE node).length aI)), (12, (.int .i64 ((i : Nat) : Int))), (13, (.pointer (some ⟨aJ, 0, none⟩))), (14, (.int .i64 m)), (15, (.int .i64 ((q : Nat) : Int))), (33, (.bool (decide (((i : Nat) : Int) < (((stL gE node).length : Nat) : Int)))))]) (fun ⟨q, m⟩ wx => Ch [] w wx ∧ i8.heap.size ≤ wx.heap.size ∧ (q ≤ aA.length) ∧ (m = afC aN l.letter 0 (Yg (cloR aN (6 + b) s) q)) ∧ Blk wx dB 36 [(.slice aM gV.length aO), (.slice aP gE.length aQ)] ∧ Ls ics 1 wx LL_gV w.heap.size (.slice aM gV.length aO) gV ∧ Ls GEdge.cs 4 wx LL_gE w.heap.size (.slice aP gE.length aQ) gE ∧ Blk wx dC 38 [(.int .i64 aS), (.slice aR aA.length aT), (.slice aq saN.length au)] ∧ Ls bcs 1 wx LL_aA w.heap.size (.slice aR aA.length aT) aA ∧ Ls Sv.cs 1 wx LL_saN w.heap.size (.slice aq saN.length au) saN ∧ Rd ics 1 wx LR_aN w.heap.size saN aN ∧ Ol GStp.cs 97 2 wx (.slice aH (stL gE node).length aI) (stL gE node) ∧ Ol PStep.cs 103 4 wx (.slice Aov (psT gV gE aN node s i).length Cov) (psT gV gE aN node s i) ∧ Blk wx aJ 129 [(.int .i64 o.id), (.int .i64 o.f), (.int .i64 o.t), (.int .i64 o.label)]) (fun ⟨q, m⟩ => aA.length - q) (0, 0) (sC8 rfl rfl rfl rfl rfl rfl rfl rfl (sC2 rfl rfl (sC1 rfl (Sub.nil _)))) ⟨E, (Nat.le_refl _), om, (by rfl), tW, tX, tY, tZ, t0, t1, t2, t3, t4, eb⟩ ?_
    rintro ⟨q, m⟩ rD ⟨E, hy, hq, hm, aK, aZ, a0, a1, a2, cp, cq, cr, a3, a8⟩
    have ec := E
    have gk := ec.size
    have ee := aK.lt
    have ef := a1.lt
    have eg := a8.lt
    refine Zg fun vn t5 => ?_
    refine Zg fun vo t6 => ?_
    refine Zc (Za rfl rfl (Zf rfl) (Za rfl rfl (Zh fa38_1 rfl) (Za rfl rfl (Zl a1.at_ agg26 rfl rfl) (Za rfl rfl (Yz (by rw [el26]; rfl) rfl) (Za rfl rfl (Xh rfl rfl) (Ze (Zb (t6 _ _ ?_))))))))
    refine Zz rfl (fun aU => ?_) (fun aU => ?_)
    ·have i9 := aU
     have aU := Yp aU
     refine Zu ?_
     refine Zb (t5 _ _ ?_)
     refine Zg fun vp ja => ?_
     refine Yd ?_
     refine Zg fun vq t7 => ?_
     refine Xl [] 15 mixed rfl fun jb dd => ?_
     have t8 := dd.size
     have E := E.trans dd
     refine dV 0 rfl rfl rfl (fun _ => Zh fa38_2 rfl) ?_
     have iO := a1.ch0 dd
     refine dT 1 rfl rfl rfl (Yo iO.at_ (fun i hi => absurd hi List.not_mem_nil) agg27 rfl rfl ?_)
     refine dV 2 rfl rfl rfl (fun _ => Zf rfl) ?_
     have iP := cp.ch0 dd
     have iQ := cq.ch0 dd
     refine dT 3 rfl rfl rfl (Xt iP Sv.len el27 sz22 rfl rfl rfl om fun eh ei dv c4 => ?_)
     obtain ⟨a9, aV, aL⟩ := iQ.get dv
     obtain ⟨dw, hz, dx⟩ := ei
     obtain rfl := aL.eqn
     have hA := aL.len
     replace aL : Ls ics 1 jb LR_aN w.heap.size (.slice dw a9.length dx) a9 := aL
     replace c4 : At jb LL_saN w.heap.size eh ([(.slice dw a9.length dx)]) := c4
     have hB := (Xp hv.2 aV).1
     refine dT 4 rfl rfl rfl (Xu c4 (fun i hi => absurd hi List.not_mem_nil) agg22 rfl rfl ?_)
     have iR := a8.ch0 dd
     refine dT 5 rfl rfl rfl (Yr iR.at_ (fun i hi => absurd hi List.not_mem_nil) agg129 sz129 rfl ?_)
     refine dV 6 rfl rfl rfl (fun _ => Zf rfl) (dV 7 rfl rfl rfl (fun _ => Zf rfl) (dO 8 (Zk rfl rfl rfl ?_)))
     have iS := cr.ch0 dd
     refine (Yc iS.ls GStp.len el133 sz97 rfl rfl rfl om fun hC c5 dy ej => ?_)
     have ek := Zv dy ai
     have hD := Zfh hg c5.bk a7
     refine ⟨(Ch.refl _ _), ?_⟩
     refine dV 9 rfl rfl rfl (fun _ => Zh fa97_1 rfl) ?_
     refine dT 10 rfl rfl rfl (Yo ej (fun i hi => absurd hi List.not_mem_nil) agg4 rfl rfl ?_)
     refine dO 11 (Zk rfl rfl rfl ?_)
     refine Step.call (Zr (xs := [.tmp 59, .tmp 64]) fk100 rfl) (Zai o _ (by have q := Zbs hg a7; omega)) fun hE t9 el => ?_
     obtain ⟨rfl, bb⟩ := el
     have ua := bb.size
     have E := E.trans bb
     have hF : Ch [] jb t9 := ((Ch.refl _ _).trans bb)
     refine ⟨hF, ?_⟩
     refine dT 12 rfl rfl rfl (Xt (j := (Zj o c5.bk).toNat) aL Xr el22 sz3 rfl rfl om om fun hG dz ct em => ?_)
     have hH := Qg hv.2 aV ct
     have en := Zdm (s := (q : Int)) (x := Zj o c5.bk) om om aV ct
     have de : dz = Qk aN q l.letter := by rw [en, ek, a6.1]
     refine dT 13 rfl rfl rfl (Xu em (fun i hi => absurd hi List.not_mem_nil) agg3 rfl rfl ?_)
     refine dV 14 rfl rfl rfl (fun _ => Zd rfl) ?_
     refine Zw (by kernel_rfl) ?_
     refine Zb (t7 _ _ ?_)
     refine Zg fun vr rE => ?_
     refine Zc (Za rfl rfl (Zf rfl) (Za rfl rfl (Zf rfl) (Za rfl rfl (Zea om rfl rfl) (Za rfl rfl (Zey rfl rfl) (Za rfl rfl (Zbv rfl rfl) (Za rfl rfl (Zf rfl) ?_))))))
     refine Xg (d := 73) rfl (fun ae => ?_) (fun ae => ?_)
     ·have jc := ae
      have ae := Yp ae
      refine Za rfl rfl (Zf rfl) (Za rfl rfl (Zeb rfl rfl) (Za rfl rfl (Xi rfl rfl) (Ze (Zb (rE _ _ ?_)))))
      refine Zz rfl (fun aj => ?_) (fun aj => ?_)
      ·have jd := aj
       have aj := Yp aj
       refine Zc (Za rfl rfl (Zf rfl) (Za rfl rfl (Zf rfl) (Za rfl rfl (Zgt om rfl rfl) (Za rfl rfl (r_or rfl rfl) (Za rfl rfl (Zd rfl) (Ze (Zq ?_)))))))
       refine Zb (ja _ _ (Zc (Za rfl rfl (Zf rfl) (Za rfl rfl (Ye om rfl rfl) (Za rfl rfl (Zd rfl) (Ze ?_))))))
       have ub := (aK.ch0 dd).ch0 bb
       have uc := (aZ.ch0 dd).ch0 bb
       have ud := (a0.ch0 dd).ch0 bb
       have ue := iO.ch0 bb
       have uf := (a2.ch0 dd).ch0 bb
       have ug := iP.ch0 bb
       have uh := iQ.ch0 bb
       have ui := iS.ch0 bb
       have uj := (a3.ch0 dd).ch0 bb
       have uk := iR.ch0 bb
       exact Zb (Exists.intro ((q + 1), (ior m (Qp 1 dz))) ⟨⟨E, om, om, (by subst hm; first | exact Zex (Ql ae om om) de aj | exact Zci (Ql ae om om) de aj | exact Zev (Zby ae om om)), ub, uc, ud, ue, uf, ug, uh, ui, uj, uk⟩, sC8 rfl rfl rfl rfl rfl rfl rfl rfl (sC2 rfl rfl (sC1 rfl (Sub.nil _))), (by first | omega | (dsimp only; omega))⟩)
      have jd := aj
      have aj := Yq aj
      refine Zu ?_
      refine Zq (Zb (ja _ _ (Zc (Za rfl rfl (Zf rfl) (Za rfl rfl (Ye om rfl rfl) (Za rfl rfl (Zd rfl) (Ze ?_)))))))
      have ul := (aK.ch0 dd).ch0 bb
      have um := (aZ.ch0 dd).ch0 bb
      have un := (a0.ch0 dd).ch0 bb
      have uo := iO.ch0 bb
      have uq := (a2.ch0 dd).ch0 bb
      have ur := iP.ch0 bb
      have ut := iQ.ch0 bb
      have uu := iS.ch0 bb
      have uv := (a3.ch0 dd).ch0 bb
      have uw := iR.ch0 bb
      exact Zb (Exists.intro ((q + 1), m) ⟨⟨E, om, om, (by subst hm; first | exact Zex (Ql ae om om) de aj | exact Zci (Ql ae om om) de aj | exact Zev (Zby ae om om)), ul, um, un, uo, uq, ur, ut, uu, uv, uw⟩, sC8 rfl rfl rfl rfl rfl rfl rfl rfl (sC2 rfl rfl (sC1 rfl (Sub.nil _))), (by first | omega | (dsimp only; omega))⟩)
     have jc := ae
     have ae := Yq ae
     refine Zo rfl rfl (Zo rfl rfl (Za rfl rfl (Xb rfl rfl) (Ze (Zb (rE _ _ ?_)))))
     refine Zbj rfl ?_
     refine Zu ?_
     refine Zq (Zb (ja _ _ (Zc (Za rfl rfl (Zf rfl) (Za rfl rfl (Ye om rfl rfl) (Za rfl rfl (Zd rfl) (Ze ?_)))))))
     have ux := (aK.ch0 dd).ch0 bb
     have je := (aZ.ch0 dd).ch0 bb
     have jf := (a0.ch0 dd).ch0 bb
     have jg := iO.ch0 bb
     have jh := (a2.ch0 dd).ch0 bb
     have ji := iP.ch0 bb
     have jj := iQ.ch0 bb
     have jk := iS.ch0 bb
     have jl := (a3.ch0 dd).ch0 bb
     have jm := iR.ch0 bb
     exact Zb (Exists.intro ((q + 1), m) ⟨⟨E, om, om, (by subst hm; first | exact Zex (Ql ae om om) de aj | exact Zci (Ql ae om om) de aj | exact Zev (Zby ae om om)), ux, je, jf, jg, jh, ji, jj, jk, jl, jm⟩, sC8 rfl rfl rfl rfl rfl rfl rfl rfl (sC2 rfl rfl (sC1 rfl (Sub.nil _))), (by first | omega | (dsimp only; omega))⟩)
    have i9 := aU
    have aU := Yq aU
    refine Xc (Zt (Zt (Yx ?_)))
    refine Zb (tU _ _ ?_)
    refine Zg fun uy jn => ?_
    refine Zc (Za rfl rfl (Zd rfl) (Ze (Zb (jn _ _ ?_))))
    refine Yd ?_
    have fm : Ol PStep.cs 103 4 rD (.slice Aov (psT gV gE aN node s i).length Cov) (psT gV gE aN node s i ++ psB l (afX aN b s l.letter) 0) := by
     have hx := a3
     simpa [Zlc] using hx
    have ap : m = ((afX aN b s l.letter : Nat) : Int) := by rw [hm, show q = aA.length by omega]; exact Zin hv om
    refine Xd (σ := Nat × Value) (fun ⟨k, pv⟩ => [(4, (.pointer (some ⟨dB, 0, none⟩))), (5, (.pointer (some ⟨dC, 0, none⟩))), (8, (.slice none 0 0)), (9, pv), (10, (.int .i64 ((cloR aN (6 + b) s : Nat) : Int))), (11, (.slice aH (stL gE node).length aI)), (12, (.int .i64 ((i : Nat) : Int))), (13, (.pointer (some ⟨aJ, 0, none⟩))), (14, (.int .i64 m)), (15, (.int .i64 ((q : Nat) : Int))), (17, (.int .i64 ((k : Nat) : Int))), (33, (.bool (decide (((i : Nat) : Int) < (((stL gE node).length : Nat) : Int))))), (51, (.bool (decide (((q : Nat) : Int) < ((aA.length : Nat) : Int)))))]) (fun ⟨k, pv⟩ wx => Ch [] w wx ∧ rD.heap.size ≤ wx.heap.size ∧ (k ≤ aA.length) ∧ Blk wx dB 36 [(.slice aM gV.length aO), (.slice aP gE.length aQ)] ∧ Ls ics 1 wx LL_gV w.heap.size (.slice aM gV.length aO) gV ∧ Ls GEdge.cs 4 wx LL_gE w.heap.size (.slice aP gE.length aQ) gE ∧ Blk wx dC 38 [(.int .i64 aS), (.slice aR aA.length aT), (.slice aq saN.length au)] ∧ Ls bcs 1 wx LL_aA w.heap.size (.slice aR aA.length aT) aA ∧ Ls Sv.cs 1 wx LL_saN w.heap.size (.slice aq saN.length au) saN ∧ Rd ics 1 wx LR_aN w.heap.size saN aN ∧ Ol GStp.cs 97 2 wx (.slice aH (stL gE node).length aI) (stL gE node) ∧ Blk wx aJ 129 [(.int .i64 o.id), (.int .i64 o.f), (.int .i64 o.t), (.int .i64 o.label)] ∧ Ol PStep.cs 103 4 wx pv (psT gV gE aN node s i ++ psB l (afX aN b s l.letter) k) ∧ Lo W3.heap.size pv ∧ (∀ g ∈ bl pv, g ∉ bl (.slice aH (stL gE node).length aI)) ∧ (aJ ∉ bl pv)) (fun ⟨k, pv⟩ => aA.length - k) (0, (.slice Aov (psT gV gE aN node s i).length Cov)) (sC8 rfl rfl rfl rfl rfl rfl rfl rfl (sC4 rfl rfl rfl rfl (sC1 rfl (Sub.nil _)))) ⟨E, (Nat.le_refl _), om, aK, aZ, a0, a1, a2, cp, cq, cr, a8, fm, a5, (fun g hm hg => by exact bc _ hm hg), (fun hm => by have C := a5 _ hm; have ay := hiov _ hm; omega)⟩ ?_
    rintro ⟨k, pv⟩ hI ⟨E, hJ, rF, P, Y, Z, O, aa, ab, ac, a4, ba, Q, a, e, h⟩
    have eo := E
    have gl := eo.size
    have ep := P.lt
    have er := O.lt
    have es := ba.lt
    obtain ⟨Apv, Cpv, rfl, lpv, hipv⟩ := Q.opn
    refine Zg fun uz jo => ?_
    refine Zg fun uA jp => ?_
    refine Zc (Za rfl rfl (Zf rfl) (Za rfl rfl (Zh fa38_1 rfl) (Za rfl rfl (Zl O.at_ agg26 rfl rfl) (Za rfl rfl (Yz (by rw [el26]; rfl) rfl) (Za rfl rfl (Xh rfl rfl) (Ze (Zb (jp _ _ ?_))))))))
    refine Zz rfl (fun aW => ?_) (fun aW => ?_)
    ·have hK := aW
     have aW := Yp aW
     refine Zu ?_
     refine Zb (jo _ _ ?_)
     refine Zg fun uB c6 => ?_
     refine Yd ?_
     refine Zg fun uC jq => ?_
     refine Zc (Za rfl rfl (Zf rfl) (Za rfl rfl (Zf rfl) (Za rfl rfl (Zea om rfl rfl) (Za rfl rfl (Zey rfl rfl) (Za rfl rfl (Zbv rfl rfl) (Ze (Zb (jq _ _ ?_))))))))
     refine Zz rfl (fun F => ?_) (fun F => ?_)
     ·have hL := F
      have F := Yp F
      refine Xl (bl (.slice Apv (psT gV gE aN node s i ++ psB l (afX aN b s l.letter) k).length Cpv)) 17 mixed rfl fun az H => ?_
      have rG := H.size
      have E := E.trans H
      refine dV 0 rfl rfl rfl (fun _ => Zf rfl) (dV 1 rfl rfl rfl (fun _ => Zf rfl) (dV 2 rfl rfl rfl (fun _ => Zf rfl) ?_))
      have c7 := ba.ch0 H
      refine dT 5 rfl rfl rfl (Yr c7.at_ (fun i hm => by rcases Nat.lt_trichotomy i aJ with dA | dA | dA; (exact .inl dA); (exact absurd (dA ▸ hm) h); (exact .inr dA)) agg129 sz129 rfl ?_)
      refine dV 6 rfl rfl rfl (fun _ => Zf rfl) (dV 7 rfl rfl rfl (fun _ => Zf rfl) (dV 12 rfl rfl rfl (fun _ => Zf rfl) ?_))
      refine Yt 3 8 (by kernel_rfl) ?_ ?_
      ·refine Zk rfl rfl rfl ?_
       have dE := a4.ch0 H
       refine (Yc dE.ls GStp.len el133 sz97 rfl rfl rfl om fun c8 n an ak => ?_)
       have K := Zv an ai
       refine ⟨(Ch.refl _ _), ?_⟩
       refine Yt 4 8 (by kernel_rfl) ?_ ?_
       ·refine Zk rfl rfl rfl ?_
        refine s_v (Zs ak agg97 sz97 rfl) ?_
        refine ⟨(Ch.refl _ _), ?_⟩
        refine dO 8 (Zk rfl rfl rfl ?_)
        refine (Yc dE.ls GStp.len el133 sz97 rfl rfl rfl om fun cu p ao al => ?_)
        have R := Zv ao ai
        refine ⟨(Ch.refl _ _), ?_⟩
        refine dV 9 rfl rfl rfl (fun _ => Zh fa97_1 rfl) (dO 10 (Zk rfl rfl rfl ?_))
        refine s_v (Zl al agg4 rfl rfl) ?_
        refine ⟨(Ch.refl _ _), ?_⟩
        refine dO 11 (Zk rfl rfl rfl ?_)
        refine Step.call (Zr (xs := [.tmp 98, .tmp 103]) fk101 rfl) (Yl o _ ) fun af jr G => ?_
        obtain ⟨rfl, bs⟩ := G
        have rH := bs.size
        have E := E.trans bs
        have et : Ch (bl (.slice Apv (psT gV gE aN node s i ++ psB l (afX aN b s l.letter) k).length Cpv)) az jr := ((Ch.refl _ _).trans bs.of_nil)
        refine ⟨et, ?_⟩
        refine dV 13 rfl rfl rfl (fun _ => Yk (parts := [(0, .tmp 97), (1, .tmp 104), (2, .tmp 105)]) (cells := [(.int .i64 n.ed), (.bool n.bk), (.int .i64 (Yv o p.bk)), (.int .i64 ((k : Nat) : Int))]) zr103 pl103 rfl rfl) (dO 14 (Zk rfl rfl rfl ?_))
        refine Zm (cs := PStep.cs) (parts := [(0, .tmp 106)]) (⟨0, false, 0, 0⟩ : PStep) [(⟨n.ed, n.bk, Yv o p.bk, ((k : Nat) : Int)⟩ : PStep)] el32 sz103 zr103 PStep.len (by decide) rfl rfl rfl (by decide) (by decide) rfl fun ag js A S bu => ?_
        have rI := bu.size
        have E := E.trans bu
        obtain ⟨T, U, rfl, V, L⟩ := A.opn
        have eu : Ch (bl (.slice Apv (psT gV gE aN node s i ++ psB l (afX aN b s l.letter) k).length Cpv)) az js := (et.trans bu.of_nil)
        refine ⟨eu, ?_⟩
        refine dO 15 (Zk rfl rfl rfl ?_)
        have jt := ((Q.ch0 H).ch0 bs).ch0 bu
        refine Zy (cs := PStep.cs) el32 sz103 by103 zr103 rfl (by decide) PStep.one jt A.ls rfl rfl (by have aD := Yj hg aN node s i; have aE := Ym l (afX aN b s l.letter) (k := k); simp only [List.length_append, List.length_singleton]; omega) (by have aD := Yj hg aN node s i; have aE := Ym l (afX aN b s l.letter) (k := k); simp only [List.length_append, List.length_singleton]; omega) a om fun ah hM B D r cv => ?_
        have rJ := cv.size
        have E := E.step cv (fun i hi => .inl (by have C := a _ hi; omega))
        obtain ⟨u, y, rfl, X, z⟩ := B.opn
        have gv : Ch (bl (.slice Apv (psT gV gE aN node s i ++ psB l (afX aN b s l.letter) k).length Cpv)) az hM := (eu.step cv (fun i hm => by exact .inr hm))
        refine ⟨gv, ?_⟩
        refine dV 16 rfl rfl rfl (fun _ => Zd rfl) ?_
        refine Zw (by kernel_rfl) ?_
        refine Zq (Zb (c6 _ _ (Zc (Za rfl rfl (Zf rfl) (Za rfl rfl (Ye om rfl rfl) (Za rfl rfl (Zd rfl) (Ze ?_)))))))
        have fn : Ol PStep.cs 103 4 hM (.slice u ((psT gV gE aN node s i ++ psB l (afX aN b s l.letter) k ++ [(⟨n.ed, n.bk, Yv o p.bk, ((k : Nat) : Int)⟩ : PStep)])).length y) (psT gV gE aN node s i ++ psB l (afX aN b s l.letter) (k + 1)) := by
         have hx := B
         first | exact hx.eq (Xf (Xn ap F om om) (by rw [K, am.1]) (by rw [K, am.2]) (by rw [R, a6.2])) | exact hx.eq (Xe (Xm ap F om om))
        have ju := (((P.ch0 H).ch0 bs).ch0 bu).ch cv (fun hm => by have C := a _ hm; have ay := hipv _ hm; omega)
        have jv := (((Y.ch0 H).ch0 bs).ch0 bu).ch cv (fun i hi => by have C := a _ hi; omega)
        have jw := (((Z.ch0 H).ch0 bs).ch0 bu).ch cv (fun i hi => by have C := a _ hi; omega)
        have jx := (((O.ch0 H).ch0 bs).ch0 bu).ch cv (fun hm => by have C := a _ hm; have ay := hipv _ hm; omega)
        have jy := (((aa.ch0 H).ch0 bs).ch0 bu).ch cv (fun i hi => by have C := a _ hi; omega)
        have jz := (((ab.ch0 H).ch0 bs).ch0 bu).ch cv (fun i hi => by have C := a _ hi; omega)
        have jA := (((ac.ch0 H).ch0 bs).ch0 bu).ch cv (fun i hi => by have C := a _ hi; omega)
        have jB := ((dE.ch0 bs).ch0 bu).ch cv (fun g hg hm => by exact e _ hm hg)
        have jC := ((c7.ch0 bs).ch0 bu).ch cv (fun hm => by exact h (by first | exact hm | exact ax ▸ hm))
        exact Zb (Exists.intro ((k + 1), (.slice u ((psT gV gE aN node s i ++ psB l (afX aN b s l.letter) k ++ [(⟨n.ed, n.bk, Yv o p.bk, ((k : Nat) : Int)⟩ : PStep)])).length y)) ⟨⟨E, om, om, ju, jv, jw, jx, jy, jz, jA, jB, jC, fn, (Lo.down D om), (fun g hm hg => by rcases r with ea | ea; (rw [ea] at hm; exact e _ hm hg); (have aF := z _ hm; rw [ea] at hm; have aG := List.mem_singleton.1 hm; have bd := ad _ hg; have be := M _ hg; omega)), (fun hm => by rcases r with ea | ea; (rw [ea] at hm; exact h (by first | exact hm | exact ax ▸ hm)); (rw [ea] at hm; have aG := List.mem_singleton.1 hm; omega))⟩, sC8 rfl rfl rfl rfl rfl rfl rfl rfl (sC4 rfl rfl rfl rfl (sC1 rfl (Sub.nil _))), (by first | omega | (dsimp only; omega))⟩)
       refine Zk rfl rfl rfl ?_
       refine (Yc dE.ls GStp.len el133 sz97 rfl rfl rfl om fun cu p ao al => ?_)
       have R := Zv ao ai
       refine ⟨(Ch.refl _ _), ?_⟩
       refine dV 9 rfl rfl rfl (fun _ => Zh fa97_1 rfl) ?_
       refine Yt 4 10 (by kernel_rfl) ?_ ?_
       ·refine Zk rfl rfl rfl ?_
        refine s_v (Zs ak agg97 sz97 rfl) ?_
        refine ⟨(Ch.refl _ _), ?_⟩
        refine dO 10 (Zk rfl rfl rfl ?_)
        refine s_v (Zl al agg4 rfl rfl) ?_
        refine ⟨(Ch.refl _ _), ?_⟩
        refine dO 11 (Zk rfl rfl rfl ?_)
        refine Step.call (Zr (xs := [.tmp 98, .tmp 103]) fk101 rfl) (Yl o _ ) fun af jD G => ?_
        obtain ⟨rfl, bv⟩ := G
        have rK := bv.size
        have E := E.trans bv
        have ew : Ch (bl (.slice Apv (psT gV gE aN node s i ++ psB l (afX aN b s l.letter) k).length Cpv)) az jD := ((Ch.refl _ _).trans bv.of_nil)
        refine ⟨ew, ?_⟩
        refine dV 13 rfl rfl rfl (fun _ => Yk (parts := [(0, .tmp 97), (1, .tmp 104), (2, .tmp 105)]) (cells := [(.int .i64 n.ed), (.bool n.bk), (.int .i64 (Yv o p.bk)), (.int .i64 ((k : Nat) : Int))]) zr103 pl103 rfl rfl) (dO 14 (Zk rfl rfl rfl ?_))
        refine Zm (cs := PStep.cs) (parts := [(0, .tmp 106)]) (⟨0, false, 0, 0⟩ : PStep) [(⟨n.ed, n.bk, Yv o p.bk, ((k : Nat) : Int)⟩ : PStep)] el32 sz103 zr103 PStep.len (by decide) rfl rfl rfl (by decide) (by decide) rfl fun ag jE A S bw => ?_
        have rL := bw.size
        have E := E.trans bw
        obtain ⟨T, U, rfl, V, L⟩ := A.opn
        have ex : Ch (bl (.slice Apv (psT gV gE aN node s i ++ psB l (afX aN b s l.letter) k).length Cpv)) az jE := (ew.trans bw.of_nil)
        refine ⟨ex, ?_⟩
        refine dO 15 (Zk rfl rfl rfl ?_)
        have jF := ((Q.ch0 H).ch0 bv).ch0 bw
        refine Zy (cs := PStep.cs) el32 sz103 by103 zr103 rfl (by decide) PStep.one jF A.ls rfl rfl (by have aD := Yj hg aN node s i; have aE := Ym l (afX aN b s l.letter) (k := k); simp only [List.length_append, List.length_singleton]; omega) (by have aD := Yj hg aN node s i; have aE := Ym l (afX aN b s l.letter) (k := k); simp only [List.length_append, List.length_singleton]; omega) a om fun ah hN B D r cw => ?_
        have rM := cw.size
        have E := E.step cw (fun i hi => .inl (by have C := a _ hi; omega))
        obtain ⟨u, y, rfl, X, z⟩ := B.opn
        have gw : Ch (bl (.slice Apv (psT gV gE aN node s i ++ psB l (afX aN b s l.letter) k).length Cpv)) az hN := (ex.step cw (fun i hm => by exact .inr hm))
        refine ⟨gw, ?_⟩
        refine dV 16 rfl rfl rfl (fun _ => Zd rfl) ?_
        refine Zw (by kernel_rfl) ?_
        refine Zq (Zb (c6 _ _ (Zc (Za rfl rfl (Zf rfl) (Za rfl rfl (Ye om rfl rfl) (Za rfl rfl (Zd rfl) (Ze ?_)))))))
        have fo : Ol PStep.cs 103 4 hN (.slice u ((psT gV gE aN node s i ++ psB l (afX aN b s l.letter) k ++ [(⟨n.ed, n.bk, Yv o p.bk, ((k : Nat) : Int)⟩ : PStep)])).length y) (psT gV gE aN node s i ++ psB l (afX aN b s l.letter) (k + 1)) := by
         have hx := B
         first | exact hx.eq (Xf (Xn ap F om om) (by rw [K, am.1]) (by rw [K, am.2]) (by rw [R, a6.2])) | exact hx.eq (Xe (Xm ap F om om))
        have jG := (((P.ch0 H).ch0 bv).ch0 bw).ch cw (fun hm => by have C := a _ hm; have ay := hipv _ hm; omega)
        have jH := (((Y.ch0 H).ch0 bv).ch0 bw).ch cw (fun i hi => by have C := a _ hi; omega)
        have jI := (((Z.ch0 H).ch0 bv).ch0 bw).ch cw (fun i hi => by have C := a _ hi; omega)
        have jJ := (((O.ch0 H).ch0 bv).ch0 bw).ch cw (fun hm => by have C := a _ hm; have ay := hipv _ hm; omega)
        have jK := (((aa.ch0 H).ch0 bv).ch0 bw).ch cw (fun i hi => by have C := a _ hi; omega)
        have jL := (((ab.ch0 H).ch0 bv).ch0 bw).ch cw (fun i hi => by have C := a _ hi; omega)
        have jM := (((ac.ch0 H).ch0 bv).ch0 bw).ch cw (fun i hi => by have C := a _ hi; omega)
        have jN := ((dE.ch0 bv).ch0 bw).ch cw (fun g hg hm => by exact e _ hm hg)
        have jO := ((c7.ch0 bv).ch0 bw).ch cw (fun hm => by exact h (by first | exact hm | exact ax ▸ hm))
        exact Zb (Exists.intro ((k + 1), (.slice u ((psT gV gE aN node s i ++ psB l (afX aN b s l.letter) k ++ [(⟨n.ed, n.bk, Yv o p.bk, ((k : Nat) : Int)⟩ : PStep)])).length y)) ⟨⟨E, om, om, jG, jH, jI, jJ, jK, jL, jM, jN, jO, fo, (Lo.down D om), (fun g hm hg => by rcases r with ea | ea; (rw [ea] at hm; exact e _ hm hg); (have aF := z _ hm; rw [ea] at hm; have aG := List.mem_singleton.1 hm; have bd := ad _ hg; have be := M _ hg; omega)), (fun hm => by rcases r with ea | ea; (rw [ea] at hm; exact h (by first | exact hm | exact ax ▸ hm)); (rw [ea] at hm; have aG := List.mem_singleton.1 hm; omega))⟩, sC8 rfl rfl rfl rfl rfl rfl rfl rfl (sC4 rfl rfl rfl rfl (sC1 rfl (Sub.nil _))), (by first | omega | (dsimp only; omega))⟩)
       refine Zk rfl rfl rfl ?_
       refine s_v (Zl al agg4 rfl rfl) ?_
       refine ⟨(Ch.refl _ _), ?_⟩
       refine Yt 4 11 (by kernel_rfl) ?_ ?_
       ·refine Zk rfl rfl rfl ?_
        refine s_v (Zs ak agg97 sz97 rfl) ?_
        refine ⟨(Ch.refl _ _), ?_⟩
        refine dO 11 (Zk rfl rfl rfl ?_)
        refine Step.call (Zr (xs := [.tmp 98, .tmp 103]) fk101 rfl) (Yl o _ ) fun af jP G => ?_
        obtain ⟨rfl, bz⟩ := G
        have rN := bz.size
        have E := E.trans bz
        have ey : Ch (bl (.slice Apv (psT gV gE aN node s i ++ psB l (afX aN b s l.letter) k).length Cpv)) az jP := ((Ch.refl _ _).trans bz.of_nil)
        refine ⟨ey, ?_⟩
        refine dV 13 rfl rfl rfl (fun _ => Yk (parts := [(0, .tmp 97), (1, .tmp 104), (2, .tmp 105)]) (cells := [(.int .i64 n.ed), (.bool n.bk), (.int .i64 (Yv o p.bk)), (.int .i64 ((k : Nat) : Int))]) zr103 pl103 rfl rfl) (dO 14 (Zk rfl rfl rfl ?_))
        refine Zm (cs := PStep.cs) (parts := [(0, .tmp 106)]) (⟨0, false, 0, 0⟩ : PStep) [(⟨n.ed, n.bk, Yv o p.bk, ((k : Nat) : Int)⟩ : PStep)] el32 sz103 zr103 PStep.len (by decide) rfl rfl rfl (by decide) (by decide) rfl fun ag jQ A S bA => ?_
        have rO := bA.size
        have E := E.trans bA
        obtain ⟨T, U, rfl, V, L⟩ := A.opn
        have ez : Ch (bl (.slice Apv (psT gV gE aN node s i ++ psB l (afX aN b s l.letter) k).length Cpv)) az jQ := (ey.trans bA.of_nil)
        refine ⟨ez, ?_⟩
        refine dO 15 (Zk rfl rfl rfl ?_)
        have jR := ((Q.ch0 H).ch0 bz).ch0 bA
        refine Zy (cs := PStep.cs) el32 sz103 by103 zr103 rfl (by decide) PStep.one jR A.ls rfl rfl (by have aD := Yj hg aN node s i; have aE := Ym l (afX aN b s l.letter) (k := k); simp only [List.length_append, List.length_singleton]; omega) (by have aD := Yj hg aN node s i; have aE := Ym l (afX aN b s l.letter) (k := k); simp only [List.length_append, List.length_singleton]; omega) a om fun ah hO B D r cx => ?_
        have rP := cx.size
        have E := E.step cx (fun i hi => .inl (by have C := a _ hi; omega))
        obtain ⟨u, y, rfl, X, z⟩ := B.opn
        have gx : Ch (bl (.slice Apv (psT gV gE aN node s i ++ psB l (afX aN b s l.letter) k).length Cpv)) az hO := (ez.step cx (fun i hm => by exact .inr hm))
        refine ⟨gx, ?_⟩
        refine dV 16 rfl rfl rfl (fun _ => Zd rfl) ?_
        refine Zw (by kernel_rfl) ?_
        refine Zq (Zb (c6 _ _ (Zc (Za rfl rfl (Zf rfl) (Za rfl rfl (Ye om rfl rfl) (Za rfl rfl (Zd rfl) (Ze ?_)))))))
        have fp : Ol PStep.cs 103 4 hO (.slice u ((psT gV gE aN node s i ++ psB l (afX aN b s l.letter) k ++ [(⟨n.ed, n.bk, Yv o p.bk, ((k : Nat) : Int)⟩ : PStep)])).length y) (psT gV gE aN node s i ++ psB l (afX aN b s l.letter) (k + 1)) := by
         have hx := B
         first | exact hx.eq (Xf (Xn ap F om om) (by rw [K, am.1]) (by rw [K, am.2]) (by rw [R, a6.2])) | exact hx.eq (Xe (Xm ap F om om))
        have jS := (((P.ch0 H).ch0 bz).ch0 bA).ch cx (fun hm => by have C := a _ hm; have ay := hipv _ hm; omega)
        have jT := (((Y.ch0 H).ch0 bz).ch0 bA).ch cx (fun i hi => by have C := a _ hi; omega)
        have jU := (((Z.ch0 H).ch0 bz).ch0 bA).ch cx (fun i hi => by have C := a _ hi; omega)
        have jV := (((O.ch0 H).ch0 bz).ch0 bA).ch cx (fun hm => by have C := a _ hm; have ay := hipv _ hm; omega)
        have jW := (((aa.ch0 H).ch0 bz).ch0 bA).ch cx (fun i hi => by have C := a _ hi; omega)
        have jX := (((ab.ch0 H).ch0 bz).ch0 bA).ch cx (fun i hi => by have C := a _ hi; omega)
        have jY := (((ac.ch0 H).ch0 bz).ch0 bA).ch cx (fun i hi => by have C := a _ hi; omega)
        have jZ := ((dE.ch0 bz).ch0 bA).ch cx (fun g hg hm => by exact e _ hm hg)
        have j0 := ((c7.ch0 bz).ch0 bA).ch cx (fun hm => by exact h (by first | exact hm | exact ax ▸ hm))
        exact Zb (Exists.intro ((k + 1), (.slice u ((psT gV gE aN node s i ++ psB l (afX aN b s l.letter) k ++ [(⟨n.ed, n.bk, Yv o p.bk, ((k : Nat) : Int)⟩ : PStep)])).length y)) ⟨⟨E, om, om, jS, jT, jU, jV, jW, jX, jY, jZ, j0, fp, (Lo.down D om), (fun g hm hg => by rcases r with ea | ea; (rw [ea] at hm; exact e _ hm hg); (have aF := z _ hm; rw [ea] at hm; have aG := List.mem_singleton.1 hm; have bd := ad _ hg; have be := M _ hg; omega)), (fun hm => by rcases r with ea | ea; (rw [ea] at hm; exact h (by first | exact hm | exact ax ▸ hm)); (rw [ea] at hm; have aG := List.mem_singleton.1 hm; omega))⟩, sC8 rfl rfl rfl rfl rfl rfl rfl rfl (sC4 rfl rfl rfl rfl (sC1 rfl (Sub.nil _))), (by first | omega | (dsimp only; omega))⟩)
       refine Zk rfl rfl rfl ?_
       refine Step.call (Zr (xs := [.tmp 98, .tmp 103]) fk101 rfl) (Yl o _ ) fun af j1 G => ?_
       obtain ⟨rfl, bg⟩ := G
       have rQ := bg.size
       have E := E.trans bg
       have dF : Ch (bl (.slice Apv (psT gV gE aN node s i ++ psB l (afX aN b s l.letter) k).length Cpv)) az j1 := ((Ch.refl _ _).trans bg.of_nil)
       refine ⟨dF, ?_⟩
       refine dO 4 (Zk rfl rfl rfl ?_)
       have j2 := ak.ch0 bg
       refine s_v (Zs j2 agg97 sz97 rfl) ?_
       refine ⟨dF, ?_⟩
       refine dV 13 rfl rfl rfl (fun _ => Yk (parts := [(0, .tmp 97), (1, .tmp 104), (2, .tmp 105)]) (cells := [(.int .i64 n.ed), (.bool n.bk), (.int .i64 (Yv o p.bk)), (.int .i64 ((k : Nat) : Int))]) zr103 pl103 rfl rfl) (dO 14 (Zk rfl rfl rfl ?_))
       refine Zm (cs := PStep.cs) (parts := [(0, .tmp 106)]) (⟨0, false, 0, 0⟩ : PStep) [(⟨n.ed, n.bk, Yv o p.bk, ((k : Nat) : Int)⟩ : PStep)] el32 sz103 zr103 PStep.len (by decide) rfl rfl rfl (by decide) (by decide) rfl fun ag j3 A S bB => ?_
       have rR := bB.size
       have E := E.trans bB
       obtain ⟨T, U, rfl, V, L⟩ := A.opn
       have eA : Ch (bl (.slice Apv (psT gV gE aN node s i ++ psB l (afX aN b s l.letter) k).length Cpv)) az j3 := (dF.trans bB.of_nil)
       refine ⟨eA, ?_⟩
       refine dO 15 (Zk rfl rfl rfl ?_)
       have j4 := ((Q.ch0 H).ch0 bg).ch0 bB
       refine Zy (cs := PStep.cs) el32 sz103 by103 zr103 rfl (by decide) PStep.one j4 A.ls rfl rfl (by have aD := Yj hg aN node s i; have aE := Ym l (afX aN b s l.letter) (k := k); simp only [List.length_append, List.length_singleton]; omega) (by have aD := Yj hg aN node s i; have aE := Ym l (afX aN b s l.letter) (k := k); simp only [List.length_append, List.length_singleton]; omega) a om fun ah hP B D r cy => ?_
       have rS := cy.size
       have E := E.step cy (fun i hi => .inl (by have C := a _ hi; omega))
       obtain ⟨u, y, rfl, X, z⟩ := B.opn
       have gy : Ch (bl (.slice Apv (psT gV gE aN node s i ++ psB l (afX aN b s l.letter) k).length Cpv)) az hP := (eA.step cy (fun i hm => by exact .inr hm))
       refine ⟨gy, ?_⟩
       refine dV 16 rfl rfl rfl (fun _ => Zd rfl) ?_
       refine Zw (by kernel_rfl) ?_
       refine Zq (Zb (c6 _ _ (Zc (Za rfl rfl (Zf rfl) (Za rfl rfl (Ye om rfl rfl) (Za rfl rfl (Zd rfl) (Ze ?_)))))))
       have fq : Ol PStep.cs 103 4 hP (.slice u ((psT gV gE aN node s i ++ psB l (afX aN b s l.letter) k ++ [(⟨n.ed, n.bk, Yv o p.bk, ((k : Nat) : Int)⟩ : PStep)])).length y) (psT gV gE aN node s i ++ psB l (afX aN b s l.letter) (k + 1)) := by
        have hx := B
        first | exact hx.eq (Xf (Xn ap F om om) (by rw [K, am.1]) (by rw [K, am.2]) (by rw [R, a6.2])) | exact hx.eq (Xe (Xm ap F om om))
       have j5 := (((P.ch0 H).ch0 bg).ch0 bB).ch cy (fun hm => by have C := a _ hm; have ay := hipv _ hm; omega)
       have j6 := (((Y.ch0 H).ch0 bg).ch0 bB).ch cy (fun i hi => by have C := a _ hi; omega)
       have j7 := (((Z.ch0 H).ch0 bg).ch0 bB).ch cy (fun i hi => by have C := a _ hi; omega)
       have j8 := (((O.ch0 H).ch0 bg).ch0 bB).ch cy (fun hm => by have C := a _ hm; have ay := hipv _ hm; omega)
       have j9 := (((aa.ch0 H).ch0 bg).ch0 bB).ch cy (fun i hi => by have C := a _ hi; omega)
       have ka := (((ab.ch0 H).ch0 bg).ch0 bB).ch cy (fun i hi => by have C := a _ hi; omega)
       have kb := (((ac.ch0 H).ch0 bg).ch0 bB).ch cy (fun i hi => by have C := a _ hi; omega)
       have kc := ((dE.ch0 bg).ch0 bB).ch cy (fun g hg hm => by exact e _ hm hg)
       have kd := ((c7.ch0 bg).ch0 bB).ch cy (fun hm => by exact h (by first | exact hm | exact ax ▸ hm))
       exact Zb (Exists.intro ((k + 1), (.slice u ((psT gV gE aN node s i ++ psB l (afX aN b s l.letter) k ++ [(⟨n.ed, n.bk, Yv o p.bk, ((k : Nat) : Int)⟩ : PStep)])).length y)) ⟨⟨E, om, om, j5, j6, j7, j8, j9, ka, kb, kc, kd, fq, (Lo.down D om), (fun g hm hg => by rcases r with ea | ea; (rw [ea] at hm; exact e _ hm hg); (have aF := z _ hm; rw [ea] at hm; have aG := List.mem_singleton.1 hm; have bd := ad _ hg; have be := M _ hg; omega)), (fun hm => by rcases r with ea | ea; (rw [ea] at hm; exact h (by first | exact hm | exact ax ▸ hm)); (rw [ea] at hm; have aG := List.mem_singleton.1 hm; omega))⟩, sC8 rfl rfl rfl rfl rfl rfl rfl rfl (sC4 rfl rfl rfl rfl (sC1 rfl (Sub.nil _))), (by first | omega | (dsimp only; omega))⟩)
      refine Zk rfl rfl rfl ?_
      have dg := a4.ch0 H
      refine (Yc dg.ls GStp.len el133 sz97 rfl rfl rfl om fun cu p ao al => ?_)
      have R := Zv ao ai
      refine ⟨(Ch.refl _ _), ?_⟩
      refine dV 9 rfl rfl rfl (fun _ => Zh fa97_1 rfl) ?_
      refine Yt 3 10 (by kernel_rfl) ?_ ?_
      ·refine Zk rfl rfl rfl ?_
       refine (Yc dg.ls GStp.len el133 sz97 rfl rfl rfl om fun c8 n an ak => ?_)
       have K := Zv an ai
       refine ⟨(Ch.refl _ _), ?_⟩
       refine Yt 4 10 (by kernel_rfl) ?_ ?_
       ·refine Zk rfl rfl rfl ?_
        refine s_v (Zs ak agg97 sz97 rfl) ?_
        refine ⟨(Ch.refl _ _), ?_⟩
        refine dO 10 (Zk rfl rfl rfl ?_)
        refine s_v (Zl al agg4 rfl rfl) ?_
        refine ⟨(Ch.refl _ _), ?_⟩
        refine dO 11 (Zk rfl rfl rfl ?_)
        refine Step.call (Zr (xs := [.tmp 98, .tmp 103]) fk101 rfl) (Yl o _ ) fun af ke G => ?_
        obtain ⟨rfl, bC⟩ := G
        have rT := bC.size
        have E := E.trans bC
        have eB : Ch (bl (.slice Apv (psT gV gE aN node s i ++ psB l (afX aN b s l.letter) k).length Cpv)) az ke := ((Ch.refl _ _).trans bC.of_nil)
        refine ⟨eB, ?_⟩
        refine dV 13 rfl rfl rfl (fun _ => Yk (parts := [(0, .tmp 97), (1, .tmp 104), (2, .tmp 105)]) (cells := [(.int .i64 n.ed), (.bool n.bk), (.int .i64 (Yv o p.bk)), (.int .i64 ((k : Nat) : Int))]) zr103 pl103 rfl rfl) (dO 14 (Zk rfl rfl rfl ?_))
        refine Zm (cs := PStep.cs) (parts := [(0, .tmp 106)]) (⟨0, false, 0, 0⟩ : PStep) [(⟨n.ed, n.bk, Yv o p.bk, ((k : Nat) : Int)⟩ : PStep)] el32 sz103 zr103 PStep.len (by decide) rfl rfl rfl (by decide) (by decide) rfl fun ag kf A S bD => ?_
        have rU := bD.size
        have E := E.trans bD
        obtain ⟨T, U, rfl, V, L⟩ := A.opn
        have eC : Ch (bl (.slice Apv (psT gV gE aN node s i ++ psB l (afX aN b s l.letter) k).length Cpv)) az kf := (eB.trans bD.of_nil)
        refine ⟨eC, ?_⟩
        refine dO 15 (Zk rfl rfl rfl ?_)
        have kg := ((Q.ch0 H).ch0 bC).ch0 bD
        refine Zy (cs := PStep.cs) el32 sz103 by103 zr103 rfl (by decide) PStep.one kg A.ls rfl rfl (by have aD := Yj hg aN node s i; have aE := Ym l (afX aN b s l.letter) (k := k); simp only [List.length_append, List.length_singleton]; omega) (by have aD := Yj hg aN node s i; have aE := Ym l (afX aN b s l.letter) (k := k); simp only [List.length_append, List.length_singleton]; omega) a om fun ah hQ B D r cz => ?_
        have rV := cz.size
        have E := E.step cz (fun i hi => .inl (by have C := a _ hi; omega))
        obtain ⟨u, y, rfl, X, z⟩ := B.opn
        have gz : Ch (bl (.slice Apv (psT gV gE aN node s i ++ psB l (afX aN b s l.letter) k).length Cpv)) az hQ := (eC.step cz (fun i hm => by exact .inr hm))
        refine ⟨gz, ?_⟩
        refine dV 16 rfl rfl rfl (fun _ => Zd rfl) ?_
        refine Zw (by kernel_rfl) ?_
        refine Zq (Zb (c6 _ _ (Zc (Za rfl rfl (Zf rfl) (Za rfl rfl (Ye om rfl rfl) (Za rfl rfl (Zd rfl) (Ze ?_)))))))
        have fr : Ol PStep.cs 103 4 hQ (.slice u ((psT gV gE aN node s i ++ psB l (afX aN b s l.letter) k ++ [(⟨n.ed, n.bk, Yv o p.bk, ((k : Nat) : Int)⟩ : PStep)])).length y) (psT gV gE aN node s i ++ psB l (afX aN b s l.letter) (k + 1)) := by
         have hx := B
         first | exact hx.eq (Xf (Xn ap F om om) (by rw [K, am.1]) (by rw [K, am.2]) (by rw [R, a6.2])) | exact hx.eq (Xe (Xm ap F om om))
        have kh := (((P.ch0 H).ch0 bC).ch0 bD).ch cz (fun hm => by have C := a _ hm; have ay := hipv _ hm; omega)
        have ki := (((Y.ch0 H).ch0 bC).ch0 bD).ch cz (fun i hi => by have C := a _ hi; omega)
        have kj := (((Z.ch0 H).ch0 bC).ch0 bD).ch cz (fun i hi => by have C := a _ hi; omega)
        have kk := (((O.ch0 H).ch0 bC).ch0 bD).ch cz (fun hm => by have C := a _ hm; have ay := hipv _ hm; omega)
        have kl := (((aa.ch0 H).ch0 bC).ch0 bD).ch cz (fun i hi => by have C := a _ hi; omega)
        have km := (((ab.ch0 H).ch0 bC).ch0 bD).ch cz (fun i hi => by have C := a _ hi; omega)
        have kn := (((ac.ch0 H).ch0 bC).ch0 bD).ch cz (fun i hi => by have C := a _ hi; omega)
        have ko := ((dg.ch0 bC).ch0 bD).ch cz (fun g hg hm => by exact e _ hm hg)
        have kp := ((c7.ch0 bC).ch0 bD).ch cz (fun hm => by exact h (by first | exact hm | exact ax ▸ hm))
        exact Zb (Exists.intro ((k + 1), (.slice u ((psT gV gE aN node s i ++ psB l (afX aN b s l.letter) k ++ [(⟨n.ed, n.bk, Yv o p.bk, ((k : Nat) : Int)⟩ : PStep)])).length y)) ⟨⟨E, om, om, kh, ki, kj, kk, kl, km, kn, ko, kp, fr, (Lo.down D om), (fun g hm hg => by rcases r with ea | ea; (rw [ea] at hm; exact e _ hm hg); (have aF := z _ hm; rw [ea] at hm; have aG := List.mem_singleton.1 hm; have bd := ad _ hg; have be := M _ hg; omega)), (fun hm => by rcases r with ea | ea; (rw [ea] at hm; exact h (by first | exact hm | exact ax ▸ hm)); (rw [ea] at hm; have aG := List.mem_singleton.1 hm; omega))⟩, sC8 rfl rfl rfl rfl rfl rfl rfl rfl (sC4 rfl rfl rfl rfl (sC1 rfl (Sub.nil _))), (by first | omega | (dsimp only; omega))⟩)
       refine Zk rfl rfl rfl ?_
       refine s_v (Zl al agg4 rfl rfl) ?_
       refine ⟨(Ch.refl _ _), ?_⟩
       refine Yt 4 11 (by kernel_rfl) ?_ ?_
       ·refine Zk rfl rfl rfl ?_
        refine s_v (Zs ak agg97 sz97 rfl) ?_
        refine ⟨(Ch.refl _ _), ?_⟩
        refine dO 11 (Zk rfl rfl rfl ?_)
        refine Step.call (Zr (xs := [.tmp 98, .tmp 103]) fk101 rfl) (Yl o _ ) fun af kq G => ?_
        obtain ⟨rfl, bF⟩ := G
        have rW := bF.size
        have E := E.trans bF
        have eD : Ch (bl (.slice Apv (psT gV gE aN node s i ++ psB l (afX aN b s l.letter) k).length Cpv)) az kq := ((Ch.refl _ _).trans bF.of_nil)
        refine ⟨eD, ?_⟩
        refine dV 13 rfl rfl rfl (fun _ => Yk (parts := [(0, .tmp 97), (1, .tmp 104), (2, .tmp 105)]) (cells := [(.int .i64 n.ed), (.bool n.bk), (.int .i64 (Yv o p.bk)), (.int .i64 ((k : Nat) : Int))]) zr103 pl103 rfl rfl) (dO 14 (Zk rfl rfl rfl ?_))
        refine Zm (cs := PStep.cs) (parts := [(0, .tmp 106)]) (⟨0, false, 0, 0⟩ : PStep) [(⟨n.ed, n.bk, Yv o p.bk, ((k : Nat) : Int)⟩ : PStep)] el32 sz103 zr103 PStep.len (by decide) rfl rfl rfl (by decide) (by decide) rfl fun ag kr A S bG => ?_
        have rX := bG.size
        have E := E.trans bG
        obtain ⟨T, U, rfl, V, L⟩ := A.opn
        have eE : Ch (bl (.slice Apv (psT gV gE aN node s i ++ psB l (afX aN b s l.letter) k).length Cpv)) az kr := (eD.trans bG.of_nil)
        refine ⟨eE, ?_⟩
        refine dO 15 (Zk rfl rfl rfl ?_)
        have ks := ((Q.ch0 H).ch0 bF).ch0 bG
        refine Zy (cs := PStep.cs) el32 sz103 by103 zr103 rfl (by decide) PStep.one ks A.ls rfl rfl (by have aD := Yj hg aN node s i; have aE := Ym l (afX aN b s l.letter) (k := k); simp only [List.length_append, List.length_singleton]; omega) (by have aD := Yj hg aN node s i; have aE := Ym l (afX aN b s l.letter) (k := k); simp only [List.length_append, List.length_singleton]; omega) a om fun ah hR B D r cA => ?_
        have rY := cA.size
        have E := E.step cA (fun i hi => .inl (by have C := a _ hi; omega))
        obtain ⟨u, y, rfl, X, z⟩ := B.opn
        have gA : Ch (bl (.slice Apv (psT gV gE aN node s i ++ psB l (afX aN b s l.letter) k).length Cpv)) az hR := (eE.step cA (fun i hm => by exact .inr hm))
        refine ⟨gA, ?_⟩
        refine dV 16 rfl rfl rfl (fun _ => Zd rfl) ?_
        refine Zw (by kernel_rfl) ?_
        refine Zq (Zb (c6 _ _ (Zc (Za rfl rfl (Zf rfl) (Za rfl rfl (Ye om rfl rfl) (Za rfl rfl (Zd rfl) (Ze ?_)))))))
        have fs : Ol PStep.cs 103 4 hR (.slice u ((psT gV gE aN node s i ++ psB l (afX aN b s l.letter) k ++ [(⟨n.ed, n.bk, Yv o p.bk, ((k : Nat) : Int)⟩ : PStep)])).length y) (psT gV gE aN node s i ++ psB l (afX aN b s l.letter) (k + 1)) := by
         have hx := B
         first | exact hx.eq (Xf (Xn ap F om om) (by rw [K, am.1]) (by rw [K, am.2]) (by rw [R, a6.2])) | exact hx.eq (Xe (Xm ap F om om))
        have kt := (((P.ch0 H).ch0 bF).ch0 bG).ch cA (fun hm => by have C := a _ hm; have ay := hipv _ hm; omega)
        have ku := (((Y.ch0 H).ch0 bF).ch0 bG).ch cA (fun i hi => by have C := a _ hi; omega)
        have kv := (((Z.ch0 H).ch0 bF).ch0 bG).ch cA (fun i hi => by have C := a _ hi; omega)
        have kw := (((O.ch0 H).ch0 bF).ch0 bG).ch cA (fun hm => by have C := a _ hm; have ay := hipv _ hm; omega)
        have kx := (((aa.ch0 H).ch0 bF).ch0 bG).ch cA (fun i hi => by have C := a _ hi; omega)
        have ky := (((ab.ch0 H).ch0 bF).ch0 bG).ch cA (fun i hi => by have C := a _ hi; omega)
        have kz := (((ac.ch0 H).ch0 bF).ch0 bG).ch cA (fun i hi => by have C := a _ hi; omega)
        have kA := ((dg.ch0 bF).ch0 bG).ch cA (fun g hg hm => by exact e _ hm hg)
        have kB := ((c7.ch0 bF).ch0 bG).ch cA (fun hm => by exact h (by first | exact hm | exact ax ▸ hm))
        exact Zb (Exists.intro ((k + 1), (.slice u ((psT gV gE aN node s i ++ psB l (afX aN b s l.letter) k ++ [(⟨n.ed, n.bk, Yv o p.bk, ((k : Nat) : Int)⟩ : PStep)])).length y)) ⟨⟨E, om, om, kt, ku, kv, kw, kx, ky, kz, kA, kB, fs, (Lo.down D om), (fun g hm hg => by rcases r with ea | ea; (rw [ea] at hm; exact e _ hm hg); (have aF := z _ hm; rw [ea] at hm; have aG := List.mem_singleton.1 hm; have bd := ad _ hg; have be := M _ hg; omega)), (fun hm => by rcases r with ea | ea; (rw [ea] at hm; exact h (by first | exact hm | exact ax ▸ hm)); (rw [ea] at hm; have aG := List.mem_singleton.1 hm; omega))⟩, sC8 rfl rfl rfl rfl rfl rfl rfl rfl (sC4 rfl rfl rfl rfl (sC1 rfl (Sub.nil _))), (by first | omega | (dsimp only; omega))⟩)
       refine Zk rfl rfl rfl ?_
       refine Step.call (Zr (xs := [.tmp 98, .tmp 103]) fk101 rfl) (Yl o _ ) fun af kC G => ?_
       obtain ⟨rfl, bh⟩ := G
       have rZ := bh.size
       have E := E.trans bh
       have dG : Ch (bl (.slice Apv (psT gV gE aN node s i ++ psB l (afX aN b s l.letter) k).length Cpv)) az kC := ((Ch.refl _ _).trans bh.of_nil)
       refine ⟨dG, ?_⟩
       refine dO 4 (Zk rfl rfl rfl ?_)
       have kD := ak.ch0 bh
       refine s_v (Zs kD agg97 sz97 rfl) ?_
       refine ⟨dG, ?_⟩
       refine dV 13 rfl rfl rfl (fun _ => Yk (parts := [(0, .tmp 97), (1, .tmp 104), (2, .tmp 105)]) (cells := [(.int .i64 n.ed), (.bool n.bk), (.int .i64 (Yv o p.bk)), (.int .i64 ((k : Nat) : Int))]) zr103 pl103 rfl rfl) (dO 14 (Zk rfl rfl rfl ?_))
       refine Zm (cs := PStep.cs) (parts := [(0, .tmp 106)]) (⟨0, false, 0, 0⟩ : PStep) [(⟨n.ed, n.bk, Yv o p.bk, ((k : Nat) : Int)⟩ : PStep)] el32 sz103 zr103 PStep.len (by decide) rfl rfl rfl (by decide) (by decide) rfl fun ag kE A S bH => ?_
       have r0 := bH.size
       have E := E.trans bH
       obtain ⟨T, U, rfl, V, L⟩ := A.opn
       have eF : Ch (bl (.slice Apv (psT gV gE aN node s i ++ psB l (afX aN b s l.letter) k).length Cpv)) az kE := (dG.trans bH.of_nil)
       refine ⟨eF, ?_⟩
       refine dO 15 (Zk rfl rfl rfl ?_)
       have kF := ((Q.ch0 H).ch0 bh).ch0 bH
       refine Zy (cs := PStep.cs) el32 sz103 by103 zr103 rfl (by decide) PStep.one kF A.ls rfl rfl (by have aD := Yj hg aN node s i; have aE := Ym l (afX aN b s l.letter) (k := k); simp only [List.length_append, List.length_singleton]; omega) (by have aD := Yj hg aN node s i; have aE := Ym l (afX aN b s l.letter) (k := k); simp only [List.length_append, List.length_singleton]; omega) a om fun ah hS B D r cB => ?_
       have r1 := cB.size
       have E := E.step cB (fun i hi => .inl (by have C := a _ hi; omega))
       obtain ⟨u, y, rfl, X, z⟩ := B.opn
       have gB : Ch (bl (.slice Apv (psT gV gE aN node s i ++ psB l (afX aN b s l.letter) k).length Cpv)) az hS := (eF.step cB (fun i hm => by exact .inr hm))
       refine ⟨gB, ?_⟩
       refine dV 16 rfl rfl rfl (fun _ => Zd rfl) ?_
       refine Zw (by kernel_rfl) ?_
       refine Zq (Zb (c6 _ _ (Zc (Za rfl rfl (Zf rfl) (Za rfl rfl (Ye om rfl rfl) (Za rfl rfl (Zd rfl) (Ze ?_)))))))
       have ft : Ol PStep.cs 103 4 hS (.slice u ((psT gV gE aN node s i ++ psB l (afX aN b s l.letter) k ++ [(⟨n.ed, n.bk, Yv o p.bk, ((k : Nat) : Int)⟩ : PStep)])).length y) (psT gV gE aN node s i ++ psB l (afX aN b s l.letter) (k + 1)) := by
        have hx := B
        first | exact hx.eq (Xf (Xn ap F om om) (by rw [K, am.1]) (by rw [K, am.2]) (by rw [R, a6.2])) | exact hx.eq (Xe (Xm ap F om om))
       have kG := (((P.ch0 H).ch0 bh).ch0 bH).ch cB (fun hm => by have C := a _ hm; have ay := hipv _ hm; omega)
       have kH := (((Y.ch0 H).ch0 bh).ch0 bH).ch cB (fun i hi => by have C := a _ hi; omega)
       have kI := (((Z.ch0 H).ch0 bh).ch0 bH).ch cB (fun i hi => by have C := a _ hi; omega)
       have kJ := (((O.ch0 H).ch0 bh).ch0 bH).ch cB (fun hm => by have C := a _ hm; have ay := hipv _ hm; omega)
       have kK := (((aa.ch0 H).ch0 bh).ch0 bH).ch cB (fun i hi => by have C := a _ hi; omega)
       have kL := (((ab.ch0 H).ch0 bh).ch0 bH).ch cB (fun i hi => by have C := a _ hi; omega)
       have kM := (((ac.ch0 H).ch0 bh).ch0 bH).ch cB (fun i hi => by have C := a _ hi; omega)
       have kN := ((dg.ch0 bh).ch0 bH).ch cB (fun g hg hm => by exact e _ hm hg)
       have kO := ((c7.ch0 bh).ch0 bH).ch cB (fun hm => by exact h (by first | exact hm | exact ax ▸ hm))
       exact Zb (Exists.intro ((k + 1), (.slice u ((psT gV gE aN node s i ++ psB l (afX aN b s l.letter) k ++ [(⟨n.ed, n.bk, Yv o p.bk, ((k : Nat) : Int)⟩ : PStep)])).length y)) ⟨⟨E, om, om, kG, kH, kI, kJ, kK, kL, kM, kN, kO, ft, (Lo.down D om), (fun g hm hg => by rcases r with ea | ea; (rw [ea] at hm; exact e _ hm hg); (have aF := z _ hm; rw [ea] at hm; have aG := List.mem_singleton.1 hm; have bd := ad _ hg; have be := M _ hg; omega)), (fun hm => by rcases r with ea | ea; (rw [ea] at hm; exact h (by first | exact hm | exact ax ▸ hm)); (rw [ea] at hm; have aG := List.mem_singleton.1 hm; omega))⟩, sC8 rfl rfl rfl rfl rfl rfl rfl rfl (sC4 rfl rfl rfl rfl (sC1 rfl (Sub.nil _))), (by first | omega | (dsimp only; omega))⟩)
      refine Zk rfl rfl rfl ?_
      refine s_v (Zl al agg4 rfl rfl) ?_
      refine ⟨(Ch.refl _ _), ?_⟩
      refine Yt 3 11 (by kernel_rfl) ?_ ?_
      ·refine Zk rfl rfl rfl ?_
       refine (Yc dg.ls GStp.len el133 sz97 rfl rfl rfl om fun c8 n an ak => ?_)
       have K := Zv an ai
       refine ⟨(Ch.refl _ _), ?_⟩
       refine Yt 4 11 (by kernel_rfl) ?_ ?_
       ·refine Zk rfl rfl rfl ?_
        refine s_v (Zs ak agg97 sz97 rfl) ?_
        refine ⟨(Ch.refl _ _), ?_⟩
        refine dO 11 (Zk rfl rfl rfl ?_)
        refine Step.call (Zr (xs := [.tmp 98, .tmp 103]) fk101 rfl) (Yl o _ ) fun af kP G => ?_
        obtain ⟨rfl, bI⟩ := G
        have r2 := bI.size
        have E := E.trans bI
        have eG : Ch (bl (.slice Apv (psT gV gE aN node s i ++ psB l (afX aN b s l.letter) k).length Cpv)) az kP := ((Ch.refl _ _).trans bI.of_nil)
        refine ⟨eG, ?_⟩
        refine dV 13 rfl rfl rfl (fun _ => Yk (parts := [(0, .tmp 97), (1, .tmp 104), (2, .tmp 105)]) (cells := [(.int .i64 n.ed), (.bool n.bk), (.int .i64 (Yv o p.bk)), (.int .i64 ((k : Nat) : Int))]) zr103 pl103 rfl rfl) (dO 14 (Zk rfl rfl rfl ?_))
        refine Zm (cs := PStep.cs) (parts := [(0, .tmp 106)]) (⟨0, false, 0, 0⟩ : PStep) [(⟨n.ed, n.bk, Yv o p.bk, ((k : Nat) : Int)⟩ : PStep)] el32 sz103 zr103 PStep.len (by decide) rfl rfl rfl (by decide) (by decide) rfl fun ag kQ A S bJ => ?_
        have r3 := bJ.size
        have E := E.trans bJ
        obtain ⟨T, U, rfl, V, L⟩ := A.opn
        have eH : Ch (bl (.slice Apv (psT gV gE aN node s i ++ psB l (afX aN b s l.letter) k).length Cpv)) az kQ := (eG.trans bJ.of_nil)
        refine ⟨eH, ?_⟩
        refine dO 15 (Zk rfl rfl rfl ?_)
        have kR := ((Q.ch0 H).ch0 bI).ch0 bJ
        refine Zy (cs := PStep.cs) el32 sz103 by103 zr103 rfl (by decide) PStep.one kR A.ls rfl rfl (by have aD := Yj hg aN node s i; have aE := Ym l (afX aN b s l.letter) (k := k); simp only [List.length_append, List.length_singleton]; omega) (by have aD := Yj hg aN node s i; have aE := Ym l (afX aN b s l.letter) (k := k); simp only [List.length_append, List.length_singleton]; omega) a om fun ah hT B D r cC => ?_
        have r4 := cC.size
        have E := E.step cC (fun i hi => .inl (by have C := a _ hi; omega))
        obtain ⟨u, y, rfl, X, z⟩ := B.opn
        have gC : Ch (bl (.slice Apv (psT gV gE aN node s i ++ psB l (afX aN b s l.letter) k).length Cpv)) az hT := (eH.step cC (fun i hm => by exact .inr hm))
        refine ⟨gC, ?_⟩
        refine dV 16 rfl rfl rfl (fun _ => Zd rfl) ?_
        refine Zw (by kernel_rfl) ?_
        refine Zq (Zb (c6 _ _ (Zc (Za rfl rfl (Zf rfl) (Za rfl rfl (Ye om rfl rfl) (Za rfl rfl (Zd rfl) (Ze ?_)))))))
        have fu : Ol PStep.cs 103 4 hT (.slice u ((psT gV gE aN node s i ++ psB l (afX aN b s l.letter) k ++ [(⟨n.ed, n.bk, Yv o p.bk, ((k : Nat) : Int)⟩ : PStep)])).length y) (psT gV gE aN node s i ++ psB l (afX aN b s l.letter) (k + 1)) := by
         have hx := B
         first | exact hx.eq (Xf (Xn ap F om om) (by rw [K, am.1]) (by rw [K, am.2]) (by rw [R, a6.2])) | exact hx.eq (Xe (Xm ap F om om))
        have kS := (((P.ch0 H).ch0 bI).ch0 bJ).ch cC (fun hm => by have C := a _ hm; have ay := hipv _ hm; omega)
        have kT := (((Y.ch0 H).ch0 bI).ch0 bJ).ch cC (fun i hi => by have C := a _ hi; omega)
        have kU := (((Z.ch0 H).ch0 bI).ch0 bJ).ch cC (fun i hi => by have C := a _ hi; omega)
        have kV := (((O.ch0 H).ch0 bI).ch0 bJ).ch cC (fun hm => by have C := a _ hm; have ay := hipv _ hm; omega)
        have kW := (((aa.ch0 H).ch0 bI).ch0 bJ).ch cC (fun i hi => by have C := a _ hi; omega)
        have kX := (((ab.ch0 H).ch0 bI).ch0 bJ).ch cC (fun i hi => by have C := a _ hi; omega)
        have kY := (((ac.ch0 H).ch0 bI).ch0 bJ).ch cC (fun i hi => by have C := a _ hi; omega)
        have kZ := ((dg.ch0 bI).ch0 bJ).ch cC (fun g hg hm => by exact e _ hm hg)
        have k2 := ((c7.ch0 bI).ch0 bJ).ch cC (fun hm => by exact h (by first | exact hm | exact ax ▸ hm))
        exact Zb (Exists.intro ((k + 1), (.slice u ((psT gV gE aN node s i ++ psB l (afX aN b s l.letter) k ++ [(⟨n.ed, n.bk, Yv o p.bk, ((k : Nat) : Int)⟩ : PStep)])).length y)) ⟨⟨E, om, om, kS, kT, kU, kV, kW, kX, kY, kZ, k2, fu, (Lo.down D om), (fun g hm hg => by rcases r with ea | ea; (rw [ea] at hm; exact e _ hm hg); (have aF := z _ hm; rw [ea] at hm; have aG := List.mem_singleton.1 hm; have bd := ad _ hg; have be := M _ hg; omega)), (fun hm => by rcases r with ea | ea; (rw [ea] at hm; exact h (by first | exact hm | exact ax ▸ hm)); (rw [ea] at hm; have aG := List.mem_singleton.1 hm; omega))⟩, sC8 rfl rfl rfl rfl rfl rfl rfl rfl (sC4 rfl rfl rfl rfl (sC1 rfl (Sub.nil _))), (by first | omega | (dsimp only; omega))⟩)
       refine Zk rfl rfl rfl ?_
       refine Step.call (Zr (xs := [.tmp 98, .tmp 103]) fk101 rfl) (Yl o _ ) fun af k3 G => ?_
       obtain ⟨rfl, bi⟩ := G
       have r5 := bi.size
       have E := E.trans bi
       have dH : Ch (bl (.slice Apv (psT gV gE aN node s i ++ psB l (afX aN b s l.letter) k).length Cpv)) az k3 := ((Ch.refl _ _).trans bi.of_nil)
       refine ⟨dH, ?_⟩
       refine dO 4 (Zk rfl rfl rfl ?_)
       have k4 := ak.ch0 bi
       refine s_v (Zs k4 agg97 sz97 rfl) ?_
       refine ⟨dH, ?_⟩
       refine dV 13 rfl rfl rfl (fun _ => Yk (parts := [(0, .tmp 97), (1, .tmp 104), (2, .tmp 105)]) (cells := [(.int .i64 n.ed), (.bool n.bk), (.int .i64 (Yv o p.bk)), (.int .i64 ((k : Nat) : Int))]) zr103 pl103 rfl rfl) (dO 14 (Zk rfl rfl rfl ?_))
       refine Zm (cs := PStep.cs) (parts := [(0, .tmp 106)]) (⟨0, false, 0, 0⟩ : PStep) [(⟨n.ed, n.bk, Yv o p.bk, ((k : Nat) : Int)⟩ : PStep)] el32 sz103 zr103 PStep.len (by decide) rfl rfl rfl (by decide) (by decide) rfl fun ag k5 A S bK => ?_
       have r6 := bK.size
       have E := E.trans bK
       obtain ⟨T, U, rfl, V, L⟩ := A.opn
       have eI : Ch (bl (.slice Apv (psT gV gE aN node s i ++ psB l (afX aN b s l.letter) k).length Cpv)) az k5 := (dH.trans bK.of_nil)
       refine ⟨eI, ?_⟩
       refine dO 15 (Zk rfl rfl rfl ?_)
       have k6 := ((Q.ch0 H).ch0 bi).ch0 bK
       refine Zy (cs := PStep.cs) el32 sz103 by103 zr103 rfl (by decide) PStep.one k6 A.ls rfl rfl (by have aD := Yj hg aN node s i; have aE := Ym l (afX aN b s l.letter) (k := k); simp only [List.length_append, List.length_singleton]; omega) (by have aD := Yj hg aN node s i; have aE := Ym l (afX aN b s l.letter) (k := k); simp only [List.length_append, List.length_singleton]; omega) a om fun ah hU B D r cD => ?_
       have r7 := cD.size
       have E := E.step cD (fun i hi => .inl (by have C := a _ hi; omega))
       obtain ⟨u, y, rfl, X, z⟩ := B.opn
       have gD : Ch (bl (.slice Apv (psT gV gE aN node s i ++ psB l (afX aN b s l.letter) k).length Cpv)) az hU := (eI.step cD (fun i hm => by exact .inr hm))
       refine ⟨gD, ?_⟩
       refine dV 16 rfl rfl rfl (fun _ => Zd rfl) ?_
       refine Zw (by kernel_rfl) ?_
       refine Zq (Zb (c6 _ _ (Zc (Za rfl rfl (Zf rfl) (Za rfl rfl (Ye om rfl rfl) (Za rfl rfl (Zd rfl) (Ze ?_)))))))
       have fv : Ol PStep.cs 103 4 hU (.slice u ((psT gV gE aN node s i ++ psB l (afX aN b s l.letter) k ++ [(⟨n.ed, n.bk, Yv o p.bk, ((k : Nat) : Int)⟩ : PStep)])).length y) (psT gV gE aN node s i ++ psB l (afX aN b s l.letter) (k + 1)) := by
        have hx := B
        first | exact hx.eq (Xf (Xn ap F om om) (by rw [K, am.1]) (by rw [K, am.2]) (by rw [R, a6.2])) | exact hx.eq (Xe (Xm ap F om om))
       have k7 := (((P.ch0 H).ch0 bi).ch0 bK).ch cD (fun hm => by have C := a _ hm; have ay := hipv _ hm; omega)
       have k8 := (((Y.ch0 H).ch0 bi).ch0 bK).ch cD (fun i hi => by have C := a _ hi; omega)
       have k9 := (((Z.ch0 H).ch0 bi).ch0 bK).ch cD (fun i hi => by have C := a _ hi; omega)
       have la := (((O.ch0 H).ch0 bi).ch0 bK).ch cD (fun hm => by have C := a _ hm; have ay := hipv _ hm; omega)
       have lb := (((aa.ch0 H).ch0 bi).ch0 bK).ch cD (fun i hi => by have C := a _ hi; omega)
       have lc := (((ab.ch0 H).ch0 bi).ch0 bK).ch cD (fun i hi => by have C := a _ hi; omega)
       have ld := (((ac.ch0 H).ch0 bi).ch0 bK).ch cD (fun i hi => by have C := a _ hi; omega)
       have le := ((dg.ch0 bi).ch0 bK).ch cD (fun g hg hm => by exact e _ hm hg)
       have lf := ((c7.ch0 bi).ch0 bK).ch cD (fun hm => by exact h (by first | exact hm | exact ax ▸ hm))
       exact Zb (Exists.intro ((k + 1), (.slice u ((psT gV gE aN node s i ++ psB l (afX aN b s l.letter) k ++ [(⟨n.ed, n.bk, Yv o p.bk, ((k : Nat) : Int)⟩ : PStep)])).length y)) ⟨⟨E, om, om, k7, k8, k9, la, lb, lc, ld, le, lf, fv, (Lo.down D om), (fun g hm hg => by rcases r with ea | ea; (rw [ea] at hm; exact e _ hm hg); (have aF := z _ hm; rw [ea] at hm; have aG := List.mem_singleton.1 hm; have bd := ad _ hg; have be := M _ hg; omega)), (fun hm => by rcases r with ea | ea; (rw [ea] at hm; exact h (by first | exact hm | exact ax ▸ hm)); (rw [ea] at hm; have aG := List.mem_singleton.1 hm; omega))⟩, sC8 rfl rfl rfl rfl rfl rfl rfl rfl (sC4 rfl rfl rfl rfl (sC1 rfl (Sub.nil _))), (by first | omega | (dsimp only; omega))⟩)
      refine Zk rfl rfl rfl ?_
      refine Step.call (Zr (xs := [.tmp 98, .tmp 103]) fk101 rfl) (Yl o _ ) fun af lg G => ?_
      obtain ⟨rfl, bL⟩ := G
      have r8 := bL.size
      have E := E.trans bL
      have dh : Ch (bl (.slice Apv (psT gV gE aN node s i ++ psB l (afX aN b s l.letter) k).length Cpv)) az lg := ((Ch.refl _ _).trans bL.of_nil)
      refine ⟨dh, ?_⟩
      refine dO 3 (Zk rfl rfl rfl ?_)
      have hV := dg.ch0 bL
      refine (Yc hV.ls GStp.len el133 sz97 rfl rfl rfl om fun c8 n an ak => ?_)
      have K := Zv an ai
      refine ⟨dh, ?_⟩
      refine dO 4 (Zk rfl rfl rfl ?_)
      refine s_v (Zs ak agg97 sz97 rfl) ?_
      refine ⟨dh, ?_⟩
      refine dV 13 rfl rfl rfl (fun _ => Yk (parts := [(0, .tmp 97), (1, .tmp 104), (2, .tmp 105)]) (cells := [(.int .i64 n.ed), (.bool n.bk), (.int .i64 (Yv o p.bk)), (.int .i64 ((k : Nat) : Int))]) zr103 pl103 rfl rfl) (dO 14 (Zk rfl rfl rfl ?_))
      refine Zm (cs := PStep.cs) (parts := [(0, .tmp 106)]) (⟨0, false, 0, 0⟩ : PStep) [(⟨n.ed, n.bk, Yv o p.bk, ((k : Nat) : Int)⟩ : PStep)] el32 sz103 zr103 PStep.len (by decide) rfl rfl rfl (by decide) (by decide) rfl fun ag lh A S bM => ?_
      have r9 := bM.size
      have E := E.trans bM
      obtain ⟨T, U, rfl, V, L⟩ := A.opn
      have eJ : Ch (bl (.slice Apv (psT gV gE aN node s i ++ psB l (afX aN b s l.letter) k).length Cpv)) az lh := (dh.trans bM.of_nil)
      refine ⟨eJ, ?_⟩
      refine dO 15 (Zk rfl rfl rfl ?_)
      have li := ((Q.ch0 H).ch0 bL).ch0 bM
      refine Zy (cs := PStep.cs) el32 sz103 by103 zr103 rfl (by decide) PStep.one li A.ls rfl rfl (by have aD := Yj hg aN node s i; have aE := Ym l (afX aN b s l.letter) (k := k); simp only [List.length_append, List.length_singleton]; omega) (by have aD := Yj hg aN node s i; have aE := Ym l (afX aN b s l.letter) (k := k); simp only [List.length_append, List.length_singleton]; omega) a om fun ah hW B D r cE => ?_
      have sa := cE.size
      have E := E.step cE (fun i hi => .inl (by have C := a _ hi; omega))
      obtain ⟨u, y, rfl, X, z⟩ := B.opn
      have gF : Ch (bl (.slice Apv (psT gV gE aN node s i ++ psB l (afX aN b s l.letter) k).length Cpv)) az hW := (eJ.step cE (fun i hm => by exact .inr hm))
      refine ⟨gF, ?_⟩
      refine dV 16 rfl rfl rfl (fun _ => Zd rfl) ?_
      refine Zw (by kernel_rfl) ?_
      refine Zq (Zb (c6 _ _ (Zc (Za rfl rfl (Zf rfl) (Za rfl rfl (Ye om rfl rfl) (Za rfl rfl (Zd rfl) (Ze ?_)))))))
      have fw : Ol PStep.cs 103 4 hW (.slice u ((psT gV gE aN node s i ++ psB l (afX aN b s l.letter) k ++ [(⟨n.ed, n.bk, Yv o p.bk, ((k : Nat) : Int)⟩ : PStep)])).length y) (psT gV gE aN node s i ++ psB l (afX aN b s l.letter) (k + 1)) := by
       have hx := B
       first | exact hx.eq (Xf (Xn ap F om om) (by rw [K, am.1]) (by rw [K, am.2]) (by rw [R, a6.2])) | exact hx.eq (Xe (Xm ap F om om))
      have lj := (((P.ch0 H).ch0 bL).ch0 bM).ch cE (fun hm => by have C := a _ hm; have ay := hipv _ hm; omega)
      have lk := (((Y.ch0 H).ch0 bL).ch0 bM).ch cE (fun i hi => by have C := a _ hi; omega)
      have ll := (((Z.ch0 H).ch0 bL).ch0 bM).ch cE (fun i hi => by have C := a _ hi; omega)
      have lm := (((O.ch0 H).ch0 bL).ch0 bM).ch cE (fun hm => by have C := a _ hm; have ay := hipv _ hm; omega)
      have ln := (((aa.ch0 H).ch0 bL).ch0 bM).ch cE (fun i hi => by have C := a _ hi; omega)
      have lo := (((ab.ch0 H).ch0 bL).ch0 bM).ch cE (fun i hi => by have C := a _ hi; omega)
      have lp := (((ac.ch0 H).ch0 bL).ch0 bM).ch cE (fun i hi => by have C := a _ hi; omega)
      have lq := (hV.ch0 bM).ch cE (fun g hg hm => by exact e _ hm hg)
      have lr := ((c7.ch0 bL).ch0 bM).ch cE (fun hm => by exact h (by first | exact hm | exact ax ▸ hm))
      exact Zb (Exists.intro ((k + 1), (.slice u ((psT gV gE aN node s i ++ psB l (afX aN b s l.letter) k ++ [(⟨n.ed, n.bk, Yv o p.bk, ((k : Nat) : Int)⟩ : PStep)])).length y)) ⟨⟨E, om, om, lj, lk, ll, lm, ln, lo, lp, lq, lr, fw, (Lo.down D om), (fun g hm hg => by rcases r with ea | ea; (rw [ea] at hm; exact e _ hm hg); (have aF := z _ hm; rw [ea] at hm; have aG := List.mem_singleton.1 hm; have bd := ad _ hg; have be := M _ hg; omega)), (fun hm => by rcases r with ea | ea; (rw [ea] at hm; exact h (by first | exact hm | exact ax ▸ hm)); (rw [ea] at hm; have aG := List.mem_singleton.1 hm; omega))⟩, sC8 rfl rfl rfl rfl rfl rfl rfl rfl (sC4 rfl rfl rfl rfl (sC1 rfl (Sub.nil _))), (by first | omega | (dsimp only; omega))⟩)
     have hL := F
     have F := Yq F
     refine Zu ?_
     refine Zq (Zb (c6 _ _ (Zc (Za rfl rfl (Zf rfl) (Za rfl rfl (Ye om rfl rfl) (Za rfl rfl (Zd rfl) (Ze ?_)))))))
     have fx : Ol PStep.cs 103 4 hI (.slice Apv (psT gV gE aN node s i ++ psB l (afX aN b s l.letter) k).length Cpv) (psT gV gE aN node s i ++ psB l (afX aN b s l.letter) (k + 1)) := by
      have hx := Q
      first | exact hx.eq (Xf (Xn ap F om om) (by rw [K, am.1]) (by rw [K, am.2]) (by rw [R, a6.2])) | exact hx.eq (Xe (Xm ap F om om))
     exact Zb (Exists.intro ((k + 1), (.slice Apv (psT gV gE aN node s i ++ psB l (afX aN b s l.letter) k).length Cpv)) ⟨⟨E, om, om, P, Y, Z, O, aa, ab, ac, a4, ba, fx, (Lo.down a om), (fun g hm hg => by exact e _ hm hg), (fun hm => by exact h (by first | exact hm | exact ax ▸ hm))⟩, sC8 rfl rfl rfl rfl rfl rfl rfl rfl (sC4 rfl rfl rfl rfl (sC1 rfl (Sub.nil _))), (by first | omega | (dsimp only; omega))⟩)
    have hK := aW
    have aW := Yq aW
    refine Xc (Zt (Zt (Yx ?_)))
    refine Zq (Zb (i2 _ _ (Zc (Za rfl rfl (Zf rfl) (Za rfl rfl (Ye om rfl rfl) (Za rfl rfl (Zd rfl) (Ze ?_)))))))
    have fy : Ol PStep.cs 103 4 hI (.slice Apv (psT gV gE aN node s i ++ psB l (afX aN b s l.letter) k).length Cpv) (psT gV gE aN node s (i + 1)) := by
     have hx := Q
     have eK : k = aA.length := om; subst eK; exact hx.eq (Zfe hv om gs hc)
    exact Zb (Exists.intro ((i + 1), (.slice Apv (psT gV gE aN node s i ++ psB l (afX aN b s l.letter) k).length Cpv)) ⟨⟨E, om, om, P, Y, Z, O, aa, ab, ac, a4, fy, (Lo.down a om), (fun g hm hg => by exact e _ hm hg)⟩, sC4 rfl rfl rfl rfl (sC2 rfl rfl (sC1 rfl (Sub.nil _))), (by first | omega | (dsimp only; omega))⟩)
   refine Zk rfl rfl rfl ?_
   refine Qr zr129 fun aJ hX bf cF ht => ?_
   have sb := cF.size
   have E := E.trans cF
   have hu := bf.lt
   replace bf : Blk hX aJ 129 [(.int .i64 0), (.int .i64 0), (.int .i64 0), (.int .i64 0)] := bf
   have eL : Ch [] fl hX := ((Ch.refl _ _).trans cF)
   refine ⟨eL, ?_⟩
   refine dO 8 (Zk rfl rfl rfl ?_)
   have hY := (d3.ch0 co).ch0 cF
   have hZ := (d4.ch0 co).ch0 cF
   refine Step.call (Zr (xs := [.tmp 38, .tmp 43]) fk99 rfl) (Zah hY hZ _ ) fun ho lu d8 => ?_
   obtain ⟨rfl, bN⟩ := d8
   have sc := bN.size
   have E := E.trans bN
   have di : Ch [] fl lu := (eL.trans bN)
   refine ⟨di, ?_⟩
   refine dO 9 (Zk rfl rfl rfl ?_)
   have h0 := hZ.ch0 bN
   refine (Yc (j := (eiR gE du.ed).toNat) h0 GEdge.len el34 sz129 rfl rfl om om fun hr o a7 d9 => ?_)
   have a6 := hd.2.2 _ a7
   rw [am.2] at a6
   refine ⟨di, ?_⟩
   refine dO 10 (Zk rfl rfl rfl ?_)
   refine s_v (Zs d9 agg129 sz129 rfl) ?_
   refine ⟨di, ?_⟩
   refine dO 12 (Zk rfl rfl rfl ?_)
   have lv := bf.ch0 bN
   refine Qw (off := 0) 4 lv sz129 rfl (us := [(.int .i64 o.id), (.int .i64 o.f), (.int .i64 o.t), (.int .i64 o.label)]) rfl rfl rfl rfl fun gG dI cG => ?_
   have sd := cG.size
   have E := E.step cG (lS om)
   replace dI : Blk gG aJ 129 [(.int .i64 o.id), (.int .i64 o.f), (.int .i64 o.t), (.int .i64 o.label)] := dI
   have gH : Ch [] fl gG := (di.step cG (fun i hm => by have ax := List.mem_singleton.1 hm; left; omega))
   refine ⟨gH, ?_⟩
   refine Zw (by kernel_rfl) ?_
   refine Zb (i3 _ _ ?_)
   refine Zg fun uD lw => ?_
   refine Zc (Za rfl rfl (Zd rfl) (Ze (Zb (lw _ _ ?_))))
   refine Zg fun uE lx => ?_
   refine Zg fun uF ly => ?_
   refine Zc (Za rfl rfl (Zd rfl) (Ze (Zb (ly _ _ ?_))))
   refine Yd ?_
   have lz := ((hl.ch0 cF).ch0 bN).ch cG (nS om)
   have lA := (hY.ch0 bN).ch cG (oS om)
   have lB := h0.ch cG (oS om)
   have lC := (((dX.ch0 co).ch0 cF).ch0 bN).ch cG (nS om)
   have lD := (((d5.ch0 co).ch0 cF).ch0 bN).ch cG (oS om)
   have lE := (((d6.ch0 co).ch0 cF).ch0 bN).ch cG (oS om)
   have lF := (((d7.ch0 co).ch0 cF).ch0 bN).ch cG (oS om)
   have lG := ((i4.ch0 cF).ch0 bN).ch cG (dS ad M om)
   have lH := (((dt.ch0 co).ch0 cF).ch0 bN).ch cG (dS a5 hiov om)
   refine Xd (σ := Nat × Int) (fun ⟨q, m⟩ => [(4, (.pointer (some ⟨dB, 0, none⟩))), (5, (.pointer (some ⟨dC, 0, none⟩))), (8, (.slice none 0 0)), (9, (.slice Aov (psT gV gE aN node s i).length Cov)), (10, (.int .i64 ((cloR aN (6 + b) s : Nat) : Int))), (11, (.slice aH (stL gE node).length aI)), (12, (.int .i64 ((i : Nat) : Int))), (13, (.pointer (some ⟨aJ, 0, none⟩))), (14, (.int .i64 m)), (15, (.int .i64 ((q : Nat) : Int))), (33, (.bool (decide (((i : Nat) : Int) < (((stL gE node).length : Nat) : Int)))))]) (fun ⟨q, m⟩ wx => Ch [] w wx ∧ gG.heap.size ≤ wx.heap.size ∧ (q ≤ aA.length) ∧ (m = afC aN l.letter 0 (Yg (cloR aN (6 + b) s) q)) ∧ Blk wx dB 36 [(.slice aM gV.length aO), (.slice aP gE.length aQ)] ∧ Ls ics 1 wx LL_gV w.heap.size (.slice aM gV.length aO) gV ∧ Ls GEdge.cs 4 wx LL_gE w.heap.size (.slice aP gE.length aQ) gE ∧ Blk wx dC 38 [(.int .i64 aS), (.slice aR aA.length aT), (.slice aq saN.length au)] ∧ Ls bcs 1 wx LL_aA w.heap.size (.slice aR aA.length aT) aA ∧ Ls Sv.cs 1 wx LL_saN w.heap.size (.slice aq saN.length au) saN ∧ Rd ics 1 wx LR_aN w.heap.size saN aN ∧ Ol GStp.cs 97 2 wx (.slice aH (stL gE node).length aI) (stL gE node) ∧ Ol PStep.cs 103 4 wx (.slice Aov (psT gV gE aN node s i).length Cov) (psT gV gE aN node s i) ∧ Blk wx aJ 129 [(.int .i64 o.id), (.int .i64 o.f), (.int .i64 o.t), (.int .i64 o.label)]) (fun ⟨q, m⟩ => aA.length - q) (0, 0) (sC8 rfl rfl rfl rfl rfl rfl rfl rfl (sC2 rfl rfl (sC1 rfl (Sub.nil _)))) ⟨E, (Nat.le_refl _), om, (by rfl), lz, lA, lB, lC, lD, lE, lF, lG, lH, dI⟩ ?_
   rintro ⟨q, m⟩ h1 ⟨E, hy, hq, hm, aK, aZ, a0, a1, a2, cp, cq, cr, a3, a8⟩
   have ec := E
   have gk := ec.size
   have ee := aK.lt
   have ef := a1.lt
   have eg := a8.lt
   refine Zg fun uG lI => ?_
   refine Zg fun uH lJ => ?_
   refine Zc (Za rfl rfl (Zf rfl) (Za rfl rfl (Zh fa38_1 rfl) (Za rfl rfl (Zl a1.at_ agg26 rfl rfl) (Za rfl rfl (Yz (by rw [el26]; rfl) rfl) (Za rfl rfl (Xh rfl rfl) (Ze (Zb (lJ _ _ ?_))))))))
   refine Zz rfl (fun aU => ?_) (fun aU => ?_)
   ·have h2 := aU
    have aU := Yp aU
    refine Zu ?_
    refine Zb (lI _ _ ?_)
    refine Zg fun uI gI => ?_
    refine Yd ?_
    refine Zg fun uJ lK => ?_
    refine Xl [] 15 mixed rfl fun gJ aX => ?_
    have se := aX.size
    have E := E.trans aX
    refine dV 0 rfl rfl rfl (fun _ => Zh fa38_2 rfl) ?_
    have fz := a1.ch0 aX
    refine dT 1 rfl rfl rfl (Yo fz.at_ (fun i hi => absurd hi List.not_mem_nil) agg27 rfl rfl ?_)
    refine dV 2 rfl rfl rfl (fun _ => Zf rfl) ?_
    have fA := cp.ch0 aX
    have fB := cq.ch0 aX
    refine dT 3 rfl rfl rfl (Xt fA Sv.len el27 sz22 rfl rfl rfl om fun eh ei dv c4 => ?_)
    obtain ⟨a9, aV, aL⟩ := fB.get dv
    obtain ⟨dw, hz, dx⟩ := ei
    obtain rfl := aL.eqn
    have hA := aL.len
    replace aL : Ls ics 1 gJ LR_aN w.heap.size (.slice dw a9.length dx) a9 := aL
    replace c4 : At gJ LL_saN w.heap.size eh ([(.slice dw a9.length dx)]) := c4
    have hB := (Xp hv.2 aV).1
    refine dT 4 rfl rfl rfl (Xu c4 (fun i hi => absurd hi List.not_mem_nil) agg22 rfl rfl ?_)
    have fC := a8.ch0 aX
    refine dT 5 rfl rfl rfl (Yr fC.at_ (fun i hi => absurd hi List.not_mem_nil) agg129 sz129 rfl ?_)
    refine dV 6 rfl rfl rfl (fun _ => Zf rfl) (dV 7 rfl rfl rfl (fun _ => Zf rfl) (dO 8 (Zk rfl rfl rfl ?_)))
    have fD := cr.ch0 aX
    refine (Yc fD.ls GStp.len el133 sz97 rfl rfl rfl om fun hC c5 dy ej => ?_)
    have ek := Zv dy ai
    have hD := Zfh hg c5.bk a7
    refine ⟨(Ch.refl _ _), ?_⟩
    refine dV 9 rfl rfl rfl (fun _ => Zh fa97_1 rfl) ?_
    refine dT 10 rfl rfl rfl (Yo ej (fun i hi => absurd hi List.not_mem_nil) agg4 rfl rfl ?_)
    refine dO 11 (Zk rfl rfl rfl ?_)
    refine Step.call (Zr (xs := [.tmp 59, .tmp 64]) fk100 rfl) (Zai o _ (by have q := Zbs hg a7; omega)) fun hE lL el => ?_
    obtain ⟨rfl, av⟩ := el
    have sf := av.size
    have E := E.trans av
    have gK : Ch [] gJ lL := ((Ch.refl _ _).trans av)
    refine ⟨gK, ?_⟩
    refine dT 12 rfl rfl rfl (Xt (j := (Zj o c5.bk).toNat) aL Xr el22 sz3 rfl rfl om om fun hG dz ct em => ?_)
    have hH := Qg hv.2 aV ct
    have en := Zdm (s := (q : Int)) (x := Zj o c5.bk) om om aV ct
    have de : dz = Qk aN q l.letter := by rw [en, ek, a6.1]
    refine dT 13 rfl rfl rfl (Xu em (fun i hi => absurd hi List.not_mem_nil) agg3 rfl rfl ?_)
    refine dV 14 rfl rfl rfl (fun _ => Zd rfl) ?_
    refine Zw (by kernel_rfl) ?_
    refine Zb (lK _ _ ?_)
    refine Zg fun uK h3 => ?_
    refine Zc (Za rfl rfl (Zf rfl) (Za rfl rfl (Zf rfl) (Za rfl rfl (Zea om rfl rfl) (Za rfl rfl (Zey rfl rfl) (Za rfl rfl (Zbv rfl rfl) (Za rfl rfl (Zf rfl) ?_))))))
    refine Xg (d := 73) rfl (fun ae => ?_) (fun ae => ?_)
    ·have h4 := ae
     have ae := Yp ae
     refine Za rfl rfl (Zf rfl) (Za rfl rfl (Zeb rfl rfl) (Za rfl rfl (Xi rfl rfl) (Ze (Zb (h3 _ _ ?_)))))
     refine Zz rfl (fun aj => ?_) (fun aj => ?_)
     ·have h5 := aj
      have aj := Yp aj
      refine Zc (Za rfl rfl (Zf rfl) (Za rfl rfl (Zf rfl) (Za rfl rfl (Zgt om rfl rfl) (Za rfl rfl (r_or rfl rfl) (Za rfl rfl (Zd rfl) (Ze (Zq ?_)))))))
      refine Zb (gI _ _ (Zc (Za rfl rfl (Zf rfl) (Za rfl rfl (Ye om rfl rfl) (Za rfl rfl (Zd rfl) (Ze ?_))))))
      have lM := (aK.ch0 aX).ch0 av
      have lN := (aZ.ch0 aX).ch0 av
      have lO := (a0.ch0 aX).ch0 av
      have lP := fz.ch0 av
      have lQ := (a2.ch0 aX).ch0 av
      have lR := fA.ch0 av
      have lT := fB.ch0 av
      have lU := fD.ch0 av
      have lV := (a3.ch0 aX).ch0 av
      have lW := fC.ch0 av
      exact Zb (Exists.intro ((q + 1), (ior m (Qp 1 dz))) ⟨⟨E, om, om, (by subst hm; first | exact Zex (Ql ae om om) de aj | exact Zci (Ql ae om om) de aj | exact Zev (Zby ae om om)), lM, lN, lO, lP, lQ, lR, lT, lU, lV, lW⟩, sC8 rfl rfl rfl rfl rfl rfl rfl rfl (sC2 rfl rfl (sC1 rfl (Sub.nil _))), (by first | omega | (dsimp only; omega))⟩)
     have h5 := aj
     have aj := Yq aj
     refine Zu ?_
     refine Zq (Zb (gI _ _ (Zc (Za rfl rfl (Zf rfl) (Za rfl rfl (Ye om rfl rfl) (Za rfl rfl (Zd rfl) (Ze ?_)))))))
     have lX := (aK.ch0 aX).ch0 av
     have lY := (aZ.ch0 aX).ch0 av
     have lZ := (a0.ch0 aX).ch0 av
     have l0 := fz.ch0 av
     have l1 := (a2.ch0 aX).ch0 av
     have l2 := fA.ch0 av
     have l3 := fB.ch0 av
     have l4 := fD.ch0 av
     have l5 := (a3.ch0 aX).ch0 av
     have l6 := fC.ch0 av
     exact Zb (Exists.intro ((q + 1), m) ⟨⟨E, om, om, (by subst hm; first | exact Zex (Ql ae om om) de aj | exact Zci (Ql ae om om) de aj | exact Zev (Zby ae om om)), lX, lY, lZ, l0, l1, l2, l3, l4, l5, l6⟩, sC8 rfl rfl rfl rfl rfl rfl rfl rfl (sC2 rfl rfl (sC1 rfl (Sub.nil _))), (by first | omega | (dsimp only; omega))⟩)
    have h4 := ae
    have ae := Yq ae
    refine Zo rfl rfl (Zo rfl rfl (Za rfl rfl (Xb rfl rfl) (Ze (Zb (h3 _ _ ?_)))))
    refine Zbj rfl ?_
    refine Zu ?_
    refine Zq (Zb (gI _ _ (Zc (Za rfl rfl (Zf rfl) (Za rfl rfl (Ye om rfl rfl) (Za rfl rfl (Zd rfl) (Ze ?_)))))))
    have l7 := (aK.ch0 aX).ch0 av
    have l8 := (aZ.ch0 aX).ch0 av
    have l9 := (a0.ch0 aX).ch0 av
    have ma := fz.ch0 av
    have mb := (a2.ch0 aX).ch0 av
    have mc := fA.ch0 av
    have md := fB.ch0 av
    have me := fD.ch0 av
    have mf := (a3.ch0 aX).ch0 av
    have mg := fC.ch0 av
    exact Zb (Exists.intro ((q + 1), m) ⟨⟨E, om, om, (by subst hm; first | exact Zex (Ql ae om om) de aj | exact Zci (Ql ae om om) de aj | exact Zev (Zby ae om om)), l7, l8, l9, ma, mb, mc, md, me, mf, mg⟩, sC8 rfl rfl rfl rfl rfl rfl rfl rfl (sC2 rfl rfl (sC1 rfl (Sub.nil _))), (by first | omega | (dsimp only; omega))⟩)
   have h2 := aU
   have aU := Yq aU
   refine Xc (Zt (Zt (Yx ?_)))
   refine Zb (lx _ _ ?_)
   refine Zg fun uL mh => ?_
   refine Zc (Za rfl rfl (Zd rfl) (Ze (Zb (mh _ _ ?_))))
   refine Yd ?_
   have fE : Ol PStep.cs 103 4 h1 (.slice Aov (psT gV gE aN node s i).length Cov) (psT gV gE aN node s i ++ psB l (afX aN b s l.letter) 0) := by
    have hx := a3
    simpa [Zlc] using hx
   have ap : m = ((afX aN b s l.letter : Nat) : Int) := by rw [hm, show q = aA.length by omega]; exact Zin hv om
   refine Xd (σ := Nat × Value) (fun ⟨k, pv⟩ => [(4, (.pointer (some ⟨dB, 0, none⟩))), (5, (.pointer (some ⟨dC, 0, none⟩))), (8, (.slice none 0 0)), (9, pv), (10, (.int .i64 ((cloR aN (6 + b) s : Nat) : Int))), (11, (.slice aH (stL gE node).length aI)), (12, (.int .i64 ((i : Nat) : Int))), (13, (.pointer (some ⟨aJ, 0, none⟩))), (14, (.int .i64 m)), (15, (.int .i64 ((q : Nat) : Int))), (17, (.int .i64 ((k : Nat) : Int))), (33, (.bool (decide (((i : Nat) : Int) < (((stL gE node).length : Nat) : Int))))), (51, (.bool (decide (((q : Nat) : Int) < ((aA.length : Nat) : Int)))))]) (fun ⟨k, pv⟩ wx => Ch [] w wx ∧ h1.heap.size ≤ wx.heap.size ∧ (k ≤ aA.length) ∧ Blk wx dB 36 [(.slice aM gV.length aO), (.slice aP gE.length aQ)] ∧ Ls ics 1 wx LL_gV w.heap.size (.slice aM gV.length aO) gV ∧ Ls GEdge.cs 4 wx LL_gE w.heap.size (.slice aP gE.length aQ) gE ∧ Blk wx dC 38 [(.int .i64 aS), (.slice aR aA.length aT), (.slice aq saN.length au)] ∧ Ls bcs 1 wx LL_aA w.heap.size (.slice aR aA.length aT) aA ∧ Ls Sv.cs 1 wx LL_saN w.heap.size (.slice aq saN.length au) saN ∧ Rd ics 1 wx LR_aN w.heap.size saN aN ∧ Ol GStp.cs 97 2 wx (.slice aH (stL gE node).length aI) (stL gE node) ∧ Blk wx aJ 129 [(.int .i64 o.id), (.int .i64 o.f), (.int .i64 o.t), (.int .i64 o.label)] ∧ Ol PStep.cs 103 4 wx pv (psT gV gE aN node s i ++ psB l (afX aN b s l.letter) k) ∧ Lo W3.heap.size pv ∧ (∀ g ∈ bl pv, g ∉ bl (.slice aH (stL gE node).length aI)) ∧ (aJ ∉ bl pv)) (fun ⟨k, pv⟩ => aA.length - k) (0, (.slice Aov (psT gV gE aN node s i).length Cov)) (sC8 rfl rfl rfl rfl rfl rfl rfl rfl (sC4 rfl rfl rfl rfl (sC1 rfl (Sub.nil _)))) ⟨E, (Nat.le_refl _), om, aK, aZ, a0, a1, a2, cp, cq, cr, a8, fE, a5, (fun g hm hg => by exact bc _ hm hg), (fun hm => by have C := a5 _ hm; have ay := hiov _ hm; omega)⟩ ?_
   rintro ⟨k, pv⟩ h6 ⟨E, hJ, rF, P, Y, Z, O, aa, ab, ac, a4, ba, Q, a, e, h⟩
   have eo := E
   have gl := eo.size
   have ep := P.lt
   have er := O.lt
   have es := ba.lt
   obtain ⟨Apv, Cpv, rfl, lpv, hipv⟩ := Q.opn
   refine Zg fun uM mi => ?_
   refine Zg fun uN mj => ?_
   refine Zc (Za rfl rfl (Zf rfl) (Za rfl rfl (Zh fa38_1 rfl) (Za rfl rfl (Zl O.at_ agg26 rfl rfl) (Za rfl rfl (Yz (by rw [el26]; rfl) rfl) (Za rfl rfl (Xh rfl rfl) (Ze (Zb (mj _ _ ?_))))))))
   refine Zz rfl (fun aW => ?_) (fun aW => ?_)
   ·have h7 := aW
    have aW := Yp aW
    refine Zu ?_
    refine Zb (mi _ _ ?_)
    refine Zg fun uO c9 => ?_
    refine Yd ?_
    refine Zg fun uP ml => ?_
    refine Zc (Za rfl rfl (Zf rfl) (Za rfl rfl (Zf rfl) (Za rfl rfl (Zea om rfl rfl) (Za rfl rfl (Zey rfl rfl) (Za rfl rfl (Zbv rfl rfl) (Ze (Zb (ml _ _ ?_))))))))
    refine Zz rfl (fun F => ?_) (fun F => ?_)
    ·have h8 := F
     have F := Yp F
     refine Xl (bl (.slice Apv (psT gV gE aN node s i ++ psB l (afX aN b s l.letter) k).length Cpv)) 17 mixed rfl fun aB I => ?_
     have sg := I.size
     have E := E.trans I
     refine dV 0 rfl rfl rfl (fun _ => Zf rfl) (dV 1 rfl rfl rfl (fun _ => Zf rfl) (dV 2 rfl rfl rfl (fun _ => Zf rfl) ?_))
     have da := ba.ch0 I
     refine dT 5 rfl rfl rfl (Yr da.at_ (fun i hm => by rcases Nat.lt_trichotomy i aJ with dA | dA | dA; (exact .inl dA); (exact absurd (dA ▸ hm) h); (exact .inr dA)) agg129 sz129 rfl ?_)
     refine dV 6 rfl rfl rfl (fun _ => Zf rfl) (dV 7 rfl rfl rfl (fun _ => Zf rfl) (dV 12 rfl rfl rfl (fun _ => Zf rfl) ?_))
     refine Yt 3 8 (by kernel_rfl) ?_ ?_
     ·refine Zk rfl rfl rfl ?_
      have dJ := a4.ch0 I
      refine (Yc dJ.ls GStp.len el133 sz97 rfl rfl rfl om fun c8 n an ak => ?_)
      have K := Zv an ai
      refine ⟨(Ch.refl _ _), ?_⟩
      refine Yt 4 8 (by kernel_rfl) ?_ ?_
      ·refine Zk rfl rfl rfl ?_
       refine s_v (Zs ak agg97 sz97 rfl) ?_
       refine ⟨(Ch.refl _ _), ?_⟩
       refine dO 8 (Zk rfl rfl rfl ?_)
       refine (Yc dJ.ls GStp.len el133 sz97 rfl rfl rfl om fun cu p ao al => ?_)
       have R := Zv ao ai
       refine ⟨(Ch.refl _ _), ?_⟩
       refine dV 9 rfl rfl rfl (fun _ => Zh fa97_1 rfl) (dO 10 (Zk rfl rfl rfl ?_))
       refine s_v (Zl al agg4 rfl rfl) ?_
       refine ⟨(Ch.refl _ _), ?_⟩
       refine dO 11 (Zk rfl rfl rfl ?_)
       refine Step.call (Zr (xs := [.tmp 98, .tmp 103]) fk101 rfl) (Yl o _ ) fun af mm G => ?_
       obtain ⟨rfl, bO⟩ := G
       have sh := bO.size
       have E := E.trans bO
       have eM : Ch (bl (.slice Apv (psT gV gE aN node s i ++ psB l (afX aN b s l.letter) k).length Cpv)) aB mm := ((Ch.refl _ _).trans bO.of_nil)
       refine ⟨eM, ?_⟩
       refine dV 13 rfl rfl rfl (fun _ => Yk (parts := [(0, .tmp 97), (1, .tmp 104), (2, .tmp 105)]) (cells := [(.int .i64 n.ed), (.bool n.bk), (.int .i64 (Yv o p.bk)), (.int .i64 ((k : Nat) : Int))]) zr103 pl103 rfl rfl) (dO 14 (Zk rfl rfl rfl ?_))
       refine Zm (cs := PStep.cs) (parts := [(0, .tmp 106)]) (⟨0, false, 0, 0⟩ : PStep) [(⟨n.ed, n.bk, Yv o p.bk, ((k : Nat) : Int)⟩ : PStep)] el32 sz103 zr103 PStep.len (by decide) rfl rfl rfl (by decide) (by decide) rfl fun ag mn A S bP => ?_
       have si := bP.size
       have E := E.trans bP
       obtain ⟨T, U, rfl, V, L⟩ := A.opn
       have eN : Ch (bl (.slice Apv (psT gV gE aN node s i ++ psB l (afX aN b s l.letter) k).length Cpv)) aB mn := (eM.trans bP.of_nil)
       refine ⟨eN, ?_⟩
       refine dO 15 (Zk rfl rfl rfl ?_)
       have mo := ((Q.ch0 I).ch0 bO).ch0 bP
       refine Zy (cs := PStep.cs) el32 sz103 by103 zr103 rfl (by decide) PStep.one mo A.ls rfl rfl (by have aD := Yj hg aN node s i; have aE := Ym l (afX aN b s l.letter) (k := k); simp only [List.length_append, List.length_singleton]; omega) (by have aD := Yj hg aN node s i; have aE := Ym l (afX aN b s l.letter) (k := k); simp only [List.length_append, List.length_singleton]; omega) a om fun ah h9 B D r cH => ?_
       have sj := cH.size
       have E := E.step cH (fun i hi => .inl (by have C := a _ hi; omega))
       obtain ⟨u, y, rfl, X, z⟩ := B.opn
       have gL : Ch (bl (.slice Apv (psT gV gE aN node s i ++ psB l (afX aN b s l.letter) k).length Cpv)) aB h9 := (eN.step cH (fun i hm => by exact .inr hm))
       refine ⟨gL, ?_⟩
       refine dV 16 rfl rfl rfl (fun _ => Zd rfl) ?_
       refine Zw (by kernel_rfl) ?_
       refine Zq (Zb (c9 _ _ (Zc (Za rfl rfl (Zf rfl) (Za rfl rfl (Ye om rfl rfl) (Za rfl rfl (Zd rfl) (Ze ?_)))))))
       have fF : Ol PStep.cs 103 4 h9 (.slice u ((psT gV gE aN node s i ++ psB l (afX aN b s l.letter) k ++ [(⟨n.ed, n.bk, Yv o p.bk, ((k : Nat) : Int)⟩ : PStep)])).length y) (psT gV gE aN node s i ++ psB l (afX aN b s l.letter) (k + 1)) := by
        have hx := B
        first | exact hx.eq (Xf (Xn ap F om om) (by rw [K, am.1]) (by rw [K, am.2]) (by rw [R, a6.2])) | exact hx.eq (Xe (Xm ap F om om))
       have mp := (((P.ch0 I).ch0 bO).ch0 bP).ch cH (fun hm => by have C := a _ hm; have ay := hipv _ hm; omega)
       have mq := (((Y.ch0 I).ch0 bO).ch0 bP).ch cH (fun i hi => by have C := a _ hi; omega)
       have mr := (((Z.ch0 I).ch0 bO).ch0 bP).ch cH (fun i hi => by have C := a _ hi; omega)
       have ms := (((O.ch0 I).ch0 bO).ch0 bP).ch cH (fun hm => by have C := a _ hm; have ay := hipv _ hm; omega)
       have mt := (((aa.ch0 I).ch0 bO).ch0 bP).ch cH (fun i hi => by have C := a _ hi; omega)
       have mu := (((ab.ch0 I).ch0 bO).ch0 bP).ch cH (fun i hi => by have C := a _ hi; omega)
       have mv := (((ac.ch0 I).ch0 bO).ch0 bP).ch cH (fun i hi => by have C := a _ hi; omega)
       have mw := ((dJ.ch0 bO).ch0 bP).ch cH (fun g hg hm => by exact e _ hm hg)
       have mx := ((da.ch0 bO).ch0 bP).ch cH (fun hm => by exact h (by first | exact hm | exact ax ▸ hm))
       exact Zb (Exists.intro ((k + 1), (.slice u ((psT gV gE aN node s i ++ psB l (afX aN b s l.letter) k ++ [(⟨n.ed, n.bk, Yv o p.bk, ((k : Nat) : Int)⟩ : PStep)])).length y)) ⟨⟨E, om, om, mp, mq, mr, ms, mt, mu, mv, mw, mx, fF, (Lo.down D om), (fun g hm hg => by rcases r with ea | ea; (rw [ea] at hm; exact e _ hm hg); (have aF := z _ hm; rw [ea] at hm; have aG := List.mem_singleton.1 hm; have bd := ad _ hg; have be := M _ hg; omega)), (fun hm => by rcases r with ea | ea; (rw [ea] at hm; exact h (by first | exact hm | exact ax ▸ hm)); (rw [ea] at hm; have aG := List.mem_singleton.1 hm; omega))⟩, sC8 rfl rfl rfl rfl rfl rfl rfl rfl (sC4 rfl rfl rfl rfl (sC1 rfl (Sub.nil _))), (by first | omega | (dsimp only; omega))⟩)
      refine Zk rfl rfl rfl ?_
      refine (Yc dJ.ls GStp.len el133 sz97 rfl rfl rfl om fun cu p ao al => ?_)
      have R := Zv ao ai
      refine ⟨(Ch.refl _ _), ?_⟩
      refine dV 9 rfl rfl rfl (fun _ => Zh fa97_1 rfl) ?_
      refine Yt 4 10 (by kernel_rfl) ?_ ?_
      ·refine Zk rfl rfl rfl ?_
       refine s_v (Zs ak agg97 sz97 rfl) ?_
       refine ⟨(Ch.refl _ _), ?_⟩
       refine dO 10 (Zk rfl rfl rfl ?_)
       refine s_v (Zl al agg4 rfl rfl) ?_
       refine ⟨(Ch.refl _ _), ?_⟩
       refine dO 11 (Zk rfl rfl rfl ?_)
       refine Step.call (Zr (xs := [.tmp 98, .tmp 103]) fk101 rfl) (Yl o _ ) fun af my G => ?_
       obtain ⟨rfl, bQ⟩ := G
       have sk := bQ.size
       have E := E.trans bQ
       have eO : Ch (bl (.slice Apv (psT gV gE aN node s i ++ psB l (afX aN b s l.letter) k).length Cpv)) aB my := ((Ch.refl _ _).trans bQ.of_nil)
       refine ⟨eO, ?_⟩
       refine dV 13 rfl rfl rfl (fun _ => Yk (parts := [(0, .tmp 97), (1, .tmp 104), (2, .tmp 105)]) (cells := [(.int .i64 n.ed), (.bool n.bk), (.int .i64 (Yv o p.bk)), (.int .i64 ((k : Nat) : Int))]) zr103 pl103 rfl rfl) (dO 14 (Zk rfl rfl rfl ?_))
       refine Zm (cs := PStep.cs) (parts := [(0, .tmp 106)]) (⟨0, false, 0, 0⟩ : PStep) [(⟨n.ed, n.bk, Yv o p.bk, ((k : Nat) : Int)⟩ : PStep)] el32 sz103 zr103 PStep.len (by decide) rfl rfl rfl (by decide) (by decide) rfl fun ag mz A S bR => ?_
       have sm := bR.size
       have E := E.trans bR
       obtain ⟨T, U, rfl, V, L⟩ := A.opn
       have eP : Ch (bl (.slice Apv (psT gV gE aN node s i ++ psB l (afX aN b s l.letter) k).length Cpv)) aB mz := (eO.trans bR.of_nil)
       refine ⟨eP, ?_⟩
       refine dO 15 (Zk rfl rfl rfl ?_)
       have mA := ((Q.ch0 I).ch0 bQ).ch0 bR
       refine Zy (cs := PStep.cs) el32 sz103 by103 zr103 rfl (by decide) PStep.one mA A.ls rfl rfl (by have aD := Yj hg aN node s i; have aE := Ym l (afX aN b s l.letter) (k := k); simp only [List.length_append, List.length_singleton]; omega) (by have aD := Yj hg aN node s i; have aE := Ym l (afX aN b s l.letter) (k := k); simp only [List.length_append, List.length_singleton]; omega) a om fun ah ia B D r cI => ?_
       have sn := cI.size
       have E := E.step cI (fun i hi => .inl (by have C := a _ hi; omega))
       obtain ⟨u, y, rfl, X, z⟩ := B.opn
       have gM : Ch (bl (.slice Apv (psT gV gE aN node s i ++ psB l (afX aN b s l.letter) k).length Cpv)) aB ia := (eP.step cI (fun i hm => by exact .inr hm))
       refine ⟨gM, ?_⟩
       refine dV 16 rfl rfl rfl (fun _ => Zd rfl) ?_
       refine Zw (by kernel_rfl) ?_
       refine Zq (Zb (c9 _ _ (Zc (Za rfl rfl (Zf rfl) (Za rfl rfl (Ye om rfl rfl) (Za rfl rfl (Zd rfl) (Ze ?_)))))))
       have fG : Ol PStep.cs 103 4 ia (.slice u ((psT gV gE aN node s i ++ psB l (afX aN b s l.letter) k ++ [(⟨n.ed, n.bk, Yv o p.bk, ((k : Nat) : Int)⟩ : PStep)])).length y) (psT gV gE aN node s i ++ psB l (afX aN b s l.letter) (k + 1)) := by
        have hx := B
        first | exact hx.eq (Xf (Xn ap F om om) (by rw [K, am.1]) (by rw [K, am.2]) (by rw [R, a6.2])) | exact hx.eq (Xe (Xm ap F om om))
       have mB := (((P.ch0 I).ch0 bQ).ch0 bR).ch cI (fun hm => by have C := a _ hm; have ay := hipv _ hm; omega)
       have mC := (((Y.ch0 I).ch0 bQ).ch0 bR).ch cI (fun i hi => by have C := a _ hi; omega)
       have mD := (((Z.ch0 I).ch0 bQ).ch0 bR).ch cI (fun i hi => by have C := a _ hi; omega)
       have mE := (((O.ch0 I).ch0 bQ).ch0 bR).ch cI (fun hm => by have C := a _ hm; have ay := hipv _ hm; omega)
       have mF := (((aa.ch0 I).ch0 bQ).ch0 bR).ch cI (fun i hi => by have C := a _ hi; omega)
       have mG := (((ab.ch0 I).ch0 bQ).ch0 bR).ch cI (fun i hi => by have C := a _ hi; omega)
       have mH := (((ac.ch0 I).ch0 bQ).ch0 bR).ch cI (fun i hi => by have C := a _ hi; omega)
       have mI := ((dJ.ch0 bQ).ch0 bR).ch cI (fun g hg hm => by exact e _ hm hg)
       have mJ := ((da.ch0 bQ).ch0 bR).ch cI (fun hm => by exact h (by first | exact hm | exact ax ▸ hm))
       exact Zb (Exists.intro ((k + 1), (.slice u ((psT gV gE aN node s i ++ psB l (afX aN b s l.letter) k ++ [(⟨n.ed, n.bk, Yv o p.bk, ((k : Nat) : Int)⟩ : PStep)])).length y)) ⟨⟨E, om, om, mB, mC, mD, mE, mF, mG, mH, mI, mJ, fG, (Lo.down D om), (fun g hm hg => by rcases r with ea | ea; (rw [ea] at hm; exact e _ hm hg); (have aF := z _ hm; rw [ea] at hm; have aG := List.mem_singleton.1 hm; have bd := ad _ hg; have be := M _ hg; omega)), (fun hm => by rcases r with ea | ea; (rw [ea] at hm; exact h (by first | exact hm | exact ax ▸ hm)); (rw [ea] at hm; have aG := List.mem_singleton.1 hm; omega))⟩, sC8 rfl rfl rfl rfl rfl rfl rfl rfl (sC4 rfl rfl rfl rfl (sC1 rfl (Sub.nil _))), (by first | omega | (dsimp only; omega))⟩)
      refine Zk rfl rfl rfl ?_
      refine s_v (Zl al agg4 rfl rfl) ?_
      refine ⟨(Ch.refl _ _), ?_⟩
      refine Yt 4 11 (by kernel_rfl) ?_ ?_
      ·refine Zk rfl rfl rfl ?_
       refine s_v (Zs ak agg97 sz97 rfl) ?_
       refine ⟨(Ch.refl _ _), ?_⟩
       refine dO 11 (Zk rfl rfl rfl ?_)
       refine Step.call (Zr (xs := [.tmp 98, .tmp 103]) fk101 rfl) (Yl o _ ) fun af mK G => ?_
       obtain ⟨rfl, bS⟩ := G
       have so := bS.size
       have E := E.trans bS
       have eQ : Ch (bl (.slice Apv (psT gV gE aN node s i ++ psB l (afX aN b s l.letter) k).length Cpv)) aB mK := ((Ch.refl _ _).trans bS.of_nil)
       refine ⟨eQ, ?_⟩
       refine dV 13 rfl rfl rfl (fun _ => Yk (parts := [(0, .tmp 97), (1, .tmp 104), (2, .tmp 105)]) (cells := [(.int .i64 n.ed), (.bool n.bk), (.int .i64 (Yv o p.bk)), (.int .i64 ((k : Nat) : Int))]) zr103 pl103 rfl rfl) (dO 14 (Zk rfl rfl rfl ?_))
       refine Zm (cs := PStep.cs) (parts := [(0, .tmp 106)]) (⟨0, false, 0, 0⟩ : PStep) [(⟨n.ed, n.bk, Yv o p.bk, ((k : Nat) : Int)⟩ : PStep)] el32 sz103 zr103 PStep.len (by decide) rfl rfl rfl (by decide) (by decide) rfl fun ag mL A S bT => ?_
       have sp := bT.size
       have E := E.trans bT
       obtain ⟨T, U, rfl, V, L⟩ := A.opn
       have eR : Ch (bl (.slice Apv (psT gV gE aN node s i ++ psB l (afX aN b s l.letter) k).length Cpv)) aB mL := (eQ.trans bT.of_nil)
       refine ⟨eR, ?_⟩
       refine dO 15 (Zk rfl rfl rfl ?_)
       have mM := ((Q.ch0 I).ch0 bS).ch0 bT
       refine Zy (cs := PStep.cs) el32 sz103 by103 zr103 rfl (by decide) PStep.one mM A.ls rfl rfl (by have aD := Yj hg aN node s i; have aE := Ym l (afX aN b s l.letter) (k := k); simp only [List.length_append, List.length_singleton]; omega) (by have aD := Yj hg aN node s i; have aE := Ym l (afX aN b s l.letter) (k := k); simp only [List.length_append, List.length_singleton]; omega) a om fun ah ib B D r cJ => ?_
       have sq := cJ.size
       have E := E.step cJ (fun i hi => .inl (by have C := a _ hi; omega))
       obtain ⟨u, y, rfl, X, z⟩ := B.opn
       have gN : Ch (bl (.slice Apv (psT gV gE aN node s i ++ psB l (afX aN b s l.letter) k).length Cpv)) aB ib := (eR.step cJ (fun i hm => by exact .inr hm))
       refine ⟨gN, ?_⟩
       refine dV 16 rfl rfl rfl (fun _ => Zd rfl) ?_
       refine Zw (by kernel_rfl) ?_
       refine Zq (Zb (c9 _ _ (Zc (Za rfl rfl (Zf rfl) (Za rfl rfl (Ye om rfl rfl) (Za rfl rfl (Zd rfl) (Ze ?_)))))))
       have fH : Ol PStep.cs 103 4 ib (.slice u ((psT gV gE aN node s i ++ psB l (afX aN b s l.letter) k ++ [(⟨n.ed, n.bk, Yv o p.bk, ((k : Nat) : Int)⟩ : PStep)])).length y) (psT gV gE aN node s i ++ psB l (afX aN b s l.letter) (k + 1)) := by
        have hx := B
        first | exact hx.eq (Xf (Xn ap F om om) (by rw [K, am.1]) (by rw [K, am.2]) (by rw [R, a6.2])) | exact hx.eq (Xe (Xm ap F om om))
       have mN := (((P.ch0 I).ch0 bS).ch0 bT).ch cJ (fun hm => by have C := a _ hm; have ay := hipv _ hm; omega)
       have mO := (((Y.ch0 I).ch0 bS).ch0 bT).ch cJ (fun i hi => by have C := a _ hi; omega)
       have mP := (((Z.ch0 I).ch0 bS).ch0 bT).ch cJ (fun i hi => by have C := a _ hi; omega)
       have mQ := (((O.ch0 I).ch0 bS).ch0 bT).ch cJ (fun hm => by have C := a _ hm; have ay := hipv _ hm; omega)
       have mR := (((aa.ch0 I).ch0 bS).ch0 bT).ch cJ (fun i hi => by have C := a _ hi; omega)
       have mS := (((ab.ch0 I).ch0 bS).ch0 bT).ch cJ (fun i hi => by have C := a _ hi; omega)
       have mT := (((ac.ch0 I).ch0 bS).ch0 bT).ch cJ (fun i hi => by have C := a _ hi; omega)
       have mU := ((dJ.ch0 bS).ch0 bT).ch cJ (fun g hg hm => by exact e _ hm hg)
       have mV := ((da.ch0 bS).ch0 bT).ch cJ (fun hm => by exact h (by first | exact hm | exact ax ▸ hm))
       exact Zb (Exists.intro ((k + 1), (.slice u ((psT gV gE aN node s i ++ psB l (afX aN b s l.letter) k ++ [(⟨n.ed, n.bk, Yv o p.bk, ((k : Nat) : Int)⟩ : PStep)])).length y)) ⟨⟨E, om, om, mN, mO, mP, mQ, mR, mS, mT, mU, mV, fH, (Lo.down D om), (fun g hm hg => by rcases r with ea | ea; (rw [ea] at hm; exact e _ hm hg); (have aF := z _ hm; rw [ea] at hm; have aG := List.mem_singleton.1 hm; have bd := ad _ hg; have be := M _ hg; omega)), (fun hm => by rcases r with ea | ea; (rw [ea] at hm; exact h (by first | exact hm | exact ax ▸ hm)); (rw [ea] at hm; have aG := List.mem_singleton.1 hm; omega))⟩, sC8 rfl rfl rfl rfl rfl rfl rfl rfl (sC4 rfl rfl rfl rfl (sC1 rfl (Sub.nil _))), (by first | omega | (dsimp only; omega))⟩)
      refine Zk rfl rfl rfl ?_
      refine Step.call (Zr (xs := [.tmp 98, .tmp 103]) fk101 rfl) (Yl o _ ) fun af mW G => ?_
      obtain ⟨rfl, bj⟩ := G
      have sr := bj.size
      have E := E.trans bj
      have dL : Ch (bl (.slice Apv (psT gV gE aN node s i ++ psB l (afX aN b s l.letter) k).length Cpv)) aB mW := ((Ch.refl _ _).trans bj.of_nil)
      refine ⟨dL, ?_⟩
      refine dO 4 (Zk rfl rfl rfl ?_)
      have mX := ak.ch0 bj
      refine s_v (Zs mX agg97 sz97 rfl) ?_
      refine ⟨dL, ?_⟩
      refine dV 13 rfl rfl rfl (fun _ => Yk (parts := [(0, .tmp 97), (1, .tmp 104), (2, .tmp 105)]) (cells := [(.int .i64 n.ed), (.bool n.bk), (.int .i64 (Yv o p.bk)), (.int .i64 ((k : Nat) : Int))]) zr103 pl103 rfl rfl) (dO 14 (Zk rfl rfl rfl ?_))
      refine Zm (cs := PStep.cs) (parts := [(0, .tmp 106)]) (⟨0, false, 0, 0⟩ : PStep) [(⟨n.ed, n.bk, Yv o p.bk, ((k : Nat) : Int)⟩ : PStep)] el32 sz103 zr103 PStep.len (by decide) rfl rfl rfl (by decide) (by decide) rfl fun ag mY A S bU => ?_
      have ss := bU.size
      have E := E.trans bU
      obtain ⟨T, U, rfl, V, L⟩ := A.opn
      have eS : Ch (bl (.slice Apv (psT gV gE aN node s i ++ psB l (afX aN b s l.letter) k).length Cpv)) aB mY := (dL.trans bU.of_nil)
      refine ⟨eS, ?_⟩
      refine dO 15 (Zk rfl rfl rfl ?_)
      have mZ := ((Q.ch0 I).ch0 bj).ch0 bU
      refine Zy (cs := PStep.cs) el32 sz103 by103 zr103 rfl (by decide) PStep.one mZ A.ls rfl rfl (by have aD := Yj hg aN node s i; have aE := Ym l (afX aN b s l.letter) (k := k); simp only [List.length_append, List.length_singleton]; omega) (by have aD := Yj hg aN node s i; have aE := Ym l (afX aN b s l.letter) (k := k); simp only [List.length_append, List.length_singleton]; omega) a om fun ah ic B D r cK => ?_
      have st := cK.size
      have E := E.step cK (fun i hi => .inl (by have C := a _ hi; omega))
      obtain ⟨u, y, rfl, X, z⟩ := B.opn
      have gO : Ch (bl (.slice Apv (psT gV gE aN node s i ++ psB l (afX aN b s l.letter) k).length Cpv)) aB ic := (eS.step cK (fun i hm => by exact .inr hm))
      refine ⟨gO, ?_⟩
      refine dV 16 rfl rfl rfl (fun _ => Zd rfl) ?_
      refine Zw (by kernel_rfl) ?_
      refine Zq (Zb (c9 _ _ (Zc (Za rfl rfl (Zf rfl) (Za rfl rfl (Ye om rfl rfl) (Za rfl rfl (Zd rfl) (Ze ?_)))))))
      have fI : Ol PStep.cs 103 4 ic (.slice u ((psT gV gE aN node s i ++ psB l (afX aN b s l.letter) k ++ [(⟨n.ed, n.bk, Yv o p.bk, ((k : Nat) : Int)⟩ : PStep)])).length y) (psT gV gE aN node s i ++ psB l (afX aN b s l.letter) (k + 1)) := by
       have hx := B
       first | exact hx.eq (Xf (Xn ap F om om) (by rw [K, am.1]) (by rw [K, am.2]) (by rw [R, a6.2])) | exact hx.eq (Xe (Xm ap F om om))
      have m0 := (((P.ch0 I).ch0 bj).ch0 bU).ch cK (fun hm => by have C := a _ hm; have ay := hipv _ hm; omega)
      have m1 := (((Y.ch0 I).ch0 bj).ch0 bU).ch cK (fun i hi => by have C := a _ hi; omega)
      have m2 := (((Z.ch0 I).ch0 bj).ch0 bU).ch cK (fun i hi => by have C := a _ hi; omega)
      have m3 := (((O.ch0 I).ch0 bj).ch0 bU).ch cK (fun hm => by have C := a _ hm; have ay := hipv _ hm; omega)
      have m4 := (((aa.ch0 I).ch0 bj).ch0 bU).ch cK (fun i hi => by have C := a _ hi; omega)
      have m5 := (((ab.ch0 I).ch0 bj).ch0 bU).ch cK (fun i hi => by have C := a _ hi; omega)
      have m6 := (((ac.ch0 I).ch0 bj).ch0 bU).ch cK (fun i hi => by have C := a _ hi; omega)
      have m7 := ((dJ.ch0 bj).ch0 bU).ch cK (fun g hg hm => by exact e _ hm hg)
      have m8 := ((da.ch0 bj).ch0 bU).ch cK (fun hm => by exact h (by first | exact hm | exact ax ▸ hm))
      exact Zb (Exists.intro ((k + 1), (.slice u ((psT gV gE aN node s i ++ psB l (afX aN b s l.letter) k ++ [(⟨n.ed, n.bk, Yv o p.bk, ((k : Nat) : Int)⟩ : PStep)])).length y)) ⟨⟨E, om, om, m0, m1, m2, m3, m4, m5, m6, m7, m8, fI, (Lo.down D om), (fun g hm hg => by rcases r with ea | ea; (rw [ea] at hm; exact e _ hm hg); (have aF := z _ hm; rw [ea] at hm; have aG := List.mem_singleton.1 hm; have bd := ad _ hg; have be := M _ hg; omega)), (fun hm => by rcases r with ea | ea; (rw [ea] at hm; exact h (by first | exact hm | exact ax ▸ hm)); (rw [ea] at hm; have aG := List.mem_singleton.1 hm; omega))⟩, sC8 rfl rfl rfl rfl rfl rfl rfl rfl (sC4 rfl rfl rfl rfl (sC1 rfl (Sub.nil _))), (by first | omega | (dsimp only; omega))⟩)
     refine Zk rfl rfl rfl ?_
     have dj := a4.ch0 I
     refine (Yc dj.ls GStp.len el133 sz97 rfl rfl rfl om fun cu p ao al => ?_)
     have R := Zv ao ai
     refine ⟨(Ch.refl _ _), ?_⟩
     refine dV 9 rfl rfl rfl (fun _ => Zh fa97_1 rfl) ?_
     refine Yt 3 10 (by kernel_rfl) ?_ ?_
     ·refine Zk rfl rfl rfl ?_
      refine (Yc dj.ls GStp.len el133 sz97 rfl rfl rfl om fun c8 n an ak => ?_)
      have K := Zv an ai
      refine ⟨(Ch.refl _ _), ?_⟩
      refine Yt 4 10 (by kernel_rfl) ?_ ?_
      ·refine Zk rfl rfl rfl ?_
       refine s_v (Zs ak agg97 sz97 rfl) ?_
       refine ⟨(Ch.refl _ _), ?_⟩
       refine dO 10 (Zk rfl rfl rfl ?_)
       refine s_v (Zl al agg4 rfl rfl) ?_
       refine ⟨(Ch.refl _ _), ?_⟩
       refine dO 11 (Zk rfl rfl rfl ?_)
       refine Step.call (Zr (xs := [.tmp 98, .tmp 103]) fk101 rfl) (Yl o _ ) fun af m9 G => ?_
       obtain ⟨rfl, bV⟩ := G
       have su := bV.size
       have E := E.trans bV
       have eT : Ch (bl (.slice Apv (psT gV gE aN node s i ++ psB l (afX aN b s l.letter) k).length Cpv)) aB m9 := ((Ch.refl _ _).trans bV.of_nil)
       refine ⟨eT, ?_⟩
       refine dV 13 rfl rfl rfl (fun _ => Yk (parts := [(0, .tmp 97), (1, .tmp 104), (2, .tmp 105)]) (cells := [(.int .i64 n.ed), (.bool n.bk), (.int .i64 (Yv o p.bk)), (.int .i64 ((k : Nat) : Int))]) zr103 pl103 rfl rfl) (dO 14 (Zk rfl rfl rfl ?_))
       refine Zm (cs := PStep.cs) (parts := [(0, .tmp 106)]) (⟨0, false, 0, 0⟩ : PStep) [(⟨n.ed, n.bk, Yv o p.bk, ((k : Nat) : Int)⟩ : PStep)] el32 sz103 zr103 PStep.len (by decide) rfl rfl rfl (by decide) (by decide) rfl fun ag na A S bW => ?_
       have sv := bW.size
       have E := E.trans bW
       obtain ⟨T, U, rfl, V, L⟩ := A.opn
       have eU : Ch (bl (.slice Apv (psT gV gE aN node s i ++ psB l (afX aN b s l.letter) k).length Cpv)) aB na := (eT.trans bW.of_nil)
       refine ⟨eU, ?_⟩
       refine dO 15 (Zk rfl rfl rfl ?_)
       have nb := ((Q.ch0 I).ch0 bV).ch0 bW
       refine Zy (cs := PStep.cs) el32 sz103 by103 zr103 rfl (by decide) PStep.one nb A.ls rfl rfl (by have aD := Yj hg aN node s i; have aE := Ym l (afX aN b s l.letter) (k := k); simp only [List.length_append, List.length_singleton]; omega) (by have aD := Yj hg aN node s i; have aE := Ym l (afX aN b s l.letter) (k := k); simp only [List.length_append, List.length_singleton]; omega) a om fun ah ie B D r cL => ?_
       have sw := cL.size
       have E := E.step cL (fun i hi => .inl (by have C := a _ hi; omega))
       obtain ⟨u, y, rfl, X, z⟩ := B.opn
       have gP : Ch (bl (.slice Apv (psT gV gE aN node s i ++ psB l (afX aN b s l.letter) k).length Cpv)) aB ie := (eU.step cL (fun i hm => by exact .inr hm))
       refine ⟨gP, ?_⟩
       refine dV 16 rfl rfl rfl (fun _ => Zd rfl) ?_
       refine Zw (by kernel_rfl) ?_
       refine Zq (Zb (c9 _ _ (Zc (Za rfl rfl (Zf rfl) (Za rfl rfl (Ye om rfl rfl) (Za rfl rfl (Zd rfl) (Ze ?_)))))))
       have fJ : Ol PStep.cs 103 4 ie (.slice u ((psT gV gE aN node s i ++ psB l (afX aN b s l.letter) k ++ [(⟨n.ed, n.bk, Yv o p.bk, ((k : Nat) : Int)⟩ : PStep)])).length y) (psT gV gE aN node s i ++ psB l (afX aN b s l.letter) (k + 1)) := by
        have hx := B
        first | exact hx.eq (Xf (Xn ap F om om) (by rw [K, am.1]) (by rw [K, am.2]) (by rw [R, a6.2])) | exact hx.eq (Xe (Xm ap F om om))
       have nc := (((P.ch0 I).ch0 bV).ch0 bW).ch cL (fun hm => by have C := a _ hm; have ay := hipv _ hm; omega)
       have nd := (((Y.ch0 I).ch0 bV).ch0 bW).ch cL (fun i hi => by have C := a _ hi; omega)
       have nf := (((Z.ch0 I).ch0 bV).ch0 bW).ch cL (fun i hi => by have C := a _ hi; omega)
       have ng := (((O.ch0 I).ch0 bV).ch0 bW).ch cL (fun hm => by have C := a _ hm; have ay := hipv _ hm; omega)
       have nh := (((aa.ch0 I).ch0 bV).ch0 bW).ch cL (fun i hi => by have C := a _ hi; omega)
       have ni := (((ab.ch0 I).ch0 bV).ch0 bW).ch cL (fun i hi => by have C := a _ hi; omega)
       have nj := (((ac.ch0 I).ch0 bV).ch0 bW).ch cL (fun i hi => by have C := a _ hi; omega)
       have nk := ((dj.ch0 bV).ch0 bW).ch cL (fun g hg hm => by exact e _ hm hg)
       have nl := ((da.ch0 bV).ch0 bW).ch cL (fun hm => by exact h (by first | exact hm | exact ax ▸ hm))
       exact Zb (Exists.intro ((k + 1), (.slice u ((psT gV gE aN node s i ++ psB l (afX aN b s l.letter) k ++ [(⟨n.ed, n.bk, Yv o p.bk, ((k : Nat) : Int)⟩ : PStep)])).length y)) ⟨⟨E, om, om, nc, nd, nf, ng, nh, ni, nj, nk, nl, fJ, (Lo.down D om), (fun g hm hg => by rcases r with ea | ea; (rw [ea] at hm; exact e _ hm hg); (have aF := z _ hm; rw [ea] at hm; have aG := List.mem_singleton.1 hm; have bd := ad _ hg; have be := M _ hg; omega)), (fun hm => by rcases r with ea | ea; (rw [ea] at hm; exact h (by first | exact hm | exact ax ▸ hm)); (rw [ea] at hm; have aG := List.mem_singleton.1 hm; omega))⟩, sC8 rfl rfl rfl rfl rfl rfl rfl rfl (sC4 rfl rfl rfl rfl (sC1 rfl (Sub.nil _))), (by first | omega | (dsimp only; omega))⟩)
      refine Zk rfl rfl rfl ?_
      refine s_v (Zl al agg4 rfl rfl) ?_
      refine ⟨(Ch.refl _ _), ?_⟩
      refine Yt 4 11 (by kernel_rfl) ?_ ?_
      ·refine Zk rfl rfl rfl ?_
       refine s_v (Zs ak agg97 sz97 rfl) ?_
       refine ⟨(Ch.refl _ _), ?_⟩
       refine dO 11 (Zk rfl rfl rfl ?_)
       refine Step.call (Zr (xs := [.tmp 98, .tmp 103]) fk101 rfl) (Yl o _ ) fun af nm G => ?_
       obtain ⟨rfl, bX⟩ := G
       have sx := bX.size
       have E := E.trans bX
       have eV : Ch (bl (.slice Apv (psT gV gE aN node s i ++ psB l (afX aN b s l.letter) k).length Cpv)) aB nm := ((Ch.refl _ _).trans bX.of_nil)
       refine ⟨eV, ?_⟩
       refine dV 13 rfl rfl rfl (fun _ => Yk (parts := [(0, .tmp 97), (1, .tmp 104), (2, .tmp 105)]) (cells := [(.int .i64 n.ed), (.bool n.bk), (.int .i64 (Yv o p.bk)), (.int .i64 ((k : Nat) : Int))]) zr103 pl103 rfl rfl) (dO 14 (Zk rfl rfl rfl ?_))
       refine Zm (cs := PStep.cs) (parts := [(0, .tmp 106)]) (⟨0, false, 0, 0⟩ : PStep) [(⟨n.ed, n.bk, Yv o p.bk, ((k : Nat) : Int)⟩ : PStep)] el32 sz103 zr103 PStep.len (by decide) rfl rfl rfl (by decide) (by decide) rfl fun ag nn A S bY => ?_
       have sy := bY.size
       have E := E.trans bY
       obtain ⟨T, U, rfl, V, L⟩ := A.opn
       have eW : Ch (bl (.slice Apv (psT gV gE aN node s i ++ psB l (afX aN b s l.letter) k).length Cpv)) aB nn := (eV.trans bY.of_nil)
       refine ⟨eW, ?_⟩
       refine dO 15 (Zk rfl rfl rfl ?_)
       have no := ((Q.ch0 I).ch0 bX).ch0 bY
       refine Zy (cs := PStep.cs) el32 sz103 by103 zr103 rfl (by decide) PStep.one no A.ls rfl rfl (by have aD := Yj hg aN node s i; have aE := Ym l (afX aN b s l.letter) (k := k); simp only [List.length_append, List.length_singleton]; omega) (by have aD := Yj hg aN node s i; have aE := Ym l (afX aN b s l.letter) (k := k); simp only [List.length_append, List.length_singleton]; omega) a om fun ah ig B D r cM => ?_
       have sA := cM.size
       have E := E.step cM (fun i hi => .inl (by have C := a _ hi; omega))
       obtain ⟨u, y, rfl, X, z⟩ := B.opn
       have gQ : Ch (bl (.slice Apv (psT gV gE aN node s i ++ psB l (afX aN b s l.letter) k).length Cpv)) aB ig := (eW.step cM (fun i hm => by exact .inr hm))
       refine ⟨gQ, ?_⟩
       refine dV 16 rfl rfl rfl (fun _ => Zd rfl) ?_
       refine Zw (by kernel_rfl) ?_
       refine Zq (Zb (c9 _ _ (Zc (Za rfl rfl (Zf rfl) (Za rfl rfl (Ye om rfl rfl) (Za rfl rfl (Zd rfl) (Ze ?_)))))))
       have fK : Ol PStep.cs 103 4 ig (.slice u ((psT gV gE aN node s i ++ psB l (afX aN b s l.letter) k ++ [(⟨n.ed, n.bk, Yv o p.bk, ((k : Nat) : Int)⟩ : PStep)])).length y) (psT gV gE aN node s i ++ psB l (afX aN b s l.letter) (k + 1)) := by
        have hx := B
        first | exact hx.eq (Xf (Xn ap F om om) (by rw [K, am.1]) (by rw [K, am.2]) (by rw [R, a6.2])) | exact hx.eq (Xe (Xm ap F om om))
       have np := (((P.ch0 I).ch0 bX).ch0 bY).ch cM (fun hm => by have C := a _ hm; have ay := hipv _ hm; omega)
       have nq := (((Y.ch0 I).ch0 bX).ch0 bY).ch cM (fun i hi => by have C := a _ hi; omega)
       have nr := (((Z.ch0 I).ch0 bX).ch0 bY).ch cM (fun i hi => by have C := a _ hi; omega)
       have ns := (((O.ch0 I).ch0 bX).ch0 bY).ch cM (fun hm => by have C := a _ hm; have ay := hipv _ hm; omega)
       have nt := (((aa.ch0 I).ch0 bX).ch0 bY).ch cM (fun i hi => by have C := a _ hi; omega)
       have nu := (((ab.ch0 I).ch0 bX).ch0 bY).ch cM (fun i hi => by have C := a _ hi; omega)
       have nv := (((ac.ch0 I).ch0 bX).ch0 bY).ch cM (fun i hi => by have C := a _ hi; omega)
       have nw := ((dj.ch0 bX).ch0 bY).ch cM (fun g hg hm => by exact e _ hm hg)
       have nx := ((da.ch0 bX).ch0 bY).ch cM (fun hm => by exact h (by first | exact hm | exact ax ▸ hm))
       exact Zb (Exists.intro ((k + 1), (.slice u ((psT gV gE aN node s i ++ psB l (afX aN b s l.letter) k ++ [(⟨n.ed, n.bk, Yv o p.bk, ((k : Nat) : Int)⟩ : PStep)])).length y)) ⟨⟨E, om, om, np, nq, nr, ns, nt, nu, nv, nw, nx, fK, (Lo.down D om), (fun g hm hg => by rcases r with ea | ea; (rw [ea] at hm; exact e _ hm hg); (have aF := z _ hm; rw [ea] at hm; have aG := List.mem_singleton.1 hm; have bd := ad _ hg; have be := M _ hg; omega)), (fun hm => by rcases r with ea | ea; (rw [ea] at hm; exact h (by first | exact hm | exact ax ▸ hm)); (rw [ea] at hm; have aG := List.mem_singleton.1 hm; omega))⟩, sC8 rfl rfl rfl rfl rfl rfl rfl rfl (sC4 rfl rfl rfl rfl (sC1 rfl (Sub.nil _))), (by first | omega | (dsimp only; omega))⟩)
      refine Zk rfl rfl rfl ?_
      refine Step.call (Zr (xs := [.tmp 98, .tmp 103]) fk101 rfl) (Yl o _ ) fun af ny G => ?_
      obtain ⟨rfl, bm⟩ := G
      have sB := bm.size
      have E := E.trans bm
      have dM : Ch (bl (.slice Apv (psT gV gE aN node s i ++ psB l (afX aN b s l.letter) k).length Cpv)) aB ny := ((Ch.refl _ _).trans bm.of_nil)
      refine ⟨dM, ?_⟩
      refine dO 4 (Zk rfl rfl rfl ?_)
      have nz := ak.ch0 bm
      refine s_v (Zs nz agg97 sz97 rfl) ?_
      refine ⟨dM, ?_⟩
      refine dV 13 rfl rfl rfl (fun _ => Yk (parts := [(0, .tmp 97), (1, .tmp 104), (2, .tmp 105)]) (cells := [(.int .i64 n.ed), (.bool n.bk), (.int .i64 (Yv o p.bk)), (.int .i64 ((k : Nat) : Int))]) zr103 pl103 rfl rfl) (dO 14 (Zk rfl rfl rfl ?_))
      refine Zm (cs := PStep.cs) (parts := [(0, .tmp 106)]) (⟨0, false, 0, 0⟩ : PStep) [(⟨n.ed, n.bk, Yv o p.bk, ((k : Nat) : Int)⟩ : PStep)] el32 sz103 zr103 PStep.len (by decide) rfl rfl rfl (by decide) (by decide) rfl fun ag nA A S bZ => ?_
      have sC := bZ.size
      have E := E.trans bZ
      obtain ⟨T, U, rfl, V, L⟩ := A.opn
      have eX : Ch (bl (.slice Apv (psT gV gE aN node s i ++ psB l (afX aN b s l.letter) k).length Cpv)) aB nA := (dM.trans bZ.of_nil)
      refine ⟨eX, ?_⟩
      refine dO 15 (Zk rfl rfl rfl ?_)
      have nB := ((Q.ch0 I).ch0 bm).ch0 bZ
      refine Zy (cs := PStep.cs) el32 sz103 by103 zr103 rfl (by decide) PStep.one nB A.ls rfl rfl (by have aD := Yj hg aN node s i; have aE := Ym l (afX aN b s l.letter) (k := k); simp only [List.length_append, List.length_singleton]; omega) (by have aD := Yj hg aN node s i; have aE := Ym l (afX aN b s l.letter) (k := k); simp only [List.length_append, List.length_singleton]; omega) a om fun ah ih B D r cN => ?_
      have sD := cN.size
      have E := E.step cN (fun i hi => .inl (by have C := a _ hi; omega))
      obtain ⟨u, y, rfl, X, z⟩ := B.opn
      have gR : Ch (bl (.slice Apv (psT gV gE aN node s i ++ psB l (afX aN b s l.letter) k).length Cpv)) aB ih := (eX.step cN (fun i hm => by exact .inr hm))
      refine ⟨gR, ?_⟩
      refine dV 16 rfl rfl rfl (fun _ => Zd rfl) ?_
      refine Zw (by kernel_rfl) ?_
      refine Zq (Zb (c9 _ _ (Zc (Za rfl rfl (Zf rfl) (Za rfl rfl (Ye om rfl rfl) (Za rfl rfl (Zd rfl) (Ze ?_)))))))
      have fL : Ol PStep.cs 103 4 ih (.slice u ((psT gV gE aN node s i ++ psB l (afX aN b s l.letter) k ++ [(⟨n.ed, n.bk, Yv o p.bk, ((k : Nat) : Int)⟩ : PStep)])).length y) (psT gV gE aN node s i ++ psB l (afX aN b s l.letter) (k + 1)) := by
       have hx := B
       first | exact hx.eq (Xf (Xn ap F om om) (by rw [K, am.1]) (by rw [K, am.2]) (by rw [R, a6.2])) | exact hx.eq (Xe (Xm ap F om om))
      have nC := (((P.ch0 I).ch0 bm).ch0 bZ).ch cN (fun hm => by have C := a _ hm; have ay := hipv _ hm; omega)
      have nD := (((Y.ch0 I).ch0 bm).ch0 bZ).ch cN (fun i hi => by have C := a _ hi; omega)
      have nE := (((Z.ch0 I).ch0 bm).ch0 bZ).ch cN (fun i hi => by have C := a _ hi; omega)
      have nF := (((O.ch0 I).ch0 bm).ch0 bZ).ch cN (fun hm => by have C := a _ hm; have ay := hipv _ hm; omega)
      have nG := (((aa.ch0 I).ch0 bm).ch0 bZ).ch cN (fun i hi => by have C := a _ hi; omega)
      have nH := (((ab.ch0 I).ch0 bm).ch0 bZ).ch cN (fun i hi => by have C := a _ hi; omega)
      have nI := (((ac.ch0 I).ch0 bm).ch0 bZ).ch cN (fun i hi => by have C := a _ hi; omega)
      have nJ := ((dj.ch0 bm).ch0 bZ).ch cN (fun g hg hm => by exact e _ hm hg)
      have nK := ((da.ch0 bm).ch0 bZ).ch cN (fun hm => by exact h (by first | exact hm | exact ax ▸ hm))
      exact Zb (Exists.intro ((k + 1), (.slice u ((psT gV gE aN node s i ++ psB l (afX aN b s l.letter) k ++ [(⟨n.ed, n.bk, Yv o p.bk, ((k : Nat) : Int)⟩ : PStep)])).length y)) ⟨⟨E, om, om, nC, nD, nE, nF, nG, nH, nI, nJ, nK, fL, (Lo.down D om), (fun g hm hg => by rcases r with ea | ea; (rw [ea] at hm; exact e _ hm hg); (have aF := z _ hm; rw [ea] at hm; have aG := List.mem_singleton.1 hm; have bd := ad _ hg; have be := M _ hg; omega)), (fun hm => by rcases r with ea | ea; (rw [ea] at hm; exact h (by first | exact hm | exact ax ▸ hm)); (rw [ea] at hm; have aG := List.mem_singleton.1 hm; omega))⟩, sC8 rfl rfl rfl rfl rfl rfl rfl rfl (sC4 rfl rfl rfl rfl (sC1 rfl (Sub.nil _))), (by first | omega | (dsimp only; omega))⟩)
     refine Zk rfl rfl rfl ?_
     refine s_v (Zl al agg4 rfl rfl) ?_
     refine ⟨(Ch.refl _ _), ?_⟩
     refine Yt 3 11 (by kernel_rfl) ?_ ?_
     ·refine Zk rfl rfl rfl ?_
      refine (Yc dj.ls GStp.len el133 sz97 rfl rfl rfl om fun c8 n an ak => ?_)
      have K := Zv an ai
      refine ⟨(Ch.refl _ _), ?_⟩
      refine Yt 4 11 (by kernel_rfl) ?_ ?_
      ·refine Zk rfl rfl rfl ?_
       refine s_v (Zs ak agg97 sz97 rfl) ?_
       refine ⟨(Ch.refl _ _), ?_⟩
       refine dO 11 (Zk rfl rfl rfl ?_)
       refine Step.call (Zr (xs := [.tmp 98, .tmp 103]) fk101 rfl) (Yl o _ ) fun af nL G => ?_
       obtain ⟨rfl, b0⟩ := G
       have sE := b0.size
       have E := E.trans b0
       have eY : Ch (bl (.slice Apv (psT gV gE aN node s i ++ psB l (afX aN b s l.letter) k).length Cpv)) aB nL := ((Ch.refl _ _).trans b0.of_nil)
       refine ⟨eY, ?_⟩
       refine dV 13 rfl rfl rfl (fun _ => Yk (parts := [(0, .tmp 97), (1, .tmp 104), (2, .tmp 105)]) (cells := [(.int .i64 n.ed), (.bool n.bk), (.int .i64 (Yv o p.bk)), (.int .i64 ((k : Nat) : Int))]) zr103 pl103 rfl rfl) (dO 14 (Zk rfl rfl rfl ?_))
       refine Zm (cs := PStep.cs) (parts := [(0, .tmp 106)]) (⟨0, false, 0, 0⟩ : PStep) [(⟨n.ed, n.bk, Yv o p.bk, ((k : Nat) : Int)⟩ : PStep)] el32 sz103 zr103 PStep.len (by decide) rfl rfl rfl (by decide) (by decide) rfl fun ag nM A S b1 => ?_
       have sF := b1.size
       have E := E.trans b1
       obtain ⟨T, U, rfl, V, L⟩ := A.opn
       have eZ : Ch (bl (.slice Apv (psT gV gE aN node s i ++ psB l (afX aN b s l.letter) k).length Cpv)) aB nM := (eY.trans b1.of_nil)
       refine ⟨eZ, ?_⟩
       refine dO 15 (Zk rfl rfl rfl ?_)
       have nN := ((Q.ch0 I).ch0 b0).ch0 b1
       refine Zy (cs := PStep.cs) el32 sz103 by103 zr103 rfl (by decide) PStep.one nN A.ls rfl rfl (by have aD := Yj hg aN node s i; have aE := Ym l (afX aN b s l.letter) (k := k); simp only [List.length_append, List.length_singleton]; omega) (by have aD := Yj hg aN node s i; have aE := Ym l (afX aN b s l.letter) (k := k); simp only [List.length_append, List.length_singleton]; omega) a om fun ah ii B D r cO => ?_
       have sG := cO.size
       have E := E.step cO (fun i hi => .inl (by have C := a _ hi; omega))
       obtain ⟨u, y, rfl, X, z⟩ := B.opn
       have gS : Ch (bl (.slice Apv (psT gV gE aN node s i ++ psB l (afX aN b s l.letter) k).length Cpv)) aB ii := (eZ.step cO (fun i hm => by exact .inr hm))
       refine ⟨gS, ?_⟩
       refine dV 16 rfl rfl rfl (fun _ => Zd rfl) ?_
       refine Zw (by kernel_rfl) ?_
       refine Zq (Zb (c9 _ _ (Zc (Za rfl rfl (Zf rfl) (Za rfl rfl (Ye om rfl rfl) (Za rfl rfl (Zd rfl) (Ze ?_)))))))
       have fM : Ol PStep.cs 103 4 ii (.slice u ((psT gV gE aN node s i ++ psB l (afX aN b s l.letter) k ++ [(⟨n.ed, n.bk, Yv o p.bk, ((k : Nat) : Int)⟩ : PStep)])).length y) (psT gV gE aN node s i ++ psB l (afX aN b s l.letter) (k + 1)) := by
        have hx := B
        first | exact hx.eq (Xf (Xn ap F om om) (by rw [K, am.1]) (by rw [K, am.2]) (by rw [R, a6.2])) | exact hx.eq (Xe (Xm ap F om om))
       have nO := (((P.ch0 I).ch0 b0).ch0 b1).ch cO (fun hm => by have C := a _ hm; have ay := hipv _ hm; omega)
       have nP := (((Y.ch0 I).ch0 b0).ch0 b1).ch cO (fun i hi => by have C := a _ hi; omega)
       have nQ := (((Z.ch0 I).ch0 b0).ch0 b1).ch cO (fun i hi => by have C := a _ hi; omega)
       have nR := (((O.ch0 I).ch0 b0).ch0 b1).ch cO (fun hm => by have C := a _ hm; have ay := hipv _ hm; omega)
       have nT := (((aa.ch0 I).ch0 b0).ch0 b1).ch cO (fun i hi => by have C := a _ hi; omega)
       have nU := (((ab.ch0 I).ch0 b0).ch0 b1).ch cO (fun i hi => by have C := a _ hi; omega)
       have nV := (((ac.ch0 I).ch0 b0).ch0 b1).ch cO (fun i hi => by have C := a _ hi; omega)
       have nW := ((dj.ch0 b0).ch0 b1).ch cO (fun g hg hm => by exact e _ hm hg)
       have nX := ((da.ch0 b0).ch0 b1).ch cO (fun hm => by exact h (by first | exact hm | exact ax ▸ hm))
       exact Zb (Exists.intro ((k + 1), (.slice u ((psT gV gE aN node s i ++ psB l (afX aN b s l.letter) k ++ [(⟨n.ed, n.bk, Yv o p.bk, ((k : Nat) : Int)⟩ : PStep)])).length y)) ⟨⟨E, om, om, nO, nP, nQ, nR, nT, nU, nV, nW, nX, fM, (Lo.down D om), (fun g hm hg => by rcases r with ea | ea; (rw [ea] at hm; exact e _ hm hg); (have aF := z _ hm; rw [ea] at hm; have aG := List.mem_singleton.1 hm; have bd := ad _ hg; have be := M _ hg; omega)), (fun hm => by rcases r with ea | ea; (rw [ea] at hm; exact h (by first | exact hm | exact ax ▸ hm)); (rw [ea] at hm; have aG := List.mem_singleton.1 hm; omega))⟩, sC8 rfl rfl rfl rfl rfl rfl rfl rfl (sC4 rfl rfl rfl rfl (sC1 rfl (Sub.nil _))), (by first | omega | (dsimp only; omega))⟩)
      refine Zk rfl rfl rfl ?_
      refine Step.call (Zr (xs := [.tmp 98, .tmp 103]) fk101 rfl) (Yl o _ ) fun af nY G => ?_
      obtain ⟨rfl, bn⟩ := G
      have sH := bn.size
      have E := E.trans bn
      have dN : Ch (bl (.slice Apv (psT gV gE aN node s i ++ psB l (afX aN b s l.letter) k).length Cpv)) aB nY := ((Ch.refl _ _).trans bn.of_nil)
      refine ⟨dN, ?_⟩
      refine dO 4 (Zk rfl rfl rfl ?_)
      have nZ := ak.ch0 bn
      refine s_v (Zs nZ agg97 sz97 rfl) ?_
      refine ⟨dN, ?_⟩
      refine dV 13 rfl rfl rfl (fun _ => Yk (parts := [(0, .tmp 97), (1, .tmp 104), (2, .tmp 105)]) (cells := [(.int .i64 n.ed), (.bool n.bk), (.int .i64 (Yv o p.bk)), (.int .i64 ((k : Nat) : Int))]) zr103 pl103 rfl rfl) (dO 14 (Zk rfl rfl rfl ?_))
      refine Zm (cs := PStep.cs) (parts := [(0, .tmp 106)]) (⟨0, false, 0, 0⟩ : PStep) [(⟨n.ed, n.bk, Yv o p.bk, ((k : Nat) : Int)⟩ : PStep)] el32 sz103 zr103 PStep.len (by decide) rfl rfl rfl (by decide) (by decide) rfl fun ag n0 A S b2 => ?_
      have sI := b2.size
      have E := E.trans b2
      obtain ⟨T, U, rfl, V, L⟩ := A.opn
      have e0 : Ch (bl (.slice Apv (psT gV gE aN node s i ++ psB l (afX aN b s l.letter) k).length Cpv)) aB n0 := (dN.trans b2.of_nil)
      refine ⟨e0, ?_⟩
      refine dO 15 (Zk rfl rfl rfl ?_)
      have n1 := ((Q.ch0 I).ch0 bn).ch0 b2
      refine Zy (cs := PStep.cs) el32 sz103 by103 zr103 rfl (by decide) PStep.one n1 A.ls rfl rfl (by have aD := Yj hg aN node s i; have aE := Ym l (afX aN b s l.letter) (k := k); simp only [List.length_append, List.length_singleton]; omega) (by have aD := Yj hg aN node s i; have aE := Ym l (afX aN b s l.letter) (k := k); simp only [List.length_append, List.length_singleton]; omega) a om fun ah ij B D r cP => ?_
      have sJ := cP.size
      have E := E.step cP (fun i hi => .inl (by have C := a _ hi; omega))
      obtain ⟨u, y, rfl, X, z⟩ := B.opn
      have gT : Ch (bl (.slice Apv (psT gV gE aN node s i ++ psB l (afX aN b s l.letter) k).length Cpv)) aB ij := (e0.step cP (fun i hm => by exact .inr hm))
      refine ⟨gT, ?_⟩
      refine dV 16 rfl rfl rfl (fun _ => Zd rfl) ?_
      refine Zw (by kernel_rfl) ?_
      refine Zq (Zb (c9 _ _ (Zc (Za rfl rfl (Zf rfl) (Za rfl rfl (Ye om rfl rfl) (Za rfl rfl (Zd rfl) (Ze ?_)))))))
      have fN : Ol PStep.cs 103 4 ij (.slice u ((psT gV gE aN node s i ++ psB l (afX aN b s l.letter) k ++ [(⟨n.ed, n.bk, Yv o p.bk, ((k : Nat) : Int)⟩ : PStep)])).length y) (psT gV gE aN node s i ++ psB l (afX aN b s l.letter) (k + 1)) := by
       have hx := B
       first | exact hx.eq (Xf (Xn ap F om om) (by rw [K, am.1]) (by rw [K, am.2]) (by rw [R, a6.2])) | exact hx.eq (Xe (Xm ap F om om))
      have n2 := (((P.ch0 I).ch0 bn).ch0 b2).ch cP (fun hm => by have C := a _ hm; have ay := hipv _ hm; omega)
      have n3 := (((Y.ch0 I).ch0 bn).ch0 b2).ch cP (fun i hi => by have C := a _ hi; omega)
      have n4 := (((Z.ch0 I).ch0 bn).ch0 b2).ch cP (fun i hi => by have C := a _ hi; omega)
      have n5 := (((O.ch0 I).ch0 bn).ch0 b2).ch cP (fun hm => by have C := a _ hm; have ay := hipv _ hm; omega)
      have n6 := (((aa.ch0 I).ch0 bn).ch0 b2).ch cP (fun i hi => by have C := a _ hi; omega)
      have n7 := (((ab.ch0 I).ch0 bn).ch0 b2).ch cP (fun i hi => by have C := a _ hi; omega)
      have n8 := (((ac.ch0 I).ch0 bn).ch0 b2).ch cP (fun i hi => by have C := a _ hi; omega)
      have n9 := ((dj.ch0 bn).ch0 b2).ch cP (fun g hg hm => by exact e _ hm hg)
      have oa := ((da.ch0 bn).ch0 b2).ch cP (fun hm => by exact h (by first | exact hm | exact ax ▸ hm))
      exact Zb (Exists.intro ((k + 1), (.slice u ((psT gV gE aN node s i ++ psB l (afX aN b s l.letter) k ++ [(⟨n.ed, n.bk, Yv o p.bk, ((k : Nat) : Int)⟩ : PStep)])).length y)) ⟨⟨E, om, om, n2, n3, n4, n5, n6, n7, n8, n9, oa, fN, (Lo.down D om), (fun g hm hg => by rcases r with ea | ea; (rw [ea] at hm; exact e _ hm hg); (have aF := z _ hm; rw [ea] at hm; have aG := List.mem_singleton.1 hm; have bd := ad _ hg; have be := M _ hg; omega)), (fun hm => by rcases r with ea | ea; (rw [ea] at hm; exact h (by first | exact hm | exact ax ▸ hm)); (rw [ea] at hm; have aG := List.mem_singleton.1 hm; omega))⟩, sC8 rfl rfl rfl rfl rfl rfl rfl rfl (sC4 rfl rfl rfl rfl (sC1 rfl (Sub.nil _))), (by first | omega | (dsimp only; omega))⟩)
     refine Zk rfl rfl rfl ?_
     refine Step.call (Zr (xs := [.tmp 98, .tmp 103]) fk101 rfl) (Yl o _ ) fun af ob G => ?_
     obtain ⟨rfl, b3⟩ := G
     have sK := b3.size
     have E := E.trans b3
     have dk : Ch (bl (.slice Apv (psT gV gE aN node s i ++ psB l (afX aN b s l.letter) k).length Cpv)) aB ob := ((Ch.refl _ _).trans b3.of_nil)
     refine ⟨dk, ?_⟩
     refine dO 3 (Zk rfl rfl rfl ?_)
     have ik := dj.ch0 b3
     refine (Yc ik.ls GStp.len el133 sz97 rfl rfl rfl om fun c8 n an ak => ?_)
     have K := Zv an ai
     refine ⟨dk, ?_⟩
     refine dO 4 (Zk rfl rfl rfl ?_)
     refine s_v (Zs ak agg97 sz97 rfl) ?_
     refine ⟨dk, ?_⟩
     refine dV 13 rfl rfl rfl (fun _ => Yk (parts := [(0, .tmp 97), (1, .tmp 104), (2, .tmp 105)]) (cells := [(.int .i64 n.ed), (.bool n.bk), (.int .i64 (Yv o p.bk)), (.int .i64 ((k : Nat) : Int))]) zr103 pl103 rfl rfl) (dO 14 (Zk rfl rfl rfl ?_))
     refine Zm (cs := PStep.cs) (parts := [(0, .tmp 106)]) (⟨0, false, 0, 0⟩ : PStep) [(⟨n.ed, n.bk, Yv o p.bk, ((k : Nat) : Int)⟩ : PStep)] el32 sz103 zr103 PStep.len (by decide) rfl rfl rfl (by decide) (by decide) rfl fun ag oc A S b4 => ?_
     have sL := b4.size
     have E := E.trans b4
     obtain ⟨T, U, rfl, V, L⟩ := A.opn
     have e1 : Ch (bl (.slice Apv (psT gV gE aN node s i ++ psB l (afX aN b s l.letter) k).length Cpv)) aB oc := (dk.trans b4.of_nil)
     refine ⟨e1, ?_⟩
     refine dO 15 (Zk rfl rfl rfl ?_)
     have od := ((Q.ch0 I).ch0 b3).ch0 b4
     refine Zy (cs := PStep.cs) el32 sz103 by103 zr103 rfl (by decide) PStep.one od A.ls rfl rfl (by have aD := Yj hg aN node s i; have aE := Ym l (afX aN b s l.letter) (k := k); simp only [List.length_append, List.length_singleton]; omega) (by have aD := Yj hg aN node s i; have aE := Ym l (afX aN b s l.letter) (k := k); simp only [List.length_append, List.length_singleton]; omega) a om fun ah il B D r cQ => ?_
     have sM := cQ.size
     have E := E.step cQ (fun i hi => .inl (by have C := a _ hi; omega))
     obtain ⟨u, y, rfl, X, z⟩ := B.opn
     have gU : Ch (bl (.slice Apv (psT gV gE aN node s i ++ psB l (afX aN b s l.letter) k).length Cpv)) aB il := (e1.step cQ (fun i hm => by exact .inr hm))
     refine ⟨gU, ?_⟩
     refine dV 16 rfl rfl rfl (fun _ => Zd rfl) ?_
     refine Zw (by kernel_rfl) ?_
     refine Zq (Zb (c9 _ _ (Zc (Za rfl rfl (Zf rfl) (Za rfl rfl (Ye om rfl rfl) (Za rfl rfl (Zd rfl) (Ze ?_)))))))
     have fO : Ol PStep.cs 103 4 il (.slice u ((psT gV gE aN node s i ++ psB l (afX aN b s l.letter) k ++ [(⟨n.ed, n.bk, Yv o p.bk, ((k : Nat) : Int)⟩ : PStep)])).length y) (psT gV gE aN node s i ++ psB l (afX aN b s l.letter) (k + 1)) := by
      have hx := B
      first | exact hx.eq (Xf (Xn ap F om om) (by rw [K, am.1]) (by rw [K, am.2]) (by rw [R, a6.2])) | exact hx.eq (Xe (Xm ap F om om))
     have oe := (((P.ch0 I).ch0 b3).ch0 b4).ch cQ (fun hm => by have C := a _ hm; have ay := hipv _ hm; omega)
     have og := (((Y.ch0 I).ch0 b3).ch0 b4).ch cQ (fun i hi => by have C := a _ hi; omega)
     have oh := (((Z.ch0 I).ch0 b3).ch0 b4).ch cQ (fun i hi => by have C := a _ hi; omega)
     have oi := (((O.ch0 I).ch0 b3).ch0 b4).ch cQ (fun hm => by have C := a _ hm; have ay := hipv _ hm; omega)
     have oj := (((aa.ch0 I).ch0 b3).ch0 b4).ch cQ (fun i hi => by have C := a _ hi; omega)
     have ok := (((ab.ch0 I).ch0 b3).ch0 b4).ch cQ (fun i hi => by have C := a _ hi; omega)
     have ol := (((ac.ch0 I).ch0 b3).ch0 b4).ch cQ (fun i hi => by have C := a _ hi; omega)
     have on := (ik.ch0 b4).ch cQ (fun g hg hm => by exact e _ hm hg)
     have oo := ((da.ch0 b3).ch0 b4).ch cQ (fun hm => by exact h (by first | exact hm | exact ax ▸ hm))
     exact Zb (Exists.intro ((k + 1), (.slice u ((psT gV gE aN node s i ++ psB l (afX aN b s l.letter) k ++ [(⟨n.ed, n.bk, Yv o p.bk, ((k : Nat) : Int)⟩ : PStep)])).length y)) ⟨⟨E, om, om, oe, og, oh, oi, oj, ok, ol, on, oo, fO, (Lo.down D om), (fun g hm hg => by rcases r with ea | ea; (rw [ea] at hm; exact e _ hm hg); (have aF := z _ hm; rw [ea] at hm; have aG := List.mem_singleton.1 hm; have bd := ad _ hg; have be := M _ hg; omega)), (fun hm => by rcases r with ea | ea; (rw [ea] at hm; exact h (by first | exact hm | exact ax ▸ hm)); (rw [ea] at hm; have aG := List.mem_singleton.1 hm; omega))⟩, sC8 rfl rfl rfl rfl rfl rfl rfl rfl (sC4 rfl rfl rfl rfl (sC1 rfl (Sub.nil _))), (by first | omega | (dsimp only; omega))⟩)
    have h8 := F
    have F := Yq F
    refine Zu ?_
    refine Zq (Zb (c9 _ _ (Zc (Za rfl rfl (Zf rfl) (Za rfl rfl (Ye om rfl rfl) (Za rfl rfl (Zd rfl) (Ze ?_)))))))
    have fP : Ol PStep.cs 103 4 h6 (.slice Apv (psT gV gE aN node s i ++ psB l (afX aN b s l.letter) k).length Cpv) (psT gV gE aN node s i ++ psB l (afX aN b s l.letter) (k + 1)) := by
     have hx := Q
     first | exact hx.eq (Xf (Xn ap F om om) (by rw [K, am.1]) (by rw [K, am.2]) (by rw [R, a6.2])) | exact hx.eq (Xe (Xm ap F om om))
    exact Zb (Exists.intro ((k + 1), (.slice Apv (psT gV gE aN node s i ++ psB l (afX aN b s l.letter) k).length Cpv)) ⟨⟨E, om, om, P, Y, Z, O, aa, ab, ac, a4, ba, fP, (Lo.down a om), (fun g hm hg => by exact e _ hm hg), (fun hm => by exact h (by first | exact hm | exact ax ▸ hm))⟩, sC8 rfl rfl rfl rfl rfl rfl rfl rfl (sC4 rfl rfl rfl rfl (sC1 rfl (Sub.nil _))), (by first | omega | (dsimp only; omega))⟩)
   have h7 := aW
   have aW := Yq aW
   refine Xc (Zt (Zt (Yx ?_)))
   refine Zq (Zb (i2 _ _ (Zc (Za rfl rfl (Zf rfl) (Za rfl rfl (Ye om rfl rfl) (Za rfl rfl (Zd rfl) (Ze ?_)))))))
   have fQ : Ol PStep.cs 103 4 h6 (.slice Apv (psT gV gE aN node s i ++ psB l (afX aN b s l.letter) k).length Cpv) (psT gV gE aN node s (i + 1)) := by
    have hx := Q
    have eK : k = aA.length := om; subst eK; exact hx.eq (Zfe hv om gs hc)
   exact Zb (Exists.intro ((i + 1), (.slice Apv (psT gV gE aN node s i ++ psB l (afX aN b s l.letter) k).length Cpv)) ⟨⟨E, om, om, P, Y, Z, O, aa, ab, ac, a4, fQ, (Lo.down a om), (fun g hm hg => by exact e _ hm hg)⟩, sC4 rfl rfl rfl rfl (sC2 rfl rfl (sC1 rfl (Sub.nil _))), (by first | omega | (dsimp only; omega))⟩)
  refine Zk rfl rfl rfl ?_
  refine Qr zr129 fun aJ im bf cR ht => ?_
  have sN := cR.size
  have E := E.trans cR
  have hu := bf.lt
  replace bf : Blk im aJ 129 [(.int .i64 0), (.int .i64 0), (.int .i64 0), (.int .i64 0)] := bf
  have dl : Ch [] fl im := ((Ch.refl _ _).trans cR)
  refine ⟨dl, ?_⟩
  refine dO 5 (Zk rfl rfl rfl ?_)
  have io := (gh.ch0 co).ch0 cR
  refine (Yc io.ls GStp.len el133 sz97 rfl rfl rfl om fun i5 du ai gu => ?_)
  obtain ⟨l, hc, i6⟩ := Zkx ai
  have am : l.edge = du.ed ∧ l.back = du.bk := by rw [← i6]; exact ⟨rfl, rfl⟩
  have hd := Zhp hg hc
  rw [am.1] at hd
  have tO := Zhe (v := b) (x := l.letter) hv (s := s) om
  refine ⟨dl, ?_⟩
  refine dV 6 rfl rfl rfl (fun _ => Zh fa97_0 rfl) (dO 7 (Zk rfl rfl rfl ?_))
  refine s_v (Zl gu agg3 rfl rfl) ?_
  refine ⟨dl, ?_⟩
  refine dO 8 (Zk rfl rfl rfl ?_)
  have ip := (d3.ch0 co).ch0 cR
  have iq := (d4.ch0 co).ch0 cR
  refine Step.call (Zr (xs := [.tmp 38, .tmp 43]) fk99 rfl) (Zah ip iq _ ) fun ho op d8 => ?_
  obtain ⟨rfl, b5⟩ := d8
  have sO := b5.size
  have E := E.trans b5
  have dm : Ch [] fl op := (dl.trans b5)
  refine ⟨dm, ?_⟩
  refine dO 9 (Zk rfl rfl rfl ?_)
  have ir := iq.ch0 b5
  refine (Yc (j := (eiR gE du.ed).toNat) ir GEdge.len el34 sz129 rfl rfl om om fun hr o a7 d9 => ?_)
  have a6 := hd.2.2 _ a7
  rw [am.2] at a6
  refine ⟨dm, ?_⟩
  refine dO 10 (Zk rfl rfl rfl ?_)
  refine s_v (Zs d9 agg129 sz129 rfl) ?_
  refine ⟨dm, ?_⟩
  refine dO 12 (Zk rfl rfl rfl ?_)
  have oq := bf.ch0 b5
  refine Qw (off := 0) 4 oq sz129 rfl (us := [(.int .i64 o.id), (.int .i64 o.f), (.int .i64 o.t), (.int .i64 o.label)]) rfl rfl rfl rfl fun gW dP cS => ?_
  have sP := cS.size
  have E := E.step cS (lS om)
  replace dP : Blk gW aJ 129 [(.int .i64 o.id), (.int .i64 o.f), (.int .i64 o.t), (.int .i64 o.label)] := dP
  have gX : Ch [] fl gW := (dm.step cS (fun i hm => by have ax := List.mem_singleton.1 hm; left; omega))
  refine ⟨gX, ?_⟩
  refine Zw (by kernel_rfl) ?_
  refine Zb (i3 _ _ ?_)
  refine Zg fun uQ os => ?_
  refine Zc (Za rfl rfl (Zd rfl) (Ze (Zb (os _ _ ?_))))
  refine Zg fun uR ot => ?_
  refine Zg fun uS ou => ?_
  refine Zc (Za rfl rfl (Zd rfl) (Ze (Zb (ou _ _ ?_))))
  refine Yd ?_
  have ow := ((hl.ch0 cR).ch0 b5).ch cS (nS om)
  have ox := (ip.ch0 b5).ch cS (oS om)
  have oy := ir.ch cS (oS om)
  have oz := (((dX.ch0 co).ch0 cR).ch0 b5).ch cS (nS om)
  have oA := (((d5.ch0 co).ch0 cR).ch0 b5).ch cS (oS om)
  have oB := (((d6.ch0 co).ch0 cR).ch0 b5).ch cS (oS om)
  have oC := (((d7.ch0 co).ch0 cR).ch0 b5).ch cS (oS om)
  have oD := (io.ch0 b5).ch cS (dS ad M om)
  have oE := (((dt.ch0 co).ch0 cR).ch0 b5).ch cS (dS a5 hiov om)
  refine Xd (σ := Nat × Int) (fun ⟨q, m⟩ => [(4, (.pointer (some ⟨dB, 0, none⟩))), (5, (.pointer (some ⟨dC, 0, none⟩))), (8, (.slice none 0 0)), (9, (.slice Aov (psT gV gE aN node s i).length Cov)), (10, (.int .i64 ((cloR aN (6 + b) s : Nat) : Int))), (11, (.slice aH (stL gE node).length aI)), (12, (.int .i64 ((i : Nat) : Int))), (13, (.pointer (some ⟨aJ, 0, none⟩))), (14, (.int .i64 m)), (15, (.int .i64 ((q : Nat) : Int))), (33, (.bool (decide (((i : Nat) : Int) < (((stL gE node).length : Nat) : Int)))))]) (fun ⟨q, m⟩ wx => Ch [] w wx ∧ gW.heap.size ≤ wx.heap.size ∧ (q ≤ aA.length) ∧ (m = afC aN l.letter 0 (Yg (cloR aN (6 + b) s) q)) ∧ Blk wx dB 36 [(.slice aM gV.length aO), (.slice aP gE.length aQ)] ∧ Ls ics 1 wx LL_gV w.heap.size (.slice aM gV.length aO) gV ∧ Ls GEdge.cs 4 wx LL_gE w.heap.size (.slice aP gE.length aQ) gE ∧ Blk wx dC 38 [(.int .i64 aS), (.slice aR aA.length aT), (.slice aq saN.length au)] ∧ Ls bcs 1 wx LL_aA w.heap.size (.slice aR aA.length aT) aA ∧ Ls Sv.cs 1 wx LL_saN w.heap.size (.slice aq saN.length au) saN ∧ Rd ics 1 wx LR_aN w.heap.size saN aN ∧ Ol GStp.cs 97 2 wx (.slice aH (stL gE node).length aI) (stL gE node) ∧ Ol PStep.cs 103 4 wx (.slice Aov (psT gV gE aN node s i).length Cov) (psT gV gE aN node s i) ∧ Blk wx aJ 129 [(.int .i64 o.id), (.int .i64 o.f), (.int .i64 o.t), (.int .i64 o.label)]) (fun ⟨q, m⟩ => aA.length - q) (0, 0) (sC8 rfl rfl rfl rfl rfl rfl rfl rfl (sC2 rfl rfl (sC1 rfl (Sub.nil _)))) ⟨E, (Nat.le_refl _), om, (by rfl), ow, ox, oy, oz, oA, oB, oC, oD, oE, dP⟩ ?_
  rintro ⟨q, m⟩ it ⟨E, hy, hq, hm, aK, aZ, a0, a1, a2, cp, cq, cr, a3, a8⟩
  have ec := E
  have gk := ec.size
  have ee := aK.lt
  have ef := a1.lt
  have eg := a8.lt
  refine Zg fun uT oF => ?_
  refine Zg fun uU oG => ?_
  refine Zc (Za rfl rfl (Zf rfl) (Za rfl rfl (Zh fa38_1 rfl) (Za rfl rfl (Zl a1.at_ agg26 rfl rfl) (Za rfl rfl (Yz (by rw [el26]; rfl) rfl) (Za rfl rfl (Xh rfl rfl) (Ze (Zb (oG _ _ ?_))))))))
  refine Zz rfl (fun aU => ?_) (fun aU => ?_)
  ·have iu := aU
   have aU := Yp aU
   refine Zu ?_
   refine Zb (oF _ _ ?_)
   refine Zg fun uV gY => ?_
   refine Yd ?_
   refine Zg fun uW oH => ?_
   refine Xl [] 15 mixed rfl fun gZ aY => ?_
   have sQ := aY.size
   have E := E.trans aY
   refine dV 0 rfl rfl rfl (fun _ => Zh fa38_2 rfl) ?_
   have fR := a1.ch0 aY
   refine dT 1 rfl rfl rfl (Yo fR.at_ (fun i hi => absurd hi List.not_mem_nil) agg27 rfl rfl ?_)
   refine dV 2 rfl rfl rfl (fun _ => Zf rfl) ?_
   have fS := cp.ch0 aY
   have fT := cq.ch0 aY
   refine dT 3 rfl rfl rfl (Xt fS Sv.len el27 sz22 rfl rfl rfl om fun eh ei dv c4 => ?_)
   obtain ⟨a9, aV, aL⟩ := fT.get dv
   obtain ⟨dw, hz, dx⟩ := ei
   obtain rfl := aL.eqn
   have hA := aL.len
   replace aL : Ls ics 1 gZ LR_aN w.heap.size (.slice dw a9.length dx) a9 := aL
   replace c4 : At gZ LL_saN w.heap.size eh ([(.slice dw a9.length dx)]) := c4
   have hB := (Xp hv.2 aV).1
   refine dT 4 rfl rfl rfl (Xu c4 (fun i hi => absurd hi List.not_mem_nil) agg22 rfl rfl ?_)
   have fU := a8.ch0 aY
   refine dT 5 rfl rfl rfl (Yr fU.at_ (fun i hi => absurd hi List.not_mem_nil) agg129 sz129 rfl ?_)
   refine dV 6 rfl rfl rfl (fun _ => Zf rfl) (dV 7 rfl rfl rfl (fun _ => Zf rfl) (dO 8 (Zk rfl rfl rfl ?_)))
   have fV := cr.ch0 aY
   refine (Yc fV.ls GStp.len el133 sz97 rfl rfl rfl om fun hC c5 dy ej => ?_)
   have ek := Zv dy ai
   have hD := Zfh hg c5.bk a7
   refine ⟨(Ch.refl _ _), ?_⟩
   refine dV 9 rfl rfl rfl (fun _ => Zh fa97_1 rfl) ?_
   refine dT 10 rfl rfl rfl (Yo ej (fun i hi => absurd hi List.not_mem_nil) agg4 rfl rfl ?_)
   refine dO 11 (Zk rfl rfl rfl ?_)
   refine Step.call (Zr (xs := [.tmp 59, .tmp 64]) fk100 rfl) (Zai o _ (by have q := Zbs hg a7; omega)) fun hE oI el => ?_
   obtain ⟨rfl, aw⟩ := el
   have sR := aw.size
   have E := E.trans aw
   have g0 : Ch [] gZ oI := ((Ch.refl _ _).trans aw)
   refine ⟨g0, ?_⟩
   refine dT 12 rfl rfl rfl (Xt (j := (Zj o c5.bk).toNat) aL Xr el22 sz3 rfl rfl om om fun hG dz ct em => ?_)
   have hH := Qg hv.2 aV ct
   have en := Zdm (s := (q : Int)) (x := Zj o c5.bk) om om aV ct
   have de : dz = Qk aN q l.letter := by rw [en, ek, a6.1]
   refine dT 13 rfl rfl rfl (Xu em (fun i hi => absurd hi List.not_mem_nil) agg3 rfl rfl ?_)
   refine dV 14 rfl rfl rfl (fun _ => Zd rfl) ?_
   refine Zw (by kernel_rfl) ?_
   refine Zb (oH _ _ ?_)
   refine Zg fun uX iv => ?_
   refine Zc (Za rfl rfl (Zf rfl) (Za rfl rfl (Zf rfl) (Za rfl rfl (Zea om rfl rfl) (Za rfl rfl (Zey rfl rfl) (Za rfl rfl (Zbv rfl rfl) (Za rfl rfl (Zf rfl) ?_))))))
   refine Xg (d := 73) rfl (fun ae => ?_) (fun ae => ?_)
   ·have iw := ae
    have ae := Yp ae
    refine Za rfl rfl (Zf rfl) (Za rfl rfl (Zeb rfl rfl) (Za rfl rfl (Xi rfl rfl) (Ze (Zb (iv _ _ ?_)))))
    refine Zz rfl (fun aj => ?_) (fun aj => ?_)
    ·have ix := aj
     have aj := Yp aj
     refine Zc (Za rfl rfl (Zf rfl) (Za rfl rfl (Zf rfl) (Za rfl rfl (Zgt om rfl rfl) (Za rfl rfl (r_or rfl rfl) (Za rfl rfl (Zd rfl) (Ze (Zq ?_)))))))
     refine Zb (gY _ _ (Zc (Za rfl rfl (Zf rfl) (Za rfl rfl (Ye om rfl rfl) (Za rfl rfl (Zd rfl) (Ze ?_))))))
     have oJ := (aK.ch0 aY).ch0 aw
     have oK := (aZ.ch0 aY).ch0 aw
     have oL := (a0.ch0 aY).ch0 aw
     have oM := fR.ch0 aw
     have oN := (a2.ch0 aY).ch0 aw
     have oO := fS.ch0 aw
     have oP := fT.ch0 aw
     have oQ := fV.ch0 aw
     have oR := (a3.ch0 aY).ch0 aw
     have oT := fU.ch0 aw
     exact Zb (Exists.intro ((q + 1), (ior m (Qp 1 dz))) ⟨⟨E, om, om, (by subst hm; first | exact Zex (Ql ae om om) de aj | exact Zci (Ql ae om om) de aj | exact Zev (Zby ae om om)), oJ, oK, oL, oM, oN, oO, oP, oQ, oR, oT⟩, sC8 rfl rfl rfl rfl rfl rfl rfl rfl (sC2 rfl rfl (sC1 rfl (Sub.nil _))), (by first | omega | (dsimp only; omega))⟩)
    have ix := aj
    have aj := Yq aj
    refine Zu ?_
    refine Zq (Zb (gY _ _ (Zc (Za rfl rfl (Zf rfl) (Za rfl rfl (Ye om rfl rfl) (Za rfl rfl (Zd rfl) (Ze ?_)))))))
    have oU := (aK.ch0 aY).ch0 aw
    have oV := (aZ.ch0 aY).ch0 aw
    have oW := (a0.ch0 aY).ch0 aw
    have oX := fR.ch0 aw
    have oY := (a2.ch0 aY).ch0 aw
    have oZ := fS.ch0 aw
    have o0 := fT.ch0 aw
    have o1 := fV.ch0 aw
    have o2 := (a3.ch0 aY).ch0 aw
    have o3 := fU.ch0 aw
    exact Zb (Exists.intro ((q + 1), m) ⟨⟨E, om, om, (by subst hm; first | exact Zex (Ql ae om om) de aj | exact Zci (Ql ae om om) de aj | exact Zev (Zby ae om om)), oU, oV, oW, oX, oY, oZ, o0, o1, o2, o3⟩, sC8 rfl rfl rfl rfl rfl rfl rfl rfl (sC2 rfl rfl (sC1 rfl (Sub.nil _))), (by first | omega | (dsimp only; omega))⟩)
   have iw := ae
   have ae := Yq ae
   refine Zo rfl rfl (Zo rfl rfl (Za rfl rfl (Xb rfl rfl) (Ze (Zb (iv _ _ ?_)))))
   refine Zbj rfl ?_
   refine Zu ?_
   refine Zq (Zb (gY _ _ (Zc (Za rfl rfl (Zf rfl) (Za rfl rfl (Ye om rfl rfl) (Za rfl rfl (Zd rfl) (Ze ?_)))))))
   have o4 := (aK.ch0 aY).ch0 aw
   have o5 := (aZ.ch0 aY).ch0 aw
   have o6 := (a0.ch0 aY).ch0 aw
   have o7 := fR.ch0 aw
   have o8 := (a2.ch0 aY).ch0 aw
   have o9 := fS.ch0 aw
   have pa := fT.ch0 aw
   have pb := fV.ch0 aw
   have pc := (a3.ch0 aY).ch0 aw
   have pd := fU.ch0 aw
   exact Zb (Exists.intro ((q + 1), m) ⟨⟨E, om, om, (by subst hm; first | exact Zex (Ql ae om om) de aj | exact Zci (Ql ae om om) de aj | exact Zev (Zby ae om om)), o4, o5, o6, o7, o8, o9, pa, pb, pc, pd⟩, sC8 rfl rfl rfl rfl rfl rfl rfl rfl (sC2 rfl rfl (sC1 rfl (Sub.nil _))), (by first | omega | (dsimp only; omega))⟩)
  have iu := aU
  have aU := Yq aU
  refine Xc (Zt (Zt (Yx ?_)))
  refine Zb (ot _ _ ?_)
  refine Zg fun uY pe => ?_
  refine Zc (Za rfl rfl (Zd rfl) (Ze (Zb (pe _ _ ?_))))
  refine Yd ?_
  have fW : Ol PStep.cs 103 4 it (.slice Aov (psT gV gE aN node s i).length Cov) (psT gV gE aN node s i ++ psB l (afX aN b s l.letter) 0) := by
   have hx := a3
   simpa [Zlc] using hx
  have ap : m = ((afX aN b s l.letter : Nat) : Int) := by rw [hm, show q = aA.length by omega]; exact Zin hv om
  refine Xd (σ := Nat × Value) (fun ⟨k, pv⟩ => [(4, (.pointer (some ⟨dB, 0, none⟩))), (5, (.pointer (some ⟨dC, 0, none⟩))), (8, (.slice none 0 0)), (9, pv), (10, (.int .i64 ((cloR aN (6 + b) s : Nat) : Int))), (11, (.slice aH (stL gE node).length aI)), (12, (.int .i64 ((i : Nat) : Int))), (13, (.pointer (some ⟨aJ, 0, none⟩))), (14, (.int .i64 m)), (15, (.int .i64 ((q : Nat) : Int))), (17, (.int .i64 ((k : Nat) : Int))), (33, (.bool (decide (((i : Nat) : Int) < (((stL gE node).length : Nat) : Int))))), (51, (.bool (decide (((q : Nat) : Int) < ((aA.length : Nat) : Int)))))]) (fun ⟨k, pv⟩ wx => Ch [] w wx ∧ it.heap.size ≤ wx.heap.size ∧ (k ≤ aA.length) ∧ Blk wx dB 36 [(.slice aM gV.length aO), (.slice aP gE.length aQ)] ∧ Ls ics 1 wx LL_gV w.heap.size (.slice aM gV.length aO) gV ∧ Ls GEdge.cs 4 wx LL_gE w.heap.size (.slice aP gE.length aQ) gE ∧ Blk wx dC 38 [(.int .i64 aS), (.slice aR aA.length aT), (.slice aq saN.length au)] ∧ Ls bcs 1 wx LL_aA w.heap.size (.slice aR aA.length aT) aA ∧ Ls Sv.cs 1 wx LL_saN w.heap.size (.slice aq saN.length au) saN ∧ Rd ics 1 wx LR_aN w.heap.size saN aN ∧ Ol GStp.cs 97 2 wx (.slice aH (stL gE node).length aI) (stL gE node) ∧ Blk wx aJ 129 [(.int .i64 o.id), (.int .i64 o.f), (.int .i64 o.t), (.int .i64 o.label)] ∧ Ol PStep.cs 103 4 wx pv (psT gV gE aN node s i ++ psB l (afX aN b s l.letter) k) ∧ Lo W3.heap.size pv ∧ (∀ g ∈ bl pv, g ∉ bl (.slice aH (stL gE node).length aI)) ∧ (aJ ∉ bl pv)) (fun ⟨k, pv⟩ => aA.length - k) (0, (.slice Aov (psT gV gE aN node s i).length Cov)) (sC8 rfl rfl rfl rfl rfl rfl rfl rfl (sC4 rfl rfl rfl rfl (sC1 rfl (Sub.nil _)))) ⟨E, (Nat.le_refl _), om, aK, aZ, a0, a1, a2, cp, cq, cr, a8, fW, a5, (fun g hm hg => by exact bc _ hm hg), (fun hm => by have C := a5 _ hm; have ay := hiov _ hm; omega)⟩ ?_
  rintro ⟨k, pv⟩ iy ⟨E, hJ, rF, P, Y, Z, O, aa, ab, ac, a4, ba, Q, a, e, h⟩
  have eo := E
  have gl := eo.size
  have ep := P.lt
  have er := O.lt
  have es := ba.lt
  obtain ⟨Apv, Cpv, rfl, lpv, hipv⟩ := Q.opn
  refine Zg fun uZ pf => ?_
  refine Zg fun u0 pg => ?_
  refine Zc (Za rfl rfl (Zf rfl) (Za rfl rfl (Zh fa38_1 rfl) (Za rfl rfl (Zl O.at_ agg26 rfl rfl) (Za rfl rfl (Yz (by rw [el26]; rfl) rfl) (Za rfl rfl (Xh rfl rfl) (Ze (Zb (pg _ _ ?_))))))))
  refine Zz rfl (fun aW => ?_) (fun aW => ?_)
  ·have iz := aW
   have aW := Yp aW
   refine Zu ?_
   refine Zb (pf _ _ ?_)
   refine Zg fun u1 db => ?_
   refine Yd ?_
   refine Zg fun u2 ph => ?_
   refine Zc (Za rfl rfl (Zf rfl) (Za rfl rfl (Zf rfl) (Za rfl rfl (Zea om rfl rfl) (Za rfl rfl (Zey rfl rfl) (Za rfl rfl (Zbv rfl rfl) (Ze (Zb (ph _ _ ?_))))))))
   refine Zz rfl (fun F => ?_) (fun F => ?_)
   ·have iA := F
    have F := Yp F
    refine Xl (bl (.slice Apv (psT gV gE aN node s i ++ psB l (afX aN b s l.letter) k).length Cpv)) 17 mixed rfl fun aC J => ?_
    have sS := J.size
    have E := E.trans J
    refine dV 0 rfl rfl rfl (fun _ => Zf rfl) (dV 1 rfl rfl rfl (fun _ => Zf rfl) (dV 2 rfl rfl rfl (fun _ => Zf rfl) ?_))
    have dc := ba.ch0 J
    refine dT 5 rfl rfl rfl (Yr dc.at_ (fun i hm => by rcases Nat.lt_trichotomy i aJ with dA | dA | dA; (exact .inl dA); (exact absurd (dA ▸ hm) h); (exact .inr dA)) agg129 sz129 rfl ?_)
    refine dV 6 rfl rfl rfl (fun _ => Zf rfl) (dV 7 rfl rfl rfl (fun _ => Zf rfl) (dV 12 rfl rfl rfl (fun _ => Zf rfl) ?_))
    refine Yt 3 8 (by kernel_rfl) ?_ ?_
    ·refine Zk rfl rfl rfl ?_
     have dQ := a4.ch0 J
     refine (Yc dQ.ls GStp.len el133 sz97 rfl rfl rfl om fun c8 n an ak => ?_)
     have K := Zv an ai
     refine ⟨(Ch.refl _ _), ?_⟩
     refine Yt 4 8 (by kernel_rfl) ?_ ?_
     ·refine Zk rfl rfl rfl ?_
      refine s_v (Zs ak agg97 sz97 rfl) ?_
      refine ⟨(Ch.refl _ _), ?_⟩
      refine dO 8 (Zk rfl rfl rfl ?_)
      refine (Yc dQ.ls GStp.len el133 sz97 rfl rfl rfl om fun cu p ao al => ?_)
      have R := Zv ao ai
      refine ⟨(Ch.refl _ _), ?_⟩
      refine dV 9 rfl rfl rfl (fun _ => Zh fa97_1 rfl) (dO 10 (Zk rfl rfl rfl ?_))
      refine s_v (Zl al agg4 rfl rfl) ?_
      refine ⟨(Ch.refl _ _), ?_⟩
      refine dO 11 (Zk rfl rfl rfl ?_)
      refine Step.call (Zr (xs := [.tmp 98, .tmp 103]) fk101 rfl) (Yl o _ ) fun af pi G => ?_
      obtain ⟨rfl, b6⟩ := G
      have sT := b6.size
      have E := E.trans b6
      have e2 : Ch (bl (.slice Apv (psT gV gE aN node s i ++ psB l (afX aN b s l.letter) k).length Cpv)) aC pi := ((Ch.refl _ _).trans b6.of_nil)
      refine ⟨e2, ?_⟩
      refine dV 13 rfl rfl rfl (fun _ => Yk (parts := [(0, .tmp 97), (1, .tmp 104), (2, .tmp 105)]) (cells := [(.int .i64 n.ed), (.bool n.bk), (.int .i64 (Yv o p.bk)), (.int .i64 ((k : Nat) : Int))]) zr103 pl103 rfl rfl) (dO 14 (Zk rfl rfl rfl ?_))
      refine Zm (cs := PStep.cs) (parts := [(0, .tmp 106)]) (⟨0, false, 0, 0⟩ : PStep) [(⟨n.ed, n.bk, Yv o p.bk, ((k : Nat) : Int)⟩ : PStep)] el32 sz103 zr103 PStep.len (by decide) rfl rfl rfl (by decide) (by decide) rfl fun ag pj A S b7 => ?_
      have sU := b7.size
      have E := E.trans b7
      obtain ⟨T, U, rfl, V, L⟩ := A.opn
      have e3 : Ch (bl (.slice Apv (psT gV gE aN node s i ++ psB l (afX aN b s l.letter) k).length Cpv)) aC pj := (e2.trans b7.of_nil)
      refine ⟨e3, ?_⟩
      refine dO 15 (Zk rfl rfl rfl ?_)
      have pk := ((Q.ch0 J).ch0 b6).ch0 b7
      refine Zy (cs := PStep.cs) el32 sz103 by103 zr103 rfl (by decide) PStep.one pk A.ls rfl rfl (by have aD := Yj hg aN node s i; have aE := Ym l (afX aN b s l.letter) (k := k); simp only [List.length_append, List.length_singleton]; omega) (by have aD := Yj hg aN node s i; have aE := Ym l (afX aN b s l.letter) (k := k); simp only [List.length_append, List.length_singleton]; omega) a om fun ah iB B D r cT => ?_
      have sV := cT.size
      have E := E.step cT (fun i hi => .inl (by have C := a _ hi; omega))
      obtain ⟨u, y, rfl, X, z⟩ := B.opn
      have g1 : Ch (bl (.slice Apv (psT gV gE aN node s i ++ psB l (afX aN b s l.letter) k).length Cpv)) aC iB := (e3.step cT (fun i hm => by exact .inr hm))
      refine ⟨g1, ?_⟩
      refine dV 16 rfl rfl rfl (fun _ => Zd rfl) ?_
      refine Zw (by kernel_rfl) ?_
      refine Zq (Zb (db _ _ (Zc (Za rfl rfl (Zf rfl) (Za rfl rfl (Ye om rfl rfl) (Za rfl rfl (Zd rfl) (Ze ?_)))))))
      have fX : Ol PStep.cs 103 4 iB (.slice u ((psT gV gE aN node s i ++ psB l (afX aN b s l.letter) k ++ [(⟨n.ed, n.bk, Yv o p.bk, ((k : Nat) : Int)⟩ : PStep)])).length y) (psT gV gE aN node s i ++ psB l (afX aN b s l.letter) (k + 1)) := by
       have hx := B
       first | exact hx.eq (Xf (Xn ap F om om) (by rw [K, am.1]) (by rw [K, am.2]) (by rw [R, a6.2])) | exact hx.eq (Xe (Xm ap F om om))
      have pl := (((P.ch0 J).ch0 b6).ch0 b7).ch cT (fun hm => by have C := a _ hm; have ay := hipv _ hm; omega)
      have pm := (((Y.ch0 J).ch0 b6).ch0 b7).ch cT (fun i hi => by have C := a _ hi; omega)
      have pn := (((Z.ch0 J).ch0 b6).ch0 b7).ch cT (fun i hi => by have C := a _ hi; omega)
      have po := (((O.ch0 J).ch0 b6).ch0 b7).ch cT (fun hm => by have C := a _ hm; have ay := hipv _ hm; omega)
      have pp := (((aa.ch0 J).ch0 b6).ch0 b7).ch cT (fun i hi => by have C := a _ hi; omega)
      have pq := (((ab.ch0 J).ch0 b6).ch0 b7).ch cT (fun i hi => by have C := a _ hi; omega)
      have pr := (((ac.ch0 J).ch0 b6).ch0 b7).ch cT (fun i hi => by have C := a _ hi; omega)
      have ps := ((dQ.ch0 b6).ch0 b7).ch cT (fun g hg hm => by exact e _ hm hg)
      have pt := ((dc.ch0 b6).ch0 b7).ch cT (fun hm => by exact h (by first | exact hm | exact ax ▸ hm))
      exact Zb (Exists.intro ((k + 1), (.slice u ((psT gV gE aN node s i ++ psB l (afX aN b s l.letter) k ++ [(⟨n.ed, n.bk, Yv o p.bk, ((k : Nat) : Int)⟩ : PStep)])).length y)) ⟨⟨E, om, om, pl, pm, pn, po, pp, pq, pr, ps, pt, fX, (Lo.down D om), (fun g hm hg => by rcases r with ea | ea; (rw [ea] at hm; exact e _ hm hg); (have aF := z _ hm; rw [ea] at hm; have aG := List.mem_singleton.1 hm; have bd := ad _ hg; have be := M _ hg; omega)), (fun hm => by rcases r with ea | ea; (rw [ea] at hm; exact h (by first | exact hm | exact ax ▸ hm)); (rw [ea] at hm; have aG := List.mem_singleton.1 hm; omega))⟩, sC8 rfl rfl rfl rfl rfl rfl rfl rfl (sC4 rfl rfl rfl rfl (sC1 rfl (Sub.nil _))), (by first | omega | (dsimp only; omega))⟩)
     refine Zk rfl rfl rfl ?_
     refine (Yc dQ.ls GStp.len el133 sz97 rfl rfl rfl om fun cu p ao al => ?_)
     have R := Zv ao ai
     refine ⟨(Ch.refl _ _), ?_⟩
     refine dV 9 rfl rfl rfl (fun _ => Zh fa97_1 rfl) ?_
     refine Yt 4 10 (by kernel_rfl) ?_ ?_
     ·refine Zk rfl rfl rfl ?_
      refine s_v (Zs ak agg97 sz97 rfl) ?_
      refine ⟨(Ch.refl _ _), ?_⟩
      refine dO 10 (Zk rfl rfl rfl ?_)
      refine s_v (Zl al agg4 rfl rfl) ?_
      refine ⟨(Ch.refl _ _), ?_⟩
      refine dO 11 (Zk rfl rfl rfl ?_)
      refine Step.call (Zr (xs := [.tmp 98, .tmp 103]) fk101 rfl) (Yl o _ ) fun af pw G => ?_
      obtain ⟨rfl, b8⟩ := G
      have sW := b8.size
      have E := E.trans b8
      have e4 : Ch (bl (.slice Apv (psT gV gE aN node s i ++ psB l (afX aN b s l.letter) k).length Cpv)) aC pw := ((Ch.refl _ _).trans b8.of_nil)
      refine ⟨e4, ?_⟩
      refine dV 13 rfl rfl rfl (fun _ => Yk (parts := [(0, .tmp 97), (1, .tmp 104), (2, .tmp 105)]) (cells := [(.int .i64 n.ed), (.bool n.bk), (.int .i64 (Yv o p.bk)), (.int .i64 ((k : Nat) : Int))]) zr103 pl103 rfl rfl) (dO 14 (Zk rfl rfl rfl ?_))
      refine Zm (cs := PStep.cs) (parts := [(0, .tmp 106)]) (⟨0, false, 0, 0⟩ : PStep) [(⟨n.ed, n.bk, Yv o p.bk, ((k : Nat) : Int)⟩ : PStep)] el32 sz103 zr103 PStep.len (by decide) rfl rfl rfl (by decide) (by decide) rfl fun ag px A S b9 => ?_
      have sX := b9.size
      have E := E.trans b9
      obtain ⟨T, U, rfl, V, L⟩ := A.opn
      have e5 : Ch (bl (.slice Apv (psT gV gE aN node s i ++ psB l (afX aN b s l.letter) k).length Cpv)) aC px := (e4.trans b9.of_nil)
      refine ⟨e5, ?_⟩
      refine dO 15 (Zk rfl rfl rfl ?_)
      have py := ((Q.ch0 J).ch0 b8).ch0 b9
      refine Zy (cs := PStep.cs) el32 sz103 by103 zr103 rfl (by decide) PStep.one py A.ls rfl rfl (by have aD := Yj hg aN node s i; have aE := Ym l (afX aN b s l.letter) (k := k); simp only [List.length_append, List.length_singleton]; omega) (by have aD := Yj hg aN node s i; have aE := Ym l (afX aN b s l.letter) (k := k); simp only [List.length_append, List.length_singleton]; omega) a om fun ah iC B D r cU => ?_
      have sY := cU.size
      have E := E.step cU (fun i hi => .inl (by have C := a _ hi; omega))
      obtain ⟨u, y, rfl, X, z⟩ := B.opn
      have g2 : Ch (bl (.slice Apv (psT gV gE aN node s i ++ psB l (afX aN b s l.letter) k).length Cpv)) aC iC := (e5.step cU (fun i hm => by exact .inr hm))
      refine ⟨g2, ?_⟩
      refine dV 16 rfl rfl rfl (fun _ => Zd rfl) ?_
      refine Zw (by kernel_rfl) ?_
      refine Zq (Zb (db _ _ (Zc (Za rfl rfl (Zf rfl) (Za rfl rfl (Ye om rfl rfl) (Za rfl rfl (Zd rfl) (Ze ?_)))))))
      have fY : Ol PStep.cs 103 4 iC (.slice u ((psT gV gE aN node s i ++ psB l (afX aN b s l.letter) k ++ [(⟨n.ed, n.bk, Yv o p.bk, ((k : Nat) : Int)⟩ : PStep)])).length y) (psT gV gE aN node s i ++ psB l (afX aN b s l.letter) (k + 1)) := by
       have hx := B
       first | exact hx.eq (Xf (Xn ap F om om) (by rw [K, am.1]) (by rw [K, am.2]) (by rw [R, a6.2])) | exact hx.eq (Xe (Xm ap F om om))
      have pz := (((P.ch0 J).ch0 b8).ch0 b9).ch cU (fun hm => by have C := a _ hm; have ay := hipv _ hm; omega)
      have pA := (((Y.ch0 J).ch0 b8).ch0 b9).ch cU (fun i hi => by have C := a _ hi; omega)
      have pB := (((Z.ch0 J).ch0 b8).ch0 b9).ch cU (fun i hi => by have C := a _ hi; omega)
      have pC := (((O.ch0 J).ch0 b8).ch0 b9).ch cU (fun hm => by have C := a _ hm; have ay := hipv _ hm; omega)
      have pD := (((aa.ch0 J).ch0 b8).ch0 b9).ch cU (fun i hi => by have C := a _ hi; omega)
      have pE := (((ab.ch0 J).ch0 b8).ch0 b9).ch cU (fun i hi => by have C := a _ hi; omega)
      have pF := (((ac.ch0 J).ch0 b8).ch0 b9).ch cU (fun i hi => by have C := a _ hi; omega)
      have pG := ((dQ.ch0 b8).ch0 b9).ch cU (fun g hg hm => by exact e _ hm hg)
      have pH := ((dc.ch0 b8).ch0 b9).ch cU (fun hm => by exact h (by first | exact hm | exact ax ▸ hm))
      exact Zb (Exists.intro ((k + 1), (.slice u ((psT gV gE aN node s i ++ psB l (afX aN b s l.letter) k ++ [(⟨n.ed, n.bk, Yv o p.bk, ((k : Nat) : Int)⟩ : PStep)])).length y)) ⟨⟨E, om, om, pz, pA, pB, pC, pD, pE, pF, pG, pH, fY, (Lo.down D om), (fun g hm hg => by rcases r with ea | ea; (rw [ea] at hm; exact e _ hm hg); (have aF := z _ hm; rw [ea] at hm; have aG := List.mem_singleton.1 hm; have bd := ad _ hg; have be := M _ hg; omega)), (fun hm => by rcases r with ea | ea; (rw [ea] at hm; exact h (by first | exact hm | exact ax ▸ hm)); (rw [ea] at hm; have aG := List.mem_singleton.1 hm; omega))⟩, sC8 rfl rfl rfl rfl rfl rfl rfl rfl (sC4 rfl rfl rfl rfl (sC1 rfl (Sub.nil _))), (by first | omega | (dsimp only; omega))⟩)
     refine Zk rfl rfl rfl ?_
     refine s_v (Zl al agg4 rfl rfl) ?_
     refine ⟨(Ch.refl _ _), ?_⟩
     refine Yt 4 11 (by kernel_rfl) ?_ ?_
     ·refine Zk rfl rfl rfl ?_
      refine s_v (Zs ak agg97 sz97 rfl) ?_
      refine ⟨(Ch.refl _ _), ?_⟩
      refine dO 11 (Zk rfl rfl rfl ?_)
      refine Step.call (Zr (xs := [.tmp 98, .tmp 103]) fk101 rfl) (Yl o _ ) fun af pI G => ?_
      obtain ⟨rfl, ca⟩ := G
      have sZ := ca.size
      have E := E.trans ca
      have e6 : Ch (bl (.slice Apv (psT gV gE aN node s i ++ psB l (afX aN b s l.letter) k).length Cpv)) aC pI := ((Ch.refl _ _).trans ca.of_nil)
      refine ⟨e6, ?_⟩
      refine dV 13 rfl rfl rfl (fun _ => Yk (parts := [(0, .tmp 97), (1, .tmp 104), (2, .tmp 105)]) (cells := [(.int .i64 n.ed), (.bool n.bk), (.int .i64 (Yv o p.bk)), (.int .i64 ((k : Nat) : Int))]) zr103 pl103 rfl rfl) (dO 14 (Zk rfl rfl rfl ?_))
      refine Zm (cs := PStep.cs) (parts := [(0, .tmp 106)]) (⟨0, false, 0, 0⟩ : PStep) [(⟨n.ed, n.bk, Yv o p.bk, ((k : Nat) : Int)⟩ : PStep)] el32 sz103 zr103 PStep.len (by decide) rfl rfl rfl (by decide) (by decide) rfl fun ag pJ A S cb => ?_
      have s0 := cb.size
      have E := E.trans cb
      obtain ⟨T, U, rfl, V, L⟩ := A.opn
      have e7 : Ch (bl (.slice Apv (psT gV gE aN node s i ++ psB l (afX aN b s l.letter) k).length Cpv)) aC pJ := (e6.trans cb.of_nil)
      refine ⟨e7, ?_⟩
      refine dO 15 (Zk rfl rfl rfl ?_)
      have pK := ((Q.ch0 J).ch0 ca).ch0 cb
      refine Zy (cs := PStep.cs) el32 sz103 by103 zr103 rfl (by decide) PStep.one pK A.ls rfl rfl (by have aD := Yj hg aN node s i; have aE := Ym l (afX aN b s l.letter) (k := k); simp only [List.length_append, List.length_singleton]; omega) (by have aD := Yj hg aN node s i; have aE := Ym l (afX aN b s l.letter) (k := k); simp only [List.length_append, List.length_singleton]; omega) a om fun ah iD B D r cV => ?_
      have s1 := cV.size
      have E := E.step cV (fun i hi => .inl (by have C := a _ hi; omega))
      obtain ⟨u, y, rfl, X, z⟩ := B.opn
      have g3 : Ch (bl (.slice Apv (psT gV gE aN node s i ++ psB l (afX aN b s l.letter) k).length Cpv)) aC iD := (e7.step cV (fun i hm => by exact .inr hm))
      refine ⟨g3, ?_⟩
      refine dV 16 rfl rfl rfl (fun _ => Zd rfl) ?_
      refine Zw (by kernel_rfl) ?_
      refine Zq (Zb (db _ _ (Zc (Za rfl rfl (Zf rfl) (Za rfl rfl (Ye om rfl rfl) (Za rfl rfl (Zd rfl) (Ze ?_)))))))
      have fZ : Ol PStep.cs 103 4 iD (.slice u ((psT gV gE aN node s i ++ psB l (afX aN b s l.letter) k ++ [(⟨n.ed, n.bk, Yv o p.bk, ((k : Nat) : Int)⟩ : PStep)])).length y) (psT gV gE aN node s i ++ psB l (afX aN b s l.letter) (k + 1)) := by
       have hx := B
       first | exact hx.eq (Xf (Xn ap F om om) (by rw [K, am.1]) (by rw [K, am.2]) (by rw [R, a6.2])) | exact hx.eq (Xe (Xm ap F om om))
      have pL := (((P.ch0 J).ch0 ca).ch0 cb).ch cV (fun hm => by have C := a _ hm; have ay := hipv _ hm; omega)
      have pM := (((Y.ch0 J).ch0 ca).ch0 cb).ch cV (fun i hi => by have C := a _ hi; omega)
      have pN := (((Z.ch0 J).ch0 ca).ch0 cb).ch cV (fun i hi => by have C := a _ hi; omega)
      have pO := (((O.ch0 J).ch0 ca).ch0 cb).ch cV (fun hm => by have C := a _ hm; have ay := hipv _ hm; omega)
      have pP := (((aa.ch0 J).ch0 ca).ch0 cb).ch cV (fun i hi => by have C := a _ hi; omega)
      have pQ := (((ab.ch0 J).ch0 ca).ch0 cb).ch cV (fun i hi => by have C := a _ hi; omega)
      have pR := (((ac.ch0 J).ch0 ca).ch0 cb).ch cV (fun i hi => by have C := a _ hi; omega)
      have pS := ((dQ.ch0 ca).ch0 cb).ch cV (fun g hg hm => by exact e _ hm hg)
      have pT := ((dc.ch0 ca).ch0 cb).ch cV (fun hm => by exact h (by first | exact hm | exact ax ▸ hm))
      exact Zb (Exists.intro ((k + 1), (.slice u ((psT gV gE aN node s i ++ psB l (afX aN b s l.letter) k ++ [(⟨n.ed, n.bk, Yv o p.bk, ((k : Nat) : Int)⟩ : PStep)])).length y)) ⟨⟨E, om, om, pL, pM, pN, pO, pP, pQ, pR, pS, pT, fZ, (Lo.down D om), (fun g hm hg => by rcases r with ea | ea; (rw [ea] at hm; exact e _ hm hg); (have aF := z _ hm; rw [ea] at hm; have aG := List.mem_singleton.1 hm; have bd := ad _ hg; have be := M _ hg; omega)), (fun hm => by rcases r with ea | ea; (rw [ea] at hm; exact h (by first | exact hm | exact ax ▸ hm)); (rw [ea] at hm; have aG := List.mem_singleton.1 hm; omega))⟩, sC8 rfl rfl rfl rfl rfl rfl rfl rfl (sC4 rfl rfl rfl rfl (sC1 rfl (Sub.nil _))), (by first | omega | (dsimp only; omega))⟩)
     refine Zk rfl rfl rfl ?_
     refine Step.call (Zr (xs := [.tmp 98, .tmp 103]) fk101 rfl) (Yl o _ ) fun af pU G => ?_
     obtain ⟨rfl, bp⟩ := G
     have s2 := bp.size
     have E := E.trans bp
     have dR : Ch (bl (.slice Apv (psT gV gE aN node s i ++ psB l (afX aN b s l.letter) k).length Cpv)) aC pU := ((Ch.refl _ _).trans bp.of_nil)
     refine ⟨dR, ?_⟩
     refine dO 4 (Zk rfl rfl rfl ?_)
     have pV := ak.ch0 bp
     refine s_v (Zs pV agg97 sz97 rfl) ?_
     refine ⟨dR, ?_⟩
     refine dV 13 rfl rfl rfl (fun _ => Yk (parts := [(0, .tmp 97), (1, .tmp 104), (2, .tmp 105)]) (cells := [(.int .i64 n.ed), (.bool n.bk), (.int .i64 (Yv o p.bk)), (.int .i64 ((k : Nat) : Int))]) zr103 pl103 rfl rfl) (dO 14 (Zk rfl rfl rfl ?_))
     refine Zm (cs := PStep.cs) (parts := [(0, .tmp 106)]) (⟨0, false, 0, 0⟩ : PStep) [(⟨n.ed, n.bk, Yv o p.bk, ((k : Nat) : Int)⟩ : PStep)] el32 sz103 zr103 PStep.len (by decide) rfl rfl rfl (by decide) (by decide) rfl fun ag pW A S cc => ?_
     have s3 := cc.size
     have E := E.trans cc
     obtain ⟨T, U, rfl, V, L⟩ := A.opn
     have e8 : Ch (bl (.slice Apv (psT gV gE aN node s i ++ psB l (afX aN b s l.letter) k).length Cpv)) aC pW := (dR.trans cc.of_nil)
     refine ⟨e8, ?_⟩
     refine dO 15 (Zk rfl rfl rfl ?_)
     have pX := ((Q.ch0 J).ch0 bp).ch0 cc
     refine Zy (cs := PStep.cs) el32 sz103 by103 zr103 rfl (by decide) PStep.one pX A.ls rfl rfl (by have aD := Yj hg aN node s i; have aE := Ym l (afX aN b s l.letter) (k := k); simp only [List.length_append, List.length_singleton]; omega) (by have aD := Yj hg aN node s i; have aE := Ym l (afX aN b s l.letter) (k := k); simp only [List.length_append, List.length_singleton]; omega) a om fun ah iE B D r cW => ?_
     have s4 := cW.size
     have E := E.step cW (fun i hi => .inl (by have C := a _ hi; omega))
     obtain ⟨u, y, rfl, X, z⟩ := B.opn
     have g4 : Ch (bl (.slice Apv (psT gV gE aN node s i ++ psB l (afX aN b s l.letter) k).length Cpv)) aC iE := (e8.step cW (fun i hm => by exact .inr hm))
     refine ⟨g4, ?_⟩
     refine dV 16 rfl rfl rfl (fun _ => Zd rfl) ?_
     refine Zw (by kernel_rfl) ?_
     refine Zq (Zb (db _ _ (Zc (Za rfl rfl (Zf rfl) (Za rfl rfl (Ye om rfl rfl) (Za rfl rfl (Zd rfl) (Ze ?_)))))))
     have f0 : Ol PStep.cs 103 4 iE (.slice u ((psT gV gE aN node s i ++ psB l (afX aN b s l.letter) k ++ [(⟨n.ed, n.bk, Yv o p.bk, ((k : Nat) : Int)⟩ : PStep)])).length y) (psT gV gE aN node s i ++ psB l (afX aN b s l.letter) (k + 1)) := by
      have hx := B
      first | exact hx.eq (Xf (Xn ap F om om) (by rw [K, am.1]) (by rw [K, am.2]) (by rw [R, a6.2])) | exact hx.eq (Xe (Xm ap F om om))
     have pY := (((P.ch0 J).ch0 bp).ch0 cc).ch cW (fun hm => by have C := a _ hm; have ay := hipv _ hm; omega)
     have pZ := (((Y.ch0 J).ch0 bp).ch0 cc).ch cW (fun i hi => by have C := a _ hi; omega)
     have p0 := (((Z.ch0 J).ch0 bp).ch0 cc).ch cW (fun i hi => by have C := a _ hi; omega)
     have p1 := (((O.ch0 J).ch0 bp).ch0 cc).ch cW (fun hm => by have C := a _ hm; have ay := hipv _ hm; omega)
     have p2 := (((aa.ch0 J).ch0 bp).ch0 cc).ch cW (fun i hi => by have C := a _ hi; omega)
     have p3 := (((ab.ch0 J).ch0 bp).ch0 cc).ch cW (fun i hi => by have C := a _ hi; omega)
     have p4 := (((ac.ch0 J).ch0 bp).ch0 cc).ch cW (fun i hi => by have C := a _ hi; omega)
     have p5 := ((dQ.ch0 bp).ch0 cc).ch cW (fun g hg hm => by exact e _ hm hg)
     have p6 := ((dc.ch0 bp).ch0 cc).ch cW (fun hm => by exact h (by first | exact hm | exact ax ▸ hm))
     exact Zb (Exists.intro ((k + 1), (.slice u ((psT gV gE aN node s i ++ psB l (afX aN b s l.letter) k ++ [(⟨n.ed, n.bk, Yv o p.bk, ((k : Nat) : Int)⟩ : PStep)])).length y)) ⟨⟨E, om, om, pY, pZ, p0, p1, p2, p3, p4, p5, p6, f0, (Lo.down D om), (fun g hm hg => by rcases r with ea | ea; (rw [ea] at hm; exact e _ hm hg); (have aF := z _ hm; rw [ea] at hm; have aG := List.mem_singleton.1 hm; have bd := ad _ hg; have be := M _ hg; omega)), (fun hm => by rcases r with ea | ea; (rw [ea] at hm; exact h (by first | exact hm | exact ax ▸ hm)); (rw [ea] at hm; have aG := List.mem_singleton.1 hm; omega))⟩, sC8 rfl rfl rfl rfl rfl rfl rfl rfl (sC4 rfl rfl rfl rfl (sC1 rfl (Sub.nil _))), (by first | omega | (dsimp only; omega))⟩)
    refine Zk rfl rfl rfl ?_
    have dn := a4.ch0 J
    refine (Yc dn.ls GStp.len el133 sz97 rfl rfl rfl om fun cu p ao al => ?_)
    have R := Zv ao ai
    refine ⟨(Ch.refl _ _), ?_⟩
    refine dV 9 rfl rfl rfl (fun _ => Zh fa97_1 rfl) ?_
    refine Yt 3 10 (by kernel_rfl) ?_ ?_
    ·refine Zk rfl rfl rfl ?_
     refine (Yc dn.ls GStp.len el133 sz97 rfl rfl rfl om fun c8 n an ak => ?_)
     have K := Zv an ai
     refine ⟨(Ch.refl _ _), ?_⟩
     refine Yt 4 10 (by kernel_rfl) ?_ ?_
     ·refine Zk rfl rfl rfl ?_
      refine s_v (Zs ak agg97 sz97 rfl) ?_
      refine ⟨(Ch.refl _ _), ?_⟩
      refine dO 10 (Zk rfl rfl rfl ?_)
      refine s_v (Zl al agg4 rfl rfl) ?_
      refine ⟨(Ch.refl _ _), ?_⟩
      refine dO 11 (Zk rfl rfl rfl ?_)
      refine Step.call (Zr (xs := [.tmp 98, .tmp 103]) fk101 rfl) (Yl o _ ) fun af p7 G => ?_
      obtain ⟨rfl, cd⟩ := G
      have s5 := cd.size
      have E := E.trans cd
      have e9 : Ch (bl (.slice Apv (psT gV gE aN node s i ++ psB l (afX aN b s l.letter) k).length Cpv)) aC p7 := ((Ch.refl _ _).trans cd.of_nil)
      refine ⟨e9, ?_⟩
      refine dV 13 rfl rfl rfl (fun _ => Yk (parts := [(0, .tmp 97), (1, .tmp 104), (2, .tmp 105)]) (cells := [(.int .i64 n.ed), (.bool n.bk), (.int .i64 (Yv o p.bk)), (.int .i64 ((k : Nat) : Int))]) zr103 pl103 rfl rfl) (dO 14 (Zk rfl rfl rfl ?_))
      refine Zm (cs := PStep.cs) (parts := [(0, .tmp 106)]) (⟨0, false, 0, 0⟩ : PStep) [(⟨n.ed, n.bk, Yv o p.bk, ((k : Nat) : Int)⟩ : PStep)] el32 sz103 zr103 PStep.len (by decide) rfl rfl rfl (by decide) (by decide) rfl fun ag p8 A S ce => ?_
      have s6 := ce.size
      have E := E.trans ce
      obtain ⟨T, U, rfl, V, L⟩ := A.opn
      have fa : Ch (bl (.slice Apv (psT gV gE aN node s i ++ psB l (afX aN b s l.letter) k).length Cpv)) aC p8 := (e9.trans ce.of_nil)
      refine ⟨fa, ?_⟩
      refine dO 15 (Zk rfl rfl rfl ?_)
      have p9 := ((Q.ch0 J).ch0 cd).ch0 ce
      refine Zy (cs := PStep.cs) el32 sz103 by103 zr103 rfl (by decide) PStep.one p9 A.ls rfl rfl (by have aD := Yj hg aN node s i; have aE := Ym l (afX aN b s l.letter) (k := k); simp only [List.length_append, List.length_singleton]; omega) (by have aD := Yj hg aN node s i; have aE := Ym l (afX aN b s l.letter) (k := k); simp only [List.length_append, List.length_singleton]; omega) a om fun ah iF B D r cX => ?_
      have s7 := cX.size
      have E := E.step cX (fun i hi => .inl (by have C := a _ hi; omega))
      obtain ⟨u, y, rfl, X, z⟩ := B.opn
      have g5 : Ch (bl (.slice Apv (psT gV gE aN node s i ++ psB l (afX aN b s l.letter) k).length Cpv)) aC iF := (fa.step cX (fun i hm => by exact .inr hm))
      refine ⟨g5, ?_⟩
      refine dV 16 rfl rfl rfl (fun _ => Zd rfl) ?_
      refine Zw (by kernel_rfl) ?_
      refine Zq (Zb (db _ _ (Zc (Za rfl rfl (Zf rfl) (Za rfl rfl (Ye om rfl rfl) (Za rfl rfl (Zd rfl) (Ze ?_)))))))
      have f1 : Ol PStep.cs 103 4 iF (.slice u ((psT gV gE aN node s i ++ psB l (afX aN b s l.letter) k ++ [(⟨n.ed, n.bk, Yv o p.bk, ((k : Nat) : Int)⟩ : PStep)])).length y) (psT gV gE aN node s i ++ psB l (afX aN b s l.letter) (k + 1)) := by
       have hx := B
       first | exact hx.eq (Xf (Xn ap F om om) (by rw [K, am.1]) (by rw [K, am.2]) (by rw [R, a6.2])) | exact hx.eq (Xe (Xm ap F om om))
      have qa := (((P.ch0 J).ch0 cd).ch0 ce).ch cX (fun hm => by have C := a _ hm; have ay := hipv _ hm; omega)
      have qb := (((Y.ch0 J).ch0 cd).ch0 ce).ch cX (fun i hi => by have C := a _ hi; omega)
      have qc := (((Z.ch0 J).ch0 cd).ch0 ce).ch cX (fun i hi => by have C := a _ hi; omega)
      have qd := (((O.ch0 J).ch0 cd).ch0 ce).ch cX (fun hm => by have C := a _ hm; have ay := hipv _ hm; omega)
      have qe := (((aa.ch0 J).ch0 cd).ch0 ce).ch cX (fun i hi => by have C := a _ hi; omega)
      have qf := (((ab.ch0 J).ch0 cd).ch0 ce).ch cX (fun i hi => by have C := a _ hi; omega)
      have qg := (((ac.ch0 J).ch0 cd).ch0 ce).ch cX (fun i hi => by have C := a _ hi; omega)
      have qh := ((dn.ch0 cd).ch0 ce).ch cX (fun g hg hm => by exact e _ hm hg)
      have qi := ((dc.ch0 cd).ch0 ce).ch cX (fun hm => by exact h (by first | exact hm | exact ax ▸ hm))
      exact Zb (Exists.intro ((k + 1), (.slice u ((psT gV gE aN node s i ++ psB l (afX aN b s l.letter) k ++ [(⟨n.ed, n.bk, Yv o p.bk, ((k : Nat) : Int)⟩ : PStep)])).length y)) ⟨⟨E, om, om, qa, qb, qc, qd, qe, qf, qg, qh, qi, f1, (Lo.down D om), (fun g hm hg => by rcases r with ea | ea; (rw [ea] at hm; exact e _ hm hg); (have aF := z _ hm; rw [ea] at hm; have aG := List.mem_singleton.1 hm; have bd := ad _ hg; have be := M _ hg; omega)), (fun hm => by rcases r with ea | ea; (rw [ea] at hm; exact h (by first | exact hm | exact ax ▸ hm)); (rw [ea] at hm; have aG := List.mem_singleton.1 hm; omega))⟩, sC8 rfl rfl rfl rfl rfl rfl rfl rfl (sC4 rfl rfl rfl rfl (sC1 rfl (Sub.nil _))), (by first | omega | (dsimp only; omega))⟩)
     refine Zk rfl rfl rfl ?_
     refine s_v (Zl al agg4 rfl rfl) ?_
     refine ⟨(Ch.refl _ _), ?_⟩
     refine Yt 4 11 (by kernel_rfl) ?_ ?_
     ·refine Zk rfl rfl rfl ?_
      refine s_v (Zs ak agg97 sz97 rfl) ?_
      refine ⟨(Ch.refl _ _), ?_⟩
      refine dO 11 (Zk rfl rfl rfl ?_)
      refine Step.call (Zr (xs := [.tmp 98, .tmp 103]) fk101 rfl) (Yl o _ ) fun af qj G => ?_
      obtain ⟨rfl, cf⟩ := G
      have s8 := cf.size
      have E := E.trans cf
      have fb : Ch (bl (.slice Apv (psT gV gE aN node s i ++ psB l (afX aN b s l.letter) k).length Cpv)) aC qj := ((Ch.refl _ _).trans cf.of_nil)
      refine ⟨fb, ?_⟩
      refine dV 13 rfl rfl rfl (fun _ => Yk (parts := [(0, .tmp 97), (1, .tmp 104), (2, .tmp 105)]) (cells := [(.int .i64 n.ed), (.bool n.bk), (.int .i64 (Yv o p.bk)), (.int .i64 ((k : Nat) : Int))]) zr103 pl103 rfl rfl) (dO 14 (Zk rfl rfl rfl ?_))
      refine Zm (cs := PStep.cs) (parts := [(0, .tmp 106)]) (⟨0, false, 0, 0⟩ : PStep) [(⟨n.ed, n.bk, Yv o p.bk, ((k : Nat) : Int)⟩ : PStep)] el32 sz103 zr103 PStep.len (by decide) rfl rfl rfl (by decide) (by decide) rfl fun ag qk A S cg => ?_
      have s9 := cg.size
      have E := E.trans cg
      obtain ⟨T, U, rfl, V, L⟩ := A.opn
      have fc : Ch (bl (.slice Apv (psT gV gE aN node s i ++ psB l (afX aN b s l.letter) k).length Cpv)) aC qk := (fb.trans cg.of_nil)
      refine ⟨fc, ?_⟩
      refine dO 15 (Zk rfl rfl rfl ?_)
      have ql := ((Q.ch0 J).ch0 cf).ch0 cg
      refine Zy (cs := PStep.cs) el32 sz103 by103 zr103 rfl (by decide) PStep.one ql A.ls rfl rfl (by have aD := Yj hg aN node s i; have aE := Ym l (afX aN b s l.letter) (k := k); simp only [List.length_append, List.length_singleton]; omega) (by have aD := Yj hg aN node s i; have aE := Ym l (afX aN b s l.letter) (k := k); simp only [List.length_append, List.length_singleton]; omega) a om fun ah iG B D r cY => ?_
      have ta := cY.size
      have E := E.step cY (fun i hi => .inl (by have C := a _ hi; omega))
      obtain ⟨u, y, rfl, X, z⟩ := B.opn
      have g6 : Ch (bl (.slice Apv (psT gV gE aN node s i ++ psB l (afX aN b s l.letter) k).length Cpv)) aC iG := (fc.step cY (fun i hm => by exact .inr hm))
      refine ⟨g6, ?_⟩
      refine dV 16 rfl rfl rfl (fun _ => Zd rfl) ?_
      refine Zw (by kernel_rfl) ?_
      refine Zq (Zb (db _ _ (Zc (Za rfl rfl (Zf rfl) (Za rfl rfl (Ye om rfl rfl) (Za rfl rfl (Zd rfl) (Ze ?_)))))))
      have f2 : Ol PStep.cs 103 4 iG (.slice u ((psT gV gE aN node s i ++ psB l (afX aN b s l.letter) k ++ [(⟨n.ed, n.bk, Yv o p.bk, ((k : Nat) : Int)⟩ : PStep)])).length y) (psT gV gE aN node s i ++ psB l (afX aN b s l.letter) (k + 1)) := by
       have hx := B
       first | exact hx.eq (Xf (Xn ap F om om) (by rw [K, am.1]) (by rw [K, am.2]) (by rw [R, a6.2])) | exact hx.eq (Xe (Xm ap F om om))
      have qm := (((P.ch0 J).ch0 cf).ch0 cg).ch cY (fun hm => by have C := a _ hm; have ay := hipv _ hm; omega)
      have qn := (((Y.ch0 J).ch0 cf).ch0 cg).ch cY (fun i hi => by have C := a _ hi; omega)
      have qo := (((Z.ch0 J).ch0 cf).ch0 cg).ch cY (fun i hi => by have C := a _ hi; omega)
      have qp := (((O.ch0 J).ch0 cf).ch0 cg).ch cY (fun hm => by have C := a _ hm; have ay := hipv _ hm; omega)
      have qq := (((aa.ch0 J).ch0 cf).ch0 cg).ch cY (fun i hi => by have C := a _ hi; omega)
      have qr := (((ab.ch0 J).ch0 cf).ch0 cg).ch cY (fun i hi => by have C := a _ hi; omega)
      have qs := (((ac.ch0 J).ch0 cf).ch0 cg).ch cY (fun i hi => by have C := a _ hi; omega)
      have qt := ((dn.ch0 cf).ch0 cg).ch cY (fun g hg hm => by exact e _ hm hg)
      have qu := ((dc.ch0 cf).ch0 cg).ch cY (fun hm => by exact h (by first | exact hm | exact ax ▸ hm))
      exact Zb (Exists.intro ((k + 1), (.slice u ((psT gV gE aN node s i ++ psB l (afX aN b s l.letter) k ++ [(⟨n.ed, n.bk, Yv o p.bk, ((k : Nat) : Int)⟩ : PStep)])).length y)) ⟨⟨E, om, om, qm, qn, qo, qp, qq, qr, qs, qt, qu, f2, (Lo.down D om), (fun g hm hg => by rcases r with ea | ea; (rw [ea] at hm; exact e _ hm hg); (have aF := z _ hm; rw [ea] at hm; have aG := List.mem_singleton.1 hm; have bd := ad _ hg; have be := M _ hg; omega)), (fun hm => by rcases r with ea | ea; (rw [ea] at hm; exact h (by first | exact hm | exact ax ▸ hm)); (rw [ea] at hm; have aG := List.mem_singleton.1 hm; omega))⟩, sC8 rfl rfl rfl rfl rfl rfl rfl rfl (sC4 rfl rfl rfl rfl (sC1 rfl (Sub.nil _))), (by first | omega | (dsimp only; omega))⟩)
     refine Zk rfl rfl rfl ?_
     refine Step.call (Zr (xs := [.tmp 98, .tmp 103]) fk101 rfl) (Yl o _ ) fun af qv G => ?_
     obtain ⟨rfl, bq⟩ := G
     have tb := bq.size
     have E := E.trans bq
     have dU : Ch (bl (.slice Apv (psT gV gE aN node s i ++ psB l (afX aN b s l.letter) k).length Cpv)) aC qv := ((Ch.refl _ _).trans bq.of_nil)
     refine ⟨dU, ?_⟩
     refine dO 4 (Zk rfl rfl rfl ?_)
     have qw := ak.ch0 bq
     refine s_v (Zs qw agg97 sz97 rfl) ?_
     refine ⟨dU, ?_⟩
     refine dV 13 rfl rfl rfl (fun _ => Yk (parts := [(0, .tmp 97), (1, .tmp 104), (2, .tmp 105)]) (cells := [(.int .i64 n.ed), (.bool n.bk), (.int .i64 (Yv o p.bk)), (.int .i64 ((k : Nat) : Int))]) zr103 pl103 rfl rfl) (dO 14 (Zk rfl rfl rfl ?_))
     refine Zm (cs := PStep.cs) (parts := [(0, .tmp 106)]) (⟨0, false, 0, 0⟩ : PStep) [(⟨n.ed, n.bk, Yv o p.bk, ((k : Nat) : Int)⟩ : PStep)] el32 sz103 zr103 PStep.len (by decide) rfl rfl rfl (by decide) (by decide) rfl fun ag qx A S ci => ?_
     have tc := ci.size
     have E := E.trans ci
     obtain ⟨T, U, rfl, V, L⟩ := A.opn
     have fd : Ch (bl (.slice Apv (psT gV gE aN node s i ++ psB l (afX aN b s l.letter) k).length Cpv)) aC qx := (dU.trans ci.of_nil)
     refine ⟨fd, ?_⟩
     refine dO 15 (Zk rfl rfl rfl ?_)
     have qy := ((Q.ch0 J).ch0 bq).ch0 ci
     refine Zy (cs := PStep.cs) el32 sz103 by103 zr103 rfl (by decide) PStep.one qy A.ls rfl rfl (by have aD := Yj hg aN node s i; have aE := Ym l (afX aN b s l.letter) (k := k); simp only [List.length_append, List.length_singleton]; omega) (by have aD := Yj hg aN node s i; have aE := Ym l (afX aN b s l.letter) (k := k); simp only [List.length_append, List.length_singleton]; omega) a om fun ah iH B D r cZ => ?_
     have td := cZ.size
     have E := E.step cZ (fun i hi => .inl (by have C := a _ hi; omega))
     obtain ⟨u, y, rfl, X, z⟩ := B.opn
     have g7 : Ch (bl (.slice Apv (psT gV gE aN node s i ++ psB l (afX aN b s l.letter) k).length Cpv)) aC iH := (fd.step cZ (fun i hm => by exact .inr hm))
     refine ⟨g7, ?_⟩
     refine dV 16 rfl rfl rfl (fun _ => Zd rfl) ?_
     refine Zw (by kernel_rfl) ?_
     refine Zq (Zb (db _ _ (Zc (Za rfl rfl (Zf rfl) (Za rfl rfl (Ye om rfl rfl) (Za rfl rfl (Zd rfl) (Ze ?_)))))))
     have f3 : Ol PStep.cs 103 4 iH (.slice u ((psT gV gE aN node s i ++ psB l (afX aN b s l.letter) k ++ [(⟨n.ed, n.bk, Yv o p.bk, ((k : Nat) : Int)⟩ : PStep)])).length y) (psT gV gE aN node s i ++ psB l (afX aN b s l.letter) (k + 1)) := by
      have hx := B
      first | exact hx.eq (Xf (Xn ap F om om) (by rw [K, am.1]) (by rw [K, am.2]) (by rw [R, a6.2])) | exact hx.eq (Xe (Xm ap F om om))
     have qz := (((P.ch0 J).ch0 bq).ch0 ci).ch cZ (fun hm => by have C := a _ hm; have ay := hipv _ hm; omega)
     have qA := (((Y.ch0 J).ch0 bq).ch0 ci).ch cZ (fun i hi => by have C := a _ hi; omega)
     have qB := (((Z.ch0 J).ch0 bq).ch0 ci).ch cZ (fun i hi => by have C := a _ hi; omega)
     have qC := (((O.ch0 J).ch0 bq).ch0 ci).ch cZ (fun hm => by have C := a _ hm; have ay := hipv _ hm; omega)
     have qD := (((aa.ch0 J).ch0 bq).ch0 ci).ch cZ (fun i hi => by have C := a _ hi; omega)
     have qE := (((ab.ch0 J).ch0 bq).ch0 ci).ch cZ (fun i hi => by have C := a _ hi; omega)
     have qF := (((ac.ch0 J).ch0 bq).ch0 ci).ch cZ (fun i hi => by have C := a _ hi; omega)
     have qG := ((dn.ch0 bq).ch0 ci).ch cZ (fun g hg hm => by exact e _ hm hg)
     have qH := ((dc.ch0 bq).ch0 ci).ch cZ (fun hm => by exact h (by first | exact hm | exact ax ▸ hm))
     exact Zb (Exists.intro ((k + 1), (.slice u ((psT gV gE aN node s i ++ psB l (afX aN b s l.letter) k ++ [(⟨n.ed, n.bk, Yv o p.bk, ((k : Nat) : Int)⟩ : PStep)])).length y)) ⟨⟨E, om, om, qz, qA, qB, qC, qD, qE, qF, qG, qH, f3, (Lo.down D om), (fun g hm hg => by rcases r with ea | ea; (rw [ea] at hm; exact e _ hm hg); (have aF := z _ hm; rw [ea] at hm; have aG := List.mem_singleton.1 hm; have bd := ad _ hg; have be := M _ hg; omega)), (fun hm => by rcases r with ea | ea; (rw [ea] at hm; exact h (by first | exact hm | exact ax ▸ hm)); (rw [ea] at hm; have aG := List.mem_singleton.1 hm; omega))⟩, sC8 rfl rfl rfl rfl rfl rfl rfl rfl (sC4 rfl rfl rfl rfl (sC1 rfl (Sub.nil _))), (by first | omega | (dsimp only; omega))⟩)
    refine Zk rfl rfl rfl ?_
    refine s_v (Zl al agg4 rfl rfl) ?_
    refine ⟨(Ch.refl _ _), ?_⟩
    refine Yt 3 11 (by kernel_rfl) ?_ ?_
    ·refine Zk rfl rfl rfl ?_
     refine (Yc dn.ls GStp.len el133 sz97 rfl rfl rfl om fun c8 n an ak => ?_)
     have K := Zv an ai
     refine ⟨(Ch.refl _ _), ?_⟩
     refine Yt 4 11 (by kernel_rfl) ?_ ?_
     ·refine Zk rfl rfl rfl ?_
      refine s_v (Zs ak agg97 sz97 rfl) ?_
      refine ⟨(Ch.refl _ _), ?_⟩
      refine dO 11 (Zk rfl rfl rfl ?_)
      refine Step.call (Zr (xs := [.tmp 98, .tmp 103]) fk101 rfl) (Yl o _ ) fun af qI G => ?_
      obtain ⟨rfl, cj⟩ := G
      have te := cj.size
      have E := E.trans cj
      have fe : Ch (bl (.slice Apv (psT gV gE aN node s i ++ psB l (afX aN b s l.letter) k).length Cpv)) aC qI := ((Ch.refl _ _).trans cj.of_nil)
      refine ⟨fe, ?_⟩
      refine dV 13 rfl rfl rfl (fun _ => Yk (parts := [(0, .tmp 97), (1, .tmp 104), (2, .tmp 105)]) (cells := [(.int .i64 n.ed), (.bool n.bk), (.int .i64 (Yv o p.bk)), (.int .i64 ((k : Nat) : Int))]) zr103 pl103 rfl rfl) (dO 14 (Zk rfl rfl rfl ?_))
      refine Zm (cs := PStep.cs) (parts := [(0, .tmp 106)]) (⟨0, false, 0, 0⟩ : PStep) [(⟨n.ed, n.bk, Yv o p.bk, ((k : Nat) : Int)⟩ : PStep)] el32 sz103 zr103 PStep.len (by decide) rfl rfl rfl (by decide) (by decide) rfl fun ag qJ A S ck => ?_
      have tf := ck.size
      have E := E.trans ck
      obtain ⟨T, U, rfl, V, L⟩ := A.opn
      have ff : Ch (bl (.slice Apv (psT gV gE aN node s i ++ psB l (afX aN b s l.letter) k).length Cpv)) aC qJ := (fe.trans ck.of_nil)
      refine ⟨ff, ?_⟩
      refine dO 15 (Zk rfl rfl rfl ?_)
      have qK := ((Q.ch0 J).ch0 cj).ch0 ck
      refine Zy (cs := PStep.cs) el32 sz103 by103 zr103 rfl (by decide) PStep.one qK A.ls rfl rfl (by have aD := Yj hg aN node s i; have aE := Ym l (afX aN b s l.letter) (k := k); simp only [List.length_append, List.length_singleton]; omega) (by have aD := Yj hg aN node s i; have aE := Ym l (afX aN b s l.letter) (k := k); simp only [List.length_append, List.length_singleton]; omega) a om fun ah iI B D r c0 => ?_
      have tg := c0.size
      have E := E.step c0 (fun i hi => .inl (by have C := a _ hi; omega))
      obtain ⟨u, y, rfl, X, z⟩ := B.opn
      have g8 : Ch (bl (.slice Apv (psT gV gE aN node s i ++ psB l (afX aN b s l.letter) k).length Cpv)) aC iI := (ff.step c0 (fun i hm => by exact .inr hm))
      refine ⟨g8, ?_⟩
      refine dV 16 rfl rfl rfl (fun _ => Zd rfl) ?_
      refine Zw (by kernel_rfl) ?_
      refine Zq (Zb (db _ _ (Zc (Za rfl rfl (Zf rfl) (Za rfl rfl (Ye om rfl rfl) (Za rfl rfl (Zd rfl) (Ze ?_)))))))
      have f4 : Ol PStep.cs 103 4 iI (.slice u ((psT gV gE aN node s i ++ psB l (afX aN b s l.letter) k ++ [(⟨n.ed, n.bk, Yv o p.bk, ((k : Nat) : Int)⟩ : PStep)])).length y) (psT gV gE aN node s i ++ psB l (afX aN b s l.letter) (k + 1)) := by
       have hx := B
       first | exact hx.eq (Xf (Xn ap F om om) (by rw [K, am.1]) (by rw [K, am.2]) (by rw [R, a6.2])) | exact hx.eq (Xe (Xm ap F om om))
      have qL := (((P.ch0 J).ch0 cj).ch0 ck).ch c0 (fun hm => by have C := a _ hm; have ay := hipv _ hm; omega)
      have qM := (((Y.ch0 J).ch0 cj).ch0 ck).ch c0 (fun i hi => by have C := a _ hi; omega)
      have qN := (((Z.ch0 J).ch0 cj).ch0 ck).ch c0 (fun i hi => by have C := a _ hi; omega)
      have qO := (((O.ch0 J).ch0 cj).ch0 ck).ch c0 (fun hm => by have C := a _ hm; have ay := hipv _ hm; omega)
      have qP := (((aa.ch0 J).ch0 cj).ch0 ck).ch c0 (fun i hi => by have C := a _ hi; omega)
      have qQ := (((ab.ch0 J).ch0 cj).ch0 ck).ch c0 (fun i hi => by have C := a _ hi; omega)
      have qR := (((ac.ch0 J).ch0 cj).ch0 ck).ch c0 (fun i hi => by have C := a _ hi; omega)
      have qS := ((dn.ch0 cj).ch0 ck).ch c0 (fun g hg hm => by exact e _ hm hg)
      have qT := ((dc.ch0 cj).ch0 ck).ch c0 (fun hm => by exact h (by first | exact hm | exact ax ▸ hm))
      exact Zb (Exists.intro ((k + 1), (.slice u ((psT gV gE aN node s i ++ psB l (afX aN b s l.letter) k ++ [(⟨n.ed, n.bk, Yv o p.bk, ((k : Nat) : Int)⟩ : PStep)])).length y)) ⟨⟨E, om, om, qL, qM, qN, qO, qP, qQ, qR, qS, qT, f4, (Lo.down D om), (fun g hm hg => by rcases r with ea | ea; (rw [ea] at hm; exact e _ hm hg); (have aF := z _ hm; rw [ea] at hm; have aG := List.mem_singleton.1 hm; have bd := ad _ hg; have be := M _ hg; omega)), (fun hm => by rcases r with ea | ea; (rw [ea] at hm; exact h (by first | exact hm | exact ax ▸ hm)); (rw [ea] at hm; have aG := List.mem_singleton.1 hm; omega))⟩, sC8 rfl rfl rfl rfl rfl rfl rfl rfl (sC4 rfl rfl rfl rfl (sC1 rfl (Sub.nil _))), (by first | omega | (dsimp only; omega))⟩)
     refine Zk rfl rfl rfl ?_
     refine Step.call (Zr (xs := [.tmp 98, .tmp 103]) fk101 rfl) (Yl o _ ) fun af qU G => ?_
     obtain ⟨rfl, br⟩ := G
     have th := br.size
     have E := E.trans br
     have dW : Ch (bl (.slice Apv (psT gV gE aN node s i ++ psB l (afX aN b s l.letter) k).length Cpv)) aC qU := ((Ch.refl _ _).trans br.of_nil)
     refine ⟨dW, ?_⟩
     refine dO 4 (Zk rfl rfl rfl ?_)
     have qV := ak.ch0 br
     refine s_v (Zs qV agg97 sz97 rfl) ?_
     refine ⟨dW, ?_⟩
     refine dV 13 rfl rfl rfl (fun _ => Yk (parts := [(0, .tmp 97), (1, .tmp 104), (2, .tmp 105)]) (cells := [(.int .i64 n.ed), (.bool n.bk), (.int .i64 (Yv o p.bk)), (.int .i64 ((k : Nat) : Int))]) zr103 pl103 rfl rfl) (dO 14 (Zk rfl rfl rfl ?_))
     refine Zm (cs := PStep.cs) (parts := [(0, .tmp 106)]) (⟨0, false, 0, 0⟩ : PStep) [(⟨n.ed, n.bk, Yv o p.bk, ((k : Nat) : Int)⟩ : PStep)] el32 sz103 zr103 PStep.len (by decide) rfl rfl rfl (by decide) (by decide) rfl fun ag qW A S cl => ?_
     have ti := cl.size
     have E := E.trans cl
     obtain ⟨T, U, rfl, V, L⟩ := A.opn
     have fg : Ch (bl (.slice Apv (psT gV gE aN node s i ++ psB l (afX aN b s l.letter) k).length Cpv)) aC qW := (dW.trans cl.of_nil)
     refine ⟨fg, ?_⟩
     refine dO 15 (Zk rfl rfl rfl ?_)
     have qX := ((Q.ch0 J).ch0 br).ch0 cl
     refine Zy (cs := PStep.cs) el32 sz103 by103 zr103 rfl (by decide) PStep.one qX A.ls rfl rfl (by have aD := Yj hg aN node s i; have aE := Ym l (afX aN b s l.letter) (k := k); simp only [List.length_append, List.length_singleton]; omega) (by have aD := Yj hg aN node s i; have aE := Ym l (afX aN b s l.letter) (k := k); simp only [List.length_append, List.length_singleton]; omega) a om fun ah iJ B D r c1 => ?_
     have tj := c1.size
     have E := E.step c1 (fun i hi => .inl (by have C := a _ hi; omega))
     obtain ⟨u, y, rfl, X, z⟩ := B.opn
     have g9 : Ch (bl (.slice Apv (psT gV gE aN node s i ++ psB l (afX aN b s l.letter) k).length Cpv)) aC iJ := (fg.step c1 (fun i hm => by exact .inr hm))
     refine ⟨g9, ?_⟩
     refine dV 16 rfl rfl rfl (fun _ => Zd rfl) ?_
     refine Zw (by kernel_rfl) ?_
     refine Zq (Zb (db _ _ (Zc (Za rfl rfl (Zf rfl) (Za rfl rfl (Ye om rfl rfl) (Za rfl rfl (Zd rfl) (Ze ?_)))))))
     have f5 : Ol PStep.cs 103 4 iJ (.slice u ((psT gV gE aN node s i ++ psB l (afX aN b s l.letter) k ++ [(⟨n.ed, n.bk, Yv o p.bk, ((k : Nat) : Int)⟩ : PStep)])).length y) (psT gV gE aN node s i ++ psB l (afX aN b s l.letter) (k + 1)) := by
      have hx := B
      first | exact hx.eq (Xf (Xn ap F om om) (by rw [K, am.1]) (by rw [K, am.2]) (by rw [R, a6.2])) | exact hx.eq (Xe (Xm ap F om om))
     have qY := (((P.ch0 J).ch0 br).ch0 cl).ch c1 (fun hm => by have C := a _ hm; have ay := hipv _ hm; omega)
     have qZ := (((Y.ch0 J).ch0 br).ch0 cl).ch c1 (fun i hi => by have C := a _ hi; omega)
     have q0 := (((Z.ch0 J).ch0 br).ch0 cl).ch c1 (fun i hi => by have C := a _ hi; omega)
     have q1 := (((O.ch0 J).ch0 br).ch0 cl).ch c1 (fun hm => by have C := a _ hm; have ay := hipv _ hm; omega)
     have q2 := (((aa.ch0 J).ch0 br).ch0 cl).ch c1 (fun i hi => by have C := a _ hi; omega)
     have q3 := (((ab.ch0 J).ch0 br).ch0 cl).ch c1 (fun i hi => by have C := a _ hi; omega)
     have q4 := (((ac.ch0 J).ch0 br).ch0 cl).ch c1 (fun i hi => by have C := a _ hi; omega)
     have q5 := ((dn.ch0 br).ch0 cl).ch c1 (fun g hg hm => by exact e _ hm hg)
     have q6 := ((dc.ch0 br).ch0 cl).ch c1 (fun hm => by exact h (by first | exact hm | exact ax ▸ hm))
     exact Zb (Exists.intro ((k + 1), (.slice u ((psT gV gE aN node s i ++ psB l (afX aN b s l.letter) k ++ [(⟨n.ed, n.bk, Yv o p.bk, ((k : Nat) : Int)⟩ : PStep)])).length y)) ⟨⟨E, om, om, qY, qZ, q0, q1, q2, q3, q4, q5, q6, f5, (Lo.down D om), (fun g hm hg => by rcases r with ea | ea; (rw [ea] at hm; exact e _ hm hg); (have aF := z _ hm; rw [ea] at hm; have aG := List.mem_singleton.1 hm; have bd := ad _ hg; have be := M _ hg; omega)), (fun hm => by rcases r with ea | ea; (rw [ea] at hm; exact h (by first | exact hm | exact ax ▸ hm)); (rw [ea] at hm; have aG := List.mem_singleton.1 hm; omega))⟩, sC8 rfl rfl rfl rfl rfl rfl rfl rfl (sC4 rfl rfl rfl rfl (sC1 rfl (Sub.nil _))), (by first | omega | (dsimp only; omega))⟩)
    refine Zk rfl rfl rfl ?_
    refine Step.call (Zr (xs := [.tmp 98, .tmp 103]) fk101 rfl) (Yl o _ ) fun af q7 G => ?_
    obtain ⟨rfl, cm⟩ := G
    have tk := cm.size
    have E := E.trans cm
    have dp : Ch (bl (.slice Apv (psT gV gE aN node s i ++ psB l (afX aN b s l.letter) k).length Cpv)) aC q7 := ((Ch.refl _ _).trans cm.of_nil)
    refine ⟨dp, ?_⟩
    refine dO 3 (Zk rfl rfl rfl ?_)
    have iK := dn.ch0 cm
    refine (Yc iK.ls GStp.len el133 sz97 rfl rfl rfl om fun c8 n an ak => ?_)
    have K := Zv an ai
    refine ⟨dp, ?_⟩
    refine dO 4 (Zk rfl rfl rfl ?_)
    refine s_v (Zs ak agg97 sz97 rfl) ?_
    refine ⟨dp, ?_⟩
    refine dV 13 rfl rfl rfl (fun _ => Yk (parts := [(0, .tmp 97), (1, .tmp 104), (2, .tmp 105)]) (cells := [(.int .i64 n.ed), (.bool n.bk), (.int .i64 (Yv o p.bk)), (.int .i64 ((k : Nat) : Int))]) zr103 pl103 rfl rfl) (dO 14 (Zk rfl rfl rfl ?_))
    refine Zm (cs := PStep.cs) (parts := [(0, .tmp 106)]) (⟨0, false, 0, 0⟩ : PStep) [(⟨n.ed, n.bk, Yv o p.bk, ((k : Nat) : Int)⟩ : PStep)] el32 sz103 zr103 PStep.len (by decide) rfl rfl rfl (by decide) (by decide) rfl fun ag q8 A S cn => ?_
    have tl := cn.size
    have E := E.trans cn
    obtain ⟨T, U, rfl, V, L⟩ := A.opn
    have fh : Ch (bl (.slice Apv (psT gV gE aN node s i ++ psB l (afX aN b s l.letter) k).length Cpv)) aC q8 := (dp.trans cn.of_nil)
    refine ⟨fh, ?_⟩
    refine dO 15 (Zk rfl rfl rfl ?_)
    have q9 := ((Q.ch0 J).ch0 cm).ch0 cn
    refine Zy (cs := PStep.cs) el32 sz103 by103 zr103 rfl (by decide) PStep.one q9 A.ls rfl rfl (by have aD := Yj hg aN node s i; have aE := Ym l (afX aN b s l.letter) (k := k); simp only [List.length_append, List.length_singleton]; omega) (by have aD := Yj hg aN node s i; have aE := Ym l (afX aN b s l.letter) (k := k); simp only [List.length_append, List.length_singleton]; omega) a om fun ah iL B D r c2 => ?_
    have tm := c2.size
    have E := E.step c2 (fun i hi => .inl (by have C := a _ hi; omega))
    obtain ⟨u, y, rfl, X, z⟩ := B.opn
    have ha : Ch (bl (.slice Apv (psT gV gE aN node s i ++ psB l (afX aN b s l.letter) k).length Cpv)) aC iL := (fh.step c2 (fun i hm => by exact .inr hm))
    refine ⟨ha, ?_⟩
    refine dV 16 rfl rfl rfl (fun _ => Zd rfl) ?_
    refine Zw (by kernel_rfl) ?_
    refine Zq (Zb (db _ _ (Zc (Za rfl rfl (Zf rfl) (Za rfl rfl (Ye om rfl rfl) (Za rfl rfl (Zd rfl) (Ze ?_)))))))
    have f6 : Ol PStep.cs 103 4 iL (.slice u ((psT gV gE aN node s i ++ psB l (afX aN b s l.letter) k ++ [(⟨n.ed, n.bk, Yv o p.bk, ((k : Nat) : Int)⟩ : PStep)])).length y) (psT gV gE aN node s i ++ psB l (afX aN b s l.letter) (k + 1)) := by
     have hx := B
     first | exact hx.eq (Xf (Xn ap F om om) (by rw [K, am.1]) (by rw [K, am.2]) (by rw [R, a6.2])) | exact hx.eq (Xe (Xm ap F om om))
    have ra := (((P.ch0 J).ch0 cm).ch0 cn).ch c2 (fun hm => by have C := a _ hm; have ay := hipv _ hm; omega)
    have rb := (((Y.ch0 J).ch0 cm).ch0 cn).ch c2 (fun i hi => by have C := a _ hi; omega)
    have rc := (((Z.ch0 J).ch0 cm).ch0 cn).ch c2 (fun i hi => by have C := a _ hi; omega)
    have re := (((O.ch0 J).ch0 cm).ch0 cn).ch c2 (fun hm => by have C := a _ hm; have ay := hipv _ hm; omega)
    have rf := (((aa.ch0 J).ch0 cm).ch0 cn).ch c2 (fun i hi => by have C := a _ hi; omega)
    have rg := (((ab.ch0 J).ch0 cm).ch0 cn).ch c2 (fun i hi => by have C := a _ hi; omega)
    have rh := (((ac.ch0 J).ch0 cm).ch0 cn).ch c2 (fun i hi => by have C := a _ hi; omega)
    have ri := (iK.ch0 cn).ch c2 (fun g hg hm => by exact e _ hm hg)
    have rj := ((dc.ch0 cm).ch0 cn).ch c2 (fun hm => by exact h (by first | exact hm | exact ax ▸ hm))
    exact Zb (Exists.intro ((k + 1), (.slice u ((psT gV gE aN node s i ++ psB l (afX aN b s l.letter) k ++ [(⟨n.ed, n.bk, Yv o p.bk, ((k : Nat) : Int)⟩ : PStep)])).length y)) ⟨⟨E, om, om, ra, rb, rc, re, rf, rg, rh, ri, rj, f6, (Lo.down D om), (fun g hm hg => by rcases r with ea | ea; (rw [ea] at hm; exact e _ hm hg); (have aF := z _ hm; rw [ea] at hm; have aG := List.mem_singleton.1 hm; have bd := ad _ hg; have be := M _ hg; omega)), (fun hm => by rcases r with ea | ea; (rw [ea] at hm; exact h (by first | exact hm | exact ax ▸ hm)); (rw [ea] at hm; have aG := List.mem_singleton.1 hm; omega))⟩, sC8 rfl rfl rfl rfl rfl rfl rfl rfl (sC4 rfl rfl rfl rfl (sC1 rfl (Sub.nil _))), (by first | omega | (dsimp only; omega))⟩)
   have iA := F
   have F := Yq F
   refine Zu ?_
   refine Zq (Zb (db _ _ (Zc (Za rfl rfl (Zf rfl) (Za rfl rfl (Ye om rfl rfl) (Za rfl rfl (Zd rfl) (Ze ?_)))))))
   have f7 : Ol PStep.cs 103 4 iy (.slice Apv (psT gV gE aN node s i ++ psB l (afX aN b s l.letter) k).length Cpv) (psT gV gE aN node s i ++ psB l (afX aN b s l.letter) (k + 1)) := by
    have hx := Q
    first | exact hx.eq (Xf (Xn ap F om om) (by rw [K, am.1]) (by rw [K, am.2]) (by rw [R, a6.2])) | exact hx.eq (Xe (Xm ap F om om))
   exact Zb (Exists.intro ((k + 1), (.slice Apv (psT gV gE aN node s i ++ psB l (afX aN b s l.letter) k).length Cpv)) ⟨⟨E, om, om, P, Y, Z, O, aa, ab, ac, a4, ba, f7, (Lo.down a om), (fun g hm hg => by exact e _ hm hg), (fun hm => by exact h (by first | exact hm | exact ax ▸ hm))⟩, sC8 rfl rfl rfl rfl rfl rfl rfl rfl (sC4 rfl rfl rfl rfl (sC1 rfl (Sub.nil _))), (by first | omega | (dsimp only; omega))⟩)
  have iz := aW
  have aW := Yq aW
  refine Xc (Zt (Zt (Yx ?_)))
  refine Zq (Zb (i2 _ _ (Zc (Za rfl rfl (Zf rfl) (Za rfl rfl (Ye om rfl rfl) (Za rfl rfl (Zd rfl) (Ze ?_)))))))
  have f8 : Ol PStep.cs 103 4 iy (.slice Apv (psT gV gE aN node s i ++ psB l (afX aN b s l.letter) k).length Cpv) (psT gV gE aN node s (i + 1)) := by
   have hx := Q
   have eK : k = aA.length := om; subst eK; exact hx.eq (Zfe hv om gs hc)
  exact Zb (Exists.intro ((i + 1), (.slice Apv (psT gV gE aN node s i ++ psB l (afX aN b s l.letter) k).length Cpv)) ⟨⟨E, om, om, P, Y, Z, O, aa, ab, ac, a4, f8, (Lo.down a om), (fun g hm hg => by exact e _ hm hg)⟩, sC4 rfl rfl rfl rfl (sC2 rfl rfl (sC1 rfl (Sub.nil _))), (by first | omega | (dsimp only; omega))⟩)
 have i1 := dD
 have dD := Yq dD
 refine Xc (Zt (Zt (Yx ?_)))
 refine Zb (tz _ _ ?_)
 refine Zg fun u3 rk => ?_
 refine Zc (Za rfl rfl (Zf rfl) (Za rfl rfl (Zd rfl) (Ze (Zb (rk _ _ ?_)))))
 refine Yb ?_
 have hb : Ol PStep.cs 103 4 tJ (.slice Aov (psT gV gE aN node s i).length Cov) (psL gV gE aN node s) := by
  have hx := dt
  exact hx.eq (Zfa (by have q := Zkc (E := gE) (node := node); omega))
 exact Zi [_] ⟨rfl, trivial⟩ ⟨hb, Lo.down a5 om, E⟩

/-- spec.ProductSteps -/
theorem Zcf {w : World} {LL_gV D : Nat} {n : Value} {gV : List Int} (d : Ls ics 1 w LL_gV D n gV) {LL_gE F : Nat} {o : Value} {gE : List GEdge} (e : Ls GEdge.cs 4 w LL_gE F o gE) (aS : Int) {LL_aA G : Nat} {p : Value} {aA : List Bool} (f : Ls bcs 1 w LL_aA G p aA) {LL_saN z : Nat} {g : Value} {saN : List Sv} (b : Ls Sv.cs 1 w LL_saN z g saN) {LR_aN BB_aN : Nat} {aN : List (List Int)} (c : Rd ics 1 w LR_aN BB_aN saN aN) (node : Int) (s : Int) :
 Ctr Try.prog 8 #[(.agg #[n, o]), (.agg #[(.int .i64 aS), p, g]), (.int .i64 node), (.int .i64 s)] w (fun v w' => Ol PStep.cs 103 4 w' v (psR gV gE aS aA aN node s) ∧ Lo w.heap.size v ∧ Ch [] w w') := by
 obtain ⟨q, r, A⟩ := d.val
 subst A
 have aa := d.len
 have d := d.here (by decide)
 obtain ⟨t, u, B⟩ := e.val
 subst B
 have ab := e.len
 have e := e.here (by decide)
 obtain ⟨x, y, C⟩ := f.val
 subst C
 have ac := f.len
 have f := f.here (by decide)
 obtain ⟨h, i, j⟩ := b.val
 subst j
 have T := b.len
 have b := b.here (by decide)
 have c := c.here (by decide)
 have U := c.1
 have E := Ch.refl [] w
 refine Yf (N := 21) (vs0 := [(.agg #[(.slice q gV.length r), (.slice t gE.length u)]), (.agg #[(.int .i64 aS), (.slice x aA.length y), (.slice h saN.length i)]), (.int .i64 node), (.int .i64 s)]) Try.func8 rfl rfl rfl ?_
 refine Zg fun K1 H1 => ?_
 refine Zc (Zx rfl rfl ?_)
 refine Xj rfl fun aj W2 S C2 aG => ?_
 have aH := C2.size
 have E := E.trans C2
 have aI := S.lt
 replace S : Blk W2 aj 36 [(.slice q gV.length r), (.slice t gE.length u)] := S
 refine Zx rfl rfl ?_
 refine Xj rfl fun ak W3 H C3 aJ => ?_
 have aK := C3.size
 have E := E.trans C3
 have aL := H.lt
 replace H : Blk W3 ak 38 [(.int .i64 aS), (.slice x aA.length y), (.slice h saN.length i)] := H
 refine Za rfl rfl (Zd rfl) (Ze (Zb (H1 _ _ ?_)))
 refine Zg fun K4 H4 => ?_
 refine Zg fun K5 H5 => ?_
 refine Zc ?_
 have F6 := S.ch0 C3
 refine Za rfl rfl (Zs F6.at_ agg36 sz36 rfl) (Za rfl rfl (Zs H.at_ agg38 sz38 rfl) (Za rfl rfl (Zf rfl) (Za rfl rfl (Zf rfl) (Zx rfl rfl ?_))))
 have F7 := (d.ch0 C2).ch0 C3
 have F8 := (e.ch0 C2).ch0 C3
 have F9 := (f.ch0 C2).ch0 C3
 have ad := (c.ch0 C2).ch0 C3
 have ae := (b.ch0 C2).ch0 C3
 refine Step.call (Zr (xs := [.tmp 9, .tmp 10, .tmp 11, .tmp 12]) fk49 rfl) (Zeo F7 F8 _ F9 ae ad _ _ ) fun al aM V => ?_
 obtain ⟨rfl, l⟩ := V
 have am := l.size
 have E := E.trans l
 refine Za rfl rfl (Qj rfl) (Ze (Zb (H5 _ _ ?_)))
 refine Zz rfl (fun a => ?_) (fun a => ?_)
 ·have X := a
  have a := bf_t (Xv a)
  refine Zg fun aO an => ?_
  refine Zc (Zx rfl rfl ?_)
  refine Zaa (k := 4) PStep.cs el32 sz103 fun ao ap I J af => ?_
  have aq := af.size
  have E := E.trans af
  obtain ⟨K, L, rfl, ag, Y⟩ := I.opn
  refine Za rfl rfl (Zd rfl) (Ze (Zb (an _ _ ?_)))
  refine Yb (Zp ?_)
  have M : Ol PStep.cs 103 4 ap (.slice K (([] : List PStep)).length L) (psR gV gE aS aA aN node s) := by
   have hx := I
   first | exact hx.eq (Zew a) | exact hx.eq (Zht a)
  exact Zi [_] ⟨rfl, trivial⟩ ⟨M, Lo.down J om, E⟩
 have X := a
 have a := bt_t (Xw a)
 refine Zu ?_
 refine Zb (H4 _ _ ?_)
 refine Zg fun aP au => ?_
 refine Zc ?_
 have av := F6.ch0 l
 refine Za rfl rfl (Zs av.at_ agg36 sz36 rfl) ?_
 have aw := H.ch0 l
 refine Za rfl rfl (Zs aw.at_ agg38 sz38 rfl) (Za rfl rfl (Zf rfl) (Za rfl rfl (Zf rfl) (Zx rfl rfl ?_)))
 have ax := F7.ch0 l
 have ay := F8.ch0 l
 have az := F9.ch0 l
 have aB := ad.ch0 l
 have aC := ae.ch0 l
 refine Step.call (Zr (xs := [.tmp 16, .tmp 17, .tmp 18, .tmp 19]) fk50 rfl) (Zdz ax ay _ az aC aB _ _ a) fun aD aE m => ?_
 obtain ⟨m, O, ah⟩ := m
 have aF := ah.size
 have E := E.trans ah
 obtain ⟨P, Q, rfl, ai, Z⟩ := m.opn
 refine Za rfl rfl (Zd rfl) (Ze (Zb (au _ _ ?_)))
 refine Yb ?_
 have R : Ol PStep.cs 103 4 aE (.slice P (psL gV gE aN node s).length Q) (psR gV gE aS aA aN node s) := by
  have hx := m
  first | exact hx.eq (Zew a) | exact hx.eq (Zht a)
 exact Zi [_] ⟨rfl, trivial⟩ ⟨R, Lo.down O om, E⟩

/-- laws.FnExactProductSteps -/
theorem Zaq {w : World} {LL_gV cn : Nat} {br : Value} {gV : List Int} (az : Ls ics 1 w LL_gV cn br gV) {LL_gE co : Nat} {bs : Value} {gE : List GEdge} (aB : Ls GEdge.cs 4 w LL_gE co bs gE) (aS : Int) {LL_aA cp : Nat} {bu : Value} {aA : List Bool} (aC : Ls bcs 1 w LL_aA cp bu aA) {LL_saN bY : Nat} {a3 : Value} {saN : List Sv} (y : Ls Sv.cs 1 w LL_saN bY a3 saN) {LR_aN BB_aN : Nat} {aN : List (List Int)} (ab : Rd ics 1 w LR_aN BB_aN saN aN) (node : Int) (s : Int) :
 Ctr Try.prog 3 #[(.agg #[br, bs]), (.agg #[(.int .i64 aS), bu, a3]), (.int .i64 node), (.int .i64 s)] w (fun v w' => v = .bool (true) ∧ Ch [] w w') := by
 obtain ⟨bv, bw, bZ⟩ := az.val
 subst bZ
 have eS := az.len
 have az := az.here (by decide)
 obtain ⟨bz, bA, b0⟩ := aB.val
 subst b0
 have eT := aB.len
 have aB := aB.here (by decide)
 obtain ⟨bB, bC, b1⟩ := aC.val
 subst b1
 have eU := aC.len
 have aC := aC.here (by decide)
 obtain ⟨a4, a5, bh⟩ := y.val
 subst bh
 have dz := y.len
 have y := y.here (by decide)
 have ab := ab.here (by decide)
 have dA := ab.1
 have E := Ch.refl [] w
 have sl := Zlq gV gE aS aA aN node s
 refine Yf (N := 102) (vs0 := [(.agg #[(.slice bv gV.length bw), (.slice bz gE.length bA)]), (.agg #[(.int .i64 aS), (.slice bB aA.length bC), (.slice a4 saN.length a5)]), (.int .i64 node), (.int .i64 s)]) Try.func3 rfl rfl rfl ?_
 refine Zg fun K1 H1 => ?_
 refine Zc (Zx rfl rfl ?_)
 refine Xj rfl fun fX W2 dg C2 hT => ?_
 have hU := C2.size
 have E := E.trans C2
 have hV := dg.lt
 replace dg : Blk W2 fX 25 [(.slice bv gV.length bw), (.slice bz gE.length bA)] := dg
 refine Zx rfl rfl ?_
 refine Xj rfl fun fY W3 dh C3 hW => ?_
 have hX := C3.size
 have E := E.trans C3
 have hY := dh.lt
 replace dh : Blk W3 fY 29 [(.int .i64 aS), (.slice bB aA.length bC), (.slice a4 saN.length a5)] := dh
 refine Za rfl rfl (Zd rfl) (Ze (Zb (H1 _ _ ?_)))
 refine Zg fun K4 H4 => ?_
 refine Zc (Za rfl rfl (Zd rfl) (Ze (Zb (H4 _ _ ?_))))
 refine Zg fun K5 H5 => ?_
 refine Zc ?_
 have F6 := dg.ch0 C3
 refine Za rfl rfl (Zs F6.at_ agg25 sz25 rfl) (Za rfl rfl (Zf rfl) (Zx rfl rfl ?_))
 have F7 := (az.ch0 C2).ch0 C3
 have F8 := (aB.ch0 C2).ch0 C3
 refine Step.call (Zr (xs := [.tmp 18, .tmp 19]) fk6 rfl) (Zeh F7 F8 _ om om) fun fZ W9 dB => ?_
 obtain ⟨rfl, C9⟩ := dB
 have hZ := C9.size
 have E := E.trans C9
 refine Za rfl rfl (Zd rfl) (Ze (Zb (H5 _ _ ?_)))
 refine Zg fun h0 f0 => ?_
 refine Zg fun h1 f1 => ?_
 refine Zc (Za rfl rfl (Zf rfl) (Za rfl rfl (Xh rfl rfl) (Ze (Zb (f1 _ _ ?_)))))
 refine Zz rfl (fun ac => ?_) (fun ac => ?_)
 ·have dC := ac
  have ac := Yp ac
  refine Zg fun h2 f2 => ?_
  refine Zc (Za rfl rfl (Zd rfl) (Ze (Zb (f2 _ _ ?_))))
  refine Yb (Zp ?_)
  exact Zi [_] ⟨rfl, trivial⟩ ⟨congrArg Value.bool (by first | rfl | (exfalso; omega) | (exfalso; revert ac; simp; done) | (exfalso; revert ac; simp; omega)), E⟩
 have dC := ac
 have ac := Yq ac
 refine Zu ?_
 refine Zb (f0 _ _ ?_)
 refine Zg fun h3 f3 => ?_
 refine Zc ?_
 have eV := dh.ch0 C9
 refine Za rfl rfl (Zs eV.at_ agg29 sz29 rfl) (Za rfl rfl (Zf rfl) (Zx rfl rfl ?_))
 have eW := ((aC.ch0 C2).ch0 C3).ch0 C9
 have eX := ((ab.ch0 C2).ch0 C3).ch0 C9
 have eY := ((y.ch0 C2).ch0 C3).ch0 C9
 refine Step.call (Zr (xs := [.tmp 23, .tmp 24]) fk7 rfl) (Zcs _ eW eY eX _ om om) fun f4 h4 dD => ?_
 obtain ⟨rfl, bi⟩ := dD
 have f5 := bi.size
 have E := E.trans bi
 refine Za rfl rfl (Zd rfl) (Ze (Zb (f3 _ _ ?_)))
 refine Zg fun h5 f6 => ?_
 refine Zg fun h6 f7 => ?_
 refine Zc (Za rfl rfl (Zf rfl) (Za rfl rfl (Xh rfl rfl) (Ze (Zb (f7 _ _ ?_)))))
 refine Zz rfl (fun ad => ?_) (fun ad => ?_)
 ·have dE := ad
  have ad := Yp ad
  refine Zg fun h7 f8 => ?_
  refine Zc (Za rfl rfl (Zd rfl) (Ze (Zb (f8 _ _ ?_))))
  refine Yb (Zp ?_)
  exact Zi [_] ⟨rfl, trivial⟩ ⟨congrArg Value.bool (by first | rfl | (exfalso; omega) | (exfalso; revert ad; simp; done) | (exfalso; revert ad; simp; omega)), E⟩
 have dE := ad
 have ad := Yq ad
 refine Zu ?_
 refine Zb (f6 _ _ ?_)
 refine Zg fun h8 f9 => ?_
 refine Xl [] 8 mixed rfl fun dF bj => ?_
 have ga := bj.size
 have E := E.trans bj
 have eZ := ((F6.ch0 C9).ch0 bi).ch0 bj
 refine dT 0 rfl rfl rfl (Yr eZ.at_ (fun i hi => absurd hi List.not_mem_nil) agg25 sz25 rfl ?_)
 have e0 := (eV.ch0 bi).ch0 bj
 refine dT 2 rfl rfl rfl (Yr e0.at_ (fun i hi => absurd hi List.not_mem_nil) agg29 sz29 rfl ?_)
 refine dV 4 rfl rfl rfl (fun _ => Zf rfl) (dV 5 rfl rfl rfl (fun _ => Zf rfl) (dO 1 (Zk rfl rfl rfl ?_)))
 have e1 := ((F7.ch0 C9).ch0 bi).ch0 bj
 have e2 := ((F8.ch0 C9).ch0 bi).ch0 bj
 refine Step.call (Zr (xs := [.tmp 28]) fk9 rfl) (Zae e1 e2 om) fun gb gc dG => ?_
 obtain ⟨di, dj, rfl, z, bD, A, bF, aO, bb⟩ := dG
 have gd := bb.size
 have E := E.trans bb
 obtain ⟨cq, cr, rfl, ct, b2⟩ := z.opn
 obtain ⟨cu, cv, rfl, cw, b3⟩ := A.opn
 have bG : Ch [] dF gc := ((Ch.refl _ _).trans bb)
 refine ⟨bG, ?_⟩
 refine dO 3 (Zk rfl rfl rfl ?_)
 have e3 := ((eW.ch0 bi).ch0 bj).ch0 bb
 have e4 := ((eX.ch0 bi).ch0 bj).ch0 bb
 have e5 := ((eY.ch0 bi).ch0 bj).ch0 bb
 refine Step.call (Zr (xs := [.tmp 30]) fk10 rfl) (Qm _ e3 e5 e4 om) fun ge gf dH => ?_
 obtain ⟨dk, dl, ck, rfl, B, bH, C, bI, ae, bc, aP, aq, a0⟩ := dH
 have gg := a0.size
 have E := E.trans a0
 obtain ⟨cx, cy, rfl, cz, b4⟩ := B.opn
 obtain ⟨cA, cB, rfl, cC, b5⟩ := C.opn
 have bJ : Ch [] dF gf := (bG.trans a0)
 refine ⟨bJ, ?_⟩
 refine dO 6 (Zk rfl rfl rfl ?_)
 have gh := z.ch0 a0
 have gi := A.ch0 a0
 refine Step.call (Zr (xs := [.tmp 29, .tmp 31, .tmp 32, .tmp 33]) fk8 rfl) (Zcf gh.ls gi.ls _ B.ls C.ls ae.rd _ _ ) fun gj gk bk => ?_
 obtain ⟨bk, Z, bd⟩ := bk
 have gl := bd.size
 have E := E.trans bd
 obtain ⟨e6, e7, rfl, e8, u⟩ := bk.opn
 have cD : Ch [] dF gk := (bJ.trans bd)
 refine ⟨cD, ?_⟩
 refine dV 7 rfl rfl rfl (fun _ => Zd rfl) ?_
 refine Zw (by kernel_rfl) ?_
 refine Zb (f9 _ _ ?_)
 refine Zg fun h9 gm => ?_
 refine Zc ?_
 have e9 := ((eZ.ch0 bb).ch0 a0).ch0 bd
 refine Za rfl rfl (Zs e9.at_ agg25 sz25 rfl) (Zx rfl rfl ?_)
 have fa := ((e1.ch0 bb).ch0 a0).ch0 bd
 have fb := ((e2.ch0 bb).ch0 a0).ch0 bd
 refine Step.call (Zr (xs := [.tmp 35]) fk9 rfl) (Zae fa fb om) fun gn ia dI => ?_
 obtain ⟨dm, dn, rfl, D, a, F, b, q, be⟩ := dI
 have gp := be.size
 have E := E.trans be
 obtain ⟨aD, aE, rfl, cE, c⟩ := D.opn
 obtain ⟨aF, aG, rfl, cF, e⟩ := F.opn
 refine Zx rfl rfl ?_
 refine Qr zr36 fun cG gq bm a1 gr => ?_
 have gs := a1.size
 have E := E.trans a1
 have gt := bm.lt
 replace bm : Blk gq cG 36 [(.slice none 0 0), (.slice none 0 0)] := bm
 refine Zx rfl rfl ?_
 refine Qw (off := 0) 2 bm sz36 rfl (us := [(.slice aD (gV).length aE), (.slice aF (gE).length aG)]) rfl rfl rfl rfl fun fc a6 a2 => ?_
 have gu := a2.size
 have E := E.step a2 (lS om)
 replace a6 : Blk fc cG 36 [(.slice aD (gV).length aE), (.slice aF (gE).length aG)] := a6
 refine Ze (Zb (gm _ _ ?_))
 refine Zg fun ib gv => ?_
 refine Zc ?_
 have fd := (((((e0.ch0 bb).ch0 a0).ch0 bd).ch0 be).ch0 a1).ch a2 (nS om)
 refine Za rfl rfl (Zs fd.at_ agg29 sz29 rfl) (Zx rfl rfl ?_)
 have fe := ((((e3.ch0 a0).ch0 bd).ch0 be).ch0 a1).ch a2 (oS om)
 have ff := ((((e4.ch0 a0).ch0 bd).ch0 be).ch0 a1).ch a2 (oS om)
 have fg := ((((e5.ch0 a0).ch0 bd).ch0 be).ch0 a1).ch a2 (oS om)
 refine Step.call (Zr (xs := [.tmp 37]) fk10 rfl) (Qm _ fe fg ff om) fun gw gx dJ => ?_
 obtain ⟨dp, dq, aa, rfl, G, h, H, j, af, X, r, o, aZ⟩ := dJ
 have gy := aZ.size
 have E := E.trans aZ
 obtain ⟨aH, aI, rfl, cH, k⟩ := G.opn
 obtain ⟨aJ, aK, rfl, cI, l⟩ := H.opn
 refine Zx rfl rfl ?_
 refine Qr zr38 fun cJ gz bn aQ gA => ?_
 have gB := aQ.size
 have E := E.trans aQ
 have gC := bn.lt
 replace bn : Blk gz cJ 38 [(.int .i64 0), (.slice none 0 0), (.slice none 0 0)] := bn
 refine Zx rfl rfl ?_
 refine Qw (off := 0) 3 bn sz38 rfl (us := [(.int .i64 aS), (.slice aH (aA).length aI), (.slice aJ (aa).length aK)]) rfl rfl rfl rfl fun gD aY aR => ?_
 have gF := aR.size
 have E := E.step aR (lS om)
 replace aY : Blk gD cJ 38 [(.int .i64 aS), (.slice aH (aA).length aI), (.slice aJ (aa).length aK)] := aY
 refine Ze (Zb (gv _ _ ?_))
 refine Zg fun ic gG => ?_
 refine Zc ?_
 have fh := ((a6.ch0 aZ).ch0 aQ).ch aR (nS om)
 refine Za rfl rfl (Zs fh.at_ agg36 sz36 rfl) (Za rfl rfl (Zs aY.at_ agg38 sz38 rfl) (Za rfl rfl (Zf rfl) (Za rfl rfl (Zf rfl) (Zx rfl rfl ?_))))
 have fi := ((((D.ch0 a1).ch a2 (dS a c om)).ch0 aZ).ch0 aQ).ch aR (dS a c om)
 have fj := ((((F.ch0 a1).ch a2 (dS b e om)).ch0 aZ).ch0 aQ).ch aR (dS b e om)
 have fk := (G.ch0 aQ).ch aR (dS h k om)
 have fl := (af.ch0 aQ).ch aR (oS om)
 have fm := (H.ch0 aQ).ch aR (dS j l om)
 refine Step.call (Zr (xs := [.tmp 39, .tmp 40, .tmp 41, .tmp 42]) fk11 rfl) (Zap fi.ls fj.ls _ fk.ls fm.ls fl.rd _ _ ) fun gH ie a7 => ?_
 obtain ⟨a7, n, aL⟩ := a7
 have gI := aL.size
 have E := E.trans aL
 obtain ⟨fn, fo, rfl, fp, x⟩ := a7.opn
 refine Za rfl rfl (Zd rfl) (Ze (Zb (gG _ _ ?_)))
 refine Zg fun ig gJ => ?_
 refine Zg fun ih gK => ?_
 refine Zc (Za rfl rfl (Zf rfl) (Za rfl rfl (Zf rfl) (Zx rfl rfl ?_)))
 have fq := ((((((bk.ch0 be).ch0 a1).ch a2 (dS Z u om)).ch0 aZ).ch0 aQ).ch aR (dS Z u om)).ch0 aL
 refine Step.call (Zr (xs := [.tmp 44, .tmp 45]) fk12 rfl) (Qq a7.ls fq.ls ) fun gL ii dL => ?_
 obtain ⟨rfl, au⟩ := dL
 have gM := au.size
 have E := E.trans au
 refine Za rfl rfl (Qj rfl) (Ze (Zb (gK _ _ ?_)))
 refine Zz rfl (fun ag => ?_) (fun ag => ?_)
 ·have b6 := ag
  have ag := Yq (Xv ag)
  refine Zg fun ij gN => ?_
  refine Zc (Za rfl rfl (Zd rfl) (Ze (Zb (gN _ _ ?_))))
  refine Yb (Zp ?_)
  exact Zi [_] ⟨rfl, trivial⟩ ⟨congrArg Value.bool (by first | rfl | (exfalso; omega) | (exfalso; revert ag; simp; done) | (exfalso; revert ag; simp; omega)), E⟩
 have b6 := ag
 have ag := Yp (Xw ag)
 refine Zu ?_
 refine Zb (gJ _ _ ?_)
 refine Zg fun ik gO => ?_
 refine Zg fun il gP => ?_
 refine Xl [] 5 mixed rfl fun fr av => ?_
 have gQ := av.size
 have E := E.trans av
 have fs := ((fh.ch0 aL).ch0 au).ch0 av
 refine dT 0 rfl rfl rfl (Yr fs.at_ (fun i hi => absurd hi List.not_mem_nil) agg36 sz36 rfl ?_)
 have ft := ((((((((e9.ch0 be).ch0 a1).ch a2 (nS om)).ch0 aZ).ch0 aQ).ch aR (nS om)).ch0 aL).ch0 au).ch0 av
 refine dT 1 rfl rfl rfl (Yr ft.at_ (fun i hi => absurd hi List.not_mem_nil) agg25 sz25 rfl ?_)
 refine dO 2 (Zk rfl rfl rfl ?_)
 have fu := ((((((((fa.ch0 be).ch0 a1).ch a2 (oS om)).ch0 aZ).ch0 aQ).ch aR (oS om)).ch0 aL).ch0 au).ch0 av
 have fv := ((((((((fb.ch0 be).ch0 a1).ch a2 (oS om)).ch0 aZ).ch0 aQ).ch aR (oS om)).ch0 aL).ch0 au).ch0 av
 refine Step.call (Zr (xs := [.tmp 49]) fk9 rfl) (Zae fu fv om) fun gR gS dM => ?_
 obtain ⟨dr, ds, rfl, I, bK, J, bL, aT, ah⟩ := dM
 have gT := ah.size
 have E := E.trans ah
 obtain ⟨cK, cL, rfl, cM, b7⟩ := I.opn
 obtain ⟨cN, cO, rfl, cP, b8⟩ := J.opn
 have bM : Ch [] fr gS := ((Ch.refl _ _).trans ah)
 refine ⟨bM, ?_⟩
 refine dO 3 (Zk rfl rfl rfl ?_)
 have fw := (((fi.ch0 aL).ch0 au).ch0 av).ch0 ah
 have fx := (((fj.ch0 aL).ch0 au).ch0 av).ch0 ah
 refine Step.call (Zr (xs := [.tmp 48, .tmp 50]) fk13 rfl) (Zer fw.ls fx.ls I.ls J.ls ) fun gU gW dN => ?_
 obtain ⟨rfl, ai⟩ := dN
 have gX := ai.size
 have E := E.trans ai
 have cQ : Ch [] fr gW := (bM.trans ai)
 refine ⟨cQ, ?_⟩
 refine dV 4 rfl rfl rfl (fun _ => Qj rfl) ?_
 refine Zw (by kernel_rfl) ?_
 refine Zb (gP _ _ ?_)
 refine Zz rfl (fun aj => ?_) (fun aj => ?_)
 ·have dP := aj
  have aj := Yq (Xv aj)
  refine Zg fun im gY => ?_
  refine Zc (Za rfl rfl (Zd rfl) (Ze (Zb (gY _ _ ?_))))
  refine Yb (Zp ?_)
  exact Zi [_] ⟨rfl, trivial⟩ ⟨congrArg Value.bool (by first | rfl | (exfalso; omega) | (exfalso; revert aj; simp; done) | (exfalso; revert aj; simp; omega)), E⟩
 have dP := aj
 have aj := Yp (Xw aj)
 refine Zu ?_
 refine Zb (gO _ _ ?_)
 refine Zg fun io gZ => ?_
 refine Zg fun ip g0 => ?_
 refine Xl [] 5 mixed rfl fun fy aw => ?_
 have g1 := aw.size
 have E := E.trans aw
 have fz := (((((aY.ch0 aL).ch0 au).ch0 av).ch0 ah).ch0 ai).ch0 aw
 refine dT 0 rfl rfl rfl (Yr fz.at_ (fun i hi => absurd hi List.not_mem_nil) agg38 sz38 rfl ?_)
 have fA := ((((((((fd.ch0 aZ).ch0 aQ).ch aR (nS om)).ch0 aL).ch0 au).ch0 av).ch0 ah).ch0 ai).ch0 aw
 refine dT 1 rfl rfl rfl (Yr fA.at_ (fun i hi => absurd hi List.not_mem_nil) agg29 sz29 rfl ?_)
 refine dO 2 (Zk rfl rfl rfl ?_)
 have fB := ((((((((fe.ch0 aZ).ch0 aQ).ch aR (oS om)).ch0 aL).ch0 au).ch0 av).ch0 ah).ch0 ai).ch0 aw
 have fC := ((((((((ff.ch0 aZ).ch0 aQ).ch aR (oS om)).ch0 aL).ch0 au).ch0 av).ch0 ah).ch0 ai).ch0 aw
 have fD := ((((((((fg.ch0 aZ).ch0 aQ).ch aR (oS om)).ch0 aL).ch0 au).ch0 av).ch0 ah).ch0 ai).ch0 aw
 refine Step.call (Zr (xs := [.tmp 54]) fk10 rfl) (Qm _ fB fD fC om) fun g2 g3 dQ => ?_
 obtain ⟨dt, du, cl, rfl, K, bN, L, bO, ak, bf, aU, ax, al⟩ := dQ
 have g4 := al.size
 have E := E.trans al
 obtain ⟨cR, cS, rfl, cT, b9⟩ := K.opn
 obtain ⟨cU, cV, rfl, cW, ca⟩ := L.opn
 have bP : Ch [] fy g3 := ((Ch.refl _ _).trans al)
 refine ⟨bP, ?_⟩
 refine dO 3 (Zk rfl rfl rfl ?_)
 have fE := ((((((fk.ch0 aL).ch0 au).ch0 av).ch0 ah).ch0 ai).ch0 aw).ch0 al
 have fF := ((((((fl.ch0 aL).ch0 au).ch0 av).ch0 ah).ch0 ai).ch0 aw).ch0 al
 have fG := ((((((fm.ch0 aL).ch0 au).ch0 av).ch0 ah).ch0 ai).ch0 aw).ch0 al
 refine Step.call (Zr (xs := [.tmp 53, .tmp 55]) fk14 rfl) (Zct _ fE.ls fG.ls fF.rd _ K.ls L.ls ak.rd ) fun g5 dR dU => ?_
 obtain ⟨rfl, m⟩ := dU
 have fH := m.size
 have E := E.trans m
 have cb : Ch [] fy dR := (bP.trans m)
 refine ⟨cb, ?_⟩
 refine dV 4 rfl rfl rfl (fun _ => Qj rfl) ?_
 refine Zw (by kernel_rfl) ?_
 refine Zb (g0 _ _ ?_)
 refine Zz rfl (fun am => ?_) (fun am => ?_)
 ·have cX := am
  have am := Yq (Xv am)
  refine Zg fun g6 dW => ?_
  refine Zc (Za rfl rfl (Zd rfl) (Ze (Zb (dW _ _ ?_))))
  refine Yb (Zp ?_)
  exact Zi [_] ⟨rfl, trivial⟩ ⟨congrArg Value.bool (by first | rfl | (exfalso; omega) | (exfalso; revert am; simp; done) | (exfalso; revert am; simp; omega)), E⟩
 have cX := am
 have am := Yp (Xw am)
 refine Zu ?_
 refine Zb (gZ _ _ ?_)
 refine Zg fun g7 dX => ?_
 refine Zc (Za rfl rfl (Zd rfl) (Ze (Zb (dX _ _ ?_))))
 refine Zg fun g8 dY => ?_
 refine Zc ?_
 have dZ := ((((fs.ch0 ah).ch0 ai).ch0 aw).ch0 al).ch0 m
 refine Za rfl rfl (Zs dZ.at_ agg36 sz36 rfl) (Za rfl rfl (Zf rfl) (Zx rfl rfl ?_))
 have d0 := (((fw.ch0 ai).ch0 aw).ch0 al).ch0 m
 have d1 := (((fx.ch0 ai).ch0 aw).ch0 al).ch0 m
 refine Step.call (Zr (xs := [.tmp 58, .tmp 59]) fk15 rfl) (Zde d0 d1 (fun g hm hg => by exact q _ hm hg) _ om (by first | omega | (simp <;> omega))) fun g9 ha cY => ?_
 obtain ⟨rfl, cY, hb, t⟩ := cY
 have fI := t.size
 have E := E.step t (fun i hm => by rcases List.mem_append.1 hm with hm | hm; (have f := a _ hm; have p := c _ hm; left; omega); (have f := b _ hm; have p := e _ hm; left; omega))
 refine Za rfl rfl (Zd rfl) (Ze (Zb (dY _ _ ?_)))
 refine Zg fun hc d2 => ?_
 refine Zc ?_
 have d3 := ((fz.ch0 al).ch0 m).ch t (fun hm => by rcases List.mem_append.1 hm with hm | hm; (have f := a _ hm; have p := c _ hm; omega); (have f := b _ hm; have p := e _ hm; omega))
 refine Za rfl rfl (Zs d3.at_ agg38 sz38 rfl) (Za rfl rfl (Zf rfl) (Zx rfl rfl ?_))
 have d4 := (fE.ch0 m).ch t (fun g hg hm => by rcases List.mem_append.1 hm with hm | hm; (have f := a _ hm; have p := c _ hm; have bQ := h _ hg; have bR := k _ hg; omega); (have f := b _ hm; have p := e _ hm; have bQ := h _ hg; have bR := k _ hg; omega))
 have d5 := (fG.ch0 m).ch t (fun g hg hm => by rcases List.mem_append.1 hm with hm | hm; (have f := a _ hm; have p := c _ hm; have bQ := j _ hg; have bR := l _ hg; omega); (have f := b _ hm; have p := e _ hm; have bQ := j _ hg; have bR := l _ hg; omega))
 have d6 := (fF.ch0 m).ch t (fun i hm => by rcases List.mem_append.1 hm with hm | hm; (have f := a _ hm; have p := c _ hm; omega); (have f := b _ hm; have p := e _ hm; omega))
 refine Step.call (Zr (xs := [.tmp 61, .tmp 62]) fk16 rfl) (Zbx _ d4 d5 (d6.up (lo' := fc.heap.size) (hi' := gx.heap.size) om om) (fun g hm => by have f := j _ hm; have p := l _ hm; omega) X om (fun g hm => by have f := h _ hm; have p := k _ hm; omega) (fun g hm hg => by exact r _ hm hg) o _ om (by first | omega | (simp <;> omega))) fun hd he d7 => ?_
 obtain ⟨rfl, M⟩ := d7
 have fJ := M.size
 have E := E.step M (fun i hm => by have f := Zbh hm; left; omega)
 refine Za rfl rfl (Zd rfl) (Ze (Zb (d2 _ _ ?_)))
 refine Zg fun hf d8 => ?_
 refine Zg fun hh cZ => ?_
 refine Zc (Za rfl rfl (Zf rfl) (Za rfl rfl (Xh rfl rfl) (Za rfl rfl (Zf rfl) ?_)))
 refine Xg (d := 66) rfl (fun an => ?_) (fun an => ?_)
 ·have c0 := an
  have an := Yp an
  refine Zo rfl rfl (Zo rfl rfl (Zo rfl rfl (Zo rfl rfl (Za rfl rfl (Xi rfl rfl) (Ze (Zb (cZ _ _ ?_)))))))
  refine Zbk rfl ?_
  refine Zg fun hj d9 => ?_
  refine Zc (Za rfl rfl (Zd rfl) (Ze (Zb (d9 _ _ ?_))))
  refine Yb (Zp ?_)
  exact Zi [_] ⟨rfl, trivial⟩ ⟨congrArg Value.bool (by first | rfl | (exfalso; omega) | (exfalso; revert an; simp; done) | (exfalso; revert an; simp; omega)), E⟩
 have c0 := an
 have an := Yq an
 refine Za rfl rfl (Zf rfl) (Za rfl rfl (Zf rfl) (Zx rfl rfl ?_))
 have c1 := ((((((((a7.ch0 au).ch0 av).ch0 ah).ch0 ai).ch0 aw).ch0 al).ch0 m).ch t (fun g hg hm => by rcases List.mem_append.1 hm with hm | hm; (have f := a _ hm; have p := c _ hm; have bQ := n _ hg; have bR := x _ hg; omega); (have f := b _ hm; have p := e _ hm; have bQ := n _ hg; have bR := x _ hg; omega))).ch M (fun g hg hm => by have hk := Zbh hm; have f := n _ hg; have p := x _ hg; omega)
 have c2 := ((((((((fq.ch0 au).ch0 av).ch0 ah).ch0 ai).ch0 aw).ch0 al).ch0 m).ch t (fun g hg hm => by rcases List.mem_append.1 hm with hm | hm; (have f := a _ hm; have p := c _ hm; have bQ := Z _ hg; have bR := u _ hg; omega); (have f := b _ hm; have p := e _ hm; have bQ := Z _ hg; have bR := u _ hg; omega))).ch M (fun g hg hm => by have hk := Zbh hm; have f := Z _ hg; have p := u _ hg; omega)
 refine Step.call (Zr (xs := [.tmp 67, .tmp 68]) fk12 rfl) (Qq c1.ls c2.ls ) fun hl hn ea => ?_
 obtain ⟨rfl, O⟩ := ea
 have fK := O.size
 have E := E.trans O
 refine Za rfl rfl (Qj rfl) (Za rfl rfl (Xb rfl rfl) (Ze (Zb (cZ _ _ ?_))))
 refine Zdi rfl b6 ?_
 refine Zu ?_
 refine Zb (d8 _ _ ?_)
 refine Zg fun ho eb => ?_
 refine Zc (Za rfl rfl (Zd rfl) (Ze (Zb (eb _ _ ?_))))
 refine Zg fun hp ec => ?_
 refine Zc (Za rfl rfl (Zf rfl) (Za rfl rfl (Zf rfl) (Zx rfl rfl ?_)))
 have ed := c1.ch0 O
 refine Step.call (Zr (xs := [.tmp 72, .tmp 73]) fk17 rfl) (Zbd ed _ om (by first | omega | (simp <;> omega))) fun hq hr bp => ?_
 obtain ⟨rfl, bp, Y⟩ := bp
 have fL := Y.size
 have E := E.step Y (fun i hi => .inl (by have f := n _ hi; omega))
 refine Za rfl rfl (Zd rfl) (Ze (Zb (ec _ _ ?_)))
 refine Zg fun hs ee => ?_
 refine Zc (Za rfl rfl (Zd rfl) (Ze (Zb (ee _ _ ?_))))
 refine Zg fun ht ef => ?_
 refine Zc (Za rfl rfl (Zf rfl) (Za rfl rfl (Zf rfl) (Zx rfl rfl ?_)))
 refine Step.call (Zr (xs := [.tmp 75, .tmp 76]) fk18 rfl) (Zab bp.ls _ om (by first | omega | (simp <;> omega))) fun hu hv eg => ?_
 obtain ⟨rfl, P⟩ := eg
 have fM := P.size
 have E := E.trans P
 refine Za rfl rfl (Zd rfl) (Ze (Zb (ef _ _ ?_)))
 refine Zg fun hw eh => ?_
 refine Zg fun hx ei => ?_
 refine Zc (Za rfl rfl (Zf rfl) (Za rfl rfl (Xh rfl rfl) (Ze (Zb (ei _ _ ?_)))))
 refine Zz rfl (fun ao => ?_) (fun ao => ?_)
 ·have bS := ao
  have ao := Yp ao
  refine Zg fun hy ej => ?_
  refine Zc (Za rfl rfl (Zd rfl) (Ze (Zb (ej _ _ ?_))))
  refine Yb (Zp ?_)
  exact Zi [_] ⟨rfl, trivial⟩ ⟨congrArg Value.bool (by first | rfl | (exfalso; omega) | (exfalso; revert ao; simp; done) | (exfalso; revert ao; simp; omega)), E⟩
 have bS := ao
 have ao := Yq ao
 refine Zu ?_
 refine Zb (eh _ _ ?_)
 refine Zg fun hz ek => ?_
 refine Zg fun hA el => ?_
 refine Zc (Za rfl rfl (Zf rfl) (Za rfl rfl (Zf rfl) (Za rfl rfl (Qu rfl rfl) (Ze (Zb (el _ _ ?_))))))
 refine Zz rfl (fun Q => ?_) (fun Q => ?_)
 ·have bT := Q
  have Q := Yq (Xv Q)
  refine Zg fun hB em => ?_
  refine Zc (Za rfl rfl (Zd rfl) (Ze (Zb (em _ _ ?_))))
  refine Yb (Zp ?_)
  exact Zi [_] ⟨rfl, trivial⟩ ⟨congrArg Value.bool (by first | rfl | (exfalso; omega) | (exfalso; revert Q; simp; done) | (exfalso; revert Q; simp; omega)), E⟩
 have bT := Q
 have Q := Yp (Xw Q)
 refine Zu ?_
 refine Zb (ek _ _ ?_)
 refine Zg fun hC en => ?_
 refine Xl [] 8 mixed rfl fun cc R => ?_
 have fN := R.size
 have E := E.trans R
 have eo := ((((((((((ft.ch0 ah).ch0 ai).ch0 aw).ch0 al).ch0 m).ch t (fun hm => by rcases List.mem_append.1 hm with hm | hm; (have f := a _ hm; have p := c _ hm; omega); (have f := b _ hm; have p := e _ hm; omega))).ch M (fun hm => by have f := Zbh hm; omega)).ch0 O).ch Y (fun hm => by have f := n _ hm; have p := x _ hm; omega)).ch0 P).ch0 R
 refine dT 0 rfl rfl rfl (Yr eo.at_ (fun i hi => absurd hi List.not_mem_nil) agg25 sz25 rfl ?_)
 have ep := (((((((fA.ch0 al).ch0 m).ch t (fun hm => by rcases List.mem_append.1 hm with hm | hm; (have f := a _ hm; have p := c _ hm; omega); (have f := b _ hm; have p := e _ hm; omega))).ch M (fun hm => by have f := Zbh hm; omega)).ch0 O).ch Y (fun hm => by have f := n _ hm; have p := x _ hm; omega)).ch0 P).ch0 R
 refine dT 2 rfl rfl rfl (Yr ep.at_ (fun i hi => absurd hi List.not_mem_nil) agg29 sz29 rfl ?_)
 refine dV 4 rfl rfl rfl (fun _ => Zf rfl) (dV 5 rfl rfl rfl (fun _ => Zf rfl) (dO 1 (Zk rfl rfl rfl ?_)))
 have er := ((((((((((fu.ch0 ah).ch0 ai).ch0 aw).ch0 al).ch0 m).ch t (fun i hm => by rcases List.mem_append.1 hm with hm | hm; (have f := a _ hm; have p := c _ hm; omega); (have f := b _ hm; have p := e _ hm; omega))).ch M (fun i hm => by have f := Zbh hm; omega)).ch0 O).ch Y (fun i hi => by have f := n _ hi; omega)).ch0 P).ch0 R
 have es := ((((((((((fv.ch0 ah).ch0 ai).ch0 aw).ch0 al).ch0 m).ch t (fun i hm => by rcases List.mem_append.1 hm with hm | hm; (have f := a _ hm; have p := c _ hm; omega); (have f := b _ hm; have p := e _ hm; omega))).ch M (fun i hm => by have f := Zbh hm; omega)).ch0 O).ch Y (fun i hi => by have f := n _ hi; omega)).ch0 P).ch0 R
 refine Step.call (Zr (xs := [.tmp 83]) fk9 rfl) (Zae er es om) fun hD et eu => ?_
 obtain ⟨dv, dw, rfl, S, bU, T, bV, aV, aM⟩ := eu
 have fO := aM.size
 have E := E.trans aM
 obtain ⟨c3, c4, rfl, c5, cd⟩ := S.opn
 obtain ⟨c6, c7, rfl, c8, ce⟩ := T.opn
 have a8 : Ch [] cc et := ((Ch.refl _ _).trans aM)
 refine ⟨a8, ?_⟩
 refine dO 3 (Zk rfl rfl rfl ?_)
 have ew := ((((((((fB.ch0 al).ch0 m).ch t (fun i hm => by rcases List.mem_append.1 hm with hm | hm; (have f := a _ hm; have p := c _ hm; omega); (have f := b _ hm; have p := e _ hm; omega))).ch M (fun i hm => by have f := Zbh hm; omega)).ch0 O).ch Y (fun i hi => by have f := n _ hi; omega)).ch0 P).ch0 R).ch0 aM
 have ex := ((((((((fC.ch0 al).ch0 m).ch t (fun i hm => by rcases List.mem_append.1 hm with hm | hm; (have f := a _ hm; have p := c _ hm; omega); (have f := b _ hm; have p := e _ hm; omega))).ch M (fun i hm => by have f := Zbh hm; omega)).ch0 O).ch Y (fun i hi => by have f := n _ hi; omega)).ch0 P).ch0 R).ch0 aM
 have ey := ((((((((fD.ch0 al).ch0 m).ch t (fun i hm => by rcases List.mem_append.1 hm with hm | hm; (have f := a _ hm; have p := c _ hm; omega); (have f := b _ hm; have p := e _ hm; omega))).ch M (fun i hm => by have f := Zbh hm; omega)).ch0 O).ch Y (fun i hi => by have f := n _ hi; omega)).ch0 P).ch0 R).ch0 aM
 refine Step.call (Zr (xs := [.tmp 85]) fk10 rfl) (Qm _ ew ey ex om) fun hE ez eA => ?_
 obtain ⟨dx, dy, cm, rfl, U, bW, V, bX, ap, bg, aW, ay, aX⟩ := eA
 have fP := aX.size
 have E := E.trans aX
 obtain ⟨c9, da, rfl, db, cf⟩ := U.opn
 obtain ⟨dc, dd, rfl, de, cg⟩ := V.opn
 have a9 : Ch [] cc ez := (a8.trans aX)
 refine ⟨a9, ?_⟩
 refine dO 6 (Zk rfl rfl rfl ?_)
 have eB := S.ch0 aX
 have eC := T.ch0 aX
 refine Step.call (Zr (xs := [.tmp 84, .tmp 86, .tmp 87, .tmp 88]) fk11 rfl) (Zap eB.ls eC.ls _ U.ls V.ls ap.rd _ _ ) fun hF eD bq => ?_
 obtain ⟨bq, fQ, ba⟩ := bq
 have fR := ba.size
 have E := E.trans ba
 obtain ⟨fS, fT, rfl, fU, eE⟩ := bq.opn
 have ci : Ch [] cc eD := (a9.trans ba)
 refine ⟨ci, ?_⟩
 refine dV 7 rfl rfl rfl (fun _ => Zd rfl) ?_
 refine Zw (by kernel_rfl) ?_
 refine Zb (en _ _ ?_)
 refine Zg fun hG eF => ?_
 refine Zg fun hH eG => ?_
 refine Zc (Za rfl rfl (Zf rfl) (Za rfl rfl (Zf rfl) (Zx rfl rfl ?_)))
 have eH := ((((((c2.ch0 O).ch Y (fun g hg hm => by have f := n _ hm; have p := x _ hm; have bQ := Z _ hg; have bR := u _ hg; omega)).ch0 P).ch0 R).ch0 aM).ch0 aX).ch0 ba
 refine Step.call (Zr (xs := [.tmp 90, .tmp 91]) fk12 rfl) (Qq bq.ls eH.ls ) fun hI hJ eI => ?_
 obtain ⟨rfl, cj⟩ := eI
 have fV := cj.size
 have E := E.trans cj
 refine Za rfl rfl (Qj rfl) (Ze (Zb (eG _ _ ?_)))
 refine Zdi rfl b6 ?_
 refine Zu ?_
 refine Zb (eF _ _ ?_)
 refine Zg fun hK eJ => ?_
 refine Zc (Za rfl rfl (Zd rfl) (Ze (Zb (eJ _ _ ?_))))
 refine Zg fun hL eK => ?_
 refine Zc (Za rfl rfl (Zf rfl) (Za rfl rfl (Zf rfl) (Zx rfl rfl ?_)))
 have eL := (((((bp.ch0 P).ch0 R).ch0 aM).ch0 aX).ch0 ba).ch0 cj
 refine Step.call (Zr (xs := [.tmp 94, .tmp 95]) fk18 rfl) (Zab eL.ls _ om (by first | omega | (simp <;> omega))) fun hM hN eM => ?_
 obtain ⟨rfl, df⟩ := eM
 have fW := df.size
 have E := E.trans df
 refine Za rfl rfl (Zd rfl) (Ze (Zb (eK _ _ ?_)))
 refine Zg fun hO eN => ?_
 refine Zg fun hP eO => ?_
 refine Zc (Za rfl rfl (Zf rfl) (Za rfl rfl (Xh rfl rfl) (Ze (Zb (eO _ _ ?_)))))
 refine Zdi rfl bS ?_
 refine Zu ?_
 refine Zb (eN _ _ ?_)
 refine Zg fun hQ eP => ?_
 refine Zg fun hR eQ => ?_
 refine Zc (Za rfl rfl (Zf rfl) (Za rfl rfl (Zf rfl) (Za rfl rfl (Qu rfl rfl) (Ze (Zb (eQ _ _ ?_))))))
 refine Zdi rfl bT ?_
 refine Zu ?_
 refine Zb (eP _ _ ?_)
 refine Zg fun hS eR => ?_
 refine Zc (Za rfl rfl (Zd rfl) (Ze (Zb (eR _ _ ?_))))
 refine Yb ?_
 exact Zi [_] ⟨rfl, trivial⟩ ⟨congrArg Value.bool (by first | rfl | (exfalso; omega) | (exfalso; revert Q; simp; done) | (exfalso; revert Q; simp; omega)), E⟩

end Go.Proofs.Ytkmhgeppenifoaa
