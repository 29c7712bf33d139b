/- Walks of functions that FnExactProductSteps reaches: what each returns, and that it leaves the memory that was there alone. -/
import Derived.Test.YtkmhgeppenifoaaLibA
import Derived.Test.YtkmhgeppenifoaaLibB
import Derived.Test.YtkmhgeppenifoaaWExactProductSteps
import Derived.Test.YtkmhgeppenifoaaProg
namespace Go.Proofs.Ytkmhgeppenifoaa
open Go.KLib Go.Shelf
set_option maxHeartbeats 1000000
set_option maxRecDepth 20000
set_option linter.unusedVariables false
set_option linter.unusedSimpArgs false
namespace TExactProductStepsb
theorem agg129 : Ys Try.prog 129 = some true := by kernel_rfl
theorem agg22 : Ys Try.prog 22 = some false := by kernel_rfl
theorem agg26 : Ys Try.prog 26 = some false := by kernel_rfl
theorem agg27 : Ys Try.prog 27 = some false := by kernel_rfl
theorem agg3 : Ys Try.prog 3 = some false := by kernel_rfl
theorem agg34 : Ys Try.prog 34 = some false := by kernel_rfl
theorem agg93 : Ys Try.prog 93 = some false := by kernel_rfl
theorem by93 : Zan Try.prog 93 = some 24 := by kernel_rfl
theorem by99 : Zan Try.prog 99 = some 32 := by kernel_rfl
theorem el22 : elB Try.prog 22 = some 3 := by kernel_rfl
theorem el26 : elB Try.prog 26 = some 4 := by kernel_rfl
theorem el27 : elB Try.prog 27 = some 22 := by kernel_rfl
theorem el34 : elB Try.prog 34 = some 129 := by kernel_rfl
theorem el93 : elB Try.prog 93 = some 99 := by kernel_rfl
theorem el94 : elB Try.prog 94 = some 93 := by kernel_rfl
theorem fa129_0 : faB Try.prog 129 0 = some 0 := by kernel_rfl
theorem fa129_1 : faB Try.prog 129 1 = some 1 := by kernel_rfl
theorem fa129_2 : faB Try.prog 129 2 = some 2 := by kernel_rfl
theorem fa129_3 : faB Try.prog 129 3 = some 3 := by kernel_rfl
theorem fa36_0 : faB Try.prog 36 0 = some 0 := by kernel_rfl
theorem fa36_1 : faB Try.prog 36 1 = some 1 := by kernel_rfl
theorem fa38_0 : faB Try.prog 38 0 = some 0 := by kernel_rfl
theorem fa38_1 : faB Try.prog 38 1 = some 1 := by kernel_rfl
theorem fa38_2 : faB Try.prog 38 2 = some 2 := by kernel_rfl
theorem fk104 : fnB Try.prog 104 = true := by kernel_rfl
theorem fk85 : fnB Try.prog 85 = true := by kernel_rfl
theorem mixed : Try.prog.follows .mixedOrders = true := by kernel_rfl
theorem pl97 : Zcb Try.prog 97 = some [(0, 1), (1, 1)] := by kernel_rfl
theorem pl99 : Zcb Try.prog 99 = some [(0, 2), (2, 1), (3, 1)] := by kernel_rfl
theorem sz129 : Yh Try.prog 129 = some 4 := by kernel_rfl
theorem sz22 : Yh Try.prog 22 = some 1 := by kernel_rfl
theorem sz3 : Yh Try.prog 3 = some 1 := by kernel_rfl
theorem sz93 : Yh Try.prog 93 = some 1 := by kernel_rfl
theorem sz99 : Yh Try.prog 99 = some 4 := by kernel_rfl
theorem zr129 : Xz Try.prog 129 = some (.agg #[.int .i64 0, .int .i64 0, .int .i64 0, .int .i64 0]) := by kernel_rfl
theorem zr93 : Xz Try.prog 93 = some (.slice none 0 0) := by kernel_rfl
theorem zr97 : Xz Try.prog 97 = some (.agg #[.int .i64 0, .bool false]) := by kernel_rfl
theorem zr99 : Xz Try.prog 99 = some (.agg #[.int .i64 0, .bool false, .int .i64 0, .int .i64 0]) := by kernel_rfl
end TExactProductStepsb
open TExactProductStepsb

/-- impl.arcs -/
theorem Zhd {w : World} {LL_gV ko : Nat} {hJ : Value} {gV : List Int} (c5 : Ls ics 1 w LL_gV ko hJ gV) {LL_gE kp : Nat} {hK : Value} {gE : List GEdge} (bz : Ls GEdge.cs 4 w LL_gE kp hK gE) (hg : Qc gV gE)  :
 Ctr Try.prog 57 #[(.agg #[hJ, hK])] w (fun v w' => ∃ (mh : Value) (vs0 : List Sv), v = mh ∧ Ol Sv.cs 93 1 w' mh vs0 ∧ Lo w.heap.size mh ∧ Od Arc.cs 99 4 w' w.heap.size w'.heap.size vs0 (Qv gV gE) ∧ Sep mh vs0 ∧ Ch [] w w') := by
 obtain ⟨hL, hM, hV⟩ := c5.val
 subst hV
 have pm := c5.len
 have c5 := c5.here (by decide)
 obtain ⟨em, en, hW⟩ := bz.val
 subst hW
 have pn := bz.len
 have bz := bz.here (by decide)
 have E := Ch.refl [] w
 have sK := hg.2.2.1; have sL := hg.2.2.2
 refine Yf (N := 57) (vs0 := [(.agg #[(.slice hL gV.length hM), (.slice em gE.length en)])]) Try.func57 rfl rfl rfl ?_
 refine Zg fun K1 H1 => ?_
 refine Zc (Zx rfl rfl ?_)
 refine Xj rfl fun rQ W2 kq C2 sM => ?_
 have sN := C2.size
 have E := E.trans C2
 have kh := kq.lt
 replace kq : Blk W2 rQ 36 [(.slice hL gV.length hM), (.slice em gE.length en)] := kq
 refine Za rfl rfl (Zd rfl) (Ze (Zb (H1 _ _ ?_)))
 refine Zg fun K3 H3 => ?_
 refine Zc (Za rfl rfl (Zh fa36_0 rfl) (Za rfl rfl (Zl kq.at_ agg22 rfl rfl) (Za rfl rfl (Yz (by rw [el22]; rfl) rfl) (Zx rfl rfl ?_))))
 refine Zfv (cs := Sv.cs) (⟨none, 0, 0⟩ : Sv) el94 sz93 by93 zr93 Sv.len (by decide) rfl rfl om om fun sO W4 po mr C4 => ?_
 have sP := C4.size
 have E := E.trans C4
 obtain ⟨kr, ks, rfl, rR, pp⟩ := po.opn
 refine Za rfl rfl (Zd rfl) (Ze (Zb (H3 _ _ ?_)))
 refine Zg fun K5 H5 => ?_
 refine Zg fun K6 H6 => ?_
 refine Zc (Za rfl rfl (Zh fa36_1 rfl) ?_)
 have F7 := kq.ch0 C4
 refine Za rfl rfl (Zl F7.at_ agg34 rfl rfl) (Za rfl rfl (Yz (by rw [el34]; rfl) rfl) (Za rfl rfl (Zf rfl) (Ze (Zb (H6 _ _ ?_)))))
 refine Yd ?_
 have kt : Ol Sv.cs 93 1 W4 (.slice kr ((List.replicate gV.length (⟨none, 0, 0⟩ : Sv))).length ks) (List.replicate gV.length (⟨none, 0, 0⟩ : Sv)) := by
  have hx := po
  exact hx
 refine Xd (σ := Nat × List Sv × Value) (fun ⟨k, vs, ov⟩ => [(2, (.slice none 0 0)), (3, ov), (11, (.slice em gE.length en)), (12, (.int .i64 ((gE.length : Nat) : Int))), (13, (.int .i64 ((k : Nat) : Int)))]) (fun ⟨k, vs, ov⟩ wx => Ch [] w wx ∧ W4.heap.size ≤ wx.heap.size ∧ (k ≤ gE.length) ∧ (vs.length = gV.length) ∧ Ol Sv.cs 93 1 wx ov vs ∧ Lo W2.heap.size ov ∧ Od Arc.cs 99 4 wx W4.heap.size wx.heap.size vs (Qv gV (gE.take k)) ∧ (Sep ov vs)) (fun ⟨k, vs, ov⟩ => gE.length - k) (0, List.replicate gV.length (⟨none, 0, 0⟩ : Sv), (.slice kr ((List.replicate gV.length (⟨none, 0, 0⟩ : Sv))).length ks)) (sC4 rfl rfl rfl rfl (sC1 rfl (Sub.nil _))) ⟨E, (Nat.le_refl _), om, (by simp), kt, mr, ((Od.nils _).eq (Zli gV)), (Sep.nils _)⟩ ?_
 rintro ⟨k, vs, ov⟩ R9 ⟨E, rS, sQ, hvl, eo, l, od, c6⟩
 have ku := E
 have pq := ku.size
 obtain ⟨Aov, Cov, rfl, lov, hiov⟩ := eo.opn
 refine Zg fun sR rT => ?_
 refine Zc (Za rfl rfl (Xh rfl rfl) (Ze (Zb (rT _ _ ?_))))
 refine Zg fun sS rU => ?_
 refine Zz rfl (fun bU => ?_) (fun bU => ?_)
 ·have ms := bU
  have bU := Yp bU
  refine Zu ?_
  refine Zb (rU _ _ ?_)
  refine Zg fun sT aC => ?_
  refine Yd ?_
  refine Zg fun sU rV => ?_
  refine Zc (Zx rfl rfl ?_)
  have rW := bz.ch0 ku
  refine (Yc rW GEdge.len el34 sz129 rfl rfl rfl om fun rX a O mt => ?_)
  have el15 := Zbs hg O
  refine Za rfl rfl (Zs mt agg129 sz129 rfl) (Zx rfl rfl ?_)
  refine Qr zr129 fun av rY mi mj sV => ?_
  have rZ := mj.size
  have E := E.trans mj
  have sW := mi.lt
  replace mi : Blk rY av 129 [(.int .i64 0), (.int .i64 0), (.int .i64 0), (.int .i64 0)] := mi
  refine Zx rfl rfl ?_
  refine Qw (off := 0) 4 mi sz129 rfl (us := [(.int .i64 a.id), (.int .i64 a.f), (.int .i64 a.t), (.int .i64 a.label)]) rfl rfl rfl rfl fun pr ep ml => ?_
  have r0 := ml.size
  have E := E.step ml (lS om)
  replace ep : Blk pr av 129 [(.int .i64 a.id), (.int .i64 a.f), (.int .i64 a.t), (.int .i64 a.label)] := ep
  refine Ze (Zb (rV _ _ ?_))
  refine Zg fun sX ki => ?_
  have mu := (eo.ch0 mj).ch ml (dS l hiov om)
  have hN := (od.ch0 mj).ch ml (oS om)
  have hX := (hN).1
  rw [Qa] at hX
  obtain ⟨kv, aK⟩ := Zaj (xs := vs) (j := a.f.toNat) om
  have aT : Sep (.slice Aov (vs).length Cov) vs := c6
  have aL := aT _ (Xa aK)
  obtain ⟨h, B, aw, er⟩ := hN.ownget aK
  have ak := aK
  obtain ⟨aa, ps, ab⟩ := kv
  obtain rfl := aw.ls.eqn
  have pt := aw.len
  have M : Lo W4.heap.size (.slice aa h.length ab) := fun g hg => (er g hg).1
  have al : ∀ g ∈ bl (.slice aa h.length ab), g < R9.heap.size := fun g hg => (er g hg).2
  replace aw : Ol Arc.cs 99 4 pr (.slice aa h.length ab) h := aw
  have bd := Zgj hg B
  refine Xl ((bl (.slice aa h.length ab)) ++ (bl (.slice Aov (vs).length Cov))) 20 mixed rfl fun aU bv => ?_
  have r1 := bv.size
  have E := E.trans bv
  refine dV 0 rfl rfl rfl (fun _ => Zf rfl) (dV 1 rfl rfl rfl (fun _ => Zh fa129_1 rfl) ?_)
  have es := ep.ch0 bv
  refine dT 2 rfl rfl rfl (Yo es.at_ (fun i hm => by rcases List.mem_append.1 hm with hm | hm; (have x := M _ hm; have Y := al _ hm; omega); (have x := l _ hm; have Y := hiov _ hm; omega)) agg3 rfl rfl ?_)
  refine dV 3 rfl rfl rfl (fun _ => Zf rfl) (dV 4 rfl rfl rfl (fun _ => Zh fa129_1 rfl) ?_)
  refine dT 5 rfl rfl rfl (Yo es.at_ (fun i hm => by rcases List.mem_append.1 hm with hm | hm; (have x := M _ hm; have Y := al _ hm; omega); (have x := l _ hm; have Y := hiov _ hm; omega)) agg3 rfl rfl ?_)
  refine dV 8 rfl rfl rfl (fun _ => Zh fa129_0 rfl) ?_
  refine dT 9 rfl rfl rfl (Yo es.at_ (fun i hm => by rcases List.mem_append.1 hm with hm | hm; (have x := M _ hm; have Y := al _ hm; omega); (have x := l _ hm; have Y := hiov _ hm; omega)) agg3 rfl rfl ?_)
  refine dV 10 rfl rfl rfl (fun _ => Yk (parts := [(0, .tmp 26)]) (cells := [(.int .i64 a.id), (.bool false)]) zr97 pl97 rfl rfl) ?_
  refine dT 11 rfl rfl rfl (Yr es.at_ (fun i hm => by rcases List.mem_append.1 hm with hm | hm; (have x := M _ hm; have Y := al _ hm; omega); (have x := l _ hm; have Y := hiov _ hm; omega)) agg129 sz129 rfl ?_)
  refine dV 13 rfl rfl rfl (fun _ => Zh fa129_2 rfl) ?_
  refine dT 14 rfl rfl rfl (Yo es.at_ (fun i hm => by rcases List.mem_append.1 hm with hm | hm; (have x := M _ hm; have Y := al _ hm; omega); (have x := l _ hm; have Y := hiov _ hm; omega)) agg3 rfl rfl ?_)
  refine Yt 6 12 (by kernel_rfl) ?_ ?_
  ·refine Zk rfl rfl rfl ?_
   have mm := mu.ch0 bv
   refine (Yc (j := a.f.toNat) mm.ls Sv.len el94 sz93 rfl rfl om om fun et kw bA aI => ?_)
   obtain rfl := Zv aK bA
   replace aI : At aU 0 aU.heap.size et ([(.slice aa h.length ab)]) := aI
   refine ⟨(Ch.refl _ _), ?_⟩
   refine Yt 7 12 (by kernel_rfl) ?_ ?_
   ·refine Zk rfl rfl rfl ?_
    refine s_v (Ya aI agg93 rfl rfl) ?_
    refine ⟨(Ch.refl _ _), ?_⟩
    refine dO 12 (Zk rfl rfl rfl ?_)
    refine Step.call (Zr (xs := [.tmp 28, .const (Go.Value.bool false)]) fk104 rfl) (Yy a _ om) fun kx r2 eu => ?_
    obtain ⟨rfl, hY⟩ := eu
    have r3 := hY.size
    have E := E.trans hY
    have hO : Ch ((bl (.slice aa h.length ab)) ++ (bl (.slice Aov (vs).length Cov))) aU r2 := ((Ch.refl _ _).trans hY.of_nil)
    refine ⟨hO, ?_⟩
    refine dV 15 rfl rfl rfl (fun _ => Yk (parts := [(0, .tmp 27), (1, .tmp 29), (2, .tmp 31)]) (cells := [(.int .i64 a.id), (.bool false), (.int .i64 (Zj a false)), (.int .i64 a.t)]) zr99 pl99 rfl rfl) (dO 16 (Zk rfl rfl rfl ?_))
    refine Zm (cs := Arc.cs) (parts := [(0, .tmp 32)]) (⟨0, false, 0, 0⟩ : Arc) [(⟨a.id, false, Zj a false, a.t⟩ : Arc)] el93 sz99 zr99 Arc.len (by decide) rfl rfl rfl (by decide) (by decide) rfl fun ew r4 aD bB hZ => ?_
    have r5 := hZ.size
    have E := E.trans hZ
    obtain ⟨bC, bD, rfl, bF, aV⟩ := aD.opn
    have hP : Ch ((bl (.slice aa h.length ab)) ++ (bl (.slice Aov (vs).length Cov))) aU r4 := (hO.trans hZ.of_nil)
    refine ⟨hP, ?_⟩
    refine dO 17 (Zk rfl rfl rfl ?_)
    have r6 := ((aw.ch0 bv).ch0 hY).ch0 hZ
    have pv := ((hN.ch0 bv).ch0 hY).ch0 hZ
    refine Zy (cs := Arc.cs) el93 sz99 by99 zr99 rfl (by decide) Arc.one r6 aD.ls rfl rfl (by simp only [List.length_append, List.length_singleton]; omega) (by simp only [List.length_append, List.length_singleton]; omega) M om fun ex fP aE bG ac kj => ?_
    have r7 := kj.size
    have E := E.step kj (fun i hi => .inl (by have x := M _ hi; omega))
    obtain ⟨o, p, rfl, bH, Z⟩ := aE.opn
    have h0 := Od.put (v' := (⟨o, ((h ++ [(⟨a.id, false, Zj a false, a.t⟩ : Arc)])).length, p⟩ : Sv)) (hi' := fP.heap.size) pv ak B kj (fun g hg => hg) aE (fun g hg => by have e : g ∈ bl (.slice o ((h ++ [(⟨a.id, false, Zj a false, a.t⟩ : Arc)])).length p) := hg; rcases ac with ea | ea; (left; rw [ea] at e; exact e); (right; exact ⟨by first | (have x := ea _ e; omega) | (rw [ea] at e; have x := List.mem_singleton.1 e; omega), Z g e⟩)) om om
    have ey : Sep (.slice Aov (vs).length Cov) (vs.set a.f.toNat (⟨o, ((h ++ [(⟨a.id, false, Zj a false, a.t⟩ : Arc)])).length, p⟩ : Sv)) := Sep.put (hi' := fP.heap.size) (hi := R9.heap.size) aT ak (fun g hg => by have e : g ∈ bl (.slice o ((h ++ [(⟨a.id, false, Zj a false, a.t⟩ : Arc)])).length p) := hg; rcases ac with ea | ea; (left; rw [ea] at e; exact e); (right; exact ⟨by first | (have x := ea _ e; omega) | (rw [ea] at e; have x := List.mem_singleton.1 e; omega), Z g e⟩)) (fun g hm => by have x := l _ hm; have Y := hiov _ hm; omega)
    have ky : ∀ u ∈ (vs.set a.f.toNat (⟨o, ((h ++ [(⟨a.id, false, Zj a false, a.t⟩ : Arc)])).length, p⟩ : Sv)), av ∉ bl u.v := Zhs (fun u hu hm => by have e := Od.rng pv hu hm; omega) (fun hm => by have hm : av ∈ bl (.slice o ((h ++ [(⟨a.id, false, Zj a false, a.t⟩ : Arc)])).length p) := hm; rcases ac with ea | ea; (rw [ea] at hm; have x := M _ hm; have Y := al _ hm; omega); (have ez := Z _ hm; rw [ea] at hm; have kh := List.mem_singleton.1 hm; omega))
    have eA : Ch ((bl (.slice aa h.length ab)) ++ (bl (.slice Aov (vs).length Cov))) aU fP := (hP.step kj (fun i hm => by exact .inr (List.mem_append_left _ hm)))
    refine ⟨eA, ?_⟩
    refine dO 18 (Zk rfl rfl rfl ?_)
    have pw := ((mm.ch0 hY).ch0 hZ).ch kj (fun g hg hm => by exact aL _ hm hg)
    refine Yi (j := a.f.toNat) pw el94 sz93 rfl rfl om om fun eB eC bI aW => ?_
    refine ⟨eA, ?_⟩
    refine dO 19 (Zk rfl rfl rfl ?_)
    refine Yn (j := a.f.toNat) (⟨o, ((h ++ [(⟨a.id, false, Zj a false, a.t⟩ : Arc)])).length, p⟩ : Sv) pw aW Sv.len sz93 rfl rfl rfl rfl om fun px eD kz => ?_
    have r8 := kz.size
    have E := E.step kz (fun i hi => .inl (by have x := l _ hi; omega))
    have kA : Ch ((bl (.slice aa h.length ab)) ++ (bl (.slice Aov (vs).length Cov))) aU px := (eA.step kz (fun i hm => by exact .inr (List.mem_append_right _ hm)))
    refine ⟨kA, ?_⟩
    refine Zw (by kernel_rfl) ?_
    refine Zb (ki _ _ ?_)
    have hQ := h0.chS kz ey
    have am := (hQ).1
    rw [@List.length_set _ (Qv gV (gE.take k)), Qa] at am
    obtain ⟨aF, H⟩ := Zaj (xs := (vs.set a.f.toNat (⟨o, ((h ++ [(⟨a.id, false, Zj a false, a.t⟩ : Arc)])).length, p⟩ : Sv))) (j := a.t.toNat) om
    have J : Sep (.slice Aov (vs).length Cov) (vs.set a.f.toNat (⟨o, ((h ++ [(⟨a.id, false, Zj a false, a.t⟩ : Arc)])).length, p⟩ : Sv)) := ey
    have I := J _ (Xa H)
    obtain ⟨b, r, A, ad⟩ := hQ.ownget H
    have s := H
    obtain ⟨m, bJ, n⟩ := aF
    obtain rfl := A.ls.eqn
    have bK := A.len
    have z : Lo W4.heap.size (.slice m b.length n) := fun g hg => (ad g hg).1
    have bL : ∀ g ∈ bl (.slice m b.length n), g < fP.heap.size := fun g hg => (ad g hg).2
    have C := ky _ (Xa s)
    replace A : Ol Arc.cs 99 4 px (.slice m b.length n) b := A
    have bM := Zav hg bd r
    refine Xl ((bl (.slice m b.length n)) ++ (bl (.slice Aov (vs).length Cov))) 20 mixed rfl fun aX bw => ?_
    have r9 := bw.size
    have E := E.trans bw
    refine dV 0 rfl rfl rfl (fun _ => Zf rfl) (dV 1 rfl rfl rfl (fun _ => Zh fa129_2 rfl) ?_)
    have kB := ((((es.ch0 hY).ch0 hZ).ch kj (fun hm => by have x := M _ hm; have Y := al _ hm; omega)).ch kz (fun hm => by have x := l _ hm; have Y := hiov _ hm; omega)).ch0 bw
    refine dT 2 rfl rfl rfl (Yo kB.at_ (fun i hm => by rcases List.mem_append.1 hm with hm | hm; (rcases Nat.lt_trichotomy i av with e | e | e; (exact .inl e); (exact absurd (e ▸ hm) C); (exact .inr e)); (have x := l _ hm; have Y := hiov _ hm; omega)) agg3 rfl rfl ?_)
    refine dV 3 rfl rfl rfl (fun _ => Zf rfl) (dV 4 rfl rfl rfl (fun _ => Zh fa129_2 rfl) ?_)
    refine dT 5 rfl rfl rfl (Yo kB.at_ (fun i hm => by rcases List.mem_append.1 hm with hm | hm; (rcases Nat.lt_trichotomy i av with e | e | e; (exact .inl e); (exact absurd (e ▸ hm) C); (exact .inr e)); (have x := l _ hm; have Y := hiov _ hm; omega)) agg3 rfl rfl ?_)
    refine dV 8 rfl rfl rfl (fun _ => Zh fa129_0 rfl) ?_
    refine dT 9 rfl rfl rfl (Yo kB.at_ (fun i hm => by rcases List.mem_append.1 hm with hm | hm; (rcases Nat.lt_trichotomy i av with e | e | e; (exact .inl e); (exact absurd (e ▸ hm) C); (exact .inr e)); (have x := l _ hm; have Y := hiov _ hm; omega)) agg3 rfl rfl ?_)
    refine dV 10 rfl rfl rfl (fun _ => Yk (parts := [(0, .tmp 45), (1, .const (Go.Value.bool true))]) (cells := [(.int .i64 a.id), (.bool true)]) zr97 pl97 rfl rfl) ?_
    refine dT 11 rfl rfl rfl (Yr kB.at_ (fun i hm => by rcases List.mem_append.1 hm with hm | hm; (rcases Nat.lt_trichotomy i av with e | e | e; (exact .inl e); (exact absurd (e ▸ hm) C); (exact .inr e)); (have x := l _ hm; have Y := hiov _ hm; omega)) agg129 sz129 rfl ?_)
    refine dV 13 rfl rfl rfl (fun _ => Zh fa129_1 rfl) ?_
    refine dT 14 rfl rfl rfl (Yo kB.at_ (fun i hm => by rcases List.mem_append.1 hm with hm | hm; (rcases Nat.lt_trichotomy i av with e | e | e; (exact .inl e); (exact absurd (e ▸ hm) C); (exact .inr e)); (have x := l _ hm; have Y := hiov _ hm; omega)) agg3 rfl rfl ?_)
    refine Yt 6 12 (by kernel_rfl) ?_ ?_
    ·refine Zk rfl rfl rfl ?_
     have mn := eD.ch0 bw
     refine (Yc (j := a.t.toNat) mn.ls Sv.len el94 sz93 rfl rfl om om fun ae aG P G => ?_)
     obtain rfl := Zv H P
     replace G : At aX 0 aX.heap.size ae ([(.slice m b.length n)]) := G
     refine ⟨(Ch.refl _ _), ?_⟩
     refine Yt 7 12 (by kernel_rfl) ?_ ?_
     ·refine Zk rfl rfl rfl ?_
      refine s_v (Ya G agg93 rfl rfl) ?_
      refine ⟨(Ch.refl _ _), ?_⟩
      refine dO 12 (Zk rfl rfl rfl ?_)
      refine Step.call (Zr (xs := [.tmp 47, .const (Go.Value.bool true)]) fk104 rfl) (Yy a _ om) fun aH sa af => ?_
      obtain ⟨rfl, kk⟩ := af
      have sb := kk.size
      have E := E.trans kk
      have hR : Ch ((bl (.slice m b.length n)) ++ (bl (.slice Aov (vs).length Cov))) aX sa := ((Ch.refl _ _).trans kk.of_nil)
      refine ⟨hR, ?_⟩
      refine dV 15 rfl rfl rfl (fun _ => Yk (parts := [(0, .tmp 46), (1, .tmp 48), (2, .tmp 50)]) (cells := [(.int .i64 a.id), (.bool true), (.int .i64 (Zj a true)), (.int .i64 a.f)]) zr99 pl99 rfl rfl) (dO 16 (Zk rfl rfl rfl ?_))
      refine Zm (cs := Arc.cs) (parts := [(0, .tmp 51)]) (⟨0, false, 0, 0⟩ : Arc) [(⟨a.id, true, Zj a true, a.f⟩ : Arc)] el93 sz99 zr99 Arc.len (by decide) rfl rfl rfl (by decide) (by decide) rfl fun ag sc D Q kl => ?_
      have sd := kl.size
      have E := E.trans kl
      obtain ⟨R, S, rfl, T, K⟩ := D.opn
      have hS : Ch ((bl (.slice m b.length n)) ++ (bl (.slice Aov (vs).length Cov))) aX sc := (hR.trans kl.of_nil)
      refine ⟨hS, ?_⟩
      refine dO 17 (Zk rfl rfl rfl ?_)
      have se := ((A.ch0 bw).ch0 kk).ch0 kl
      have sf := ((hQ.ch0 bw).ch0 kk).ch0 kl
      refine Zy (cs := Arc.cs) el93 sz99 by99 zr99 rfl (by decide) Arc.one se D.ls rfl rfl (by simp only [List.length_append, List.length_singleton]; omega) (by simp only [List.length_append, List.length_singleton]; omega) z om fun ah mv F U y kC => ?_
      have sg := kC.size
      have E := E.step kC (fun i hi => .inl (by have x := z _ hi; omega))
      obtain ⟨c, d, rfl, V, q⟩ := F.opn
      have h1 := Od.put (v' := (⟨c, ((b ++ [(⟨a.id, true, Zj a true, a.f⟩ : Arc)])).length, d⟩ : Sv)) (hi' := mv.heap.size) sf s r kC (fun g hg => hg) F (fun g hg => by have e : g ∈ bl (.slice c ((b ++ [(⟨a.id, true, Zj a true, a.f⟩ : Arc)])).length d) := hg; rcases y with ea | ea; (left; rw [ea] at e; exact e); (right; exact ⟨by first | (have x := ea _ e; omega) | (rw [ea] at e; have x := List.mem_singleton.1 e; omega), q g e⟩)) om om
      have eE : Sep (.slice Aov (vs).length Cov) ((vs.set a.f.toNat (⟨o, ((h ++ [(⟨a.id, false, Zj a false, a.t⟩ : Arc)])).length, p⟩ : Sv)).set a.t.toNat (⟨c, ((b ++ [(⟨a.id, true, Zj a true, a.f⟩ : Arc)])).length, d⟩ : Sv)) := Sep.put (hi' := mv.heap.size) (hi := fP.heap.size) J s (fun g hg => by have e : g ∈ bl (.slice c ((b ++ [(⟨a.id, true, Zj a true, a.f⟩ : Arc)])).length d) := hg; rcases y with ea | ea; (left; rw [ea] at e; exact e); (right; exact ⟨by first | (have x := ea _ e; omega) | (rw [ea] at e; have x := List.mem_singleton.1 e; omega), q g e⟩)) (fun g hm => by have x := l _ hm; have Y := hiov _ hm; omega)
      have eF : Ch ((bl (.slice m b.length n)) ++ (bl (.slice Aov (vs).length Cov))) aX mv := (hS.step kC (fun i hm => by exact .inr (List.mem_append_left _ hm)))
      refine ⟨eF, ?_⟩
      refine dO 18 (Zk rfl rfl rfl ?_)
      have py := ((mn.ch0 kk).ch0 kl).ch kC (fun g hg hm => by exact I _ hm hg)
      refine Yi (j := a.t.toNat) py el94 sz93 rfl rfl om om fun ai aj X L => ?_
      refine ⟨eF, ?_⟩
      refine dO 19 (Zk rfl rfl rfl ?_)
      refine Yn (j := a.t.toNat) (⟨c, ((b ++ [(⟨a.id, true, Zj a true, a.f⟩ : Arc)])).length, d⟩ : Sv) py L Sv.len sz93 rfl rfl rfl rfl om fun pz kD mo => ?_
      have sh := mo.size
      have E := E.step mo (fun i hi => .inl (by have x := l _ hi; omega))
      have kE : Ch ((bl (.slice m b.length n)) ++ (bl (.slice Aov (vs).length Cov))) aX pz := (eF.step mo (fun i hm => by exact .inr (List.mem_append_right _ hm)))
      refine ⟨kE, ?_⟩
      refine Zw (by kernel_rfl) ?_
      refine Zq (Zb (aC _ _ (Zc (Za rfl rfl (Ye om rfl rfl) (Za rfl rfl (Zf rfl) (Ze ?_))))))
      have h2 : Ol Sv.cs 93 1 pz (.slice Aov (vs).length Cov) (((vs.set a.f.toNat (⟨o, ((h ++ [(⟨a.id, false, Zj a false, a.t⟩ : Arc)])).length, p⟩ : Sv)).set a.t.toNat (⟨c, ((b ++ [(⟨a.id, true, Zj a true, a.f⟩ : Arc)])).length, d⟩ : Sv))) := by
       have hx := kD
       exact hx
      have si := h1.chS mo eE
      exact Zb (Exists.intro ((k + 1), ((vs.set a.f.toNat (⟨o, ((h ++ [(⟨a.id, false, Zj a false, a.t⟩ : Arc)])).length, p⟩ : Sv)).set a.t.toNat (⟨c, ((b ++ [(⟨a.id, true, Zj a true, a.f⟩ : Arc)])).length, d⟩ : Sv)), (.slice Aov (vs).length Cov)) ⟨⟨E, om, om, (by simp only [List.length_set]; omega), h2, (Lo.down l om), ((si.eq (Yu hg O B r)).up (Nat.le_refl _) om), eE⟩, sC4 rfl rfl rfl rfl (sC1 rfl (Sub.nil _)), (by first | omega | (dsimp only; omega))⟩)
     refine Zk rfl rfl rfl ?_
     refine Step.call (Zr (xs := [.tmp 47, .const (Go.Value.bool true)]) fk104 rfl) (Yy a _ om) fun aH sj af => ?_
     obtain ⟨rfl, eG⟩ := af
     have sk := eG.size
     have E := E.trans eG
     have c7 : Ch ((bl (.slice m b.length n)) ++ (bl (.slice Aov (vs).length Cov))) aX sj := ((Ch.refl _ _).trans eG.of_nil)
     refine ⟨c7, ?_⟩
     refine dV 15 rfl rfl rfl (fun _ => Yk (parts := [(0, .tmp 46), (1, .tmp 48), (2, .tmp 50)]) (cells := [(.int .i64 a.id), (.bool true), (.int .i64 (Zj a true)), (.int .i64 a.f)]) zr99 pl99 rfl rfl) ?_
     refine Yt 7 16 (by kernel_rfl) ?_ ?_
     ·refine Zk rfl rfl rfl ?_
      have sm := G.ch0 eG
      refine s_v (Ya sm agg93 rfl rfl) ?_
      refine ⟨c7, ?_⟩
      refine dO 16 (Zk rfl rfl rfl ?_)
      refine Zm (cs := Arc.cs) (parts := [(0, .tmp 51)]) (⟨0, false, 0, 0⟩ : Arc) [(⟨a.id, true, Zj a true, a.f⟩ : Arc)] el93 sz99 zr99 Arc.len (by decide) rfl rfl rfl (by decide) (by decide) rfl fun ag sn D Q km => ?_
      have so := km.size
      have E := E.trans km
      obtain ⟨R, S, rfl, T, K⟩ := D.opn
      have hT : Ch ((bl (.slice m b.length n)) ++ (bl (.slice Aov (vs).length Cov))) aX sn := (c7.trans km.of_nil)
      refine ⟨hT, ?_⟩
      refine dO 17 (Zk rfl rfl rfl ?_)
      have sp := ((A.ch0 bw).ch0 eG).ch0 km
      have sq := ((hQ.ch0 bw).ch0 eG).ch0 km
      refine Zy (cs := Arc.cs) el93 sz99 by99 zr99 rfl (by decide) Arc.one sp D.ls rfl rfl (by simp only [List.length_append, List.length_singleton]; omega) (by simp only [List.length_append, List.length_singleton]; omega) z om fun ah mw F U y kF => ?_
      have sr := kF.size
      have E := E.step kF (fun i hi => .inl (by have x := z _ hi; omega))
      obtain ⟨c, d, rfl, V, q⟩ := F.opn
      have h3 := Od.put (v' := (⟨c, ((b ++ [(⟨a.id, true, Zj a true, a.f⟩ : Arc)])).length, d⟩ : Sv)) (hi' := mw.heap.size) sq s r kF (fun g hg => hg) F (fun g hg => by have e : g ∈ bl (.slice c ((b ++ [(⟨a.id, true, Zj a true, a.f⟩ : Arc)])).length d) := hg; rcases y with ea | ea; (left; rw [ea] at e; exact e); (right; exact ⟨by first | (have x := ea _ e; omega) | (rw [ea] at e; have x := List.mem_singleton.1 e; omega), q g e⟩)) om om
      have eH : Sep (.slice Aov (vs).length Cov) ((vs.set a.f.toNat (⟨o, ((h ++ [(⟨a.id, false, Zj a false, a.t⟩ : Arc)])).length, p⟩ : Sv)).set a.t.toNat (⟨c, ((b ++ [(⟨a.id, true, Zj a true, a.f⟩ : Arc)])).length, d⟩ : Sv)) := Sep.put (hi' := mw.heap.size) (hi := fP.heap.size) J s (fun g hg => by have e : g ∈ bl (.slice c ((b ++ [(⟨a.id, true, Zj a true, a.f⟩ : Arc)])).length d) := hg; rcases y with ea | ea; (left; rw [ea] at e; exact e); (right; exact ⟨by first | (have x := ea _ e; omega) | (rw [ea] at e; have x := List.mem_singleton.1 e; omega), q g e⟩)) (fun g hm => by have x := l _ hm; have Y := hiov _ hm; omega)
      have eI : Ch ((bl (.slice m b.length n)) ++ (bl (.slice Aov (vs).length Cov))) aX mw := (hT.step kF (fun i hm => by exact .inr (List.mem_append_left _ hm)))
      refine ⟨eI, ?_⟩
      refine dO 18 (Zk rfl rfl rfl ?_)
      have pA := ((mn.ch0 eG).ch0 km).ch kF (fun g hg hm => by exact I _ hm hg)
      refine Yi (j := a.t.toNat) pA el94 sz93 rfl rfl om om fun ai aj X L => ?_
      refine ⟨eI, ?_⟩
      refine dO 19 (Zk rfl rfl rfl ?_)
      refine Yn (j := a.t.toNat) (⟨c, ((b ++ [(⟨a.id, true, Zj a true, a.f⟩ : Arc)])).length, d⟩ : Sv) pA L Sv.len sz93 rfl rfl rfl rfl om fun pB kG mp => ?_
      have ss := mp.size
      have E := E.step mp (fun i hi => .inl (by have x := l _ hi; omega))
      have kH : Ch ((bl (.slice m b.length n)) ++ (bl (.slice Aov (vs).length Cov))) aX pB := (eI.step mp (fun i hm => by exact .inr (List.mem_append_right _ hm)))
      refine ⟨kH, ?_⟩
      refine Zw (by kernel_rfl) ?_
      refine Zq (Zb (aC _ _ (Zc (Za rfl rfl (Ye om rfl rfl) (Za rfl rfl (Zf rfl) (Ze ?_))))))
      have h4 : Ol Sv.cs 93 1 pB (.slice Aov (vs).length Cov) (((vs.set a.f.toNat (⟨o, ((h ++ [(⟨a.id, false, Zj a false, a.t⟩ : Arc)])).length, p⟩ : Sv)).set a.t.toNat (⟨c, ((b ++ [(⟨a.id, true, Zj a true, a.f⟩ : Arc)])).length, d⟩ : Sv))) := by
       have hx := kG
       exact hx
      have st := h3.chS mp eH
      exact Zb (Exists.intro ((k + 1), ((vs.set a.f.toNat (⟨o, ((h ++ [(⟨a.id, false, Zj a false, a.t⟩ : Arc)])).length, p⟩ : Sv)).set a.t.toNat (⟨c, ((b ++ [(⟨a.id, true, Zj a true, a.f⟩ : Arc)])).length, d⟩ : Sv)), (.slice Aov (vs).length Cov)) ⟨⟨E, om, om, (by simp only [List.length_set]; omega), h4, (Lo.down l om), ((st.eq (Yu hg O B r)).up (Nat.le_refl _) om), eH⟩, sC4 rfl rfl rfl rfl (sC1 rfl (Sub.nil _)), (by first | omega | (dsimp only; omega))⟩)
     refine Zk rfl rfl rfl ?_
     refine Zm (cs := Arc.cs) (parts := [(0, .tmp 51)]) (⟨0, false, 0, 0⟩ : Arc) [(⟨a.id, true, Zj a true, a.f⟩ : Arc)] el93 sz99 zr99 Arc.len (by decide) rfl rfl rfl (by decide) (by decide) rfl fun ag su D Q h5 => ?_
     have sv := h5.size
     have E := E.trans h5
     obtain ⟨R, S, rfl, T, K⟩ := D.opn
     have eJ : Ch ((bl (.slice m b.length n)) ++ (bl (.slice Aov (vs).length Cov))) aX su := (c7.trans h5.of_nil)
     refine ⟨eJ, ?_⟩
     refine dO 7 (Zk rfl rfl rfl ?_)
     have sw := (G.ch0 eG).ch0 h5
     refine s_v (Ya sw agg93 rfl rfl) ?_
     refine ⟨eJ, ?_⟩
     refine dO 17 (Zk rfl rfl rfl ?_)
     have sx := ((A.ch0 bw).ch0 eG).ch0 h5
     have sy := ((hQ.ch0 bw).ch0 eG).ch0 h5
     refine Zy (cs := Arc.cs) el93 sz99 by99 zr99 rfl (by decide) Arc.one sx D.ls rfl rfl (by simp only [List.length_append, List.length_singleton]; omega) (by simp only [List.length_append, List.length_singleton]; omega) z om fun ah mx F U y kI => ?_
     have sA := kI.size
     have E := E.step kI (fun i hi => .inl (by have x := z _ hi; omega))
     obtain ⟨c, d, rfl, V, q⟩ := F.opn
     have h6 := Od.put (v' := (⟨c, ((b ++ [(⟨a.id, true, Zj a true, a.f⟩ : Arc)])).length, d⟩ : Sv)) (hi' := mx.heap.size) sy s r kI (fun g hg => hg) F (fun g hg => by have e : g ∈ bl (.slice c ((b ++ [(⟨a.id, true, Zj a true, a.f⟩ : Arc)])).length d) := hg; rcases y with ea | ea; (left; rw [ea] at e; exact e); (right; exact ⟨by first | (have x := ea _ e; omega) | (rw [ea] at e; have x := List.mem_singleton.1 e; omega), q g e⟩)) om om
     have eK : Sep (.slice Aov (vs).length Cov) ((vs.set a.f.toNat (⟨o, ((h ++ [(⟨a.id, false, Zj a false, a.t⟩ : Arc)])).length, p⟩ : Sv)).set a.t.toNat (⟨c, ((b ++ [(⟨a.id, true, Zj a true, a.f⟩ : Arc)])).length, d⟩ : Sv)) := Sep.put (hi' := mx.heap.size) (hi := fP.heap.size) J s (fun g hg => by have e : g ∈ bl (.slice c ((b ++ [(⟨a.id, true, Zj a true, a.f⟩ : Arc)])).length d) := hg; rcases y with ea | ea; (left; rw [ea] at e; exact e); (right; exact ⟨by first | (have x := ea _ e; omega) | (rw [ea] at e; have x := List.mem_singleton.1 e; omega), q g e⟩)) (fun g hm => by have x := l _ hm; have Y := hiov _ hm; omega)
     have eL : Ch ((bl (.slice m b.length n)) ++ (bl (.slice Aov (vs).length Cov))) aX mx := (eJ.step kI (fun i hm => by exact .inr (List.mem_append_left _ hm)))
     refine ⟨eL, ?_⟩
     refine dO 18 (Zk rfl rfl rfl ?_)
     have pC := ((mn.ch0 eG).ch0 h5).ch kI (fun g hg hm => by exact I _ hm hg)
     refine Yi (j := a.t.toNat) pC el94 sz93 rfl rfl om om fun ai aj X L => ?_
     refine ⟨eL, ?_⟩
     refine dO 19 (Zk rfl rfl rfl ?_)
     refine Yn (j := a.t.toNat) (⟨c, ((b ++ [(⟨a.id, true, Zj a true, a.f⟩ : Arc)])).length, d⟩ : Sv) pC L Sv.len sz93 rfl rfl rfl rfl om fun pD kJ mq => ?_
     have sB := mq.size
     have E := E.step mq (fun i hi => .inl (by have x := l _ hi; omega))
     have kK : Ch ((bl (.slice m b.length n)) ++ (bl (.slice Aov (vs).length Cov))) aX pD := (eL.step mq (fun i hm => by exact .inr (List.mem_append_right _ hm)))
     refine ⟨kK, ?_⟩
     refine Zw (by kernel_rfl) ?_
     refine Zq (Zb (aC _ _ (Zc (Za rfl rfl (Ye om rfl rfl) (Za rfl rfl (Zf rfl) (Ze ?_))))))
     have h7 : Ol Sv.cs 93 1 pD (.slice Aov (vs).length Cov) (((vs.set a.f.toNat (⟨o, ((h ++ [(⟨a.id, false, Zj a false, a.t⟩ : Arc)])).length, p⟩ : Sv)).set a.t.toNat (⟨c, ((b ++ [(⟨a.id, true, Zj a true, a.f⟩ : Arc)])).length, d⟩ : Sv))) := by
      have hx := kJ
      exact hx
     have sC := h6.chS mq eK
     exact Zb (Exists.intro ((k + 1), ((vs.set a.f.toNat (⟨o, ((h ++ [(⟨a.id, false, Zj a false, a.t⟩ : Arc)])).length, p⟩ : Sv)).set a.t.toNat (⟨c, ((b ++ [(⟨a.id, true, Zj a true, a.f⟩ : Arc)])).length, d⟩ : Sv)), (.slice Aov (vs).length Cov)) ⟨⟨E, om, om, (by simp only [List.length_set]; omega), h7, (Lo.down l om), ((sC.eq (Yu hg O B r)).up (Nat.le_refl _) om), eK⟩, sC4 rfl rfl rfl rfl (sC1 rfl (Sub.nil _)), (by first | omega | (dsimp only; omega))⟩)
    refine Zk rfl rfl rfl ?_
    refine Step.call (Zr (xs := [.tmp 47, .const (Go.Value.bool true)]) fk104 rfl) (Yy a _ om) fun aH my af => ?_
    obtain ⟨rfl, eM⟩ := af
    have sD := eM.size
    have E := E.trans eM
    have be : Ch ((bl (.slice m b.length n)) ++ (bl (.slice Aov (vs).length Cov))) aX my := ((Ch.refl _ _).trans eM.of_nil)
    refine ⟨be, ?_⟩
    refine dV 15 rfl rfl rfl (fun _ => Yk (parts := [(0, .tmp 46), (1, .tmp 48), (2, .tmp 50)]) (cells := [(.int .i64 a.id), (.bool true), (.int .i64 (Zj a true)), (.int .i64 a.f)]) zr99 pl99 rfl rfl) ?_
    refine Yt 6 16 (by kernel_rfl) ?_ ?_
    ·refine Zk rfl rfl rfl ?_
     have mz := (eD.ch0 bw).ch0 eM
     refine (Yc (j := a.t.toNat) mz.ls Sv.len el94 sz93 rfl rfl om om fun ae aG P G => ?_)
     obtain rfl := Zv H P
     replace G : At my 0 my.heap.size ae ([(.slice m b.length n)]) := G
     refine ⟨be, ?_⟩
     refine Yt 7 16 (by kernel_rfl) ?_ ?_
     ·refine Zk rfl rfl rfl ?_
      refine s_v (Ya G agg93 rfl rfl) ?_
      refine ⟨be, ?_⟩
      refine dO 16 (Zk rfl rfl rfl ?_)
      refine Zm (cs := Arc.cs) (parts := [(0, .tmp 51)]) (⟨0, false, 0, 0⟩ : Arc) [(⟨a.id, true, Zj a true, a.f⟩ : Arc)] el93 sz99 zr99 Arc.len (by decide) rfl rfl rfl (by decide) (by decide) rfl fun ag sE D Q kn => ?_
      have sF := kn.size
      have E := E.trans kn
      obtain ⟨R, S, rfl, T, K⟩ := D.opn
      have hU : Ch ((bl (.slice m b.length n)) ++ (bl (.slice Aov (vs).length Cov))) aX sE := (be.trans kn.of_nil)
      refine ⟨hU, ?_⟩
      refine dO 17 (Zk rfl rfl rfl ?_)
      have sG := ((A.ch0 bw).ch0 eM).ch0 kn
      have sH := ((hQ.ch0 bw).ch0 eM).ch0 kn
      refine Zy (cs := Arc.cs) el93 sz99 by99 zr99 rfl (by decide) Arc.one sG D.ls rfl rfl (by simp only [List.length_append, List.length_singleton]; omega) (by simp only [List.length_append, List.length_singleton]; omega) z om fun ah mA F U y kL => ?_
      have sI := kL.size
      have E := E.step kL (fun i hi => .inl (by have x := z _ hi; omega))
      obtain ⟨c, d, rfl, V, q⟩ := F.opn
      have fQ := Od.put (v' := (⟨c, ((b ++ [(⟨a.id, true, Zj a true, a.f⟩ : Arc)])).length, d⟩ : Sv)) (hi' := mA.heap.size) sH s r kL (fun g hg => hg) F (fun g hg => by have e : g ∈ bl (.slice c ((b ++ [(⟨a.id, true, Zj a true, a.f⟩ : Arc)])).length d) := hg; rcases y with ea | ea; (left; rw [ea] at e; exact e); (right; exact ⟨by first | (have x := ea _ e; omega) | (rw [ea] at e; have x := List.mem_singleton.1 e; omega), q g e⟩)) om om
      have c8 : Sep (.slice Aov (vs).length Cov) ((vs.set a.f.toNat (⟨o, ((h ++ [(⟨a.id, false, Zj a false, a.t⟩ : Arc)])).length, p⟩ : Sv)).set a.t.toNat (⟨c, ((b ++ [(⟨a.id, true, Zj a true, a.f⟩ : Arc)])).length, d⟩ : Sv)) := Sep.put (hi' := mA.heap.size) (hi := fP.heap.size) J s (fun g hg => by have e : g ∈ bl (.slice c ((b ++ [(⟨a.id, true, Zj a true, a.f⟩ : Arc)])).length d) := hg; rcases y with ea | ea; (left; rw [ea] at e; exact e); (right; exact ⟨by first | (have x := ea _ e; omega) | (rw [ea] at e; have x := List.mem_singleton.1 e; omega), q g e⟩)) (fun g hm => by have x := l _ hm; have Y := hiov _ hm; omega)
      have bV : Ch ((bl (.slice m b.length n)) ++ (bl (.slice Aov (vs).length Cov))) aX mA := (hU.step kL (fun i hm => by exact .inr (List.mem_append_left _ hm)))
      refine ⟨bV, ?_⟩
      refine dO 18 (Zk rfl rfl rfl ?_)
      have kM := (mz.ch0 kn).ch kL (fun g hg hm => by exact I _ hm hg)
      refine Yi (j := a.t.toNat) kM el94 sz93 rfl rfl om om fun ai aj X L => ?_
      refine ⟨bV, ?_⟩
      refine dO 19 (Zk rfl rfl rfl ?_)
      refine Yn (j := a.t.toNat) (⟨c, ((b ++ [(⟨a.id, true, Zj a true, a.f⟩ : Arc)])).length, d⟩ : Sv) kM L Sv.len sz93 rfl rfl rfl rfl om fun kN h8 fR => ?_
      have pE := fR.size
      have E := E.step fR (fun i hi => .inl (by have x := l _ hi; omega))
      have h9 : Ch ((bl (.slice m b.length n)) ++ (bl (.slice Aov (vs).length Cov))) aX kN := (bV.step fR (fun i hm => by exact .inr (List.mem_append_right _ hm)))
      refine ⟨h9, ?_⟩
      refine Zw (by kernel_rfl) ?_
      refine Zq (Zb (aC _ _ (Zc (Za rfl rfl (Ye om rfl rfl) (Za rfl rfl (Zf rfl) (Ze ?_))))))
      have fS : Ol Sv.cs 93 1 kN (.slice Aov (vs).length Cov) (((vs.set a.f.toNat (⟨o, ((h ++ [(⟨a.id, false, Zj a false, a.t⟩ : Arc)])).length, p⟩ : Sv)).set a.t.toNat (⟨c, ((b ++ [(⟨a.id, true, Zj a true, a.f⟩ : Arc)])).length, d⟩ : Sv))) := by
       have hx := h8
       exact hx
      have mB := fQ.chS fR c8
      exact Zb (Exists.intro ((k + 1), ((vs.set a.f.toNat (⟨o, ((h ++ [(⟨a.id, false, Zj a false, a.t⟩ : Arc)])).length, p⟩ : Sv)).set a.t.toNat (⟨c, ((b ++ [(⟨a.id, true, Zj a true, a.f⟩ : Arc)])).length, d⟩ : Sv)), (.slice Aov (vs).length Cov)) ⟨⟨E, om, om, (by simp only [List.length_set]; omega), fS, (Lo.down l om), ((mB.eq (Yu hg O B r)).up (Nat.le_refl _) om), c8⟩, sC4 rfl rfl rfl rfl (sC1 rfl (Sub.nil _)), (by first | omega | (dsimp only; omega))⟩)
     refine Zk rfl rfl rfl ?_
     refine Zm (cs := Arc.cs) (parts := [(0, .tmp 51)]) (⟨0, false, 0, 0⟩ : Arc) [(⟨a.id, true, Zj a true, a.f⟩ : Arc)] el93 sz99 zr99 Arc.len (by decide) rfl rfl rfl (by decide) (by decide) rfl fun ag mC D Q bW => ?_
     have pF := bW.size
     have E := E.trans bW
     obtain ⟨R, S, rfl, T, K⟩ := D.opn
     have bX : Ch ((bl (.slice m b.length n)) ++ (bl (.slice Aov (vs).length Cov))) aX mC := (be.trans bW.of_nil)
     refine ⟨bX, ?_⟩
     refine dO 7 (Zk rfl rfl rfl ?_)
     have mD := G.ch0 bW
     refine s_v (Ya mD agg93 rfl rfl) ?_
     refine ⟨bX, ?_⟩
     refine dO 17 (Zk rfl rfl rfl ?_)
     have mE := ((A.ch0 bw).ch0 eM).ch0 bW
     have mF := ((hQ.ch0 bw).ch0 eM).ch0 bW
     refine Zy (cs := Arc.cs) el93 sz99 by99 zr99 rfl (by decide) Arc.one mE D.ls rfl rfl (by simp only [List.length_append, List.length_singleton]; omega) (by simp only [List.length_append, List.length_singleton]; omega) z om fun ah ia F U y eN => ?_
     have pG := eN.size
     have E := E.step eN (fun i hi => .inl (by have x := z _ hi; omega))
     obtain ⟨c, d, rfl, V, q⟩ := F.opn
     have fT := Od.put (v' := (⟨c, ((b ++ [(⟨a.id, true, Zj a true, a.f⟩ : Arc)])).length, d⟩ : Sv)) (hi' := ia.heap.size) mF s r eN (fun g hg => hg) F (fun g hg => by have e : g ∈ bl (.slice c ((b ++ [(⟨a.id, true, Zj a true, a.f⟩ : Arc)])).length d) := hg; rcases y with ea | ea; (left; rw [ea] at e; exact e); (right; exact ⟨by first | (have x := ea _ e; omega) | (rw [ea] at e; have x := List.mem_singleton.1 e; omega), q g e⟩)) om om
     have c9 : Sep (.slice Aov (vs).length Cov) ((vs.set a.f.toNat (⟨o, ((h ++ [(⟨a.id, false, Zj a false, a.t⟩ : Arc)])).length, p⟩ : Sv)).set a.t.toNat (⟨c, ((b ++ [(⟨a.id, true, Zj a true, a.f⟩ : Arc)])).length, d⟩ : Sv)) := Sep.put (hi' := ia.heap.size) (hi := fP.heap.size) J s (fun g hg => by have e : g ∈ bl (.slice c ((b ++ [(⟨a.id, true, Zj a true, a.f⟩ : Arc)])).length d) := hg; rcases y with ea | ea; (left; rw [ea] at e; exact e); (right; exact ⟨by first | (have x := ea _ e; omega) | (rw [ea] at e; have x := List.mem_singleton.1 e; omega), q g e⟩)) (fun g hm => by have x := l _ hm; have Y := hiov _ hm; omega)
     have bY : Ch ((bl (.slice m b.length n)) ++ (bl (.slice Aov (vs).length Cov))) aX ia := (bX.step eN (fun i hm => by exact .inr (List.mem_append_left _ hm)))
     refine ⟨bY, ?_⟩
     refine dO 18 (Zk rfl rfl rfl ?_)
     have kO := (mz.ch0 bW).ch eN (fun g hg hm => by exact I _ hm hg)
     refine Yi (j := a.t.toNat) kO el94 sz93 rfl rfl om om fun ai aj X L => ?_
     refine ⟨bY, ?_⟩
     refine dO 19 (Zk rfl rfl rfl ?_)
     refine Yn (j := a.t.toNat) (⟨c, ((b ++ [(⟨a.id, true, Zj a true, a.f⟩ : Arc)])).length, d⟩ : Sv) kO L Sv.len sz93 rfl rfl rfl rfl om fun kP ib fU => ?_
     have pH := fU.size
     have E := E.step fU (fun i hi => .inl (by have x := l _ hi; omega))
     have ic : Ch ((bl (.slice m b.length n)) ++ (bl (.slice Aov (vs).length Cov))) aX kP := (bY.step fU (fun i hm => by exact .inr (List.mem_append_right _ hm)))
     refine ⟨ic, ?_⟩
     refine Zw (by kernel_rfl) ?_
     refine Zq (Zb (aC _ _ (Zc (Za rfl rfl (Ye om rfl rfl) (Za rfl rfl (Zf rfl) (Ze ?_))))))
     have fV : Ol Sv.cs 93 1 kP (.slice Aov (vs).length Cov) (((vs.set a.f.toNat (⟨o, ((h ++ [(⟨a.id, false, Zj a false, a.t⟩ : Arc)])).length, p⟩ : Sv)).set a.t.toNat (⟨c, ((b ++ [(⟨a.id, true, Zj a true, a.f⟩ : Arc)])).length, d⟩ : Sv))) := by
      have hx := ib
      exact hx
     have mG := fT.chS fU c9
     exact Zb (Exists.intro ((k + 1), ((vs.set a.f.toNat (⟨o, ((h ++ [(⟨a.id, false, Zj a false, a.t⟩ : Arc)])).length, p⟩ : Sv)).set a.t.toNat (⟨c, ((b ++ [(⟨a.id, true, Zj a true, a.f⟩ : Arc)])).length, d⟩ : Sv)), (.slice Aov (vs).length Cov)) ⟨⟨E, om, om, (by simp only [List.length_set]; omega), fV, (Lo.down l om), ((mG.eq (Yu hg O B r)).up (Nat.le_refl _) om), c9⟩, sC4 rfl rfl rfl rfl (sC1 rfl (Sub.nil _)), (by first | omega | (dsimp only; omega))⟩)
    refine Zk rfl rfl rfl ?_
    refine Zm (cs := Arc.cs) (parts := [(0, .tmp 51)]) (⟨0, false, 0, 0⟩ : Arc) [(⟨a.id, true, Zj a true, a.f⟩ : Arc)] el93 sz99 zr99 Arc.len (by decide) rfl rfl rfl (by decide) (by decide) rfl fun ag ie D Q dM => ?_
    have pI := dM.size
    have E := E.trans dM
    obtain ⟨R, S, rfl, T, K⟩ := D.opn
    have bf : Ch ((bl (.slice m b.length n)) ++ (bl (.slice Aov (vs).length Cov))) aX ie := (be.trans dM.of_nil)
    refine ⟨bf, ?_⟩
    refine dO 6 (Zk rfl rfl rfl ?_)
    have kQ := ((eD.ch0 bw).ch0 eM).ch0 dM
    refine (Yc (j := a.t.toNat) kQ.ls Sv.len el94 sz93 rfl rfl om om fun ae aG P G => ?_)
    obtain rfl := Zv H P
    replace G : At ie 0 ie.heap.size ae ([(.slice m b.length n)]) := G
    refine ⟨bf, ?_⟩
    refine dO 7 (Zk rfl rfl rfl ?_)
    refine s_v (Ya G agg93 rfl rfl) ?_
    refine ⟨bf, ?_⟩
    refine dO 17 (Zk rfl rfl rfl ?_)
    have mH := ((A.ch0 bw).ch0 eM).ch0 dM
    have mI := ((hQ.ch0 bw).ch0 eM).ch0 dM
    refine Zy (cs := Arc.cs) el93 sz99 by99 zr99 rfl (by decide) Arc.one mH D.ls rfl rfl (by simp only [List.length_append, List.length_singleton]; omega) (by simp only [List.length_append, List.length_singleton]; omega) z om fun ah ig F U y eO => ?_
    have pJ := eO.size
    have E := E.step eO (fun i hi => .inl (by have x := z _ hi; omega))
    obtain ⟨c, d, rfl, V, q⟩ := F.opn
    have fW := Od.put (v' := (⟨c, ((b ++ [(⟨a.id, true, Zj a true, a.f⟩ : Arc)])).length, d⟩ : Sv)) (hi' := ig.heap.size) mI s r eO (fun g hg => hg) F (fun g hg => by have e : g ∈ bl (.slice c ((b ++ [(⟨a.id, true, Zj a true, a.f⟩ : Arc)])).length d) := hg; rcases y with ea | ea; (left; rw [ea] at e; exact e); (right; exact ⟨by first | (have x := ea _ e; omega) | (rw [ea] at e; have x := List.mem_singleton.1 e; omega), q g e⟩)) om om
    have da : Sep (.slice Aov (vs).length Cov) ((vs.set a.f.toNat (⟨o, ((h ++ [(⟨a.id, false, Zj a false, a.t⟩ : Arc)])).length, p⟩ : Sv)).set a.t.toNat (⟨c, ((b ++ [(⟨a.id, true, Zj a true, a.f⟩ : Arc)])).length, d⟩ : Sv)) := Sep.put (hi' := ig.heap.size) (hi := fP.heap.size) J s (fun g hg => by have e : g ∈ bl (.slice c ((b ++ [(⟨a.id, true, Zj a true, a.f⟩ : Arc)])).length d) := hg; rcases y with ea | ea; (left; rw [ea] at e; exact e); (right; exact ⟨by first | (have x := ea _ e; omega) | (rw [ea] at e; have x := List.mem_singleton.1 e; omega), q g e⟩)) (fun g hm => by have x := l _ hm; have Y := hiov _ hm; omega)
    have bZ : Ch ((bl (.slice m b.length n)) ++ (bl (.slice Aov (vs).length Cov))) aX ig := (bf.step eO (fun i hm => by exact .inr (List.mem_append_left _ hm)))
    refine ⟨bZ, ?_⟩
    refine dO 18 (Zk rfl rfl rfl ?_)
    have kR := kQ.ch eO (fun g hg hm => by exact I _ hm hg)
    refine Yi (j := a.t.toNat) kR el94 sz93 rfl rfl om om fun ai aj X L => ?_
    refine ⟨bZ, ?_⟩
    refine dO 19 (Zk rfl rfl rfl ?_)
    refine Yn (j := a.t.toNat) (⟨c, ((b ++ [(⟨a.id, true, Zj a true, a.f⟩ : Arc)])).length, d⟩ : Sv) kR L Sv.len sz93 rfl rfl rfl rfl om fun kS ih fX => ?_
    have pK := fX.size
    have E := E.step fX (fun i hi => .inl (by have x := l _ hi; omega))
    have ii : Ch ((bl (.slice m b.length n)) ++ (bl (.slice Aov (vs).length Cov))) aX kS := (bZ.step fX (fun i hm => by exact .inr (List.mem_append_right _ hm)))
    refine ⟨ii, ?_⟩
    refine Zw (by kernel_rfl) ?_
    refine Zq (Zb (aC _ _ (Zc (Za rfl rfl (Ye om rfl rfl) (Za rfl rfl (Zf rfl) (Ze ?_))))))
    have fY : Ol Sv.cs 93 1 kS (.slice Aov (vs).length Cov) (((vs.set a.f.toNat (⟨o, ((h ++ [(⟨a.id, false, Zj a false, a.t⟩ : Arc)])).length, p⟩ : Sv)).set a.t.toNat (⟨c, ((b ++ [(⟨a.id, true, Zj a true, a.f⟩ : Arc)])).length, d⟩ : Sv))) := by
     have hx := ih
     exact hx
    have mJ := fW.chS fX da
    exact Zb (Exists.intro ((k + 1), ((vs.set a.f.toNat (⟨o, ((h ++ [(⟨a.id, false, Zj a false, a.t⟩ : Arc)])).length, p⟩ : Sv)).set a.t.toNat (⟨c, ((b ++ [(⟨a.id, true, Zj a true, a.f⟩ : Arc)])).length, d⟩ : Sv)), (.slice Aov (vs).length Cov)) ⟨⟨E, om, om, (by simp only [List.length_set]; omega), fY, (Lo.down l om), ((mJ.eq (Yu hg O B r)).up (Nat.le_refl _) om), da⟩, sC4 rfl rfl rfl rfl (sC1 rfl (Sub.nil _)), (by first | omega | (dsimp only; omega))⟩)
   refine Zk rfl rfl rfl ?_
   refine Step.call (Zr (xs := [.tmp 28, .const (Go.Value.bool false)]) fk104 rfl) (Yy a _ om) fun kx mK eu => ?_
   obtain ⟨rfl, aM⟩ := eu
   have pL := aM.size
   have E := E.trans aM
   have bg : Ch ((bl (.slice aa h.length ab)) ++ (bl (.slice Aov (vs).length Cov))) aU mK := ((Ch.refl _ _).trans aM.of_nil)
   refine ⟨bg, ?_⟩
   refine dV 15 rfl rfl rfl (fun _ => Yk (parts := [(0, .tmp 27), (1, .tmp 29), (2, .tmp 31)]) (cells := [(.int .i64 a.id), (.bool false), (.int .i64 (Zj a false)), (.int .i64 a.t)]) zr99 pl99 rfl rfl) ?_
   refine Yt 7 16 (by kernel_rfl) ?_ ?_
   ·refine Zk rfl rfl rfl ?_
    have mL := aI.ch0 aM
    refine s_v (Ya mL agg93 rfl rfl) ?_
    refine ⟨bg, ?_⟩
    refine dO 16 (Zk rfl rfl rfl ?_)
    refine Zm (cs := Arc.cs) (parts := [(0, .tmp 32)]) (⟨0, false, 0, 0⟩ : Arc) [(⟨a.id, false, Zj a false, a.t⟩ : Arc)] el93 sz99 zr99 Arc.len (by decide) rfl rfl rfl (by decide) (by decide) rfl fun ew mM aD bB b0 => ?_
    have pM := b0.size
    have E := E.trans b0
    obtain ⟨bC, bD, rfl, bF, aV⟩ := aD.opn
    have eP : Ch ((bl (.slice aa h.length ab)) ++ (bl (.slice Aov (vs).length Cov))) aU mM := (bg.trans b0.of_nil)
    refine ⟨eP, ?_⟩
    refine dO 17 (Zk rfl rfl rfl ?_)
    have mN := ((aw.ch0 bv).ch0 aM).ch0 b0
    have kT := ((hN.ch0 bv).ch0 aM).ch0 b0
    refine Zy (cs := Arc.cs) el93 sz99 by99 zr99 rfl (by decide) Arc.one mN aD.ls rfl rfl (by simp only [List.length_append, List.length_singleton]; omega) (by simp only [List.length_append, List.length_singleton]; omega) M om fun ex a8 aE bG ac dN => ?_
    have pN := dN.size
    have E := E.step dN (fun i hi => .inl (by have x := M _ hi; omega))
    obtain ⟨o, p, rfl, bH, Z⟩ := aE.opn
    have fZ := Od.put (v' := (⟨o, ((h ++ [(⟨a.id, false, Zj a false, a.t⟩ : Arc)])).length, p⟩ : Sv)) (hi' := a8.heap.size) kT ak B dN (fun g hg => hg) aE (fun g hg => by have e : g ∈ bl (.slice o ((h ++ [(⟨a.id, false, Zj a false, a.t⟩ : Arc)])).length p) := hg; rcases ac with ea | ea; (left; rw [ea] at e; exact e); (right; exact ⟨by first | (have x := ea _ e; omega) | (rw [ea] at e; have x := List.mem_singleton.1 e; omega), Z g e⟩)) om om
    have db : Sep (.slice Aov (vs).length Cov) (vs.set a.f.toNat (⟨o, ((h ++ [(⟨a.id, false, Zj a false, a.t⟩ : Arc)])).length, p⟩ : Sv)) := Sep.put (hi' := a8.heap.size) (hi := R9.heap.size) aT ak (fun g hg => by have e : g ∈ bl (.slice o ((h ++ [(⟨a.id, false, Zj a false, a.t⟩ : Arc)])).length p) := hg; rcases ac with ea | ea; (left; rw [ea] at e; exact e); (right; exact ⟨by first | (have x := ea _ e; omega) | (rw [ea] at e; have x := List.mem_singleton.1 e; omega), Z g e⟩)) (fun g hm => by have x := l _ hm; have Y := hiov _ hm; omega)
    have ij : ∀ u ∈ (vs.set a.f.toNat (⟨o, ((h ++ [(⟨a.id, false, Zj a false, a.t⟩ : Arc)])).length, p⟩ : Sv)), av ∉ bl u.v := Zhs (fun u hu hm => by have e := Od.rng kT hu hm; omega) (fun hm => by have hm : av ∈ bl (.slice o ((h ++ [(⟨a.id, false, Zj a false, a.t⟩ : Arc)])).length p) := hm; rcases ac with ea | ea; (rw [ea] at hm; have x := M _ hm; have Y := al _ hm; omega); (have ez := Z _ hm; rw [ea] at hm; have kh := List.mem_singleton.1 hm; omega))
    have b1 : Ch ((bl (.slice aa h.length ab)) ++ (bl (.slice Aov (vs).length Cov))) aU a8 := (eP.step dN (fun i hm => by exact .inr (List.mem_append_left _ hm)))
    refine ⟨b1, ?_⟩
    refine dO 18 (Zk rfl rfl rfl ?_)
    have kU := ((mm.ch0 aM).ch0 b0).ch dN (fun g hg hm => by exact aL _ hm hg)
    refine Yi (j := a.f.toNat) kU el94 sz93 rfl rfl om om fun eB eC bI aW => ?_
    refine ⟨b1, ?_⟩
    refine dO 19 (Zk rfl rfl rfl ?_)
    refine Yn (j := a.f.toNat) (⟨o, ((h ++ [(⟨a.id, false, Zj a false, a.t⟩ : Arc)])).length, p⟩ : Sv) kU aW Sv.len sz93 rfl rfl rfl rfl om fun kV b2 eQ => ?_
    have pO := eQ.size
    have E := E.step eQ (fun i hi => .inl (by have x := l _ hi; omega))
    have ik : Ch ((bl (.slice aa h.length ab)) ++ (bl (.slice Aov (vs).length Cov))) aU kV := (b1.step eQ (fun i hm => by exact .inr (List.mem_append_right _ hm)))
    refine ⟨ik, ?_⟩
    refine Zw (by kernel_rfl) ?_
    refine Zb (ki _ _ ?_)
    have bN := fZ.chS eQ db
    have am := (bN).1
    rw [@List.length_set _ (Qv gV (gE.take k)), Qa] at am
    obtain ⟨aF, H⟩ := Zaj (xs := (vs.set a.f.toNat (⟨o, ((h ++ [(⟨a.id, false, Zj a false, a.t⟩ : Arc)])).length, p⟩ : Sv))) (j := a.t.toNat) om
    have J : Sep (.slice Aov (vs).length Cov) (vs.set a.f.toNat (⟨o, ((h ++ [(⟨a.id, false, Zj a false, a.t⟩ : Arc)])).length, p⟩ : Sv)) := db
    have I := J _ (Xa H)
    obtain ⟨b, r, A, ad⟩ := bN.ownget H
    have s := H
    obtain ⟨m, bJ, n⟩ := aF
    obtain rfl := A.ls.eqn
    have bK := A.len
    have z : Lo W4.heap.size (.slice m b.length n) := fun g hg => (ad g hg).1
    have bL : ∀ g ∈ bl (.slice m b.length n), g < a8.heap.size := fun g hg => (ad g hg).2
    have C := ij _ (Xa s)
    replace A : Ol Arc.cs 99 4 kV (.slice m b.length n) b := A
    have bM := Zav hg bd r
    refine Xl ((bl (.slice m b.length n)) ++ (bl (.slice Aov (vs).length Cov))) 20 mixed rfl fun an ax => ?_
    have pP := ax.size
    have E := E.trans ax
    refine dV 0 rfl rfl rfl (fun _ => Zf rfl) (dV 1 rfl rfl rfl (fun _ => Zh fa129_2 rfl) ?_)
    have eR := ((((es.ch0 aM).ch0 b0).ch dN (fun hm => by have x := M _ hm; have Y := al _ hm; omega)).ch eQ (fun hm => by have x := l _ hm; have Y := hiov _ hm; omega)).ch0 ax
    refine dT 2 rfl rfl rfl (Yo eR.at_ (fun i hm => by rcases List.mem_append.1 hm with hm | hm; (rcases Nat.lt_trichotomy i av with e | e | e; (exact .inl e); (exact absurd (e ▸ hm) C); (exact .inr e)); (have x := l _ hm; have Y := hiov _ hm; omega)) agg3 rfl rfl ?_)
    refine dV 3 rfl rfl rfl (fun _ => Zf rfl) (dV 4 rfl rfl rfl (fun _ => Zh fa129_2 rfl) ?_)
    refine dT 5 rfl rfl rfl (Yo eR.at_ (fun i hm => by rcases List.mem_append.1 hm with hm | hm; (rcases Nat.lt_trichotomy i av with e | e | e; (exact .inl e); (exact absurd (e ▸ hm) C); (exact .inr e)); (have x := l _ hm; have Y := hiov _ hm; omega)) agg3 rfl rfl ?_)
    refine dV 8 rfl rfl rfl (fun _ => Zh fa129_0 rfl) ?_
    refine dT 9 rfl rfl rfl (Yo eR.at_ (fun i hm => by rcases List.mem_append.1 hm with hm | hm; (rcases Nat.lt_trichotomy i av with e | e | e; (exact .inl e); (exact absurd (e ▸ hm) C); (exact .inr e)); (have x := l _ hm; have Y := hiov _ hm; omega)) agg3 rfl rfl ?_)
    refine dV 10 rfl rfl rfl (fun _ => Yk (parts := [(0, .tmp 45), (1, .const (Go.Value.bool true))]) (cells := [(.int .i64 a.id), (.bool true)]) zr97 pl97 rfl rfl) ?_
    refine dT 11 rfl rfl rfl (Yr eR.at_ (fun i hm => by rcases List.mem_append.1 hm with hm | hm; (rcases Nat.lt_trichotomy i av with e | e | e; (exact .inl e); (exact absurd (e ▸ hm) C); (exact .inr e)); (have x := l _ hm; have Y := hiov _ hm; omega)) agg129 sz129 rfl ?_)
    refine dV 13 rfl rfl rfl (fun _ => Zh fa129_1 rfl) ?_
    refine dT 14 rfl rfl rfl (Yo eR.at_ (fun i hm => by rcases List.mem_append.1 hm with hm | hm; (rcases Nat.lt_trichotomy i av with e | e | e; (exact .inl e); (exact absurd (e ▸ hm) C); (exact .inr e)); (have x := l _ hm; have Y := hiov _ hm; omega)) agg3 rfl rfl ?_)
    refine Yt 6 12 (by kernel_rfl) ?_ ?_
    ·refine Zk rfl rfl rfl ?_
     have f0 := b2.ch0 ax
     refine (Yc (j := a.t.toNat) f0.ls Sv.len el94 sz93 rfl rfl om om fun ae aG P G => ?_)
     obtain rfl := Zv H P
     replace G : At an 0 an.heap.size ae ([(.slice m b.length n)]) := G
     refine ⟨(Ch.refl _ _), ?_⟩
     refine Yt 7 12 (by kernel_rfl) ?_ ?_
     ·refine Zk rfl rfl rfl ?_
      refine s_v (Ya G agg93 rfl rfl) ?_
      refine ⟨(Ch.refl _ _), ?_⟩
      refine dO 12 (Zk rfl rfl rfl ?_)
      refine Step.call (Zr (xs := [.tmp 47, .const (Go.Value.bool true)]) fk104 rfl) (Yy a _ om) fun aH mO af => ?_
      obtain ⟨rfl, dP⟩ := af
      have pQ := dP.size
      have E := E.trans dP
      have eS : Ch ((bl (.slice m b.length n)) ++ (bl (.slice Aov (vs).length Cov))) an mO := ((Ch.refl _ _).trans dP.of_nil)
      refine ⟨eS, ?_⟩
      refine dV 15 rfl rfl rfl (fun _ => Yk (parts := [(0, .tmp 46), (1, .tmp 48), (2, .tmp 50)]) (cells := [(.int .i64 a.id), (.bool true), (.int .i64 (Zj a true)), (.int .i64 a.f)]) zr99 pl99 rfl rfl) (dO 16 (Zk rfl rfl rfl ?_))
      refine Zm (cs := Arc.cs) (parts := [(0, .tmp 51)]) (⟨0, false, 0, 0⟩ : Arc) [(⟨a.id, true, Zj a true, a.f⟩ : Arc)] el93 sz99 zr99 Arc.len (by decide) rfl rfl rfl (by decide) (by decide) rfl fun ag mP D Q dQ => ?_
      have pR := dQ.size
      have E := E.trans dQ
      obtain ⟨R, S, rfl, T, K⟩ := D.opn
      have eT : Ch ((bl (.slice m b.length n)) ++ (bl (.slice Aov (vs).length Cov))) an mP := (eS.trans dQ.of_nil)
      refine ⟨eT, ?_⟩
      refine dO 17 (Zk rfl rfl rfl ?_)
      have mQ := ((A.ch0 ax).ch0 dP).ch0 dQ
      have mR := ((bN.ch0 ax).ch0 dP).ch0 dQ
      refine Zy (cs := Arc.cs) el93 sz99 by99 zr99 rfl (by decide) Arc.one mQ D.ls rfl rfl (by simp only [List.length_append, List.length_singleton]; omega) (by simp only [List.length_append, List.length_singleton]; omega) z om fun ah il F U y eU => ?_
      have pS := eU.size
      have E := E.step eU (fun i hi => .inl (by have x := z _ hi; omega))
      obtain ⟨c, d, rfl, V, q⟩ := F.opn
      have f1 := Od.put (v' := (⟨c, ((b ++ [(⟨a.id, true, Zj a true, a.f⟩ : Arc)])).length, d⟩ : Sv)) (hi' := il.heap.size) mR s r eU (fun g hg => hg) F (fun g hg => by have e : g ∈ bl (.slice c ((b ++ [(⟨a.id, true, Zj a true, a.f⟩ : Arc)])).length d) := hg; rcases y with ea | ea; (left; rw [ea] at e; exact e); (right; exact ⟨by first | (have x := ea _ e; omega) | (rw [ea] at e; have x := List.mem_singleton.1 e; omega), q g e⟩)) om om
      have dc : Sep (.slice Aov (vs).length Cov) ((vs.set a.f.toNat (⟨o, ((h ++ [(⟨a.id, false, Zj a false, a.t⟩ : Arc)])).length, p⟩ : Sv)).set a.t.toNat (⟨c, ((b ++ [(⟨a.id, true, Zj a true, a.f⟩ : Arc)])).length, d⟩ : Sv)) := Sep.put (hi' := il.heap.size) (hi := a8.heap.size) J s (fun g hg => by have e : g ∈ bl (.slice c ((b ++ [(⟨a.id, true, Zj a true, a.f⟩ : Arc)])).length d) := hg; rcases y with ea | ea; (left; rw [ea] at e; exact e); (right; exact ⟨by first | (have x := ea _ e; omega) | (rw [ea] at e; have x := List.mem_singleton.1 e; omega), q g e⟩)) (fun g hm => by have x := l _ hm; have Y := hiov _ hm; omega)
      have b3 : Ch ((bl (.slice m b.length n)) ++ (bl (.slice Aov (vs).length Cov))) an il := (eT.step eU (fun i hm => by exact .inr (List.mem_append_left _ hm)))
      refine ⟨b3, ?_⟩
      refine dO 18 (Zk rfl rfl rfl ?_)
      have kW := ((f0.ch0 dP).ch0 dQ).ch eU (fun g hg hm => by exact I _ hm hg)
      refine Yi (j := a.t.toNat) kW el94 sz93 rfl rfl om om fun ai aj X L => ?_
      refine ⟨b3, ?_⟩
      refine dO 19 (Zk rfl rfl rfl ?_)
      refine Yn (j := a.t.toNat) (⟨c, ((b ++ [(⟨a.id, true, Zj a true, a.f⟩ : Arc)])).length, d⟩ : Sv) kW L Sv.len sz93 rfl rfl rfl rfl om fun kX im f2 => ?_
      have pT := f2.size
      have E := E.step f2 (fun i hi => .inl (by have x := l _ hi; omega))
      have io : Ch ((bl (.slice m b.length n)) ++ (bl (.slice Aov (vs).length Cov))) an kX := (b3.step f2 (fun i hm => by exact .inr (List.mem_append_right _ hm)))
      refine ⟨io, ?_⟩
      refine Zw (by kernel_rfl) ?_
      refine Zq (Zb (aC _ _ (Zc (Za rfl rfl (Ye om rfl rfl) (Za rfl rfl (Zf rfl) (Ze ?_))))))
      have f3 : Ol Sv.cs 93 1 kX (.slice Aov (vs).length Cov) (((vs.set a.f.toNat (⟨o, ((h ++ [(⟨a.id, false, Zj a false, a.t⟩ : Arc)])).length, p⟩ : Sv)).set a.t.toNat (⟨c, ((b ++ [(⟨a.id, true, Zj a true, a.f⟩ : Arc)])).length, d⟩ : Sv))) := by
       have hx := im
       exact hx
      have mS := f1.chS f2 dc
      exact Zb (Exists.intro ((k + 1), ((vs.set a.f.toNat (⟨o, ((h ++ [(⟨a.id, false, Zj a false, a.t⟩ : Arc)])).length, p⟩ : Sv)).set a.t.toNat (⟨c, ((b ++ [(⟨a.id, true, Zj a true, a.f⟩ : Arc)])).length, d⟩ : Sv)), (.slice Aov (vs).length Cov)) ⟨⟨E, om, om, (by simp only [List.length_set]; omega), f3, (Lo.down l om), ((mS.eq (Yu hg O B r)).up (Nat.le_refl _) om), dc⟩, sC4 rfl rfl rfl rfl (sC1 rfl (Sub.nil _)), (by first | omega | (dsimp only; omega))⟩)
     refine Zk rfl rfl rfl ?_
     refine Step.call (Zr (xs := [.tmp 47, .const (Go.Value.bool true)]) fk104 rfl) (Yy a _ om) fun aH mT af => ?_
     obtain ⟨rfl, aY⟩ := af
     have pU := aY.size
     have E := E.trans aY
     have bh : Ch ((bl (.slice m b.length n)) ++ (bl (.slice Aov (vs).length Cov))) an mT := ((Ch.refl _ _).trans aY.of_nil)
     refine ⟨bh, ?_⟩
     refine dV 15 rfl rfl rfl (fun _ => Yk (parts := [(0, .tmp 46), (1, .tmp 48), (2, .tmp 50)]) (cells := [(.int .i64 a.id), (.bool true), (.int .i64 (Zj a true)), (.int .i64 a.f)]) zr99 pl99 rfl rfl) ?_
     refine Yt 7 16 (by kernel_rfl) ?_ ?_
     ·refine Zk rfl rfl rfl ?_
      have mU := G.ch0 aY
      refine s_v (Ya mU agg93 rfl rfl) ?_
      refine ⟨bh, ?_⟩
      refine dO 16 (Zk rfl rfl rfl ?_)
      refine Zm (cs := Arc.cs) (parts := [(0, .tmp 51)]) (⟨0, false, 0, 0⟩ : Arc) [(⟨a.id, true, Zj a true, a.f⟩ : Arc)] el93 sz99 zr99 Arc.len (by decide) rfl rfl rfl (by decide) (by decide) rfl fun ag mV D Q dR => ?_
      have pV := dR.size
      have E := E.trans dR
      obtain ⟨R, S, rfl, T, K⟩ := D.opn
      have eV : Ch ((bl (.slice m b.length n)) ++ (bl (.slice Aov (vs).length Cov))) an mV := (bh.trans dR.of_nil)
      refine ⟨eV, ?_⟩
      refine dO 17 (Zk rfl rfl rfl ?_)
      have mW := ((A.ch0 ax).ch0 aY).ch0 dR
      have mX := ((bN.ch0 ax).ch0 aY).ch0 dR
      refine Zy (cs := Arc.cs) el93 sz99 by99 zr99 rfl (by decide) Arc.one mW D.ls rfl rfl (by simp only [List.length_append, List.length_singleton]; omega) (by simp only [List.length_append, List.length_singleton]; omega) z om fun ah ip F U y eW => ?_
      have pW := eW.size
      have E := E.step eW (fun i hi => .inl (by have x := z _ hi; omega))
      obtain ⟨c, d, rfl, V, q⟩ := F.opn
      have f4 := Od.put (v' := (⟨c, ((b ++ [(⟨a.id, true, Zj a true, a.f⟩ : Arc)])).length, d⟩ : Sv)) (hi' := ip.heap.size) mX s r eW (fun g hg => hg) F (fun g hg => by have e : g ∈ bl (.slice c ((b ++ [(⟨a.id, true, Zj a true, a.f⟩ : Arc)])).length d) := hg; rcases y with ea | ea; (left; rw [ea] at e; exact e); (right; exact ⟨by first | (have x := ea _ e; omega) | (rw [ea] at e; have x := List.mem_singleton.1 e; omega), q g e⟩)) om om
      have dd : Sep (.slice Aov (vs).length Cov) ((vs.set a.f.toNat (⟨o, ((h ++ [(⟨a.id, false, Zj a false, a.t⟩ : Arc)])).length, p⟩ : Sv)).set a.t.toNat (⟨c, ((b ++ [(⟨a.id, true, Zj a true, a.f⟩ : Arc)])).length, d⟩ : Sv)) := Sep.put (hi' := ip.heap.size) (hi := a8.heap.size) J s (fun g hg => by have e : g ∈ bl (.slice c ((b ++ [(⟨a.id, true, Zj a true, a.f⟩ : Arc)])).length d) := hg; rcases y with ea | ea; (left; rw [ea] at e; exact e); (right; exact ⟨by first | (have x := ea _ e; omega) | (rw [ea] at e; have x := List.mem_singleton.1 e; omega), q g e⟩)) (fun g hm => by have x := l _ hm; have Y := hiov _ hm; omega)
      have b4 : Ch ((bl (.slice m b.length n)) ++ (bl (.slice Aov (vs).length Cov))) an ip := (eV.step eW (fun i hm => by exact .inr (List.mem_append_left _ hm)))
      refine ⟨b4, ?_⟩
      refine dO 18 (Zk rfl rfl rfl ?_)
      have kY := ((f0.ch0 aY).ch0 dR).ch eW (fun g hg hm => by exact I _ hm hg)
      refine Yi (j := a.t.toNat) kY el94 sz93 rfl rfl om om fun ai aj X L => ?_
      refine ⟨b4, ?_⟩
      refine dO 19 (Zk rfl rfl rfl ?_)
      refine Yn (j := a.t.toNat) (⟨c, ((b ++ [(⟨a.id, true, Zj a true, a.f⟩ : Arc)])).length, d⟩ : Sv) kY L Sv.len sz93 rfl rfl rfl rfl om fun kZ iq f5 => ?_
      have pX := f5.size
      have E := E.step f5 (fun i hi => .inl (by have x := l _ hi; omega))
      have ir : Ch ((bl (.slice m b.length n)) ++ (bl (.slice Aov (vs).length Cov))) an kZ := (b4.step f5 (fun i hm => by exact .inr (List.mem_append_right _ hm)))
      refine ⟨ir, ?_⟩
      refine Zw (by kernel_rfl) ?_
      refine Zq (Zb (aC _ _ (Zc (Za rfl rfl (Ye om rfl rfl) (Za rfl rfl (Zf rfl) (Ze ?_))))))
      have f6 : Ol Sv.cs 93 1 kZ (.slice Aov (vs).length Cov) (((vs.set a.f.toNat (⟨o, ((h ++ [(⟨a.id, false, Zj a false, a.t⟩ : Arc)])).length, p⟩ : Sv)).set a.t.toNat (⟨c, ((b ++ [(⟨a.id, true, Zj a true, a.f⟩ : Arc)])).length, d⟩ : Sv))) := by
       have hx := iq
       exact hx
      have mY := f4.chS f5 dd
      exact Zb (Exists.intro ((k + 1), ((vs.set a.f.toNat (⟨o, ((h ++ [(⟨a.id, false, Zj a false, a.t⟩ : Arc)])).length, p⟩ : Sv)).set a.t.toNat (⟨c, ((b ++ [(⟨a.id, true, Zj a true, a.f⟩ : Arc)])).length, d⟩ : Sv)), (.slice Aov (vs).length Cov)) ⟨⟨E, om, om, (by simp only [List.length_set]; omega), f6, (Lo.down l om), ((mY.eq (Yu hg O B r)).up (Nat.le_refl _) om), dd⟩, sC4 rfl rfl rfl rfl (sC1 rfl (Sub.nil _)), (by first | omega | (dsimp only; omega))⟩)
     refine Zk rfl rfl rfl ?_
     refine Zm (cs := Arc.cs) (parts := [(0, .tmp 51)]) (⟨0, false, 0, 0⟩ : Arc) [(⟨a.id, true, Zj a true, a.f⟩ : Arc)] el93 sz99 zr99 Arc.len (by decide) rfl rfl rfl (by decide) (by decide) rfl fun ag mZ D Q b5 => ?_
     have pY := b5.size
     have E := E.trans b5
     obtain ⟨R, S, rfl, T, K⟩ := D.opn
     have b6 : Ch ((bl (.slice m b.length n)) ++ (bl (.slice Aov (vs).length Cov))) an mZ := (bh.trans b5.of_nil)
     refine ⟨b6, ?_⟩
     refine dO 7 (Zk rfl rfl rfl ?_)
     have m0 := (G.ch0 aY).ch0 b5
     refine s_v (Ya m0 agg93 rfl rfl) ?_
     refine ⟨b6, ?_⟩
     refine dO 17 (Zk rfl rfl rfl ?_)
     have m1 := ((A.ch0 ax).ch0 aY).ch0 b5
     have m2 := ((bN.ch0 ax).ch0 aY).ch0 b5
     refine Zy (cs := Arc.cs) el93 sz99 by99 zr99 rfl (by decide) Arc.one m1 D.ls rfl rfl (by simp only [List.length_append, List.length_singleton]; omega) (by simp only [List.length_append, List.length_singleton]; omega) z om fun ah it F U y eX => ?_
     have pZ := eX.size
     have E := E.step eX (fun i hi => .inl (by have x := z _ hi; omega))
     obtain ⟨c, d, rfl, V, q⟩ := F.opn
     have f7 := Od.put (v' := (⟨c, ((b ++ [(⟨a.id, true, Zj a true, a.f⟩ : Arc)])).length, d⟩ : Sv)) (hi' := it.heap.size) m2 s r eX (fun g hg => hg) F (fun g hg => by have e : g ∈ bl (.slice c ((b ++ [(⟨a.id, true, Zj a true, a.f⟩ : Arc)])).length d) := hg; rcases y with ea | ea; (left; rw [ea] at e; exact e); (right; exact ⟨by first | (have x := ea _ e; omega) | (rw [ea] at e; have x := List.mem_singleton.1 e; omega), q g e⟩)) om om
     have de : Sep (.slice Aov (vs).length Cov) ((vs.set a.f.toNat (⟨o, ((h ++ [(⟨a.id, false, Zj a false, a.t⟩ : Arc)])).length, p⟩ : Sv)).set a.t.toNat (⟨c, ((b ++ [(⟨a.id, true, Zj a true, a.f⟩ : Arc)])).length, d⟩ : Sv)) := Sep.put (hi' := it.heap.size) (hi := a8.heap.size) J s (fun g hg => by have e : g ∈ bl (.slice c ((b ++ [(⟨a.id, true, Zj a true, a.f⟩ : Arc)])).length d) := hg; rcases y with ea | ea; (left; rw [ea] at e; exact e); (right; exact ⟨by first | (have x := ea _ e; omega) | (rw [ea] at e; have x := List.mem_singleton.1 e; omega), q g e⟩)) (fun g hm => by have x := l _ hm; have Y := hiov _ hm; omega)
     have b7 : Ch ((bl (.slice m b.length n)) ++ (bl (.slice Aov (vs).length Cov))) an it := (b6.step eX (fun i hm => by exact .inr (List.mem_append_left _ hm)))
     refine ⟨b7, ?_⟩
     refine dO 18 (Zk rfl rfl rfl ?_)
     have k2 := ((f0.ch0 aY).ch0 b5).ch eX (fun g hg hm => by exact I _ hm hg)
     refine Yi (j := a.t.toNat) k2 el94 sz93 rfl rfl om om fun ai aj X L => ?_
     refine ⟨b7, ?_⟩
     refine dO 19 (Zk rfl rfl rfl ?_)
     refine Yn (j := a.t.toNat) (⟨c, ((b ++ [(⟨a.id, true, Zj a true, a.f⟩ : Arc)])).length, d⟩ : Sv) k2 L Sv.len sz93 rfl rfl rfl rfl om fun k3 iu f8 => ?_
     have p0 := f8.size
     have E := E.step f8 (fun i hi => .inl (by have x := l _ hi; omega))
     have iv : Ch ((bl (.slice m b.length n)) ++ (bl (.slice Aov (vs).length Cov))) an k3 := (b7.step f8 (fun i hm => by exact .inr (List.mem_append_right _ hm)))
     refine ⟨iv, ?_⟩
     refine Zw (by kernel_rfl) ?_
     refine Zq (Zb (aC _ _ (Zc (Za rfl rfl (Ye om rfl rfl) (Za rfl rfl (Zf rfl) (Ze ?_))))))
     have f9 : Ol Sv.cs 93 1 k3 (.slice Aov (vs).length Cov) (((vs.set a.f.toNat (⟨o, ((h ++ [(⟨a.id, false, Zj a false, a.t⟩ : Arc)])).length, p⟩ : Sv)).set a.t.toNat (⟨c, ((b ++ [(⟨a.id, true, Zj a true, a.f⟩ : Arc)])).length, d⟩ : Sv))) := by
      have hx := iu
      exact hx
     have m3 := f7.chS f8 de
     exact Zb (Exists.intro ((k + 1), ((vs.set a.f.toNat (⟨o, ((h ++ [(⟨a.id, false, Zj a false, a.t⟩ : Arc)])).length, p⟩ : Sv)).set a.t.toNat (⟨c, ((b ++ [(⟨a.id, true, Zj a true, a.f⟩ : Arc)])).length, d⟩ : Sv)), (.slice Aov (vs).length Cov)) ⟨⟨E, om, om, (by simp only [List.length_set]; omega), f9, (Lo.down l om), ((m3.eq (Yu hg O B r)).up (Nat.le_refl _) om), de⟩, sC4 rfl rfl rfl rfl (sC1 rfl (Sub.nil _)), (by first | omega | (dsimp only; omega))⟩)
    refine Zk rfl rfl rfl ?_
    refine Step.call (Zr (xs := [.tmp 47, .const (Go.Value.bool true)]) fk104 rfl) (Yy a _ om) fun aH iw af => ?_
    obtain ⟨rfl, aZ⟩ := af
    have p1 := aZ.size
    have E := E.trans aZ
    have aN : Ch ((bl (.slice m b.length n)) ++ (bl (.slice Aov (vs).length Cov))) an iw := ((Ch.refl _ _).trans aZ.of_nil)
    refine ⟨aN, ?_⟩
    refine dV 15 rfl rfl rfl (fun _ => Yk (parts := [(0, .tmp 46), (1, .tmp 48), (2, .tmp 50)]) (cells := [(.int .i64 a.id), (.bool true), (.int .i64 (Zj a true)), (.int .i64 a.f)]) zr99 pl99 rfl rfl) ?_
    refine Yt 6 16 (by kernel_rfl) ?_ ?_
    ·refine Zk rfl rfl rfl ?_
     have ix := (b2.ch0 ax).ch0 aZ
     refine (Yc (j := a.t.toNat) ix.ls Sv.len el94 sz93 rfl rfl om om fun ae aG P G => ?_)
     obtain rfl := Zv H P
     replace G : At iw 0 iw.heap.size ae ([(.slice m b.length n)]) := G
     refine ⟨aN, ?_⟩
     refine Yt 7 16 (by kernel_rfl) ?_ ?_
     ·refine Zk rfl rfl rfl ?_
      refine s_v (Ya G agg93 rfl rfl) ?_
      refine ⟨aN, ?_⟩
      refine dO 16 (Zk rfl rfl rfl ?_)
      refine Zm (cs := Arc.cs) (parts := [(0, .tmp 51)]) (⟨0, false, 0, 0⟩ : Arc) [(⟨a.id, true, Zj a true, a.f⟩ : Arc)] el93 sz99 zr99 Arc.len (by decide) rfl rfl rfl (by decide) (by decide) rfl fun ag m4 D Q dU => ?_
      have p2 := dU.size
      have E := E.trans dU
      obtain ⟨R, S, rfl, T, K⟩ := D.opn
      have eY : Ch ((bl (.slice m b.length n)) ++ (bl (.slice Aov (vs).length Cov))) an m4 := (aN.trans dU.of_nil)
      refine ⟨eY, ?_⟩
      refine dO 17 (Zk rfl rfl rfl ?_)
      have m5 := ((A.ch0 ax).ch0 aZ).ch0 dU
      have m6 := ((bN.ch0 ax).ch0 aZ).ch0 dU
      refine Zy (cs := Arc.cs) el93 sz99 by99 zr99 rfl (by decide) Arc.one m5 D.ls rfl rfl (by simp only [List.length_append, List.length_singleton]; omega) (by simp only [List.length_append, List.length_singleton]; omega) z om fun ah iy F U y eZ => ?_
      have p3 := eZ.size
      have E := E.step eZ (fun i hi => .inl (by have x := z _ hi; omega))
      obtain ⟨c, d, rfl, V, q⟩ := F.opn
      have ga := Od.put (v' := (⟨c, ((b ++ [(⟨a.id, true, Zj a true, a.f⟩ : Arc)])).length, d⟩ : Sv)) (hi' := iy.heap.size) m6 s r eZ (fun g hg => hg) F (fun g hg => by have e : g ∈ bl (.slice c ((b ++ [(⟨a.id, true, Zj a true, a.f⟩ : Arc)])).length d) := hg; rcases y with ea | ea; (left; rw [ea] at e; exact e); (right; exact ⟨by first | (have x := ea _ e; omega) | (rw [ea] at e; have x := List.mem_singleton.1 e; omega), q g e⟩)) om om
      have df : Sep (.slice Aov (vs).length Cov) ((vs.set a.f.toNat (⟨o, ((h ++ [(⟨a.id, false, Zj a false, a.t⟩ : Arc)])).length, p⟩ : Sv)).set a.t.toNat (⟨c, ((b ++ [(⟨a.id, true, Zj a true, a.f⟩ : Arc)])).length, d⟩ : Sv)) := Sep.put (hi' := iy.heap.size) (hi := a8.heap.size) J s (fun g hg => by have e : g ∈ bl (.slice c ((b ++ [(⟨a.id, true, Zj a true, a.f⟩ : Arc)])).length d) := hg; rcases y with ea | ea; (left; rw [ea] at e; exact e); (right; exact ⟨by first | (have x := ea _ e; omega) | (rw [ea] at e; have x := List.mem_singleton.1 e; omega), q g e⟩)) (fun g hm => by have x := l _ hm; have Y := hiov _ hm; omega)
      have b8 : Ch ((bl (.slice m b.length n)) ++ (bl (.slice Aov (vs).length Cov))) an iy := (eY.step eZ (fun i hm => by exact .inr (List.mem_append_left _ hm)))
      refine ⟨b8, ?_⟩
      refine dO 18 (Zk rfl rfl rfl ?_)
      have k4 := (ix.ch0 dU).ch eZ (fun g hg hm => by exact I _ hm hg)
      refine Yi (j := a.t.toNat) k4 el94 sz93 rfl rfl om om fun ai aj X L => ?_
      refine ⟨b8, ?_⟩
      refine dO 19 (Zk rfl rfl rfl ?_)
      refine Yn (j := a.t.toNat) (⟨c, ((b ++ [(⟨a.id, true, Zj a true, a.f⟩ : Arc)])).length, d⟩ : Sv) k4 L Sv.len sz93 rfl rfl rfl rfl om fun k5 iz gb => ?_
      have p4 := gb.size
      have E := E.step gb (fun i hi => .inl (by have x := l _ hi; omega))
      have iA : Ch ((bl (.slice m b.length n)) ++ (bl (.slice Aov (vs).length Cov))) an k5 := (b8.step gb (fun i hm => by exact .inr (List.mem_append_right _ hm)))
      refine ⟨iA, ?_⟩
      refine Zw (by kernel_rfl) ?_
      refine Zq (Zb (aC _ _ (Zc (Za rfl rfl (Ye om rfl rfl) (Za rfl rfl (Zf rfl) (Ze ?_))))))
      have gc : Ol Sv.cs 93 1 k5 (.slice Aov (vs).length Cov) (((vs.set a.f.toNat (⟨o, ((h ++ [(⟨a.id, false, Zj a false, a.t⟩ : Arc)])).length, p⟩ : Sv)).set a.t.toNat (⟨c, ((b ++ [(⟨a.id, true, Zj a true, a.f⟩ : Arc)])).length, d⟩ : Sv))) := by
       have hx := iz
       exact hx
      have m7 := ga.chS gb df
      exact Zb (Exists.intro ((k + 1), ((vs.set a.f.toNat (⟨o, ((h ++ [(⟨a.id, false, Zj a false, a.t⟩ : Arc)])).length, p⟩ : Sv)).set a.t.toNat (⟨c, ((b ++ [(⟨a.id, true, Zj a true, a.f⟩ : Arc)])).length, d⟩ : Sv)), (.slice Aov (vs).length Cov)) ⟨⟨E, om, om, (by simp only [List.length_set]; omega), gc, (Lo.down l om), ((m7.eq (Yu hg O B r)).up (Nat.le_refl _) om), df⟩, sC4 rfl rfl rfl rfl (sC1 rfl (Sub.nil _)), (by first | omega | (dsimp only; omega))⟩)
     refine Zk rfl rfl rfl ?_
     refine Zm (cs := Arc.cs) (parts := [(0, .tmp 51)]) (⟨0, false, 0, 0⟩ : Arc) [(⟨a.id, true, Zj a true, a.f⟩ : Arc)] el93 sz99 zr99 Arc.len (by decide) rfl rfl rfl (by decide) (by decide) rfl fun ag m8 D Q b9 => ?_
     have p5 := b9.size
     have E := E.trans b9
     obtain ⟨R, S, rfl, T, K⟩ := D.opn
     have ca : Ch ((bl (.slice m b.length n)) ++ (bl (.slice Aov (vs).length Cov))) an m8 := (aN.trans b9.of_nil)
     refine ⟨ca, ?_⟩
     refine dO 7 (Zk rfl rfl rfl ?_)
     have m9 := G.ch0 b9
     refine s_v (Ya m9 agg93 rfl rfl) ?_
     refine ⟨ca, ?_⟩
     refine dO 17 (Zk rfl rfl rfl ?_)
     have na := ((A.ch0 ax).ch0 aZ).ch0 b9
     have nb := ((bN.ch0 ax).ch0 aZ).ch0 b9
     refine Zy (cs := Arc.cs) el93 sz99 by99 zr99 rfl (by decide) Arc.one na D.ls rfl rfl (by simp only [List.length_append, List.length_singleton]; omega) (by simp only [List.length_append, List.length_singleton]; omega) z om fun ah iB F U y e0 => ?_
     have p6 := e0.size
     have E := E.step e0 (fun i hi => .inl (by have x := z _ hi; omega))
     obtain ⟨c, d, rfl, V, q⟩ := F.opn
     have gd := Od.put (v' := (⟨c, ((b ++ [(⟨a.id, true, Zj a true, a.f⟩ : Arc)])).length, d⟩ : Sv)) (hi' := iB.heap.size) nb s r e0 (fun g hg => hg) F (fun g hg => by have e : g ∈ bl (.slice c ((b ++ [(⟨a.id, true, Zj a true, a.f⟩ : Arc)])).length d) := hg; rcases y with ea | ea; (left; rw [ea] at e; exact e); (right; exact ⟨by first | (have x := ea _ e; omega) | (rw [ea] at e; have x := List.mem_singleton.1 e; omega), q g e⟩)) om om
     have dg : Sep (.slice Aov (vs).length Cov) ((vs.set a.f.toNat (⟨o, ((h ++ [(⟨a.id, false, Zj a false, a.t⟩ : Arc)])).length, p⟩ : Sv)).set a.t.toNat (⟨c, ((b ++ [(⟨a.id, true, Zj a true, a.f⟩ : Arc)])).length, d⟩ : Sv)) := Sep.put (hi' := iB.heap.size) (hi := a8.heap.size) J s (fun g hg => by have e : g ∈ bl (.slice c ((b ++ [(⟨a.id, true, Zj a true, a.f⟩ : Arc)])).length d) := hg; rcases y with ea | ea; (left; rw [ea] at e; exact e); (right; exact ⟨by first | (have x := ea _ e; omega) | (rw [ea] at e; have x := List.mem_singleton.1 e; omega), q g e⟩)) (fun g hm => by have x := l _ hm; have Y := hiov _ hm; omega)
     have cb : Ch ((bl (.slice m b.length n)) ++ (bl (.slice Aov (vs).length Cov))) an iB := (ca.step e0 (fun i hm => by exact .inr (List.mem_append_left _ hm)))
     refine ⟨cb, ?_⟩
     refine dO 18 (Zk rfl rfl rfl ?_)
     have k6 := (ix.ch0 b9).ch e0 (fun g hg hm => by exact I _ hm hg)
     refine Yi (j := a.t.toNat) k6 el94 sz93 rfl rfl om om fun ai aj X L => ?_
     refine ⟨cb, ?_⟩
     refine dO 19 (Zk rfl rfl rfl ?_)
     refine Yn (j := a.t.toNat) (⟨c, ((b ++ [(⟨a.id, true, Zj a true, a.f⟩ : Arc)])).length, d⟩ : Sv) k6 L Sv.len sz93 rfl rfl rfl rfl om fun k7 iC ge => ?_
     have p7 := ge.size
     have E := E.step ge (fun i hi => .inl (by have x := l _ hi; omega))
     have iD : Ch ((bl (.slice m b.length n)) ++ (bl (.slice Aov (vs).length Cov))) an k7 := (cb.step ge (fun i hm => by exact .inr (List.mem_append_right _ hm)))
     refine ⟨iD, ?_⟩
     refine Zw (by kernel_rfl) ?_
     refine Zq (Zb (aC _ _ (Zc (Za rfl rfl (Ye om rfl rfl) (Za rfl rfl (Zf rfl) (Ze ?_))))))
     have gf : Ol Sv.cs 93 1 k7 (.slice Aov (vs).length Cov) (((vs.set a.f.toNat (⟨o, ((h ++ [(⟨a.id, false, Zj a false, a.t⟩ : Arc)])).length, p⟩ : Sv)).set a.t.toNat (⟨c, ((b ++ [(⟨a.id, true, Zj a true, a.f⟩ : Arc)])).length, d⟩ : Sv))) := by
      have hx := iC
      exact hx
     have nc := gd.chS ge dg
     exact Zb (Exists.intro ((k + 1), ((vs.set a.f.toNat (⟨o, ((h ++ [(⟨a.id, false, Zj a false, a.t⟩ : Arc)])).length, p⟩ : Sv)).set a.t.toNat (⟨c, ((b ++ [(⟨a.id, true, Zj a true, a.f⟩ : Arc)])).length, d⟩ : Sv)), (.slice Aov (vs).length Cov)) ⟨⟨E, om, om, (by simp only [List.length_set]; omega), gf, (Lo.down l om), ((nc.eq (Yu hg O B r)).up (Nat.le_refl _) om), dg⟩, sC4 rfl rfl rfl rfl (sC1 rfl (Sub.nil _)), (by first | omega | (dsimp only; omega))⟩)
    refine Zk rfl rfl rfl ?_
    refine Zm (cs := Arc.cs) (parts := [(0, .tmp 51)]) (⟨0, false, 0, 0⟩ : Arc) [(⟨a.id, true, Zj a true, a.f⟩ : Arc)] el93 sz99 zr99 Arc.len (by decide) rfl rfl rfl (by decide) (by decide) rfl fun ag iE D Q dW => ?_
    have p8 := dW.size
    have E := E.trans dW
    obtain ⟨R, S, rfl, T, K⟩ := D.opn
    have bi : Ch ((bl (.slice m b.length n)) ++ (bl (.slice Aov (vs).length Cov))) an iE := (aN.trans dW.of_nil)
    refine ⟨bi, ?_⟩
    refine dO 6 (Zk rfl rfl rfl ?_)
    have k8 := ((b2.ch0 ax).ch0 aZ).ch0 dW
    refine (Yc (j := a.t.toNat) k8.ls Sv.len el94 sz93 rfl rfl om om fun ae aG P G => ?_)
    obtain rfl := Zv H P
    replace G : At iE 0 iE.heap.size ae ([(.slice m b.length n)]) := G
    refine ⟨bi, ?_⟩
    refine dO 7 (Zk rfl rfl rfl ?_)
    refine s_v (Ya G agg93 rfl rfl) ?_
    refine ⟨bi, ?_⟩
    refine dO 17 (Zk rfl rfl rfl ?_)
    have nd := ((A.ch0 ax).ch0 aZ).ch0 dW
    have nf := ((bN.ch0 ax).ch0 aZ).ch0 dW
    refine Zy (cs := Arc.cs) el93 sz99 by99 zr99 rfl (by decide) Arc.one nd D.ls rfl rfl (by simp only [List.length_append, List.length_singleton]; omega) (by simp only [List.length_append, List.length_singleton]; omega) z om fun ah iF F U y e1 => ?_
    have p9 := e1.size
    have E := E.step e1 (fun i hi => .inl (by have x := z _ hi; omega))
    obtain ⟨c, d, rfl, V, q⟩ := F.opn
    have gg := Od.put (v' := (⟨c, ((b ++ [(⟨a.id, true, Zj a true, a.f⟩ : Arc)])).length, d⟩ : Sv)) (hi' := iF.heap.size) nf s r e1 (fun g hg => hg) F (fun g hg => by have e : g ∈ bl (.slice c ((b ++ [(⟨a.id, true, Zj a true, a.f⟩ : Arc)])).length d) := hg; rcases y with ea | ea; (left; rw [ea] at e; exact e); (right; exact ⟨by first | (have x := ea _ e; omega) | (rw [ea] at e; have x := List.mem_singleton.1 e; omega), q g e⟩)) om om
    have dh : Sep (.slice Aov (vs).length Cov) ((vs.set a.f.toNat (⟨o, ((h ++ [(⟨a.id, false, Zj a false, a.t⟩ : Arc)])).length, p⟩ : Sv)).set a.t.toNat (⟨c, ((b ++ [(⟨a.id, true, Zj a true, a.f⟩ : Arc)])).length, d⟩ : Sv)) := Sep.put (hi' := iF.heap.size) (hi := a8.heap.size) J s (fun g hg => by have e : g ∈ bl (.slice c ((b ++ [(⟨a.id, true, Zj a true, a.f⟩ : Arc)])).length d) := hg; rcases y with ea | ea; (left; rw [ea] at e; exact e); (right; exact ⟨by first | (have x := ea _ e; omega) | (rw [ea] at e; have x := List.mem_singleton.1 e; omega), q g e⟩)) (fun g hm => by have x := l _ hm; have Y := hiov _ hm; omega)
    have cc : Ch ((bl (.slice m b.length n)) ++ (bl (.slice Aov (vs).length Cov))) an iF := (bi.step e1 (fun i hm => by exact .inr (List.mem_append_left _ hm)))
    refine ⟨cc, ?_⟩
    refine dO 18 (Zk rfl rfl rfl ?_)
    have k9 := k8.ch e1 (fun g hg hm => by exact I _ hm hg)
    refine Yi (j := a.t.toNat) k9 el94 sz93 rfl rfl om om fun ai aj X L => ?_
    refine ⟨cc, ?_⟩
    refine dO 19 (Zk rfl rfl rfl ?_)
    refine Yn (j := a.t.toNat) (⟨c, ((b ++ [(⟨a.id, true, Zj a true, a.f⟩ : Arc)])).length, d⟩ : Sv) k9 L Sv.len sz93 rfl rfl rfl rfl om fun la iG gh => ?_
    have qa := gh.size
    have E := E.step gh (fun i hi => .inl (by have x := l _ hi; omega))
    have iH : Ch ((bl (.slice m b.length n)) ++ (bl (.slice Aov (vs).length Cov))) an la := (cc.step gh (fun i hm => by exact .inr (List.mem_append_right _ hm)))
    refine ⟨iH, ?_⟩
    refine Zw (by kernel_rfl) ?_
    refine Zq (Zb (aC _ _ (Zc (Za rfl rfl (Ye om rfl rfl) (Za rfl rfl (Zf rfl) (Ze ?_))))))
    have gi : Ol Sv.cs 93 1 la (.slice Aov (vs).length Cov) (((vs.set a.f.toNat (⟨o, ((h ++ [(⟨a.id, false, Zj a false, a.t⟩ : Arc)])).length, p⟩ : Sv)).set a.t.toNat (⟨c, ((b ++ [(⟨a.id, true, Zj a true, a.f⟩ : Arc)])).length, d⟩ : Sv))) := by
     have hx := iG
     exact hx
    have ng := gg.chS gh dh
    exact Zb (Exists.intro ((k + 1), ((vs.set a.f.toNat (⟨o, ((h ++ [(⟨a.id, false, Zj a false, a.t⟩ : Arc)])).length, p⟩ : Sv)).set a.t.toNat (⟨c, ((b ++ [(⟨a.id, true, Zj a true, a.f⟩ : Arc)])).length, d⟩ : Sv)), (.slice Aov (vs).length Cov)) ⟨⟨E, om, om, (by simp only [List.length_set]; omega), gi, (Lo.down l om), ((ng.eq (Yu hg O B r)).up (Nat.le_refl _) om), dh⟩, sC4 rfl rfl rfl rfl (sC1 rfl (Sub.nil _)), (by first | omega | (dsimp only; omega))⟩)
   refine Zk rfl rfl rfl ?_
   refine Zm (cs := Arc.cs) (parts := [(0, .tmp 32)]) (⟨0, false, 0, 0⟩ : Arc) [(⟨a.id, false, Zj a false, a.t⟩ : Arc)] el93 sz99 zr99 Arc.len (by decide) rfl rfl rfl (by decide) (by decide) rfl fun ew nh aD bB bO => ?_
   have qb := bO.size
   have E := E.trans bO
   obtain ⟨bC, bD, rfl, bF, aV⟩ := aD.opn
   have cd : Ch ((bl (.slice aa h.length ab)) ++ (bl (.slice Aov (vs).length Cov))) aU nh := (bg.trans bO.of_nil)
   refine ⟨cd, ?_⟩
   refine dO 7 (Zk rfl rfl rfl ?_)
   have ni := (aI.ch0 aM).ch0 bO
   refine s_v (Ya ni agg93 rfl rfl) ?_
   refine ⟨cd, ?_⟩
   refine dO 17 (Zk rfl rfl rfl ?_)
   have nj := ((aw.ch0 bv).ch0 aM).ch0 bO
   have lb := ((hN.ch0 bv).ch0 aM).ch0 bO
   refine Zy (cs := Arc.cs) el93 sz99 by99 zr99 rfl (by decide) Arc.one nj aD.ls rfl rfl (by simp only [List.length_append, List.length_singleton]; omega) (by simp only [List.length_append, List.length_singleton]; omega) M om fun ex a9 aE bG ac dX => ?_
   have qc := dX.size
   have E := E.step dX (fun i hi => .inl (by have x := M _ hi; omega))
   obtain ⟨o, p, rfl, bH, Z⟩ := aE.opn
   have gj := Od.put (v' := (⟨o, ((h ++ [(⟨a.id, false, Zj a false, a.t⟩ : Arc)])).length, p⟩ : Sv)) (hi' := a9.heap.size) lb ak B dX (fun g hg => hg) aE (fun g hg => by have e : g ∈ bl (.slice o ((h ++ [(⟨a.id, false, Zj a false, a.t⟩ : Arc)])).length p) := hg; rcases ac with ea | ea; (left; rw [ea] at e; exact e); (right; exact ⟨by first | (have x := ea _ e; omega) | (rw [ea] at e; have x := List.mem_singleton.1 e; omega), Z g e⟩)) om om
   have di : Sep (.slice Aov (vs).length Cov) (vs.set a.f.toNat (⟨o, ((h ++ [(⟨a.id, false, Zj a false, a.t⟩ : Arc)])).length, p⟩ : Sv)) := Sep.put (hi' := a9.heap.size) (hi := R9.heap.size) aT ak (fun g hg => by have e : g ∈ bl (.slice o ((h ++ [(⟨a.id, false, Zj a false, a.t⟩ : Arc)])).length p) := hg; rcases ac with ea | ea; (left; rw [ea] at e; exact e); (right; exact ⟨by first | (have x := ea _ e; omega) | (rw [ea] at e; have x := List.mem_singleton.1 e; omega), Z g e⟩)) (fun g hm => by have x := l _ hm; have Y := hiov _ hm; omega)
   have iI : ∀ u ∈ (vs.set a.f.toNat (⟨o, ((h ++ [(⟨a.id, false, Zj a false, a.t⟩ : Arc)])).length, p⟩ : Sv)), av ∉ bl u.v := Zhs (fun u hu hm => by have e := Od.rng lb hu hm; omega) (fun hm => by have hm : av ∈ bl (.slice o ((h ++ [(⟨a.id, false, Zj a false, a.t⟩ : Arc)])).length p) := hm; rcases ac with ea | ea; (rw [ea] at hm; have x := M _ hm; have Y := al _ hm; omega); (have ez := Z _ hm; rw [ea] at hm; have kh := List.mem_singleton.1 hm; omega))
   have ce : Ch ((bl (.slice aa h.length ab)) ++ (bl (.slice Aov (vs).length Cov))) aU a9 := (cd.step dX (fun i hm => by exact .inr (List.mem_append_left _ hm)))
   refine ⟨ce, ?_⟩
   refine dO 18 (Zk rfl rfl rfl ?_)
   have lc := ((mm.ch0 aM).ch0 bO).ch dX (fun g hg hm => by exact aL _ hm hg)
   refine Yi (j := a.f.toNat) lc el94 sz93 rfl rfl om om fun eB eC bI aW => ?_
   refine ⟨ce, ?_⟩
   refine dO 19 (Zk rfl rfl rfl ?_)
   refine Yn (j := a.f.toNat) (⟨o, ((h ++ [(⟨a.id, false, Zj a false, a.t⟩ : Arc)])).length, p⟩ : Sv) lc aW Sv.len sz93 rfl rfl rfl rfl om fun ld cf e2 => ?_
   have qd := e2.size
   have E := E.step e2 (fun i hi => .inl (by have x := l _ hi; omega))
   have iJ : Ch ((bl (.slice aa h.length ab)) ++ (bl (.slice Aov (vs).length Cov))) aU ld := (ce.step e2 (fun i hm => by exact .inr (List.mem_append_right _ hm)))
   refine ⟨iJ, ?_⟩
   refine Zw (by kernel_rfl) ?_
   refine Zb (ki _ _ ?_)
   have bP := gj.chS e2 di
   have am := (bP).1
   rw [@List.length_set _ (Qv gV (gE.take k)), Qa] at am
   obtain ⟨aF, H⟩ := Zaj (xs := (vs.set a.f.toNat (⟨o, ((h ++ [(⟨a.id, false, Zj a false, a.t⟩ : Arc)])).length, p⟩ : Sv))) (j := a.t.toNat) om
   have J : Sep (.slice Aov (vs).length Cov) (vs.set a.f.toNat (⟨o, ((h ++ [(⟨a.id, false, Zj a false, a.t⟩ : Arc)])).length, p⟩ : Sv)) := di
   have I := J _ (Xa H)
   obtain ⟨b, r, A, ad⟩ := bP.ownget H
   have s := H
   obtain ⟨m, bJ, n⟩ := aF
   obtain rfl := A.ls.eqn
   have bK := A.len
   have z : Lo W4.heap.size (.slice m b.length n) := fun g hg => (ad g hg).1
   have bL : ∀ g ∈ bl (.slice m b.length n), g < a9.heap.size := fun g hg => (ad g hg).2
   have C := iI _ (Xa s)
   replace A : Ol Arc.cs 99 4 ld (.slice m b.length n) b := A
   have bM := Zav hg bd r
   refine Xl ((bl (.slice m b.length n)) ++ (bl (.slice Aov (vs).length Cov))) 20 mixed rfl fun ao ay => ?_
   have qe := ay.size
   have E := E.trans ay
   refine dV 0 rfl rfl rfl (fun _ => Zf rfl) (dV 1 rfl rfl rfl (fun _ => Zh fa129_2 rfl) ?_)
   have e3 := ((((es.ch0 aM).ch0 bO).ch dX (fun hm => by have x := M _ hm; have Y := al _ hm; omega)).ch e2 (fun hm => by have x := l _ hm; have Y := hiov _ hm; omega)).ch0 ay
   refine dT 2 rfl rfl rfl (Yo e3.at_ (fun i hm => by rcases List.mem_append.1 hm with hm | hm; (rcases Nat.lt_trichotomy i av with e | e | e; (exact .inl e); (exact absurd (e ▸ hm) C); (exact .inr e)); (have x := l _ hm; have Y := hiov _ hm; omega)) agg3 rfl rfl ?_)
   refine dV 3 rfl rfl rfl (fun _ => Zf rfl) (dV 4 rfl rfl rfl (fun _ => Zh fa129_2 rfl) ?_)
   refine dT 5 rfl rfl rfl (Yo e3.at_ (fun i hm => by rcases List.mem_append.1 hm with hm | hm; (rcases Nat.lt_trichotomy i av with e | e | e; (exact .inl e); (exact absurd (e ▸ hm) C); (exact .inr e)); (have x := l _ hm; have Y := hiov _ hm; omega)) agg3 rfl rfl ?_)
   refine dV 8 rfl rfl rfl (fun _ => Zh fa129_0 rfl) ?_
   refine dT 9 rfl rfl rfl (Yo e3.at_ (fun i hm => by rcases List.mem_append.1 hm with hm | hm; (rcases Nat.lt_trichotomy i av with e | e | e; (exact .inl e); (exact absurd (e ▸ hm) C); (exact .inr e)); (have x := l _ hm; have Y := hiov _ hm; omega)) agg3 rfl rfl ?_)
   refine dV 10 rfl rfl rfl (fun _ => Yk (parts := [(0, .tmp 45), (1, .const (Go.Value.bool true))]) (cells := [(.int .i64 a.id), (.bool true)]) zr97 pl97 rfl rfl) ?_
   refine dT 11 rfl rfl rfl (Yr e3.at_ (fun i hm => by rcases List.mem_append.1 hm with hm | hm; (rcases Nat.lt_trichotomy i av with e | e | e; (exact .inl e); (exact absurd (e ▸ hm) C); (exact .inr e)); (have x := l _ hm; have Y := hiov _ hm; omega)) agg129 sz129 rfl ?_)
   refine dV 13 rfl rfl rfl (fun _ => Zh fa129_1 rfl) ?_
   refine dT 14 rfl rfl rfl (Yo e3.at_ (fun i hm => by rcases List.mem_append.1 hm with hm | hm; (rcases Nat.lt_trichotomy i av with e | e | e; (exact .inl e); (exact absurd (e ▸ hm) C); (exact .inr e)); (have x := l _ hm; have Y := hiov _ hm; omega)) agg3 rfl rfl ?_)
   refine Yt 6 12 (by kernel_rfl) ?_ ?_
   ·refine Zk rfl rfl rfl ?_
    have gk := cf.ch0 ay
    refine (Yc (j := a.t.toNat) gk.ls Sv.len el94 sz93 rfl rfl om om fun ae aG P G => ?_)
    obtain rfl := Zv H P
    replace G : At ao 0 ao.heap.size ae ([(.slice m b.length n)]) := G
    refine ⟨(Ch.refl _ _), ?_⟩
    refine Yt 7 12 (by kernel_rfl) ?_ ?_
    ·refine Zk rfl rfl rfl ?_
     refine s_v (Ya G agg93 rfl rfl) ?_
     refine ⟨(Ch.refl _ _), ?_⟩
     refine dO 12 (Zk rfl rfl rfl ?_)
     refine Step.call (Zr (xs := [.tmp 47, .const (Go.Value.bool true)]) fk104 rfl) (Yy a _ om) fun aH nk af => ?_
     obtain ⟨rfl, dY⟩ := af
     have qf := dY.size
     have E := E.trans dY
     have e4 : Ch ((bl (.slice m b.length n)) ++ (bl (.slice Aov (vs).length Cov))) ao nk := ((Ch.refl _ _).trans dY.of_nil)
     refine ⟨e4, ?_⟩
     refine dV 15 rfl rfl rfl (fun _ => Yk (parts := [(0, .tmp 46), (1, .tmp 48), (2, .tmp 50)]) (cells := [(.int .i64 a.id), (.bool true), (.int .i64 (Zj a true)), (.int .i64 a.f)]) zr99 pl99 rfl rfl) (dO 16 (Zk rfl rfl rfl ?_))
     refine Zm (cs := Arc.cs) (parts := [(0, .tmp 51)]) (⟨0, false, 0, 0⟩ : Arc) [(⟨a.id, true, Zj a true, a.f⟩ : Arc)] el93 sz99 zr99 Arc.len (by decide) rfl rfl rfl (by decide) (by decide) rfl fun ag nl D Q dZ => ?_
     have qg := dZ.size
     have E := E.trans dZ
     obtain ⟨R, S, rfl, T, K⟩ := D.opn
     have e5 : Ch ((bl (.slice m b.length n)) ++ (bl (.slice Aov (vs).length Cov))) ao nl := (e4.trans dZ.of_nil)
     refine ⟨e5, ?_⟩
     refine dO 17 (Zk rfl rfl rfl ?_)
     have nm := ((A.ch0 ay).ch0 dY).ch0 dZ
     have nn := ((bP.ch0 ay).ch0 dY).ch0 dZ
     refine Zy (cs := Arc.cs) el93 sz99 by99 zr99 rfl (by decide) Arc.one nm D.ls rfl rfl (by simp only [List.length_append, List.length_singleton]; omega) (by simp only [List.length_append, List.length_singleton]; omega) z om fun ah iK F U y e6 => ?_
     have qh := e6.size
     have E := E.step e6 (fun i hi => .inl (by have x := z _ hi; omega))
     obtain ⟨c, d, rfl, V, q⟩ := F.opn
     have gl := Od.put (v' := (⟨c, ((b ++ [(⟨a.id, true, Zj a true, a.f⟩ : Arc)])).length, d⟩ : Sv)) (hi' := iK.heap.size) nn s r e6 (fun g hg => hg) F (fun g hg => by have e : g ∈ bl (.slice c ((b ++ [(⟨a.id, true, Zj a true, a.f⟩ : Arc)])).length d) := hg; rcases y with ea | ea; (left; rw [ea] at e; exact e); (right; exact ⟨by first | (have x := ea _ e; omega) | (rw [ea] at e; have x := List.mem_singleton.1 e; omega), q g e⟩)) om om
     have dj : Sep (.slice Aov (vs).length Cov) ((vs.set a.f.toNat (⟨o, ((h ++ [(⟨a.id, false, Zj a false, a.t⟩ : Arc)])).length, p⟩ : Sv)).set a.t.toNat (⟨c, ((b ++ [(⟨a.id, true, Zj a true, a.f⟩ : Arc)])).length, d⟩ : Sv)) := Sep.put (hi' := iK.heap.size) (hi := a9.heap.size) J s (fun g hg => by have e : g ∈ bl (.slice c ((b ++ [(⟨a.id, true, Zj a true, a.f⟩ : Arc)])).length d) := hg; rcases y with ea | ea; (left; rw [ea] at e; exact e); (right; exact ⟨by first | (have x := ea _ e; omega) | (rw [ea] at e; have x := List.mem_singleton.1 e; omega), q g e⟩)) (fun g hm => by have x := l _ hm; have Y := hiov _ hm; omega)
     have cg : Ch ((bl (.slice m b.length n)) ++ (bl (.slice Aov (vs).length Cov))) ao iK := (e5.step e6 (fun i hm => by exact .inr (List.mem_append_left _ hm)))
     refine ⟨cg, ?_⟩
     refine dO 18 (Zk rfl rfl rfl ?_)
     have le := ((gk.ch0 dY).ch0 dZ).ch e6 (fun g hg hm => by exact I _ hm hg)
     refine Yi (j := a.t.toNat) le el94 sz93 rfl rfl om om fun ai aj X L => ?_
     refine ⟨cg, ?_⟩
     refine dO 19 (Zk rfl rfl rfl ?_)
     refine Yn (j := a.t.toNat) (⟨c, ((b ++ [(⟨a.id, true, Zj a true, a.f⟩ : Arc)])).length, d⟩ : Sv) le L Sv.len sz93 rfl rfl rfl rfl om fun lf iL gm => ?_
     have qi := gm.size
     have E := E.step gm (fun i hi => .inl (by have x := l _ hi; omega))
     have iM : Ch ((bl (.slice m b.length n)) ++ (bl (.slice Aov (vs).length Cov))) ao lf := (cg.step gm (fun i hm => by exact .inr (List.mem_append_right _ hm)))
     refine ⟨iM, ?_⟩
     refine Zw (by kernel_rfl) ?_
     refine Zq (Zb (aC _ _ (Zc (Za rfl rfl (Ye om rfl rfl) (Za rfl rfl (Zf rfl) (Ze ?_))))))
     have gn : Ol Sv.cs 93 1 lf (.slice Aov (vs).length Cov) (((vs.set a.f.toNat (⟨o, ((h ++ [(⟨a.id, false, Zj a false, a.t⟩ : Arc)])).length, p⟩ : Sv)).set a.t.toNat (⟨c, ((b ++ [(⟨a.id, true, Zj a true, a.f⟩ : Arc)])).length, d⟩ : Sv))) := by
      have hx := iL
      exact hx
     have no := gl.chS gm dj
     exact Zb (Exists.intro ((k + 1), ((vs.set a.f.toNat (⟨o, ((h ++ [(⟨a.id, false, Zj a false, a.t⟩ : Arc)])).length, p⟩ : Sv)).set a.t.toNat (⟨c, ((b ++ [(⟨a.id, true, Zj a true, a.f⟩ : Arc)])).length, d⟩ : Sv)), (.slice Aov (vs).length Cov)) ⟨⟨E, om, om, (by simp only [List.length_set]; omega), gn, (Lo.down l om), ((no.eq (Yu hg O B r)).up (Nat.le_refl _) om), dj⟩, sC4 rfl rfl rfl rfl (sC1 rfl (Sub.nil _)), (by first | omega | (dsimp only; omega))⟩)
    refine Zk rfl rfl rfl ?_
    refine Step.call (Zr (xs := [.tmp 47, .const (Go.Value.bool true)]) fk104 rfl) (Yy a _ om) fun aH np af => ?_
    obtain ⟨rfl, a0⟩ := af
    have qj := a0.size
    have E := E.trans a0
    have bj : Ch ((bl (.slice m b.length n)) ++ (bl (.slice Aov (vs).length Cov))) ao np := ((Ch.refl _ _).trans a0.of_nil)
    refine ⟨bj, ?_⟩
    refine dV 15 rfl rfl rfl (fun _ => Yk (parts := [(0, .tmp 46), (1, .tmp 48), (2, .tmp 50)]) (cells := [(.int .i64 a.id), (.bool true), (.int .i64 (Zj a true)), (.int .i64 a.f)]) zr99 pl99 rfl rfl) ?_
    refine Yt 7 16 (by kernel_rfl) ?_ ?_
    ·refine Zk rfl rfl rfl ?_
     have nq := G.ch0 a0
     refine s_v (Ya nq agg93 rfl rfl) ?_
     refine ⟨bj, ?_⟩
     refine dO 16 (Zk rfl rfl rfl ?_)
     refine Zm (cs := Arc.cs) (parts := [(0, .tmp 51)]) (⟨0, false, 0, 0⟩ : Arc) [(⟨a.id, true, Zj a true, a.f⟩ : Arc)] el93 sz99 zr99 Arc.len (by decide) rfl rfl rfl (by decide) (by decide) rfl fun ag nr D Q d0 => ?_
     have qk := d0.size
     have E := E.trans d0
     obtain ⟨R, S, rfl, T, K⟩ := D.opn
     have e7 : Ch ((bl (.slice m b.length n)) ++ (bl (.slice Aov (vs).length Cov))) ao nr := (bj.trans d0.of_nil)
     refine ⟨e7, ?_⟩
     refine dO 17 (Zk rfl rfl rfl ?_)
     have ns := ((A.ch0 ay).ch0 a0).ch0 d0
     have nt := ((bP.ch0 ay).ch0 a0).ch0 d0
     refine Zy (cs := Arc.cs) el93 sz99 by99 zr99 rfl (by decide) Arc.one ns D.ls rfl rfl (by simp only [List.length_append, List.length_singleton]; omega) (by simp only [List.length_append, List.length_singleton]; omega) z om fun ah iN F U y e8 => ?_
     have ql := e8.size
     have E := E.step e8 (fun i hi => .inl (by have x := z _ hi; omega))
     obtain ⟨c, d, rfl, V, q⟩ := F.opn
     have gp := Od.put (v' := (⟨c, ((b ++ [(⟨a.id, true, Zj a true, a.f⟩ : Arc)])).length, d⟩ : Sv)) (hi' := iN.heap.size) nt s r e8 (fun g hg => hg) F (fun g hg => by have e : g ∈ bl (.slice c ((b ++ [(⟨a.id, true, Zj a true, a.f⟩ : Arc)])).length d) := hg; rcases y with ea | ea; (left; rw [ea] at e; exact e); (right; exact ⟨by first | (have x := ea _ e; omega) | (rw [ea] at e; have x := List.mem_singleton.1 e; omega), q g e⟩)) om om
     have dk : Sep (.slice Aov (vs).length Cov) ((vs.set a.f.toNat (⟨o, ((h ++ [(⟨a.id, false, Zj a false, a.t⟩ : Arc)])).length, p⟩ : Sv)).set a.t.toNat (⟨c, ((b ++ [(⟨a.id, true, Zj a true, a.f⟩ : Arc)])).length, d⟩ : Sv)) := Sep.put (hi' := iN.heap.size) (hi := a9.heap.size) J s (fun g hg => by have e : g ∈ bl (.slice c ((b ++ [(⟨a.id, true, Zj a true, a.f⟩ : Arc)])).length d) := hg; rcases y with ea | ea; (left; rw [ea] at e; exact e); (right; exact ⟨by first | (have x := ea _ e; omega) | (rw [ea] at e; have x := List.mem_singleton.1 e; omega), q g e⟩)) (fun g hm => by have x := l _ hm; have Y := hiov _ hm; omega)
     have ci : Ch ((bl (.slice m b.length n)) ++ (bl (.slice Aov (vs).length Cov))) ao iN := (e7.step e8 (fun i hm => by exact .inr (List.mem_append_left _ hm)))
     refine ⟨ci, ?_⟩
     refine dO 18 (Zk rfl rfl rfl ?_)
     have lg := ((gk.ch0 a0).ch0 d0).ch e8 (fun g hg hm => by exact I _ hm hg)
     refine Yi (j := a.t.toNat) lg el94 sz93 rfl rfl om om fun ai aj X L => ?_
     refine ⟨ci, ?_⟩
     refine dO 19 (Zk rfl rfl rfl ?_)
     refine Yn (j := a.t.toNat) (⟨c, ((b ++ [(⟨a.id, true, Zj a true, a.f⟩ : Arc)])).length, d⟩ : Sv) lg L Sv.len sz93 rfl rfl rfl rfl om fun lh iO gq => ?_
     have qm := gq.size
     have E := E.step gq (fun i hi => .inl (by have x := l _ hi; omega))
     have iP : Ch ((bl (.slice m b.length n)) ++ (bl (.slice Aov (vs).length Cov))) ao lh := (ci.step gq (fun i hm => by exact .inr (List.mem_append_right _ hm)))
     refine ⟨iP, ?_⟩
     refine Zw (by kernel_rfl) ?_
     refine Zq (Zb (aC _ _ (Zc (Za rfl rfl (Ye om rfl rfl) (Za rfl rfl (Zf rfl) (Ze ?_))))))
     have gr : Ol Sv.cs 93 1 lh (.slice Aov (vs).length Cov) (((vs.set a.f.toNat (⟨o, ((h ++ [(⟨a.id, false, Zj a false, a.t⟩ : Arc)])).length, p⟩ : Sv)).set a.t.toNat (⟨c, ((b ++ [(⟨a.id, true, Zj a true, a.f⟩ : Arc)])).length, d⟩ : Sv))) := by
      have hx := iO
      exact hx
     have nu := gp.chS gq dk
     exact Zb (Exists.intro ((k + 1), ((vs.set a.f.toNat (⟨o, ((h ++ [(⟨a.id, false, Zj a false, a.t⟩ : Arc)])).length, p⟩ : Sv)).set a.t.toNat (⟨c, ((b ++ [(⟨a.id, true, Zj a true, a.f⟩ : Arc)])).length, d⟩ : Sv)), (.slice Aov (vs).length Cov)) ⟨⟨E, om, om, (by simp only [List.length_set]; omega), gr, (Lo.down l om), ((nu.eq (Yu hg O B r)).up (Nat.le_refl _) om), dk⟩, sC4 rfl rfl rfl rfl (sC1 rfl (Sub.nil _)), (by first | omega | (dsimp only; omega))⟩)
    refine Zk rfl rfl rfl ?_
    refine Zm (cs := Arc.cs) (parts := [(0, .tmp 51)]) (⟨0, false, 0, 0⟩ : Arc) [(⟨a.id, true, Zj a true, a.f⟩ : Arc)] el93 sz99 zr99 Arc.len (by decide) rfl rfl rfl (by decide) (by decide) rfl fun ag nv D Q cj => ?_
    have qn := cj.size
    have E := E.trans cj
    obtain ⟨R, S, rfl, T, K⟩ := D.opn
    have ck : Ch ((bl (.slice m b.length n)) ++ (bl (.slice Aov (vs).length Cov))) ao nv := (bj.trans cj.of_nil)
    refine ⟨ck, ?_⟩
    refine dO 7 (Zk rfl rfl rfl ?_)
    have nw := (G.ch0 a0).ch0 cj
    refine s_v (Ya nw agg93 rfl rfl) ?_
    refine ⟨ck, ?_⟩
    refine dO 17 (Zk rfl rfl rfl ?_)
    have nx := ((A.ch0 ay).ch0 a0).ch0 cj
    have ny := ((bP.ch0 ay).ch0 a0).ch0 cj
    refine Zy (cs := Arc.cs) el93 sz99 by99 zr99 rfl (by decide) Arc.one nx D.ls rfl rfl (by simp only [List.length_append, List.length_singleton]; omega) (by simp only [List.length_append, List.length_singleton]; omega) z om fun ah iQ F U y e9 => ?_
    have qo := e9.size
    have E := E.step e9 (fun i hi => .inl (by have x := z _ hi; omega))
    obtain ⟨c, d, rfl, V, q⟩ := F.opn
    have gs := Od.put (v' := (⟨c, ((b ++ [(⟨a.id, true, Zj a true, a.f⟩ : Arc)])).length, d⟩ : Sv)) (hi' := iQ.heap.size) ny s r e9 (fun g hg => hg) F (fun g hg => by have e : g ∈ bl (.slice c ((b ++ [(⟨a.id, true, Zj a true, a.f⟩ : Arc)])).length d) := hg; rcases y with ea | ea; (left; rw [ea] at e; exact e); (right; exact ⟨by first | (have x := ea _ e; omega) | (rw [ea] at e; have x := List.mem_singleton.1 e; omega), q g e⟩)) om om
    have dl : Sep (.slice Aov (vs).length Cov) ((vs.set a.f.toNat (⟨o, ((h ++ [(⟨a.id, false, Zj a false, a.t⟩ : Arc)])).length, p⟩ : Sv)).set a.t.toNat (⟨c, ((b ++ [(⟨a.id, true, Zj a true, a.f⟩ : Arc)])).length, d⟩ : Sv)) := Sep.put (hi' := iQ.heap.size) (hi := a9.heap.size) J s (fun g hg => by have e : g ∈ bl (.slice c ((b ++ [(⟨a.id, true, Zj a true, a.f⟩ : Arc)])).length d) := hg; rcases y with ea | ea; (left; rw [ea] at e; exact e); (right; exact ⟨by first | (have x := ea _ e; omega) | (rw [ea] at e; have x := List.mem_singleton.1 e; omega), q g e⟩)) (fun g hm => by have x := l _ hm; have Y := hiov _ hm; omega)
    have cl : Ch ((bl (.slice m b.length n)) ++ (bl (.slice Aov (vs).length Cov))) ao iQ := (ck.step e9 (fun i hm => by exact .inr (List.mem_append_left _ hm)))
    refine ⟨cl, ?_⟩
    refine dO 18 (Zk rfl rfl rfl ?_)
    have li := ((gk.ch0 a0).ch0 cj).ch e9 (fun g hg hm => by exact I _ hm hg)
    refine Yi (j := a.t.toNat) li el94 sz93 rfl rfl om om fun ai aj X L => ?_
    refine ⟨cl, ?_⟩
    refine dO 19 (Zk rfl rfl rfl ?_)
    refine Yn (j := a.t.toNat) (⟨c, ((b ++ [(⟨a.id, true, Zj a true, a.f⟩ : Arc)])).length, d⟩ : Sv) li L Sv.len sz93 rfl rfl rfl rfl om fun lj iR gt => ?_
    have qp := gt.size
    have E := E.step gt (fun i hi => .inl (by have x := l _ hi; omega))
    have iS : Ch ((bl (.slice m b.length n)) ++ (bl (.slice Aov (vs).length Cov))) ao lj := (cl.step gt (fun i hm => by exact .inr (List.mem_append_right _ hm)))
    refine ⟨iS, ?_⟩
    refine Zw (by kernel_rfl) ?_
    refine Zq (Zb (aC _ _ (Zc (Za rfl rfl (Ye om rfl rfl) (Za rfl rfl (Zf rfl) (Ze ?_))))))
    have gu : Ol Sv.cs 93 1 lj (.slice Aov (vs).length Cov) (((vs.set a.f.toNat (⟨o, ((h ++ [(⟨a.id, false, Zj a false, a.t⟩ : Arc)])).length, p⟩ : Sv)).set a.t.toNat (⟨c, ((b ++ [(⟨a.id, true, Zj a true, a.f⟩ : Arc)])).length, d⟩ : Sv))) := by
     have hx := iR
     exact hx
    have nz := gs.chS gt dl
    exact Zb (Exists.intro ((k + 1), ((vs.set a.f.toNat (⟨o, ((h ++ [(⟨a.id, false, Zj a false, a.t⟩ : Arc)])).length, p⟩ : Sv)).set a.t.toNat (⟨c, ((b ++ [(⟨a.id, true, Zj a true, a.f⟩ : Arc)])).length, d⟩ : Sv)), (.slice Aov (vs).length Cov)) ⟨⟨E, om, om, (by simp only [List.length_set]; omega), gu, (Lo.down l om), ((nz.eq (Yu hg O B r)).up (Nat.le_refl _) om), dl⟩, sC4 rfl rfl rfl rfl (sC1 rfl (Sub.nil _)), (by first | omega | (dsimp only; omega))⟩)
   refine Zk rfl rfl rfl ?_
   refine Step.call (Zr (xs := [.tmp 47, .const (Go.Value.bool true)]) fk104 rfl) (Yy a _ om) fun aH iT af => ?_
   obtain ⟨rfl, a1⟩ := af
   have qq := a1.size
   have E := E.trans a1
   have aO : Ch ((bl (.slice m b.length n)) ++ (bl (.slice Aov (vs).length Cov))) ao iT := ((Ch.refl _ _).trans a1.of_nil)
   refine ⟨aO, ?_⟩
   refine dV 15 rfl rfl rfl (fun _ => Yk (parts := [(0, .tmp 46), (1, .tmp 48), (2, .tmp 50)]) (cells := [(.int .i64 a.id), (.bool true), (.int .i64 (Zj a true)), (.int .i64 a.f)]) zr99 pl99 rfl rfl) ?_
   refine Yt 6 16 (by kernel_rfl) ?_ ?_
   ·refine Zk rfl rfl rfl ?_
    have iU := (cf.ch0 ay).ch0 a1
    refine (Yc (j := a.t.toNat) iU.ls Sv.len el94 sz93 rfl rfl om om fun ae aG P G => ?_)
    obtain rfl := Zv H P
    replace G : At iT 0 iT.heap.size ae ([(.slice m b.length n)]) := G
    refine ⟨aO, ?_⟩
    refine Yt 7 16 (by kernel_rfl) ?_ ?_
    ·refine Zk rfl rfl rfl ?_
     refine s_v (Ya G agg93 rfl rfl) ?_
     refine ⟨aO, ?_⟩
     refine dO 16 (Zk rfl rfl rfl ?_)
     refine Zm (cs := Arc.cs) (parts := [(0, .tmp 51)]) (⟨0, false, 0, 0⟩ : Arc) [(⟨a.id, true, Zj a true, a.f⟩ : Arc)] el93 sz99 zr99 Arc.len (by decide) rfl rfl rfl (by decide) (by decide) rfl fun ag nA D Q d1 => ?_
     have qr := d1.size
     have E := E.trans d1
     obtain ⟨R, S, rfl, T, K⟩ := D.opn
     have fa : Ch ((bl (.slice m b.length n)) ++ (bl (.slice Aov (vs).length Cov))) ao nA := (aO.trans d1.of_nil)
     refine ⟨fa, ?_⟩
     refine dO 17 (Zk rfl rfl rfl ?_)
     have nB := ((A.ch0 ay).ch0 a1).ch0 d1
     have nC := ((bP.ch0 ay).ch0 a1).ch0 d1
     refine Zy (cs := Arc.cs) el93 sz99 by99 zr99 rfl (by decide) Arc.one nB D.ls rfl rfl (by simp only [List.length_append, List.length_singleton]; omega) (by simp only [List.length_append, List.length_singleton]; omega) z om fun ah iV F U y fb => ?_
     have qs := fb.size
     have E := E.step fb (fun i hi => .inl (by have x := z _ hi; omega))
     obtain ⟨c, d, rfl, V, q⟩ := F.opn
     have gv := Od.put (v' := (⟨c, ((b ++ [(⟨a.id, true, Zj a true, a.f⟩ : Arc)])).length, d⟩ : Sv)) (hi' := iV.heap.size) nC s r fb (fun g hg => hg) F (fun g hg => by have e : g ∈ bl (.slice c ((b ++ [(⟨a.id, true, Zj a true, a.f⟩ : Arc)])).length d) := hg; rcases y with ea | ea; (left; rw [ea] at e; exact e); (right; exact ⟨by first | (have x := ea _ e; omega) | (rw [ea] at e; have x := List.mem_singleton.1 e; omega), q g e⟩)) om om
     have dm : Sep (.slice Aov (vs).length Cov) ((vs.set a.f.toNat (⟨o, ((h ++ [(⟨a.id, false, Zj a false, a.t⟩ : Arc)])).length, p⟩ : Sv)).set a.t.toNat (⟨c, ((b ++ [(⟨a.id, true, Zj a true, a.f⟩ : Arc)])).length, d⟩ : Sv)) := Sep.put (hi' := iV.heap.size) (hi := a9.heap.size) J s (fun g hg => by have e : g ∈ bl (.slice c ((b ++ [(⟨a.id, true, Zj a true, a.f⟩ : Arc)])).length d) := hg; rcases y with ea | ea; (left; rw [ea] at e; exact e); (right; exact ⟨by first | (have x := ea _ e; omega) | (rw [ea] at e; have x := List.mem_singleton.1 e; omega), q g e⟩)) (fun g hm => by have x := l _ hm; have Y := hiov _ hm; omega)
     have cm : Ch ((bl (.slice m b.length n)) ++ (bl (.slice Aov (vs).length Cov))) ao iV := (fa.step fb (fun i hm => by exact .inr (List.mem_append_left _ hm)))
     refine ⟨cm, ?_⟩
     refine dO 18 (Zk rfl rfl rfl ?_)
     have lk := (iU.ch0 d1).ch fb (fun g hg hm => by exact I _ hm hg)
     refine Yi (j := a.t.toNat) lk el94 sz93 rfl rfl om om fun ai aj X L => ?_
     refine ⟨cm, ?_⟩
     refine dO 19 (Zk rfl rfl rfl ?_)
     refine Yn (j := a.t.toNat) (⟨c, ((b ++ [(⟨a.id, true, Zj a true, a.f⟩ : Arc)])).length, d⟩ : Sv) lk L Sv.len sz93 rfl rfl rfl rfl om fun ll iW gw => ?_
     have qt := gw.size
     have E := E.step gw (fun i hi => .inl (by have x := l _ hi; omega))
     have iX : Ch ((bl (.slice m b.length n)) ++ (bl (.slice Aov (vs).length Cov))) ao ll := (cm.step gw (fun i hm => by exact .inr (List.mem_append_right _ hm)))
     refine ⟨iX, ?_⟩
     refine Zw (by kernel_rfl) ?_
     refine Zq (Zb (aC _ _ (Zc (Za rfl rfl (Ye om rfl rfl) (Za rfl rfl (Zf rfl) (Ze ?_))))))
     have gx : Ol Sv.cs 93 1 ll (.slice Aov (vs).length Cov) (((vs.set a.f.toNat (⟨o, ((h ++ [(⟨a.id, false, Zj a false, a.t⟩ : Arc)])).length, p⟩ : Sv)).set a.t.toNat (⟨c, ((b ++ [(⟨a.id, true, Zj a true, a.f⟩ : Arc)])).length, d⟩ : Sv))) := by
      have hx := iW
      exact hx
     have nD := gv.chS gw dm
     exact Zb (Exists.intro ((k + 1), ((vs.set a.f.toNat (⟨o, ((h ++ [(⟨a.id, false, Zj a false, a.t⟩ : Arc)])).length, p⟩ : Sv)).set a.t.toNat (⟨c, ((b ++ [(⟨a.id, true, Zj a true, a.f⟩ : Arc)])).length, d⟩ : Sv)), (.slice Aov (vs).length Cov)) ⟨⟨E, om, om, (by simp only [List.length_set]; omega), gx, (Lo.down l om), ((nD.eq (Yu hg O B r)).up (Nat.le_refl _) om), dm⟩, sC4 rfl rfl rfl rfl (sC1 rfl (Sub.nil _)), (by first | omega | (dsimp only; omega))⟩)
    refine Zk rfl rfl rfl ?_
    refine Zm (cs := Arc.cs) (parts := [(0, .tmp 51)]) (⟨0, false, 0, 0⟩ : Arc) [(⟨a.id, true, Zj a true, a.f⟩ : Arc)] el93 sz99 zr99 Arc.len (by decide) rfl rfl rfl (by decide) (by decide) rfl fun ag nE D Q cn => ?_
    have qu := cn.size
    have E := E.trans cn
    obtain ⟨R, S, rfl, T, K⟩ := D.opn
    have co : Ch ((bl (.slice m b.length n)) ++ (bl (.slice Aov (vs).length Cov))) ao nE := (aO.trans cn.of_nil)
    refine ⟨co, ?_⟩
    refine dO 7 (Zk rfl rfl rfl ?_)
    have nF := G.ch0 cn
    refine s_v (Ya nF agg93 rfl rfl) ?_
    refine ⟨co, ?_⟩
    refine dO 17 (Zk rfl rfl rfl ?_)
    have nG := ((A.ch0 ay).ch0 a1).ch0 cn
    have nH := ((bP.ch0 ay).ch0 a1).ch0 cn
    refine Zy (cs := Arc.cs) el93 sz99 by99 zr99 rfl (by decide) Arc.one nG D.ls rfl rfl (by simp only [List.length_append, List.length_singleton]; omega) (by simp only [List.length_append, List.length_singleton]; omega) z om fun ah iY F U y fc => ?_
    have qv := fc.size
    have E := E.step fc (fun i hi => .inl (by have x := z _ hi; omega))
    obtain ⟨c, d, rfl, V, q⟩ := F.opn
    have gy := Od.put (v' := (⟨c, ((b ++ [(⟨a.id, true, Zj a true, a.f⟩ : Arc)])).length, d⟩ : Sv)) (hi' := iY.heap.size) nH s r fc (fun g hg => hg) F (fun g hg => by have e : g ∈ bl (.slice c ((b ++ [(⟨a.id, true, Zj a true, a.f⟩ : Arc)])).length d) := hg; rcases y with ea | ea; (left; rw [ea] at e; exact e); (right; exact ⟨by first | (have x := ea _ e; omega) | (rw [ea] at e; have x := List.mem_singleton.1 e; omega), q g e⟩)) om om
    have dn : Sep (.slice Aov (vs).length Cov) ((vs.set a.f.toNat (⟨o, ((h ++ [(⟨a.id, false, Zj a false, a.t⟩ : Arc)])).length, p⟩ : Sv)).set a.t.toNat (⟨c, ((b ++ [(⟨a.id, true, Zj a true, a.f⟩ : Arc)])).length, d⟩ : Sv)) := Sep.put (hi' := iY.heap.size) (hi := a9.heap.size) J s (fun g hg => by have e : g ∈ bl (.slice c ((b ++ [(⟨a.id, true, Zj a true, a.f⟩ : Arc)])).length d) := hg; rcases y with ea | ea; (left; rw [ea] at e; exact e); (right; exact ⟨by first | (have x := ea _ e; omega) | (rw [ea] at e; have x := List.mem_singleton.1 e; omega), q g e⟩)) (fun g hm => by have x := l _ hm; have Y := hiov _ hm; omega)
    have cp : Ch ((bl (.slice m b.length n)) ++ (bl (.slice Aov (vs).length Cov))) ao iY := (co.step fc (fun i hm => by exact .inr (List.mem_append_left _ hm)))
    refine ⟨cp, ?_⟩
    refine dO 18 (Zk rfl rfl rfl ?_)
    have lm := (iU.ch0 cn).ch fc (fun g hg hm => by exact I _ hm hg)
    refine Yi (j := a.t.toNat) lm el94 sz93 rfl rfl om om fun ai aj X L => ?_
    refine ⟨cp, ?_⟩
    refine dO 19 (Zk rfl rfl rfl ?_)
    refine Yn (j := a.t.toNat) (⟨c, ((b ++ [(⟨a.id, true, Zj a true, a.f⟩ : Arc)])).length, d⟩ : Sv) lm L Sv.len sz93 rfl rfl rfl rfl om fun ln iZ gz => ?_
    have qw := gz.size
    have E := E.step gz (fun i hi => .inl (by have x := l _ hi; omega))
    have i0 : Ch ((bl (.slice m b.length n)) ++ (bl (.slice Aov (vs).length Cov))) ao ln := (cp.step gz (fun i hm => by exact .inr (List.mem_append_right _ hm)))
    refine ⟨i0, ?_⟩
    refine Zw (by kernel_rfl) ?_
    refine Zq (Zb (aC _ _ (Zc (Za rfl rfl (Ye om rfl rfl) (Za rfl rfl (Zf rfl) (Ze ?_))))))
    have gA : Ol Sv.cs 93 1 ln (.slice Aov (vs).length Cov) (((vs.set a.f.toNat (⟨o, ((h ++ [(⟨a.id, false, Zj a false, a.t⟩ : Arc)])).length, p⟩ : Sv)).set a.t.toNat (⟨c, ((b ++ [(⟨a.id, true, Zj a true, a.f⟩ : Arc)])).length, d⟩ : Sv))) := by
     have hx := iZ
     exact hx
    have nI := gy.chS gz dn
    exact Zb (Exists.intro ((k + 1), ((vs.set a.f.toNat (⟨o, ((h ++ [(⟨a.id, false, Zj a false, a.t⟩ : Arc)])).length, p⟩ : Sv)).set a.t.toNat (⟨c, ((b ++ [(⟨a.id, true, Zj a true, a.f⟩ : Arc)])).length, d⟩ : Sv)), (.slice Aov (vs).length Cov)) ⟨⟨E, om, om, (by simp only [List.length_set]; omega), gA, (Lo.down l om), ((nI.eq (Yu hg O B r)).up (Nat.le_refl _) om), dn⟩, sC4 rfl rfl rfl rfl (sC1 rfl (Sub.nil _)), (by first | omega | (dsimp only; omega))⟩)
   refine Zk rfl rfl rfl ?_
   refine Zm (cs := Arc.cs) (parts := [(0, .tmp 51)]) (⟨0, false, 0, 0⟩ : Arc) [(⟨a.id, true, Zj a true, a.f⟩ : Arc)] el93 sz99 zr99 Arc.len (by decide) rfl rfl rfl (by decide) (by decide) rfl fun ag i1 D Q d2 => ?_
   have qx := d2.size
   have E := E.trans d2
   obtain ⟨R, S, rfl, T, K⟩ := D.opn
   have bk : Ch ((bl (.slice m b.length n)) ++ (bl (.slice Aov (vs).length Cov))) ao i1 := (aO.trans d2.of_nil)
   refine ⟨bk, ?_⟩
   refine dO 6 (Zk rfl rfl rfl ?_)
   have lo := ((cf.ch0 ay).ch0 a1).ch0 d2
   refine (Yc (j := a.t.toNat) lo.ls Sv.len el94 sz93 rfl rfl om om fun ae aG P G => ?_)
   obtain rfl := Zv H P
   replace G : At i1 0 i1.heap.size ae ([(.slice m b.length n)]) := G
   refine ⟨bk, ?_⟩
   refine dO 7 (Zk rfl rfl rfl ?_)
   refine s_v (Ya G agg93 rfl rfl) ?_
   refine ⟨bk, ?_⟩
   refine dO 17 (Zk rfl rfl rfl ?_)
   have nJ := ((A.ch0 ay).ch0 a1).ch0 d2
   have nK := ((bP.ch0 ay).ch0 a1).ch0 d2
   refine Zy (cs := Arc.cs) el93 sz99 by99 zr99 rfl (by decide) Arc.one nJ D.ls rfl rfl (by simp only [List.length_append, List.length_singleton]; omega) (by simp only [List.length_append, List.length_singleton]; omega) z om fun ah i2 F U y fd => ?_
   have qy := fd.size
   have E := E.step fd (fun i hi => .inl (by have x := z _ hi; omega))
   obtain ⟨c, d, rfl, V, q⟩ := F.opn
   have gB := Od.put (v' := (⟨c, ((b ++ [(⟨a.id, true, Zj a true, a.f⟩ : Arc)])).length, d⟩ : Sv)) (hi' := i2.heap.size) nK s r fd (fun g hg => hg) F (fun g hg => by have e : g ∈ bl (.slice c ((b ++ [(⟨a.id, true, Zj a true, a.f⟩ : Arc)])).length d) := hg; rcases y with ea | ea; (left; rw [ea] at e; exact e); (right; exact ⟨by first | (have x := ea _ e; omega) | (rw [ea] at e; have x := List.mem_singleton.1 e; omega), q g e⟩)) om om
   have dp : Sep (.slice Aov (vs).length Cov) ((vs.set a.f.toNat (⟨o, ((h ++ [(⟨a.id, false, Zj a false, a.t⟩ : Arc)])).length, p⟩ : Sv)).set a.t.toNat (⟨c, ((b ++ [(⟨a.id, true, Zj a true, a.f⟩ : Arc)])).length, d⟩ : Sv)) := Sep.put (hi' := i2.heap.size) (hi := a9.heap.size) J s (fun g hg => by have e : g ∈ bl (.slice c ((b ++ [(⟨a.id, true, Zj a true, a.f⟩ : Arc)])).length d) := hg; rcases y with ea | ea; (left; rw [ea] at e; exact e); (right; exact ⟨by first | (have x := ea _ e; omega) | (rw [ea] at e; have x := List.mem_singleton.1 e; omega), q g e⟩)) (fun g hm => by have x := l _ hm; have Y := hiov _ hm; omega)
   have cq : Ch ((bl (.slice m b.length n)) ++ (bl (.slice Aov (vs).length Cov))) ao i2 := (bk.step fd (fun i hm => by exact .inr (List.mem_append_left _ hm)))
   refine ⟨cq, ?_⟩
   refine dO 18 (Zk rfl rfl rfl ?_)
   have lp := lo.ch fd (fun g hg hm => by exact I _ hm hg)
   refine Yi (j := a.t.toNat) lp el94 sz93 rfl rfl om om fun ai aj X L => ?_
   refine ⟨cq, ?_⟩
   refine dO 19 (Zk rfl rfl rfl ?_)
   refine Yn (j := a.t.toNat) (⟨c, ((b ++ [(⟨a.id, true, Zj a true, a.f⟩ : Arc)])).length, d⟩ : Sv) lp L Sv.len sz93 rfl rfl rfl rfl om fun lq i3 gC => ?_
   have qz := gC.size
   have E := E.step gC (fun i hi => .inl (by have x := l _ hi; omega))
   have i4 : Ch ((bl (.slice m b.length n)) ++ (bl (.slice Aov (vs).length Cov))) ao lq := (cq.step gC (fun i hm => by exact .inr (List.mem_append_right _ hm)))
   refine ⟨i4, ?_⟩
   refine Zw (by kernel_rfl) ?_
   refine Zq (Zb (aC _ _ (Zc (Za rfl rfl (Ye om rfl rfl) (Za rfl rfl (Zf rfl) (Ze ?_))))))
   have gD : Ol Sv.cs 93 1 lq (.slice Aov (vs).length Cov) (((vs.set a.f.toNat (⟨o, ((h ++ [(⟨a.id, false, Zj a false, a.t⟩ : Arc)])).length, p⟩ : Sv)).set a.t.toNat (⟨c, ((b ++ [(⟨a.id, true, Zj a true, a.f⟩ : Arc)])).length, d⟩ : Sv))) := by
    have hx := i3
    exact hx
   have nL := gB.chS gC dp
   exact Zb (Exists.intro ((k + 1), ((vs.set a.f.toNat (⟨o, ((h ++ [(⟨a.id, false, Zj a false, a.t⟩ : Arc)])).length, p⟩ : Sv)).set a.t.toNat (⟨c, ((b ++ [(⟨a.id, true, Zj a true, a.f⟩ : Arc)])).length, d⟩ : Sv)), (.slice Aov (vs).length Cov)) ⟨⟨E, om, om, (by simp only [List.length_set]; omega), gD, (Lo.down l om), ((nL.eq (Yu hg O B r)).up (Nat.le_refl _) om), dp⟩, sC4 rfl rfl rfl rfl (sC1 rfl (Sub.nil _)), (by first | omega | (dsimp only; omega))⟩)
  refine Zk rfl rfl rfl ?_
  refine Step.call (Zr (xs := [.tmp 28, .const (Go.Value.bool false)]) fk104 rfl) (Yy a _ om) fun kx i5 eu => ?_
  obtain ⟨rfl, aJ⟩ := eu
  have qA := aJ.size
  have E := E.trans aJ
  have aP : Ch ((bl (.slice aa h.length ab)) ++ (bl (.slice Aov (vs).length Cov))) aU i5 := ((Ch.refl _ _).trans aJ.of_nil)
  refine ⟨aP, ?_⟩
  refine dV 15 rfl rfl rfl (fun _ => Yk (parts := [(0, .tmp 27), (1, .tmp 29), (2, .tmp 31)]) (cells := [(.int .i64 a.id), (.bool false), (.int .i64 (Zj a false)), (.int .i64 a.t)]) zr99 pl99 rfl rfl) ?_
  refine Yt 6 16 (by kernel_rfl) ?_ ?_
  ·refine Zk rfl rfl rfl ?_
   have i6 := (mu.ch0 bv).ch0 aJ
   refine (Yc (j := a.f.toNat) i6.ls Sv.len el94 sz93 rfl rfl om om fun et kw bA aI => ?_)
   obtain rfl := Zv aK bA
   replace aI : At i5 0 i5.heap.size et ([(.slice aa h.length ab)]) := aI
   refine ⟨aP, ?_⟩
   refine Yt 7 16 (by kernel_rfl) ?_ ?_
   ·refine Zk rfl rfl rfl ?_
    refine s_v (Ya aI agg93 rfl rfl) ?_
    refine ⟨aP, ?_⟩
    refine dO 16 (Zk rfl rfl rfl ?_)
    refine Zm (cs := Arc.cs) (parts := [(0, .tmp 32)]) (⟨0, false, 0, 0⟩ : Arc) [(⟨a.id, false, Zj a false, a.t⟩ : Arc)] el93 sz99 zr99 Arc.len (by decide) rfl rfl rfl (by decide) (by decide) rfl fun ew nM aD bB cr => ?_
    have qB := cr.size
    have E := E.trans cr
    obtain ⟨bC, bD, rfl, bF, aV⟩ := aD.opn
    have fe : Ch ((bl (.slice aa h.length ab)) ++ (bl (.slice Aov (vs).length Cov))) aU nM := (aP.trans cr.of_nil)
    refine ⟨fe, ?_⟩
    refine dO 17 (Zk rfl rfl rfl ?_)
    have nN := ((aw.ch0 bv).ch0 aJ).ch0 cr
    have lr := ((hN.ch0 bv).ch0 aJ).ch0 cr
    refine Zy (cs := Arc.cs) el93 sz99 by99 zr99 rfl (by decide) Arc.one nN aD.ls rfl rfl (by simp only [List.length_append, List.length_singleton]; omega) (by simp only [List.length_append, List.length_singleton]; omega) M om fun ex ba aE bG ac d3 => ?_
    have qC := d3.size
    have E := E.step d3 (fun i hi => .inl (by have x := M _ hi; omega))
    obtain ⟨o, p, rfl, bH, Z⟩ := aE.opn
    have gF := Od.put (v' := (⟨o, ((h ++ [(⟨a.id, false, Zj a false, a.t⟩ : Arc)])).length, p⟩ : Sv)) (hi' := ba.heap.size) lr ak B d3 (fun g hg => hg) aE (fun g hg => by have e : g ∈ bl (.slice o ((h ++ [(⟨a.id, false, Zj a false, a.t⟩ : Arc)])).length p) := hg; rcases ac with ea | ea; (left; rw [ea] at e; exact e); (right; exact ⟨by first | (have x := ea _ e; omega) | (rw [ea] at e; have x := List.mem_singleton.1 e; omega), Z g e⟩)) om om
    have dq : Sep (.slice Aov (vs).length Cov) (vs.set a.f.toNat (⟨o, ((h ++ [(⟨a.id, false, Zj a false, a.t⟩ : Arc)])).length, p⟩ : Sv)) := Sep.put (hi' := ba.heap.size) (hi := R9.heap.size) aT ak (fun g hg => by have e : g ∈ bl (.slice o ((h ++ [(⟨a.id, false, Zj a false, a.t⟩ : Arc)])).length p) := hg; rcases ac with ea | ea; (left; rw [ea] at e; exact e); (right; exact ⟨by first | (have x := ea _ e; omega) | (rw [ea] at e; have x := List.mem_singleton.1 e; omega), Z g e⟩)) (fun g hm => by have x := l _ hm; have Y := hiov _ hm; omega)
    have i7 : ∀ u ∈ (vs.set a.f.toNat (⟨o, ((h ++ [(⟨a.id, false, Zj a false, a.t⟩ : Arc)])).length, p⟩ : Sv)), av ∉ bl u.v := Zhs (fun u hu hm => by have e := Od.rng lr hu hm; omega) (fun hm => by have hm : av ∈ bl (.slice o ((h ++ [(⟨a.id, false, Zj a false, a.t⟩ : Arc)])).length p) := hm; rcases ac with ea | ea; (rw [ea] at hm; have x := M _ hm; have Y := al _ hm; omega); (have ez := Z _ hm; rw [ea] at hm; have kh := List.mem_singleton.1 hm; omega))
    have ct : Ch ((bl (.slice aa h.length ab)) ++ (bl (.slice Aov (vs).length Cov))) aU ba := (fe.step d3 (fun i hm => by exact .inr (List.mem_append_left _ hm)))
    refine ⟨ct, ?_⟩
    refine dO 18 (Zk rfl rfl rfl ?_)
    have lu := (i6.ch0 cr).ch d3 (fun g hg hm => by exact aL _ hm hg)
    refine Yi (j := a.f.toNat) lu el94 sz93 rfl rfl om om fun eB eC bI aW => ?_
    refine ⟨ct, ?_⟩
    refine dO 19 (Zk rfl rfl rfl ?_)
    refine Yn (j := a.f.toNat) (⟨o, ((h ++ [(⟨a.id, false, Zj a false, a.t⟩ : Arc)])).length, p⟩ : Sv) lu aW Sv.len sz93 rfl rfl rfl rfl om fun lv cu ff => ?_
    have qD := ff.size
    have E := E.step ff (fun i hi => .inl (by have x := l _ hi; omega))
    have i8 : Ch ((bl (.slice aa h.length ab)) ++ (bl (.slice Aov (vs).length Cov))) aU lv := (ct.step ff (fun i hm => by exact .inr (List.mem_append_right _ hm)))
    refine ⟨i8, ?_⟩
    refine Zw (by kernel_rfl) ?_
    refine Zb (ki _ _ ?_)
    have bQ := gF.chS ff dq
    have am := (bQ).1
    rw [@List.length_set _ (Qv gV (gE.take k)), Qa] at am
    obtain ⟨aF, H⟩ := Zaj (xs := (vs.set a.f.toNat (⟨o, ((h ++ [(⟨a.id, false, Zj a false, a.t⟩ : Arc)])).length, p⟩ : Sv))) (j := a.t.toNat) om
    have J : Sep (.slice Aov (vs).length Cov) (vs.set a.f.toNat (⟨o, ((h ++ [(⟨a.id, false, Zj a false, a.t⟩ : Arc)])).length, p⟩ : Sv)) := dq
    have I := J _ (Xa H)
    obtain ⟨b, r, A, ad⟩ := bQ.ownget H
    have s := H
    obtain ⟨m, bJ, n⟩ := aF
    obtain rfl := A.ls.eqn
    have bK := A.len
    have z : Lo W4.heap.size (.slice m b.length n) := fun g hg => (ad g hg).1
    have bL : ∀ g ∈ bl (.slice m b.length n), g < ba.heap.size := fun g hg => (ad g hg).2
    have C := i7 _ (Xa s)
    replace A : Ol Arc.cs 99 4 lv (.slice m b.length n) b := A
    have bM := Zav hg bd r
    refine Xl ((bl (.slice m b.length n)) ++ (bl (.slice Aov (vs).length Cov))) 20 mixed rfl fun ap az => ?_
    have qE := az.size
    have E := E.trans az
    refine dV 0 rfl rfl rfl (fun _ => Zf rfl) (dV 1 rfl rfl rfl (fun _ => Zh fa129_2 rfl) ?_)
    have fg := ((((es.ch0 aJ).ch0 cr).ch d3 (fun hm => by have x := M _ hm; have Y := al _ hm; omega)).ch ff (fun hm => by have x := l _ hm; have Y := hiov _ hm; omega)).ch0 az
    refine dT 2 rfl rfl rfl (Yo fg.at_ (fun i hm => by rcases List.mem_append.1 hm with hm | hm; (rcases Nat.lt_trichotomy i av with e | e | e; (exact .inl e); (exact absurd (e ▸ hm) C); (exact .inr e)); (have x := l _ hm; have Y := hiov _ hm; omega)) agg3 rfl rfl ?_)
    refine dV 3 rfl rfl rfl (fun _ => Zf rfl) (dV 4 rfl rfl rfl (fun _ => Zh fa129_2 rfl) ?_)
    refine dT 5 rfl rfl rfl (Yo fg.at_ (fun i hm => by rcases List.mem_append.1 hm with hm | hm; (rcases Nat.lt_trichotomy i av with e | e | e; (exact .inl e); (exact absurd (e ▸ hm) C); (exact .inr e)); (have x := l _ hm; have Y := hiov _ hm; omega)) agg3 rfl rfl ?_)
    refine dV 8 rfl rfl rfl (fun _ => Zh fa129_0 rfl) ?_
    refine dT 9 rfl rfl rfl (Yo fg.at_ (fun i hm => by rcases List.mem_append.1 hm with hm | hm; (rcases Nat.lt_trichotomy i av with e | e | e; (exact .inl e); (exact absurd (e ▸ hm) C); (exact .inr e)); (have x := l _ hm; have Y := hiov _ hm; omega)) agg3 rfl rfl ?_)
    refine dV 10 rfl rfl rfl (fun _ => Yk (parts := [(0, .tmp 45), (1, .const (Go.Value.bool true))]) (cells := [(.int .i64 a.id), (.bool true)]) zr97 pl97 rfl rfl) ?_
    refine dT 11 rfl rfl rfl (Yr fg.at_ (fun i hm => by rcases List.mem_append.1 hm with hm | hm; (rcases Nat.lt_trichotomy i av with e | e | e; (exact .inl e); (exact absurd (e ▸ hm) C); (exact .inr e)); (have x := l _ hm; have Y := hiov _ hm; omega)) agg129 sz129 rfl ?_)
    refine dV 13 rfl rfl rfl (fun _ => Zh fa129_1 rfl) ?_
    refine dT 14 rfl rfl rfl (Yo fg.at_ (fun i hm => by rcases List.mem_append.1 hm with hm | hm; (rcases Nat.lt_trichotomy i av with e | e | e; (exact .inl e); (exact absurd (e ▸ hm) C); (exact .inr e)); (have x := l _ hm; have Y := hiov _ hm; omega)) agg3 rfl rfl ?_)
    refine Yt 6 12 (by kernel_rfl) ?_ ?_
    ·refine Zk rfl rfl rfl ?_
     have gG := cu.ch0 az
     refine (Yc (j := a.t.toNat) gG.ls Sv.len el94 sz93 rfl rfl om om fun ae aG P G => ?_)
     obtain rfl := Zv H P
     replace G : At ap 0 ap.heap.size ae ([(.slice m b.length n)]) := G
     refine ⟨(Ch.refl _ _), ?_⟩
     refine Yt 7 12 (by kernel_rfl) ?_ ?_
     ·refine Zk rfl rfl rfl ?_
      refine s_v (Ya G agg93 rfl rfl) ?_
      refine ⟨(Ch.refl _ _), ?_⟩
      refine dO 12 (Zk rfl rfl rfl ?_)
      refine Step.call (Zr (xs := [.tmp 47, .const (Go.Value.bool true)]) fk104 rfl) (Yy a _ om) fun aH nO af => ?_
      obtain ⟨rfl, d4⟩ := af
      have qF := d4.size
      have E := E.trans d4
      have fh : Ch ((bl (.slice m b.length n)) ++ (bl (.slice Aov (vs).length Cov))) ap nO := ((Ch.refl _ _).trans d4.of_nil)
      refine ⟨fh, ?_⟩
      refine dV 15 rfl rfl rfl (fun _ => Yk (parts := [(0, .tmp 46), (1, .tmp 48), (2, .tmp 50)]) (cells := [(.int .i64 a.id), (.bool true), (.int .i64 (Zj a true)), (.int .i64 a.f)]) zr99 pl99 rfl rfl) (dO 16 (Zk rfl rfl rfl ?_))
      refine Zm (cs := Arc.cs) (parts := [(0, .tmp 51)]) (⟨0, false, 0, 0⟩ : Arc) [(⟨a.id, true, Zj a true, a.f⟩ : Arc)] el93 sz99 zr99 Arc.len (by decide) rfl rfl rfl (by decide) (by decide) rfl fun ag nP D Q d5 => ?_
      have qG := d5.size
      have E := E.trans d5
      obtain ⟨R, S, rfl, T, K⟩ := D.opn
      have fi : Ch ((bl (.slice m b.length n)) ++ (bl (.slice Aov (vs).length Cov))) ap nP := (fh.trans d5.of_nil)
      refine ⟨fi, ?_⟩
      refine dO 17 (Zk rfl rfl rfl ?_)
      have nQ := ((A.ch0 az).ch0 d4).ch0 d5
      have nR := ((bQ.ch0 az).ch0 d4).ch0 d5
      refine Zy (cs := Arc.cs) el93 sz99 by99 zr99 rfl (by decide) Arc.one nQ D.ls rfl rfl (by simp only [List.length_append, List.length_singleton]; omega) (by simp only [List.length_append, List.length_singleton]; omega) z om fun ah i9 F U y fj => ?_
      have qH := fj.size
      have E := E.step fj (fun i hi => .inl (by have x := z _ hi; omega))
      obtain ⟨c, d, rfl, V, q⟩ := F.opn
      have gH := Od.put (v' := (⟨c, ((b ++ [(⟨a.id, true, Zj a true, a.f⟩ : Arc)])).length, d⟩ : Sv)) (hi' := i9.heap.size) nR s r fj (fun g hg => hg) F (fun g hg => by have e : g ∈ bl (.slice c ((b ++ [(⟨a.id, true, Zj a true, a.f⟩ : Arc)])).length d) := hg; rcases y with ea | ea; (left; rw [ea] at e; exact e); (right; exact ⟨by first | (have x := ea _ e; omega) | (rw [ea] at e; have x := List.mem_singleton.1 e; omega), q g e⟩)) om om
      have dr : Sep (.slice Aov (vs).length Cov) ((vs.set a.f.toNat (⟨o, ((h ++ [(⟨a.id, false, Zj a false, a.t⟩ : Arc)])).length, p⟩ : Sv)).set a.t.toNat (⟨c, ((b ++ [(⟨a.id, true, Zj a true, a.f⟩ : Arc)])).length, d⟩ : Sv)) := Sep.put (hi' := i9.heap.size) (hi := ba.heap.size) J s (fun g hg => by have e : g ∈ bl (.slice c ((b ++ [(⟨a.id, true, Zj a true, a.f⟩ : Arc)])).length d) := hg; rcases y with ea | ea; (left; rw [ea] at e; exact e); (right; exact ⟨by first | (have x := ea _ e; omega) | (rw [ea] at e; have x := List.mem_singleton.1 e; omega), q g e⟩)) (fun g hm => by have x := l _ hm; have Y := hiov _ hm; omega)
      have cv : Ch ((bl (.slice m b.length n)) ++ (bl (.slice Aov (vs).length Cov))) ap i9 := (fi.step fj (fun i hm => by exact .inr (List.mem_append_left _ hm)))
      refine ⟨cv, ?_⟩
      refine dO 18 (Zk rfl rfl rfl ?_)
      have lw := ((gG.ch0 d4).ch0 d5).ch fj (fun g hg hm => by exact I _ hm hg)
      refine Yi (j := a.t.toNat) lw el94 sz93 rfl rfl om om fun ai aj X L => ?_
      refine ⟨cv, ?_⟩
      refine dO 19 (Zk rfl rfl rfl ?_)
      refine Yn (j := a.t.toNat) (⟨c, ((b ++ [(⟨a.id, true, Zj a true, a.f⟩ : Arc)])).length, d⟩ : Sv) lw L Sv.len sz93 rfl rfl rfl rfl om fun lx ja gI => ?_
      have qI := gI.size
      have E := E.step gI (fun i hi => .inl (by have x := l _ hi; omega))
      have jb : Ch ((bl (.slice m b.length n)) ++ (bl (.slice Aov (vs).length Cov))) ap lx := (cv.step gI (fun i hm => by exact .inr (List.mem_append_right _ hm)))
      refine ⟨jb, ?_⟩
      refine Zw (by kernel_rfl) ?_
      refine Zq (Zb (aC _ _ (Zc (Za rfl rfl (Ye om rfl rfl) (Za rfl rfl (Zf rfl) (Ze ?_))))))
      have gJ : Ol Sv.cs 93 1 lx (.slice Aov (vs).length Cov) (((vs.set a.f.toNat (⟨o, ((h ++ [(⟨a.id, false, Zj a false, a.t⟩ : Arc)])).length, p⟩ : Sv)).set a.t.toNat (⟨c, ((b ++ [(⟨a.id, true, Zj a true, a.f⟩ : Arc)])).length, d⟩ : Sv))) := by
       have hx := ja
       exact hx
      have nT := gH.chS gI dr
      exact Zb (Exists.intro ((k + 1), ((vs.set a.f.toNat (⟨o, ((h ++ [(⟨a.id, false, Zj a false, a.t⟩ : Arc)])).length, p⟩ : Sv)).set a.t.toNat (⟨c, ((b ++ [(⟨a.id, true, Zj a true, a.f⟩ : Arc)])).length, d⟩ : Sv)), (.slice Aov (vs).length Cov)) ⟨⟨E, om, om, (by simp only [List.length_set]; omega), gJ, (Lo.down l om), ((nT.eq (Yu hg O B r)).up (Nat.le_refl _) om), dr⟩, sC4 rfl rfl rfl rfl (sC1 rfl (Sub.nil _)), (by first | omega | (dsimp only; omega))⟩)
     refine Zk rfl rfl rfl ?_
     refine Step.call (Zr (xs := [.tmp 47, .const (Go.Value.bool true)]) fk104 rfl) (Yy a _ om) fun aH nU af => ?_
     obtain ⟨rfl, a2⟩ := af
     have qJ := a2.size
     have E := E.trans a2
     have bm : Ch ((bl (.slice m b.length n)) ++ (bl (.slice Aov (vs).length Cov))) ap nU := ((Ch.refl _ _).trans a2.of_nil)
     refine ⟨bm, ?_⟩
     refine dV 15 rfl rfl rfl (fun _ => Yk (parts := [(0, .tmp 46), (1, .tmp 48), (2, .tmp 50)]) (cells := [(.int .i64 a.id), (.bool true), (.int .i64 (Zj a true)), (.int .i64 a.f)]) zr99 pl99 rfl rfl) ?_
     refine Yt 7 16 (by kernel_rfl) ?_ ?_
     ·refine Zk rfl rfl rfl ?_
      have nV := G.ch0 a2
      refine s_v (Ya nV agg93 rfl rfl) ?_
      refine ⟨bm, ?_⟩
      refine dO 16 (Zk rfl rfl rfl ?_)
      refine Zm (cs := Arc.cs) (parts := [(0, .tmp 51)]) (⟨0, false, 0, 0⟩ : Arc) [(⟨a.id, true, Zj a true, a.f⟩ : Arc)] el93 sz99 zr99 Arc.len (by decide) rfl rfl rfl (by decide) (by decide) rfl fun ag nW D Q d6 => ?_
      have qK := d6.size
      have E := E.trans d6
      obtain ⟨R, S, rfl, T, K⟩ := D.opn
      have fk : Ch ((bl (.slice m b.length n)) ++ (bl (.slice Aov (vs).length Cov))) ap nW := (bm.trans d6.of_nil)
      refine ⟨fk, ?_⟩
      refine dO 17 (Zk rfl rfl rfl ?_)
      have nX := ((A.ch0 az).ch0 a2).ch0 d6
      have nY := ((bQ.ch0 az).ch0 a2).ch0 d6
      refine Zy (cs := Arc.cs) el93 sz99 by99 zr99 rfl (by decide) Arc.one nX D.ls rfl rfl (by simp only [List.length_append, List.length_singleton]; omega) (by simp only [List.length_append, List.length_singleton]; omega) z om fun ah jc F U y fl => ?_
      have qL := fl.size
      have E := E.step fl (fun i hi => .inl (by have x := z _ hi; omega))
      obtain ⟨c, d, rfl, V, q⟩ := F.opn
      have gK := Od.put (v' := (⟨c, ((b ++ [(⟨a.id, true, Zj a true, a.f⟩ : Arc)])).length, d⟩ : Sv)) (hi' := jc.heap.size) nY s r fl (fun g hg => hg) F (fun g hg => by have e : g ∈ bl (.slice c ((b ++ [(⟨a.id, true, Zj a true, a.f⟩ : Arc)])).length d) := hg; rcases y with ea | ea; (left; rw [ea] at e; exact e); (right; exact ⟨by first | (have x := ea _ e; omega) | (rw [ea] at e; have x := List.mem_singleton.1 e; omega), q g e⟩)) om om
      have ds : Sep (.slice Aov (vs).length Cov) ((vs.set a.f.toNat (⟨o, ((h ++ [(⟨a.id, false, Zj a false, a.t⟩ : Arc)])).length, p⟩ : Sv)).set a.t.toNat (⟨c, ((b ++ [(⟨a.id, true, Zj a true, a.f⟩ : Arc)])).length, d⟩ : Sv)) := Sep.put (hi' := jc.heap.size) (hi := ba.heap.size) J s (fun g hg => by have e : g ∈ bl (.slice c ((b ++ [(⟨a.id, true, Zj a true, a.f⟩ : Arc)])).length d) := hg; rcases y with ea | ea; (left; rw [ea] at e; exact e); (right; exact ⟨by first | (have x := ea _ e; omega) | (rw [ea] at e; have x := List.mem_singleton.1 e; omega), q g e⟩)) (fun g hm => by have x := l _ hm; have Y := hiov _ hm; omega)
      have cw : Ch ((bl (.slice m b.length n)) ++ (bl (.slice Aov (vs).length Cov))) ap jc := (fk.step fl (fun i hm => by exact .inr (List.mem_append_left _ hm)))
      refine ⟨cw, ?_⟩
      refine dO 18 (Zk rfl rfl rfl ?_)
      have ly := ((gG.ch0 a2).ch0 d6).ch fl (fun g hg hm => by exact I _ hm hg)
      refine Yi (j := a.t.toNat) ly el94 sz93 rfl rfl om om fun ai aj X L => ?_
      refine ⟨cw, ?_⟩
      refine dO 19 (Zk rfl rfl rfl ?_)
      refine Yn (j := a.t.toNat) (⟨c, ((b ++ [(⟨a.id, true, Zj a true, a.f⟩ : Arc)])).length, d⟩ : Sv) ly L Sv.len sz93 rfl rfl rfl rfl om fun lz jd gL => ?_
      have qM := gL.size
      have E := E.step gL (fun i hi => .inl (by have x := l _ hi; omega))
      have je : Ch ((bl (.slice m b.length n)) ++ (bl (.slice Aov (vs).length Cov))) ap lz := (cw.step gL (fun i hm => by exact .inr (List.mem_append_right _ hm)))
      refine ⟨je, ?_⟩
      refine Zw (by kernel_rfl) ?_
      refine Zq (Zb (aC _ _ (Zc (Za rfl rfl (Ye om rfl rfl) (Za rfl rfl (Zf rfl) (Ze ?_))))))
      have gM : Ol Sv.cs 93 1 lz (.slice Aov (vs).length Cov) (((vs.set a.f.toNat (⟨o, ((h ++ [(⟨a.id, false, Zj a false, a.t⟩ : Arc)])).length, p⟩ : Sv)).set a.t.toNat (⟨c, ((b ++ [(⟨a.id, true, Zj a true, a.f⟩ : Arc)])).length, d⟩ : Sv))) := by
       have hx := jd
       exact hx
      have nZ := gK.chS gL ds
      exact Zb (Exists.intro ((k + 1), ((vs.set a.f.toNat (⟨o, ((h ++ [(⟨a.id, false, Zj a false, a.t⟩ : Arc)])).length, p⟩ : Sv)).set a.t.toNat (⟨c, ((b ++ [(⟨a.id, true, Zj a true, a.f⟩ : Arc)])).length, d⟩ : Sv)), (.slice Aov (vs).length Cov)) ⟨⟨E, om, om, (by simp only [List.length_set]; omega), gM, (Lo.down l om), ((nZ.eq (Yu hg O B r)).up (Nat.le_refl _) om), ds⟩, sC4 rfl rfl rfl rfl (sC1 rfl (Sub.nil _)), (by first | omega | (dsimp only; omega))⟩)
     refine Zk rfl rfl rfl ?_
     refine Zm (cs := Arc.cs) (parts := [(0, .tmp 51)]) (⟨0, false, 0, 0⟩ : Arc) [(⟨a.id, true, Zj a true, a.f⟩ : Arc)] el93 sz99 zr99 Arc.len (by decide) rfl rfl rfl (by decide) (by decide) rfl fun ag n0 D Q cx => ?_
     have qN := cx.size
     have E := E.trans cx
     obtain ⟨R, S, rfl, T, K⟩ := D.opn
     have cy : Ch ((bl (.slice m b.length n)) ++ (bl (.slice Aov (vs).length Cov))) ap n0 := (bm.trans cx.of_nil)
     refine ⟨cy, ?_⟩
     refine dO 7 (Zk rfl rfl rfl ?_)
     have n1 := (G.ch0 a2).ch0 cx
     refine s_v (Ya n1 agg93 rfl rfl) ?_
     refine ⟨cy, ?_⟩
     refine dO 17 (Zk rfl rfl rfl ?_)
     have n2 := ((A.ch0 az).ch0 a2).ch0 cx
     have n3 := ((bQ.ch0 az).ch0 a2).ch0 cx
     refine Zy (cs := Arc.cs) el93 sz99 by99 zr99 rfl (by decide) Arc.one n2 D.ls rfl rfl (by simp only [List.length_append, List.length_singleton]; omega) (by simp only [List.length_append, List.length_singleton]; omega) z om fun ah jf F U y fm => ?_
     have qO := fm.size
     have E := E.step fm (fun i hi => .inl (by have x := z _ hi; omega))
     obtain ⟨c, d, rfl, V, q⟩ := F.opn
     have gN := Od.put (v' := (⟨c, ((b ++ [(⟨a.id, true, Zj a true, a.f⟩ : Arc)])).length, d⟩ : Sv)) (hi' := jf.heap.size) n3 s r fm (fun g hg => hg) F (fun g hg => by have e : g ∈ bl (.slice c ((b ++ [(⟨a.id, true, Zj a true, a.f⟩ : Arc)])).length d) := hg; rcases y with ea | ea; (left; rw [ea] at e; exact e); (right; exact ⟨by first | (have x := ea _ e; omega) | (rw [ea] at e; have x := List.mem_singleton.1 e; omega), q g e⟩)) om om
     have dt : Sep (.slice Aov (vs).length Cov) ((vs.set a.f.toNat (⟨o, ((h ++ [(⟨a.id, false, Zj a false, a.t⟩ : Arc)])).length, p⟩ : Sv)).set a.t.toNat (⟨c, ((b ++ [(⟨a.id, true, Zj a true, a.f⟩ : Arc)])).length, d⟩ : Sv)) := Sep.put (hi' := jf.heap.size) (hi := ba.heap.size) J s (fun g hg => by have e : g ∈ bl (.slice c ((b ++ [(⟨a.id, true, Zj a true, a.f⟩ : Arc)])).length d) := hg; rcases y with ea | ea; (left; rw [ea] at e; exact e); (right; exact ⟨by first | (have x := ea _ e; omega) | (rw [ea] at e; have x := List.mem_singleton.1 e; omega), q g e⟩)) (fun g hm => by have x := l _ hm; have Y := hiov _ hm; omega)
     have cz : Ch ((bl (.slice m b.length n)) ++ (bl (.slice Aov (vs).length Cov))) ap jf := (cy.step fm (fun i hm => by exact .inr (List.mem_append_left _ hm)))
     refine ⟨cz, ?_⟩
     refine dO 18 (Zk rfl rfl rfl ?_)
     have lA := ((gG.ch0 a2).ch0 cx).ch fm (fun g hg hm => by exact I _ hm hg)
     refine Yi (j := a.t.toNat) lA el94 sz93 rfl rfl om om fun ai aj X L => ?_
     refine ⟨cz, ?_⟩
     refine dO 19 (Zk rfl rfl rfl ?_)
     refine Yn (j := a.t.toNat) (⟨c, ((b ++ [(⟨a.id, true, Zj a true, a.f⟩ : Arc)])).length, d⟩ : Sv) lA L Sv.len sz93 rfl rfl rfl rfl om fun lB jg gO => ?_
     have qP := gO.size
     have E := E.step gO (fun i hi => .inl (by have x := l _ hi; omega))
     have jh : Ch ((bl (.slice m b.length n)) ++ (bl (.slice Aov (vs).length Cov))) ap lB := (cz.step gO (fun i hm => by exact .inr (List.mem_append_right _ hm)))
     refine ⟨jh, ?_⟩
     refine Zw (by kernel_rfl) ?_
     refine Zq (Zb (aC _ _ (Zc (Za rfl rfl (Ye om rfl rfl) (Za rfl rfl (Zf rfl) (Ze ?_))))))
     have gP : Ol Sv.cs 93 1 lB (.slice Aov (vs).length Cov) (((vs.set a.f.toNat (⟨o, ((h ++ [(⟨a.id, false, Zj a false, a.t⟩ : Arc)])).length, p⟩ : Sv)).set a.t.toNat (⟨c, ((b ++ [(⟨a.id, true, Zj a true, a.f⟩ : Arc)])).length, d⟩ : Sv))) := by
      have hx := jg
      exact hx
     have n4 := gN.chS gO dt
     exact Zb (Exists.intro ((k + 1), ((vs.set a.f.toNat (⟨o, ((h ++ [(⟨a.id, false, Zj a false, a.t⟩ : Arc)])).length, p⟩ : Sv)).set a.t.toNat (⟨c, ((b ++ [(⟨a.id, true, Zj a true, a.f⟩ : Arc)])).length, d⟩ : Sv)), (.slice Aov (vs).length Cov)) ⟨⟨E, om, om, (by simp only [List.length_set]; omega), gP, (Lo.down l om), ((n4.eq (Yu hg O B r)).up (Nat.le_refl _) om), dt⟩, sC4 rfl rfl rfl rfl (sC1 rfl (Sub.nil _)), (by first | omega | (dsimp only; omega))⟩)
    refine Zk rfl rfl rfl ?_
    refine Step.call (Zr (xs := [.tmp 47, .const (Go.Value.bool true)]) fk104 rfl) (Yy a _ om) fun aH ji af => ?_
    obtain ⟨rfl, a3⟩ := af
    have qQ := a3.size
    have E := E.trans a3
    have aQ : Ch ((bl (.slice m b.length n)) ++ (bl (.slice Aov (vs).length Cov))) ap ji := ((Ch.refl _ _).trans a3.of_nil)
    refine ⟨aQ, ?_⟩
    refine dV 15 rfl rfl rfl (fun _ => Yk (parts := [(0, .tmp 46), (1, .tmp 48), (2, .tmp 50)]) (cells := [(.int .i64 a.id), (.bool true), (.int .i64 (Zj a true)), (.int .i64 a.f)]) zr99 pl99 rfl rfl) ?_
    refine Yt 6 16 (by kernel_rfl) ?_ ?_
    ·refine Zk rfl rfl rfl ?_
     have jj := (cu.ch0 az).ch0 a3
     refine (Yc (j := a.t.toNat) jj.ls Sv.len el94 sz93 rfl rfl om om fun ae aG P G => ?_)
     obtain rfl := Zv H P
     replace G : At ji 0 ji.heap.size ae ([(.slice m b.length n)]) := G
     refine ⟨aQ, ?_⟩
     refine Yt 7 16 (by kernel_rfl) ?_ ?_
     ·refine Zk rfl rfl rfl ?_
      refine s_v (Ya G agg93 rfl rfl) ?_
      refine ⟨aQ, ?_⟩
      refine dO 16 (Zk rfl rfl rfl ?_)
      refine Zm (cs := Arc.cs) (parts := [(0, .tmp 51)]) (⟨0, false, 0, 0⟩ : Arc) [(⟨a.id, true, Zj a true, a.f⟩ : Arc)] el93 sz99 zr99 Arc.len (by decide) rfl rfl rfl (by decide) (by decide) rfl fun ag n5 D Q d7 => ?_
      have qR := d7.size
      have E := E.trans d7
      obtain ⟨R, S, rfl, T, K⟩ := D.opn
      have fn : Ch ((bl (.slice m b.length n)) ++ (bl (.slice Aov (vs).length Cov))) ap n5 := (aQ.trans d7.of_nil)
      refine ⟨fn, ?_⟩
      refine dO 17 (Zk rfl rfl rfl ?_)
      have n6 := ((A.ch0 az).ch0 a3).ch0 d7
      have n7 := ((bQ.ch0 az).ch0 a3).ch0 d7
      refine Zy (cs := Arc.cs) el93 sz99 by99 zr99 rfl (by decide) Arc.one n6 D.ls rfl rfl (by simp only [List.length_append, List.length_singleton]; omega) (by simp only [List.length_append, List.length_singleton]; omega) z om fun ah jk F U y fo => ?_
      have qS := fo.size
      have E := E.step fo (fun i hi => .inl (by have x := z _ hi; omega))
      obtain ⟨c, d, rfl, V, q⟩ := F.opn
      have gQ := Od.put (v' := (⟨c, ((b ++ [(⟨a.id, true, Zj a true, a.f⟩ : Arc)])).length, d⟩ : Sv)) (hi' := jk.heap.size) n7 s r fo (fun g hg => hg) F (fun g hg => by have e : g ∈ bl (.slice c ((b ++ [(⟨a.id, true, Zj a true, a.f⟩ : Arc)])).length d) := hg; rcases y with ea | ea; (left; rw [ea] at e; exact e); (right; exact ⟨by first | (have x := ea _ e; omega) | (rw [ea] at e; have x := List.mem_singleton.1 e; omega), q g e⟩)) om om
      have du : Sep (.slice Aov (vs).length Cov) ((vs.set a.f.toNat (⟨o, ((h ++ [(⟨a.id, false, Zj a false, a.t⟩ : Arc)])).length, p⟩ : Sv)).set a.t.toNat (⟨c, ((b ++ [(⟨a.id, true, Zj a true, a.f⟩ : Arc)])).length, d⟩ : Sv)) := Sep.put (hi' := jk.heap.size) (hi := ba.heap.size) J s (fun g hg => by have e : g ∈ bl (.slice c ((b ++ [(⟨a.id, true, Zj a true, a.f⟩ : Arc)])).length d) := hg; rcases y with ea | ea; (left; rw [ea] at e; exact e); (right; exact ⟨by first | (have x := ea _ e; omega) | (rw [ea] at e; have x := List.mem_singleton.1 e; omega), q g e⟩)) (fun g hm => by have x := l _ hm; have Y := hiov _ hm; omega)
      have cA : Ch ((bl (.slice m b.length n)) ++ (bl (.slice Aov (vs).length Cov))) ap jk := (fn.step fo (fun i hm => by exact .inr (List.mem_append_left _ hm)))
      refine ⟨cA, ?_⟩
      refine dO 18 (Zk rfl rfl rfl ?_)
      have lC := (jj.ch0 d7).ch fo (fun g hg hm => by exact I _ hm hg)
      refine Yi (j := a.t.toNat) lC el94 sz93 rfl rfl om om fun ai aj X L => ?_
      refine ⟨cA, ?_⟩
      refine dO 19 (Zk rfl rfl rfl ?_)
      refine Yn (j := a.t.toNat) (⟨c, ((b ++ [(⟨a.id, true, Zj a true, a.f⟩ : Arc)])).length, d⟩ : Sv) lC L Sv.len sz93 rfl rfl rfl rfl om fun lD jl gR => ?_
      have qT := gR.size
      have E := E.step gR (fun i hi => .inl (by have x := l _ hi; omega))
      have jm : Ch ((bl (.slice m b.length n)) ++ (bl (.slice Aov (vs).length Cov))) ap lD := (cA.step gR (fun i hm => by exact .inr (List.mem_append_right _ hm)))
      refine ⟨jm, ?_⟩
      refine Zw (by kernel_rfl) ?_
      refine Zq (Zb (aC _ _ (Zc (Za rfl rfl (Ye om rfl rfl) (Za rfl rfl (Zf rfl) (Ze ?_))))))
      have gS : Ol Sv.cs 93 1 lD (.slice Aov (vs).length Cov) (((vs.set a.f.toNat (⟨o, ((h ++ [(⟨a.id, false, Zj a false, a.t⟩ : Arc)])).length, p⟩ : Sv)).set a.t.toNat (⟨c, ((b ++ [(⟨a.id, true, Zj a true, a.f⟩ : Arc)])).length, d⟩ : Sv))) := by
       have hx := jl
       exact hx
      have n8 := gQ.chS gR du
      exact Zb (Exists.intro ((k + 1), ((vs.set a.f.toNat (⟨o, ((h ++ [(⟨a.id, false, Zj a false, a.t⟩ : Arc)])).length, p⟩ : Sv)).set a.t.toNat (⟨c, ((b ++ [(⟨a.id, true, Zj a true, a.f⟩ : Arc)])).length, d⟩ : Sv)), (.slice Aov (vs).length Cov)) ⟨⟨E, om, om, (by simp only [List.length_set]; omega), gS, (Lo.down l om), ((n8.eq (Yu hg O B r)).up (Nat.le_refl _) om), du⟩, sC4 rfl rfl rfl rfl (sC1 rfl (Sub.nil _)), (by first | omega | (dsimp only; omega))⟩)
     refine Zk rfl rfl rfl ?_
     refine Zm (cs := Arc.cs) (parts := [(0, .tmp 51)]) (⟨0, false, 0, 0⟩ : Arc) [(⟨a.id, true, Zj a true, a.f⟩ : Arc)] el93 sz99 zr99 Arc.len (by decide) rfl rfl rfl (by decide) (by decide) rfl fun ag n9 D Q cB => ?_
     have qU := cB.size
     have E := E.trans cB
     obtain ⟨R, S, rfl, T, K⟩ := D.opn
     have cC : Ch ((bl (.slice m b.length n)) ++ (bl (.slice Aov (vs).length Cov))) ap n9 := (aQ.trans cB.of_nil)
     refine ⟨cC, ?_⟩
     refine dO 7 (Zk rfl rfl rfl ?_)
     have oa := G.ch0 cB
     refine s_v (Ya oa agg93 rfl rfl) ?_
     refine ⟨cC, ?_⟩
     refine dO 17 (Zk rfl rfl rfl ?_)
     have ob := ((A.ch0 az).ch0 a3).ch0 cB
     have oc := ((bQ.ch0 az).ch0 a3).ch0 cB
     refine Zy (cs := Arc.cs) el93 sz99 by99 zr99 rfl (by decide) Arc.one ob D.ls rfl rfl (by simp only [List.length_append, List.length_singleton]; omega) (by simp only [List.length_append, List.length_singleton]; omega) z om fun ah jn F U y fp => ?_
     have qV := fp.size
     have E := E.step fp (fun i hi => .inl (by have x := z _ hi; omega))
     obtain ⟨c, d, rfl, V, q⟩ := F.opn
     have gT := Od.put (v' := (⟨c, ((b ++ [(⟨a.id, true, Zj a true, a.f⟩ : Arc)])).length, d⟩ : Sv)) (hi' := jn.heap.size) oc s r fp (fun g hg => hg) F (fun g hg => by have e : g ∈ bl (.slice c ((b ++ [(⟨a.id, true, Zj a true, a.f⟩ : Arc)])).length d) := hg; rcases y with ea | ea; (left; rw [ea] at e; exact e); (right; exact ⟨by first | (have x := ea _ e; omega) | (rw [ea] at e; have x := List.mem_singleton.1 e; omega), q g e⟩)) om om
     have dv : Sep (.slice Aov (vs).length Cov) ((vs.set a.f.toNat (⟨o, ((h ++ [(⟨a.id, false, Zj a false, a.t⟩ : Arc)])).length, p⟩ : Sv)).set a.t.toNat (⟨c, ((b ++ [(⟨a.id, true, Zj a true, a.f⟩ : Arc)])).length, d⟩ : Sv)) := Sep.put (hi' := jn.heap.size) (hi := ba.heap.size) J s (fun g hg => by have e : g ∈ bl (.slice c ((b ++ [(⟨a.id, true, Zj a true, a.f⟩ : Arc)])).length d) := hg; rcases y with ea | ea; (left; rw [ea] at e; exact e); (right; exact ⟨by first | (have x := ea _ e; omega) | (rw [ea] at e; have x := List.mem_singleton.1 e; omega), q g e⟩)) (fun g hm => by have x := l _ hm; have Y := hiov _ hm; omega)
     have cD : Ch ((bl (.slice m b.length n)) ++ (bl (.slice Aov (vs).length Cov))) ap jn := (cC.step fp (fun i hm => by exact .inr (List.mem_append_left _ hm)))
     refine ⟨cD, ?_⟩
     refine dO 18 (Zk rfl rfl rfl ?_)
     have lE := (jj.ch0 cB).ch fp (fun g hg hm => by exact I _ hm hg)
     refine Yi (j := a.t.toNat) lE el94 sz93 rfl rfl om om fun ai aj X L => ?_
     refine ⟨cD, ?_⟩
     refine dO 19 (Zk rfl rfl rfl ?_)
     refine Yn (j := a.t.toNat) (⟨c, ((b ++ [(⟨a.id, true, Zj a true, a.f⟩ : Arc)])).length, d⟩ : Sv) lE L Sv.len sz93 rfl rfl rfl rfl om fun lF jo gU => ?_
     have qW := gU.size
     have E := E.step gU (fun i hi => .inl (by have x := l _ hi; omega))
     have jp : Ch ((bl (.slice m b.length n)) ++ (bl (.slice Aov (vs).length Cov))) ap lF := (cD.step gU (fun i hm => by exact .inr (List.mem_append_right _ hm)))
     refine ⟨jp, ?_⟩
     refine Zw (by kernel_rfl) ?_
     refine Zq (Zb (aC _ _ (Zc (Za rfl rfl (Ye om rfl rfl) (Za rfl rfl (Zf rfl) (Ze ?_))))))
     have gW : Ol Sv.cs 93 1 lF (.slice Aov (vs).length Cov) (((vs.set a.f.toNat (⟨o, ((h ++ [(⟨a.id, false, Zj a false, a.t⟩ : Arc)])).length, p⟩ : Sv)).set a.t.toNat (⟨c, ((b ++ [(⟨a.id, true, Zj a true, a.f⟩ : Arc)])).length, d⟩ : Sv))) := by
      have hx := jo
      exact hx
     have oe := gT.chS gU dv
     exact Zb (Exists.intro ((k + 1), ((vs.set a.f.toNat (⟨o, ((h ++ [(⟨a.id, false, Zj a false, a.t⟩ : Arc)])).length, p⟩ : Sv)).set a.t.toNat (⟨c, ((b ++ [(⟨a.id, true, Zj a true, a.f⟩ : Arc)])).length, d⟩ : Sv)), (.slice Aov (vs).length Cov)) ⟨⟨E, om, om, (by simp only [List.length_set]; omega), gW, (Lo.down l om), ((oe.eq (Yu hg O B r)).up (Nat.le_refl _) om), dv⟩, sC4 rfl rfl rfl rfl (sC1 rfl (Sub.nil _)), (by first | omega | (dsimp only; omega))⟩)
    refine Zk rfl rfl rfl ?_
    refine Zm (cs := Arc.cs) (parts := [(0, .tmp 51)]) (⟨0, false, 0, 0⟩ : Arc) [(⟨a.id, true, Zj a true, a.f⟩ : Arc)] el93 sz99 zr99 Arc.len (by decide) rfl rfl rfl (by decide) (by decide) rfl fun ag jq D Q d8 => ?_
    have qX := d8.size
    have E := E.trans d8
    obtain ⟨R, S, rfl, T, K⟩ := D.opn
    have bn : Ch ((bl (.slice m b.length n)) ++ (bl (.slice Aov (vs).length Cov))) ap jq := (aQ.trans d8.of_nil)
    refine ⟨bn, ?_⟩
    refine dO 6 (Zk rfl rfl rfl ?_)
    have lG := ((cu.ch0 az).ch0 a3).ch0 d8
    refine (Yc (j := a.t.toNat) lG.ls Sv.len el94 sz93 rfl rfl om om fun ae aG P G => ?_)
    obtain rfl := Zv H P
    replace G : At jq 0 jq.heap.size ae ([(.slice m b.length n)]) := G
    refine ⟨bn, ?_⟩
    refine dO 7 (Zk rfl rfl rfl ?_)
    refine s_v (Ya G agg93 rfl rfl) ?_
    refine ⟨bn, ?_⟩
    refine dO 17 (Zk rfl rfl rfl ?_)
    have og := ((A.ch0 az).ch0 a3).ch0 d8
    have oh := ((bQ.ch0 az).ch0 a3).ch0 d8
    refine Zy (cs := Arc.cs) el93 sz99 by99 zr99 rfl (by decide) Arc.one og D.ls rfl rfl (by simp only [List.length_append, List.length_singleton]; omega) (by simp only [List.length_append, List.length_singleton]; omega) z om fun ah jr F U y fq => ?_
    have qY := fq.size
    have E := E.step fq (fun i hi => .inl (by have x := z _ hi; omega))
    obtain ⟨c, d, rfl, V, q⟩ := F.opn
    have gX := Od.put (v' := (⟨c, ((b ++ [(⟨a.id, true, Zj a true, a.f⟩ : Arc)])).length, d⟩ : Sv)) (hi' := jr.heap.size) oh s r fq (fun g hg => hg) F (fun g hg => by have e : g ∈ bl (.slice c ((b ++ [(⟨a.id, true, Zj a true, a.f⟩ : Arc)])).length d) := hg; rcases y with ea | ea; (left; rw [ea] at e; exact e); (right; exact ⟨by first | (have x := ea _ e; omega) | (rw [ea] at e; have x := List.mem_singleton.1 e; omega), q g e⟩)) om om
    have dw : Sep (.slice Aov (vs).length Cov) ((vs.set a.f.toNat (⟨o, ((h ++ [(⟨a.id, false, Zj a false, a.t⟩ : Arc)])).length, p⟩ : Sv)).set a.t.toNat (⟨c, ((b ++ [(⟨a.id, true, Zj a true, a.f⟩ : Arc)])).length, d⟩ : Sv)) := Sep.put (hi' := jr.heap.size) (hi := ba.heap.size) J s (fun g hg => by have e : g ∈ bl (.slice c ((b ++ [(⟨a.id, true, Zj a true, a.f⟩ : Arc)])).length d) := hg; rcases y with ea | ea; (left; rw [ea] at e; exact e); (right; exact ⟨by first | (have x := ea _ e; omega) | (rw [ea] at e; have x := List.mem_singleton.1 e; omega), q g e⟩)) (fun g hm => by have x := l _ hm; have Y := hiov _ hm; omega)
    have cE : Ch ((bl (.slice m b.length n)) ++ (bl (.slice Aov (vs).length Cov))) ap jr := (bn.step fq (fun i hm => by exact .inr (List.mem_append_left _ hm)))
    refine ⟨cE, ?_⟩
    refine dO 18 (Zk rfl rfl rfl ?_)
    have lH := lG.ch fq (fun g hg hm => by exact I _ hm hg)
    refine Yi (j := a.t.toNat) lH el94 sz93 rfl rfl om om fun ai aj X L => ?_
    refine ⟨cE, ?_⟩
    refine dO 19 (Zk rfl rfl rfl ?_)
    refine Yn (j := a.t.toNat) (⟨c, ((b ++ [(⟨a.id, true, Zj a true, a.f⟩ : Arc)])).length, d⟩ : Sv) lH L Sv.len sz93 rfl rfl rfl rfl om fun lI js gY => ?_
    have qZ := gY.size
    have E := E.step gY (fun i hi => .inl (by have x := l _ hi; omega))
    have jt : Ch ((bl (.slice m b.length n)) ++ (bl (.slice Aov (vs).length Cov))) ap lI := (cE.step gY (fun i hm => by exact .inr (List.mem_append_right _ hm)))
    refine ⟨jt, ?_⟩
    refine Zw (by kernel_rfl) ?_
    refine Zq (Zb (aC _ _ (Zc (Za rfl rfl (Ye om rfl rfl) (Za rfl rfl (Zf rfl) (Ze ?_))))))
    have gZ : Ol Sv.cs 93 1 lI (.slice Aov (vs).length Cov) (((vs.set a.f.toNat (⟨o, ((h ++ [(⟨a.id, false, Zj a false, a.t⟩ : Arc)])).length, p⟩ : Sv)).set a.t.toNat (⟨c, ((b ++ [(⟨a.id, true, Zj a true, a.f⟩ : Arc)])).length, d⟩ : Sv))) := by
     have hx := js
     exact hx
    have oi := gX.chS gY dw
    exact Zb (Exists.intro ((k + 1), ((vs.set a.f.toNat (⟨o, ((h ++ [(⟨a.id, false, Zj a false, a.t⟩ : Arc)])).length, p⟩ : Sv)).set a.t.toNat (⟨c, ((b ++ [(⟨a.id, true, Zj a true, a.f⟩ : Arc)])).length, d⟩ : Sv)), (.slice Aov (vs).length Cov)) ⟨⟨E, om, om, (by simp only [List.length_set]; omega), gZ, (Lo.down l om), ((oi.eq (Yu hg O B r)).up (Nat.le_refl _) om), dw⟩, sC4 rfl rfl rfl rfl (sC1 rfl (Sub.nil _)), (by first | omega | (dsimp only; omega))⟩)
   refine Zk rfl rfl rfl ?_
   refine Zm (cs := Arc.cs) (parts := [(0, .tmp 32)]) (⟨0, false, 0, 0⟩ : Arc) [(⟨a.id, false, Zj a false, a.t⟩ : Arc)] el93 sz99 zr99 Arc.len (by decide) rfl rfl rfl (by decide) (by decide) rfl fun ew oj aD bB bR => ?_
   have q0 := bR.size
   have E := E.trans bR
   obtain ⟨bC, bD, rfl, bF, aV⟩ := aD.opn
   have cF : Ch ((bl (.slice aa h.length ab)) ++ (bl (.slice Aov (vs).length Cov))) aU oj := (aP.trans bR.of_nil)
   refine ⟨cF, ?_⟩
   refine dO 7 (Zk rfl rfl rfl ?_)
   have ok := aI.ch0 bR
   refine s_v (Ya ok agg93 rfl rfl) ?_
   refine ⟨cF, ?_⟩
   refine dO 17 (Zk rfl rfl rfl ?_)
   have ol := ((aw.ch0 bv).ch0 aJ).ch0 bR
   have lJ := ((hN.ch0 bv).ch0 aJ).ch0 bR
   refine Zy (cs := Arc.cs) el93 sz99 by99 zr99 rfl (by decide) Arc.one ol aD.ls rfl rfl (by simp only [List.length_append, List.length_singleton]; omega) (by simp only [List.length_append, List.length_singleton]; omega) M om fun ex bb aE bG ac d9 => ?_
   have q1 := d9.size
   have E := E.step d9 (fun i hi => .inl (by have x := M _ hi; omega))
   obtain ⟨o, p, rfl, bH, Z⟩ := aE.opn
   have g0 := Od.put (v' := (⟨o, ((h ++ [(⟨a.id, false, Zj a false, a.t⟩ : Arc)])).length, p⟩ : Sv)) (hi' := bb.heap.size) lJ ak B d9 (fun g hg => hg) aE (fun g hg => by have e : g ∈ bl (.slice o ((h ++ [(⟨a.id, false, Zj a false, a.t⟩ : Arc)])).length p) := hg; rcases ac with ea | ea; (left; rw [ea] at e; exact e); (right; exact ⟨by first | (have x := ea _ e; omega) | (rw [ea] at e; have x := List.mem_singleton.1 e; omega), Z g e⟩)) om om
   have dx : Sep (.slice Aov (vs).length Cov) (vs.set a.f.toNat (⟨o, ((h ++ [(⟨a.id, false, Zj a false, a.t⟩ : Arc)])).length, p⟩ : Sv)) := Sep.put (hi' := bb.heap.size) (hi := R9.heap.size) aT ak (fun g hg => by have e : g ∈ bl (.slice o ((h ++ [(⟨a.id, false, Zj a false, a.t⟩ : Arc)])).length p) := hg; rcases ac with ea | ea; (left; rw [ea] at e; exact e); (right; exact ⟨by first | (have x := ea _ e; omega) | (rw [ea] at e; have x := List.mem_singleton.1 e; omega), Z g e⟩)) (fun g hm => by have x := l _ hm; have Y := hiov _ hm; omega)
   have ju : ∀ u ∈ (vs.set a.f.toNat (⟨o, ((h ++ [(⟨a.id, false, Zj a false, a.t⟩ : Arc)])).length, p⟩ : Sv)), av ∉ bl u.v := Zhs (fun u hu hm => by have e := Od.rng lJ hu hm; omega) (fun hm => by have hm : av ∈ bl (.slice o ((h ++ [(⟨a.id, false, Zj a false, a.t⟩ : Arc)])).length p) := hm; rcases ac with ea | ea; (rw [ea] at hm; have x := M _ hm; have Y := al _ hm; omega); (have ez := Z _ hm; rw [ea] at hm; have kh := List.mem_singleton.1 hm; omega))
   have cG : Ch ((bl (.slice aa h.length ab)) ++ (bl (.slice Aov (vs).length Cov))) aU bb := (cF.step d9 (fun i hm => by exact .inr (List.mem_append_left _ hm)))
   refine ⟨cG, ?_⟩
   refine dO 18 (Zk rfl rfl rfl ?_)
   have lK := (i6.ch0 bR).ch d9 (fun g hg hm => by exact aL _ hm hg)
   refine Yi (j := a.f.toNat) lK el94 sz93 rfl rfl om om fun eB eC bI aW => ?_
   refine ⟨cG, ?_⟩
   refine dO 19 (Zk rfl rfl rfl ?_)
   refine Yn (j := a.f.toNat) (⟨o, ((h ++ [(⟨a.id, false, Zj a false, a.t⟩ : Arc)])).length, p⟩ : Sv) lK aW Sv.len sz93 rfl rfl rfl rfl om fun lL cH fr => ?_
   have q2 := fr.size
   have E := E.step fr (fun i hi => .inl (by have x := l _ hi; omega))
   have jv : Ch ((bl (.slice aa h.length ab)) ++ (bl (.slice Aov (vs).length Cov))) aU lL := (cG.step fr (fun i hm => by exact .inr (List.mem_append_right _ hm)))
   refine ⟨jv, ?_⟩
   refine Zw (by kernel_rfl) ?_
   refine Zb (ki _ _ ?_)
   have bS := g0.chS fr dx
   have am := (bS).1
   rw [@List.length_set _ (Qv gV (gE.take k)), Qa] at am
   obtain ⟨aF, H⟩ := Zaj (xs := (vs.set a.f.toNat (⟨o, ((h ++ [(⟨a.id, false, Zj a false, a.t⟩ : Arc)])).length, p⟩ : Sv))) (j := a.t.toNat) om
   have J : Sep (.slice Aov (vs).length Cov) (vs.set a.f.toNat (⟨o, ((h ++ [(⟨a.id, false, Zj a false, a.t⟩ : Arc)])).length, p⟩ : Sv)) := dx
   have I := J _ (Xa H)
   obtain ⟨b, r, A, ad⟩ := bS.ownget H
   have s := H
   obtain ⟨m, bJ, n⟩ := aF
   obtain rfl := A.ls.eqn
   have bK := A.len
   have z : Lo W4.heap.size (.slice m b.length n) := fun g hg => (ad g hg).1
   have bL : ∀ g ∈ bl (.slice m b.length n), g < bb.heap.size := fun g hg => (ad g hg).2
   have C := ju _ (Xa s)
   replace A : Ol Arc.cs 99 4 lL (.slice m b.length n) b := A
   have bM := Zav hg bd r
   refine Xl ((bl (.slice m b.length n)) ++ (bl (.slice Aov (vs).length Cov))) 20 mixed rfl fun aq aA => ?_
   have q3 := aA.size
   have E := E.trans aA
   refine dV 0 rfl rfl rfl (fun _ => Zf rfl) (dV 1 rfl rfl rfl (fun _ => Zh fa129_2 rfl) ?_)
   have fs := ((((es.ch0 aJ).ch0 bR).ch d9 (fun hm => by have x := M _ hm; have Y := al _ hm; omega)).ch fr (fun hm => by have x := l _ hm; have Y := hiov _ hm; omega)).ch0 aA
   refine dT 2 rfl rfl rfl (Yo fs.at_ (fun i hm => by rcases List.mem_append.1 hm with hm | hm; (rcases Nat.lt_trichotomy i av with e | e | e; (exact .inl e); (exact absurd (e ▸ hm) C); (exact .inr e)); (have x := l _ hm; have Y := hiov _ hm; omega)) agg3 rfl rfl ?_)
   refine dV 3 rfl rfl rfl (fun _ => Zf rfl) (dV 4 rfl rfl rfl (fun _ => Zh fa129_2 rfl) ?_)
   refine dT 5 rfl rfl rfl (Yo fs.at_ (fun i hm => by rcases List.mem_append.1 hm with hm | hm; (rcases Nat.lt_trichotomy i av with e | e | e; (exact .inl e); (exact absurd (e ▸ hm) C); (exact .inr e)); (have x := l _ hm; have Y := hiov _ hm; omega)) agg3 rfl rfl ?_)
   refine dV 8 rfl rfl rfl (fun _ => Zh fa129_0 rfl) ?_
   refine dT 9 rfl rfl rfl (Yo fs.at_ (fun i hm => by rcases List.mem_append.1 hm with hm | hm; (rcases Nat.lt_trichotomy i av with e | e | e; (exact .inl e); (exact absurd (e ▸ hm) C); (exact .inr e)); (have x := l _ hm; have Y := hiov _ hm; omega)) agg3 rfl rfl ?_)
   refine dV 10 rfl rfl rfl (fun _ => Yk (parts := [(0, .tmp 45), (1, .const (Go.Value.bool true))]) (cells := [(.int .i64 a.id), (.bool true)]) zr97 pl97 rfl rfl) ?_
   refine dT 11 rfl rfl rfl (Yr fs.at_ (fun i hm => by rcases List.mem_append.1 hm with hm | hm; (rcases Nat.lt_trichotomy i av with e | e | e; (exact .inl e); (exact absurd (e ▸ hm) C); (exact .inr e)); (have x := l _ hm; have Y := hiov _ hm; omega)) agg129 sz129 rfl ?_)
   refine dV 13 rfl rfl rfl (fun _ => Zh fa129_1 rfl) ?_
   refine dT 14 rfl rfl rfl (Yo fs.at_ (fun i hm => by rcases List.mem_append.1 hm with hm | hm; (rcases Nat.lt_trichotomy i av with e | e | e; (exact .inl e); (exact absurd (e ▸ hm) C); (exact .inr e)); (have x := l _ hm; have Y := hiov _ hm; omega)) agg3 rfl rfl ?_)
   refine Yt 6 12 (by kernel_rfl) ?_ ?_
   ·refine Zk rfl rfl rfl ?_
    have g1 := cH.ch0 aA
    refine (Yc (j := a.t.toNat) g1.ls Sv.len el94 sz93 rfl rfl om om fun ae aG P G => ?_)
    obtain rfl := Zv H P
    replace G : At aq 0 aq.heap.size ae ([(.slice m b.length n)]) := G
    refine ⟨(Ch.refl _ _), ?_⟩
    refine Yt 7 12 (by kernel_rfl) ?_ ?_
    ·refine Zk rfl rfl rfl ?_
     refine s_v (Ya G agg93 rfl rfl) ?_
     refine ⟨(Ch.refl _ _), ?_⟩
     refine dO 12 (Zk rfl rfl rfl ?_)
     refine Step.call (Zr (xs := [.tmp 47, .const (Go.Value.bool true)]) fk104 rfl) (Yy a _ om) fun aH on af => ?_
     obtain ⟨rfl, eb⟩ := af
     have q4 := eb.size
     have E := E.trans eb
     have ft : Ch ((bl (.slice m b.length n)) ++ (bl (.slice Aov (vs).length Cov))) aq on := ((Ch.refl _ _).trans eb.of_nil)
     refine ⟨ft, ?_⟩
     refine dV 15 rfl rfl rfl (fun _ => Yk (parts := [(0, .tmp 46), (1, .tmp 48), (2, .tmp 50)]) (cells := [(.int .i64 a.id), (.bool true), (.int .i64 (Zj a true)), (.int .i64 a.f)]) zr99 pl99 rfl rfl) (dO 16 (Zk rfl rfl rfl ?_))
     refine Zm (cs := Arc.cs) (parts := [(0, .tmp 51)]) (⟨0, false, 0, 0⟩ : Arc) [(⟨a.id, true, Zj a true, a.f⟩ : Arc)] el93 sz99 zr99 Arc.len (by decide) rfl rfl rfl (by decide) (by decide) rfl fun ag oo D Q ec => ?_
     have q5 := ec.size
     have E := E.trans ec
     obtain ⟨R, S, rfl, T, K⟩ := D.opn
     have fu : Ch ((bl (.slice m b.length n)) ++ (bl (.slice Aov (vs).length Cov))) aq oo := (ft.trans ec.of_nil)
     refine ⟨fu, ?_⟩
     refine dO 17 (Zk rfl rfl rfl ?_)
     have op := ((A.ch0 aA).ch0 eb).ch0 ec
     have oq := ((bS.ch0 aA).ch0 eb).ch0 ec
     refine Zy (cs := Arc.cs) el93 sz99 by99 zr99 rfl (by decide) Arc.one op D.ls rfl rfl (by simp only [List.length_append, List.length_singleton]; omega) (by simp only [List.length_append, List.length_singleton]; omega) z om fun ah jw F U y fv => ?_
     have q6 := fv.size
     have E := E.step fv (fun i hi => .inl (by have x := z _ hi; omega))
     obtain ⟨c, d, rfl, V, q⟩ := F.opn
     have g2 := Od.put (v' := (⟨c, ((b ++ [(⟨a.id, true, Zj a true, a.f⟩ : Arc)])).length, d⟩ : Sv)) (hi' := jw.heap.size) oq s r fv (fun g hg => hg) F (fun g hg => by have e : g ∈ bl (.slice c ((b ++ [(⟨a.id, true, Zj a true, a.f⟩ : Arc)])).length d) := hg; rcases y with ea | ea; (left; rw [ea] at e; exact e); (right; exact ⟨by first | (have x := ea _ e; omega) | (rw [ea] at e; have x := List.mem_singleton.1 e; omega), q g e⟩)) om om
     have dy : Sep (.slice Aov (vs).length Cov) ((vs.set a.f.toNat (⟨o, ((h ++ [(⟨a.id, false, Zj a false, a.t⟩ : Arc)])).length, p⟩ : Sv)).set a.t.toNat (⟨c, ((b ++ [(⟨a.id, true, Zj a true, a.f⟩ : Arc)])).length, d⟩ : Sv)) := Sep.put (hi' := jw.heap.size) (hi := bb.heap.size) J s (fun g hg => by have e : g ∈ bl (.slice c ((b ++ [(⟨a.id, true, Zj a true, a.f⟩ : Arc)])).length d) := hg; rcases y with ea | ea; (left; rw [ea] at e; exact e); (right; exact ⟨by first | (have x := ea _ e; omega) | (rw [ea] at e; have x := List.mem_singleton.1 e; omega), q g e⟩)) (fun g hm => by have x := l _ hm; have Y := hiov _ hm; omega)
     have cI : Ch ((bl (.slice m b.length n)) ++ (bl (.slice Aov (vs).length Cov))) aq jw := (fu.step fv (fun i hm => by exact .inr (List.mem_append_left _ hm)))
     refine ⟨cI, ?_⟩
     refine dO 18 (Zk rfl rfl rfl ?_)
     have lM := ((g1.ch0 eb).ch0 ec).ch fv (fun g hg hm => by exact I _ hm hg)
     refine Yi (j := a.t.toNat) lM el94 sz93 rfl rfl om om fun ai aj X L => ?_
     refine ⟨cI, ?_⟩
     refine dO 19 (Zk rfl rfl rfl ?_)
     refine Yn (j := a.t.toNat) (⟨c, ((b ++ [(⟨a.id, true, Zj a true, a.f⟩ : Arc)])).length, d⟩ : Sv) lM L Sv.len sz93 rfl rfl rfl rfl om fun lN jx g3 => ?_
     have q7 := g3.size
     have E := E.step g3 (fun i hi => .inl (by have x := l _ hi; omega))
     have jy : Ch ((bl (.slice m b.length n)) ++ (bl (.slice Aov (vs).length Cov))) aq lN := (cI.step g3 (fun i hm => by exact .inr (List.mem_append_right _ hm)))
     refine ⟨jy, ?_⟩
     refine Zw (by kernel_rfl) ?_
     refine Zq (Zb (aC _ _ (Zc (Za rfl rfl (Ye om rfl rfl) (Za rfl rfl (Zf rfl) (Ze ?_))))))
     have g4 : Ol Sv.cs 93 1 lN (.slice Aov (vs).length Cov) (((vs.set a.f.toNat (⟨o, ((h ++ [(⟨a.id, false, Zj a false, a.t⟩ : Arc)])).length, p⟩ : Sv)).set a.t.toNat (⟨c, ((b ++ [(⟨a.id, true, Zj a true, a.f⟩ : Arc)])).length, d⟩ : Sv))) := by
      have hx := jx
      exact hx
     have os := g2.chS g3 dy
     exact Zb (Exists.intro ((k + 1), ((vs.set a.f.toNat (⟨o, ((h ++ [(⟨a.id, false, Zj a false, a.t⟩ : Arc)])).length, p⟩ : Sv)).set a.t.toNat (⟨c, ((b ++ [(⟨a.id, true, Zj a true, a.f⟩ : Arc)])).length, d⟩ : Sv)), (.slice Aov (vs).length Cov)) ⟨⟨E, om, om, (by simp only [List.length_set]; omega), g4, (Lo.down l om), ((os.eq (Yu hg O B r)).up (Nat.le_refl _) om), dy⟩, sC4 rfl rfl rfl rfl (sC1 rfl (Sub.nil _)), (by first | omega | (dsimp only; omega))⟩)
    refine Zk rfl rfl rfl ?_
    refine Step.call (Zr (xs := [.tmp 47, .const (Go.Value.bool true)]) fk104 rfl) (Yy a _ om) fun aH ot af => ?_
    obtain ⟨rfl, a4⟩ := af
    have q8 := a4.size
    have E := E.trans a4
    have bp : Ch ((bl (.slice m b.length n)) ++ (bl (.slice Aov (vs).length Cov))) aq ot := ((Ch.refl _ _).trans a4.of_nil)
    refine ⟨bp, ?_⟩
    refine dV 15 rfl rfl rfl (fun _ => Yk (parts := [(0, .tmp 46), (1, .tmp 48), (2, .tmp 50)]) (cells := [(.int .i64 a.id), (.bool true), (.int .i64 (Zj a true)), (.int .i64 a.f)]) zr99 pl99 rfl rfl) ?_
    refine Yt 7 16 (by kernel_rfl) ?_ ?_
    ·refine Zk rfl rfl rfl ?_
     have ou := G.ch0 a4
     refine s_v (Ya ou agg93 rfl rfl) ?_
     refine ⟨bp, ?_⟩
     refine dO 16 (Zk rfl rfl rfl ?_)
     refine Zm (cs := Arc.cs) (parts := [(0, .tmp 51)]) (⟨0, false, 0, 0⟩ : Arc) [(⟨a.id, true, Zj a true, a.f⟩ : Arc)] el93 sz99 zr99 Arc.len (by decide) rfl rfl rfl (by decide) (by decide) rfl fun ag ow D Q ed => ?_
     have q9 := ed.size
     have E := E.trans ed
     obtain ⟨R, S, rfl, T, K⟩ := D.opn
     have fw : Ch ((bl (.slice m b.length n)) ++ (bl (.slice Aov (vs).length Cov))) aq ow := (bp.trans ed.of_nil)
     refine ⟨fw, ?_⟩
     refine dO 17 (Zk rfl rfl rfl ?_)
     have ox := ((A.ch0 aA).ch0 a4).ch0 ed
     have oy := ((bS.ch0 aA).ch0 a4).ch0 ed
     refine Zy (cs := Arc.cs) el93 sz99 by99 zr99 rfl (by decide) Arc.one ox D.ls rfl rfl (by simp only [List.length_append, List.length_singleton]; omega) (by simp only [List.length_append, List.length_singleton]; omega) z om fun ah jz F U y fx => ?_
     have ra := fx.size
     have E := E.step fx (fun i hi => .inl (by have x := z _ hi; omega))
     obtain ⟨c, d, rfl, V, q⟩ := F.opn
     have g5 := Od.put (v' := (⟨c, ((b ++ [(⟨a.id, true, Zj a true, a.f⟩ : Arc)])).length, d⟩ : Sv)) (hi' := jz.heap.size) oy s r fx (fun g hg => hg) F (fun g hg => by have e : g ∈ bl (.slice c ((b ++ [(⟨a.id, true, Zj a true, a.f⟩ : Arc)])).length d) := hg; rcases y with ea | ea; (left; rw [ea] at e; exact e); (right; exact ⟨by first | (have x := ea _ e; omega) | (rw [ea] at e; have x := List.mem_singleton.1 e; omega), q g e⟩)) om om
     have dz : Sep (.slice Aov (vs).length Cov) ((vs.set a.f.toNat (⟨o, ((h ++ [(⟨a.id, false, Zj a false, a.t⟩ : Arc)])).length, p⟩ : Sv)).set a.t.toNat (⟨c, ((b ++ [(⟨a.id, true, Zj a true, a.f⟩ : Arc)])).length, d⟩ : Sv)) := Sep.put (hi' := jz.heap.size) (hi := bb.heap.size) J s (fun g hg => by have e : g ∈ bl (.slice c ((b ++ [(⟨a.id, true, Zj a true, a.f⟩ : Arc)])).length d) := hg; rcases y with ea | ea; (left; rw [ea] at e; exact e); (right; exact ⟨by first | (have x := ea _ e; omega) | (rw [ea] at e; have x := List.mem_singleton.1 e; omega), q g e⟩)) (fun g hm => by have x := l _ hm; have Y := hiov _ hm; omega)
     have cJ : Ch ((bl (.slice m b.length n)) ++ (bl (.slice Aov (vs).length Cov))) aq jz := (fw.step fx (fun i hm => by exact .inr (List.mem_append_left _ hm)))
     refine ⟨cJ, ?_⟩
     refine dO 18 (Zk rfl rfl rfl ?_)
     have lO := ((g1.ch0 a4).ch0 ed).ch fx (fun g hg hm => by exact I _ hm hg)
     refine Yi (j := a.t.toNat) lO el94 sz93 rfl rfl om om fun ai aj X L => ?_
     refine ⟨cJ, ?_⟩
     refine dO 19 (Zk rfl rfl rfl ?_)
     refine Yn (j := a.t.toNat) (⟨c, ((b ++ [(⟨a.id, true, Zj a true, a.f⟩ : Arc)])).length, d⟩ : Sv) lO L Sv.len sz93 rfl rfl rfl rfl om fun lP jA g6 => ?_
     have rb := g6.size
     have E := E.step g6 (fun i hi => .inl (by have x := l _ hi; omega))
     have jB : Ch ((bl (.slice m b.length n)) ++ (bl (.slice Aov (vs).length Cov))) aq lP := (cJ.step g6 (fun i hm => by exact .inr (List.mem_append_right _ hm)))
     refine ⟨jB, ?_⟩
     refine Zw (by kernel_rfl) ?_
     refine Zq (Zb (aC _ _ (Zc (Za rfl rfl (Ye om rfl rfl) (Za rfl rfl (Zf rfl) (Ze ?_))))))
     have g7 : Ol Sv.cs 93 1 lP (.slice Aov (vs).length Cov) (((vs.set a.f.toNat (⟨o, ((h ++ [(⟨a.id, false, Zj a false, a.t⟩ : Arc)])).length, p⟩ : Sv)).set a.t.toNat (⟨c, ((b ++ [(⟨a.id, true, Zj a true, a.f⟩ : Arc)])).length, d⟩ : Sv))) := by
      have hx := jA
      exact hx
     have oz := g5.chS g6 dz
     exact Zb (Exists.intro ((k + 1), ((vs.set a.f.toNat (⟨o, ((h ++ [(⟨a.id, false, Zj a false, a.t⟩ : Arc)])).length, p⟩ : Sv)).set a.t.toNat (⟨c, ((b ++ [(⟨a.id, true, Zj a true, a.f⟩ : Arc)])).length, d⟩ : Sv)), (.slice Aov (vs).length Cov)) ⟨⟨E, om, om, (by simp only [List.length_set]; omega), g7, (Lo.down l om), ((oz.eq (Yu hg O B r)).up (Nat.le_refl _) om), dz⟩, sC4 rfl rfl rfl rfl (sC1 rfl (Sub.nil _)), (by first | omega | (dsimp only; omega))⟩)
    refine Zk rfl rfl rfl ?_
    refine Zm (cs := Arc.cs) (parts := [(0, .tmp 51)]) (⟨0, false, 0, 0⟩ : Arc) [(⟨a.id, true, Zj a true, a.f⟩ : Arc)] el93 sz99 zr99 Arc.len (by decide) rfl rfl rfl (by decide) (by decide) rfl fun ag oA D Q cK => ?_
    have rc := cK.size
    have E := E.trans cK
    obtain ⟨R, S, rfl, T, K⟩ := D.opn
    have cL : Ch ((bl (.slice m b.length n)) ++ (bl (.slice Aov (vs).length Cov))) aq oA := (bp.trans cK.of_nil)
    refine ⟨cL, ?_⟩
    refine dO 7 (Zk rfl rfl rfl ?_)
    have oB := (G.ch0 a4).ch0 cK
    refine s_v (Ya oB agg93 rfl rfl) ?_
    refine ⟨cL, ?_⟩
    refine dO 17 (Zk rfl rfl rfl ?_)
    have oC := ((A.ch0 aA).ch0 a4).ch0 cK
    have oD := ((bS.ch0 aA).ch0 a4).ch0 cK
    refine Zy (cs := Arc.cs) el93 sz99 by99 zr99 rfl (by decide) Arc.one oC D.ls rfl rfl (by simp only [List.length_append, List.length_singleton]; omega) (by simp only [List.length_append, List.length_singleton]; omega) z om fun ah jC F U y fy => ?_
    have re := fy.size
    have E := E.step fy (fun i hi => .inl (by have x := z _ hi; omega))
    obtain ⟨c, d, rfl, V, q⟩ := F.opn
    have g8 := Od.put (v' := (⟨c, ((b ++ [(⟨a.id, true, Zj a true, a.f⟩ : Arc)])).length, d⟩ : Sv)) (hi' := jC.heap.size) oD s r fy (fun g hg => hg) F (fun g hg => by have e : g ∈ bl (.slice c ((b ++ [(⟨a.id, true, Zj a true, a.f⟩ : Arc)])).length d) := hg; rcases y with ea | ea; (left; rw [ea] at e; exact e); (right; exact ⟨by first | (have x := ea _ e; omega) | (rw [ea] at e; have x := List.mem_singleton.1 e; omega), q g e⟩)) om om
    have dA : Sep (.slice Aov (vs).length Cov) ((vs.set a.f.toNat (⟨o, ((h ++ [(⟨a.id, false, Zj a false, a.t⟩ : Arc)])).length, p⟩ : Sv)).set a.t.toNat (⟨c, ((b ++ [(⟨a.id, true, Zj a true, a.f⟩ : Arc)])).length, d⟩ : Sv)) := Sep.put (hi' := jC.heap.size) (hi := bb.heap.size) J s (fun g hg => by have e : g ∈ bl (.slice c ((b ++ [(⟨a.id, true, Zj a true, a.f⟩ : Arc)])).length d) := hg; rcases y with ea | ea; (left; rw [ea] at e; exact e); (right; exact ⟨by first | (have x := ea _ e; omega) | (rw [ea] at e; have x := List.mem_singleton.1 e; omega), q g e⟩)) (fun g hm => by have x := l _ hm; have Y := hiov _ hm; omega)
    have cM : Ch ((bl (.slice m b.length n)) ++ (bl (.slice Aov (vs).length Cov))) aq jC := (cL.step fy (fun i hm => by exact .inr (List.mem_append_left _ hm)))
    refine ⟨cM, ?_⟩
    refine dO 18 (Zk rfl rfl rfl ?_)
    have lQ := ((g1.ch0 a4).ch0 cK).ch fy (fun g hg hm => by exact I _ hm hg)
    refine Yi (j := a.t.toNat) lQ el94 sz93 rfl rfl om om fun ai aj X L => ?_
    refine ⟨cM, ?_⟩
    refine dO 19 (Zk rfl rfl rfl ?_)
    refine Yn (j := a.t.toNat) (⟨c, ((b ++ [(⟨a.id, true, Zj a true, a.f⟩ : Arc)])).length, d⟩ : Sv) lQ L Sv.len sz93 rfl rfl rfl rfl om fun lR jD g9 => ?_
    have rf := g9.size
    have E := E.step g9 (fun i hi => .inl (by have x := l _ hi; omega))
    have jE : Ch ((bl (.slice m b.length n)) ++ (bl (.slice Aov (vs).length Cov))) aq lR := (cM.step g9 (fun i hm => by exact .inr (List.mem_append_right _ hm)))
    refine ⟨jE, ?_⟩
    refine Zw (by kernel_rfl) ?_
    refine Zq (Zb (aC _ _ (Zc (Za rfl rfl (Ye om rfl rfl) (Za rfl rfl (Zf rfl) (Ze ?_))))))
    have ha : Ol Sv.cs 93 1 lR (.slice Aov (vs).length Cov) (((vs.set a.f.toNat (⟨o, ((h ++ [(⟨a.id, false, Zj a false, a.t⟩ : Arc)])).length, p⟩ : Sv)).set a.t.toNat (⟨c, ((b ++ [(⟨a.id, true, Zj a true, a.f⟩ : Arc)])).length, d⟩ : Sv))) := by
     have hx := jD
     exact hx
    have oE := g8.chS g9 dA
    exact Zb (Exists.intro ((k + 1), ((vs.set a.f.toNat (⟨o, ((h ++ [(⟨a.id, false, Zj a false, a.t⟩ : Arc)])).length, p⟩ : Sv)).set a.t.toNat (⟨c, ((b ++ [(⟨a.id, true, Zj a true, a.f⟩ : Arc)])).length, d⟩ : Sv)), (.slice Aov (vs).length Cov)) ⟨⟨E, om, om, (by simp only [List.length_set]; omega), ha, (Lo.down l om), ((oE.eq (Yu hg O B r)).up (Nat.le_refl _) om), dA⟩, sC4 rfl rfl rfl rfl (sC1 rfl (Sub.nil _)), (by first | omega | (dsimp only; omega))⟩)
   refine Zk rfl rfl rfl ?_
   refine Step.call (Zr (xs := [.tmp 47, .const (Go.Value.bool true)]) fk104 rfl) (Yy a _ om) fun aH jF af => ?_
   obtain ⟨rfl, a5⟩ := af
   have rg := a5.size
   have E := E.trans a5
   have aR : Ch ((bl (.slice m b.length n)) ++ (bl (.slice Aov (vs).length Cov))) aq jF := ((Ch.refl _ _).trans a5.of_nil)
   refine ⟨aR, ?_⟩
   refine dV 15 rfl rfl rfl (fun _ => Yk (parts := [(0, .tmp 46), (1, .tmp 48), (2, .tmp 50)]) (cells := [(.int .i64 a.id), (.bool true), (.int .i64 (Zj a true)), (.int .i64 a.f)]) zr99 pl99 rfl rfl) ?_
   refine Yt 6 16 (by kernel_rfl) ?_ ?_
   ·refine Zk rfl rfl rfl ?_
    have jG := (cH.ch0 aA).ch0 a5
    refine (Yc (j := a.t.toNat) jG.ls Sv.len el94 sz93 rfl rfl om om fun ae aG P G => ?_)
    obtain rfl := Zv H P
    replace G : At jF 0 jF.heap.size ae ([(.slice m b.length n)]) := G
    refine ⟨aR, ?_⟩
    refine Yt 7 16 (by kernel_rfl) ?_ ?_
    ·refine Zk rfl rfl rfl ?_
     refine s_v (Ya G agg93 rfl rfl) ?_
     refine ⟨aR, ?_⟩
     refine dO 16 (Zk rfl rfl rfl ?_)
     refine Zm (cs := Arc.cs) (parts := [(0, .tmp 51)]) (⟨0, false, 0, 0⟩ : Arc) [(⟨a.id, true, Zj a true, a.f⟩ : Arc)] el93 sz99 zr99 Arc.len (by decide) rfl rfl rfl (by decide) (by decide) rfl fun ag oF D Q ee => ?_
     have rh := ee.size
     have E := E.trans ee
     obtain ⟨R, S, rfl, T, K⟩ := D.opn
     have fz : Ch ((bl (.slice m b.length n)) ++ (bl (.slice Aov (vs).length Cov))) aq oF := (aR.trans ee.of_nil)
     refine ⟨fz, ?_⟩
     refine dO 17 (Zk rfl rfl rfl ?_)
     have oG := ((A.ch0 aA).ch0 a5).ch0 ee
     have oH := ((bS.ch0 aA).ch0 a5).ch0 ee
     refine Zy (cs := Arc.cs) el93 sz99 by99 zr99 rfl (by decide) Arc.one oG D.ls rfl rfl (by simp only [List.length_append, List.length_singleton]; omega) (by simp only [List.length_append, List.length_singleton]; omega) z om fun ah jH F U y fA => ?_
     have ri := fA.size
     have E := E.step fA (fun i hi => .inl (by have x := z _ hi; omega))
     obtain ⟨c, d, rfl, V, q⟩ := F.opn
     have hb := Od.put (v' := (⟨c, ((b ++ [(⟨a.id, true, Zj a true, a.f⟩ : Arc)])).length, d⟩ : Sv)) (hi' := jH.heap.size) oH s r fA (fun g hg => hg) F (fun g hg => by have e : g ∈ bl (.slice c ((b ++ [(⟨a.id, true, Zj a true, a.f⟩ : Arc)])).length d) := hg; rcases y with ea | ea; (left; rw [ea] at e; exact e); (right; exact ⟨by first | (have x := ea _ e; omega) | (rw [ea] at e; have x := List.mem_singleton.1 e; omega), q g e⟩)) om om
     have dB : Sep (.slice Aov (vs).length Cov) ((vs.set a.f.toNat (⟨o, ((h ++ [(⟨a.id, false, Zj a false, a.t⟩ : Arc)])).length, p⟩ : Sv)).set a.t.toNat (⟨c, ((b ++ [(⟨a.id, true, Zj a true, a.f⟩ : Arc)])).length, d⟩ : Sv)) := Sep.put (hi' := jH.heap.size) (hi := bb.heap.size) J s (fun g hg => by have e : g ∈ bl (.slice c ((b ++ [(⟨a.id, true, Zj a true, a.f⟩ : Arc)])).length d) := hg; rcases y with ea | ea; (left; rw [ea] at e; exact e); (right; exact ⟨by first | (have x := ea _ e; omega) | (rw [ea] at e; have x := List.mem_singleton.1 e; omega), q g e⟩)) (fun g hm => by have x := l _ hm; have Y := hiov _ hm; omega)
     have cN : Ch ((bl (.slice m b.length n)) ++ (bl (.slice Aov (vs).length Cov))) aq jH := (fz.step fA (fun i hm => by exact .inr (List.mem_append_left _ hm)))
     refine ⟨cN, ?_⟩
     refine dO 18 (Zk rfl rfl rfl ?_)
     have lT := (jG.ch0 ee).ch fA (fun g hg hm => by exact I _ hm hg)
     refine Yi (j := a.t.toNat) lT el94 sz93 rfl rfl om om fun ai aj X L => ?_
     refine ⟨cN, ?_⟩
     refine dO 19 (Zk rfl rfl rfl ?_)
     refine Yn (j := a.t.toNat) (⟨c, ((b ++ [(⟨a.id, true, Zj a true, a.f⟩ : Arc)])).length, d⟩ : Sv) lT L Sv.len sz93 rfl rfl rfl rfl om fun lU jI hc => ?_
     have rj := hc.size
     have E := E.step hc (fun i hi => .inl (by have x := l _ hi; omega))
     have jJ : Ch ((bl (.slice m b.length n)) ++ (bl (.slice Aov (vs).length Cov))) aq lU := (cN.step hc (fun i hm => by exact .inr (List.mem_append_right _ hm)))
     refine ⟨jJ, ?_⟩
     refine Zw (by kernel_rfl) ?_
     refine Zq (Zb (aC _ _ (Zc (Za rfl rfl (Ye om rfl rfl) (Za rfl rfl (Zf rfl) (Ze ?_))))))
     have hd : Ol Sv.cs 93 1 lU (.slice Aov (vs).length Cov) (((vs.set a.f.toNat (⟨o, ((h ++ [(⟨a.id, false, Zj a false, a.t⟩ : Arc)])).length, p⟩ : Sv)).set a.t.toNat (⟨c, ((b ++ [(⟨a.id, true, Zj a true, a.f⟩ : Arc)])).length, d⟩ : Sv))) := by
      have hx := jI
      exact hx
     have oI := hb.chS hc dB
     exact Zb (Exists.intro ((k + 1), ((vs.set a.f.toNat (⟨o, ((h ++ [(⟨a.id, false, Zj a false, a.t⟩ : Arc)])).length, p⟩ : Sv)).set a.t.toNat (⟨c, ((b ++ [(⟨a.id, true, Zj a true, a.f⟩ : Arc)])).length, d⟩ : Sv)), (.slice Aov (vs).length Cov)) ⟨⟨E, om, om, (by simp only [List.length_set]; omega), hd, (Lo.down l om), ((oI.eq (Yu hg O B r)).up (Nat.le_refl _) om), dB⟩, sC4 rfl rfl rfl rfl (sC1 rfl (Sub.nil _)), (by first | omega | (dsimp only; omega))⟩)
    refine Zk rfl rfl rfl ?_
    refine Zm (cs := Arc.cs) (parts := [(0, .tmp 51)]) (⟨0, false, 0, 0⟩ : Arc) [(⟨a.id, true, Zj a true, a.f⟩ : Arc)] el93 sz99 zr99 Arc.len (by decide) rfl rfl rfl (by decide) (by decide) rfl fun ag oJ D Q cO => ?_
    have rk := cO.size
    have E := E.trans cO
    obtain ⟨R, S, rfl, T, K⟩ := D.opn
    have cP : Ch ((bl (.slice m b.length n)) ++ (bl (.slice Aov (vs).length Cov))) aq oJ := (aR.trans cO.of_nil)
    refine ⟨cP, ?_⟩
    refine dO 7 (Zk rfl rfl rfl ?_)
    have oK := G.ch0 cO
    refine s_v (Ya oK agg93 rfl rfl) ?_
    refine ⟨cP, ?_⟩
    refine dO 17 (Zk rfl rfl rfl ?_)
    have oL := ((A.ch0 aA).ch0 a5).ch0 cO
    have oM := ((bS.ch0 aA).ch0 a5).ch0 cO
    refine Zy (cs := Arc.cs) el93 sz99 by99 zr99 rfl (by decide) Arc.one oL D.ls rfl rfl (by simp only [List.length_append, List.length_singleton]; omega) (by simp only [List.length_append, List.length_singleton]; omega) z om fun ah jK F U y fB => ?_
    have rl := fB.size
    have E := E.step fB (fun i hi => .inl (by have x := z _ hi; omega))
    obtain ⟨c, d, rfl, V, q⟩ := F.opn
    have he := Od.put (v' := (⟨c, ((b ++ [(⟨a.id, true, Zj a true, a.f⟩ : Arc)])).length, d⟩ : Sv)) (hi' := jK.heap.size) oM s r fB (fun g hg => hg) F (fun g hg => by have e : g ∈ bl (.slice c ((b ++ [(⟨a.id, true, Zj a true, a.f⟩ : Arc)])).length d) := hg; rcases y with ea | ea; (left; rw [ea] at e; exact e); (right; exact ⟨by first | (have x := ea _ e; omega) | (rw [ea] at e; have x := List.mem_singleton.1 e; omega), q g e⟩)) om om
    have dC : Sep (.slice Aov (vs).length Cov) ((vs.set a.f.toNat (⟨o, ((h ++ [(⟨a.id, false, Zj a false, a.t⟩ : Arc)])).length, p⟩ : Sv)).set a.t.toNat (⟨c, ((b ++ [(⟨a.id, true, Zj a true, a.f⟩ : Arc)])).length, d⟩ : Sv)) := Sep.put (hi' := jK.heap.size) (hi := bb.heap.size) J s (fun g hg => by have e : g ∈ bl (.slice c ((b ++ [(⟨a.id, true, Zj a true, a.f⟩ : Arc)])).length d) := hg; rcases y with ea | ea; (left; rw [ea] at e; exact e); (right; exact ⟨by first | (have x := ea _ e; omega) | (rw [ea] at e; have x := List.mem_singleton.1 e; omega), q g e⟩)) (fun g hm => by have x := l _ hm; have Y := hiov _ hm; omega)
    have cQ : Ch ((bl (.slice m b.length n)) ++ (bl (.slice Aov (vs).length Cov))) aq jK := (cP.step fB (fun i hm => by exact .inr (List.mem_append_left _ hm)))
    refine ⟨cQ, ?_⟩
    refine dO 18 (Zk rfl rfl rfl ?_)
    have lV := (jG.ch0 cO).ch fB (fun g hg hm => by exact I _ hm hg)
    refine Yi (j := a.t.toNat) lV el94 sz93 rfl rfl om om fun ai aj X L => ?_
    refine ⟨cQ, ?_⟩
    refine dO 19 (Zk rfl rfl rfl ?_)
    refine Yn (j := a.t.toNat) (⟨c, ((b ++ [(⟨a.id, true, Zj a true, a.f⟩ : Arc)])).length, d⟩ : Sv) lV L Sv.len sz93 rfl rfl rfl rfl om fun lW jL hf => ?_
    have rm := hf.size
    have E := E.step hf (fun i hi => .inl (by have x := l _ hi; omega))
    have jM : Ch ((bl (.slice m b.length n)) ++ (bl (.slice Aov (vs).length Cov))) aq lW := (cQ.step hf (fun i hm => by exact .inr (List.mem_append_right _ hm)))
    refine ⟨jM, ?_⟩
    refine Zw (by kernel_rfl) ?_
    refine Zq (Zb (aC _ _ (Zc (Za rfl rfl (Ye om rfl rfl) (Za rfl rfl (Zf rfl) (Ze ?_))))))
    have hh : Ol Sv.cs 93 1 lW (.slice Aov (vs).length Cov) (((vs.set a.f.toNat (⟨o, ((h ++ [(⟨a.id, false, Zj a false, a.t⟩ : Arc)])).length, p⟩ : Sv)).set a.t.toNat (⟨c, ((b ++ [(⟨a.id, true, Zj a true, a.f⟩ : Arc)])).length, d⟩ : Sv))) := by
     have hx := jL
     exact hx
    have oN := he.chS hf dC
    exact Zb (Exists.intro ((k + 1), ((vs.set a.f.toNat (⟨o, ((h ++ [(⟨a.id, false, Zj a false, a.t⟩ : Arc)])).length, p⟩ : Sv)).set a.t.toNat (⟨c, ((b ++ [(⟨a.id, true, Zj a true, a.f⟩ : Arc)])).length, d⟩ : Sv)), (.slice Aov (vs).length Cov)) ⟨⟨E, om, om, (by simp only [List.length_set]; omega), hh, (Lo.down l om), ((oN.eq (Yu hg O B r)).up (Nat.le_refl _) om), dC⟩, sC4 rfl rfl rfl rfl (sC1 rfl (Sub.nil _)), (by first | omega | (dsimp only; omega))⟩)
   refine Zk rfl rfl rfl ?_
   refine Zm (cs := Arc.cs) (parts := [(0, .tmp 51)]) (⟨0, false, 0, 0⟩ : Arc) [(⟨a.id, true, Zj a true, a.f⟩ : Arc)] el93 sz99 zr99 Arc.len (by decide) rfl rfl rfl (by decide) (by decide) rfl fun ag jN D Q ef => ?_
   have rn := ef.size
   have E := E.trans ef
   obtain ⟨R, S, rfl, T, K⟩ := D.opn
   have bq : Ch ((bl (.slice m b.length n)) ++ (bl (.slice Aov (vs).length Cov))) aq jN := (aR.trans ef.of_nil)
   refine ⟨bq, ?_⟩
   refine dO 6 (Zk rfl rfl rfl ?_)
   have lX := ((cH.ch0 aA).ch0 a5).ch0 ef
   refine (Yc (j := a.t.toNat) lX.ls Sv.len el94 sz93 rfl rfl om om fun ae aG P G => ?_)
   obtain rfl := Zv H P
   replace G : At jN 0 jN.heap.size ae ([(.slice m b.length n)]) := G
   refine ⟨bq, ?_⟩
   refine dO 7 (Zk rfl rfl rfl ?_)
   refine s_v (Ya G agg93 rfl rfl) ?_
   refine ⟨bq, ?_⟩
   refine dO 17 (Zk rfl rfl rfl ?_)
   have oO := ((A.ch0 aA).ch0 a5).ch0 ef
   have oP := ((bS.ch0 aA).ch0 a5).ch0 ef
   refine Zy (cs := Arc.cs) el93 sz99 by99 zr99 rfl (by decide) Arc.one oO D.ls rfl rfl (by simp only [List.length_append, List.length_singleton]; omega) (by simp only [List.length_append, List.length_singleton]; omega) z om fun ah jO F U y fC => ?_
   have ro := fC.size
   have E := E.step fC (fun i hi => .inl (by have x := z _ hi; omega))
   obtain ⟨c, d, rfl, V, q⟩ := F.opn
   have hj := Od.put (v' := (⟨c, ((b ++ [(⟨a.id, true, Zj a true, a.f⟩ : Arc)])).length, d⟩ : Sv)) (hi' := jO.heap.size) oP s r fC (fun g hg => hg) F (fun g hg => by have e : g ∈ bl (.slice c ((b ++ [(⟨a.id, true, Zj a true, a.f⟩ : Arc)])).length d) := hg; rcases y with ea | ea; (left; rw [ea] at e; exact e); (right; exact ⟨by first | (have x := ea _ e; omega) | (rw [ea] at e; have x := List.mem_singleton.1 e; omega), q g e⟩)) om om
   have dD : Sep (.slice Aov (vs).length Cov) ((vs.set a.f.toNat (⟨o, ((h ++ [(⟨a.id, false, Zj a false, a.t⟩ : Arc)])).length, p⟩ : Sv)).set a.t.toNat (⟨c, ((b ++ [(⟨a.id, true, Zj a true, a.f⟩ : Arc)])).length, d⟩ : Sv)) := Sep.put (hi' := jO.heap.size) (hi := bb.heap.size) J s (fun g hg => by have e : g ∈ bl (.slice c ((b ++ [(⟨a.id, true, Zj a true, a.f⟩ : Arc)])).length d) := hg; rcases y with ea | ea; (left; rw [ea] at e; exact e); (right; exact ⟨by first | (have x := ea _ e; omega) | (rw [ea] at e; have x := List.mem_singleton.1 e; omega), q g e⟩)) (fun g hm => by have x := l _ hm; have Y := hiov _ hm; omega)
   have cR : Ch ((bl (.slice m b.length n)) ++ (bl (.slice Aov (vs).length Cov))) aq jO := (bq.step fC (fun i hm => by exact .inr (List.mem_append_left _ hm)))
   refine ⟨cR, ?_⟩
   refine dO 18 (Zk rfl rfl rfl ?_)
   have lY := lX.ch fC (fun g hg hm => by exact I _ hm hg)
   refine Yi (j := a.t.toNat) lY el94 sz93 rfl rfl om om fun ai aj X L => ?_
   refine ⟨cR, ?_⟩
   refine dO 19 (Zk rfl rfl rfl ?_)
   refine Yn (j := a.t.toNat) (⟨c, ((b ++ [(⟨a.id, true, Zj a true, a.f⟩ : Arc)])).length, d⟩ : Sv) lY L Sv.len sz93 rfl rfl rfl rfl om fun lZ jP hk => ?_
   have rp := hk.size
   have E := E.step hk (fun i hi => .inl (by have x := l _ hi; omega))
   have jQ : Ch ((bl (.slice m b.length n)) ++ (bl (.slice Aov (vs).length Cov))) aq lZ := (cR.step hk (fun i hm => by exact .inr (List.mem_append_right _ hm)))
   refine ⟨jQ, ?_⟩
   refine Zw (by kernel_rfl) ?_
   refine Zq (Zb (aC _ _ (Zc (Za rfl rfl (Ye om rfl rfl) (Za rfl rfl (Zf rfl) (Ze ?_))))))
   have hl : Ol Sv.cs 93 1 lZ (.slice Aov (vs).length Cov) (((vs.set a.f.toNat (⟨o, ((h ++ [(⟨a.id, false, Zj a false, a.t⟩ : Arc)])).length, p⟩ : Sv)).set a.t.toNat (⟨c, ((b ++ [(⟨a.id, true, Zj a true, a.f⟩ : Arc)])).length, d⟩ : Sv))) := by
    have hx := jP
    exact hx
   have oQ := hj.chS hk dD
   exact Zb (Exists.intro ((k + 1), ((vs.set a.f.toNat (⟨o, ((h ++ [(⟨a.id, false, Zj a false, a.t⟩ : Arc)])).length, p⟩ : Sv)).set a.t.toNat (⟨c, ((b ++ [(⟨a.id, true, Zj a true, a.f⟩ : Arc)])).length, d⟩ : Sv)), (.slice Aov (vs).length Cov)) ⟨⟨E, om, om, (by simp only [List.length_set]; omega), hl, (Lo.down l om), ((oQ.eq (Yu hg O B r)).up (Nat.le_refl _) om), dD⟩, sC4 rfl rfl rfl rfl (sC1 rfl (Sub.nil _)), (by first | omega | (dsimp only; omega))⟩)
  refine Zk rfl rfl rfl ?_
  refine Zm (cs := Arc.cs) (parts := [(0, .tmp 32)]) (⟨0, false, 0, 0⟩ : Arc) [(⟨a.id, false, Zj a false, a.t⟩ : Arc)] el93 sz99 zr99 Arc.len (by decide) rfl rfl rfl (by decide) (by decide) rfl fun ew jR aD bB cS => ?_
  have rq := cS.size
  have E := E.trans cS
  obtain ⟨bC, bD, rfl, bF, aV⟩ := aD.opn
  have br : Ch ((bl (.slice aa h.length ab)) ++ (bl (.slice Aov (vs).length Cov))) aU jR := (aP.trans cS.of_nil)
  refine ⟨br, ?_⟩
  refine dO 6 (Zk rfl rfl rfl ?_)
  have l0 := ((mu.ch0 bv).ch0 aJ).ch0 cS
  refine (Yc (j := a.f.toNat) l0.ls Sv.len el94 sz93 rfl rfl om om fun et kw bA aI => ?_)
  obtain rfl := Zv aK bA
  replace aI : At jR 0 jR.heap.size et ([(.slice aa h.length ab)]) := aI
  refine ⟨br, ?_⟩
  refine dO 7 (Zk rfl rfl rfl ?_)
  refine s_v (Ya aI agg93 rfl rfl) ?_
  refine ⟨br, ?_⟩
  refine dO 17 (Zk rfl rfl rfl ?_)
  have oR := ((aw.ch0 bv).ch0 aJ).ch0 cS
  have l1 := ((hN.ch0 bv).ch0 aJ).ch0 cS
  refine Zy (cs := Arc.cs) el93 sz99 by99 zr99 rfl (by decide) Arc.one oR aD.ls rfl rfl (by simp only [List.length_append, List.length_singleton]; omega) (by simp only [List.length_append, List.length_singleton]; omega) M om fun ex bc aE bG ac eg => ?_
  have rr := eg.size
  have E := E.step eg (fun i hi => .inl (by have x := M _ hi; omega))
  obtain ⟨o, p, rfl, bH, Z⟩ := aE.opn
  have hn := Od.put (v' := (⟨o, ((h ++ [(⟨a.id, false, Zj a false, a.t⟩ : Arc)])).length, p⟩ : Sv)) (hi' := bc.heap.size) l1 ak B eg (fun g hg => hg) aE (fun g hg => by have e : g ∈ bl (.slice o ((h ++ [(⟨a.id, false, Zj a false, a.t⟩ : Arc)])).length p) := hg; rcases ac with ea | ea; (left; rw [ea] at e; exact e); (right; exact ⟨by first | (have x := ea _ e; omega) | (rw [ea] at e; have x := List.mem_singleton.1 e; omega), Z g e⟩)) om om
  have dE : Sep (.slice Aov (vs).length Cov) (vs.set a.f.toNat (⟨o, ((h ++ [(⟨a.id, false, Zj a false, a.t⟩ : Arc)])).length, p⟩ : Sv)) := Sep.put (hi' := bc.heap.size) (hi := R9.heap.size) aT ak (fun g hg => by have e : g ∈ bl (.slice o ((h ++ [(⟨a.id, false, Zj a false, a.t⟩ : Arc)])).length p) := hg; rcases ac with ea | ea; (left; rw [ea] at e; exact e); (right; exact ⟨by first | (have x := ea _ e; omega) | (rw [ea] at e; have x := List.mem_singleton.1 e; omega), Z g e⟩)) (fun g hm => by have x := l _ hm; have Y := hiov _ hm; omega)
  have jS : ∀ u ∈ (vs.set a.f.toNat (⟨o, ((h ++ [(⟨a.id, false, Zj a false, a.t⟩ : Arc)])).length, p⟩ : Sv)), av ∉ bl u.v := Zhs (fun u hu hm => by have e := Od.rng l1 hu hm; omega) (fun hm => by have hm : av ∈ bl (.slice o ((h ++ [(⟨a.id, false, Zj a false, a.t⟩ : Arc)])).length p) := hm; rcases ac with ea | ea; (rw [ea] at hm; have x := M _ hm; have Y := al _ hm; omega); (have ez := Z _ hm; rw [ea] at hm; have kh := List.mem_singleton.1 hm; omega))
  have cT : Ch ((bl (.slice aa h.length ab)) ++ (bl (.slice Aov (vs).length Cov))) aU bc := (br.step eg (fun i hm => by exact .inr (List.mem_append_left _ hm)))
  refine ⟨cT, ?_⟩
  refine dO 18 (Zk rfl rfl rfl ?_)
  have l2 := l0.ch eg (fun g hg hm => by exact aL _ hm hg)
  refine Yi (j := a.f.toNat) l2 el94 sz93 rfl rfl om om fun eB eC bI aW => ?_
  refine ⟨cT, ?_⟩
  refine dO 19 (Zk rfl rfl rfl ?_)
  refine Yn (j := a.f.toNat) (⟨o, ((h ++ [(⟨a.id, false, Zj a false, a.t⟩ : Arc)])).length, p⟩ : Sv) l2 aW Sv.len sz93 rfl rfl rfl rfl om fun l3 cU fD => ?_
  have rs := fD.size
  have E := E.step fD (fun i hi => .inl (by have x := l _ hi; omega))
  have jT : Ch ((bl (.slice aa h.length ab)) ++ (bl (.slice Aov (vs).length Cov))) aU l3 := (cT.step fD (fun i hm => by exact .inr (List.mem_append_right _ hm)))
  refine ⟨jT, ?_⟩
  refine Zw (by kernel_rfl) ?_
  refine Zb (ki _ _ ?_)
  have bT := hn.chS fD dE
  have am := (bT).1
  rw [@List.length_set _ (Qv gV (gE.take k)), Qa] at am
  obtain ⟨aF, H⟩ := Zaj (xs := (vs.set a.f.toNat (⟨o, ((h ++ [(⟨a.id, false, Zj a false, a.t⟩ : Arc)])).length, p⟩ : Sv))) (j := a.t.toNat) om
  have J : Sep (.slice Aov (vs).length Cov) (vs.set a.f.toNat (⟨o, ((h ++ [(⟨a.id, false, Zj a false, a.t⟩ : Arc)])).length, p⟩ : Sv)) := dE
  have I := J _ (Xa H)
  obtain ⟨b, r, A, ad⟩ := bT.ownget H
  have s := H
  obtain ⟨m, bJ, n⟩ := aF
  obtain rfl := A.ls.eqn
  have bK := A.len
  have z : Lo W4.heap.size (.slice m b.length n) := fun g hg => (ad g hg).1
  have bL : ∀ g ∈ bl (.slice m b.length n), g < bc.heap.size := fun g hg => (ad g hg).2
  have C := jS _ (Xa s)
  replace A : Ol Arc.cs 99 4 l3 (.slice m b.length n) b := A
  have bM := Zav hg bd r
  refine Xl ((bl (.slice m b.length n)) ++ (bl (.slice Aov (vs).length Cov))) 20 mixed rfl fun au aB => ?_
  have rt := aB.size
  have E := E.trans aB
  refine dV 0 rfl rfl rfl (fun _ => Zf rfl) (dV 1 rfl rfl rfl (fun _ => Zh fa129_2 rfl) ?_)
  have fE := ((((es.ch0 aJ).ch0 cS).ch eg (fun hm => by have x := M _ hm; have Y := al _ hm; omega)).ch fD (fun hm => by have x := l _ hm; have Y := hiov _ hm; omega)).ch0 aB
  refine dT 2 rfl rfl rfl (Yo fE.at_ (fun i hm => by rcases List.mem_append.1 hm with hm | hm; (rcases Nat.lt_trichotomy i av with e | e | e; (exact .inl e); (exact absurd (e ▸ hm) C); (exact .inr e)); (have x := l _ hm; have Y := hiov _ hm; omega)) agg3 rfl rfl ?_)
  refine dV 3 rfl rfl rfl (fun _ => Zf rfl) (dV 4 rfl rfl rfl (fun _ => Zh fa129_2 rfl) ?_)
  refine dT 5 rfl rfl rfl (Yo fE.at_ (fun i hm => by rcases List.mem_append.1 hm with hm | hm; (rcases Nat.lt_trichotomy i av with e | e | e; (exact .inl e); (exact absurd (e ▸ hm) C); (exact .inr e)); (have x := l _ hm; have Y := hiov _ hm; omega)) agg3 rfl rfl ?_)
  refine dV 8 rfl rfl rfl (fun _ => Zh fa129_0 rfl) ?_
  refine dT 9 rfl rfl rfl (Yo fE.at_ (fun i hm => by rcases List.mem_append.1 hm with hm | hm; (rcases Nat.lt_trichotomy i av with e | e | e; (exact .inl e); (exact absurd (e ▸ hm) C); (exact .inr e)); (have x := l _ hm; have Y := hiov _ hm; omega)) agg3 rfl rfl ?_)
  refine dV 10 rfl rfl rfl (fun _ => Yk (parts := [(0, .tmp 45), (1, .const (Go.Value.bool true))]) (cells := [(.int .i64 a.id), (.bool true)]) zr97 pl97 rfl rfl) ?_
  refine dT 11 rfl rfl rfl (Yr fE.at_ (fun i hm => by rcases List.mem_append.1 hm with hm | hm; (rcases Nat.lt_trichotomy i av with e | e | e; (exact .inl e); (exact absurd (e ▸ hm) C); (exact .inr e)); (have x := l _ hm; have Y := hiov _ hm; omega)) agg129 sz129 rfl ?_)
  refine dV 13 rfl rfl rfl (fun _ => Zh fa129_1 rfl) ?_
  refine dT 14 rfl rfl rfl (Yo fE.at_ (fun i hm => by rcases List.mem_append.1 hm with hm | hm; (rcases Nat.lt_trichotomy i av with e | e | e; (exact .inl e); (exact absurd (e ▸ hm) C); (exact .inr e)); (have x := l _ hm; have Y := hiov _ hm; omega)) agg3 rfl rfl ?_)
  refine Yt 6 12 (by kernel_rfl) ?_ ?_
  ·refine Zk rfl rfl rfl ?_
   have ho := cU.ch0 aB
   refine (Yc (j := a.t.toNat) ho.ls Sv.len el94 sz93 rfl rfl om om fun ae aG P G => ?_)
   obtain rfl := Zv H P
   replace G : At au 0 au.heap.size ae ([(.slice m b.length n)]) := G
   refine ⟨(Ch.refl _ _), ?_⟩
   refine Yt 7 12 (by kernel_rfl) ?_ ?_
   ·refine Zk rfl rfl rfl ?_
    refine s_v (Ya G agg93 rfl rfl) ?_
    refine ⟨(Ch.refl _ _), ?_⟩
    refine dO 12 (Zk rfl rfl rfl ?_)
    refine Step.call (Zr (xs := [.tmp 47, .const (Go.Value.bool true)]) fk104 rfl) (Yy a _ om) fun aH oT af => ?_
    obtain ⟨rfl, eh⟩ := af
    have ru := eh.size
    have E := E.trans eh
    have fF : Ch ((bl (.slice m b.length n)) ++ (bl (.slice Aov (vs).length Cov))) au oT := ((Ch.refl _ _).trans eh.of_nil)
    refine ⟨fF, ?_⟩
    refine dV 15 rfl rfl rfl (fun _ => Yk (parts := [(0, .tmp 46), (1, .tmp 48), (2, .tmp 50)]) (cells := [(.int .i64 a.id), (.bool true), (.int .i64 (Zj a true)), (.int .i64 a.f)]) zr99 pl99 rfl rfl) (dO 16 (Zk rfl rfl rfl ?_))
    refine Zm (cs := Arc.cs) (parts := [(0, .tmp 51)]) (⟨0, false, 0, 0⟩ : Arc) [(⟨a.id, true, Zj a true, a.f⟩ : Arc)] el93 sz99 zr99 Arc.len (by decide) rfl rfl rfl (by decide) (by decide) rfl fun ag oU D Q ei => ?_
    have rv := ei.size
    have E := E.trans ei
    obtain ⟨R, S, rfl, T, K⟩ := D.opn
    have fG : Ch ((bl (.slice m b.length n)) ++ (bl (.slice Aov (vs).length Cov))) au oU := (fF.trans ei.of_nil)
    refine ⟨fG, ?_⟩
    refine dO 17 (Zk rfl rfl rfl ?_)
    have oV := ((A.ch0 aB).ch0 eh).ch0 ei
    have oW := ((bT.ch0 aB).ch0 eh).ch0 ei
    refine Zy (cs := Arc.cs) el93 sz99 by99 zr99 rfl (by decide) Arc.one oV D.ls rfl rfl (by simp only [List.length_append, List.length_singleton]; omega) (by simp only [List.length_append, List.length_singleton]; omega) z om fun ah jU F U y fH => ?_
    have rx := fH.size
    have E := E.step fH (fun i hi => .inl (by have x := z _ hi; omega))
    obtain ⟨c, d, rfl, V, q⟩ := F.opn
    have hp := Od.put (v' := (⟨c, ((b ++ [(⟨a.id, true, Zj a true, a.f⟩ : Arc)])).length, d⟩ : Sv)) (hi' := jU.heap.size) oW s r fH (fun g hg => hg) F (fun g hg => by have e : g ∈ bl (.slice c ((b ++ [(⟨a.id, true, Zj a true, a.f⟩ : Arc)])).length d) := hg; rcases y with ea | ea; (left; rw [ea] at e; exact e); (right; exact ⟨by first | (have x := ea _ e; omega) | (rw [ea] at e; have x := List.mem_singleton.1 e; omega), q g e⟩)) om om
    have dF : Sep (.slice Aov (vs).length Cov) ((vs.set a.f.toNat (⟨o, ((h ++ [(⟨a.id, false, Zj a false, a.t⟩ : Arc)])).length, p⟩ : Sv)).set a.t.toNat (⟨c, ((b ++ [(⟨a.id, true, Zj a true, a.f⟩ : Arc)])).length, d⟩ : Sv)) := Sep.put (hi' := jU.heap.size) (hi := bc.heap.size) J s (fun g hg => by have e : g ∈ bl (.slice c ((b ++ [(⟨a.id, true, Zj a true, a.f⟩ : Arc)])).length d) := hg; rcases y with ea | ea; (left; rw [ea] at e; exact e); (right; exact ⟨by first | (have x := ea _ e; omega) | (rw [ea] at e; have x := List.mem_singleton.1 e; omega), q g e⟩)) (fun g hm => by have x := l _ hm; have Y := hiov _ hm; omega)
    have cV : Ch ((bl (.slice m b.length n)) ++ (bl (.slice Aov (vs).length Cov))) au jU := (fG.step fH (fun i hm => by exact .inr (List.mem_append_left _ hm)))
    refine ⟨cV, ?_⟩
    refine dO 18 (Zk rfl rfl rfl ?_)
    have l4 := ((ho.ch0 eh).ch0 ei).ch fH (fun g hg hm => by exact I _ hm hg)
    refine Yi (j := a.t.toNat) l4 el94 sz93 rfl rfl om om fun ai aj X L => ?_
    refine ⟨cV, ?_⟩
    refine dO 19 (Zk rfl rfl rfl ?_)
    refine Yn (j := a.t.toNat) (⟨c, ((b ++ [(⟨a.id, true, Zj a true, a.f⟩ : Arc)])).length, d⟩ : Sv) l4 L Sv.len sz93 rfl rfl rfl rfl om fun l5 jV hq => ?_
    have ry := hq.size
    have E := E.step hq (fun i hi => .inl (by have x := l _ hi; omega))
    have jW : Ch ((bl (.slice m b.length n)) ++ (bl (.slice Aov (vs).length Cov))) au l5 := (cV.step hq (fun i hm => by exact .inr (List.mem_append_right _ hm)))
    refine ⟨jW, ?_⟩
    refine Zw (by kernel_rfl) ?_
    refine Zq (Zb (aC _ _ (Zc (Za rfl rfl (Ye om rfl rfl) (Za rfl rfl (Zf rfl) (Ze ?_))))))
    have hr : Ol Sv.cs 93 1 l5 (.slice Aov (vs).length Cov) (((vs.set a.f.toNat (⟨o, ((h ++ [(⟨a.id, false, Zj a false, a.t⟩ : Arc)])).length, p⟩ : Sv)).set a.t.toNat (⟨c, ((b ++ [(⟨a.id, true, Zj a true, a.f⟩ : Arc)])).length, d⟩ : Sv))) := by
     have hx := jV
     exact hx
    have oX := hp.chS hq dF
    exact Zb (Exists.intro ((k + 1), ((vs.set a.f.toNat (⟨o, ((h ++ [(⟨a.id, false, Zj a false, a.t⟩ : Arc)])).length, p⟩ : Sv)).set a.t.toNat (⟨c, ((b ++ [(⟨a.id, true, Zj a true, a.f⟩ : Arc)])).length, d⟩ : Sv)), (.slice Aov (vs).length Cov)) ⟨⟨E, om, om, (by simp only [List.length_set]; omega), hr, (Lo.down l om), ((oX.eq (Yu hg O B r)).up (Nat.le_refl _) om), dF⟩, sC4 rfl rfl rfl rfl (sC1 rfl (Sub.nil _)), (by first | omega | (dsimp only; omega))⟩)
   refine Zk rfl rfl rfl ?_
   refine Step.call (Zr (xs := [.tmp 47, .const (Go.Value.bool true)]) fk104 rfl) (Yy a _ om) fun aH oY af => ?_
   obtain ⟨rfl, a6⟩ := af
   have rz := a6.size
   have E := E.trans a6
   have bs : Ch ((bl (.slice m b.length n)) ++ (bl (.slice Aov (vs).length Cov))) au oY := ((Ch.refl _ _).trans a6.of_nil)
   refine ⟨bs, ?_⟩
   refine dV 15 rfl rfl rfl (fun _ => Yk (parts := [(0, .tmp 46), (1, .tmp 48), (2, .tmp 50)]) (cells := [(.int .i64 a.id), (.bool true), (.int .i64 (Zj a true)), (.int .i64 a.f)]) zr99 pl99 rfl rfl) ?_
   refine Yt 7 16 (by kernel_rfl) ?_ ?_
   ·refine Zk rfl rfl rfl ?_
    have oZ := G.ch0 a6
    refine s_v (Ya oZ agg93 rfl rfl) ?_
    refine ⟨bs, ?_⟩
    refine dO 16 (Zk rfl rfl rfl ?_)
    refine Zm (cs := Arc.cs) (parts := [(0, .tmp 51)]) (⟨0, false, 0, 0⟩ : Arc) [(⟨a.id, true, Zj a true, a.f⟩ : Arc)] el93 sz99 zr99 Arc.len (by decide) rfl rfl rfl (by decide) (by decide) rfl fun ag o0 D Q ej => ?_
    have rA := ej.size
    have E := E.trans ej
    obtain ⟨R, S, rfl, T, K⟩ := D.opn
    have fI : Ch ((bl (.slice m b.length n)) ++ (bl (.slice Aov (vs).length Cov))) au o0 := (bs.trans ej.of_nil)
    refine ⟨fI, ?_⟩
    refine dO 17 (Zk rfl rfl rfl ?_)
    have o1 := ((A.ch0 aB).ch0 a6).ch0 ej
    have o2 := ((bT.ch0 aB).ch0 a6).ch0 ej
    refine Zy (cs := Arc.cs) el93 sz99 by99 zr99 rfl (by decide) Arc.one o1 D.ls rfl rfl (by simp only [List.length_append, List.length_singleton]; omega) (by simp only [List.length_append, List.length_singleton]; omega) z om fun ah jX F U y fJ => ?_
    have rB := fJ.size
    have E := E.step fJ (fun i hi => .inl (by have x := z _ hi; omega))
    obtain ⟨c, d, rfl, V, q⟩ := F.opn
    have hs := Od.put (v' := (⟨c, ((b ++ [(⟨a.id, true, Zj a true, a.f⟩ : Arc)])).length, d⟩ : Sv)) (hi' := jX.heap.size) o2 s r fJ (fun g hg => hg) F (fun g hg => by have e : g ∈ bl (.slice c ((b ++ [(⟨a.id, true, Zj a true, a.f⟩ : Arc)])).length d) := hg; rcases y with ea | ea; (left; rw [ea] at e; exact e); (right; exact ⟨by first | (have x := ea _ e; omega) | (rw [ea] at e; have x := List.mem_singleton.1 e; omega), q g e⟩)) om om
    have dG : Sep (.slice Aov (vs).length Cov) ((vs.set a.f.toNat (⟨o, ((h ++ [(⟨a.id, false, Zj a false, a.t⟩ : Arc)])).length, p⟩ : Sv)).set a.t.toNat (⟨c, ((b ++ [(⟨a.id, true, Zj a true, a.f⟩ : Arc)])).length, d⟩ : Sv)) := Sep.put (hi' := jX.heap.size) (hi := bc.heap.size) J s (fun g hg => by have e : g ∈ bl (.slice c ((b ++ [(⟨a.id, true, Zj a true, a.f⟩ : Arc)])).length d) := hg; rcases y with ea | ea; (left; rw [ea] at e; exact e); (right; exact ⟨by first | (have x := ea _ e; omega) | (rw [ea] at e; have x := List.mem_singleton.1 e; omega), q g e⟩)) (fun g hm => by have x := l _ hm; have Y := hiov _ hm; omega)
    have cW : Ch ((bl (.slice m b.length n)) ++ (bl (.slice Aov (vs).length Cov))) au jX := (fI.step fJ (fun i hm => by exact .inr (List.mem_append_left _ hm)))
    refine ⟨cW, ?_⟩
    refine dO 18 (Zk rfl rfl rfl ?_)
    have l6 := ((ho.ch0 a6).ch0 ej).ch fJ (fun g hg hm => by exact I _ hm hg)
    refine Yi (j := a.t.toNat) l6 el94 sz93 rfl rfl om om fun ai aj X L => ?_
    refine ⟨cW, ?_⟩
    refine dO 19 (Zk rfl rfl rfl ?_)
    refine Yn (j := a.t.toNat) (⟨c, ((b ++ [(⟨a.id, true, Zj a true, a.f⟩ : Arc)])).length, d⟩ : Sv) l6 L Sv.len sz93 rfl rfl rfl rfl om fun l7 jY ht => ?_
    have rC := ht.size
    have E := E.step ht (fun i hi => .inl (by have x := l _ hi; omega))
    have jZ : Ch ((bl (.slice m b.length n)) ++ (bl (.slice Aov (vs).length Cov))) au l7 := (cW.step ht (fun i hm => by exact .inr (List.mem_append_right _ hm)))
    refine ⟨jZ, ?_⟩
    refine Zw (by kernel_rfl) ?_
    refine Zq (Zb (aC _ _ (Zc (Za rfl rfl (Ye om rfl rfl) (Za rfl rfl (Zf rfl) (Ze ?_))))))
    have hv : Ol Sv.cs 93 1 l7 (.slice Aov (vs).length Cov) (((vs.set a.f.toNat (⟨o, ((h ++ [(⟨a.id, false, Zj a false, a.t⟩ : Arc)])).length, p⟩ : Sv)).set a.t.toNat (⟨c, ((b ++ [(⟨a.id, true, Zj a true, a.f⟩ : Arc)])).length, d⟩ : Sv))) := by
     have hx := jY
     exact hx
    have o3 := hs.chS ht dG
    exact Zb (Exists.intro ((k + 1), ((vs.set a.f.toNat (⟨o, ((h ++ [(⟨a.id, false, Zj a false, a.t⟩ : Arc)])).length, p⟩ : Sv)).set a.t.toNat (⟨c, ((b ++ [(⟨a.id, true, Zj a true, a.f⟩ : Arc)])).length, d⟩ : Sv)), (.slice Aov (vs).length Cov)) ⟨⟨E, om, om, (by simp only [List.length_set]; omega), hv, (Lo.down l om), ((o3.eq (Yu hg O B r)).up (Nat.le_refl _) om), dG⟩, sC4 rfl rfl rfl rfl (sC1 rfl (Sub.nil _)), (by first | omega | (dsimp only; omega))⟩)
   refine Zk rfl rfl rfl ?_
   refine Zm (cs := Arc.cs) (parts := [(0, .tmp 51)]) (⟨0, false, 0, 0⟩ : Arc) [(⟨a.id, true, Zj a true, a.f⟩ : Arc)] el93 sz99 zr99 Arc.len (by decide) rfl rfl rfl (by decide) (by decide) rfl fun ag o4 D Q cX => ?_
   have rD := cX.size
   have E := E.trans cX
   obtain ⟨R, S, rfl, T, K⟩ := D.opn
   have cY : Ch ((bl (.slice m b.length n)) ++ (bl (.slice Aov (vs).length Cov))) au o4 := (bs.trans cX.of_nil)
   refine ⟨cY, ?_⟩
   refine dO 7 (Zk rfl rfl rfl ?_)
   have o5 := (G.ch0 a6).ch0 cX
   refine s_v (Ya o5 agg93 rfl rfl) ?_
   refine ⟨cY, ?_⟩
   refine dO 17 (Zk rfl rfl rfl ?_)
   have o6 := ((A.ch0 aB).ch0 a6).ch0 cX
   have o7 := ((bT.ch0 aB).ch0 a6).ch0 cX
   refine Zy (cs := Arc.cs) el93 sz99 by99 zr99 rfl (by decide) Arc.one o6 D.ls rfl rfl (by simp only [List.length_append, List.length_singleton]; omega) (by simp only [List.length_append, List.length_singleton]; omega) z om fun ah j0 F U y fK => ?_
   have rE := fK.size
   have E := E.step fK (fun i hi => .inl (by have x := z _ hi; omega))
   obtain ⟨c, d, rfl, V, q⟩ := F.opn
   have hw := Od.put (v' := (⟨c, ((b ++ [(⟨a.id, true, Zj a true, a.f⟩ : Arc)])).length, d⟩ : Sv)) (hi' := j0.heap.size) o7 s r fK (fun g hg => hg) F (fun g hg => by have e : g ∈ bl (.slice c ((b ++ [(⟨a.id, true, Zj a true, a.f⟩ : Arc)])).length d) := hg; rcases y with ea | ea; (left; rw [ea] at e; exact e); (right; exact ⟨by first | (have x := ea _ e; omega) | (rw [ea] at e; have x := List.mem_singleton.1 e; omega), q g e⟩)) om om
   have dH : Sep (.slice Aov (vs).length Cov) ((vs.set a.f.toNat (⟨o, ((h ++ [(⟨a.id, false, Zj a false, a.t⟩ : Arc)])).length, p⟩ : Sv)).set a.t.toNat (⟨c, ((b ++ [(⟨a.id, true, Zj a true, a.f⟩ : Arc)])).length, d⟩ : Sv)) := Sep.put (hi' := j0.heap.size) (hi := bc.heap.size) J s (fun g hg => by have e : g ∈ bl (.slice c ((b ++ [(⟨a.id, true, Zj a true, a.f⟩ : Arc)])).length d) := hg; rcases y with ea | ea; (left; rw [ea] at e; exact e); (right; exact ⟨by first | (have x := ea _ e; omega) | (rw [ea] at e; have x := List.mem_singleton.1 e; omega), q g e⟩)) (fun g hm => by have x := l _ hm; have Y := hiov _ hm; omega)
   have cZ : Ch ((bl (.slice m b.length n)) ++ (bl (.slice Aov (vs).length Cov))) au j0 := (cY.step fK (fun i hm => by exact .inr (List.mem_append_left _ hm)))
   refine ⟨cZ, ?_⟩
   refine dO 18 (Zk rfl rfl rfl ?_)
   have l8 := ((ho.ch0 a6).ch0 cX).ch fK (fun g hg hm => by exact I _ hm hg)
   refine Yi (j := a.t.toNat) l8 el94 sz93 rfl rfl om om fun ai aj X L => ?_
   refine ⟨cZ, ?_⟩
   refine dO 19 (Zk rfl rfl rfl ?_)
   refine Yn (j := a.t.toNat) (⟨c, ((b ++ [(⟨a.id, true, Zj a true, a.f⟩ : Arc)])).length, d⟩ : Sv) l8 L Sv.len sz93 rfl rfl rfl rfl om fun l9 j1 hy => ?_
   have rF := hy.size
   have E := E.step hy (fun i hi => .inl (by have x := l _ hi; omega))
   have j2 : Ch ((bl (.slice m b.length n)) ++ (bl (.slice Aov (vs).length Cov))) au l9 := (cZ.step hy (fun i hm => by exact .inr (List.mem_append_right _ hm)))
   refine ⟨j2, ?_⟩
   refine Zw (by kernel_rfl) ?_
   refine Zq (Zb (aC _ _ (Zc (Za rfl rfl (Ye om rfl rfl) (Za rfl rfl (Zf rfl) (Ze ?_))))))
   have hz : Ol Sv.cs 93 1 l9 (.slice Aov (vs).length Cov) (((vs.set a.f.toNat (⟨o, ((h ++ [(⟨a.id, false, Zj a false, a.t⟩ : Arc)])).length, p⟩ : Sv)).set a.t.toNat (⟨c, ((b ++ [(⟨a.id, true, Zj a true, a.f⟩ : Arc)])).length, d⟩ : Sv))) := by
    have hx := j1
    exact hx
   have o8 := hw.chS hy dH
   exact Zb (Exists.intro ((k + 1), ((vs.set a.f.toNat (⟨o, ((h ++ [(⟨a.id, false, Zj a false, a.t⟩ : Arc)])).length, p⟩ : Sv)).set a.t.toNat (⟨c, ((b ++ [(⟨a.id, true, Zj a true, a.f⟩ : Arc)])).length, d⟩ : Sv)), (.slice Aov (vs).length Cov)) ⟨⟨E, om, om, (by simp only [List.length_set]; omega), hz, (Lo.down l om), ((o8.eq (Yu hg O B r)).up (Nat.le_refl _) om), dH⟩, sC4 rfl rfl rfl rfl (sC1 rfl (Sub.nil _)), (by first | omega | (dsimp only; omega))⟩)
  refine Zk rfl rfl rfl ?_
  refine Step.call (Zr (xs := [.tmp 47, .const (Go.Value.bool true)]) fk104 rfl) (Yy a _ om) fun aH j3 af => ?_
  obtain ⟨rfl, a7⟩ := af
  have rG := a7.size
  have E := E.trans a7
  have aS : Ch ((bl (.slice m b.length n)) ++ (bl (.slice Aov (vs).length Cov))) au j3 := ((Ch.refl _ _).trans a7.of_nil)
  refine ⟨aS, ?_⟩
  refine dV 15 rfl rfl rfl (fun _ => Yk (parts := [(0, .tmp 46), (1, .tmp 48), (2, .tmp 50)]) (cells := [(.int .i64 a.id), (.bool true), (.int .i64 (Zj a true)), (.int .i64 a.f)]) zr99 pl99 rfl rfl) ?_
  refine Yt 6 16 (by kernel_rfl) ?_ ?_
  ·refine Zk rfl rfl rfl ?_
   have j4 := (cU.ch0 aB).ch0 a7
   refine (Yc (j := a.t.toNat) j4.ls Sv.len el94 sz93 rfl rfl om om fun ae aG P G => ?_)
   obtain rfl := Zv H P
   replace G : At j3 0 j3.heap.size ae ([(.slice m b.length n)]) := G
   refine ⟨aS, ?_⟩
   refine Yt 7 16 (by kernel_rfl) ?_ ?_
   ·refine Zk rfl rfl rfl ?_
    refine s_v (Ya G agg93 rfl rfl) ?_
    refine ⟨aS, ?_⟩
    refine dO 16 (Zk rfl rfl rfl ?_)
    refine Zm (cs := Arc.cs) (parts := [(0, .tmp 51)]) (⟨0, false, 0, 0⟩ : Arc) [(⟨a.id, true, Zj a true, a.f⟩ : Arc)] el93 sz99 zr99 Arc.len (by decide) rfl rfl rfl (by decide) (by decide) rfl fun ag o9 D Q ek => ?_
    have rH := ek.size
    have E := E.trans ek
    obtain ⟨R, S, rfl, T, K⟩ := D.opn
    have fL : Ch ((bl (.slice m b.length n)) ++ (bl (.slice Aov (vs).length Cov))) au o9 := (aS.trans ek.of_nil)
    refine ⟨fL, ?_⟩
    refine dO 17 (Zk rfl rfl rfl ?_)
    have pa := ((A.ch0 aB).ch0 a7).ch0 ek
    have pb := ((bT.ch0 aB).ch0 a7).ch0 ek
    refine Zy (cs := Arc.cs) el93 sz99 by99 zr99 rfl (by decide) Arc.one pa D.ls rfl rfl (by simp only [List.length_append, List.length_singleton]; omega) (by simp only [List.length_append, List.length_singleton]; omega) z om fun ah j5 F U y fM => ?_
    have rI := fM.size
    have E := E.step fM (fun i hi => .inl (by have x := z _ hi; omega))
    obtain ⟨c, d, rfl, V, q⟩ := F.opn
    have hA := Od.put (v' := (⟨c, ((b ++ [(⟨a.id, true, Zj a true, a.f⟩ : Arc)])).length, d⟩ : Sv)) (hi' := j5.heap.size) pb s r fM (fun g hg => hg) F (fun g hg => by have e : g ∈ bl (.slice c ((b ++ [(⟨a.id, true, Zj a true, a.f⟩ : Arc)])).length d) := hg; rcases y with ea | ea; (left; rw [ea] at e; exact e); (right; exact ⟨by first | (have x := ea _ e; omega) | (rw [ea] at e; have x := List.mem_singleton.1 e; omega), q g e⟩)) om om
    have dI : Sep (.slice Aov (vs).length Cov) ((vs.set a.f.toNat (⟨o, ((h ++ [(⟨a.id, false, Zj a false, a.t⟩ : Arc)])).length, p⟩ : Sv)).set a.t.toNat (⟨c, ((b ++ [(⟨a.id, true, Zj a true, a.f⟩ : Arc)])).length, d⟩ : Sv)) := Sep.put (hi' := j5.heap.size) (hi := bc.heap.size) J s (fun g hg => by have e : g ∈ bl (.slice c ((b ++ [(⟨a.id, true, Zj a true, a.f⟩ : Arc)])).length d) := hg; rcases y with ea | ea; (left; rw [ea] at e; exact e); (right; exact ⟨by first | (have x := ea _ e; omega) | (rw [ea] at e; have x := List.mem_singleton.1 e; omega), q g e⟩)) (fun g hm => by have x := l _ hm; have Y := hiov _ hm; omega)
    have c0 : Ch ((bl (.slice m b.length n)) ++ (bl (.slice Aov (vs).length Cov))) au j5 := (fL.step fM (fun i hm => by exact .inr (List.mem_append_left _ hm)))
    refine ⟨c0, ?_⟩
    refine dO 18 (Zk rfl rfl rfl ?_)
    have ma := (j4.ch0 ek).ch fM (fun g hg hm => by exact I _ hm hg)
    refine Yi (j := a.t.toNat) ma el94 sz93 rfl rfl om om fun ai aj X L => ?_
    refine ⟨c0, ?_⟩
    refine dO 19 (Zk rfl rfl rfl ?_)
    refine Yn (j := a.t.toNat) (⟨c, ((b ++ [(⟨a.id, true, Zj a true, a.f⟩ : Arc)])).length, d⟩ : Sv) ma L Sv.len sz93 rfl rfl rfl rfl om fun mb j6 hB => ?_
    have rJ := hB.size
    have E := E.step hB (fun i hi => .inl (by have x := l _ hi; omega))
    have j7 : Ch ((bl (.slice m b.length n)) ++ (bl (.slice Aov (vs).length Cov))) au mb := (c0.step hB (fun i hm => by exact .inr (List.mem_append_right _ hm)))
    refine ⟨j7, ?_⟩
    refine Zw (by kernel_rfl) ?_
    refine Zq (Zb (aC _ _ (Zc (Za rfl rfl (Ye om rfl rfl) (Za rfl rfl (Zf rfl) (Ze ?_))))))
    have hC : Ol Sv.cs 93 1 mb (.slice Aov (vs).length Cov) (((vs.set a.f.toNat (⟨o, ((h ++ [(⟨a.id, false, Zj a false, a.t⟩ : Arc)])).length, p⟩ : Sv)).set a.t.toNat (⟨c, ((b ++ [(⟨a.id, true, Zj a true, a.f⟩ : Arc)])).length, d⟩ : Sv))) := by
     have hx := j6
     exact hx
    have pc := hA.chS hB dI
    exact Zb (Exists.intro ((k + 1), ((vs.set a.f.toNat (⟨o, ((h ++ [(⟨a.id, false, Zj a false, a.t⟩ : Arc)])).length, p⟩ : Sv)).set a.t.toNat (⟨c, ((b ++ [(⟨a.id, true, Zj a true, a.f⟩ : Arc)])).length, d⟩ : Sv)), (.slice Aov (vs).length Cov)) ⟨⟨E, om, om, (by simp only [List.length_set]; omega), hC, (Lo.down l om), ((pc.eq (Yu hg O B r)).up (Nat.le_refl _) om), dI⟩, sC4 rfl rfl rfl rfl (sC1 rfl (Sub.nil _)), (by first | omega | (dsimp only; omega))⟩)
   refine Zk rfl rfl rfl ?_
   refine Zm (cs := Arc.cs) (parts := [(0, .tmp 51)]) (⟨0, false, 0, 0⟩ : Arc) [(⟨a.id, true, Zj a true, a.f⟩ : Arc)] el93 sz99 zr99 Arc.len (by decide) rfl rfl rfl (by decide) (by decide) rfl fun ag pd D Q c1 => ?_
   have rK := c1.size
   have E := E.trans c1
   obtain ⟨R, S, rfl, T, K⟩ := D.opn
   have c2 : Ch ((bl (.slice m b.length n)) ++ (bl (.slice Aov (vs).length Cov))) au pd := (aS.trans c1.of_nil)
   refine ⟨c2, ?_⟩
   refine dO 7 (Zk rfl rfl rfl ?_)
   have pe := G.ch0 c1
   refine s_v (Ya pe agg93 rfl rfl) ?_
   refine ⟨c2, ?_⟩
   refine dO 17 (Zk rfl rfl rfl ?_)
   have pf := ((A.ch0 aB).ch0 a7).ch0 c1
   have pg := ((bT.ch0 aB).ch0 a7).ch0 c1
   refine Zy (cs := Arc.cs) el93 sz99 by99 zr99 rfl (by decide) Arc.one pf D.ls rfl rfl (by simp only [List.length_append, List.length_singleton]; omega) (by simp only [List.length_append, List.length_singleton]; omega) z om fun ah j8 F U y fN => ?_
   have rL := fN.size
   have E := E.step fN (fun i hi => .inl (by have x := z _ hi; omega))
   obtain ⟨c, d, rfl, V, q⟩ := F.opn
   have hD := Od.put (v' := (⟨c, ((b ++ [(⟨a.id, true, Zj a true, a.f⟩ : Arc)])).length, d⟩ : Sv)) (hi' := j8.heap.size) pg s r fN (fun g hg => hg) F (fun g hg => by have e : g ∈ bl (.slice c ((b ++ [(⟨a.id, true, Zj a true, a.f⟩ : Arc)])).length d) := hg; rcases y with ea | ea; (left; rw [ea] at e; exact e); (right; exact ⟨by first | (have x := ea _ e; omega) | (rw [ea] at e; have x := List.mem_singleton.1 e; omega), q g e⟩)) om om
   have dJ : Sep (.slice Aov (vs).length Cov) ((vs.set a.f.toNat (⟨o, ((h ++ [(⟨a.id, false, Zj a false, a.t⟩ : Arc)])).length, p⟩ : Sv)).set a.t.toNat (⟨c, ((b ++ [(⟨a.id, true, Zj a true, a.f⟩ : Arc)])).length, d⟩ : Sv)) := Sep.put (hi' := j8.heap.size) (hi := bc.heap.size) J s (fun g hg => by have e : g ∈ bl (.slice c ((b ++ [(⟨a.id, true, Zj a true, a.f⟩ : Arc)])).length d) := hg; rcases y with ea | ea; (left; rw [ea] at e; exact e); (right; exact ⟨by first | (have x := ea _ e; omega) | (rw [ea] at e; have x := List.mem_singleton.1 e; omega), q g e⟩)) (fun g hm => by have x := l _ hm; have Y := hiov _ hm; omega)
   have c3 : Ch ((bl (.slice m b.length n)) ++ (bl (.slice Aov (vs).length Cov))) au j8 := (c2.step fN (fun i hm => by exact .inr (List.mem_append_left _ hm)))
   refine ⟨c3, ?_⟩
   refine dO 18 (Zk rfl rfl rfl ?_)
   have mc := (j4.ch0 c1).ch fN (fun g hg hm => by exact I _ hm hg)
   refine Yi (j := a.t.toNat) mc el94 sz93 rfl rfl om om fun ai aj X L => ?_
   refine ⟨c3, ?_⟩
   refine dO 19 (Zk rfl rfl rfl ?_)
   refine Yn (j := a.t.toNat) (⟨c, ((b ++ [(⟨a.id, true, Zj a true, a.f⟩ : Arc)])).length, d⟩ : Sv) mc L Sv.len sz93 rfl rfl rfl rfl om fun md j9 hE => ?_
   have rM := hE.size
   have E := E.step hE (fun i hi => .inl (by have x := l _ hi; omega))
   have ka : Ch ((bl (.slice m b.length n)) ++ (bl (.slice Aov (vs).length Cov))) au md := (c3.step hE (fun i hm => by exact .inr (List.mem_append_right _ hm)))
   refine ⟨ka, ?_⟩
   refine Zw (by kernel_rfl) ?_
   refine Zq (Zb (aC _ _ (Zc (Za rfl rfl (Ye om rfl rfl) (Za rfl rfl (Zf rfl) (Ze ?_))))))
   have hF : Ol Sv.cs 93 1 md (.slice Aov (vs).length Cov) (((vs.set a.f.toNat (⟨o, ((h ++ [(⟨a.id, false, Zj a false, a.t⟩ : Arc)])).length, p⟩ : Sv)).set a.t.toNat (⟨c, ((b ++ [(⟨a.id, true, Zj a true, a.f⟩ : Arc)])).length, d⟩ : Sv))) := by
    have hx := j9
    exact hx
   have ph := hD.chS hE dJ
   exact Zb (Exists.intro ((k + 1), ((vs.set a.f.toNat (⟨o, ((h ++ [(⟨a.id, false, Zj a false, a.t⟩ : Arc)])).length, p⟩ : Sv)).set a.t.toNat (⟨c, ((b ++ [(⟨a.id, true, Zj a true, a.f⟩ : Arc)])).length, d⟩ : Sv)), (.slice Aov (vs).length Cov)) ⟨⟨E, om, om, (by simp only [List.length_set]; omega), hF, (Lo.down l om), ((ph.eq (Yu hg O B r)).up (Nat.le_refl _) om), dJ⟩, sC4 rfl rfl rfl rfl (sC1 rfl (Sub.nil _)), (by first | omega | (dsimp only; omega))⟩)
  refine Zk rfl rfl rfl ?_
  refine Zm (cs := Arc.cs) (parts := [(0, .tmp 51)]) (⟨0, false, 0, 0⟩ : Arc) [(⟨a.id, true, Zj a true, a.f⟩ : Arc)] el93 sz99 zr99 Arc.len (by decide) rfl rfl rfl (by decide) (by decide) rfl fun ag kb D Q el => ?_
  have rN := el.size
  have E := E.trans el
  obtain ⟨R, S, rfl, T, K⟩ := D.opn
  have bu : Ch ((bl (.slice m b.length n)) ++ (bl (.slice Aov (vs).length Cov))) au kb := (aS.trans el.of_nil)
  refine ⟨bu, ?_⟩
  refine dO 6 (Zk rfl rfl rfl ?_)
  have me := ((cU.ch0 aB).ch0 a7).ch0 el
  refine (Yc (j := a.t.toNat) me.ls Sv.len el94 sz93 rfl rfl om om fun ae aG P G => ?_)
  obtain rfl := Zv H P
  replace G : At kb 0 kb.heap.size ae ([(.slice m b.length n)]) := G
  refine ⟨bu, ?_⟩
  refine dO 7 (Zk rfl rfl rfl ?_)
  refine s_v (Ya G agg93 rfl rfl) ?_
  refine ⟨bu, ?_⟩
  refine dO 17 (Zk rfl rfl rfl ?_)
  have pi := ((A.ch0 aB).ch0 a7).ch0 el
  have pj := ((bT.ch0 aB).ch0 a7).ch0 el
  refine Zy (cs := Arc.cs) el93 sz99 by99 zr99 rfl (by decide) Arc.one pi D.ls rfl rfl (by simp only [List.length_append, List.length_singleton]; omega) (by simp only [List.length_append, List.length_singleton]; omega) z om fun ah kc F U y fO => ?_
  have rO := fO.size
  have E := E.step fO (fun i hi => .inl (by have x := z _ hi; omega))
  obtain ⟨c, d, rfl, V, q⟩ := F.opn
  have hG := Od.put (v' := (⟨c, ((b ++ [(⟨a.id, true, Zj a true, a.f⟩ : Arc)])).length, d⟩ : Sv)) (hi' := kc.heap.size) pj s r fO (fun g hg => hg) F (fun g hg => by have e : g ∈ bl (.slice c ((b ++ [(⟨a.id, true, Zj a true, a.f⟩ : Arc)])).length d) := hg; rcases y with ea | ea; (left; rw [ea] at e; exact e); (right; exact ⟨by first | (have x := ea _ e; omega) | (rw [ea] at e; have x := List.mem_singleton.1 e; omega), q g e⟩)) om om
  have dL : Sep (.slice Aov (vs).length Cov) ((vs.set a.f.toNat (⟨o, ((h ++ [(⟨a.id, false, Zj a false, a.t⟩ : Arc)])).length, p⟩ : Sv)).set a.t.toNat (⟨c, ((b ++ [(⟨a.id, true, Zj a true, a.f⟩ : Arc)])).length, d⟩ : Sv)) := Sep.put (hi' := kc.heap.size) (hi := bc.heap.size) J s (fun g hg => by have e : g ∈ bl (.slice c ((b ++ [(⟨a.id, true, Zj a true, a.f⟩ : Arc)])).length d) := hg; rcases y with ea | ea; (left; rw [ea] at e; exact e); (right; exact ⟨by first | (have x := ea _ e; omega) | (rw [ea] at e; have x := List.mem_singleton.1 e; omega), q g e⟩)) (fun g hm => by have x := l _ hm; have Y := hiov _ hm; omega)
  have c4 : Ch ((bl (.slice m b.length n)) ++ (bl (.slice Aov (vs).length Cov))) au kc := (bu.step fO (fun i hm => by exact .inr (List.mem_append_left _ hm)))
  refine ⟨c4, ?_⟩
  refine dO 18 (Zk rfl rfl rfl ?_)
  have mf := me.ch fO (fun g hg hm => by exact I _ hm hg)
  refine Yi (j := a.t.toNat) mf el94 sz93 rfl rfl om om fun ai aj X L => ?_
  refine ⟨c4, ?_⟩
  refine dO 19 (Zk rfl rfl rfl ?_)
  refine Yn (j := a.t.toNat) (⟨c, ((b ++ [(⟨a.id, true, Zj a true, a.f⟩ : Arc)])).length, d⟩ : Sv) mf L Sv.len sz93 rfl rfl rfl rfl om fun mg kd hH => ?_
  have rP := hH.size
  have E := E.step hH (fun i hi => .inl (by have x := l _ hi; omega))
  have ke : Ch ((bl (.slice m b.length n)) ++ (bl (.slice Aov (vs).length Cov))) au mg := (c4.step hH (fun i hm => by exact .inr (List.mem_append_right _ hm)))
  refine ⟨ke, ?_⟩
  refine Zw (by kernel_rfl) ?_
  refine Zq (Zb (aC _ _ (Zc (Za rfl rfl (Ye om rfl rfl) (Za rfl rfl (Zf rfl) (Ze ?_))))))
  have hI : Ol Sv.cs 93 1 mg (.slice Aov (vs).length Cov) (((vs.set a.f.toNat (⟨o, ((h ++ [(⟨a.id, false, Zj a false, a.t⟩ : Arc)])).length, p⟩ : Sv)).set a.t.toNat (⟨c, ((b ++ [(⟨a.id, true, Zj a true, a.f⟩ : Arc)])).length, d⟩ : Sv))) := by
   have hx := kd
   exact hx
  have pk := hG.chS hH dL
  exact Zb (Exists.intro ((k + 1), ((vs.set a.f.toNat (⟨o, ((h ++ [(⟨a.id, false, Zj a false, a.t⟩ : Arc)])).length, p⟩ : Sv)).set a.t.toNat (⟨c, ((b ++ [(⟨a.id, true, Zj a true, a.f⟩ : Arc)])).length, d⟩ : Sv)), (.slice Aov (vs).length Cov)) ⟨⟨E, om, om, (by simp only [List.length_set]; omega), hI, (Lo.down l om), ((pk.eq (Yu hg O B r)).up (Nat.le_refl _) om), dL⟩, sC4 rfl rfl rfl rfl (sC1 rfl (Sub.nil _)), (by first | omega | (dsimp only; omega))⟩)
 have ms := bU
 have bU := Yq bU
 refine Xc (Zt (Zt (Yx ?_)))
 refine Zb (H5 _ _ ?_)
 refine Zg fun sJ pl => ?_
 refine Zc (Za rfl rfl (Zf rfl) (Za rfl rfl (Zd rfl) (Ze (Zb (pl _ _ ?_)))))
 refine Yb ?_
 have kf : Ol Sv.cs 93 1 R9 (.slice Aov (vs).length Cov) vs := by
  have hx := eo
  exact hx
 have kg : Od Arc.cs 99 4 R9 w.heap.size R9.heap.size vs (Qv gV gE) := by
  have hx := od.up (lo' := w.heap.size) (hi' := R9.heap.size) om om
  exact hx.eq (by rw [List.take_of_length_le om])
 exact Zi [_] ⟨rfl, trivial⟩ ⟨(.slice Aov (vs).length Cov), vs, rfl, kf, (Lo.down l om), kg, c6, E⟩

/-- impl.IsValidAutomaton -/
theorem Zac {w : World} (aS : Int) {LL_aA O : Nat} {C : Value} {aA : List Bool} (y : Ls bcs 1 w LL_aA O C aA) {LL_saN H : Nat} {z : Value} {saN : List Sv} (j : Ls Sv.cs 1 w LL_saN H z saN) {LR_aN BB_aN : Nat} {aN : List (List Int)} (o : Rd ics 1 w LR_aN BB_aN saN aN) :
 Ctr Try.prog 103 #[(.agg #[(.int .i64 aS), C, z])] w (fun v w' => v = .bool (tt (Xs aS aA aN)) ∧ Ch [] w w') := by
 obtain ⟨D, F, I⟩ := y.val
 subst I
 have ao := y.len
 have y := y.here (by decide)
 obtain ⟨l, m, A⟩ := j.val
 subst A
 have V := j.len
 have j := j.here (by decide)
 have o := o.here (by decide)
 have X := o.1
 have E := Ch.refl [] w
 refine Yf (N := 52) (vs0 := [(.agg #[(.int .i64 aS), (.slice D aA.length F), (.slice l saN.length m)])]) Try.func103 rfl rfl rfl ?_
 refine Zg fun K1 H1 => ?_
 refine Zc (Zx rfl rfl ?_)
 refine Xj rfl fun aB W2 P C2 a9 => ?_
 have ba := C2.size
 have E := E.trans C2
 have bb := P.lt
 replace P : Blk W2 aB 38 [(.int .i64 aS), (.slice D aA.length F), (.slice l saN.length m)] := P
 refine Za rfl rfl (Zd rfl) (Ze (Zb (H1 _ _ ?_)))
 refine Zg fun K3 H3 => ?_
 refine Zc (Za rfl rfl (Zh fa38_1 rfl) (Za rfl rfl (Zl P.at_ agg26 rfl rfl) (Za rfl rfl (Yz (by rw [el26]; rfl) rfl) (Za rfl rfl (Zd rfl) (Ze (Zb (H3 _ _ ?_)))))))
 refine Zg fun K4 H4 => ?_
 refine Zg fun K5 H5 => ?_
 refine Zc (Za rfl rfl (Zf rfl) (Zx rfl rfl ?_))
 refine Step.call (Zr (xs := [.tmp 11, .const (Go.Value.int Go.IntKind.i64 1), .const (Go.Value.int Go.IntKind.i64 12)]) fk85 rfl) (Xk _ _ _ ) fun aC W6 Y => ?_
 obtain ⟨rfl, C6⟩ := Y
 have bc := C6.size
 have E := E.trans C6
 refine Za rfl rfl (Qj rfl) (Za rfl rfl (Zf rfl) ?_)
 refine Xg (d := 14) rfl (fun g => ?_) (fun g => ?_)
 ·have aD := g
  have g := Yq (Xv g)
  refine Zo rfl rfl (Zo rfl rfl (Zo rfl rfl (Zo rfl rfl (Zo rfl rfl (Zo rfl rfl (Za rfl rfl (Xi rfl rfl) (Za rfl rfl (Zf rfl) ?_)))))))
  refine Zo rfl rfl (Zo rfl rfl (Zo rfl rfl (Zo rfl rfl (Zo rfl rfl (Za rfl rfl (Xi rfl rfl) (Ze (Zb (H5 _ _ ?_))))))))
  refine Zbk rfl ?_
  refine Zg fun K8 H8 => ?_
  refine Zc (Za rfl rfl (Zd rfl) (Ze (Zb (H8 _ _ ?_))))
  refine Yb (Zp ?_)
  exact Zi [_] ⟨rfl, trivial⟩ ⟨congrArg Value.bool (by first | exact Qz ⟨by omega, c, by omega, Qx J om⟩ | exact Zn (fun e => g (by have p := e.1; have Q := e.2.1; omega)) | exact Zn (fun e => c e.2.1) | exact Zn (fun e => h (by have p := e.2.2.1; omega)) | exact Zn (fun e => f (Qg e.2 a n)) | exact Zn (fun e => i (by have p := (Xp e.2 a).1; omega))), E⟩
 have aD := g
 have g := Yp (Xw g)
 refine Za rfl rfl (Zh fa38_0 rfl) ?_
 have F9 := P.ch0 C6
 refine Za rfl rfl (Zl F9.at_ agg3 rfl rfl) (Za rfl rfl (Zf rfl) (Za rfl rfl (Zbf om rfl rfl) (Zx rfl rfl ?_)))
 refine Step.call (Zr (xs := [.tmp 16, .const (Go.Value.int Go.IntKind.i64 0), .tmp 18]) fk85 rfl) (Xk _ _ _ ) fun aE aF Z => ?_
 obtain ⟨rfl, aa⟩ := Z
 have aG := aa.size
 have E := E.trans aa
 refine Za rfl rfl (Qj rfl) (Za rfl rfl (Xb rfl rfl) (Za rfl rfl (Zf rfl) ?_))
 refine Xg (d := 22) rfl (fun c => ?_) (fun c => ?_)
 ·have ab := c
  have c := Yq (Xv c)
  refine Zo rfl rfl (Zo rfl rfl (Zo rfl rfl (Zo rfl rfl (Zo rfl rfl (Za rfl rfl (Xi rfl rfl) (Ze (Zb (H5 _ _ ?_))))))))
  refine Zbk rfl ?_
  refine Zg fun bd aH => ?_
  refine Zc (Za rfl rfl (Zd rfl) (Ze (Zb (aH _ _ ?_))))
  refine Yb (Zp ?_)
  exact Zi [_] ⟨rfl, trivial⟩ ⟨congrArg Value.bool (by first | exact Qz ⟨by omega, c, by omega, Qx J om⟩ | exact Zn (fun e => g (by have p := e.1; have Q := e.2.1; omega)) | exact Zn (fun e => c e.2.1) | exact Zn (fun e => h (by have p := e.2.2.1; omega)) | exact Zn (fun e => f (Qg e.2 a n)) | exact Zn (fun e => i (by have p := (Xp e.2 a).1; omega))), E⟩
 have ab := c
 have c := Yp (Xw c)
 refine Za rfl rfl (Zh fa38_2 rfl) ?_
 have ap := F9.ch0 aa
 refine Za rfl rfl (Zl ap.at_ agg27 rfl rfl) (Za rfl rfl (Yz (by rw [el27]; rfl) rfl) (Za rfl rfl (Zf rfl) (Za rfl rfl (Qu rfl rfl) (Za rfl rfl (Xb rfl rfl) (Ze (Zb (H5 _ _ ?_)))))))
 refine Zz rfl (fun h => ?_) (fun h => ?_)
 ·have ac := h
  have h := Yq (Xv h)
  refine Zg fun be aI => ?_
  refine Zc (Za rfl rfl (Zd rfl) (Ze (Zb (aI _ _ ?_))))
  refine Yb (Zp ?_)
  exact Zi [_] ⟨rfl, trivial⟩ ⟨congrArg Value.bool (by first | exact Qz ⟨by omega, c, by omega, Qx J om⟩ | exact Zn (fun e => g (by have p := e.1; have Q := e.2.1; omega)) | exact Zn (fun e => c e.2.1) | exact Zn (fun e => h (by have p := e.2.2.1; omega)) | exact Zn (fun e => f (Qg e.2 a n)) | exact Zn (fun e => i (by have p := (Xp e.2 a).1; omega))), E⟩
 have ac := h
 have h := Yp (Xw h)
 refine Zu ?_
 refine Zb (H4 _ _ ?_)
 refine Zg fun bf ad => ?_
 refine Zg fun bg aJ => ?_
 refine Zc (Za rfl rfl (Zh fa38_2 rfl) (Za rfl rfl (Zl ap.at_ agg27 rfl rfl) (Za rfl rfl (Yz (by rw [el27]; rfl) rfl) (Za rfl rfl (Zf rfl) (Ze (Zb (aJ _ _ ?_)))))))
 refine Yd ?_
 refine Xd (σ := Nat) (fun (s : Nat) => [(3, (.int .i64 ((aA.length : Nat) : Int))), (30, (.slice l saN.length m)), (31, (.int .i64 ((saN.length : Nat) : Int))), (32, (.int .i64 ((s : Nat) : Int)))]) (fun (s : Nat) wx => Ch [] w wx ∧ aF.heap.size ≤ wx.heap.size ∧ (s ≤ aN.length) ∧ (Zft aA.length aN s)) (fun (s : Nat) => aN.length - s) 0 (sC4 rfl rfl rfl rfl (Sub.nil _)) ⟨E, (Nat.le_refl _), om, (Zgh _ _)⟩ ?_
 rintro s ae ⟨E, aK, hs, J⟩
 have K := E
 have aq := K.size
 refine Zg fun bh aL => ?_
 refine Zc (Za rfl rfl (Xh rfl rfl) (Ze (Zb (aL _ _ ?_))))
 refine Zg fun bi aM => ?_
 refine Zz rfl (fun r => ?_) (fun r => ?_)
 ·have af := r
  have r := Yp r
  refine Zu ?_
  refine Zb (aM _ _ ?_)
  refine Zg fun bj ag => ?_
  refine Yd ?_
  refine Zg fun bk aO => ?_
  refine Zc (Zx rfl rfl ?_)
  have au := j.ch0 K
  refine (Yc au Sv.len el27 sz22 rfl rfl rfl om fun L ah R B => ?_)
  have av := o.ch0 K
  obtain ⟨b, a, q⟩ := av.get R
  obtain ⟨t, aP, u⟩ := ah
  obtain rfl := q.eqn
  have aQ := q.len
  replace q : Ls ics 1 ae LR_aN w.heap.size (.slice t b.length u) b := q
  replace B : At ae LL_saN w.heap.size L ([(.slice t b.length u)]) := B
  refine Za rfl rfl (Ya B agg22 rfl rfl) (Za rfl rfl (Zd rfl) (Ze (Zb (aO _ _ ?_))))
  refine Zg fun bm aw => ?_
  refine Zg fun bn aR => ?_
  refine Zc (Za rfl rfl (Zf rfl) (Za rfl rfl (Yz (by rw [el22]; rfl) rfl) (Za rfl rfl (Zf rfl) (Ze (Zb (aR _ _ ?_))))))
  refine Yd ?_
  refine Xd (σ := Nat) (fun (k : Nat) => [(3, (.int .i64 ((aA.length : Nat) : Int))), (5, (.slice t b.length u)), (30, (.slice l saN.length m)), (31, (.int .i64 ((saN.length : Nat) : Int))), (32, (.int .i64 ((s : Nat) : Int))), (33, (.bool (decide (((s : Nat) : Int) < ((saN.length : Nat) : Int))))), (34, (.pointer (some L))), (35, (.slice t b.length u)), (36, (.slice t b.length u)), (37, (.int .i64 ((b.length : Nat) : Int))), (38, (.int .i64 ((k : Nat) : Int)))]) (fun (k : Nat) wx => Ch [] w wx ∧ ae.heap.size ≤ wx.heap.size ∧ (k ≤ b.length) ∧ (RowP aA.length b k) ∧ Ls Sv.cs 1 wx LL_saN w.heap.size (.slice l saN.length m) saN ∧ Rd ics 1 wx LR_aN w.heap.size saN aN ∧ At wx LL_saN w.heap.size L ([(.slice t b.length u)]) ∧ Ls ics 1 wx LR_aN w.heap.size (.slice t b.length u) b) (fun (k : Nat) => b.length - k) 0 (sC8 rfl rfl rfl rfl rfl rfl rfl rfl (sC2 rfl rfl (sC1 rfl (Sub.nil _)))) ⟨E, (Nat.le_refl _), om, (Zgi _ _), au, av, B, q⟩ ?_
  rintro k bp ⟨E, aT, bq, hp, S, T, U, G⟩
  have ai := E
  have ax := ai.size
  refine Zg fun br aU => ?_
  refine Zc (Za rfl rfl (Xh rfl rfl) (Ze (Zb (aU _ _ ?_))))
  refine Zg fun bs ay => ?_
  refine Zz rfl (fun x => ?_) (fun x => ?_)
  ·have aj := x
   have x := Yp x
   refine Zu ?_
   refine Zb (ay _ _ ?_)
   refine Zg fun bu az => ?_
   refine Yd ?_
   refine Zg fun bv aV => ?_
   refine Zc (Zx rfl rfl ?_)
   refine (Yc G Xr el22 sz3 rfl rfl rfl om fun aW aX n ak => ?_)
   refine Za rfl rfl (Ya ak agg3 rfl rfl) (Za rfl rfl (Zd rfl) (Ze (Zb (aV _ _ ?_))))
   refine Zg fun bw aY => ?_
   refine Zc (Za rfl rfl (Zf rfl) (Za rfl rfl (Zf rfl) (Za rfl rfl (Zbf om rfl rfl) (Zx rfl rfl ?_))))
   refine Step.call (Zr (xs := [.tmp 42, .const (Go.Value.int Go.IntKind.i64 (-1)), .tmp 44]) fk85 rfl) (Xk _ _ _ ) fun aZ bz al => ?_
   obtain ⟨rfl, M⟩ := al
   have a0 := M.size
   have E := E.trans M
   refine Za rfl rfl (Qj rfl) (Ze (Zb (aY _ _ ?_)))
   refine Zz rfl (fun f => ?_) (fun f => ?_)
   ·have am := f
    have f := Yq (Xv f)
    refine Zg fun bA a1 => ?_
    refine Zc (Za rfl rfl (Zd rfl) (Ze (Zb (a1 _ _ ?_))))
    refine Yb (Yw (Zp (Zp (Yw (Zp (Yw (Zp (Zp (Yw (Zp ?_))))))))))
    clear ad ag aw az
    exact Zi [_] ⟨rfl, trivial⟩ ⟨congrArg Value.bool (by first | exact Qz ⟨by omega, c, by omega, Qx J om⟩ | exact Zn (fun e => g (by have p := e.1; have Q := e.2.1; omega)) | exact Zn (fun e => c e.2.1) | exact Zn (fun e => h (by have p := e.2.2.1; omega)) | exact Zn (fun e => f (Qg e.2 a n)) | exact Zn (fun e => i (by have p := (Xp e.2 a).1; omega))), E⟩
   have am := f
   have f := Yp (Xw f)
   refine Zu ?_
   refine Zq (Zb (az _ _ (Zc (Za rfl rfl (Ye om rfl rfl) (Za rfl rfl (Zf rfl) (Ze ?_))))))
   have a2 := S.ch0 M
   have a3 := T.ch0 M
   have a4 := U.ch0 M
   have a5 := G.ch0 M
   exact Zb (Exists.intro (k + 1) ⟨⟨E, om, om, (Zgb hp n f), a2, a3, a4, a5⟩, sC8 rfl rfl rfl rfl rfl rfl rfl rfl (sC2 rfl rfl (sC1 rfl (Sub.nil _))), (by first | omega | (dsimp only; omega))⟩)
  have aj := x
  have x := Yq x
  refine Xc (Zt (Zt (Yx ?_)))
  refine Zb (aw _ _ ?_)
  refine Zg fun bB a6 => ?_
  refine Zc (Za rfl rfl (Zf rfl) (Za rfl rfl (Yz (by rw [el22]; rfl) rfl) (Za rfl rfl (Qu rfl rfl) (Ze (Zb (a6 _ _ ?_))))))
  refine Zz rfl (fun i => ?_) (fun i => ?_)
  ·have an := i
   have i := Yq (Xv i)
   refine Zg fun bC a7 => ?_
   refine Zc (Za rfl rfl (Zd rfl) (Ze (Zb (a7 _ _ ?_))))
   refine Yb (Yw (Zp (Zp (Yw (Zp ?_)))))
   clear ad ag ay
   exact Zi [_] ⟨rfl, trivial⟩ ⟨congrArg Value.bool (by first | exact Qz ⟨by omega, c, by omega, Qx J om⟩ | exact Zn (fun e => g (by have p := e.1; have Q := e.2.1; omega)) | exact Zn (fun e => c e.2.1) | exact Zn (fun e => h (by have p := e.2.2.1; omega)) | exact Zn (fun e => f (Qg e.2 a n)) | exact Zn (fun e => i (by have p := (Xp e.2 a).1; omega))), E⟩
  have an := i
  have i := Yp (Xw i)
  refine Zu ?_
  refine Zq (Zb (ag _ _ (Zc (Za rfl rfl (Ye om rfl rfl) (Za rfl rfl (Zf rfl) (Ze ?_))))))
  exact Zb (Exists.intro (s + 1) ⟨⟨E, om, om, (Zfy J a ⟨by omega, Zho hp om⟩)⟩, sC4 rfl rfl rfl rfl (Sub.nil _), (by first | omega | (dsimp only; omega))⟩)
 have af := r
 have r := Yq r
 refine Xc (Zt (Zt (Yx ?_)))
 refine Zb (ad _ _ ?_)
 refine Zg fun bD a8 => ?_
 refine Zc (Za rfl rfl (Zd rfl) (Ze (Zb (a8 _ _ ?_))))
 refine Yb ?_
 exact Zi [_] ⟨rfl, trivial⟩ ⟨congrArg Value.bool (by first | exact Qz ⟨by omega, c, by omega, Qx J om⟩ | exact Zn (fun e => g (by have p := e.1; have Q := e.2.1; omega)) | exact Zn (fun e => c e.2.1) | exact Zn (fun e => h (by have p := e.2.2.1; omega)) | exact Zn (fun e => f (Qg e.2 a n)) | exact Zn (fun e => i (by have p := (Xp e.2 a).1; omega))), E⟩

/-- impl.edgeOk -/
theorem Zfs {w : World} (e : GEdge) (n : Int) (hn : 0 ≤ n ∧ n ≤ 9223372036854775807) :
 Ctr Try.prog 121 #[(.agg #[(.int .i64 e.id), (.int .i64 e.f), (.int .i64 e.t), (.int .i64 e.label)]), (.int .i64 n)] w (fun v w' => v = .bool (tt (Xq (n - 1) e)) ∧ Ch [] w w') := by
 have E := Ch.refl [] w
 refine Yf (N := 27) (vs0 := [(.agg #[(.int .i64 e.id), (.int .i64 e.f), (.int .i64 e.t), (.int .i64 e.label)]), (.int .i64 n)]) Try.func121 rfl rfl rfl ?_
 refine Zg fun K1 H1 => ?_
 refine Zc (Zx rfl rfl ?_)
 refine Xj rfl fun o W2 g C2 C => ?_
 have D := C2.size
 have E := E.trans C2
 have F := g.lt
 replace g : Blk W2 o 129 [(.int .i64 e.id), (.int .i64 e.f), (.int .i64 e.t), (.int .i64 e.label)] := g
 refine Za rfl rfl (Zd rfl) (Ze (Zb (H1 _ _ ?_)))
 refine Zg fun K3 H3 => ?_
 refine Zc (Za rfl rfl (Zh fa129_0 rfl) (Za rfl rfl (Zl g.at_ agg3 rfl rfl) (Zx rfl rfl ?_)))
 refine Step.call (Zr (xs := [.tmp 6, .const (Go.Value.int Go.IntKind.i64 1), .const (Go.Value.int Go.IntKind.i64 99)]) fk85 rfl) (Xk _ _ _ ) fun G W4 p => ?_
 obtain ⟨rfl, C4⟩ := p
 have H := C4.size
 have E := E.trans C4
 refine Za rfl rfl (Zf rfl) ?_
 refine Xg (d := 8) rfl (fun c => ?_) (fun c => ?_)
 ·have r := c
  have c := Yp c
  refine Za rfl rfl (Zh fa129_1 rfl) ?_
  have F6 := g.ch0 C4
  refine Za rfl rfl (Zl F6.at_ agg3 rfl rfl) (Za rfl rfl (Zf rfl) (Za rfl rfl (Zbf om rfl rfl) (Zx rfl rfl ?_)))
  refine Step.call (Zr (xs := [.tmp 10, .const (Go.Value.int Go.IntKind.i64 0), .tmp 12]) fk85 rfl) (Xk _ _ _ ) fun s W7 h => ?_
  obtain ⟨rfl, C7⟩ := h
  have I := C7.size
  have E := E.trans C7
  refine Za rfl rfl (Xi rfl rfl) (Za rfl rfl (Zf rfl) ?_)
  refine Xg (d := 15) rfl (fun a => ?_) (fun a => ?_)
  ·have u := a
   have a := Yp a
   refine Za rfl rfl (Zh fa129_2 rfl) ?_
   have F9 := F6.ch0 C7
   refine Za rfl rfl (Zl F9.at_ agg3 rfl rfl) (Za rfl rfl (Zf rfl) (Za rfl rfl (Zbf om rfl rfl) (Zx rfl rfl ?_)))
   refine Step.call (Zr (xs := [.tmp 17, .const (Go.Value.int Go.IntKind.i64 0), .tmp 19]) fk85 rfl) (Xk _ _ _ ) fun x J i => ?_
   obtain ⟨rfl, j⟩ := i
   have y := j.size
   have E := E.trans j
   refine Za rfl rfl (Xi rfl rfl) (Za rfl rfl (Zf rfl) ?_)
   refine Xg (d := 22) rfl (fun b => ?_) (fun b => ?_)
   ·have k := b
    have b := Yp b
    refine Za rfl rfl (Zh fa129_3 rfl) ?_
    have z := F9.ch0 j
    refine Za rfl rfl (Zl z.at_ agg3 rfl rfl) (Zx rfl rfl ?_)
    refine Step.call (Zr (xs := [.tmp 24, .const (Go.Value.int Go.IntKind.i64 0), .const (Go.Value.int Go.IntKind.i64 2)]) fk85 rfl) (Xk _ _ _ ) fun A K l => ?_
    obtain ⟨rfl, m⟩ := l
    have B := m.size
    have E := E.trans m
    refine Za rfl rfl (Xi rfl rfl) (Za rfl rfl (Zd rfl) (Ze (Zb (H3 _ _ ?_))))
    refine Yb ?_
    exact Zi [_] ⟨rfl, trivial⟩ ⟨congrArg Value.bool (by first | exact Zn (fun q => by unfold Xq at q; omega) | (rw [Zbz]; exact Zbg ⟨fun q => by unfold Xq; omega, fun q => by unfold Xq at q; omega⟩)), E⟩
   have k := b
   have b := Yq b
   refine Zo rfl rfl (Zo rfl rfl (Zo rfl rfl (Za rfl rfl (Xb rfl rfl) (Za rfl rfl (Zd rfl) (Ze (Zb (H3 _ _ ?_)))))))
   refine Yb ?_
   exact Zi [_] ⟨rfl, trivial⟩ ⟨congrArg Value.bool (by first | exact Zn (fun q => by unfold Xq at q; omega) | (rw [Zbz]; exact Zbg ⟨fun q => by unfold Xq; omega, fun q => by unfold Xq at q; omega⟩)), E⟩
  have u := a
  have a := Yq a
  refine Zo rfl rfl (Zo rfl rfl (Zo rfl rfl (Zo rfl rfl (Zo rfl rfl (Za rfl rfl (Xb rfl rfl) (Za rfl rfl (Zf rfl) (Zo rfl rfl ?_)))))))
  refine Zo rfl rfl (Zo rfl rfl (Za rfl rfl (Xb rfl rfl) (Za rfl rfl (Zd rfl) (Ze (Zb (H3 _ _ ?_))))))
  refine Yb ?_
  exact Zi [_] ⟨rfl, trivial⟩ ⟨congrArg Value.bool (by first | exact Zn (fun q => by unfold Xq at q; omega) | (rw [Zbz]; exact Zbg ⟨fun q => by unfold Xq; omega, fun q => by unfold Xq at q; omega⟩)), E⟩
 have r := c
 have c := Yq c
 refine Zo rfl rfl (Zo rfl rfl (Zo rfl rfl (Zo rfl rfl (Zo rfl rfl (Za rfl rfl (Xb rfl rfl) (Za rfl rfl (Zf rfl) (Zo rfl rfl ?_)))))))
 refine Zo rfl rfl (Zo rfl rfl (Zo rfl rfl (Zo rfl rfl (Za rfl rfl (Xb rfl rfl) (Za rfl rfl (Zf rfl) (Zo rfl rfl (Zo rfl rfl ?_)))))))
 refine Zo rfl rfl (Za rfl rfl (Xb rfl rfl) (Za rfl rfl (Zd rfl) (Ze (Zb (H3 _ _ ?_)))))
 refine Yb ?_
 exact Zi [_] ⟨rfl, trivial⟩ ⟨congrArg Value.bool (by first | exact Zn (fun q => by unfold Xq at q; omega) | (rw [Zbz]; exact Zbg ⟨fun q => by unfold Xq; omega, fun q => by unfold Xq at q; omega⟩)), E⟩

end Go.Proofs.Ytkmhgeppenifoaa
