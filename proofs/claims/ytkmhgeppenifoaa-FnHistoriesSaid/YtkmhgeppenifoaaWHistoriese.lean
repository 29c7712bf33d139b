/- Walks of functions that FnHistories reaches: what each returns, and that it leaves the memory that was there alone. -/
import Derived.Test.YtkmhgeppenifoaaLibA
import Derived.Test.YtkmhgeppenifoaaLibB
import Derived.Test.YtkmhgeppenifoaaWHistories
import Derived.Test.YtkmhgeppenifoaaWHistoriesb
import Derived.Test.YtkmhgeppenifoaaWHistoriesc
import Derived.Test.YtkmhgeppenifoaaWHistoriesd
import Derived.Test.YtkmhgeppenifoaaProg
namespace Go.Proofs.Ytkmhgeppenifoaa
open Go.KLib Go.Shelf
set_option maxHeartbeats 1000000
set_option maxRecDepth 20000
set_option linter.unusedVariables false
set_option linter.unusedSimpArgs false
namespace THistoriese
theorem agg129 : Yk Try.prog 129 = some true := by kernel_rfl
theorem agg22 : Yk Try.prog 22 = some false := by kernel_rfl
theorem agg3 : Yk Try.prog 3 = some false := by kernel_rfl
theorem agg34 : Yk Try.prog 34 = some false := by kernel_rfl
theorem agg36 : Yk Try.prog 36 = some true := by kernel_rfl
theorem agg55 : Yk Try.prog 55 = some false := by kernel_rfl
theorem agg57 : Yk Try.prog 57 = some true := by kernel_rfl
theorem agg63 : Yk Try.prog 63 = some true := by kernel_rfl
theorem el22 : elB Try.prog 22 = some 3 := by kernel_rfl
theorem el34 : elB Try.prog 34 = some 129 := by kernel_rfl
theorem el55 : elB Try.prog 55 = some 36 := by kernel_rfl
theorem fa36_0 : faB Try.prog 36 0 = some 0 := by kernel_rfl
theorem fa36_1 : faB Try.prog 36 1 = some 1 := by kernel_rfl
theorem fa57_0 : faB Try.prog 57 0 = some 0 := by kernel_rfl
theorem fa57_1 : faB Try.prog 57 1 = some 1 := by kernel_rfl
theorem fk116 : fnB Try.prog 116 = true := by kernel_rfl
theorem fk117 : fnB Try.prog 117 = true := by kernel_rfl
theorem fk118 : fnB Try.prog 118 = true := by kernel_rfl
theorem fk21 : fnB Try.prog 21 = true := by kernel_rfl
theorem fk24 : fnB Try.prog 24 = true := by kernel_rfl
theorem fk30 : fnB Try.prog 30 = true := by kernel_rfl
theorem fk31 : fnB Try.prog 31 = true := by kernel_rfl
theorem fk32 : fnB Try.prog 32 = true := by kernel_rfl
theorem fk33 : fnB Try.prog 33 = true := by kernel_rfl
theorem fk34 : fnB Try.prog 34 = true := by kernel_rfl
theorem fk35 : fnB Try.prog 35 = true := by kernel_rfl
theorem fk36 : fnB Try.prog 36 = true := by kernel_rfl
theorem fk37 : fnB Try.prog 37 = true := by kernel_rfl
theorem fk38 : fnB Try.prog 38 = true := by kernel_rfl
theorem fk39 : fnB Try.prog 39 = true := by kernel_rfl
theorem fk40 : fnB Try.prog 40 = true := by kernel_rfl
theorem fk41 : fnB Try.prog 41 = true := by kernel_rfl
theorem fk42 : fnB Try.prog 42 = true := by kernel_rfl
theorem fk43 : fnB Try.prog 43 = true := by kernel_rfl
theorem fk44 : fnB Try.prog 44 = true := by kernel_rfl
theorem fk81 : fnB Try.prog 81 = true := by kernel_rfl
theorem fk82 : fnB Try.prog 82 = true := by kernel_rfl
theorem fk83 : fnB Try.prog 83 = true := by kernel_rfl
theorem fk89 : fnB Try.prog 89 = true := by kernel_rfl
theorem fk90 : fnB Try.prog 90 = true := by kernel_rfl
theorem fk92 : fnB Try.prog 92 = true := by kernel_rfl
theorem fk95 : fnB Try.prog 95 = true := by kernel_rfl
theorem ist129 : Zat Try.prog 129 4 = true := by kernel_rfl
theorem mixed : Try.prog.follows .mixedOrders = true := by kernel_rfl
theorem pl36 : Qu Try.prog 36 = some [(0, 1), (1, 1)] := by kernel_rfl
theorem pl63 : Qu Try.prog 63 = some [(0, 1)] := by kernel_rfl
theorem sz129 : Ya Try.prog 129 = some 4 := by kernel_rfl
theorem sz3 : Ya Try.prog 3 = some 1 := by kernel_rfl
theorem sz36 : Ya Try.prog 36 = some 2 := by kernel_rfl
theorem sz55 : Ya Try.prog 55 = some 1 := by kernel_rfl
theorem sz57 : Ya Try.prog 57 = some 2 := by kernel_rfl
theorem sz63 : Ya Try.prog 63 = some 1 := by kernel_rfl
theorem un4 : Try.prog.underlying 4 = some (.bool) := by kernel_rfl
theorem zr3 : Yw Try.prog 3 = some (.int .i64 0) := by kernel_rfl
theorem zr36 : Yw Try.prog 36 = some (.agg #[.slice none 0 0, .slice none 0 0]) := by kernel_rfl
theorem zr57 : Yw Try.prog 57 = some (.agg #[.int .i64 0, .slice none 0 0]) := by kernel_rfl
theorem zr63 : Yw Try.prog 63 = some (.agg #[.slice none 0 0]) := by kernel_rfl
end THistoriese
open THistoriese

/-- spec.l7Any -/
theorem Zen {w : World} {b_c : Nat} (am : Cu w b_c) :
 Ctr Try.prog 82 #[(.pointer (some ⟨b_c, 0, none⟩))] w (fun v w' => ∃ (Q : Int) (R : List GD) (M : Value) (J : List Gv), v = .agg #[.int .i64 Q, M] ∧ Ol Gv.cs 36 2 w' M J ∧ Lo w.heap.size M ∧ OdG 3 129 w' w.heap.size w'.heap.size J (R) ∧ SepH M J ∧ (R.length ≤ 8 ∧ Zau R ≤ 200 ∧ 0 ≤ Q ∧ Q ≤ 1000) ∧ Cu w' b_c ∧ Ch [b_c] w w') := by
 have a8 := am.lt
 have E := Ch.refl [b_c] w
 refine Yj (N := 29) (vs0 := [(.pointer (some ⟨b_c, 0, none⟩))]) Try.func82 rfl rfl rfl ?_
 refine Zh fun K1 H1 => ?_
 refine Zc (Zl rfl rfl ?_)
 refine Yd zr57 fun an W2 ad C2 cq => ?_
 have cr := C2.size
 have E := E.trans C2.of_nil
 have ct := ad.lt
 replace ad : Blk W2 an 57 [(.int .i64 0), (.slice none 0 0)] := ad
 refine Ze (Zb (H1 _ _ ?_))
 refine Zh fun K3 H3 => ?_
 refine Zc (Za rfl rfl (Zg rfl) (Zl rfl rfl ?_))
 have F4 := am.ch0 C2
 refine Step.call (Zm (xs := [.tmp 4]) fk116 rfl) (Zeq F4 ) fun cu W5 bi => ?_
 obtain ⟨f, A, aU, a, rfl, y, b, t, h, ac, bj, C5⟩ := bi
 have cv := C5.size
 have E := E.trans C5
 obtain ⟨d, e, rfl, aM, c⟩ := y.opn
 have aN := Zai ac
 have cw := ac.2.2
 have cx := t.1
 refine Zl rfl rfl ?_
 refine Yd zr57 fun aO W6 aP C6 cy => ?_
 have cz := C6.size
 have E := E.trans C6.of_nil
 have cA := aP.lt
 replace aP : Blk W6 aO 57 [(.int .i64 0), (.slice none 0 0)] := aP
 refine Zl rfl rfl ?_
 refine Zk (off := 0) 2 aP sz57 rfl (us := [(.int .i64 f), (.slice d (a).length e)]) rfl rfl rfl rfl fun W7 O C7 => ?_
 have cB := C7.size
 have E := E.step C7 (lS om)
 replace O : Blk W7 aO 57 [(.int .i64 f), (.slice d (a).length e)] := O
 refine Ze (Zb (H3 _ _ ?_))
 refine Zh fun K9 H9 => ?_
 refine Zh fun cC bk => ?_
 refine Zc (Za rfl rfl (Zg rfl) (Zl rfl rfl ?_))
 have bm := (bj.ch0 C6).ch C7 (oS om)
 refine Step.call (Zm (xs := [.tmp 6, .const (Go.Value.int Go.IntKind.i64 14)]) fk95 rfl) (Zs bm _ om) fun cD bn bp => ?_
 obtain ⟨bq, rfl, a9, aQ, I⟩ := bp
 have br := I.size
 have E := E.trans I
 refine Ze (Zb (bk _ _ ?_))
 refine Yn ?_
 refine Zh fun cE bs => ?_
 refine Zc (Za rfl rfl (Qg rfl rfl) (Za rfl rfl (Zf rfl) (Ze (Zb (bs _ _ ?_)))))
 refine Zz rfl (fun ae => ?_) (fun ae => ?_)
 ·have aV := ae
  have ae := Yt ae
  refine Zc (Za rfl rfl (Zg rfl) (Zl rfl rfl ?_))
  refine Zq (cs := ics) (parts := [(0, .const (Go.Value.int Go.IntKind.i64 0)), (1, .const (Go.Value.int Go.IntKind.i64 999)), (2, .const (Go.Value.int Go.IntKind.i64 998)), (3, .const (Go.Value.int Go.IntKind.i64 1000))]) (0 : Int) [0, 999, 998, 1000] el22 sz3 zr3 Yx (by decide) rfl rfl rfl (by decide) (by decide) rfl fun bu cF ao ap af => ?_
  have bv := af.size
  have E := E.trans af.of_nil
  obtain ⟨ba, bb, rfl, bc, aW⟩ := ao.opn
  refine Zl rfl rfl ?_
  have bw := aQ.ch0 af
  refine Step.call (Zm (xs := [.tmp 10, .tmp 11]) fk117 rfl) (Zx bw ao (by decide) bn.heap.size om ap) fun bz cG aX => ?_
  obtain ⟨G, rfl, ag, aY, ak⟩ := aX
  have bA := ak.size
  have E := E.trans ak
  have bB : 0 ≤ G ∧ G ≤ 1000 := by have bC := ag; simp at bC; omega
  refine Za rfl rfl (Zd fa57_0 rfl) (Zl rfl rfl ?_)
  have bD := ((O.ch I (nS om)).ch0 af).ch ak (nS om)
  refine Zy (off := 0) bD sz3 rfl rfl rfl rfl fun bF S al => ?_
  have bG := al.size
  have E := E.step al (lS om)
  replace S : Blk bF aO 57 [(.int .i64 G), (.slice d (a).length e)] := S
  refine Ze (Yc (Zb (H9 _ _ ?_)))
  refine Zh fun cH bH => ?_
  refine Zc (Za rfl rfl (Zi S.at_ agg57 sz57 rfl) (Zl rfl rfl ?_))
  have bI := ((((((ad.ch C5 (nS om)).ch0 C6).ch C7 (nS om)).ch I (nS om)).ch0 af).ch ak (nS om)).ch al (nS om)
  refine Zk (off := 0) 2 bI sz57 rfl (us := [(.int .i64 G), (.slice d (a).length e)]) rfl rfl rfl rfl fun aq T au => ?_
  have bJ := au.size
  have E := E.step au (lS om)
  replace T : Blk aq an 57 [(.int .i64 G), (.slice d (a).length e)] := T
  refine Ze (Zb (bH _ _ ?_))
  refine Zv ?_
  have bK := ((((((y.ch0 C6).ch C7 (dS b c om)).ch I (dS b c om)).ch0 af).ch ak (dS b c om)).ch al (dS b c om)).ch au (dS b c om)
  have bL := ((((((t.ch0 C6).ch C7 (oS om)).ch I (oS om)).ch0 af).ch ak (oS om)).ch al (oS om)).ch au (oS om)
  have av : Ol Gv.cs 36 2 aq (.slice d (a).length e) a := by
   have hx := bK
   exact hx
  have aw : OdG 3 129 aq w.heap.size aq.heap.size a (A) := by
   have hx := bL.up (lo' := w.heap.size) (hi' := aq.heap.size) om om
   exact hx
  have bM := (aY.ch al (oS om)).ch au (oS om)
  exact Zj [_] (Zn T rfl agg57 sz57 trivial) ⟨G, A, (.slice d (a).length e), a, (congrArg (fun zq => (Value.agg #[.int .i64 zq, (.slice d (a).length e)])) (by first | rfl | simp_all)), av, (Lo.down b om), aw, h, (by first | omega | exact Zhd aN H om om | exact Zhc om om), bM, E⟩
 have aV := ae
 have ae := Yu ae
 refine Zh fun cI bN => ?_
 refine Zc (Za rfl rfl (Qg rfl rfl) (Za rfl rfl (Zf rfl) (Ze (Zb (bN _ _ ?_)))))
 refine Zz rfl (fun K => ?_) (fun K => ?_)
 ·have aZ := K
  have K := Yt K
  refine Yv ([b_c] ++ (bl (.slice d (a).length e))) 10 mixed rfl fun be ah => ?_
  have bO := ah.size
  have E := E.trans ah.of_nil
  refine dV 0 rfl rfl rfl (fun _ => Zd fa57_1 rfl) ?_
  have a0 := (O.ch I (nS om)).ch0 ah
  refine dT 1 rfl rfl rfl (Yi a0.at_ (fun i hm => by rcases List.mem_append.1 hm with hm | hm; (have P := List.mem_singleton.1 hm; omega); (have P := b _ hm; have aa := c _ hm; omega)) agg55 rfl rfl ?_)
  refine dV 2 rfl rfl rfl (fun _ => Zd fa57_1 rfl) ?_
  refine dT 3 rfl rfl rfl (Yi a0.at_ (fun i hm => by rcases List.mem_append.1 hm with hm | hm; (have P := List.mem_singleton.1 hm; omega); (have P := b _ hm; have aa := c _ hm; omega)) agg55 rfl rfl ?_)
  refine dV 4 rfl rfl rfl (fun _ => Yr (by rw [el55]; rfl) rfl) (dV 5 rfl rfl rfl (fun _ => Xe om rfl rfl) (dV 6 rfl rfl rfl (fun _ => Zg rfl) (dO 7 (Zr rfl rfl rfl ?_))))
  have bP := aQ.ch0 ah
  refine Step.call (Zm (xs := [.tmp 22]) fk118 rfl) (Zgq bP ) fun bQ bR a1 => ?_
  obtain ⟨k, l, aR, aS, rfl, D, m, F, n, z, H, a2, ai⟩ := a1
  have bS := ai.size
  have E := E.trans ai
  obtain ⟨o, q, rfl, ax, B⟩ := D.opn
  obtain ⟨r, s, rfl, ay, C⟩ := F.opn
  have U : Ch ([b_c] ++ (bl (.slice d (a).length e))) be bR := ((Ch.refl _ _).step ai (fun i hm => by have bT := List.mem_singleton.1 hm; exact .inr (by rw [bT]; exact (List.mem_append_left _ (List.mem_singleton.2 rfl)))))
  refine ⟨U, ?_⟩
  refine dO 8 (Zr rfl rfl rfl ?_)
  have bf := ((((y.ch0 C6).ch C7 (dS b c om)).ch I (dS b c om)).ch0 ah).ch ai (dS b c om)
  refine Zhm (j := (((a.length : Nat) : Int) - 1).toNat) bf el55 sz36 rfl rfl om om fun bU bV bg a3 => ?_
  refine ⟨U, ?_⟩
  refine dO 9 (Zr rfl rfl rfl ?_)
  refine Zhp (j := (((a.length : Nat) : Int) - 1).toNat) (⟨(⟨o, (k).length, q⟩ : Sv), (⟨r, (l).length, s⟩ : Sv)⟩ : Gv) bf a3 Gv.len sz36 rfl rfl rfl rfl om fun bh az ab => ?_
  have bW := ab.size
  have E := E.step ab (fun i hi => .inl (by have P := b _ hi; omega))
  have bX := (((((t.ch0 C6).ch C7 (oS om)).ch I (oS om)).ch0 ah).ch ai (oS om)).chH ab h
  obtain ⟨bY, aj⟩ := Zhf (xs := a) (j := (((a.length : Nat) : Int) - 1).toNat) om
  obtain ⟨bZ, aA⟩ := Zhf (xs := A) (j := (((a.length : Nat) : Int) - 1).toNat) om
  have b0 := D.ch ab (fun g hg hm => by have P := b _ hm; have aa := c _ hm; have a4 := m _ hg; have a5 := B _ hg; omega)
  have b1 := F.ch ab (fun g hg hm => by have P := b _ hm; have aa := c _ hm; have a4 := n _ hg; have a5 := C _ hg; omega)
  have aB := OdG.put (p := (⟨(⟨o, (k).length, q⟩ : Sv), (⟨r, (l).length, s⟩ : Sv)⟩ : Gv)) (x := (⟨k, l⟩ : GD)) (hi' := bh.heap.size) bX aj aA b0 b1 (Lo.down m om) (Lo.down n om) (fun g hm => by have P := m _ hm; have aa := B _ hm; omega) (fun g hm => by have P := n _ hm; have aa := C _ hm; omega) (fun g hm hg => by exact z _ hm hg) om om
  have aC : SepH (.slice d (a).length e) (a.set ((((a.length : Nat) : Int) - 1).toNat) (⟨(⟨o, (k).length, q⟩ : Sv), (⟨r, (l).length, s⟩ : Sv)⟩ : Gv)) := SepH.put h (fun g hm hg => by have P := m _ hm; have aa := B _ hm; have a4 := b _ hg; have a5 := c _ hg; omega) (fun g hm hg => by have P := n _ hm; have aa := C _ hm; have a4 := b _ hg; have a5 := c _ hg; omega)
  have aD : Ch ([b_c] ++ (bl (.slice d (a).length e))) be bh := (U.step ab (fun i hm => by exact .inr (List.mem_append_right _ hm)))
  refine ⟨aD, ?_⟩
  refine Zw (by kernel_rfl) ?_
  refine Yc (Zb (H9 _ _ ?_))
  refine Zh fun cJ b2 => ?_
  refine Zc ?_
  have b3 := (a0.ch ai (nS om)).ch ab (fun hm => by have P := b _ hm; have aa := c _ hm; omega)
  refine Za rfl rfl (Zi b3.at_ agg57 sz57 rfl) (Zl rfl rfl ?_)
  have b4 := ((((((ad.ch C5 (nS om)).ch0 C6).ch C7 (nS om)).ch I (nS om)).ch0 ah).ch ai (nS om)).ch ab (fun hm => by have P := b _ hm; have aa := c _ hm; omega)
  refine Zk (off := 0) 2 b4 sz57 rfl (us := [(.int .i64 f), (.slice d (a).length e)]) rfl rfl rfl rfl fun aE V aF => ?_
  have b5 := aF.size
  have E := E.step aF (lS om)
  replace V : Blk aE an 57 [(.int .i64 f), (.slice d (a).length e)] := V
  refine Ze (Zb (b2 _ _ ?_))
  refine Zv ?_
  have b6 := az.ch aF (dS b c om)
  have b7 := aB.ch aF (oS om)
  have aG : Ol Gv.cs 36 2 aE (.slice d (a).length e) (a.set ((((a.length : Nat) : Int) - 1).toNat) (⟨(⟨o, (k).length, q⟩ : Sv), (⟨r, (l).length, s⟩ : Sv)⟩ : Gv)) := by
   have hx := b6
   exact hx
  have aH : OdG 3 129 aE w.heap.size aE.heap.size (a.set ((((a.length : Nat) : Int) - 1).toNat) (⟨(⟨o, (k).length, q⟩ : Sv), (⟨r, (l).length, s⟩ : Sv)⟩ : Gv)) ((A.set ((((a.length : Nat) : Int) - 1).toNat) (⟨k, l⟩ : GD))) := by
   have hx := b7.up (lo' := w.heap.size) (hi' := aE.heap.size) om om
   exact hx
  have b8 := (a2.ch ab (fun i hm => by have P := b _ hm; have aa := c _ hm; omega)).ch aF (oS om)
  exact Zj [_] (Zn V rfl agg57 sz57 trivial) ⟨f, (A.set ((((a.length : Nat) : Int) - 1).toNat) (⟨k, l⟩ : GD)), (.slice d (a).length e), (a.set ((((a.length : Nat) : Int) - 1).toNat) (⟨(⟨o, (k).length, q⟩ : Sv), (⟨r, (l).length, s⟩ : Sv)⟩ : Gv)), (congrArg (fun zq => (Value.agg #[.int .i64 zq, (.slice d (a).length e)])) (by first | rfl | simp_all)), aG, (Lo.down b om), aH, aC, (by first | omega | exact Zhd aN H om om | exact Zhc om om), b8, E⟩
 have aZ := K
 have K := Yu K
 refine Zh fun cK b9 => ?_
 refine Zc (Za rfl rfl (Qg rfl rfl) (Za rfl rfl (Zf rfl) (Ze (Zb (b9 _ _ ?_)))))
 refine Zz rfl (fun L => ?_) (fun L => ?_)
 ·have a6 := L
  have L := Yt L
  refine Zc (Za rfl rfl (Zd fa57_1 rfl) (Zl rfl rfl ?_))
  have ca := O.ch I (nS om)
  refine Zy (off := 1) ca sz55 rfl rfl rfl rfl fun cb X aT => ?_
  have cc := aT.size
  have E := E.step aT (lS om)
  replace X : Blk cb aO 57 [(.int .i64 f), (.slice none 0 0)] := X
  refine Ze (Yc (Zb (H9 _ _ ?_)))
  refine Zh fun cL cd => ?_
  refine Zc (Za rfl rfl (Zi X.at_ agg57 sz57 rfl) (Zl rfl rfl ?_))
  have ce := ((((ad.ch C5 (nS om)).ch0 C6).ch C7 (nS om)).ch I (nS om)).ch aT (nS om)
  refine Zk (off := 0) 2 ce sz57 rfl (us := [(.int .i64 f), (.slice none 0 0)]) rfl rfl rfl rfl fun cf Y a7 => ?_
  have cg := a7.size
  have E := E.step a7 (lS om)
  replace Y : Blk cf an 57 [(.int .i64 f), (.slice none 0 0)] := Y
  refine Ze (Zb (cd _ _ ?_))
  refine Zv ?_
  have ci := (aQ.ch aT (oS om)).ch a7 (oS om)
  exact Zj [_] (Zn Y rfl agg57 sz57 trivial) ⟨f, ([] : List GD), (.slice none 0 0), [], (congrArg (fun zq => (Value.agg #[.int .i64 zq, (.slice none 0 0)])) (by first | rfl | simp_all)), (Ol.nil _), (Lo.nil _), (OdG.nil), (fun u hu => by cases hu), (by first | omega | exact Zhd aN H om om | exact Zhc om om), ci, E⟩
 have a6 := L
 have L := Yu L
 refine Yf ?_
 refine Yc (Zb (H9 _ _ ?_))
 refine Zh fun cM cj => ?_
 refine Zc ?_
 have ck := O.ch I (nS om)
 refine Za rfl rfl (Zi ck.at_ agg57 sz57 rfl) (Zl rfl rfl ?_)
 have cl := (((ad.ch C5 (nS om)).ch0 C6).ch C7 (nS om)).ch I (nS om)
 refine Zk (off := 0) 2 cl sz57 rfl (us := [(.int .i64 f), (.slice d (a).length e)]) rfl rfl rfl rfl fun aI Z aJ => ?_
 have cm := aJ.size
 have E := E.step aJ (lS om)
 replace Z : Blk aI an 57 [(.int .i64 f), (.slice d (a).length e)] := Z
 refine Ze (Zb (cj _ _ ?_))
 refine Zv ?_
 have cn := (((y.ch0 C6).ch C7 (dS b c om)).ch I (dS b c om)).ch aJ (dS b c om)
 have co := (((t.ch0 C6).ch C7 (oS om)).ch I (oS om)).ch aJ (oS om)
 have aK : Ol Gv.cs 36 2 aI (.slice d (a).length e) a := by
  have hx := cn
  exact hx
 have aL : OdG 3 129 aI w.heap.size aI.heap.size a (A) := by
  have hx := co.up (lo' := w.heap.size) (hi' := aI.heap.size) om om
  exact hx
 have cp := aQ.ch aJ (oS om)
 exact Zj [_] (Zn Z rfl agg57 sz57 trivial) ⟨f, A, (.slice d (a).length e), a, (congrArg (fun zq => (Value.agg #[.int .i64 zq, (.slice d (a).length e)])) (by first | rfl | simp_all)), aK, (Lo.down b om), aL, h, (by first | omega | exact Zhd aN H om om | exact Zhc om om), cp, E⟩

/-- spec.DrawAppendBatch -/
theorem Zcq {w : World} {LL_code S : Nat} {B : Value} {code : List Int} (o : Ls ucs 1 w LL_code S B code) (hb : code.length ≤ 4194304) :
 Ctr Try.prog 31 #[B] w (fun v w' => ∃ (F : Int) (G : List GD) (aU : List Chg) (C : Value) (z : List Gv) (H : Value), v = .tuple #[.agg #[.int .i64 F, C], .agg #[H]] ∧ Ol Gv.cs 36 2 w' C z ∧ Lo w.heap.size C ∧ OdG 3 129 w' w.heap.size w'.heap.size z (G) ∧ SepH C z ∧ Ol Chg.cs 142 5 w' H (aU) ∧ Lo w.heap.size H ∧ (G.length ≤ 8 ∧ Zau G ≤ 200 ∧ 0 ≤ F ∧ F ≤ 1000) ∧ ((aU.length : Int) ≤ 4) ∧ Ch [] w w') := by
 obtain ⟨T, U, I⟩ := o.val
 subst I
 have aC := o.len
 have o := o.here (by decide)
 have E := Ch.refl [] w
 refine Yj (N := 27) (vs0 := [(.slice T code.length U)]) Try.func31 rfl rfl rfl ?_
 refine Zh fun K1 H1 => ?_
 refine Zc (Zl rfl rfl ?_)
 refine Yd zr57 fun ab W2 ak C2 bK => ?_
 have bL := C2.size
 have E := E.trans C2
 have bM := ak.lt
 replace ak : Blk W2 ab 57 [(.int .i64 0), (.slice none 0 0)] := ak
 refine Zl rfl rfl ?_
 refine Yd zr63 fun ac W3 al C3 bN => ?_
 have bO := C3.size
 have E := E.trans C3
 have bP := al.lt
 replace al : Blk W3 ac 63 [(.slice none 0 0)] := al
 refine Ze (Zb (H1 _ _ ?_))
 refine Zh fun K4 H4 => ?_
 refine Zc (Za rfl rfl (Zg rfl) (Zl rfl rfl ?_))
 have F5 := (o.ch0 C2).ch0 C3
 refine Step.call (Zm (xs := [.tmp 6]) fk81 rfl) (Zel F5 om) fun bQ W6 a1 => ?_
 obtain ⟨aD, rfl, aV, bR, C6⟩ := a1
 have bS := C6.size
 have E := E.trans C6
 have bT := aV.lt
 refine Za rfl rfl (Zf rfl) (Ze (Zb (H4 _ _ ?_)))
 refine Zh fun K7 H7 => ?_
 refine Zc (Za rfl rfl (Zg rfl) (Zl rfl rfl ?_))
 refine Step.call (Zm (xs := [.tmp 8]) fk82 rfl) (Zen aV ) fun bU W8 a2 => ?_
 obtain ⟨g, u, aH, a, rfl, q, b, n, p, aW, a3, C8⟩ := a2
 have bV := C8.size
 have E := E.step C8 (lS om)
 obtain ⟨c, d, rfl, aE, f⟩ := q.opn
 have bW := n.1
 refine Zl rfl rfl ?_
 refine Yd zr57 fun aX W9 aF C9 bX => ?_
 have bY := C9.size
 have E := E.trans C9
 have bZ := aF.lt
 replace aF : Blk W9 aX 57 [(.int .i64 0), (.slice none 0 0)] := aF
 refine Zl rfl rfl ?_
 refine Zk (off := 0) 2 aF sz57 rfl (us := [(.int .i64 g), (.slice c (a).length d)]) rfl rfl rfl rfl fun a4 x J => ?_
 have a5 := J.size
 have E := E.step J (lS om)
 replace x : Blk a4 aX 57 [(.int .i64 g), (.slice c (a).length d)] := x
 refine Ze (Zb (H7 _ _ ?_))
 refine Zh fun b0 a6 => ?_
 refine Zh fun b1 a7 => ?_
 refine Zc (Za rfl rfl (Zd fa57_1 rfl) (Za rfl rfl (Zp x.at_ agg55 rfl rfl) (Za rfl rfl (Yr (by rw [el55]; rfl) rfl) (Za rfl rfl (Qg rfl rfl) (Ze (Zb (a7 _ _ ?_)))))))
 refine Zz rfl (fun A => ?_) (fun A => ?_)
 ·have aI := A
  have A := Yt A
  refine Zh fun b2 a8 => ?_
  refine Zc (Za rfl rfl (Zi x.at_ agg57 sz57 rfl) (Za rfl rfl (Ys (parts := []) (cells := [(.slice none 0 0)]) zr63 pl63 rfl rfl) (Zl rfl rfl ?_)))
  have a9 := ((((ak.ch0 C3).ch0 C6).ch C8 (nS om)).ch0 C9).ch J (nS om)
  refine Zk (off := 0) 2 a9 sz57 rfl (us := [(.int .i64 g), (.slice c (a).length d)]) rfl rfl rfl rfl fun ba K am => ?_
  have bb := am.size
  have E := E.step am (lS om)
  replace K : Blk ba ab 57 [(.int .i64 g), (.slice c (a).length d)] := K
  refine Zl rfl rfl ?_
  have bc := ((((al.ch0 C6).ch C8 (nS om)).ch0 C9).ch J (nS om)).ch am (nS om)
  refine Zk (off := 0) 1 bc sz63 rfl (us := [(.slice none 0 0)]) rfl rfl rfl rfl fun ad L an => ?_
  have be := an.size
  have E := E.step an (lS om)
  replace L : Blk ad ac 63 [(.slice none 0 0)] := L
  refine Ze (Zb (a8 _ _ ?_))
  refine Zv (Zt ?_)
  have bf := K.ch an (nS om)
  have bg := (((q.ch0 C9).ch J (dS b f om)).ch am (dS b f om)).ch an (dS b f om)
  have bh := (((n.ch0 C9).ch J (oS om)).ch am (oS om)).ch an (oS om)
  have ao : Ol Gv.cs 36 2 ad (.slice c (a).length d) a := by
   have hx := bg
   exact hx
  have ap : OdG 3 129 ad w.heap.size ad.heap.size a (u) := by
   have hx := bh.up (lo' := w.heap.size) (hi' := ad.heap.size) om om
   exact hx
  have aq : Ol Chg.cs 142 5 ad (.slice none 0 0) (([] : List Chg)) := by
   have hx := Ol.nil (cs := Chg.cs) (e := 142) (k := 5) ad
   first | exact hx | simpa using hx
  exact Zj [_, _] (Zn bf rfl agg57 sz57 (Zn L rfl agg63 sz63 trivial)) ⟨g, u, ([] : List Chg), (.slice c (a).length d), a, (.slice none 0 0), (congrArg (fun zq => (Value.tuple #[.agg #[.int .i64 zq, (.slice c (a).length d)], .agg #[(.slice none 0 0)]])) (by first | rfl | simp_all)), ao, (Lo.down b om), ap, p, aq, (Lo.nil _), om, (by first | omega | simp), E⟩
 have aI := A
 have A := Yu A
 refine Yf ?_
 refine Zb (a6 _ _ ?_)
 refine Zh fun b3 bi => ?_
 have aY := (q.ch0 C9).ch J (dS b f om)
 obtain ⟨Y, M, ae⟩ := Ol.lsE aY om
 have aJ := b Y (by rw [M]; simp)
 have aK := f Y (by rw [M]; simp)
 refine Yv ([aD] ++ [ab] ++ [ac]) 13 mixed rfl fun au X => ?_
 have bj := X.size
 have E := E.trans X
 have aL := x.ch0 X
 refine dT 0 rfl rfl rfl (Ye aL.at_ (fun i hm => by rcases List.mem_append.1 hm with hm | hm; (rcases List.mem_append.1 hm with hm | hm; (have O := List.mem_singleton.1 hm; omega); (have O := List.mem_singleton.1 hm; omega)); (have O := List.mem_singleton.1 hm; omega)) agg57 sz57 rfl ?_)
 refine dV 1 rfl rfl rfl (fun _ => Zg rfl) (dV 2 rfl rfl rfl (fun _ => Zd fa57_1 rfl) ?_)
 refine dT 3 rfl rfl rfl (Yi aL.at_ (fun i hm => by rcases List.mem_append.1 hm with hm | hm; (rcases List.mem_append.1 hm with hm | hm; (have O := List.mem_singleton.1 hm; omega); (have O := List.mem_singleton.1 hm; omega)); (have O := List.mem_singleton.1 hm; omega)) agg55 rfl rfl ?_)
 refine dV 4 rfl rfl rfl (fun _ => Zd fa57_1 rfl) ?_
 refine dT 5 rfl rfl rfl (Yi aL.at_ (fun i hm => by rcases List.mem_append.1 hm with hm | hm; (rcases List.mem_append.1 hm with hm | hm; (have O := List.mem_singleton.1 hm; omega); (have O := List.mem_singleton.1 hm; omega)); (have O := List.mem_singleton.1 hm; omega)) agg55 rfl rfl ?_)
 refine dV 6 rfl rfl rfl (fun _ => Yr (by rw [el55]; rfl) rfl) (dV 7 rfl rfl rfl (fun _ => Xe om rfl rfl) ?_)
 have bk := ae.ch0 X
 have aZ := ((n.ch0 C9).ch J (oS om)).ch0 X
 refine dT 8 rfl rfl rfl (Xh (j := (((a.length : Nat) : Int) - 1).toNat) bk Gv.len el55 sz36 rfl rfl om om fun bm aM av aN => ?_)
 obtain ⟨D, af, y, P⟩ := aZ.rdg.get av
 obtain ⟨⟨aO, bn, aP⟩, ⟨aQ, bp, aR⟩⟩ := aM
 obtain rfl := y.eqn
 obtain rfl := P.eqn
 have bq := y.len
 have br := P.len
 replace y : Ls ics 1 au W6.heap.size W8.heap.size (.slice aO D.V.length aP) D.V := y
 replace P : Ls GEdge.cs 4 au W6.heap.size W8.heap.size (.slice aQ D.E.length aR) D.E := P
 have bs := Zdi af
 refine dT 9 rfl rfl rfl (Ye aN (fun i hm => by rcases List.mem_append.1 hm with hm | hm; (rcases List.mem_append.1 hm with hm | hm; (have O := List.mem_singleton.1 hm; omega); (have O := List.mem_singleton.1 hm; omega)); (have O := List.mem_singleton.1 hm; omega)) agg36 sz36 rfl ?_)
 refine dO 10 (Zr rfl rfl rfl ?_)
 have bu := ((a3.ch0 C9).ch J (oS om)).ch0 X
 refine Step.call (Zm (xs := [.tmp 17, .tmp 25, .const (Go.Value.int Go.IntKind.i64 4)]) fk83 rfl) (Qd bu y P _ om om om) fun bv bw aS => ?_
 obtain ⟨r, aG, rfl, s, h, aT, bz, ag⟩ := aS
 have bA := ag.size
 have E := E.step ag (lS om)
 obtain ⟨l, m, rfl, aw, t⟩ := s.opn
 have Z : Ch ([aD] ++ [ab] ++ [ac]) au bw := ((Ch.refl _ _).step ag (fun i hm => by have ax := List.mem_singleton.1 hm; exact .inr (by rw [ax]; exact (List.mem_append_left _ (List.mem_append_left _ (List.mem_singleton.2 rfl))))))
 refine ⟨Z, ?_⟩
 refine dO 11 (Zr rfl rfl rfl ?_)
 have bB := ((((((ak.ch0 C3).ch0 C6).ch C8 (nS om)).ch0 C9).ch J (nS om)).ch0 X).ch ag (nS om)
 refine Zk (off := 0) 2 bB sz57 rfl (us := [(.int .i64 g), (.slice c (a).length d)]) rfl rfl rfl rfl fun a0 Q ah => ?_
 have bC := ah.size
 have E := E.step ah (lS om)
 replace Q : Blk a0 ab 57 [(.int .i64 g), (.slice c (a).length d)] := Q
 have aa : Ch ([aD] ++ [ab] ++ [ac]) au a0 := (Z.step ah (fun i hm => by have ax := List.mem_singleton.1 hm; exact .inr (by rw [ax]; exact (List.mem_append_left _ (List.mem_append_right _ (List.mem_singleton.2 rfl))))))
 refine ⟨aa, ?_⟩
 refine dO 12 (Zr rfl rfl rfl ?_)
 have bD := ((((((al.ch0 C6).ch C8 (nS om)).ch0 C9).ch J (nS om)).ch0 X).ch ag (nS om)).ch ah (nS om)
 refine Zk (off := 0) 1 bD sz63 rfl (us := [(.slice l (r).length m)]) rfl rfl rfl rfl fun ai R aj => ?_
 have bF := aj.size
 have E := E.step aj (lS om)
 replace R : Blk ai ac 63 [(.slice l (r).length m)] := R
 have ay : Ch ([aD] ++ [ab] ++ [ac]) au ai := (aa.step aj (fun i hm => by have ax := List.mem_singleton.1 hm; exact .inr (by rw [ax]; exact (List.mem_append_right _ (List.mem_singleton.2 rfl)))))
 refine ⟨ay, ?_⟩
 refine Zw (by kernel_rfl) ?_
 refine Zb (bi _ _ ?_)
 refine Zv ?_
 have bG := Q.ch aj (nS om)
 have bH := (((aY.ch0 X).ch ag (dS b f om)).ch ah (dS b f om)).ch aj (dS b f om)
 have bI := ((aZ.ch ag (oS om)).ch ah (oS om)).ch aj (oS om)
 have az : Ol Gv.cs 36 2 ai (.slice c (a).length d) a := by
  have hx := bH
  exact hx
 have aA : OdG 3 129 ai w.heap.size ai.heap.size a (u) := by
  have hx := bI.up (lo' := w.heap.size) (hi' := ai.heap.size) om om
  exact hx
 have bJ := (s.ch ah (dS h t om)).ch aj (dS h t om)
 have aB : Ol Chg.cs 142 5 ai (.slice l (r).length m) (r) := by
  have hx := bJ
  first | exact hx | simpa using hx
 exact Zj [_, _] (Zn bG rfl agg57 sz57 (Zn R rfl agg63 sz63 trivial)) ⟨g, u, r, (.slice c (a).length d), a, (.slice l (r).length m), (congrArg (fun zq => (Value.tuple #[.agg #[.int .i64 zq, (.slice c (a).length d)], .agg #[(.slice l (r).length m)]])) (by first | rfl | simp_all)), az, (Lo.down b om), aA, p, aB, (Lo.down h om), om, (by first | omega | simp), E⟩

/-- spec.DrawCompactHistory -/
theorem Zcc {w : World} {LL_code u : Nat} {m : Value} {code : List Int} (f : Ls ucs 1 w LL_code u m code) (hb : code.length ≤ 4194304) :
 Ctr Try.prog 39 #[m] w (fun v w' => ∃ (o : Int) (p : List GD) (Q : Int) (n : Value) (l : List Gv), v = .tuple #[.agg #[.int .i64 o, n], .int .i64 Q] ∧ Ol Gv.cs 36 2 w' n l ∧ Lo w.heap.size n ∧ OdG 3 129 w' w.heap.size w'.heap.size l (p) ∧ SepH n l ∧ (p.length ≤ 8 ∧ Zau p ≤ 200 ∧ 0 ≤ o ∧ o ≤ 1000) ∧ (-1 ≤ Q ∧ Q ≤ 1100) ∧ Ch [] w w') := by
 obtain ⟨x, y, q⟩ := f.val
 subst q
 have L := f.len
 have f := f.here (by decide)
 have E := Ch.refl [] w
 refine Yj (N := 21) (vs0 := [(.slice x code.length y)]) Try.func39 rfl rfl rfl ?_
 refine Zh fun K1 H1 => ?_
 refine Zc (Zl rfl rfl ?_)
 refine Yd zr57 fun F W2 M C2 aq => ?_
 have au := C2.size
 have E := E.trans C2
 have av := M.lt
 replace M : Blk W2 F 57 [(.int .i64 0), (.slice none 0 0)] := M
 refine Za rfl rfl (Zf rfl) (Ze (Zb (H1 _ _ ?_)))
 refine Zh fun K3 H3 => ?_
 refine Zc (Za rfl rfl (Zg rfl) (Zl rfl rfl ?_))
 have F4 := f.ch0 C2
 refine Step.call (Zm (xs := [.tmp 6]) fk81 rfl) (Zel F4 om) fun aw W5 ac => ?_
 obtain ⟨R, rfl, Y, ax, C5⟩ := ac
 have ay := C5.size
 have E := E.trans C5
 have az := Y.lt
 refine Za rfl rfl (Zf rfl) (Ze (Zb (H3 _ _ ?_)))
 refine Zh fun K6 H6 => ?_
 refine Zc (Za rfl rfl (Zg rfl) (Zl rfl rfl ?_))
 refine Step.call (Zm (xs := [.tmp 8]) fk82 rfl) (Zen Y ) fun aA W7 ad => ?_
 obtain ⟨e, r, S, a, rfl, j, d, h, k, Z, ae, C7⟩ := ad
 have aB := C7.size
 have E := E.step C7 (lS om)
 obtain ⟨b, c, rfl, O, g⟩ := j.opn
 have aC := h.1
 refine Zl rfl rfl ?_
 refine Yd zr57 fun aa W8 P C8 aD => ?_
 have aE := C8.size
 have E := E.trans C8
 have aF := P.lt
 replace P : Blk W8 aa 57 [(.int .i64 0), (.slice none 0 0)] := P
 refine Zl rfl rfl ?_
 refine Zk (off := 0) 2 P sz57 rfl (us := [(.int .i64 e), (.slice b (a).length c)]) rfl rfl rfl rfl fun W9 s C9 => ?_
 have aG := C9.size
 have E := E.step C9 (lS om)
 replace s : Blk W9 aa 57 [(.int .i64 e), (.slice b (a).length c)] := s
 refine Ze (Zb (H6 _ _ ?_))
 refine Zh fun aH af => ?_
 refine Yv ([R] ++ [F]) 13 mixed rfl fun ab B => ?_
 have ag := B.size
 have E := E.trans B
 have T := s.ch0 B
 refine dT 0 rfl rfl rfl (Ye T.at_ (fun i hm => by rcases List.mem_append.1 hm with hm | hm; (have G := List.mem_singleton.1 hm; omega); (have G := List.mem_singleton.1 hm; omega)) agg57 sz57 rfl ?_)
 refine dV 1 rfl rfl rfl (fun _ => Zd fa57_0 rfl) ?_
 refine dT 2 rfl rfl rfl (Yi T.at_ (fun i hm => by rcases List.mem_append.1 hm with hm | hm; (have G := List.mem_singleton.1 hm; omega); (have G := List.mem_singleton.1 hm; omega)) agg3 rfl rfl ?_)
 refine dV 3 rfl rfl rfl (fun _ => Zg rfl) (dV 4 rfl rfl rfl (fun _ => Zd fa57_1 rfl) ?_)
 refine dT 5 rfl rfl rfl (Yi T.at_ (fun i hm => by rcases List.mem_append.1 hm with hm | hm; (have G := List.mem_singleton.1 hm; omega); (have G := List.mem_singleton.1 hm; omega)) agg55 rfl rfl ?_)
 refine dV 6 rfl rfl rfl (fun _ => Yr (by rw [el55]; rfl) rfl) (dV 7 rfl rfl rfl (fun _ => Xc om rfl rfl) (dO 8 (Zr rfl rfl rfl ?_)))
 have ah := ((ae.ch0 C8).ch C9 (oS om)).ch0 B
 refine Step.call (Zm (xs := [.tmp 13, .tmp 17]) fk95 rfl) (Zs ah _ om) fun ai aj U => ?_
 obtain ⟨z, rfl, V, ak, C⟩ := U
 have al := C.size
 have E := E.step C (lS om)
 have A : Ch ([R] ++ [F]) ab aj := ((Ch.refl _ _).step C (fun i hm => by have X := List.mem_singleton.1 hm; exact .inr (by rw [X]; exact (List.mem_append_left _ (List.mem_singleton.2 rfl)))))
 refine ⟨A, ?_⟩
 refine dV 9 rfl rfl rfl (fun _ => Xc om rfl rfl) (dV 10 rfl rfl rfl (fun _ => Xe om rfl rfl) (dO 11 (Zr rfl rfl rfl ?_)))
 have am := (((((M.ch0 C5).ch C7 (nS om)).ch0 C8).ch C9 (nS om)).ch0 B).ch C (nS om)
 refine Zk (off := 0) 2 am sz57 rfl (us := [(.int .i64 e), (.slice b (a).length c)]) rfl rfl rfl rfl fun D t H => ?_
 have an := H.size
 have E := E.step H (lS om)
 replace t : Blk D F 57 [(.int .i64 e), (.slice b (a).length c)] := t
 have I : Ch ([R] ++ [F]) ab D := (A.step H (fun i hm => by have X := List.mem_singleton.1 hm; exact .inr (by rw [X]; exact (List.mem_append_right _ (List.mem_singleton.2 rfl)))))
 refine ⟨I, ?_⟩
 refine dV 12 rfl rfl rfl (fun _ => Zf rfl) ?_
 refine Zw (by kernel_rfl) ?_
 refine Zb (af _ _ ?_)
 refine Zv ?_
 have ao := ((((j.ch0 C8).ch C9 (dS d g om)).ch0 B).ch C (dS d g om)).ch H (dS d g om)
 have ap := ((((h.ch0 C8).ch C9 (oS om)).ch0 B).ch C (oS om)).ch H (oS om)
 have J : Ol Gv.cs 36 2 D (.slice b (a).length c) a := by
  have hx := ao
  exact hx
 have K : OdG 3 129 D w.heap.size D.heap.size a (r) := by
  have hx := ap.up (lo' := w.heap.size) (hi' := D.heap.size) om om
  exact hx
 exact Zj [_, _] (Zn t rfl agg57 sz57 ⟨rfl, trivial⟩) ⟨e, r, ((e + z) - 1), (.slice b (a).length c), a, ((congrArg (fun zq => (Value.tuple #[.agg #[.int .i64 zq, (.slice b (a).length c)], .int .i64 ((e + z) - 1)])) (by first | rfl | simp_all)).trans (congrArg (fun zq => (Value.tuple #[.agg #[.int .i64 e, (.slice b (a).length c)], .int .i64 zq])) (by first | rfl | simp_all))), J, (Lo.down d om), K, k, om, om, E⟩

/-- spec.EqualGraphs -/
theorem Zdw {w : World} {LL_aV Q : Nat} {D : Value} {aV : List Int} (g : Ls ics 1 w LL_aV Q D aV) {LL_aE R : Nat} {F : Value} {aE : List GEdge} (h : Ls GEdge.cs 4 w LL_aE R F aE) {LL_bV S : Nat} {G : Value} {bV : List Int} (j : Ls ics 1 w LL_bV S G bV) {LL_bE T : Nat} {H : Value} {bE : List GEdge} (l : Ls GEdge.cs 4 w LL_bE T H bE) :
 Ctr Try.prog 43 #[(.agg #[D, F]), (.agg #[G, H])] w (fun v w' => v = .bool (decide (aV = bV ∧ aE = bE)) ∧ Ch [] w w') := by
 obtain ⟨p, q, K⟩ := g.val
 subst K
 have al := g.len
 have g := g.here (by decide)
 obtain ⟨u, x, L⟩ := h.val
 subst L
 have am := h.len
 have h := h.here (by decide)
 obtain ⟨r, s, M⟩ := j.val
 subst M
 have an := j.len
 have j := j.here (by decide)
 obtain ⟨y, z, O⟩ := l.val
 subst O
 have ao := l.len
 have l := l.here (by decide)
 have E := Ch.refl [] w
 refine Yj (N := 39) (vs0 := [(.agg #[(.slice p aV.length q), (.slice u aE.length x)]), (.agg #[(.slice r bV.length s), (.slice y bE.length z)])]) Try.func43 rfl rfl rfl ?_
 refine Zh fun K1 H1 => ?_
 refine Zc (Zl rfl rfl ?_)
 refine Xm rfl fun aa W2 Z C2 aT => ?_
 have aU := C2.size
 have E := E.trans C2
 have aW := Z.lt
 replace Z : Blk W2 aa 36 [(.slice p aV.length q), (.slice u aE.length x)] := Z
 refine Zl rfl rfl ?_
 refine Xm rfl fun ab W3 U C3 aX => ?_
 have aY := C3.size
 have E := E.trans C3
 have aZ := U.lt
 replace U : Blk W3 ab 36 [(.slice r bV.length s), (.slice y bE.length z)] := U
 refine Za rfl rfl (Zf rfl) (Ze (Zb (H1 _ _ ?_)))
 refine Zh fun K4 H4 => ?_
 refine Zh fun K5 H5 => ?_
 refine Zc (Za rfl rfl (Zd fa36_0 rfl) ?_)
 have F6 := Z.ch0 C3
 refine Za rfl rfl (Zp F6.at_ agg22 rfl rfl) (Za rfl rfl (Zd fa36_0 rfl) (Za rfl rfl (Zp U.at_ agg22 rfl rfl) (Zl rfl rfl ?_)))
 have F7 := (g.ch0 C2).ch0 C3
 have F8 := (j.ch0 C2).ch0 C3
 refine Step.call (Zm (xs := [.tmp 7, .tmp 9]) fk89 rfl) (Zem F7 F8 ) fun az W9 ac => ?_
 obtain ⟨rfl, C9⟩ := ac
 have a0 := C9.size
 have E := E.trans C9
 refine Za rfl rfl (Zfn rfl rfl) (Za rfl rfl (Zg rfl) ?_)
 refine Yy (d := 12) rfl (fun b => ?_) (fun b => ?_)
 ·have ad := b
  have b := Yu (Qj b)
  refine Zo rfl rfl (Zo rfl rfl (Zo rfl rfl (Zo rfl rfl (Zo rfl rfl (Zo rfl rfl (Zo rfl rfl (Za rfl rfl (Ym rfl rfl) ?_)))))))
  refine Ze (Zb (H5 _ _ ?_))
  refine Xr rfl ?_
  refine Zh fun a1 aA => ?_
  refine Zc (Za rfl rfl (Zf rfl) (Ze (Zb (aA _ _ ?_))))
  refine Zv (Zt ?_)
  exact Zj [_] ⟨rfl, trivial⟩ ⟨congrArg Value.bool (by first | exact (decide_eq_false (fun e => b (Zay.2 e.1))).symm | exact (decide_eq_false (fun e => c (by rw [e.2]))).symm | exact (decide_eq_false (fun e => absurd e.2 (Zbu m n (fun e => a (by rw [e]))))).symm | exact (decide_eq_true ⟨Zay.1 om, Zbf V om om⟩).symm), E⟩
 have ad := b
 have b := Yt (Qk b)
 refine Za rfl rfl (Zd fa36_1 rfl) ?_
 have ap := F6.ch0 C9
 refine Za rfl rfl (Zp ap.at_ agg34 rfl rfl) (Za rfl rfl (Yr (by rw [el34]; rfl) rfl) (Za rfl rfl (Zd fa36_1 rfl) ?_))
 have aq := U.ch0 C9
 refine Za rfl rfl (Zp aq.at_ agg34 rfl rfl) (Za rfl rfl (Yr (by rw [el34]; rfl) rfl) (Za rfl rfl (Zfn rfl rfl) (Za rfl rfl (Yl rfl rfl) (Ze (Zb (H5 _ _ ?_))))))
 refine Zz rfl (fun c => ?_) (fun c => ?_)
 ·have ae := c
  have c := Yu (Qj c)
  refine Zh fun a2 aB => ?_
  refine Zc (Za rfl rfl (Zf rfl) (Ze (Zb (aB _ _ ?_))))
  refine Zv (Zt ?_)
  exact Zj [_] ⟨rfl, trivial⟩ ⟨congrArg Value.bool (by first | exact (decide_eq_false (fun e => b (Zay.2 e.1))).symm | exact (decide_eq_false (fun e => c (by rw [e.2]))).symm | exact (decide_eq_false (fun e => absurd e.2 (Zbu m n (fun e => a (by rw [e]))))).symm | exact (decide_eq_true ⟨Zay.1 om, Zbf V om om⟩).symm), E⟩
 have ae := c
 have c := Yt (Qk c)
 refine Yf ?_
 refine Zb (H4 _ _ ?_)
 refine Zh fun a3 au => ?_
 refine Zh fun a4 aC => ?_
 refine Zc (Za rfl rfl (Zf rfl) (Ze (Zb (aC _ _ ?_))))
 refine Yn ?_
 have aD := F7.ch0 C9
 have aF := F8.ch0 C9
 refine Ql (σ := Nat) (fun (k : Nat) => [(2, (.pointer (some ⟨aa, 0, none⟩))), (3, (.pointer (some ⟨ab, 0, none⟩))), (5, (.int .i64 ((k : Nat) : Int)))]) (fun (k : Nat) wx => Ch [] w wx ∧ W9.heap.size ≤ wx.heap.size ∧ (k ≤ aE.length) ∧ (aE.take k = bE.take k) ∧ Blk wx aa 36 [(.slice p aV.length q), (.slice u aE.length x)] ∧ Ls ics 1 wx LL_aV w.heap.size (.slice p aV.length q) aV ∧ Blk wx ab 36 [(.slice r bV.length s), (.slice y bE.length z)] ∧ Ls ics 1 wx LL_bV w.heap.size (.slice r bV.length s) bV) (fun (k : Nat) => aE.length - k) 0 (sC2 rfl rfl (sC1 rfl (Sub.nil _))) ⟨E, (Nat.le_refl _), om, rfl, ap, aD, aq, aF⟩ ?_
 rintro k a5 ⟨E, aG, a6, V, A, X, I, Y⟩
 have P := E
 have av := P.size
 have af := A.lt
 have ag := I.lt
 refine Zh fun a7 aH => ?_
 refine Zh fun a8 aI => ?_
 refine Zc (Za rfl rfl (Zg rfl) (Za rfl rfl (Zd fa36_1 rfl) (Za rfl rfl (Zp A.at_ agg34 rfl rfl) (Za rfl rfl (Yr (by rw [el34]; rfl) rfl) (Za rfl rfl (Qw rfl rfl) (Ze (Zb (aI _ _ ?_))))))))
 refine Zz rfl (fun o => ?_) (fun o => ?_)
 ·have ah := o
  have o := Yt o
  refine Yf ?_
  refine Zb (aH _ _ ?_)
  refine Zh fun a9 aw => ?_
  refine Yn ?_
  refine Zh fun ba aJ => ?_
  refine Yv [] 11 mixed rfl fun bb J => ?_
  have aK := J.size
  have E := E.trans J
  refine dV 0 rfl rfl rfl (fun _ => Zd fa36_1 rfl) ?_
  have ax := A.ch0 J
  refine dT 1 rfl rfl rfl (Yi ax.at_ (fun i hi => absurd hi List.not_mem_nil) agg34 rfl rfl ?_)
  refine dV 2 rfl rfl rfl (fun _ => Zg rfl) ?_
  have aL := (h.ch0 P).ch0 J
  refine dT 3 rfl rfl rfl (Xh aL GEdge.len el34 sz129 rfl rfl rfl om fun aM B m ai => ?_)
  refine dT 4 rfl rfl rfl (Ye ai (fun i hi => absurd hi List.not_mem_nil) agg129 sz129 rfl ?_)
  refine dV 5 rfl rfl rfl (fun _ => Zd fa36_1 rfl) ?_
  have ay := I.ch0 J
  refine dT 6 rfl rfl rfl (Yi ay.at_ (fun i hi => absurd hi List.not_mem_nil) agg34 rfl rfl ?_)
  refine dV 7 rfl rfl rfl (fun _ => Zg rfl) ?_
  have aN := (l.ch0 P).ch0 J
  refine dT 8 rfl rfl rfl (Xh aN GEdge.len el34 sz129 rfl rfl rfl om fun aO C n aj => ?_)
  refine dT 9 rfl rfl rfl (Ye aj (fun i hi => absurd hi List.not_mem_nil) agg129 sz129 rfl ?_)
  refine dV 10 rfl rfl rfl (fun _ => Zim [B.id, B.f, B.t, B.label] [C.id, C.f, C.t, C.label] ist129 rfl rfl rfl) ?_
  refine Zw (by kernel_rfl) ?_
  refine Zb (aJ _ _ ?_)
  refine Zz rfl (fun a => ?_) (fun a => ?_)
  ·have ak := a
   have a := Yu (Qj a)
   refine Zh fun bc aP => ?_
   refine Zc (Za rfl rfl (Zf rfl) (Ze (Zb (aP _ _ ?_))))
   refine Zv (Yq (Zt (Zt (Yq (Zt ?_)))))
   clear au aw
   exact Zj [_] ⟨rfl, trivial⟩ ⟨congrArg Value.bool (by first | exact (decide_eq_false (fun e => b (Zay.2 e.1))).symm | exact (decide_eq_false (fun e => c (by rw [e.2]))).symm | exact (decide_eq_false (fun e => absurd e.2 (Zbu m n (fun e => a (by rw [e]))))).symm | exact (decide_eq_true ⟨Zay.1 om, Zbf V om om⟩).symm), E⟩
  have ak := a
  have a := Yt (Qk a)
  refine Yf ?_
  refine Yc (Zb (aw _ _ (Zc (Za rfl rfl (Zg rfl) (Za rfl rfl (Xc om rfl rfl) (Za rfl rfl (Zf rfl) (Ze ?_)))))))
  have aQ := X.ch0 J
  have aR := Y.ch0 J
  exact Zb (Exists.intro (k + 1) ⟨⟨E, om, om, (Zbk V m n (GEdge.inj a)), ax, aQ, ay, aR⟩, sC2 rfl rfl (sC1 rfl (Sub.nil _)), (by first | omega | (dsimp only; omega))⟩)
 have ah := o
 have o := Yu o
 refine Xx (Yh (Yh (Xg ?_)))
 refine Zb (au _ _ ?_)
 refine Zh fun be aS => ?_
 refine Zc (Za rfl rfl (Zf rfl) (Ze (Zb (aS _ _ ?_))))
 refine Zv ?_
 exact Zj [_] ⟨rfl, trivial⟩ ⟨congrArg Value.bool (by first | exact (decide_eq_false (fun e => b (Zay.2 e.1))).symm | exact (decide_eq_false (fun e => c (by rw [e.2]))).symm | exact (decide_eq_false (fun e => absurd e.2 (Zbu m n (fun e => a (by rw [e]))))).symm | exact (decide_eq_true ⟨Zay.1 om, Zbf V om om⟩).symm), E⟩

/-- spec.GraphAt -/
theorem Zff {w : World} (hF : Int) {LL_shG U : Nat} {C : Value} {shG : List Gv} (s : Ls Gv.cs 2 w LL_shG U C shG) {LR_hG BB_hG : Nat} {hG : List GD} (x : RdG w LR_hG BB_hG shG hG) (n : Int) :
 Ctr Try.prog 42 #[(.agg #[(.int .i64 hF), C]), (.int .i64 n)] w (fun v w' => ∃ (L : Value) (M : Value), v = .tuple #[.agg #[L, M], .bool (tt (gaP hF hG n))] ∧ Ol ics 3 1 w' L ((gaR hF hG n).V) ∧ Lo w.heap.size L ∧ Ol GEdge.cs 129 4 w' M ((gaR hF hG n).E) ∧ Lo w.heap.size M ∧ (∀ g ∈ bl L, g ∉ bl M) ∧ Ch [] w w') := by
 obtain ⟨D, F, O⟩ := s.val
 subst O
 have ap := s.len
 have s := s.here (by decide)
 have x := x.here
 have aq := x.1
 have E := Ch.refl [] w
 refine Yj (N := 28) (vs0 := [(.agg #[(.int .i64 hF), (.slice D shG.length F)]), (.int .i64 n)]) Try.func42 rfl rfl rfl ?_
 refine Zh fun K1 H1 => ?_
 refine Zc (Zl rfl rfl ?_)
 refine Xm rfl fun aN W2 ak C2 bj => ?_
 have bk := C2.size
 have E := E.trans C2
 have bm := ak.lt
 replace ak : Blk W2 aN 57 [(.int .i64 hF), (.slice D shG.length F)] := ak
 refine Zl rfl rfl ?_
 refine Yd zr36 fun al W3 X C3 bn => ?_
 have bp := C3.size
 have E := E.trans C3
 have bq := X.lt
 replace X : Blk W3 al 36 [(.slice none 0 0), (.slice none 0 0)] := X
 refine Za rfl rfl (Zf rfl) (Ze (Zb (H1 _ _ ?_)))
 refine Zh fun K4 H4 => ?_
 refine Zh fun K5 H5 => ?_
 refine Yv [] 12 mixed rfl fun W6 C6 => ?_
 have br := C6.size
 have E := E.trans C6
 have F7 := (ak.ch0 C3).ch0 C6
 refine dT 0 rfl rfl rfl (Ye F7.at_ (fun i hi => absurd hi List.not_mem_nil) agg57 sz57 rfl ?_)
 refine dO 1 (Zr rfl rfl rfl ?_)
 have F8 := ((s.ch0 C2).ch0 C3).ch0 C6
 have F9 := ((x.ch0 C2).ch0 C3).ch0 C6
 refine Step.call (Zm (xs := [.tmp 6]) fk34 rfl) (Xy _ F8 F9 ) fun bs aO aP => ?_
 obtain ⟨rfl, P⟩ := aP
 have aQ := P.size
 have E := E.trans P
 have Q : Ch [] W6 aO := ((Ch.refl _ _).trans P)
 refine ⟨Q, ?_⟩
 refine dV 2 rfl rfl rfl (fun _ => Xp rfl) (dV 3 rfl rfl rfl (fun _ => Zg rfl) ?_)
 refine Qq (d := 9) rfl (fun r => ?_) (fun r => ?_)
 ·have au := r
  have r := bf_t (Qj r)
  first | (have aR := Zbo r; have aS := r.2) | skip
  refine dK 4 rfl rfl rfl (dK 5 rfl rfl rfl (dK 6 rfl rfl rfl (dK 7 rfl rfl rfl (dK 8 rfl rfl rfl (dK 9 rfl rfl rfl (dK 10 rfl rfl rfl (dV 11 rfl rfl rfl (fun _ => Ym rfl rfl) ?_)))))))
  refine Zw (by kernel_rfl) ?_
  refine Zb (H5 _ _ ?_)
  refine Xr rfl ?_
  refine Zh fun bu aT => ?_
  refine Zc (Za rfl rfl (Ys (parts := []) (cells := [(.slice none 0 0), (.slice none 0 0)]) zr36 pl36 rfl rfl) (Zl rfl rfl ?_))
  have aU := (X.ch0 C6).ch0 P
  refine Zk (off := 0) 2 aU sz36 rfl (us := [(.slice none 0 0), (.slice none 0 0)]) rfl rfl rfl rfl fun Y G aI => ?_
  have aV := aI.size
  have E := E.step aI (lS om)
  replace G : Blk Y al 36 [(.slice none 0 0), (.slice none 0 0)] := G
  refine Za rfl rfl (Zf rfl) (Ze (Zb (aT _ _ ?_)))
  refine Zv (Zt ?_)
  have Z : Ol ics 3 1 Y (.slice none 0 0) ((gaR hF hG n).V) := by
   have hx := Ol.nil (cs := ics) (e := 3) (k := 1) Y
   first | exact hx.eq (by rw [← ga_n (fun q => r q.1)]) | exact hx.eq (by rw [← ga_n (fun q => b q.2)]) | exact hx.eq (by rw [← B])
  have aa : Ol GEdge.cs 129 4 Y (.slice none 0 0) ((gaR hF hG n).E) := by
   have hx := Ol.nil (cs := GEdge.cs) (e := 129) (k := 4) Y
   first | exact hx.eq (by rw [← ga_n (fun q => r q.1)]) | exact hx.eq (by rw [← ga_n (fun q => b q.2)]) | exact hx.eq (by rw [← B])
  exact Zj [_, _] (Zn G rfl agg36 sz36 ⟨rfl, trivial⟩) ⟨(.slice none 0 0), (.slice none 0 0), (congrArg (fun zq => (Value.tuple #[.agg #[(.slice none 0 0), (.slice none 0 0)], .bool zq])) (by first | exact Zu (fun q => r q.1) | exact Zu (fun q => b q.2) | exact Xt ⟨r, b⟩)), Z, (Lo.nil _), aa, (Lo.nil _), (fun g hm hg => by cases hm), E⟩
 have au := r
 have r := bt_t (Qk r)
 first | (have aR := Zbo r; have aS := r.2) | skip
 refine dV 4 rfl rfl rfl (fun _ => Zg rfl) (dV 5 rfl rfl rfl (fun _ => Zd fa57_0 rfl) ?_)
 refine dT 6 rfl rfl rfl (Yi F7.at_ (fun i hi => absurd hi List.not_mem_nil) agg3 rfl rfl ?_)
 refine dT 7 rfl rfl rfl (Ye F7.at_ (fun i hi => absurd hi List.not_mem_nil) agg57 sz57 rfl ?_)
 refine dO 8 (Zr rfl rfl rfl ?_)
 have aJ := F8.ch0 P
 have aK := F9.ch0 P
 refine Step.call (Zm (xs := [.tmp 13]) fk44 rfl) (Zaa _ aJ aK ) fun aW aX av => ?_
 obtain ⟨rfl, R⟩ := av
 have aY := R.size
 have E := E.trans R
 have S : Ch [] W6 aX := (Q.trans R)
 refine ⟨S, ?_⟩
 refine dO 9 (Zr rfl rfl rfl ?_)
 refine Step.call (Zm (xs := [.tmp 10, .tmp 12, .tmp 14]) fk90 rfl) (Qv _ _ _ ) fun aZ aw ax => ?_
 obtain ⟨rfl, T⟩ := ax
 have a0 := T.size
 have E := E.trans T
 have ab : Ch [] W6 aw := (S.trans T)
 refine ⟨ab, ?_⟩
 refine dV 10 rfl rfl rfl (fun _ => Xp rfl) (dV 11 rfl rfl rfl (fun _ => Yl rfl rfl) ?_)
 refine Zw (by kernel_rfl) ?_
 refine Zb (H5 _ _ ?_)
 refine Zz rfl (fun b => ?_) (fun b => ?_)
 ·have ay := b
  have b := Yu (Qj b)
  refine Zh fun bv a1 => ?_
  refine Zc (Za rfl rfl (Ys (parts := []) (cells := [(.slice none 0 0), (.slice none 0 0)]) zr36 pl36 rfl rfl) (Zl rfl rfl ?_))
  have a2 := (((X.ch0 C6).ch0 P).ch0 R).ch0 T
  refine Zk (off := 0) 2 a2 sz36 rfl (us := [(.slice none 0 0), (.slice none 0 0)]) rfl rfl rfl rfl fun ac H aL => ?_
  have a3 := aL.size
  have E := E.step aL (lS om)
  replace H : Blk ac al 36 [(.slice none 0 0), (.slice none 0 0)] := H
  refine Za rfl rfl (Zf rfl) (Ze (Zb (a1 _ _ ?_)))
  refine Zv (Zt ?_)
  have ad : Ol ics 3 1 ac (.slice none 0 0) ((gaR hF hG n).V) := by
   have hx := Ol.nil (cs := ics) (e := 3) (k := 1) ac
   first | exact hx.eq (by rw [← ga_n (fun q => r q.1)]) | exact hx.eq (by rw [← ga_n (fun q => b q.2)]) | exact hx.eq (by rw [← B])
  have ae : Ol GEdge.cs 129 4 ac (.slice none 0 0) ((gaR hF hG n).E) := by
   have hx := Ol.nil (cs := GEdge.cs) (e := 129) (k := 4) ac
   first | exact hx.eq (by rw [← ga_n (fun q => r q.1)]) | exact hx.eq (by rw [← ga_n (fun q => b q.2)]) | exact hx.eq (by rw [← B])
  exact Zj [_, _] (Zn H rfl agg36 sz36 ⟨rfl, trivial⟩) ⟨(.slice none 0 0), (.slice none 0 0), (congrArg (fun zq => (Value.tuple #[.agg #[(.slice none 0 0), (.slice none 0 0)], .bool zq])) (by first | exact Zu (fun q => r q.1) | exact Zu (fun q => b q.2) | exact Xt ⟨r, b⟩)), ad, (Lo.nil _), ae, (Lo.nil _), (fun g hm hg => by cases hm), E⟩
 have ay := b
 have b := Yt (Qk b)
 refine Yf ?_
 refine Zb (H4 _ _ ?_)
 refine Zh fun bw a4 => ?_
 refine Zc (Za rfl rfl (Zd fa57_1 rfl) ?_)
 have aM := ((F7.ch0 P).ch0 R).ch0 T
 refine Za rfl rfl (Zp aM.at_ agg55 rfl rfl) (Za rfl rfl (Zg rfl) (Za rfl rfl (Zd fa57_0 rfl) (Za rfl rfl (Zp aM.at_ agg3 rfl rfl) (Za rfl rfl (Xe om rfl rfl) (Zl rfl rfl ?_)))))
 have a5 := (aJ.ch0 R).ch0 T
 refine (Qm (j := (n - hF).toNat) a5 Gv.len el55 sz36 rfl rfl om om fun a6 az af aA => ?_)
 have a7 := (aK.ch0 R).ch0 T
 obtain ⟨a, I, y, J⟩ := a7.get af
 obtain ⟨⟨aB, a8, aC⟩, ⟨aD, a9, aE⟩⟩ := az
 obtain rfl := y.eqn
 obtain rfl := J.eqn
 have ba := y.len
 have bb := J.len
 replace y : Ls ics 1 aw LR_hG w.heap.size (.slice aB a.V.length aC) a.V := y
 replace J : Ls GEdge.cs 4 aw LR_hG w.heap.size (.slice aD a.E.length aE) a.E := J
 have bz := Zcr r I
 have B := ga_y r b I
 refine Za rfl rfl (Zi aA agg36 sz36 rfl) (Zl rfl rfl ?_)
 refine Step.call (Zm (xs := [.tmp 26]) fk92 rfl) (Yz y J om) fun bc bA aF => ?_
 obtain ⟨am, an, rfl, t, o, u, p, m, aG⟩ := aF
 have be := aG.size
 have E := E.trans aG
 obtain ⟨c, f, rfl, ag, z⟩ := t.opn
 obtain ⟨h, l, rfl, ah, A⟩ := u.opn
 refine Zl rfl rfl ?_
 have bf := ((((X.ch0 C6).ch0 P).ch0 R).ch0 T).ch0 aG
 refine Zk (off := 0) 2 bf sz36 rfl (us := [(.slice c (a.V).length f), (.slice h (a.E).length l)]) rfl rfl rfl rfl fun aH K ao => ?_
 have bg := ao.size
 have E := E.step ao (lS om)
 replace K : Blk aH al 36 [(.slice c (a.V).length f), (.slice h (a.E).length l)] := K
 refine Za rfl rfl (Zf rfl) (Ze (Zb (a4 _ _ ?_)))
 refine Zv ?_
 have bh := t.ch ao (dS o z om)
 have ai : Ol ics 3 1 aH (.slice c (a.V).length f) ((gaR hF hG n).V) := by
  have hx := bh
  first | exact hx.eq (by rw [← ga_n (fun q => r q.1)]) | exact hx.eq (by rw [← ga_n (fun q => b q.2)]) | exact hx.eq (by rw [← B])
 have bi := u.ch ao (dS p A om)
 have aj : Ol GEdge.cs 129 4 aH (.slice h (a.E).length l) ((gaR hF hG n).E) := by
  have hx := bi
  first | exact hx.eq (by rw [← ga_n (fun q => r q.1)]) | exact hx.eq (by rw [← ga_n (fun q => b q.2)]) | exact hx.eq (by rw [← B])
 exact Zj [_, _] (Zn K rfl agg36 sz36 ⟨rfl, trivial⟩) ⟨(.slice c (a.V).length f), (.slice h (a.E).length l), (congrArg (fun zq => (Value.tuple #[.agg #[(.slice c (a.V).length f), (.slice h (a.E).length l)], .bool zq])) (by first | exact Zu (fun q => r q.1) | exact Zu (fun q => b q.2) | exact Xt ⟨r, b⟩)), ai, (Lo.down o om), aj, (Lo.down p om), (fun g hm hg => by exact m _ hm hg), E⟩

set_option maxHeartbeats 16000000 in
/-- laws.FnHistories -/
theorem Zdu {w : World} {LL_code dq : Nat} {ck : Value} {code : List Int} (ag : Ls ucs 1 w LL_code dq ck code) :
 Ctr Try.prog 5 #[ck] w (fun v w' => v = .bool (true) ∧ Ch [] w w') := by
 obtain ⟨aR, aS, cG⟩ := ag.val
 subst cG
 have fB := ag.len
 have ag := ag.here (by decide)
 have E := Ch.refl [] w
 refine Yj (N := 158) (vs0 := [(.slice aR code.length aS)]) Try.func5 rfl rfl rfl ?_
 refine Zh fun K1 H1 => ?_
 refine Zc (Za rfl rfl (Zf rfl) (Ze (Zb (H1 _ _ ?_))))
 refine Zh fun K2 H2 => ?_
 refine Zh fun K3 H3 => ?_
 refine Zc (Za rfl rfl (Zg rfl) (Zl rfl rfl ?_))
 refine Step.call (Zm (xs := [.tmp 24]) fk30 rfl) (Zic ag ) fun jq W4 fW => ?_
 obtain ⟨rfl, C4⟩ := fW
 have li := C4.size
 have E := E.trans C4
 refine Ze (Zb (H3 _ _ ?_))
 refine Zz rfl (fun b7 => ?_) (fun b7 => ?_)
 ·have jr := b7
  have b7 := Yt b7
  refine Zh fun K6 H6 => ?_
  refine Zc (Za rfl rfl (Zf rfl) (Ze (Zb (H6 _ _ ?_))))
  refine Zv (Zt ?_)
  exact Zj [_] ⟨rfl, trivial⟩ ⟨congrArg Value.bool (by first | rfl | exact absurd rfl Y | exact absurd rfl Z | exact absurd o.1 G | exact absurd o.2.2 H | exact absurd rfl A | exact decide_eq_true (Zak l).2 | exact absurd (Zbz l).symm B), E⟩
 have jr := b7
 have b7 := Yu b7
 refine Yf ?_
 refine Zb (H2 _ _ ?_)
 refine Zh fun K7 H7 => ?_
 refine Zc (Za rfl rfl (Zg rfl) (Zl rfl rfl ?_))
 have F8 := ag.ch0 C4
 refine Step.call (Zm (xs := [.tmp 27]) fk31 rfl) (Zcq F8 om) fun js W9 fX => ?_
 obtain ⟨b, a, c, fC, aw, fD, rfl, aT, z, aH, dj, aU, I, fY, fZ, C9⟩ := fX
 have lk := C9.size
 have E := E.trans C9
 obtain ⟨bD, bF, rfl, ez, D⟩ := aT.opn
 obtain ⟨bG, bH, rfl, eA, M⟩ := aU.opn
 have jt := aH.1
 refine Za rfl rfl (Zg rfl) (Za rfl rfl (Yb rfl rfl) (Za rfl rfl (Yb rfl rfl) (Zl rfl rfl ?_)))
 refine Yd zr57 fun f0 ju fE dM ll => ?_
 have jv := dM.size
 have E := E.trans dM
 have lm := fE.lt
 replace fE : Blk ju f0 57 [(.int .i64 0), (.slice none 0 0)] := fE
 refine Zl rfl rfl ?_
 refine Yd zr63 fun f1 jw fF dr ln => ?_
 have jx := dr.size
 have E := E.trans dr
 have lo := fF.lt
 replace fF : Blk jw f1 63 [(.slice none 0 0)] := fF
 refine Zl rfl rfl ?_
 have jy := fE.ch0 dr
 refine Zk (off := 0) 2 jy sz57 rfl (us := [(.int .i64 b), (.slice bD (aw).length bF)]) rfl rfl rfl rfl fun jz cH ds => ?_
 have jA := ds.size
 have E := E.step ds (lS om)
 replace cH : Blk jz f0 57 [(.int .i64 b), (.slice bD (aw).length bF)] := cH
 refine Zl rfl rfl ?_
 have jB := fF.ch ds (nS om)
 refine Zk (off := 0) 1 jB sz63 rfl (us := [(.slice bG (c).length bH)]) rfl rfl rfl rfl fun jC cl dt => ?_
 have jD := dt.size
 have E := E.step dt (lS om)
 replace cl : Blk jC f1 63 [(.slice bG (c).length bH)] := cl
 refine Ze (Zb (H7 _ _ ?_))
 refine Zh fun lp jE => ?_
 refine Zc ?_
 have h8 := cH.ch dt (nS om)
 refine Za rfl rfl (Zi h8.at_ agg57 sz57 rfl) (Za rfl rfl (Zi cl.at_ agg63 sz63 rfl) (Zl rfl rfl ?_))
 have h9 := (((aT.ch0 dM).ch0 dr).ch ds (dS z D om)).ch dt (dS z D om)
 have ia := (((aH.ch0 dM).ch0 dr).ch ds (oS om)).ch dt (oS om)
 have ib := (((aU.ch0 dM).ch0 dr).ch ds (dS I M om)).ch dt (dS I M om)
 refine Step.call (Zm (xs := [.tmp 32, .tmp 33]) fk24 rfl) (Zdv _ h9.ls ia.rdg ib.ls om) fun jF lq f2 => ?_
 obtain ⟨fG, a8, rfl, aV, S, bI, dk, dl⟩ := f2
 have jG := dl.size
 have E := E.trans dl
 obtain ⟨bJ, bK, rfl, eB, X⟩ := aV.opn
 refine Za rfl rfl (Zg rfl) (Za rfl rfl (Yb rfl rfl) (Za rfl rfl (Yb rfl rfl) (Zl rfl rfl ?_)))
 refine Yd zr57 fun f3 jH fH cE lr => ?_
 have jI := cE.size
 have E := E.trans cE
 have lu := fH.lt
 replace fH : Blk jH f3 57 [(.int .i64 0), (.slice none 0 0)] := fH
 refine Zl rfl rfl ?_
 refine Zk (off := 0) 2 fH sz57 rfl (us := [(.int .i64 (abF b a c)), (.slice bJ (a8).length bK)]) rfl rfl rfl rfl fun jJ cI cF => ?_
 have jK := cF.size
 have E := E.step cF (lS om)
 replace cI : Blk jJ f3 57 [(.int .i64 (abF b a c)), (.slice bJ (a8).length bK)] := cI
 refine Za rfl rfl (Zf rfl) (Ze (Zb (jE _ _ ?_)))
 refine Zh fun lv jL => ?_
 refine Zc ?_
 have ic := ((h8.ch0 dl).ch0 cE).ch cF (nS om)
 refine Za rfl rfl (Zi ic.at_ agg57 sz57 rfl) ?_
 have ie := ((cl.ch0 dl).ch0 cE).ch cF (nS om)
 refine Za rfl rfl (Zi ie.at_ agg63 sz63 rfl) (Zl rfl rfl ?_)
 have ig := ((h9.ch0 dl).ch0 cE).ch cF (dS z D om)
 have ih := ((ia.ch0 dl).ch0 cE).ch cF (oS om)
 have f4 := ((ib.ch0 dl).ch0 cE).ch cF (dS I M om)
 refine Step.call (Zm (xs := [.tmp 38, .tmp 39]) fk21 rfl) (Xi _ ig.ls ih.rdg f4.ls om) fun jM lw f5 => ?_
 obtain ⟨fI, a9, rfl, aW, bL, bM, dm, cm⟩ := f5
 have jN := cm.size
 have E := E.trans cm
 obtain ⟨bN, bO, rfl, eC, b8⟩ := aW.opn
 refine Za rfl rfl (Zg rfl) (Za rfl rfl (Yb rfl rfl) (Za rfl rfl (Yb rfl rfl) (Zl rfl rfl ?_)))
 refine Yd zr57 fun ii jO fJ b5 lx => ?_
 have jP := b5.size
 have E := E.trans b5
 have ly := fJ.lt
 replace fJ : Blk jO ii 57 [(.int .i64 0), (.slice none 0 0)] := fJ
 refine Zl rfl rfl ?_
 refine Zk (off := 0) 2 fJ sz57 rfl (us := [(.int .i64 (abF b a c)), (.slice bN (a9).length bO)]) rfl rfl rfl rfl fun jQ cJ b6 => ?_
 have jR := b6.size
 have E := E.step b6 (lS om)
 replace cJ : Blk jQ ii 57 [(.int .i64 (abF b a c)), (.slice bN (a9).length bO)] := cJ
 refine Za rfl rfl (Zf rfl) (Ze (Zb (jL _ _ ?_)))
 refine Zh fun lz jS => ?_
 refine Zh fun lA ij => ?_
 refine Yv [] 16 mixed rfl fun f6 bP => ?_
 have jT := bP.size
 have E := E.trans bP
 refine dV 0 rfl rfl rfl (fun _ => Zg rfl) (dV 1 rfl rfl rfl (fun _ => Zg rfl) (dV 2 rfl rfl rfl (fun _ => Zio un4 rfl rfl) (dV 3 rfl rfl rfl (fun _ => Zg rfl) ?_)))
 refine Qq (d := 46) rfl (fun Y => ?_) (fun Y => ?_)
 ·have f7 := Y
  have Y := bf_e (Qj Y)
  refine dK 4 rfl rfl rfl (dK 5 rfl rfl rfl (dK 6 rfl rfl rfl (dK 7 rfl rfl rfl (dV 8 rfl rfl rfl (fun _ => Ym rfl rfl) (dV 9 rfl rfl rfl (fun _ => Zg rfl) (dK 10 rfl rfl rfl (dK 11 rfl rfl rfl ?_)))))))
  refine dK 12 rfl rfl rfl (dK 13 rfl rfl rfl (dK 14 rfl rfl rfl (dV 15 rfl rfl rfl (fun _ => Ym rfl rfl) ?_)))
  refine Zw (by kernel_rfl) ?_
  refine Zb (ij _ _ ?_)
  refine Xr rfl ?_
  refine Zh fun lB jU => ?_
  refine Zc (Za rfl rfl (Zf rfl) (Ze (Zb (jU _ _ ?_))))
  refine Zv (Zt ?_)
  exact Zj [_] ⟨rfl, trivial⟩ ⟨congrArg Value.bool (by first | rfl | exact absurd rfl Y | exact absurd rfl Z | exact absurd o.1 G | exact absurd o.2.2 H | exact absurd rfl A | exact decide_eq_true (Zak l).2 | exact absurd (Zbz l).symm B), E⟩
 have f7 := Y
 have Y := bt_e (Qk Y)
 have fK := (((cI.ch0 cm).ch0 b5).ch b6 (nS om)).ch0 bP
 refine dT 4 rfl rfl rfl (Ye fK.at_ (fun i hi => absurd hi List.not_mem_nil) agg57 sz57 rfl ?_)
 have jV := cJ.ch0 bP
 refine dT 5 rfl rfl rfl (Ye jV.at_ (fun i hi => absurd hi List.not_mem_nil) agg57 sz57 rfl ?_)
 refine dO 6 (Zr rfl rfl rfl ?_)
 have eD := (((((aV.ch0 cE).ch cF (dS S X om)).ch0 cm).ch0 b5).ch b6 (dS S X om)).ch0 bP
 have eE := (((((bI.ch0 cE).ch cF (oS om)).ch0 cm).ch0 b5).ch b6 (oS om)).ch0 bP
 have jW := ((aW.ch0 b5).ch b6 (dS bL b8 om)).ch0 bP
 have jX := ((bM.ch0 b5).ch b6 (oS om)).ch0 bP
 refine Step.call (Zm (xs := [.tmp 47, .tmp 48]) fk32 rfl) (Zcz _ eD.ls eE.rdg _ jW.ls jX.rdg ) fun f8 jY du => ?_
 replace du : f8 = .bool (true) ∧ _ := ⟨du.1.trans (congrArg Value.bool (Xt ⟨rfl, rfl⟩).symm), du.2⟩
 obtain ⟨rfl, aX⟩ := du
 have jZ := aX.size
 have E := E.trans aX
 have dN : Ch [] f6 jY := ((Ch.refl _ _).trans aX)
 refine ⟨dN, ?_⟩
 refine dV 7 rfl rfl rfl (fun _ => Xp rfl) (dV 8 rfl rfl rfl (fun _ => Yl rfl rfl) (dV 9 rfl rfl rfl (fun _ => Zg rfl) ?_))
 have f9 := (((ic.ch0 cm).ch0 b5).ch b6 (nS om)).ch0 bP
 refine dT 10 rfl rfl rfl (Ye f9.at_ (fun i hi => absurd hi List.not_mem_nil) agg57 sz57 rfl ?_)
 refine dT 12 rfl rfl rfl (Ye f9.at_ (fun i hi => absurd hi List.not_mem_nil) agg57 sz57 rfl ?_)
 refine dO 11 (Zr rfl rfl rfl ?_)
 have ik := ((((ig.ch0 cm).ch0 b5).ch b6 (dS z D om)).ch0 bP).ch0 aX
 have il := ((((ih.ch0 cm).ch0 b5).ch b6 (oS om)).ch0 bP).ch0 aX
 refine Step.call (Zm (xs := [.tmp 53]) fk33 rfl) (Zaj _ ik.ls il.rdg ) fun j0 j1 ga => ?_
 obtain ⟨rfl, aY⟩ := ga
 have j2 := aY.size
 have E := E.trans aY
 have dP : Ch [] f6 j1 := (dN.trans aY)
 refine ⟨dP, ?_⟩
 refine dO 13 (Zr rfl rfl rfl ?_)
 have im := ik.ch0 aY
 have io := il.ch0 aY
 refine Step.call (Zm (xs := [.tmp 55]) fk34 rfl) (Xy _ im.ls io.rdg ) fun j3 dv gb => ?_
 obtain ⟨rfl, aZ⟩ := gb
 have j4 := aZ.size
 have E := E.trans aZ
 have eF : Ch [] f6 dv := (dP.trans aZ)
 refine ⟨eF, ?_⟩
 refine dV 14 rfl rfl rfl (fun _ => Zio un4 rfl rfl) (dV 15 rfl rfl rfl (fun _ => Yl rfl rfl) ?_)
 refine Zw (by kernel_rfl) ?_
 refine Zb (ij _ _ ?_)
 refine Zz rfl (fun Z => ?_) (fun Z => ?_)
 ·have gc := Z
  have Z := bf_e (Qj Z)
  refine Zh fun lC j5 => ?_
  refine Zc (Za rfl rfl (Zf rfl) (Ze (Zb (j5 _ _ ?_))))
  refine Zv (Zt ?_)
  exact Zj [_] ⟨rfl, trivial⟩ ⟨congrArg Value.bool (by first | rfl | exact absurd rfl Y | exact absurd rfl Z | exact absurd o.1 G | exact absurd o.2.2 H | exact absurd rfl A | exact decide_eq_true (Zak l).2 | exact absurd (Zbz l).symm B), E⟩
 have gc := Z
 have Z := bt_e (Qk Z)
 refine Yf ?_
 refine Zb (jS _ _ ?_)
 refine Zh fun j6 j7 => ?_
 have cK : ∀ (lj : KL) (aD : World) , Go.KLib.Sub [(0, (.slice aR code.length aS)), (2, (.bool false))] lj → Ch [] w aD → dv.heap.size ≤ aD.heap.size → Ls ucs 1 aD LL_code w.heap.size (.slice aR code.length aS) code → j6 lj aD := by
  intro lj aD  cL E fL cu
  refine j7 _ _ (Zgr cL ?_)
  have eG := E
  have gd := eG.size
  refine Zh fun lD j8 => ?_
  refine Zc (Za rfl rfl (Zg rfl) (Zl rfl rfl ?_))
  refine Step.call (Zm (xs := [.tmp 97]) fk39 rfl) (Zcc cu om) fun j9 ka ge => ?_
  obtain ⟨e, f, C, fM, U, rfl, a0, J, aI, dn, gf, gg, ip⟩ := ge
  have kb := ip.size
  have E := E.trans ip
  obtain ⟨ax, ay, rfl, eH, O⟩ := a0.opn
  have kc := aI.1
  refine Za rfl rfl (Zg rfl) (Za rfl rfl (Yb rfl rfl) (Za rfl rfl (Yb rfl rfl) (Zl rfl rfl ?_)))
  refine Yd zr57 fun dw kd dx fN ke => ?_
  have kf := fN.size
  have E := E.trans fN
  have kg := dx.lt
  replace dx : Blk kd dw 57 [(.int .i64 0), (.slice none 0 0)] := dx
  refine Zl rfl rfl ?_
  refine Zk (off := 0) 2 dx sz57 rfl (us := [(.int .i64 e), (.slice ax (U).length ay)]) rfl rfl rfl rfl fun iq cn fO => ?_
  have kh := fO.size
  have E := E.step fO (lS om)
  replace cn : Blk iq dw 57 [(.int .i64 e), (.slice ax (U).length ay)] := cn
  refine Za rfl rfl (Zf rfl) (Ze (Zb (j8 _ _ ?_)))
  refine Zh fun lE ki => ?_
  refine Zc (Za rfl rfl (Zi cn.at_ agg57 sz57 rfl) (Za rfl rfl (Zg rfl) (Zl rfl rfl ?_)))
  have ir := (a0.ch0 fN).ch fO (dS J O om)
  have it := (aI.ch0 fN).ch fO (oS om)
  refine Step.call (Zm (xs := [.tmp 102, .tmp 103]) fk40 rfl) (Zda _ ir.ls it.rdg _ om) fun iu kj eI => ?_
  obtain ⟨eJ, F, rfl, aJ, L, bq, cM, eK⟩ := eI
  have kk := eK.size
  have E := E.trans eK
  obtain ⟨ah, ai, rfl, eo, T⟩ := aJ.opn
  refine Za rfl rfl (Zg rfl) (Za rfl rfl (Yb rfl rfl) (Za rfl rfl (Yb rfl rfl) (Zl rfl rfl ?_)))
  refine Yd zr57 fun dy kl dz d2 km => ?_
  have kn := d2.size
  have E := E.trans d2
  have ko := dz.lt
  replace dz : Blk kl dy 57 [(.int .i64 0), (.slice none 0 0)] := dz
  refine Zl rfl rfl ?_
  refine Zk (off := 0) 2 dz sz57 rfl (us := [(.int .i64 (chF e f C)), (.slice ah (F).length ai)]) rfl rfl rfl rfl fun kp cN d3 => ?_
  have kq := d3.size
  have E := E.step d3 (lS om)
  replace cN : Blk kp dy 57 [(.int .i64 (chF e f C)), (.slice ah (F).length ai)] := cN
  refine Za rfl rfl (Zf rfl) (Ze (Zb (ki _ _ ?_)))
  refine Zh fun lF kr => ?_
  refine Zc ?_
  have iv := ((cn.ch0 eK).ch0 d2).ch d3 (nS om)
  refine Za rfl rfl (Zi iv.at_ agg57 sz57 rfl) (Za rfl rfl (Zg rfl) (Zl rfl rfl ?_))
  have iw := ((ir.ch0 eK).ch0 d2).ch d3 (dS J O om)
  have ix := ((it.ch0 eK).ch0 d2).ch d3 (oS om)
  refine Step.call (Zm (xs := [.tmp 108, .tmp 109]) fk41 rfl) (Zcy _ iw.ls ix.rdg _ om) fun iy lG eL => ?_
  obtain ⟨eM, a1, rfl, bQ, dA, dB, cO, dQ⟩ := eL
  have ks := dQ.size
  have E := E.trans dQ
  obtain ⟨ba, bb, rfl, ep, dR⟩ := bQ.opn
  refine Za rfl rfl (Zg rfl) (Za rfl rfl (Yb rfl rfl) (Za rfl rfl (Yb rfl rfl) (Zl rfl rfl ?_)))
  refine Yd zr57 fun eN kt dC dU ku => ?_
  have kv := dU.size
  have E := E.trans dU
  have kw := dC.lt
  replace dC : Blk kt eN 57 [(.int .i64 0), (.slice none 0 0)] := dC
  refine Zl rfl rfl ?_
  refine Zk (off := 0) 2 dC sz57 rfl (us := [(.int .i64 (chF e f C)), (.slice ba (a1).length bb)]) rfl rfl rfl rfl fun iz dW dX => ?_
  have kx := dX.size
  have E := E.step dX (lS om)
  replace dW : Blk iz eN 57 [(.int .i64 (chF e f C)), (.slice ba (a1).length bb)] := dW
  refine Za rfl rfl (Zf rfl) (Ze (Zb (kr _ _ ?_)))
  refine Zh fun lH ky => ?_
  refine Zh fun lI kz => ?_
  refine Zc (Za rfl rfl (Zg rfl) (Za rfl rfl (Zg rfl) (Za rfl rfl (Zio un4 rfl rfl) (Ze (Zb (kz _ _ ?_))))))
  refine Zz rfl (fun A => ?_) (fun A => ?_)
  ·have gh := A
   have A := bf_e (Qj A)
   refine Zh fun lJ kA => ?_
   refine Zc (Za rfl rfl (Zf rfl) (Ze (Zb (kA _ _ ?_))))
   refine Zv (Zt ?_)
   exact Zj [_] ⟨rfl, trivial⟩ ⟨congrArg Value.bool (by first | rfl | exact absurd rfl Y | exact absurd rfl Z | exact absurd o.1 G | exact absurd o.2.2 H | exact absurd rfl A | exact decide_eq_true (Zak l).2 | exact absurd (Zbz l).symm B), E⟩
  have gh := A
  have A := bt_e (Qk A)
  refine Yf ?_
  refine Zb (ky _ _ ?_)
  refine Zh fun lK iA => ?_
  refine Zh fun lL kB => ?_
  refine Zc (Za rfl rfl (Zd fa57_0 rfl) ?_)
  have iB := ((cN.ch0 dQ).ch0 dU).ch dX (nS om)
  refine Za rfl rfl (Zp iB.at_ agg3 rfl rfl) (Za rfl rfl (Zf rfl) (Ze (Zb (kB _ _ ?_))))
  refine Yn ?_
  have kC := ((iv.ch0 dQ).ch0 dU).ch dX (nS om)
  have kD := ((iw.ch0 dQ).ch0 dU).ch dX (dS J O om)
  have kE := ((ix.ch0 dQ).ch0 dU).ch dX (oS om)
  have kF := ((((aJ.ch0 d2).ch d3 (dS L T om)).ch0 dQ).ch0 dU).ch dX (dS L T om)
  have kG := ((((bq.ch0 d2).ch d3 (oS om)).ch0 dQ).ch0 dU).ch dX (oS om)
  refine Ql (σ := Int) (fun (v : Int) => [(13, (.pointer (some ⟨dw, 0, none⟩))), (14, (.int .i64 C)), (15, (.pointer (some ⟨dy, 0, none⟩))), (16, (.bool (tt (gaP e f C)))), (19, (.int .i64 v))]) (fun (v : Int) wx => Ch [] w wx ∧ iz.heap.size ≤ wx.heap.size ∧ (chF e f C ≤ v) ∧ Blk wx dw 57 [(.int .i64 e), (.slice ax (U).length ay)] ∧ Ol Gv.cs 36 2 wx (.slice ax (U).length ay) U ∧ OdG 3 129 wx aD.heap.size ka.heap.size U f ∧ Blk wx dy 57 [(.int .i64 (chF e f C)), (.slice ah (F).length ai)] ∧ Ol Gv.cs 36 2 wx (.slice ah (F).length ai) F ∧ OdG 3 129 wx iq.heap.size kj.heap.size F (chG e f C)) (fun (v : Int) => (lvR e f + 1 - v).toNat) (chF e f C) (sC4 rfl rfl rfl rfl (sC1 rfl (Sub.nil _))) ⟨E, (Nat.le_refl _), (Int.le_refl _), kC, kD, kE, iB, kF, kG⟩ ?_
  rintro v lM ⟨E, kH, hv, cP, dY, dZ, co, cQ, cR⟩
  have gi := E
  have iC := gi.size
  have gj := cP.lt
  have gk := co.lt
  refine Zh fun lN kI => ?_
  refine Zh fun lO iD => ?_
  refine Zc (Za rfl rfl (Zg rfl) (Za rfl rfl (Zg rfl) ?_))
  refine Yy (d := 119) rfl (fun l => ?_) (fun l => ?_)
  ·have cS := l
   have l := bt_t l
   have lP := Zak l
   have kJ := Zbo l.1
   have lQ := l.1.2
   have lR := Zbz l
   refine Za rfl rfl (Zg rfl) (Za rfl rfl (Zi co.at_ agg57 sz57 rfl) (Zl rfl rfl ?_))
   refine Step.call (Zm (xs := [.tmp 121]) fk36 rfl) (Xa _ cQ.ls cR.rdg ) fun iE kK eO => ?_
   obtain ⟨rfl, az⟩ := eO
   have iF := az.size
   have E := E.trans az
   refine Za rfl rfl (Zga rfl rfl) (Za rfl rfl (Ym rfl rfl) (Ze (Zb (iD _ _ ?_))))
   refine Zz rfl (fun aK => ?_) (fun aK => ?_)
   ·have eP := aK
    have aK := Yt aK
    refine Yf ?_
    refine Zb (kI _ _ ?_)
    refine Zh fun kL gl => ?_
    refine Yn ?_
    refine Zh fun kM gm => ?_
    refine Zc ?_
    have eQ := co.ch0 az
    refine Za rfl rfl (Zi eQ.at_ agg57 sz57 rfl) (Za rfl rfl (Zg rfl) (Zl rfl rfl ?_))
    have eR := cQ.ch0 az
    have eS := cR.ch0 az
    refine Step.call (Zm (xs := [.tmp 128, .tmp 129]) fk35 rfl) (Zaq _ eR.ls eS.rdg _ ) fun iG kN eT => ?_
    obtain ⟨eU, eV, rfl, aL, aA, aM, aB, bB, bR⟩ := eT
    have iH := bR.size
    have E := E.trans bR
    obtain ⟨bc, be, rfl, er, aN⟩ := aL.opn
    obtain ⟨bf, bg, rfl, es, aO⟩ := aM.opn
    refine Za rfl rfl (Zg rfl) (Za rfl rfl (Yb rfl rfl) (Za rfl rfl (Yb rfl rfl) (Zl rfl rfl ?_)))
    refine Yd zr36 fun eW gn dD a5 kO => ?_
    have iI := a5.size
    have E := E.trans a5
    have kP := dD.lt
    replace dD : Blk gn eW 36 [(.slice none 0 0), (.slice none 0 0)] := dD
    refine Zl rfl rfl ?_
    refine Zk (off := 0) 2 dD sz36 rfl (us := [(.slice bc ((gaR (chF e f C) (chG e f C) v).V).length be), (.slice bf ((gaR (chF e f C) (chG e f C) v).E).length bg)]) rfl rfl rfl rfl fun gp b9 a6 => ?_
    have iJ := a6.size
    have E := E.step a6 (lS om)
    replace b9 : Blk gp eW 36 [(.slice bc ((gaR (chF e f C) (chG e f C) v).V).length be), (.slice bf ((gaR (chF e f C) (chG e f C) v).E).length bg)] := b9
    refine Za rfl rfl (Zf rfl) (Ze (Zb (gm _ _ ?_)))
    refine Zh fun kQ gq => ?_
    refine Zc ?_
    have eX := (((cP.ch0 az).ch0 bR).ch0 a5).ch a6 (nS om)
    refine Za rfl rfl (Zi eX.at_ agg57 sz57 rfl) (Za rfl rfl (Zg rfl) (Zl rfl rfl ?_))
    have eY := (((dY.ch0 az).ch0 bR).ch0 a5).ch a6 (dS J O om)
    have eZ := (((dZ.ch0 az).ch0 bR).ch0 a5).ch a6 (oS om)
    refine Step.call (Zm (xs := [.tmp 134, .tmp 135]) fk42 rfl) (Zff _ eY.ls eZ.rdg _ ) fun iK kR e0 => ?_
    obtain ⟨e1, e2, rfl, aP, br, aQ, bs, bC, a2⟩ := e0
    have iL := a2.size
    have E := E.trans a2
    obtain ⟨bh, bi, rfl, et, bS⟩ := aP.opn
    obtain ⟨bj, bk, rfl, eu, bT⟩ := aQ.opn
    refine Za rfl rfl (Zg rfl) (Za rfl rfl (Yb rfl rfl) (Za rfl rfl (Yb rfl rfl) (Zl rfl rfl ?_)))
    refine Yd zr36 fun e3 gr dE aE kS => ?_
    have iM := aE.size
    have E := E.trans aE
    have kT := dE.lt
    replace dE : Blk gr e3 36 [(.slice none 0 0), (.slice none 0 0)] := dE
    refine Zl rfl rfl ?_
    refine Zk (off := 0) 2 dE sz36 rfl (us := [(.slice bh ((gaR e f v).V).length bi), (.slice bj ((gaR e f v).E).length bk)]) rfl rfl rfl rfl fun gs ca aF => ?_
    have iN := aF.size
    have E := E.step aF (lS om)
    replace ca : Blk gs e3 36 [(.slice bh ((gaR e f v).V).length bi), (.slice bj ((gaR e f v).E).length bk)] := ca
    refine Za rfl rfl (Zf rfl) (Ze (Zb (gq _ _ ?_)))
    refine Zh fun kU gt => ?_
    refine Zc ?_
    have gu := ((b9.ch0 a2).ch0 aE).ch aF (nS om)
    refine Za rfl rfl (Zi gu.at_ agg36 sz36 rfl) (Za rfl rfl (Zi ca.at_ agg36 sz36 rfl) (Zl rfl rfl ?_))
    have gv := ((((aL.ch0 a5).ch a6 (dS aA aN om)).ch0 a2).ch0 aE).ch aF (dS aA aN om)
    have gw := ((((aM.ch0 a5).ch a6 (dS aB aO om)).ch0 a2).ch0 aE).ch aF (dS aB aO om)
    have gx := (aP.ch0 aE).ch aF (dS br bS om)
    have gy := (aQ.ch0 aE).ch aF (dS bs bT om)
    refine Step.call (Zm (xs := [.tmp 139, .tmp 140]) fk43 rfl) (Zdw gv.ls gw.ls gx.ls gy.ls ) fun e4 kV cp => ?_
    replace cp : e4 = .bool (true) ∧ _ := ⟨cp.1.trans (congrArg Value.bool (decide_eq_true (by rw [Zmt l hv aK]; exact ⟨rfl, rfl⟩))), cp.2⟩
    obtain ⟨rfl, bU⟩ := cp
    have iO := bU.size
    have E := E.trans bU
    refine Za rfl rfl (Xp rfl) (Ze (Zb (gt _ _ ?_)))
    refine Zck rfl ?_
    refine Yf ?_
    refine Yc (Zb (gl _ _ (Zc (Za rfl rfl (Zg rfl) (Za rfl rfl (Xc om rfl rfl) (Za rfl rfl (Zf rfl) (Ze ?_)))))))
    have gz := (((eX.ch0 a2).ch0 aE).ch aF (nS om)).ch0 bU
    have gA := (((eY.ch0 a2).ch0 aE).ch aF (dS J O om)).ch0 bU
    have gB := (((eZ.ch0 a2).ch0 aE).ch aF (oS om)).ch0 bU
    have gC := ((((((eQ.ch0 bR).ch0 a5).ch a6 (nS om)).ch0 a2).ch0 aE).ch aF (nS om)).ch0 bU
    have gD := ((((((eR.ch0 bR).ch0 a5).ch a6 (dS L T om)).ch0 a2).ch0 aE).ch aF (dS L T om)).ch0 bU
    have gE := ((((((eS.ch0 bR).ch0 a5).ch a6 (oS om)).ch0 a2).ch0 aE).ch aF (oS om)).ch0 bU
    exact Zb (Exists.intro (v + 1) ⟨⟨E, om, om, gz, gA, gB, gC, gD, gE⟩, sC4 rfl rfl rfl rfl (sC1 rfl (Sub.nil _)), (by first | omega | (dsimp only; omega))⟩)
   have eP := aK
   have aK := Yu aK
   refine Xx (Yh (Yh (Xg ?_)))
   refine Zb (iA _ _ ?_)
   refine Zh fun kW e5 => ?_
   refine Yv [] 16 mixed rfl fun e6 bV => ?_
   have iP := bV.size
   have E := E.trans bV
   refine dV 0 rfl rfl rfl (fun _ => Zg rfl) (dV 1 rfl rfl rfl (fun _ => Xp rfl) (dV 2 rfl rfl rfl (fun _ => Zg rfl) ?_))
   refine Zjo (d := 145) rfl (congrArg Bool.not cS) ?_
   refine dV 3 rfl rfl rfl (fun _ => Zd fa57_0 rfl) ?_
   have e7 := (co.ch0 az).ch0 bV
   refine dT 4 rfl rfl rfl (Yi e7.at_ (fun i hi => absurd hi List.not_mem_nil) agg3 rfl rfl ?_)
   refine dV 5 rfl rfl rfl (fun _ => Zg rfl) (dV 6 rfl rfl rfl (fun _ => Qg rfl rfl) (dV 7 rfl rfl rfl (fun _ => Zg rfl) ?_))
   refine Qq (d := 150) rfl (fun B => ?_) (fun B => ?_)
   ·have e8 := B
    have B := Yt B
    refine dT 8 rfl rfl rfl (Ye e7.at_ (fun i hi => absurd hi List.not_mem_nil) agg57 sz57 rfl ?_)
    have gF := (cP.ch0 az).ch0 bV
    refine dT 10 rfl rfl rfl (Ye gF.at_ (fun i hi => absurd hi List.not_mem_nil) agg57 sz57 rfl ?_)
    refine dO 9 (Zr rfl rfl rfl ?_)
    have gG := (cQ.ch0 az).ch0 bV
    have gH := (cR.ch0 az).ch0 bV
    refine Step.call (Zm (xs := [.tmp 151]) fk36 rfl) (Xa _ gG.ls gH.rdg ) fun iQ gI e9 => ?_
    obtain ⟨rfl, cT⟩ := e9
    have iR := cT.size
    have E := E.trans cT
    have cU : Ch [] e6 gI := ((Ch.refl _ _).trans cT)
    refine ⟨cU, ?_⟩
    refine dO 11 (Zr rfl rfl rfl ?_)
    have gJ := ((dY.ch0 az).ch0 bV).ch0 cT
    have gK := ((dZ.ch0 az).ch0 bV).ch0 cT
    refine Step.call (Zm (xs := [.tmp 153]) fk44 rfl) (Zaa _ gJ.ls gK.rdg ) fun iS gL fa => ?_
    obtain ⟨rfl, d4⟩ := fa
    have iT := d4.size
    have E := E.trans d4
    have d5 : Ch [] e6 gL := (cU.trans d4)
    refine ⟨d5, ?_⟩
    refine dV 12 rfl rfl rfl (fun _ => Qg rfl rfl) (dV 13 rfl rfl rfl (fun _ => Ym rfl rfl) (dV 14 rfl rfl rfl (fun _ => Yl rfl rfl) (dV 15 rfl rfl rfl (fun _ => Zf rfl) ?_)))
    refine Zw (by kernel_rfl) ?_
    refine Zb (e5 _ _ ?_)
    refine Zv ?_
    exact Zj [_] ⟨rfl, trivial⟩ ⟨congrArg Value.bool (by first | rfl | exact absurd rfl Y | exact absurd rfl Z | exact absurd o.1 G | exact absurd o.2.2 H | exact absurd rfl A | exact decide_eq_true (Zak l).2 | exact absurd (Zbz l).symm B), E⟩
   have e8 := B
   have B := Yu B
   refine dK 8 rfl rfl rfl (dK 9 rfl rfl rfl (dK 10 rfl rfl rfl (dK 11 rfl rfl rfl (dK 12 rfl rfl rfl (dV 13 rfl rfl rfl (fun _ => Yl rfl rfl) (dV 14 rfl rfl rfl (fun _ => Yl rfl rfl) (dV 15 rfl rfl rfl (fun _ => Zf rfl) ?_)))))))
   refine Zw (by kernel_rfl) ?_
   refine Zb (e5 _ _ ?_)
   refine Zv ?_
   exact Zj [_] ⟨rfl, trivial⟩ ⟨congrArg Value.bool (by first | rfl | exact absurd rfl Y | exact absurd rfl Z | exact absurd o.1 G | exact absurd o.2.2 H | exact absurd rfl A | exact decide_eq_true (Zak l).2 | exact absurd (Zbz l).symm B), E⟩
  have cS := l
  have l := bf_t l
  refine Zo rfl rfl (Zo rfl rfl (Zo rfl rfl (Zo rfl rfl (Za rfl rfl (Yl rfl rfl) (Ze (Zb (iD _ _ ?_)))))))
  refine Zck rfl ?_
  refine Xx (Yh (Yh (Xg ?_)))
  refine Zb (iA _ _ ?_)
  refine Zh fun kX gM => ?_
  refine Yv [] 16 mixed rfl fun kY fb => ?_
  have iU := fb.size
  have E := E.trans fb
  refine dV 0 rfl rfl rfl (fun _ => Zg rfl) (dV 1 rfl rfl rfl (fun _ => Xp rfl) (dV 2 rfl rfl rfl (fun _ => Zg rfl) ?_))
  refine Zjm (d := 145) rfl (congrArg Bool.not cS) ?_
  refine dK 3 rfl rfl rfl (dK 4 rfl rfl rfl (dK 5 rfl rfl rfl (dK 6 rfl rfl rfl (dK 7 rfl rfl rfl (dK 8 rfl rfl rfl (dK 9 rfl rfl rfl (dK 10 rfl rfl rfl ?_)))))))
  refine dK 11 rfl rfl rfl (dK 12 rfl rfl rfl (dK 13 rfl rfl rfl (dV 14 rfl rfl rfl (fun _ => Ym rfl rfl) (dV 15 rfl rfl rfl (fun _ => Zf rfl) ?_))))
  refine Zw (by kernel_rfl) ?_
  refine Zb (gM _ _ ?_)
  refine Zv ?_
  exact Zj [_] ⟨rfl, trivial⟩ ⟨congrArg Value.bool (by first | rfl | exact absurd rfl Y | exact absurd rfl Z | exact absurd o.1 G | exact absurd o.2.2 H | exact absurd rfl A | exact decide_eq_true (Zak l).2 | exact absurd (Zbz l).symm B), E⟩
 refine Zh fun kZ gN => ?_
 refine Zc (Za rfl rfl (Zg rfl) (Ze (Zb (gN _ _ ?_))))
 refine Zz rfl (fun a3 => ?_) (fun a3 => ?_)
 ·have fc := a3
  have a3 := bt_t a3
  have k2 := Zai a3.1.1
  have iV := Zbo a3.1.1
  have k3 := a3.1.1.2
  refine Zh fun gO gP => ?_
  have cb : ∀ (lj : KL) (aj : World) (ew : Nat) (bm : Value) (bn : Value), Go.KLib.Sub [(0, (.slice aR code.length aS)), (2, (.bool false)), (3, (.pointer (some ⟨f0, 0, none⟩))), (4, (.pointer (some ⟨f1, 0, none⟩))), (5, (.pointer (some ⟨f3, 0, none⟩))), (9, (.pointer (some ⟨ew, 0, none⟩))), (10, (.bool (tt (gaP (abF b a c) (abG b a c) (lvR (abF b a c) (abG b a c))))))] lj → Ch [] dv aj → Ol ics 3 1 aj bm ((gaR (abF b a c) (abG b a c) (lvR (abF b a c) (abG b a c))).V) → Lo dv.heap.size bm → Ol GEdge.cs 129 4 aj bn ((gaR (abF b a c) (abG b a c) (lvR (abF b a c) (abG b a c))).E) → Lo dv.heap.size bn → (∀ g ∈ bl bm, g ∉ bl bn) → Blk aj ew 36 [bm, bn] → dv.heap.size ≤ ew → ew ∉ bl bm → ew ∉ bl bn → gO lj aj := by
   intro lj aj ew bm bn cL m bu bW bv bX dp cV iW d0 d1
   refine gP _ _ (Zgr cL ?_)
   have ex := m.size
   have E := E.trans m
   obtain ⟨fP, fQ, rfl, fR, bY⟩ := bu.opn
   obtain ⟨fS, fT, rfl, fU, bZ⟩ := bv.opn
   have iX := cV.lt
   refine Zh fun k4 fd => ?_
   refine Yv [] 16 mixed rfl fun b0 R => ?_
   have iY := R.size
   have E := E.trans R
   refine dV 0 rfl rfl rfl (fun _ => Zd fa57_1 rfl) ?_
   have dF := ((((f9.ch0 aX).ch0 aY).ch0 aZ).ch0 m).ch0 R
   refine dT 1 rfl rfl rfl (Yi dF.at_ (fun i hi => absurd hi List.not_mem_nil) agg55 rfl rfl ?_)
   refine dV 2 rfl rfl rfl (fun _ => Zd fa57_1 rfl) ?_
   refine dT 3 rfl rfl rfl (Yi dF.at_ (fun i hi => absurd hi List.not_mem_nil) agg55 rfl rfl ?_)
   refine dV 4 rfl rfl rfl (fun _ => Yr (by rw [el55]; rfl) rfl) (dV 5 rfl rfl rfl (fun _ => Xe om rfl rfl) ?_)
   have d6 := ((im.ch0 aZ).ch0 m).ch0 R
   have d7 := ((io.ch0 aZ).ch0 m).ch0 R
   refine dT 6 rfl rfl rfl (Xh (j := (((aw.length : Nat) : Int) - 1).toNat) d6.ls Gv.len el55 sz36 rfl rfl om om fun k5 gQ fe gR => ?_)
   obtain ⟨K, cW, bp, cv⟩ := d7.rdg.get fe
   obtain ⟨⟨gS, k6, gT⟩, ⟨gU, k7, gV⟩⟩ := gQ
   obtain rfl := bp.eqn
   obtain rfl := cv.eqn
   have k8 := bp.len
   have k9 := cv.len
   replace bp : Ls ics 1 b0 W4.heap.size W9.heap.size (.slice gS K.V.length gT) K.V := bp
   replace cv : Ls GEdge.cs 4 b0 W4.heap.size W9.heap.size (.slice gU K.E.length gV) K.E := cv
   have la := Zdi cW
   have o := Zjs a3 (show a[a.length - 1]? = some K by rw [show a.length - 1 = (((aw.length : Nat) : Int) - 1).toNat by omega]; exact cW)
   refine dT 7 rfl rfl rfl (Ye gR (fun i hi => absurd hi List.not_mem_nil) agg36 sz36 rfl ?_)
   have gW := ((((((((ie.ch0 cm).ch0 b5).ch b6 (nS om)).ch0 bP).ch0 aX).ch0 aY).ch0 aZ).ch0 m).ch0 R
   refine dT 8 rfl rfl rfl (Ye gW.at_ (fun i hi => absurd hi List.not_mem_nil) agg63 sz63 rfl ?_)
   refine Xd 9 13 (by kernel_rfl) ?_ ?_
   ·refine Zr rfl rfl rfl ?_
    have gX := ((((((((f4.ch0 cm).ch0 b5).ch b6 (dS I M om)).ch0 bP).ch0 aX).ch0 aY).ch0 aZ).ch0 m).ch0 R
    refine Step.call (Zm (xs := [.tmp 75, .tmp 76]) fk37 rfl) (Zal bp cv gX.ls om) fun gY gZ d8 => ?_
    obtain ⟨dG, dH, rfl, P, aa, Q, ab, ak, aG⟩ := d8
    have iZ := aG.size
    have E := E.trans aG
    obtain ⟨ac, ad, rfl, cX, am⟩ := P.opn
    obtain ⟨ae, af, rfl, cY, an⟩ := Q.opn
    have cZ : Ch [] b0 gZ := ((Ch.refl _ _).trans aG)
    refine ⟨cZ, ?_⟩
    refine dV 10 rfl rfl rfl (fun _ => Zg rfl) (dV 11 rfl rfl rfl (fun _ => Yb rfl rfl) (dV 12 rfl rfl rfl (fun _ => Yb rfl rfl) (dO 13 (Zr rfl rfl rfl ?_))))
    refine Yd zr36 fun c0 ff bw ao g0 => ?_
    have i0 := ao.size
    have E := E.trans ao
    have g1 := bw.lt
    replace bw : Blk ff c0 36 [(.slice none 0 0), (.slice none 0 0)] := bw
    have c1 : Ch [] b0 ff := (cZ.trans ao)
    refine ⟨c1, ?_⟩
    refine dO 14 (Zr rfl rfl rfl ?_)
    refine Zk (off := 0) 2 bw sz36 rfl (us := [(.slice ac (K.V).length ad), (.slice ae ((apE K.V K.E c 6)).length af)]) rfl rfl rfl rfl fun fg cc ap => ?_
    have i1 := ap.size
    have E := E.step ap (lS om)
    replace cc : Blk fg c0 36 [(.slice ac (K.V).length ad), (.slice ae ((apE K.V K.E c 6)).length af)] := cc
    have d9 : Ch [] b0 fg := (c1.step ap (fun i hm => by have fV := List.mem_singleton.1 hm; left; omega))
    refine ⟨d9, ?_⟩
    refine dV 15 rfl rfl rfl (fun _ => Zf rfl) ?_
    refine Zw (by kernel_rfl) ?_
    refine Zb (fd _ _ ?_)
    refine Zh fun lc fh => ?_
    refine Yv [] 16 mixed rfl fun ea aq => ?_
    have i2 := aq.size
    have E := E.trans aq
    refine dV 0 rfl rfl rfl (fun _ => Zg rfl) (dV 1 rfl rfl rfl (fun _ => Xp rfl) (dV 2 rfl rfl rfl (fun _ => Zg rfl) ?_))
    refine Qq (d := 82) rfl (fun G => ?_) (fun G => ?_)
    ·have fi := G
     have G := bf_t (Qj G)
     refine dK 3 rfl rfl rfl (dK 4 rfl rfl rfl (dK 5 rfl rfl rfl (dK 6 rfl rfl rfl (dV 7 rfl rfl rfl (fun _ => Ym rfl rfl) (dV 8 rfl rfl rfl (fun _ => Zg rfl) (dK 9 rfl rfl rfl (dK 10 rfl rfl rfl ?_)))))))
     refine dK 11 rfl rfl rfl (dK 12 rfl rfl rfl (dK 13 rfl rfl rfl (dK 14 rfl rfl rfl (dV 15 rfl rfl rfl (fun _ => Ym rfl rfl) ?_))))
     refine Zw (by kernel_rfl) ?_
     refine Zb (fh _ _ ?_)
     refine Xr rfl ?_
     refine Zh fun ld g2 => ?_
     refine Zc (Za rfl rfl (Zf rfl) (Ze (Zb (g2 _ _ ?_))))
     refine Zv (Zt ?_)
     exact Zj [_] ⟨rfl, trivial⟩ ⟨congrArg Value.bool (by first | rfl | exact absurd rfl Y | exact absurd rfl Z | exact absurd o.1 G | exact absurd o.2.2 H | exact absurd rfl A | exact decide_eq_true (Zak l).2 | exact absurd (Zbz l).symm B), E⟩
    have fi := G
    have G := bt_t (Qk G)
    have g3 := ((((cV.ch0 R).ch0 aG).ch0 ao).ch ap (nS om)).ch0 aq
    refine dT 3 rfl rfl rfl (Ye g3.at_ (fun i hi => absurd hi List.not_mem_nil) agg36 sz36 rfl ?_)
    have g4 := cc.ch0 aq
    refine dT 4 rfl rfl rfl (Ye g4.at_ (fun i hi => absurd hi List.not_mem_nil) agg36 sz36 rfl ?_)
    refine dO 5 (Zr rfl rfl rfl ?_)
    have g5 := ((((bu.ch0 R).ch0 aG).ch0 ao).ch ap (dS bW bY om)).ch0 aq
    have g6 := ((((bv.ch0 R).ch0 aG).ch0 ao).ch ap (dS bX bZ om)).ch0 aq
    have g7 := ((P.ch0 ao).ch ap (dS aa am om)).ch0 aq
    have g8 := ((Q.ch0 ao).ch ap (dS ab an om)).ch0 aq
    refine Step.call (Zm (xs := [.tmp 83, .tmp 84]) fk38 rfl) (Zbb g5.ls g6.ls g7.ls g8.ls ) fun eb g9 bz => ?_
    replace bz : eb = .bool (true) ∧ _ := ⟨bz.1.trans (congrArg Value.bool (by have ey := o.2.1; rw [← ey]; exact decide_eq_true ⟨rfl, rfl⟩)), bz.2⟩
    obtain ⟨rfl, b1⟩ := bz
    have i3 := b1.size
    have E := E.trans b1
    have c2 : Ch [] ea g9 := ((Ch.refl _ _).trans b1)
    refine ⟨c2, ?_⟩
    refine dV 6 rfl rfl rfl (fun _ => Xp rfl) (dV 7 rfl rfl rfl (fun _ => Yl rfl rfl) (dV 8 rfl rfl rfl (fun _ => Zg rfl) ?_))
    have ha := ((((((((fK.ch0 aX).ch0 aY).ch0 aZ).ch0 m).ch0 R).ch0 aG).ch0 ao).ch ap (nS om)).ch0 aq
    refine dT 9 rfl rfl rfl (Ye ha.at_ (fun i hi => absurd hi List.not_mem_nil) agg57 sz57 rfl ?_)
    have hb := (((dF.ch0 aG).ch0 ao).ch ap (nS om)).ch0 aq
    refine dT 11 rfl rfl rfl (Ye hb.at_ (fun i hi => absurd hi List.not_mem_nil) agg57 sz57 rfl ?_)
    refine dO 10 (Zr rfl rfl rfl ?_)
    have hc := (((((((((eD.ch0 aX).ch0 aY).ch0 aZ).ch0 m).ch0 R).ch0 aG).ch0 ao).ch ap (dS S X om)).ch0 aq).ch0 b1
    have hd := (((((((((eE.ch0 aX).ch0 aY).ch0 aZ).ch0 m).ch0 R).ch0 aG).ch0 ao).ch ap (oS om)).ch0 aq).ch0 b1
    refine Step.call (Zm (xs := [.tmp 89]) fk36 rfl) (Xa _ hc.ls hd.rdg ) fun he hf ec => ?_
    obtain ⟨rfl, cw⟩ := ec
    have i4 := cw.size
    have E := E.trans cw
    have c3 : Ch [] ea hf := (c2.trans cw)
    refine ⟨c3, ?_⟩
    refine dO 12 (Zr rfl rfl rfl ?_)
    have hh := (((((d6.ch0 aG).ch0 ao).ch ap (dS z D om)).ch0 aq).ch0 b1).ch0 cw
    have hj := (((((d7.ch0 aG).ch0 ao).ch ap (oS om)).ch0 aq).ch0 b1).ch0 cw
    refine Step.call (Zm (xs := [.tmp 91]) fk36 rfl) (Xa _ hh.ls hj.rdg ) fun hk hl ed => ?_
    obtain ⟨rfl, dI⟩ := ed
    have i5 := dI.size
    have E := E.trans dI
    have ee : Ch [] ea hl := (c3.trans dI)
    refine ⟨ee, ?_⟩
    refine dV 13 rfl rfl rfl (fun _ => Xc om rfl rfl) (dV 14 rfl rfl rfl (fun _ => Zfn rfl rfl) (dV 15 rfl rfl rfl (fun _ => Yl rfl rfl) ?_))
    refine Zw (by kernel_rfl) ?_
    refine Zb (fh _ _ ?_)
    refine Zz rfl (fun H => ?_) (fun H => ?_)
    ·have fj := H
     have H := Yu (Qj H)
     refine Zh fun le hn => ?_
     refine Zc (Za rfl rfl (Zf rfl) (Ze (Zb (hn _ _ ?_))))
     refine Zv (Zt ?_)
     exact Zj [_] ⟨rfl, trivial⟩ ⟨congrArg Value.bool (by first | rfl | exact absurd rfl Y | exact absurd rfl Z | exact absurd o.1 G | exact absurd o.2.2 H | exact absurd rfl A | exact decide_eq_true (Zak l).2 | exact absurd (Zbz l).symm B), E⟩
    have fj := H
    have H := Yt (Qk H)
    refine Yf ?_
    refine Zb ?_
    have ho := (((((((((((((((((((((((F8.ch0 C9).ch0 dM).ch0 dr).ch ds (oS om)).ch dt (oS om)).ch0 dl).ch0 cE).ch cF (oS om)).ch0 cm).ch0 b5).ch b6 (oS om)).ch0 bP).ch0 aX).ch0 aY).ch0 aZ).ch0 m).ch0 R).ch0 aG).ch0 ao).ch ap (oS om)).ch0 aq).ch0 b1).ch0 cw).ch0 dI
    exact cK _ _  (sC2 rfl rfl (Sub.nil _)) E om ho
   refine Zr rfl rfl rfl ?_
   refine Yd zr36 fun c0 fk bw al g0 => ?_
   have i6 := al.size
   have E := E.trans al
   have g1 := bw.lt
   replace bw : Blk fk c0 36 [(.slice none 0 0), (.slice none 0 0)] := bw
   have c4 : Ch [] b0 fk := ((Ch.refl _ _).trans al)
   refine ⟨c4, ?_⟩
   refine dO 9 (Zr rfl rfl rfl ?_)
   have hp := bp.ch0 al
   have hq := cv.ch0 al
   have hr := (((((((((f4.ch0 cm).ch0 b5).ch b6 (dS I M om)).ch0 bP).ch0 aX).ch0 aY).ch0 aZ).ch0 m).ch0 R).ch0 al
   refine Step.call (Zm (xs := [.tmp 75, .tmp 76]) fk37 rfl) (Zal hp hq hr.ls om) fun gY hs d8 => ?_
   obtain ⟨dG, dH, rfl, P, aa, Q, ab, ak, aC⟩ := d8
   have i7 := aC.size
   have E := E.trans aC
   obtain ⟨ac, ad, rfl, cX, am⟩ := P.opn
   obtain ⟨ae, af, rfl, cY, an⟩ := Q.opn
   have c5 : Ch [] b0 hs := (c4.trans aC)
   refine ⟨c5, ?_⟩
   refine dV 10 rfl rfl rfl (fun _ => Zg rfl) (dV 11 rfl rfl rfl (fun _ => Yb rfl rfl) (dV 12 rfl rfl rfl (fun _ => Yb rfl rfl) (dO 14 (Zr rfl rfl rfl ?_))))
   have ht := bw.ch0 aC
   refine Zk (off := 0) 2 ht sz36 rfl (us := [(.slice ac (K.V).length ad), (.slice ae ((apE K.V K.E c 6)).length af)]) rfl rfl rfl rfl fun fl cd au => ?_
   have i8 := au.size
   have E := E.step au (lS om)
   replace cd : Blk fl c0 36 [(.slice ac (K.V).length ad), (.slice ae ((apE K.V K.E c 6)).length af)] := cd
   have ef : Ch [] b0 fl := (c5.step au (fun i hm => by have fV := List.mem_singleton.1 hm; left; omega))
   refine ⟨ef, ?_⟩
   refine dV 15 rfl rfl rfl (fun _ => Zf rfl) ?_
   refine Zw (by kernel_rfl) ?_
   refine Zb (fd _ _ ?_)
   refine Zh fun lf fm => ?_
   refine Yv [] 16 mixed rfl fun eg av => ?_
   have i9 := av.size
   have E := E.trans av
   refine dV 0 rfl rfl rfl (fun _ => Zg rfl) (dV 1 rfl rfl rfl (fun _ => Xp rfl) (dV 2 rfl rfl rfl (fun _ => Zg rfl) ?_))
   refine Qq (d := 82) rfl (fun G => ?_) (fun G => ?_)
   ·have fn := G
    have G := bf_t (Qj G)
    refine dK 3 rfl rfl rfl (dK 4 rfl rfl rfl (dK 5 rfl rfl rfl (dK 6 rfl rfl rfl (dV 7 rfl rfl rfl (fun _ => Ym rfl rfl) (dV 8 rfl rfl rfl (fun _ => Zg rfl) (dK 9 rfl rfl rfl (dK 10 rfl rfl rfl ?_)))))))
    refine dK 11 rfl rfl rfl (dK 12 rfl rfl rfl (dK 13 rfl rfl rfl (dK 14 rfl rfl rfl (dV 15 rfl rfl rfl (fun _ => Ym rfl rfl) ?_))))
    refine Zw (by kernel_rfl) ?_
    refine Zb (fm _ _ ?_)
    refine Xr rfl ?_
    refine Zh fun lg hu => ?_
    refine Zc (Za rfl rfl (Zf rfl) (Ze (Zb (hu _ _ ?_))))
    refine Zv (Zt ?_)
    exact Zj [_] ⟨rfl, trivial⟩ ⟨congrArg Value.bool (by first | rfl | exact absurd rfl Y | exact absurd rfl Z | exact absurd o.1 G | exact absurd o.2.2 H | exact absurd rfl A | exact decide_eq_true (Zak l).2 | exact absurd (Zbz l).symm B), E⟩
   have fn := G
   have G := bt_t (Qk G)
   have hw := ((((cV.ch0 R).ch0 al).ch0 aC).ch au (nS om)).ch0 av
   refine dT 3 rfl rfl rfl (Ye hw.at_ (fun i hi => absurd hi List.not_mem_nil) agg36 sz36 rfl ?_)
   have hx := cd.ch0 av
   refine dT 4 rfl rfl rfl (Ye hx.at_ (fun i hi => absurd hi List.not_mem_nil) agg36 sz36 rfl ?_)
   refine dO 5 (Zr rfl rfl rfl ?_)
   have hy := ((((bu.ch0 R).ch0 al).ch0 aC).ch au (dS bW bY om)).ch0 av
   have hz := ((((bv.ch0 R).ch0 al).ch0 aC).ch au (dS bX bZ om)).ch0 av
   have hA := (P.ch au (dS aa am om)).ch0 av
   have hB := (Q.ch au (dS ab an om)).ch0 av
   refine Step.call (Zm (xs := [.tmp 83, .tmp 84]) fk38 rfl) (Zbb hy.ls hz.ls hA.ls hB.ls ) fun eb hC bz => ?_
   replace bz : eb = .bool (true) ∧ _ := ⟨bz.1.trans (congrArg Value.bool (by have ey := o.2.1; rw [← ey]; exact decide_eq_true ⟨rfl, rfl⟩)), bz.2⟩
   obtain ⟨rfl, b2⟩ := bz
   have ja := b2.size
   have E := E.trans b2
   have c6 : Ch [] eg hC := ((Ch.refl _ _).trans b2)
   refine ⟨c6, ?_⟩
   refine dV 6 rfl rfl rfl (fun _ => Xp rfl) (dV 7 rfl rfl rfl (fun _ => Yl rfl rfl) (dV 8 rfl rfl rfl (fun _ => Zg rfl) ?_))
   have hD := ((((((((fK.ch0 aX).ch0 aY).ch0 aZ).ch0 m).ch0 R).ch0 al).ch0 aC).ch au (nS om)).ch0 av
   refine dT 9 rfl rfl rfl (Ye hD.at_ (fun i hi => absurd hi List.not_mem_nil) agg57 sz57 rfl ?_)
   have hE := (((dF.ch0 al).ch0 aC).ch au (nS om)).ch0 av
   refine dT 11 rfl rfl rfl (Ye hE.at_ (fun i hi => absurd hi List.not_mem_nil) agg57 sz57 rfl ?_)
   refine dO 10 (Zr rfl rfl rfl ?_)
   have hF := (((((((((eD.ch0 aX).ch0 aY).ch0 aZ).ch0 m).ch0 R).ch0 al).ch0 aC).ch au (dS S X om)).ch0 av).ch0 b2
   have hG := (((((((((eE.ch0 aX).ch0 aY).ch0 aZ).ch0 m).ch0 R).ch0 al).ch0 aC).ch au (oS om)).ch0 av).ch0 b2
   refine Step.call (Zm (xs := [.tmp 89]) fk36 rfl) (Xa _ hF.ls hG.rdg ) fun he hH ec => ?_
   obtain ⟨rfl, cx⟩ := ec
   have jb := cx.size
   have E := E.trans cx
   have c7 : Ch [] eg hH := (c6.trans cx)
   refine ⟨c7, ?_⟩
   refine dO 12 (Zr rfl rfl rfl ?_)
   have hI := (((((d6.ch0 al).ch0 aC).ch au (dS z D om)).ch0 av).ch0 b2).ch0 cx
   have hJ := (((((d7.ch0 al).ch0 aC).ch au (oS om)).ch0 av).ch0 b2).ch0 cx
   refine Step.call (Zm (xs := [.tmp 91]) fk36 rfl) (Xa _ hI.ls hJ.rdg ) fun hk hK ed => ?_
   obtain ⟨rfl, dJ⟩ := ed
   have jc := dJ.size
   have E := E.trans dJ
   have eh : Ch [] eg hK := (c7.trans dJ)
   refine ⟨eh, ?_⟩
   refine dV 13 rfl rfl rfl (fun _ => Xc om rfl rfl) (dV 14 rfl rfl rfl (fun _ => Zfn rfl rfl) (dV 15 rfl rfl rfl (fun _ => Yl rfl rfl) ?_))
   refine Zw (by kernel_rfl) ?_
   refine Zb (fm _ _ ?_)
   refine Zz rfl (fun H => ?_) (fun H => ?_)
   ·have fo := H
    have H := Yu (Qj H)
    refine Zh fun lh hL => ?_
    refine Zc (Za rfl rfl (Zf rfl) (Ze (Zb (hL _ _ ?_))))
    refine Zv (Zt ?_)
    exact Zj [_] ⟨rfl, trivial⟩ ⟨congrArg Value.bool (by first | rfl | exact absurd rfl Y | exact absurd rfl Z | exact absurd o.1 G | exact absurd o.2.2 H | exact absurd rfl A | exact decide_eq_true (Zak l).2 | exact absurd (Zbz l).symm B), E⟩
   have fo := H
   have H := Yt (Qk H)
   refine Yf ?_
   refine Zb ?_
   have hM := (((((((((((((((((((((((F8.ch0 C9).ch0 dM).ch0 dr).ch ds (oS om)).ch dt (oS om)).ch0 dl).ch0 cE).ch cF (oS om)).ch0 cm).ch0 b5).ch b6 (oS om)).ch0 bP).ch0 aX).ch0 aY).ch0 aZ).ch0 m).ch0 R).ch0 al).ch0 aC).ch au (oS om)).ch0 av).ch0 b2).ch0 cx).ch0 dJ
   exact cK _ _  (sC2 rfl rfl (Sub.nil _)) E om hM
  refine Yv [] 10 mixed rfl fun a4 a7 => ?_
  have jd := a7.size
  have E := E.trans a7
  have fp := (((fK.ch0 aX).ch0 aY).ch0 aZ).ch0 a7
  refine dT 0 rfl rfl rfl (Ye fp.at_ (fun i hi => absurd hi List.not_mem_nil) agg57 sz57 rfl ?_)
  refine dT 1 rfl rfl rfl (Ye fp.at_ (fun i hi => absurd hi List.not_mem_nil) agg57 sz57 rfl ?_)
  refine Xd 2 7 (by kernel_rfl) ?_ ?_
  ·refine Zr rfl rfl rfl ?_
   have ei := (((eD.ch0 aX).ch0 aY).ch0 aZ).ch0 a7
   have ej := (((eE.ch0 aX).ch0 aY).ch0 aZ).ch0 a7
   refine Step.call (Zm (xs := [.tmp 62]) fk36 rfl) (Xa _ ei.ls ej.rdg ) fun hN hO ek => ?_
   obtain ⟨rfl, bA⟩ := ek
   have je := bA.size
   have E := E.trans bA
   have ce : Ch [] a4 hO := ((Ch.refl _ _).trans bA)
   refine ⟨ce, ?_⟩
   refine Xd 3 7 (by kernel_rfl) ?_ ?_
   ·refine Zr rfl rfl rfl ?_
    have hP := ei.ch0 bA
    have hQ := ej.ch0 bA
    refine Step.call (Zm (xs := [.tmp 61, .tmp 63]) fk35 rfl) (Zaq _ hP.ls hQ.rdg _ ) fun fq hR c8 => ?_
    obtain ⟨cq, cr, rfl, p, h, q, k, n, dL⟩ := c8
    have jf := dL.size
    have E := E.trans dL
    obtain ⟨r, s, rfl, b3, t⟩ := p.opn
    obtain ⟨u, x, rfl, b4, y⟩ := q.opn
    have c9 : Ch [] a4 hR := (ce.trans dL)
    refine ⟨c9, ?_⟩
    refine dV 4 rfl rfl rfl (fun _ => Zg rfl) (dV 5 rfl rfl rfl (fun _ => Yb rfl rfl) (dV 6 rfl rfl rfl (fun _ => Yb rfl rfl) (dO 7 (Zr rfl rfl rfl ?_))))
    refine Yd zr36 fun da fr ct cy ey => ?_
    have jg := cy.size
    have E := E.trans cy
    have jh := ct.lt
    replace ct : Blk fr da 36 [(.slice none 0 0), (.slice none 0 0)] := ct
    have db : Ch [] a4 fr := (c9.trans cy)
    refine ⟨db, ?_⟩
    refine dO 8 (Zr rfl rfl rfl ?_)
    refine Zk (off := 0) 2 ct sz36 rfl (us := [(.slice r ((gaR (abF b a c) (abG b a c) (lvR (abF b a c) (abG b a c))).V).length s), (.slice u ((gaR (abF b a c) (abG b a c) (lvR (abF b a c) (abG b a c))).E).length x)]) rfl rfl rfl rfl fun fs cf cz => ?_
    have ji := cz.size
    have E := E.step cz (lS om)
    replace cf : Blk fs da 36 [(.slice r ((gaR (abF b a c) (abG b a c) (lvR (abF b a c) (abG b a c))).V).length s), (.slice u ((gaR (abF b a c) (abG b a c) (lvR (abF b a c) (abG b a c))).E).length x)] := cf
    have el : Ch [] a4 fs := (db.step cz (fun i hm => by have fV := List.mem_singleton.1 hm; left; omega))
    refine ⟨el, ?_⟩
    refine dV 9 rfl rfl rfl (fun _ => Zf rfl) ?_
    refine Zw (by kernel_rfl) ?_
    refine Zb ?_
    have hS := (p.ch0 cy).ch cz (dS h t om)
    have hT := (q.ch0 cy).ch cz (dS k y om)
    exact cb _ _ da (.slice r ((gaR (abF b a c) (abG b a c) (lvR (abF b a c) (abG b a c))).V).length s) (.slice u ((gaR (abF b a c) (abG b a c) (lvR (abF b a c) (abG b a c))).E).length x) (sC4 rfl rfl rfl rfl (sC2 rfl rfl (sC1 rfl (Sub.nil _)))) ((((((Ch.refl [] dv).trans a7).trans bA).trans dL).trans cy).step cz (lS om)) hS (Lo.down h om) hT (Lo.down k om) (fun g hm hg => by exact n _ hm hg) cf om (fun hm => by have ft := h _ hm; have fu := t _ hm; omega) (fun hm => by have ft := k _ hm; have fu := y _ hm; omega)
   refine Zr rfl rfl rfl ?_
   refine Yd zr36 fun da fv ct cA ey => ?_
   have jj := cA.size
   have E := E.trans cA
   have jh := ct.lt
   replace ct : Blk fv da 36 [(.slice none 0 0), (.slice none 0 0)] := ct
   have dc : Ch [] a4 fv := (ce.trans cA)
   refine ⟨dc, ?_⟩
   refine dO 3 (Zr rfl rfl rfl ?_)
   have hU := (ei.ch0 bA).ch0 cA
   have hV := (ej.ch0 bA).ch0 cA
   refine Step.call (Zm (xs := [.tmp 61, .tmp 63]) fk35 rfl) (Zaq _ hU.ls hV.rdg _ ) fun fq hW c8 => ?_
   obtain ⟨cq, cr, rfl, p, h, q, k, n, dd⟩ := c8
   have jk := dd.size
   have E := E.trans dd
   obtain ⟨r, s, rfl, b3, t⟩ := p.opn
   obtain ⟨u, x, rfl, b4, y⟩ := q.opn
   have de : Ch [] a4 hW := (dc.trans dd)
   refine ⟨de, ?_⟩
   refine dV 4 rfl rfl rfl (fun _ => Zg rfl) (dV 5 rfl rfl rfl (fun _ => Yb rfl rfl) (dV 6 rfl rfl rfl (fun _ => Yb rfl rfl) (dO 8 (Zr rfl rfl rfl ?_))))
   have hX := ct.ch0 dd
   refine Zk (off := 0) 2 hX sz36 rfl (us := [(.slice r ((gaR (abF b a c) (abG b a c) (lvR (abF b a c) (abG b a c))).V).length s), (.slice u ((gaR (abF b a c) (abG b a c) (lvR (abF b a c) (abG b a c))).E).length x)]) rfl rfl rfl rfl fun fw cg cB => ?_
   have jl := cB.size
   have E := E.step cB (lS om)
   replace cg : Blk fw da 36 [(.slice r ((gaR (abF b a c) (abG b a c) (lvR (abF b a c) (abG b a c))).V).length s), (.slice u ((gaR (abF b a c) (abG b a c) (lvR (abF b a c) (abG b a c))).E).length x)] := cg
   have em : Ch [] a4 fw := (de.step cB (fun i hm => by have fV := List.mem_singleton.1 hm; left; omega))
   refine ⟨em, ?_⟩
   refine dV 9 rfl rfl rfl (fun _ => Zf rfl) ?_
   refine Zw (by kernel_rfl) ?_
   refine Zb ?_
   have hY := p.ch cB (dS h t om)
   have hZ := q.ch cB (dS k y om)
   exact cb _ _ da (.slice r ((gaR (abF b a c) (abG b a c) (lvR (abF b a c) (abG b a c))).V).length s) (.slice u ((gaR (abF b a c) (abG b a c) (lvR (abF b a c) (abG b a c))).E).length x) (sC4 rfl rfl rfl rfl (sC2 rfl rfl (sC1 rfl (Sub.nil _)))) ((((((Ch.refl [] dv).trans a7).trans bA).trans cA).trans dd).step cB (lS om)) hY (Lo.down h om) hZ (Lo.down k om) (fun g hm hg => by exact n _ hm hg) cg om (fun hm => by have ft := h _ hm; have fu := t _ hm; omega) (fun hm => by have ft := k _ hm; have fu := y _ hm; omega)
  refine Zr rfl rfl rfl ?_
  refine Yd zr36 fun da fx ct cC ey => ?_
  have jm := cC.size
  have E := E.trans cC
  have jh := ct.lt
  replace ct : Blk fx da 36 [(.slice none 0 0), (.slice none 0 0)] := ct
  have df : Ch [] a4 fx := ((Ch.refl _ _).trans cC)
  refine ⟨df, ?_⟩
  refine dO 2 (Zr rfl rfl rfl ?_)
  have fy := ((((eD.ch0 aX).ch0 aY).ch0 aZ).ch0 a7).ch0 cC
  have fz := ((((eE.ch0 aX).ch0 aY).ch0 aZ).ch0 a7).ch0 cC
  refine Step.call (Zm (xs := [.tmp 62]) fk36 rfl) (Xa _ fy.ls fz.rdg ) fun hN h0 ek => ?_
  obtain ⟨rfl, ci⟩ := ek
  have jn := ci.size
  have E := E.trans ci
  have dg : Ch [] a4 h0 := (df.trans ci)
  refine ⟨dg, ?_⟩
  refine dO 3 (Zr rfl rfl rfl ?_)
  have h1 := fy.ch0 ci
  have h2 := fz.ch0 ci
  refine Step.call (Zm (xs := [.tmp 61, .tmp 63]) fk35 rfl) (Zaq _ h1.ls h2.rdg _ ) fun fq h3 c8 => ?_
  obtain ⟨cq, cr, rfl, p, h, q, k, n, dh⟩ := c8
  have jo := dh.size
  have E := E.trans dh
  obtain ⟨r, s, rfl, b3, t⟩ := p.opn
  obtain ⟨u, x, rfl, b4, y⟩ := q.opn
  have di : Ch [] a4 h3 := (dg.trans dh)
  refine ⟨di, ?_⟩
  refine dV 4 rfl rfl rfl (fun _ => Zg rfl) (dV 5 rfl rfl rfl (fun _ => Yb rfl rfl) (dV 6 rfl rfl rfl (fun _ => Yb rfl rfl) (dO 8 (Zr rfl rfl rfl ?_))))
  have h4 := (ct.ch0 ci).ch0 dh
  refine Zk (off := 0) 2 h4 sz36 rfl (us := [(.slice r ((gaR (abF b a c) (abG b a c) (lvR (abF b a c) (abG b a c))).V).length s), (.slice u ((gaR (abF b a c) (abG b a c) (lvR (abF b a c) (abG b a c))).E).length x)]) rfl rfl rfl rfl fun fA cj cD => ?_
  have jp := cD.size
  have E := E.step cD (lS om)
  replace cj : Blk fA da 36 [(.slice r ((gaR (abF b a c) (abG b a c) (lvR (abF b a c) (abG b a c))).V).length s), (.slice u ((gaR (abF b a c) (abG b a c) (lvR (abF b a c) (abG b a c))).E).length x)] := cj
  have en : Ch [] a4 fA := (di.step cD (fun i hm => by have fV := List.mem_singleton.1 hm; left; omega))
  refine ⟨en, ?_⟩
  refine dV 9 rfl rfl rfl (fun _ => Zf rfl) ?_
  refine Zw (by kernel_rfl) ?_
  refine Zb ?_
  have h5 := p.ch cD (dS h t om)
  have h6 := q.ch cD (dS k y om)
  exact cb _ _ da (.slice r ((gaR (abF b a c) (abG b a c) (lvR (abF b a c) (abG b a c))).V).length s) (.slice u ((gaR (abF b a c) (abG b a c) (lvR (abF b a c) (abG b a c))).E).length x) (sC4 rfl rfl rfl rfl (sC2 rfl rfl (sC1 rfl (Sub.nil _)))) ((((((Ch.refl [] dv).trans a7).trans cC).trans ci).trans dh).step cD (lS om)) h5 (Lo.down h om) h6 (Lo.down k om) (fun g hm hg => by exact n _ hm hg) cj om (fun hm => by have ft := h _ hm; have fu := t _ hm; omega) (fun hm => by have ft := k _ hm; have fu := y _ hm; omega)
 have fc := a3
 have a3 := bf_t a3
 refine Yf ?_
 refine Zb ?_
 have h7 := ((((((((((((((F8.ch0 C9).ch0 dM).ch0 dr).ch ds (oS om)).ch dt (oS om)).ch0 dl).ch0 cE).ch cF (oS om)).ch0 cm).ch0 b5).ch b6 (oS om)).ch0 bP).ch0 aX).ch0 aY).ch0 aZ
 exact cK _ _  (sC2 rfl rfl (Sub.nil _)) E om h7

end Go.Proofs.Ytkmhgeppenifoaa
