/- Walks of functions that FnMissingWord reaches: what each returns, and that it leaves the memory that was there alone. -/
import Derived.Test.YtgnlfnkgkcmdjaaLibA
import Derived.Test.YtgnlfnkgkcmdjaaLibB
import Derived.Test.YtgnlfnkgkcmdjaaWMissingWord
import Derived.Test.YtgnlfnkgkcmdjaaWMissingWordb
import Derived.Test.YtgnlfnkgkcmdjaaWMissingWordc
import Derived.Test.YtgnlfnkgkcmdjaaWMissingWordd
import Derived.Test.YtgnlfnkgkcmdjaaProg
namespace Go.Proofs.Ytgnlfnkgkcmdjaa
open Go.KLib Go.Shelf
set_option maxHeartbeats 1000000
set_option maxRecDepth 20000
set_option linter.unusedVariables false
set_option linter.unusedSimpArgs false
namespace TMissingWorde
theorem agg24 : Ys Try.prog 24 = some false := by kernel_rfl
theorem agg25 : Ys Try.prog 25 = some false := by kernel_rfl
theorem agg27 : Ys Try.prog 27 = some true := by kernel_rfl
theorem agg3 : Ys Try.prog 3 = some false := by kernel_rfl
theorem agg30 : Ys Try.prog 30 = some false := by kernel_rfl
theorem agg4 : Ys Try.prog 4 = some false := by kernel_rfl
theorem agg44 : Ys Try.prog 44 = some true := by kernel_rfl
theorem agg48 : Ys Try.prog 48 = some true := by kernel_rfl
theorem agg5 : Ys Try.prog 5 = some false := by kernel_rfl
theorem by4 : Qw Try.prog 4 = some 1 := by kernel_rfl
theorem el22 : elB Try.prog 22 = some 5 := by kernel_rfl
theorem el24 : elB Try.prog 24 = some 4 := by kernel_rfl
theorem el25 : elB Try.prog 25 = some 30 := by kernel_rfl
theorem el30 : elB Try.prog 30 = some 3 := by kernel_rfl
theorem fa27_0 : faB Try.prog 27 0 = some 0 := by kernel_rfl
theorem fa27_1 : faB Try.prog 27 1 = some 1 := by kernel_rfl
theorem fa27_2 : faB Try.prog 27 2 = some 2 := by kernel_rfl
theorem fk10 : fnB Try.prog 10 = true := by kernel_rfl
theorem fk100 : fnB Try.prog 100 = true := by kernel_rfl
theorem fk111 : fnB Try.prog 111 = true := by kernel_rfl
theorem fk119 : fnB Try.prog 119 = true := by kernel_rfl
theorem fk120 : fnB Try.prog 120 = true := by kernel_rfl
theorem fk125 : fnB Try.prog 125 = true := by kernel_rfl
theorem fk126 : fnB Try.prog 126 = true := by kernel_rfl
theorem fk13 : fnB Try.prog 13 = true := by kernel_rfl
theorem fk130 : fnB Try.prog 130 = true := by kernel_rfl
theorem fk14 : fnB Try.prog 14 = true := by kernel_rfl
theorem fk140 : fnB Try.prog 140 = true := by kernel_rfl
theorem fk15 : fnB Try.prog 15 = true := by kernel_rfl
theorem fk16 : fnB Try.prog 16 = true := by kernel_rfl
theorem fk17 : fnB Try.prog 17 = true := by kernel_rfl
theorem fk18 : fnB Try.prog 18 = true := by kernel_rfl
theorem fk19 : fnB Try.prog 19 = true := by kernel_rfl
theorem fk20 : fnB Try.prog 20 = true := by kernel_rfl
theorem fk21 : fnB Try.prog 21 = true := by kernel_rfl
theorem fk22 : fnB Try.prog 22 = true := by kernel_rfl
theorem fk23 : fnB Try.prog 23 = true := by kernel_rfl
theorem fk24 : fnB Try.prog 24 = true := by kernel_rfl
theorem fk27 : fnB Try.prog 27 = true := by kernel_rfl
theorem fk40 : fnB Try.prog 40 = true := by kernel_rfl
theorem fk41 : fnB Try.prog 41 = true := by kernel_rfl
theorem fk42 : fnB Try.prog 42 = true := by kernel_rfl
theorem fk55 : fnB Try.prog 55 = true := by kernel_rfl
theorem fk59 : fnB Try.prog 59 = true := by kernel_rfl
theorem fk6 : fnB Try.prog 6 = true := by kernel_rfl
theorem fk84 : fnB Try.prog 84 = true := by kernel_rfl
theorem fk85 : fnB Try.prog 85 = true := by kernel_rfl
theorem fk96 : fnB Try.prog 96 = true := by kernel_rfl
theorem fk97 : fnB Try.prog 97 = true := by kernel_rfl
theorem mixed : Try.prog.follows .mixedOrders = true := by kernel_rfl
theorem pl101 : Qp Try.prog 101 = some [(0, 1), (1, 1), (2, 1)] := by kernel_rfl
theorem pl44 : Qp Try.prog 44 = some [(0, 1)] := by kernel_rfl
theorem pl84 : Qp Try.prog 84 = some [(0, 1), (1, 1), (2, 1), (3, 1)] := by kernel_rfl
theorem sz24 : Yg Try.prog 24 = some 1 := by kernel_rfl
theorem sz27 : Yg Try.prog 27 = some 3 := by kernel_rfl
theorem sz3 : Yg Try.prog 3 = some 1 := by kernel_rfl
theorem sz30 : Yg Try.prog 30 = some 1 := by kernel_rfl
theorem sz4 : Yg Try.prog 4 = some 1 := by kernel_rfl
theorem sz44 : Yg Try.prog 44 = some 1 := by kernel_rfl
theorem sz48 : Yg Try.prog 48 = some 5 := by kernel_rfl
theorem sz5 : Yg Try.prog 5 = some 1 := by kernel_rfl
theorem un3 : Try.prog.underlying 3 = some (.int .i64) := by kernel_rfl
theorem un4 : Try.prog.underlying 4 = some (.bool) := by kernel_rfl
theorem un5 : Try.prog.underlying 5 = some (.int .u8) := by kernel_rfl
theorem zr101 : Xg Try.prog 101 = some (.agg #[.slice none 0 0, .int .i64 0, .int .i64 0]) := by kernel_rfl
theorem zr27 : Xg Try.prog 27 = some (.agg #[.int .i64 0, .slice none 0 0, .slice none 0 0]) := by kernel_rfl
theorem zr3 : Xg Try.prog 3 = some (.int .i64 0) := by kernel_rfl
theorem zr4 : Xg Try.prog 4 = some (.bool false) := by kernel_rfl
theorem zr44 : Xg Try.prog 44 = some (.agg #[.slice none 0 0]) := by kernel_rfl
theorem zr48 : Xg Try.prog 48 = some (.agg #[.slice none 0 0, .int .i64 0, .int .i64 0, .slice none 0 0, .bool false]) := by kernel_rfl
theorem zr84 : Xg Try.prog 84 = some (.agg #[.int .i64 0, .int .i64 0, .int .i64 0, .int .i64 0]) := by kernel_rfl
end TMissingWorde
open TMissingWorde

/-- spec.l1PickInt -/
theorem Zay {w : World} {b_c : Nat} (f : Cu w b_c) {e_list : Nat} {a : Value} {list : List Int} (b : Ol ics e_list 1 w a list) (hl : 0 < list.length ∧ list.length ≤ 4096) (K9 : Nat) (q : b_c < K9) (i : Lo K9 a) :
 Ctr Try.prog 85 #[(.pointer (some ⟨b_c, 0, none⟩)), a] w (fun v w' => ∃ (n : Int) , v = .int .i64 n ∧ (n ∈ list) ∧ Cu w' b_c ∧ Ch [b_c] w w') := by
 have o := f.lt
 obtain ⟨d, e, rfl, h, c⟩ := b.opn
 have E := Ch.refl [b_c] w
 refine Yh (N := 12) (vs0 := [(.pointer (some ⟨b_c, 0, none⟩)), (.slice d list.length e)]) Try.func85 rfl rfl rfl ?_
 refine Zg fun V1 H1 => ?_
 refine Zc (Za rfl rfl (Ze rfl) (Zf (Zb (H1 _ _ ?_))))
 refine Zg fun V2 H2 => ?_
 refine Zc (Za rfl rfl (Zd rfl) (Za rfl rfl (Zd rfl) (Za rfl rfl (Zd rfl) (Za rfl rfl (Xm (by rw [el30]; rfl) rfl) (Zk rfl rfl ?_)))))
 refine Step.call (Zl (xs := [.tmp 6, .tmp 8]) fk42 rfl) (Qn f _ om) fun u W3 r => ?_
 obtain ⟨k, rfl, p, s, C3⟩ := r
 have x := C3.size
 have E := E.trans C3
 refine Zk rfl rfl ?_
 have F4 := b.ch C3 (dS i c om)
 refine (Yy (j := k.toNat) F4.ls Yl el30 sz3 rfl rfl om om fun t l g m => ?_)
 refine Za rfl rfl (Yk m agg3 rfl rfl) (Za rfl rfl (Ze rfl) (Zf (Zb (H2 _ _ ?_))))
 refine Zs ?_
 exact Zi [_] ⟨rfl, trivial⟩ ⟨l, (congrArg (fun zq => (Value.int .i64 zq)) (by first | rfl | simp_all)), (Yv g), s, E⟩

/-- spec.l8Make -/
theorem Zij : ∀ (n : Nat) {w : World} {b_c : Nat} (aI : Cu w b_c) (deep : Int) (hd : 0 ≤ deep ∧ deep ≤ 3) (hsz : deep.toNat < n),
 Ctr Try.prog 126 #[(.pointer (some ⟨b_c, 0, none⟩)), (.int .i64 deep)] w (fun v w' => ∃ (b7 : List Token) (ak : Value), v = .agg #[ak] ∧ Ol Token.cs 84 4 w' ak (b7) ∧ Lo w.heap.size ak ∧ (1 ≤ b7.length ∧ b7.length + 1 ≤ 2 ^ (deep.toNat + 1)) ∧ Cu w' b_c ∧ Ch [b_c] w w') := by
 intro n
 induction n with
 | zero => intros; omega
 | succ n ih =>
 intro w b_c aI deep hd hsz
 have cZ := aI.lt
 have E := Ch.refl [b_c] w
 refine Yh (N := 70) (vs0 := [(.pointer (some ⟨b_c, 0, none⟩)), (.int .i64 deep)]) Try.func126 rfl rfl rfl ?_
 refine Zg fun K1 H1 => ?_
 refine Zc (Zk rfl rfl ?_)
 refine Yr zr44 fun aJ W2 al C2 e6 => ?_
 have e7 := C2.size
 have E := E.trans C2.of_nil
 have e8 := al.lt
 replace al : Blk W2 aJ 44 [(.slice none 0 0)] := al
 refine Zf (Zb (H1 _ _ ?_))
 refine Zg fun K3 H3 => ?_
 refine Zg fun K4 H4 => ?_
 refine Zc (Za rfl rfl (Zd rfl) (Za rfl rfl (Xu rfl rfl) (Zf (Zb (H4 _ _ ?_)))))
 refine Zx rfl (fun a1 => ?_) (fun a1 => ?_)
 ·have dr := a1
  have a1 := Yo a1
  refine Zg fun K6 H6 => ?_
  refine Zg fun K7 H7 => ?_
  refine Zc (Za rfl rfl (Zd rfl) (Zk rfl rfl ?_))
  have F8 := aI.ch0 C2
  refine Step.call (Zl (xs := [.tmp 8, .const (Go.Value.int Go.IntKind.i64 12)]) fk96 rfl) (Zan F8 _ om) fun e9 W9 ds => ?_
  obtain ⟨dt, rfl, c0, C9⟩ := ds
  have fa := C9.size
  have E := E.trans C9
  refine Zf (Zb (H7 _ _ ?_))
  refine Zx rfl (fun b8 => ?_) (fun b8 => ?_)
  ·have b9 := b8
   refine Zg fun fb du => ?_
   refine Zc (Za rfl rfl (Zd rfl) (Zk rfl rfl ?_))
   refine Zr (cs := ics) (parts := [(0, .const (Go.Value.int Go.IntKind.i64 1)), (1, .const (Go.Value.int Go.IntKind.i64 2))]) (0 : Int) [1, 2] el30 sz3 zr3 Yl (by decide) rfl rfl rfl (by decide) (by decide) rfl fun dv fc bj bk bL => ?_
   have dw := bL.size
   have E := E.trans bL.of_nil
   obtain ⟨c1, c2, rfl, c3, ca⟩ := bj.opn
   refine Zk rfl rfl ?_
   have dx := c0.ch0 bL
   refine Step.call (Zl (xs := [.tmp 10, .tmp 11]) fk85 rfl) (Zay dx bj (by decide) W9.heap.size om bk) fun dy fd cb => ?_
   obtain ⟨H, rfl, cc, cd, ce⟩ := cb
   have dz := ce.size
   have E := E.trans ce
   refine Zk rfl rfl ?_
   refine Step.call (Zl (xs := [.tmp 12]) fk130 rfl) (Zdc _ ) fun dA fe aK => ?_
   obtain ⟨dB, rfl, aK, aV, bM⟩ := aK
   have dC := bM.size
   have E := E.trans bM.of_nil
   obtain ⟨ab, ac, rfl, c4, a2⟩ := aK.opn
   refine Zk rfl rfl ?_
   have dD := (((al.ch C9 (nS om)).ch0 bL).ch ce (nS om)).ch0 bM
   refine Zy (off := 0) 1 dD sz44 rfl (us := [(.slice ab ([(⟨H, 0, 0, 0⟩ : Token)]).length ac)]) rfl rfl rfl rfl fun c5 am bN => ?_
   have dE := bN.size
   have E := E.step bN (lS om)
   replace am : Blk c5 aJ 44 [(.slice ab ([(⟨H, 0, 0, 0⟩ : Token)]).length ac)] := am
   refine Zf (Zb (du _ _ ?_))
   refine Zs (Zm (Zm ?_))
   clear H3 H6
   have dF := aK.ch bN (dS aV a2 om)
   have bm : Ol Token.cs 84 4 c5 (.slice ab ([(⟨H, 0, 0, 0⟩ : Token)]).length ac) ([(⟨H, 0, 0, 0⟩ : Token)]) := by
    have hx := dF
    first | exact hx | simpa using hx
   have dG := (cd.ch0 bM).ch bN (oS om)
   exact Zi [_] (Zz am rfl agg44 sz44 trivial) ⟨([(⟨H, 0, 0, 0⟩ : Token)]), (.slice ab ([(⟨H, 0, 0, 0⟩ : Token)]).length ac), rfl, bm, (Lo.down aV om), (by first | exact Zdo om | exact Zbp a b rfl om | exact Zbp c d rfl om | exact Zbo o rfl om | exact Zbo p rfl om), dG, E⟩
  have b9 := b8
  refine Zu ?_
  refine Zb (H6 _ _ ?_)
  refine Zg fun ff dH => ?_
  refine Zc (Za rfl rfl (Zd rfl) (Zk rfl rfl ?_))
  refine Zr (cs := ics) (parts := [(0, .const (Go.Value.int Go.IntKind.i64 0)), (1, .const (Go.Value.int Go.IntKind.i64 0)), (2, .const (Go.Value.int Go.IntKind.i64 2)), (3, .const (Go.Value.int Go.IntKind.i64 2)), (4, .const (Go.Value.int Go.IntKind.i64 1)), (5, .const (Go.Value.int Go.IntKind.i64 4)), (6, .const (Go.Value.int Go.IntKind.i64 3)), (7, .const (Go.Value.int Go.IntKind.i64 6)), (8, .const (Go.Value.int Go.IntKind.i64 7))]) (0 : Int) [0, 0, 2, 2, 1, 4, 3, 6, 7] el30 sz3 zr3 Yl (by decide) rfl rfl rfl (by decide) (by decide) rfl fun dI fg bn bp bO => ?_
  have dJ := bO.size
  have E := E.trans bO.of_nil
  obtain ⟨c6, c7, rfl, c8, cf⟩ := bn.opn
  refine Zk rfl rfl ?_
  have dL := c0.ch0 bO
  refine Step.call (Zl (xs := [.tmp 14, .tmp 15]) fk85 rfl) (Zay dL bn (by decide) W9.heap.size om bp) fun dM fh cg => ?_
  obtain ⟨I, rfl, ci, cj, ck⟩ := cg
  have dN := ck.size
  have E := E.trans ck
  refine Zk rfl rfl ?_
  refine Step.call (Zl (xs := [.tmp 16]) fk140 rfl) (Zgf _ ) fun dP fi aL => ?_
  obtain ⟨dQ, rfl, aL, aW, bP⟩ := aL
  have dR := bP.size
  have E := E.trans bP.of_nil
  obtain ⟨ad, ae, rfl, c9, a3⟩ := aL.opn
  refine Zk rfl rfl ?_
  have dU := (((al.ch C9 (nS om)).ch0 bO).ch ck (nS om)).ch0 bP
  refine Zy (off := 0) 1 dU sz44 rfl (us := [(.slice ad ([(⟨3, I, 0, 0⟩ : Token)]).length ae)]) rfl rfl rfl rfl fun da an bQ => ?_
  have dW := bQ.size
  have E := E.step bQ (lS om)
  replace an : Blk da aJ 44 [(.slice ad ([(⟨3, I, 0, 0⟩ : Token)]).length ae)] := an
  refine Zf (Zb (dH _ _ ?_))
  refine Zs (Zm ?_)
  have dX := aL.ch bQ (dS aW a3 om)
  have bq : Ol Token.cs 84 4 da (.slice ad ([(⟨3, I, 0, 0⟩ : Token)]).length ae) ([(⟨3, I, 0, 0⟩ : Token)]) := by
   have hx := dX
   first | exact hx | simpa using hx
  have dY := (cj.ch0 bP).ch bQ (oS om)
  exact Zi [_] (Zz an rfl agg44 sz44 trivial) ⟨([(⟨3, I, 0, 0⟩ : Token)]), (.slice ad ([(⟨3, I, 0, 0⟩ : Token)]).length ae), rfl, bq, (Lo.down aW om), (by first | exact Zdo om | exact Zbp a b rfl om | exact Zbp c d rfl om | exact Zbo o rfl om | exact Zbo p rfl om), dY, E⟩
 have dr := a1
 have a1 := Yp a1
 refine Zu ?_
 refine Zb (H3 _ _ ?_)
 refine Zg fun fj dZ => ?_
 refine Zg fun fk d0 => ?_
 refine Zc (Za rfl rfl (Zd rfl) (Zk rfl rfl ?_))
 have d1 := aI.ch0 C2
 refine Step.call (Zl (xs := [.tmp 18, .const (Go.Value.int Go.IntKind.i64 6)]) fk42 rfl) (Qn d1 _ om) fun d2 fl cm => ?_
 obtain ⟨db, rfl, cn, aj, aX⟩ := cm
 have d3 := aX.size
 have E := E.trans aX
 refine Zf (Zb (d0 _ _ ?_))
 refine Yf ?_
 refine Zg fun fm dc => ?_
 refine Zg fun fn d4 => ?_
 refine Zc (Za rfl rfl (Xu rfl rfl) (Za rfl rfl (Ze rfl) (Zf (Zb (d4 _ _ ?_)))))
 refine Zx rfl (fun s => ?_) (fun s => ?_)
 ·have br := s
  have s := Yo s
  refine Zu ?_
  refine Zb (dc _ _ ?_)
  refine Zcy rfl br ?_
  refine Zg fun fo d5 => ?_
  refine Zc (Za rfl rfl (Zd rfl) (Za rfl rfl (Zd rfl) (Za rfl rfl (Zbr om rfl rfl) (Zk rfl rfl ?_))))
  refine Step.call (Zl (xs := [.tmp 23, .tmp 25]) fk126 rfl) (ih aj _ om om) fun co fp a4 => ?_
  obtain ⟨i, aM, rfl, e, q, a, a5, cp⟩ := a4
  have d6 := cp.size
  have E := E.trans cp
  obtain ⟨ao, ap, rfl, aq, t⟩ := e.opn
  have cq := Zhl a om
  refine Za rfl rfl (Zd rfl) (Za rfl rfl (Zd rfl) (Za rfl rfl (Zbr om rfl rfl) (Zk rfl rfl ?_)))
  refine Step.call (Zl (xs := [.tmp 27, .tmp 29]) fk126 rfl) (ih a5 _ om om) fun cr fq a6 => ?_
  obtain ⟨j, aN, rfl, f, O, b, a7, bR⟩ := a6
  have d7 := bR.size
  have E := E.trans bR
  obtain ⟨au, av, rfl, aw, T⟩ := f.opn
  have ct := Zhl b om
  refine Za rfl rfl (Yt (parts := [(0, .const (Go.Value.int Go.IntKind.i64 4))]) (cells := [(.int .i64 4), (.int .i64 0), (.int .i64 0), (.int .i64 0)]) zr84 pl84 rfl rfl) (Zk rfl rfl ?_)
  have d8 := e.ch bR (dS q t om)
  refine Step.call (Zl (xs := [.tmp 26, .tmp 30, .tmp 31]) fk111 rfl) (Qh d8.ls f.ls ⟨4, 0, 0, 0⟩ (by first | omega | (simp only [List.length_nil]; omega))) fun cu fr L => ?_
  obtain ⟨cv, rfl, L, P, bS⟩ := L
  have d9 := bS.size
  have E := E.trans bS.of_nil
  obtain ⟨y, z, rfl, bs, U⟩ := L.opn
  refine Zk rfl rfl ?_
  have ea := (((al.ch aX (nS om)).ch cp (nS om)).ch bR (nS om)).ch0 bS
  refine Zy (off := 0) 1 ea sz44 rfl (us := [(.slice y (i ++ j ++ [(⟨4, 0, 0, 0⟩ : Token)]).length z)]) rfl rfl rfl rfl fun dd ax bT => ?_
  have eb := bT.size
  have E := E.step bT (lS om)
  replace ax : Blk dd aJ 44 [(.slice y (i ++ j ++ [(⟨4, 0, 0, 0⟩ : Token)]).length z)] := ax
  refine Zf (Zb (d5 _ _ ?_))
  refine Zs (Yi (Zm ?_))
  have ec := L.ch bT (dS P U om)
  have bu : Ol Token.cs 84 4 dd (.slice y (i ++ j ++ [(⟨4, 0, 0, 0⟩ : Token)]).length z) (i ++ j ++ [(⟨4, 0, 0, 0⟩ : Token)]) := by
   have hx := ec
   first | exact hx | simpa using hx
  have ed := (a7.ch0 bS).ch bT (oS om)
  exact Zi [_] (Zz ax rfl agg44 sz44 trivial) ⟨(i ++ j ++ [(⟨4, 0, 0, 0⟩ : Token)]), (.slice y (i ++ j ++ [(⟨4, 0, 0, 0⟩ : Token)]).length z), rfl, bu, (Lo.down P om), (by first | exact Zdo om | exact Zbp a b rfl om | exact Zbp c d rfl om | exact Zbo o rfl om | exact Zbo p rfl om), ed, E⟩
 have br := s
 have s := Yp s
 refine Zc (Za rfl rfl (Xu rfl rfl) (Za rfl rfl (Ze rfl) (Zf (Zb (dc _ _ ?_)))))
 refine Zx rfl (fun s => ?_) (fun s => ?_)
 ·have cw := s
  have s := Yo s
  refine Zg fun fs ee => ?_
  refine Zc (Za rfl rfl (Zd rfl) (Za rfl rfl (Zd rfl) (Za rfl rfl (Zbr om rfl rfl) (Zk rfl rfl ?_))))
  refine Step.call (Zl (xs := [.tmp 23, .tmp 25]) fk126 rfl) (ih aj _ om om) fun co ft a4 => ?_
  obtain ⟨i, aM, rfl, e, q, a, a5, cx⟩ := a4
  have ef := cx.size
  have E := E.trans cx
  obtain ⟨ao, ap, rfl, aq, t⟩ := e.opn
  have cq := Zhl a om
  refine Za rfl rfl (Zd rfl) (Za rfl rfl (Zd rfl) (Za rfl rfl (Zbr om rfl rfl) (Zk rfl rfl ?_)))
  refine Step.call (Zl (xs := [.tmp 27, .tmp 29]) fk126 rfl) (ih a5 _ om om) fun cr fu a6 => ?_
  obtain ⟨j, aN, rfl, f, O, b, a7, bU⟩ := a6
  have eg := bU.size
  have E := E.trans bU
  obtain ⟨au, av, rfl, aw, T⟩ := f.opn
  have ct := Zhl b om
  refine Za rfl rfl (Yt (parts := [(0, .const (Go.Value.int Go.IntKind.i64 4))]) (cells := [(.int .i64 4), (.int .i64 0), (.int .i64 0), (.int .i64 0)]) zr84 pl84 rfl rfl) (Zk rfl rfl ?_)
  have eh := e.ch bU (dS q t om)
  refine Step.call (Zl (xs := [.tmp 26, .tmp 30, .tmp 31]) fk111 rfl) (Qh eh.ls f.ls ⟨4, 0, 0, 0⟩ (by first | omega | (simp only [List.length_nil]; omega))) fun cu fv L => ?_
  obtain ⟨cv, rfl, L, P, bV⟩ := L
  have ei := bV.size
  have E := E.trans bV.of_nil
  obtain ⟨y, z, rfl, bs, U⟩ := L.opn
  refine Zk rfl rfl ?_
  have ej := (((al.ch aX (nS om)).ch cx (nS om)).ch bU (nS om)).ch0 bV
  refine Zy (off := 0) 1 ej sz44 rfl (us := [(.slice y (i ++ j ++ [(⟨4, 0, 0, 0⟩ : Token)]).length z)]) rfl rfl rfl rfl fun de ay bW => ?_
  have ek := bW.size
  have E := E.step bW (lS om)
  replace ay : Blk de aJ 44 [(.slice y (i ++ j ++ [(⟨4, 0, 0, 0⟩ : Token)]).length z)] := ay
  refine Zf (Zb (ee _ _ ?_))
  refine Zs (Yi (Zm ?_))
  have el := L.ch bW (dS P U om)
  have bv : Ol Token.cs 84 4 de (.slice y (i ++ j ++ [(⟨4, 0, 0, 0⟩ : Token)]).length z) (i ++ j ++ [(⟨4, 0, 0, 0⟩ : Token)]) := by
   have hx := el
   first | exact hx | simpa using hx
  have em := (a7.ch0 bV).ch bW (oS om)
  exact Zi [_] (Zz ay rfl agg44 sz44 trivial) ⟨(i ++ j ++ [(⟨4, 0, 0, 0⟩ : Token)]), (.slice y (i ++ j ++ [(⟨4, 0, 0, 0⟩ : Token)]).length z), rfl, bv, (Lo.down P om), (by first | exact Zdo om | exact Zbp a b rfl om | exact Zbp c d rfl om | exact Zbo o rfl om | exact Zbo p rfl om), em, E⟩
 have cw := s
 have s := Yp s
 refine Zg fun fw df => ?_
 refine Zg fun fx en => ?_
 refine Zc (Za rfl rfl (Xu rfl rfl) (Za rfl rfl (Ze rfl) (Zf (Zb (en _ _ ?_)))))
 refine Zx rfl (fun u => ?_) (fun u => ?_)
 ·have bw := u
  have u := Yo u
  refine Zu ?_
  refine Zb (df _ _ ?_)
  refine Zcy rfl bw ?_
  refine Zg fun fy eo => ?_
  refine Zc (Za rfl rfl (Zd rfl) (Za rfl rfl (Zd rfl) (Za rfl rfl (Zbr om rfl rfl) (Zk rfl rfl ?_))))
  refine Step.call (Zl (xs := [.tmp 36, .tmp 38]) fk126 rfl) (ih aj _ om om) fun cy fz a8 => ?_
  obtain ⟨l, aO, rfl, g, r, c, a9, cz⟩ := a8
  have ep := cz.size
  have E := E.trans cz
  obtain ⟨az, aA, rfl, aB, x⟩ := g.opn
  have cA := Zhl c om
  refine Za rfl rfl (Zd rfl) (Za rfl rfl (Zd rfl) (Za rfl rfl (Zbr om rfl rfl) (Zk rfl rfl ?_)))
  refine Step.call (Zl (xs := [.tmp 40, .tmp 42]) fk126 rfl) (ih a9 _ om om) fun cB fA ba => ?_
  obtain ⟨m, aP, rfl, h, Q, d, bb, bX⟩ := ba
  have er := bX.size
  have E := E.trans bX
  obtain ⟨aC, aD, rfl, aE, V⟩ := h.opn
  have cC := Zhl d om
  refine Za rfl rfl (Yt (parts := [(0, .const (Go.Value.int Go.IntKind.i64 5))]) (cells := [(.int .i64 5), (.int .i64 0), (.int .i64 0), (.int .i64 0)]) zr84 pl84 rfl rfl) (Zk rfl rfl ?_)
  have es := g.ch bX (dS r x om)
  refine Step.call (Zl (xs := [.tmp 39, .tmp 43, .tmp 44]) fk111 rfl) (Qh es.ls h.ls ⟨5, 0, 0, 0⟩ (by first | omega | (simp only [List.length_nil]; omega))) fun cD fB M => ?_
  obtain ⟨cE, rfl, M, R, bY⟩ := M
  have et := bY.size
  have E := E.trans bY.of_nil
  obtain ⟨A, B, rfl, bz, X⟩ := M.opn
  refine Zk rfl rfl ?_
  have eu := (((al.ch aX (nS om)).ch cz (nS om)).ch bX (nS om)).ch0 bY
  refine Zy (off := 0) 1 eu sz44 rfl (us := [(.slice A (l ++ m ++ [(⟨5, 0, 0, 0⟩ : Token)]).length B)]) rfl rfl rfl rfl fun dg aF bZ => ?_
  have ew := bZ.size
  have E := E.step bZ (lS om)
  replace aF : Blk dg aJ 44 [(.slice A (l ++ m ++ [(⟨5, 0, 0, 0⟩ : Token)]).length B)] := aF
  refine Zf (Zb (eo _ _ ?_))
  refine Zs (Yi (Zm ?_))
  have ex := M.ch bZ (dS R X om)
  have bA : Ol Token.cs 84 4 dg (.slice A (l ++ m ++ [(⟨5, 0, 0, 0⟩ : Token)]).length B) (l ++ m ++ [(⟨5, 0, 0, 0⟩ : Token)]) := by
   have hx := ex
   first | exact hx | simpa using hx
  have ey := (bb.ch0 bY).ch bZ (oS om)
  exact Zi [_] (Zz aF rfl agg44 sz44 trivial) ⟨(l ++ m ++ [(⟨5, 0, 0, 0⟩ : Token)]), (.slice A (l ++ m ++ [(⟨5, 0, 0, 0⟩ : Token)]).length B), rfl, bA, (Lo.down R om), (by first | exact Zdo om | exact Zbp a b rfl om | exact Zbp c d rfl om | exact Zbo o rfl om | exact Zbo p rfl om), ey, E⟩
 have bw := u
 have u := Yp u
 refine Zc (Za rfl rfl (Xu rfl rfl) (Za rfl rfl (Ze rfl) (Zf (Zb (df _ _ ?_)))))
 refine Zx rfl (fun u => ?_) (fun u => ?_)
 ·have cF := u
  have u := Yo u
  refine Zg fun fC ez => ?_
  refine Zc (Za rfl rfl (Zd rfl) (Za rfl rfl (Zd rfl) (Za rfl rfl (Zbr om rfl rfl) (Zk rfl rfl ?_))))
  refine Step.call (Zl (xs := [.tmp 36, .tmp 38]) fk126 rfl) (ih aj _ om om) fun cy fD a8 => ?_
  obtain ⟨l, aO, rfl, g, r, c, a9, cG⟩ := a8
  have eA := cG.size
  have E := E.trans cG
  obtain ⟨az, aA, rfl, aB, x⟩ := g.opn
  have cA := Zhl c om
  refine Za rfl rfl (Zd rfl) (Za rfl rfl (Zd rfl) (Za rfl rfl (Zbr om rfl rfl) (Zk rfl rfl ?_)))
  refine Step.call (Zl (xs := [.tmp 40, .tmp 42]) fk126 rfl) (ih a9 _ om om) fun cB fE ba => ?_
  obtain ⟨m, aP, rfl, h, Q, d, bb, b0⟩ := ba
  have eB := b0.size
  have E := E.trans b0
  obtain ⟨aC, aD, rfl, aE, V⟩ := h.opn
  have cC := Zhl d om
  refine Za rfl rfl (Yt (parts := [(0, .const (Go.Value.int Go.IntKind.i64 5))]) (cells := [(.int .i64 5), (.int .i64 0), (.int .i64 0), (.int .i64 0)]) zr84 pl84 rfl rfl) (Zk rfl rfl ?_)
  have eC := g.ch b0 (dS r x om)
  refine Step.call (Zl (xs := [.tmp 39, .tmp 43, .tmp 44]) fk111 rfl) (Qh eC.ls h.ls ⟨5, 0, 0, 0⟩ (by first | omega | (simp only [List.length_nil]; omega))) fun cD fF M => ?_
  obtain ⟨cE, rfl, M, R, b1⟩ := M
  have eD := b1.size
  have E := E.trans b1.of_nil
  obtain ⟨A, B, rfl, bz, X⟩ := M.opn
  refine Zk rfl rfl ?_
  have eE := (((al.ch aX (nS om)).ch cG (nS om)).ch b0 (nS om)).ch0 b1
  refine Zy (off := 0) 1 eE sz44 rfl (us := [(.slice A (l ++ m ++ [(⟨5, 0, 0, 0⟩ : Token)]).length B)]) rfl rfl rfl rfl fun dh aG b2 => ?_
  have eF := b2.size
  have E := E.step b2 (lS om)
  replace aG : Blk dh aJ 44 [(.slice A (l ++ m ++ [(⟨5, 0, 0, 0⟩ : Token)]).length B)] := aG
  refine Zf (Zb (ez _ _ ?_))
  refine Zs (Yi (Zm ?_))
  have eG := M.ch b2 (dS R X om)
  have bB : Ol Token.cs 84 4 dh (.slice A (l ++ m ++ [(⟨5, 0, 0, 0⟩ : Token)]).length B) (l ++ m ++ [(⟨5, 0, 0, 0⟩ : Token)]) := by
   have hx := eG
   first | exact hx | simpa using hx
  have eH := (bb.ch0 b1).ch b2 (oS om)
  exact Zi [_] (Zz aG rfl agg44 sz44 trivial) ⟨(l ++ m ++ [(⟨5, 0, 0, 0⟩ : Token)]), (.slice A (l ++ m ++ [(⟨5, 0, 0, 0⟩ : Token)]).length B), rfl, bB, (Lo.down R om), (by first | exact Zdo om | exact Zbp a b rfl om | exact Zbp c d rfl om | exact Zbo o rfl om | exact Zbo p rfl om), eH, E⟩
 have cF := u
 have u := Yp u
 refine Zg fun fG eI => ?_
 refine Zc (Za rfl rfl (Xu rfl rfl) (Za rfl rfl (Ze rfl) (Zf (Zb (eI _ _ ?_)))))
 refine Zx rfl (fun Y => ?_) (fun Y => ?_)
 ·have cH := Y
  have Y := Yo Y
  refine Zg fun fH eJ => ?_
  refine Zc (Za rfl rfl (Zd rfl) (Za rfl rfl (Zd rfl) (Za rfl rfl (Zbr om rfl rfl) (Zk rfl rfl ?_))))
  refine Step.call (Zl (xs := [.tmp 48, .tmp 50]) fk126 rfl) (ih aj _ om om) fun eK fI cI => ?_
  obtain ⟨J, b3, rfl, F, aY, o, cJ, cK⟩ := cI
  have eL := cK.size
  have E := E.trans cK
  obtain ⟨bC, bD, rfl, bF, bc⟩ := F.opn
  have eM := Zhl o om
  refine Za rfl rfl (Yt (parts := []) (cells := [(.slice none 0 0)]) zr44 pl44 rfl rfl) (Za rfl rfl (Yt (parts := [(0, .const (Go.Value.int Go.IntKind.i64 6))]) (cells := [(.int .i64 6), (.int .i64 0), (.int .i64 0), (.int .i64 0)]) zr84 pl84 rfl rfl) (Zk rfl rfl ?_))
  refine Step.call (Zl (xs := [.tmp 51, .tmp 52, .tmp 53]) fk111 rfl) (Qh F.ls (Ls.nil (cs := Token.cs) (k := 4) _ 0 0) ⟨6, 0, 0, 0⟩ (by first | omega | (simp only [List.length_nil]; omega))) fun eN fJ aQ => ?_
  obtain ⟨eO, rfl, aQ, aZ, b4⟩ := aQ
  have eP := b4.size
  have E := E.trans b4.of_nil
  obtain ⟨af, ag, rfl, di, be⟩ := aQ.opn
  refine Zk rfl rfl ?_
  have eQ := ((al.ch aX (nS om)).ch cK (nS om)).ch0 b4
  refine Zy (off := 0) 1 eQ sz44 rfl (us := [(.slice af (J ++ [] ++ [(⟨6, 0, 0, 0⟩ : Token)]).length ag)]) rfl rfl rfl rfl fun dj aH b5 => ?_
  have eR := b5.size
  have E := E.step b5 (lS om)
  replace aH : Blk dj aJ 44 [(.slice af (J ++ [] ++ [(⟨6, 0, 0, 0⟩ : Token)]).length ag)] := aH
  refine Zf (Zb (eJ _ _ ?_))
  refine Zs (Yi (Zm ?_))
  have eS := aQ.ch b5 (dS aZ be om)
  have bG : Ol Token.cs 84 4 dj (.slice af (J ++ [] ++ [(⟨6, 0, 0, 0⟩ : Token)]).length ag) (J ++ [] ++ [(⟨6, 0, 0, 0⟩ : Token)]) := by
   have hx := eS
   first | exact hx | simpa using hx
  have eT := (cJ.ch0 b4).ch b5 (oS om)
  exact Zi [_] (Zz aH rfl agg44 sz44 trivial) ⟨(J ++ [] ++ [(⟨6, 0, 0, 0⟩ : Token)]), (.slice af (J ++ [] ++ [(⟨6, 0, 0, 0⟩ : Token)]).length ag), rfl, bG, (Lo.down aZ om), (by first | exact Zdo om | exact Zbp a b rfl om | exact Zbp c d rfl om | exact Zbo o rfl om | exact Zbo p rfl om), eT, E⟩
 have cH := Y
 have Y := Yp Y
 refine Zu ?_
 refine Yc (Zb (dZ _ _ ?_))
 refine Zg fun eU cL => ?_
 refine Zc (Za rfl rfl (Zd rfl) (Zk rfl rfl ?_))
 refine Step.call (Zl (xs := [.tmp 55, .const (Go.Value.int Go.IntKind.i64 3)]) fk42 rfl) (Qn aj _ om) fun eV eW cM => ?_
 obtain ⟨C, rfl, cN, cO, bf⟩ := cM
 have dk := bf.size
 have E := E.trans bf
 refine Za rfl rfl (Yq om rfl rfl) (Za rfl rfl (Ze rfl) (Zf (Zb (cL _ _ ?_))))
 refine Zg fun eX cP => ?_
 refine Zc (Za rfl rfl (Zd rfl) (Za rfl rfl (Zd rfl) (Za rfl rfl (Zbr om rfl rfl) (Zk rfl rfl ?_))))
 refine Step.call (Zl (xs := [.tmp 58, .tmp 60]) fk126 rfl) (ih cO _ om om) fun eY eZ cQ => ?_
 obtain ⟨K, b6, rfl, G, S, p, cR, bg⟩ := cQ
 have dl := bg.size
 have E := E.trans bg
 obtain ⟨bH, bI, rfl, bJ, Z⟩ := G.opn
 have e0 := Zhl p om
 refine Za rfl rfl (Yt (parts := []) (cells := [(.slice none 0 0)]) zr44 pl44 rfl rfl) (Za rfl rfl (Zd rfl) (Za rfl rfl (Zd rfl) (Za rfl rfl (Yq om rfl rfl) (Zk rfl rfl ?_))))
 refine Step.call (Zl (xs := [.tmp 63, .tmp 65]) fk42 rfl) (Qn cR _ om) fun e1 e2 cS => ?_
 obtain ⟨D, rfl, cT, cU, aR⟩ := cS
 have dm := aR.size
 have E := E.trans aR
 refine Za rfl rfl (Zd rfl) (Za rfl rfl (Yt (parts := [(0, .const (Go.Value.int Go.IntKind.i64 7)), (2, .tmp 66), (3, .tmp 67)]) (cells := [(.int .i64 7), (.int .i64 0), (.int .i64 D), (.int .i64 (1 + C))]) zr84 pl84 rfl rfl) (Zk rfl rfl ?_))
 have cV := G.ch aR (dS S Z om)
 refine Step.call (Zl (xs := [.tmp 61, .tmp 62, .tmp 68]) fk111 rfl) (Qh cV.ls (Ls.nil (cs := Token.cs) (k := 4) _ 0 0) ⟨7, 0, D, (1 + C)⟩ (by first | omega | (simp only [List.length_nil]; omega))) fun e3 e4 aS => ?_
 obtain ⟨e5, rfl, aS, a0, aT⟩ := aS
 have dn := aT.size
 have E := E.trans aT.of_nil
 obtain ⟨ah, ai, rfl, dp, bh⟩ := aS.opn
 refine Zk rfl rfl ?_
 have cW := ((((al.ch aX (nS om)).ch bf (nS om)).ch bg (nS om)).ch aR (nS om)).ch0 aT
 refine Zy (off := 0) 1 cW sz44 rfl (us := [(.slice ah (K ++ [] ++ [(⟨7, 0, D, (1 + C)⟩ : Token)]).length ai)]) rfl rfl rfl rfl fun bK aa aU => ?_
 have dq := aU.size
 have E := E.step aU (lS om)
 replace aa : Blk bK aJ 44 [(.slice ah (K ++ [] ++ [(⟨7, 0, D, (1 + C)⟩ : Token)]).length ai)] := aa
 refine Zf (Zb (cP _ _ ?_))
 refine Zs ?_
 have cX := aS.ch aU (dS a0 bh om)
 have bi : Ol Token.cs 84 4 bK (.slice ah (K ++ [] ++ [(⟨7, 0, D, (1 + C)⟩ : Token)]).length ai) (K ++ [] ++ [(⟨7, 0, D, (1 + C)⟩ : Token)]) := by
  have hx := cX
  first | exact hx | simpa using hx
 have cY := (cU.ch0 aT).ch aU (oS om)
 exact Zi [_] (Zz aa rfl agg44 sz44 trivial) ⟨(K ++ [] ++ [(⟨7, 0, D, (1 + C)⟩ : Token)]), (.slice ah (K ++ [] ++ [(⟨7, 0, D, (1 + C)⟩ : Token)]).length ai), rfl, bi, (Lo.down a0 om), (by first | exact Zdo om | exact Zbp a b rfl om | exact Zbp c d rfl om | exact Zbo o rfl om | exact Zbo p rfl om), cY, E⟩
theorem Zkp {w : World} {b_c : Nat} (b : Cu w b_c) (deep : Int) (hd : 0 ≤ deep ∧ deep ≤ 3) :
 Ctr Try.prog 126 #[(.pointer (some ⟨b_c, 0, none⟩)), (.int .i64 deep)] w (fun v w' => ∃ (c : List Token) (a : Value), v = .agg #[a] ∧ Ol Token.cs 84 4 w' a (c) ∧ Lo w.heap.size a ∧ (1 ≤ c.length ∧ c.length + 1 ≤ 2 ^ (deep.toNat + 1)) ∧ Cu w' b_c ∧ Ch [b_c] w w') := Zij _ b deep hd (Nat.lt_succ_self _)

/-- spec.l8Expr -/
theorem Zkr {w : World} {b_c : Nat} (q : Cu w b_c) :
 Ctr Try.prog 100 #[(.pointer (some ⟨b_c, 0, none⟩))] w (fun v w' => ∃ (C : List Token) (m : Value), v = .agg #[m] ∧ Ol Token.cs 84 4 w' m (C) ∧ Lo w.heap.size m ∧ (1 ≤ C.length ∧ C.length ≤ 24) ∧ Cu w' b_c ∧ Ch [b_c] w w') := by
 have L := q.lt
 have E := Ch.refl [b_c] w
 refine Yh (N := 12) (vs0 := [(.pointer (some ⟨b_c, 0, none⟩))]) Try.func100 rfl rfl rfl ?_
 refine Zg fun K1 H1 => ?_
 refine Zc (Zk rfl rfl ?_)
 refine Yr zr44 fun D W2 r C2 am => ?_
 have an := C2.size
 have E := E.trans C2.of_nil
 have ao := r.lt
 replace r : Blk W2 D 44 [(.slice none 0 0)] := r
 refine Zf (Zb (H1 _ _ ?_))
 refine Zg fun K3 H3 => ?_
 refine Zg fun K4 H4 => ?_
 refine Zc (Za rfl rfl (Zd rfl) (Zk rfl rfl ?_))
 have F5 := q.ch0 C2
 refine Step.call (Zl (xs := [.tmp 3, .const (Go.Value.int Go.IntKind.i64 2)]) fk96 rfl) (Zan F5 _ om) fun ap W6 R => ?_
 obtain ⟨S, rfl, M, C6⟩ := R
 have aq := C6.size
 have E := E.trans C6
 refine Zf (Zb (H4 _ _ ?_))
 refine Zx rfl (fun F => ?_) (fun F => ?_)
 ·have T := F
  refine Zg fun K8 H8 => ?_
  refine Zc (Za rfl rfl (Zd rfl) (Zk rfl rfl ?_))
  refine Step.call (Zl (xs := [.tmp 5]) fk125 rfl) (Ziv M ) fun au W9 U => ?_
  obtain ⟨k, G, rfl, h, f, s, V, C9⟩ := U
  have av := C9.size
  have E := E.trans C9
  obtain ⟨d, e, rfl, y, l⟩ := h.opn
  refine Zk rfl rfl ?_
  have X := (r.ch C6 (nS om)).ch C9 (nS om)
  refine Zy (off := 0) 1 X sz44 rfl (us := [(.slice d (k).length e)]) rfl rfl rfl rfl fun O n z => ?_
  have Y := z.size
  have E := E.step z (lS om)
  replace n : Blk O D 44 [(.slice d (k).length e)] := n
  refine Zf (Zb (H8 _ _ ?_))
  refine Zs (Zm ?_)
  have Z := h.ch z (dS f l om)
  have t : Ol Token.cs 84 4 O (.slice d (k).length e) (k) := by
   have hx := Z
   first | exact hx | simpa using hx
  have aa := V.ch z (oS om)
  exact Zi [_] (Zz n rfl agg44 sz44 trivial) ⟨k, (.slice d (k).length e), rfl, t, (Lo.down f om), s, aa, E⟩
 have T := F
 refine Zu ?_
 refine Zb (H3 _ _ ?_)
 refine Zg fun aw ab => ?_
 refine Zc (Za rfl rfl (Zd rfl) (Za rfl rfl (Zd rfl) (Zk rfl rfl ?_)))
 refine Step.call (Zl (xs := [.tmp 8, .const (Go.Value.int Go.IntKind.i64 3)]) fk42 rfl) (Qn M _ om) fun ax ay ac => ?_
 obtain ⟨ad, rfl, P, ae, H⟩ := ac
 have af := H.size
 have E := E.trans H
 refine Za rfl rfl (Yq om rfl rfl) (Zk rfl rfl ?_)
 refine Step.call (Zl (xs := [.tmp 7, .tmp 10]) fk126 rfl) (Zkp ae _ om) fun ag az I => ?_
 obtain ⟨i, A, rfl, g, c, p, J, K⟩ := I
 have ah := K.size
 have E := E.trans K
 obtain ⟨a, b, rfl, u, j⟩ := g.opn
 refine Zk rfl rfl ?_
 have ai := ((r.ch C6 (nS om)).ch H (nS om)).ch K (nS om)
 refine Zy (off := 0) 1 ai sz44 rfl (us := [(.slice a (i).length b)]) rfl rfl rfl rfl fun Q o B => ?_
 have aj := B.size
 have E := E.step B (lS om)
 replace o : Blk Q D 44 [(.slice a (i).length b)] := o
 refine Zf (Zb (ab _ _ ?_))
 refine Zs ?_
 have ak := g.ch B (dS c j om)
 have x : Ol Token.cs 84 4 Q (.slice a (i).length b) (i) := by
  have hx := ak
  first | exact hx | simpa using hx
 have al := J.ch B (oS om)
 exact Zi [_] (Zz o rfl agg44 sz44 trivial) ⟨i, (.slice a (i).length b), rfl, x, (Lo.down c om), (by have aA := Zhl p om; omega), al, E⟩

/-- spec.l11Aut -/
theorem Zkm {w : World} {b_c : Nat} (a9 : Cu w b_c) :
 Ctr Try.prog 84 #[(.pointer (some ⟨b_c, 0, none⟩))] w (fun v w' => ∃ (ba : Int) (aR : List Bool) (am : List (List Int)) (an : Value) (ao : Value) (ag : List Sv), v = .agg #[.int .i64 ba, an, ao] ∧ Ol bcs 4 1 w' an (aR) ∧ Lo w.heap.size an ∧ Ol Sv.cs 30 1 w' ao ag ∧ Lo w.heap.size ao ∧ Od ics 3 1 w' w.heap.size w'.heap.size ag (am) ∧ Sep ao ag ∧ (∀ g ∈ bl an, g ∉ bl ao) ∧ Sep an ag ∧ (1 ≤ am.length ∧ am.length ≤ 12 ∧ aR.length = am.length) ∧ (∀ r ∈ am, r.length = 9) ∧ Cu w' b_c ∧ Ch [b_c] w w') := by
 have b1 := a9.lt
 have E := Ch.refl [b_c] w
 refine Yh (N := 27) (vs0 := [(.pointer (some ⟨b_c, 0, none⟩))]) Try.func84 rfl rfl rfl ?_
 refine Zg fun K1 H1 => ?_
 refine Zc (Zk rfl rfl ?_)
 refine Yr zr27 fun bC W2 a0 C2 cU => ?_
 have cV := C2.size
 have E := E.trans C2.of_nil
 have cW := a0.lt
 replace a0 : Blk W2 bC 27 [(.int .i64 0), (.slice none 0 0), (.slice none 0 0)] := a0
 refine Zf (Zb (H1 _ _ ?_))
 refine Zg fun K3 H3 => ?_
 refine Zg fun K4 H4 => ?_
 refine Zc (Za rfl rfl (Zd rfl) (Zk rfl rfl ?_))
 have F5 := a9.ch0 C2
 refine Step.call (Zl (xs := [.tmp 7, .const (Go.Value.int Go.IntKind.i64 3)]) fk96 rfl) (Zan F5 _ om) fun cX W6 b6 => ?_
 obtain ⟨b7, rfl, b2, C6⟩ := b6
 have cY := C6.size
 have E := E.trans C6
 refine Zf (Zb (H4 _ _ ?_))
 refine Zx rfl (fun bQ => ?_) (fun bQ => ?_)
 ·have b8 := bQ
  refine Zg fun K8 H8 => ?_
  refine Zc (Za rfl rfl (Zd rfl) (Zk rfl rfl ?_))
  refine Step.call (Zl (xs := [.tmp 9]) fk119 rfl) (Zdh b2 ) fun b9 W9 bR => ?_
  obtain ⟨ah, k, aF, bD, bF, b, rfl, R, M, S, O, ai, ad, H, o, aV, aW, bS, C9⟩ := bR
  have cZ := C9.size
  have E := E.trans C9
  obtain ⟨s, t, rfl, bb, az⟩ := R.opn
  obtain ⟨u, x, rfl, bc, aA⟩ := S.opn
  refine Zk rfl rfl ?_
  have ca := (a0.ch C6 (nS om)).ch C9 (nS om)
  refine Zy (off := 0) 3 ca sz27 rfl (us := [(.int .i64 ah), (.slice s (k).length t), (.slice u (b).length x)]) rfl rfl rfl rfl fun a1 aI a2 => ?_
  have cb := a2.size
  have E := E.step a2 (lS om)
  replace aI : Blk a1 bC 27 [(.int .i64 ah), (.slice s (k).length t), (.slice u (b).length x)] := aI
  refine Zf (Zb (H8 _ _ ?_))
  refine Zs (Zm ?_)
  have cc := R.ch a2 (dS M az om)
  have be : Ol bcs 4 1 a1 (.slice s (k).length t) (k) := by
   have hx := cc
   first | exact hx | simpa using hx
  have cd := S.ch a2 (dS O aA om)
  have ce := ai.ch a2 (oS om)
  have bf : Ol Sv.cs 30 1 a1 (.slice u (b).length x) b := by
   have hx := cd
   exact hx
  have bg : Od ics 3 1 a1 w.heap.size a1.heap.size b (aF) := by
   have hx := ce.up (lo' := w.heap.size) (hi' := a1.heap.size) om om
   exact hx
  have cf := bS.ch a2 (oS om)
  exact Zi [_] (Zz aI rfl agg27 sz27 trivial) ⟨ah, k, aF, (.slice s (k).length t), (.slice u (b).length x), b, (congrArg (fun zq => (Value.agg #[.int .i64 zq, (.slice s (k).length t), (.slice u (b).length x)])) (by first | rfl | simp_all)), be, (Lo.down M om), bf, (Lo.down O om), bg, ad, (fun g hm hg => by exact H _ hm hg), o, aV, aW, cf, E⟩
 have b8 := bQ
 refine Zu ?_
 refine Zb (H3 _ _ ?_)
 refine Zg fun c0 cg => ?_
 refine Zc (Za rfl rfl (Zd rfl) (Zk rfl rfl ?_))
 refine Step.call (Zl (xs := [.tmp 12]) fk100 rfl) (Zkr b2 ) fun ci c1 bT => ?_
 obtain ⟨y, bG, rfl, T, aS, bU, bh, bH⟩ := bT
 have cj := bH.size
 have E := E.trans bH
 obtain ⟨bi, bj, rfl, bk, aX⟩ := T.opn
 refine Zk rfl rfl ?_
 refine Step.call (Zl (xs := [.tmp 13]) fk27 rfl) (Zdv T.ls om) fun ck c2 bV => ?_
 obtain ⟨bI, bJ, rfl, U, ap, V, aq, ay, a3⟩ := bV
 have cm := a3.size
 have E := E.trans a3.of_nil
 obtain ⟨au, av, rfl, bm, aB⟩ := U.opn
 obtain ⟨aw, ax, rfl, bn, aC⟩ := V.opn
 have c3 := Zvn y
 refine Za rfl rfl (Zd rfl) (Za rfl rfl (Xc rfl rfl) (Za rfl rfl (Xc rfl rfl) (Zk rfl rfl ?_)))
 refine Yr zr48 fun b3 cn bK aT c4 => ?_
 have co := aT.size
 have E := E.trans aT.of_nil
 have c5 := bK.lt
 replace bK : Blk cn b3 48 [(.slice none 0 0), (.int .i64 0), (.int .i64 0), (.slice none 0 0), (.bool false)] := bK
 refine Zk rfl rfl ?_
 refine Zy (off := 0) 5 bK sz48 rfl (us := [(.slice au ((bpE y).1.L).length av), (.int .i64 ((bpE y).1.f)), (.int .i64 ((bpE y).1.l)), (.slice aw ((bpE y).1.F).length ax), (.bool ((bpE y).1.n))]) rfl rfl rfl rfl fun cp aJ aU => ?_
 have cq := aU.size
 have E := E.step aU (lS om)
 replace aJ : Blk cp b3 48 [(.slice au ((bpE y).1.L).length av), (.int .i64 ((bpE y).1.f)), (.int .i64 ((bpE y).1.l)), (.slice aw ((bpE y).1.F).length ax), (.bool ((bpE y).1.n))] := aJ
 refine Za rfl rfl (Ze rfl) (Zf (Zb (cg _ _ ?_)))
 refine Zg fun c6 cr => ?_
 refine Zc (Za rfl rfl (Zt aJ.at_ agg48 sz48 rfl) (Zk rfl rfl ?_))
 have ct := (U.ch0 aT).ch aU (dS ap aB om)
 have cu := (V.ch0 aT).ch aU (dS aq aC om)
 refine Step.call (Zl (xs := [.tmp 18, .const (Go.Value.int Go.IntKind.i64 12)]) fk120 rfl) (Zfy ct.ls _ _ cu.ls _ _ om om om) fun cv c7 bW => ?_
 obtain ⟨K, d, aG, b4, bL, bM, a, rfl, X, z, Y, A, aj, ae, I, p, aK, a4⟩ := bW
 have cw := a4.size
 have E := E.trans a4.of_nil
 obtain ⟨e, h, rfl, bp, Z⟩ := X.opn
 obtain ⟨i, j, rfl, bq, aa⟩ := Y.opn
 refine Za rfl rfl (Zd rfl) (Za rfl rfl (Xc rfl rfl) (Za rfl rfl (Xc rfl rfl) (Zk rfl rfl ?_)))
 refine Yr zr27 fun b5 cx bN aP c8 => ?_
 have cy := aP.size
 have E := E.trans aP.of_nil
 have c9 := bN.lt
 replace bN : Blk cx b5 27 [(.int .i64 0), (.slice none 0 0), (.slice none 0 0)] := bN
 refine Zk rfl rfl ?_
 refine Zy (off := 0) 3 bN sz27 rfl (us := [(.int .i64 K), (.slice e (d).length h), (.slice i (a).length j)]) rfl rfl rfl rfl fun cz aL aQ => ?_
 have cA := aQ.size
 have E := E.step aQ (lS om)
 replace aL : Blk cz b5 27 [(.int .i64 K), (.slice e (d).length h), (.slice i (a).length j)] := aL
 refine Za rfl rfl (Ze rfl) (Zf (Zb (cr _ _ ?_)))
 refine Zg fun da cB => ?_
 refine Zg fun db cC => ?_
 refine Zc (Za rfl rfl (Zd rfl) (Za rfl rfl (Xi rfl) (Zf (Zb (cC _ _ ?_)))))
 refine Zx rfl (fun aM => ?_) (fun aM => ?_)
 ·have bX := aM
  refine Zg fun dc cD => ?_
  refine Zc (Za rfl rfl (Zd rfl) (Zk rfl rfl ?_))
  have cE := (((((bh.ch0 a3).ch0 aT).ch aU (oS om)).ch0 a4).ch0 aP).ch aQ (oS om)
  refine Step.call (Zl (xs := [.tmp 24]) fk119 rfl) (Zdh cE ) fun cF dd bY => ?_
  obtain ⟨ak, m, aH, bO, bP, c, rfl, ab, P, ac, Q, al, af, J, q, aY, aZ, bZ, b0⟩ := bY
  have cG := b0.size
  have E := E.trans b0
  obtain ⟨B, C, rfl, br, aD⟩ := ab.opn
  obtain ⟨D, G, rfl, bs, aE⟩ := ac.opn
  refine Zk rfl rfl ?_
  have cH := ((((((((a0.ch C6 (nS om)).ch bH (nS om)).ch0 a3).ch0 aT).ch aU (nS om)).ch0 a4).ch0 aP).ch aQ (nS om)).ch b0 (nS om)
  refine Zy (off := 0) 3 cH sz27 rfl (us := [(.int .i64 ak), (.slice B (m).length C), (.slice D (c).length G)]) rfl rfl rfl rfl fun a5 aN a6 => ?_
  have cI := a6.size
  have E := E.step a6 (lS om)
  replace aN : Blk a5 bC 27 [(.int .i64 ak), (.slice B (m).length C), (.slice D (c).length G)] := aN
  refine Zf (Zb (cD _ _ ?_))
  refine Zs (Zm ?_)
  have cJ := ab.ch a6 (dS P aD om)
  have bu : Ol bcs 4 1 a5 (.slice B (m).length C) (m) := by
   have hx := cJ
   first | exact hx | simpa using hx
  have cK := ac.ch a6 (dS Q aE om)
  have cL := al.ch a6 (oS om)
  have bv : Ol Sv.cs 30 1 a5 (.slice D (c).length G) c := by
   have hx := cK
   exact hx
  have bw : Od ics 3 1 a5 w.heap.size a5.heap.size c (aH) := by
   have hx := cL.up (lo' := w.heap.size) (hi' := a5.heap.size) om om
   exact hx
  have cM := bZ.ch a6 (oS om)
  exact Zi [_] (Zz aN rfl agg27 sz27 trivial) ⟨ak, m, aH, (.slice B (m).length C), (.slice D (c).length G), c, (congrArg (fun zq => (Value.agg #[.int .i64 zq, (.slice B (m).length C), (.slice D (c).length G)])) (by first | rfl | simp_all)), bu, (Lo.down P om), bv, (Lo.down Q om), bw, af, (fun g hm hg => by exact J _ hm hg), q, aY, aZ, cM, E⟩
 have bX := aM
 refine Zu ?_
 refine Zb (cB _ _ ?_)
 refine Zg fun de cN => ?_
 refine Zc (Za rfl rfl (Zt aL.at_ agg27 sz27 rfl) (Zk rfl rfl ?_))
 have cO := (((((((a0.ch C6 (nS om)).ch bH (nS om)).ch0 a3).ch0 aT).ch aU (nS om)).ch0 a4).ch0 aP).ch aQ (nS om)
 refine Zy (off := 0) 3 cO sz27 rfl (us := [(.int .i64 K), (.slice e (d).length h), (.slice i (a).length j)]) rfl rfl rfl rfl fun a7 aO a8 => ?_
 have cP := a8.size
 have E := E.step a8 (lS om)
 replace aO : Blk a7 bC 27 [(.int .i64 K), (.slice e (d).length h), (.slice i (a).length j)] := aO
 refine Zf (Zb (cN _ _ ?_))
 refine Zs ?_
 have cQ := ((X.ch0 aP).ch aQ (dS z Z om)).ch a8 (dS z Z om)
 have bz : Ol bcs 4 1 a7 (.slice e (d).length h) (d) := by
  have hx := cQ
  first | exact hx | simpa using hx
 have cR := ((Y.ch0 aP).ch aQ (dS A aa om)).ch a8 (dS A aa om)
 have cS := ((aj.ch0 aP).ch aQ (oS om)).ch a8 (oS om)
 have bA : Ol Sv.cs 30 1 a7 (.slice i (a).length j) a := by
  have hx := cR
  exact hx
 have bB : Od ics 3 1 a7 w.heap.size a7.heap.size a (aG) := by
  have hx := cS.up (lo' := w.heap.size) (hi' := a7.heap.size) om om
  exact hx
 have cT := ((((((bh.ch0 a3).ch0 aT).ch aU (oS om)).ch0 a4).ch0 aP).ch aQ (oS om)).ch a8 (oS om)
 exact Zi [_] (Zz aO rfl agg27 sz27 trivial) ⟨K, d, aG, (.slice e (d).length h), (.slice i (a).length j), a, (congrArg (fun zq => (Value.agg #[.int .i64 zq, (.slice e (d).length h), (.slice i (a).length j)])) (by first | rfl | simp_all)), bz, (Lo.down z om), bA, (Lo.down A om), bB, ae, (fun g hm hg => by exact I _ hm hg), p, (by have df := aK (by simpa using aM); omega), (aK (by simpa using aM)).2.2.2, cT, E⟩

/-- spec.l11Any -/
theorem Zfh {w : World} {b_c : Nat} (bm : Cu w b_c) :
 Ctr Try.prog 41 #[(.pointer (some ⟨b_c, 0, none⟩))] w (fun v w' => ∃ (bn : Int) (aM : List Bool) (aN : List (List Int)) (S : Value) (T : Value) (M : List Sv), v = .agg #[.int .i64 bn, S, T] ∧ Ol bcs 4 1 w' S (aM) ∧ Lo w.heap.size S ∧ Ol Sv.cs 30 1 w' T M ∧ Lo w.heap.size T ∧ Od ics 3 1 w' w.heap.size w'.heap.size M (aN) ∧ Sep T M ∧ (∀ g ∈ bl S, g ∉ bl T) ∧ Sep S M ∧ (aM.length ≤ 13 ∧ aN.length ≤ 12) ∧ Cu w' b_c ∧ Ch [b_c] w w') := by
 have cO := bm.lt
 have E := Ch.refl [b_c] w
 refine Yh (N := 42) (vs0 := [(.pointer (some ⟨b_c, 0, none⟩))]) Try.func41 rfl rfl rfl ?_
 refine Zg fun K1 H1 => ?_
 refine Zc (Zk rfl rfl ?_)
 refine Yr zr27 fun be W2 aO C2 eI => ?_
 have eJ := C2.size
 have E := E.trans C2.of_nil
 have eK := aO.lt
 replace aO : Blk W2 be 27 [(.int .i64 0), (.slice none 0 0), (.slice none 0 0)] := aO
 refine Zf (Zb (H1 _ _ ?_))
 refine Zg fun K3 H3 => ?_
 refine Zc (Za rfl rfl (Zd rfl) (Zk rfl rfl ?_))
 have F4 := bm.ch0 C2
 refine Step.call (Zl (xs := [.tmp 4]) fk84 rfl) (Zkm F4 ) fun eL W5 di => ?_
 obtain ⟨r, k, z, b0, b1, a, rfl, t, c, x, b, s, q, o, l, cP, aP, dj, C5⟩ := di
 have eM := C5.size
 have E := E.trans C5
 obtain ⟨m, n, rfl, bV, h⟩ := t.opn
 obtain ⟨e, f, rfl, bW, d⟩ := x.opn
 refine Zk rfl rfl ?_
 refine Yr zr27 fun bX W6 bY C6 eN => ?_
 have eO := C6.size
 have E := E.trans C6.of_nil
 have eP := bY.lt
 replace bY : Blk W6 bX 27 [(.int .i64 0), (.slice none 0 0), (.slice none 0 0)] := bY
 refine Zk rfl rfl ?_
 refine Zy (off := 0) 3 bY sz27 rfl (us := [(.int .i64 r), (.slice m (k).length n), (.slice e (a).length f)]) rfl rfl rfl rfl fun W7 Y C7 => ?_
 have eQ := C7.size
 have E := E.step C7 (lS om)
 replace Y : Blk W7 bX 27 [(.int .i64 r), (.slice m (k).length n), (.slice e (a).length f)] := Y
 refine Zf (Zb (H3 _ _ ?_))
 refine Zg fun K9 H9 => ?_
 refine Zg fun eR dk => ?_
 refine Zc (Za rfl rfl (Zd rfl) (Zk rfl rfl ?_))
 have dl := (dj.ch0 C6).ch C7 (oS om)
 refine Step.call (Zl (xs := [.tmp 6, .const (Go.Value.int Go.IntKind.i64 14)]) fk42 rfl) (Qn dl _ om) fun eS b2 dm => ?_
 obtain ⟨dn, rfl, cQ, bp, A⟩ := dm
 have dp := A.size
 have E := E.trans A
 refine Zf (Zb (dk _ _ ?_))
 refine Yf ?_
 refine Zg fun eT dq => ?_
 refine Zc (Za rfl rfl (Xu rfl rfl) (Za rfl rfl (Ze rfl) (Zf (Zb (dq _ _ ?_)))))
 refine Zx rfl (fun aV => ?_) (fun aV => ?_)
 ·have b3 := aV
  have aV := Yo aV
  refine Zc (Za rfl rfl (Zd rfl) (Zk rfl rfl ?_))
  refine Zr (cs := ics) (parts := [(0, .const (Go.Value.int Go.IntKind.i64 (-1))), (1, .const (Go.Value.int Go.IntKind.i64 12)), (2, .const (Go.Value.int Go.IntKind.i64 1))]) (0 : Int) [(-1), 12, 1] el30 sz3 zr3 Yl (by decide) rfl rfl rfl (by decide) (by decide) rfl fun dr eU bq br aQ => ?_
  have ds := aQ.size
  have E := E.trans aQ.of_nil
  obtain ⟨cR, cS, rfl, cT, b4⟩ := bq.opn
  refine Zk rfl rfl ?_
  have dt := bp.ch0 aQ
  refine Step.call (Zl (xs := [.tmp 10, .tmp 11]) fk85 rfl) (Zay dt bq (by decide) b2.heap.size om br) fun du eV b5 => ?_
  obtain ⟨ag, rfl, b6, b7, aW⟩ := b5
  have dv := aW.size
  have E := E.trans aW
  refine Za rfl rfl (Zh fa27_0 rfl) (Zk rfl rfl ?_)
  have dw := ((Y.ch A (nS om)).ch0 aQ).ch aW (nS om)
  refine Xh (off := 0) dw sz3 rfl rfl rfl rfl fun dx aq aX => ?_
  have dy := aX.size
  have E := E.step aX (lS om)
  replace aq : Blk dx bX 27 [(.int .i64 ag), (.slice m (k).length n), (.slice e (a).length f)] := aq
  refine Zf (Yc (Zb (H9 _ _ ?_)))
  refine Zg fun eW dz => ?_
  refine Zc (Za rfl rfl (Zt aq.at_ agg27 sz27 rfl) (Zk rfl rfl ?_))
  have dA := ((((((aO.ch C5 (nS om)).ch0 C6).ch C7 (nS om)).ch A (nS om)).ch0 aQ).ch aW (nS om)).ch aX (nS om)
  refine Zy (off := 0) 3 dA sz27 rfl (us := [(.int .i64 ag), (.slice m (k).length n), (.slice e (a).length f)]) rfl rfl rfl rfl fun bf au bg => ?_
  have dB := bg.size
  have E := E.step bg (lS om)
  replace au : Blk bf be 27 [(.int .i64 ag), (.slice m (k).length n), (.slice e (a).length f)] := au
  refine Zf (Zb (dz _ _ ?_))
  refine Zs ?_
  have dC := ((((((t.ch0 C6).ch C7 (dS c h om)).ch A (dS c h om)).ch0 aQ).ch aW (dS c h om)).ch aX (dS c h om)).ch bg (dS c h om)
  have bs : Ol bcs 4 1 bf (.slice m (k).length n) (k) := by
   have hx := dC
   first | exact hx | simpa using hx
  have dD := ((((((x.ch0 C6).ch C7 (dS b d om)).ch A (dS b d om)).ch0 aQ).ch aW (dS b d om)).ch aX (dS b d om)).ch bg (dS b d om)
  have dE := ((((((s.ch0 C6).ch C7 (oS om)).ch A (oS om)).ch0 aQ).ch aW (oS om)).ch aX (oS om)).ch bg (oS om)
  have bu : Ol Sv.cs 30 1 bf (.slice e (a).length f) a := by
   have hx := dD
   exact hx
  have bv : Od ics 3 1 bf w.heap.size bf.heap.size a (z) := by
   have hx := dE.up (lo' := w.heap.size) (hi' := bf.heap.size) om om
   exact hx
  have dF := (b7.ch aX (oS om)).ch bg (oS om)
  exact Zi [_] (Zz au rfl agg27 sz27 trivial) ⟨ag, k, z, (.slice m (k).length n), (.slice e (a).length f), a, (congrArg (fun zq => (Value.agg #[.int .i64 zq, (.slice m (k).length n), (.slice e (a).length f)])) (by first | rfl | simp_all)), bs, (Lo.down c om), bu, (Lo.down b om), bv, q, (fun g hm hg => by exact o _ hm hg), l, (by first | omega | (simp only [List.length_append, List.length_singleton, List.length_set]; omega)), dF, E⟩
 have b3 := aV
 have aV := Yp aV
 refine Zg fun eX dG => ?_
 refine Zc (Za rfl rfl (Xu rfl rfl) (Za rfl rfl (Ze rfl) (Zf (Zb (dG _ _ ?_)))))
 refine Zx rfl (fun Z => ?_) (fun Z => ?_)
 ·have b8 := Z
  have Z := Yo Z
  refine Zc (Za rfl rfl (Zh fa27_1 rfl) ?_)
  have cU := Y.ch A (nS om)
  refine Za rfl rfl (Zp cU.at_ agg24 rfl rfl) (Zk rfl rfl ?_)
  refine Zr (cs := bcs) (parts := [(0, .const (Go.Value.bool true))]) false [true] el24 sz4 zr4 Qa (by decide) rfl rfl rfl (by decide) (by decide) rfl fun dH eY bw cV aR => ?_
  have dI := aR.size
  have E := E.trans aR.of_nil
  obtain ⟨cW, cX, rfl, cY, b9⟩ := bw.opn
  refine Zk rfl rfl ?_
  have dJ := (((t.ch0 C6).ch C7 (dS c h om)).ch A (dS c h om)).ch0 aR
  refine Yj (cs := bcs) el24 sz4 by4 zr4 rfl (by decide) Zaz dJ bw.ls rfl rfl bd bd c om fun dL eZ bz bA ah aY => ?_
  have dM := aY.size
  have E := E.step aY (fun i hi => .inl (by have R := c _ hi; omega))
  obtain ⟨K, L, rfl, cZ, O⟩ := bz.opn
  refine Za rfl rfl (Zh fa27_1 rfl) (Zk rfl rfl ?_)
  have dN := (cU.ch0 aR).ch aY (fun hm => by have R := c _ hm; have aa := h _ hm; omega)
  refine Xh (off := 1) dN sz24 rfl rfl rfl rfl fun dP av aZ => ?_
  have dQ := aZ.size
  have E := E.step aZ (lS om)
  replace av : Blk dP bX 27 [(.int .i64 r), (.slice K ((k ++ [true])).length L), (.slice e (a).length f)] := av
  refine Zf (Yc (Zb (H9 _ _ ?_)))
  refine Zg fun e0 dR => ?_
  refine Zc (Za rfl rfl (Zt av.at_ agg27 sz27 rfl) (Zk rfl rfl ?_))
  have dU := ((((((aO.ch C5 (nS om)).ch0 C6).ch C7 (nS om)).ch A (nS om)).ch0 aR).ch aY (fun hm => by have R := c _ hm; have aa := h _ hm; omega)).ch aZ (nS om)
  refine Zy (off := 0) 3 dU sz27 rfl (us := [(.int .i64 r), (.slice K ((k ++ [true])).length L), (.slice e (a).length f)]) rfl rfl rfl rfl fun bh aw bi => ?_
  have dW := bi.size
  have E := E.step bi (lS om)
  replace aw : Blk bh be 27 [(.int .i64 r), (.slice K ((k ++ [true])).length L), (.slice e (a).length f)] := aw
  refine Zf (Zb (dR _ _ ?_))
  refine Zs ?_
  have dX := (bz.ch aZ (fun g hg hm => by have ca := List.mem_singleton.1 hm; rcases ah with ea | ea; (rw [ea] at hg; have aa := c _ hg; have c0 := h _ hg; omega); (have cb := O _ hg; rw [ea] at hg; have cc := List.mem_singleton.1 hg; omega))).ch bi (fun g hg hm => by have ca := List.mem_singleton.1 hm; rcases ah with ea | ea; (rw [ea] at hg; have aa := c _ hg; have c0 := h _ hg; omega); (have cb := O _ hg; rw [ea] at hg; have cc := List.mem_singleton.1 hg; omega))
  have bB : Ol bcs 4 1 bh (.slice K ((k ++ [true])).length L) ((k ++ [true])) := by
   have hx := dX
   first | exact hx | simpa using hx
  have dY := ((((((x.ch0 C6).ch C7 (dS b d om)).ch A (dS b d om)).ch0 aR).ch aY (fun g hg hm => by exact o _ hm hg)).ch aZ (dS b d om)).ch bi (dS b d om)
  have c1 := ((((((s.ch0 C6).ch C7 (oS om)).ch A (oS om)).ch0 aR).chS aY l).ch aZ (oS om)).ch bi (oS om)
  have bC : Ol Sv.cs 30 1 bh (.slice e (a).length f) a := by
   have hx := dY
   exact hx
  have bD : Od ics 3 1 bh w.heap.size bh.heap.size a (z) := by
   have hx := c1.up (lo' := w.heap.size) (hi' := bh.heap.size) om om
   exact hx
  have dZ := (((bp.ch0 aR).ch aY (fun i hm => by have R := c _ hm; have aa := h _ hm; omega)).ch aZ (oS om)).ch bi (oS om)
  exact Zi [_] (Zz aw rfl agg27 sz27 trivial) ⟨r, (k ++ [true]), z, (.slice K ((k ++ [true])).length L), (.slice e (a).length f), a, (congrArg (fun zq => (Value.agg #[.int .i64 zq, (.slice K ((k ++ [true])).length L), (.slice e (a).length f)])) (by first | rfl | simp_all)), bB, (Lo.down bA om), bC, (Lo.down b om), bD, q, (fun g hm hg => by rcases ah with ea | ea; (rw [ea] at hm; exact o _ hm hg); (have cd := O _ hm; rw [ea] at hm; have cc := List.mem_singleton.1 hm; have c0 := b _ hg; have e1 := d _ hg; omega)), (fun u hu g hg hm => by rcases ah with ea | ea; (rw [ea] at hm; exact l _ hu _ hg hm); (have cd := O _ hm; rw [ea] at hm; have cc := List.mem_singleton.1 hm; have aH := c1.rng hu hg; omega)), (by first | omega | (simp only [List.length_append, List.length_singleton, List.length_set]; omega)), dZ, E⟩
 have b8 := Z
 have Z := Yp Z
 refine Zg fun e2 d0 => ?_
 refine Zc (Za rfl rfl (Xu rfl rfl) (Za rfl rfl (Ze rfl) (Zf (Zb (d0 _ _ ?_)))))
 refine Zx rfl (fun ab => ?_) (fun ab => ?_)
 ·have ce := ab
  have ab := Yo ab
  have c2 := ((x.ch0 C6).ch C7 (dS b d om)).ch A (dS b d om)
  have cf := ((s.ch0 C6).ch C7 (oS om)).ch A (oS om)
  have cg := (cf).1
  obtain ⟨ai, ac, a0⟩ := Ol.lsE c2 om
  have ci := b ai (by rw [ac]; simp)
  have cj := d ai (by rw [ac]; simp)
  obtain ⟨bF, P⟩ := Zjx (xs := a) (j := 0) om
  have bG : Sep (.slice e (a).length f) a := q
  have ax := bG _ (Yv P)
  obtain ⟨y, aj, G, ay⟩ := cf.ownget P
  have ak := P
  obtain ⟨C, c3, D⟩ := bF
  obtain rfl := G.ls.eqn
  have c4 := G.len
  have B : Lo W2.heap.size (.slice C y.length D) := fun g hg => (ay g hg).1
  have U : ∀ g ∈ bl (.slice C y.length D), g < W5.heap.size := fun g hg => (ay g hg).2
  have aI := l _ (Yv ak)
  replace G : Ol ics 3 1 b2 (.slice C y.length D) y := G
  have r9 := aP _ (Yv aj)
  have d1 := Y.ch A (nS om)
  refine Yx ([b_c] ++ (bl (.slice C y.length D))) 9 mixed rfl fun bH aF => ?_
  have d2 := aF.size
  have E := E.trans aF.of_nil
  refine dV 0 rfl rfl rfl (fun _ => Zh fa27_2 rfl) ?_
  have c5 := d1.ch0 aF
  refine dT 1 rfl rfl rfl (Xj c5.at_ (fun i hm => by rcases List.mem_append.1 hm with hm | hm; (have R := List.mem_singleton.1 hm; omega); (have R := B _ hm; have aa := U _ hm; omega)) agg25 rfl rfl ?_)
  have d3 := a0.ch0 aF
  refine dT 2 rfl rfl rfl (Ql (j := 0) d3 Sv.len el25 sz30 rfl rfl rfl om fun ck d4 bI a1 => ?_)
  obtain rfl := Qj P bI
  replace a1 : At bH ai (ai + 1) ck ([(.slice C y.length D)]) := a1
  refine dT 3 rfl rfl rfl (Qo a1 (fun i hm => by rcases List.mem_append.1 hm with hm | hm; (have R := List.mem_singleton.1 hm; omega); (exact Zvt (ax _ hm) ac)) agg30 rfl rfl ?_)
  refine dV 4 rfl rfl rfl (fun _ => Zd rfl) (dO 5 (Ye rfl rfl rfl ?_))
  refine Zr (cs := ics) (parts := [(0, .const (Go.Value.int Go.IntKind.i64 (-2))), (1, .const (Go.Value.int Go.IntKind.i64 12)), (2, .const (Go.Value.int Go.IntKind.i64 0))]) (0 : Int) [(-2), 12, 0] el30 sz3 zr3 Yl (by decide) rfl rfl rfl (by decide) (by decide) rfl fun d5 d6 bJ bK aG => ?_
  have d7 := aG.size
  have E := E.trans aG.of_nil
  obtain ⟨c6, c7, rfl, c8, cm⟩ := bJ.opn
  have aS : Ch ([b_c] ++ (bl (.slice C y.length D))) bH d6 := ((Ch.refl _ _).trans aG.of_nil)
  refine ⟨aS, ?_⟩
  refine dO 6 (Ye rfl rfl rfl ?_)
  have d8 := (bp.ch0 aF).ch0 aG
  refine Step.call (Zl (xs := [.tmp 27, .tmp 28]) fk85 rfl) (Zay d8 bJ (by decide) bH.heap.size om bK) fun d9 eb cn => ?_
  obtain ⟨az, rfl, co, cp, aJ⟩ := cn
  have ec := aJ.size
  have E := E.trans aJ
  have aA : Ch ([b_c] ++ (bl (.slice C y.length D))) bH eb := (aS.step aJ (fun i hm => by have ca := List.mem_singleton.1 hm; exact .inr (by rw [ca]; exact (List.mem_append_left _ (List.mem_singleton.2 rfl)))))
  refine ⟨aA, ?_⟩
  refine dO 7 (Ye rfl rfl rfl ?_)
  have c9 := ((G.ch0 aF).ch0 aG).ch aJ (dS B U om)
  refine Zez (j := 0) c9 el30 sz3 rfl rfl rfl (by (first | omega | (simp; omega))) fun ed ee da cq => ?_
  refine ⟨aA, ?_⟩
  refine dO 8 (Ye rfl rfl rfl ?_)
  refine Zey (j := 0) az c9 cq Yl sz3 rfl rfl rfl rfl (by (first | omega | (simp; omega))) fun ef bL aK => ?_
  have eg := ((cf.ch0 aF).ch0 aG).ch aJ (oS om)
  have eh := aK.size
  have E := E.step aK (fun i hi => .inl (by have R := B _ hi; omega))
  have a2 := Od.set eg ak aj aK bL
  have bM : Ch ([b_c] ++ (bl (.slice C y.length D))) bH ef := (aA.step aK (fun i hm => by exact .inr (List.mem_append_right _ hm)))
  refine ⟨bM, ?_⟩
  refine Yb (by kernel_rfl) ?_
  refine Yc (Zb (H9 _ _ ?_))
  refine Zg fun e3 ei => ?_
  refine Zc ?_
  have ej := ((c5.ch0 aG).ch aJ (nS om)).ch aK (fun hm => by have R := B _ hm; have aa := U _ hm; omega)
  refine Za rfl rfl (Zt ej.at_ agg27 sz27 rfl) (Zk rfl rfl ?_)
  have ek := (((((((aO.ch C5 (nS om)).ch0 C6).ch C7 (nS om)).ch A (nS om)).ch0 aF).ch0 aG).ch aJ (nS om)).ch aK (fun hm => by have R := B _ hm; have aa := U _ hm; omega)
  refine Zy (off := 0) 3 ek sz27 rfl (us := [(.int .i64 r), (.slice m (k).length n), (.slice e (a).length f)]) rfl rfl rfl rfl fun bj aB bk => ?_
  have el := bk.size
  have E := E.step bk (lS om)
  replace aB : Blk bj be 27 [(.int .i64 r), (.slice m (k).length n), (.slice e (a).length f)] := aB
  refine Zf (Zb (ei _ _ ?_))
  refine Zs ?_
  have em := (((((((t.ch0 C6).ch C7 (dS c h om)).ch A (dS c h om)).ch0 aF).ch0 aG).ch aJ (dS c h om)).ch aK (fun g hg hm => by exact aI _ hm hg)).ch bk (dS c h om)
  have bN : Ol bcs 4 1 bj (.slice m (k).length n) (k) := by
   have hx := em
   first | exact hx | simpa using hx
  have en := ((((c2.ch0 aF).ch0 aG).ch aJ (dS b d om)).ch aK (fun g hg hm => by exact ax _ hm hg)).ch bk (dS b d om)
  have eo := a2.ch bk (oS om)
  have bO : Ol Sv.cs 30 1 bj (.slice e (a).length f) a := by
   have hx := en
   exact hx
  have bP : Od ics 3 1 bj w.heap.size bj.heap.size a ((z.set 0 (y.set 0 az))) := by
   have hx := eo.up (lo' := w.heap.size) (hi' := bj.heap.size) om om
   exact hx
  have ep := (cp.ch aK (fun i hm => by have R := B _ hm; have aa := U _ hm; omega)).ch bk (oS om)
  exact Zi [_] (Zz aB rfl agg27 sz27 trivial) ⟨r, k, (z.set 0 (y.set 0 az)), (.slice m (k).length n), (.slice e (a).length f), a, (congrArg (fun zq => (Value.agg #[.int .i64 zq, (.slice m (k).length n), (.slice e (a).length f)])) (by first | rfl | simp_all)), bN, (Lo.down c om), bO, (Lo.down b om), bP, q, (fun g hm hg => by exact o _ hm hg), l, (by first | omega | (simp only [List.length_append, List.length_singleton, List.length_set]; omega)), ep, E⟩
 have ce := ab
 have ab := Yp ab
 refine Zg fun e4 er => ?_
 refine Zc (Za rfl rfl (Xu rfl rfl) (Za rfl rfl (Ze rfl) (Zf (Zb (er _ _ ?_)))))
 refine Zx rfl (fun ad => ?_) (fun ad => ?_)
 ·have cr := ad
  have ad := Yo ad
  have es := ((x.ch0 C6).ch C7 (dS b d om)).ch A (dS b d om)
  have ct := ((s.ch0 C6).ch C7 (oS om)).ch A (oS om)
  have cu := (ct).1
  obtain ⟨bQ, Q⟩ := Zjx (xs := a) (j := 0) om
  have aT : Sep (.slice e (a).length f) a := q
  have cv := aT _ (Yv Q)
  obtain ⟨p, al, H, aC⟩ := ct.ownget Q
  have F := Q
  obtain ⟨V, db, X⟩ := bQ
  obtain rfl := H.ls.eqn
  have dc := H.len
  have cw : Lo W2.heap.size (.slice V p.length X) := fun g hg => (aC g hg).1
  have dd : ∀ g ∈ bl (.slice V p.length X), g < W5.heap.size := fun g hg => (aC g hg).2
  have bZ := l _ (Yv F)
  replace H : Ol ics 3 1 b2 (.slice V p.length X) p := H
  have r9 := aP _ (Yv al)
  have et := Y.ch A (nS om)
  refine Yx (bl (.slice e (a).length f)) 9 mixed rfl fun a3 aL => ?_
  have eu := aL.size
  have E := E.trans aL.of_nil
  refine dV 0 rfl rfl rfl (fun _ => Zh fa27_2 rfl) ?_
  have cx := et.ch0 aL
  refine dT 1 rfl rfl rfl (Xj cx.at_ (fun i hm => by have R := b _ hm; have aa := d _ hm; omega) agg25 rfl rfl ?_)
  refine dV 2 rfl rfl rfl (fun _ => Zh fa27_2 rfl) ?_
  refine dT 3 rfl rfl rfl (Xj cx.at_ (fun i hm => by have R := b _ hm; have aa := d _ hm; omega) agg25 rfl rfl ?_)
  refine dO 4 (Ye rfl rfl rfl ?_)
  have cy := es.ch0 aL
  refine (Yy (j := 0) cy.ls Sv.len el25 sz30 rfl rfl rfl om fun cz ew bR a4 => ?_)
  obtain rfl := Qj Q bR
  replace a4 : At a3 0 a3.heap.size cz ([(.slice V p.length X)]) := a4
  refine ⟨(Ch.refl _ _), ?_⟩
  refine dO 5 (Ye rfl rfl rfl ?_)
  refine s_v (Yk a4 agg30 rfl rfl) ?_
  refine ⟨(Ch.refl _ _), ?_⟩
  refine dO 6 (Ye rfl rfl rfl ?_)
  have ex := H.ch0 aL
  refine (Zov (ys := (p.take 8)) 0 8 ex Yl el30 sz3 rfl rfl ⟨_, _, rfl, by omega⟩ (by (first | omega | (simp; omega))) (by (first | omega | (simp; omega))) rfl fun ey bS aD de => ?_)
  obtain ⟨I, J, rfl, ez, eA⟩ := bS.opn
  have eB := ct.ch0 aL
  have a5 := Od.put (v' := (⟨I, ((p.take 8)).length, J⟩ : Sv)) (hi' := a3.heap.size) eB F al (Ch.refl (bl (.slice V p.length X)) a3) (fun g hg => hg) bS (fun g hg => by have aH : g ∈ bl (.slice I ((p.take 8)).length J) := hg; rw [aD] at aH; exact .inl aH) om om
  have aE : Sep (.slice e (a).length f) (a.set 0 (⟨I, ((p.take 8)).length, J⟩ : Sv)) := Sep.put (hi' := a3.heap.size) (hi := W5.heap.size) aT F (fun g hg => by have aH : g ∈ bl (.slice I ((p.take 8)).length J) := hg; rw [aD] at aH; exact .inl aH) (fun g hm => by have R := b _ hm; have aa := d _ hm; omega)
  have a6 : Sep (.slice m (k).length n) (a.set 0 (⟨I, ((p.take 8)).length, J⟩ : Sv)) := Sep.put (hi' := a3.heap.size) (hi := W5.heap.size) l F (fun g hg => by have aH : g ∈ bl (.slice I ((p.take 8)).length J) := hg; rw [aD] at aH; exact .inl aH) (fun g hm => by have R := c _ hm; have aa := h _ hm; omega)
  refine ⟨(Ch.refl _ _), ?_⟩
  refine dO 7 (Ye rfl rfl rfl ?_)
  refine Zez (j := 0) cy el25 sz30 rfl rfl rfl (by (first | omega | (simp; omega))) fun eC eD df cA => ?_
  refine ⟨(Ch.refl _ _), ?_⟩
  refine dO 8 (Ye rfl rfl rfl ?_)
  refine Zey (j := 0) (⟨I, ((p.take 8)).length, J⟩ : Sv) cy cA Sv.len sz30 rfl rfl rfl rfl (by (first | omega | (simp; omega))) fun eE bT aU => ?_
  have eF := aU.size
  have E := E.step aU (fun i hi => .inl (by have R := b _ hi; omega))
  have bU : Ch (bl (.slice e (a).length f)) a3 eE := ((Ch.refl _ _).step aU (fun i hm => by exact .inr hm))
  refine ⟨bU, ?_⟩
  refine Yb (by kernel_rfl) ?_
  refine Yc (Zb (H9 _ _ ?_))
  refine Zg fun e5 eG => ?_
  refine Zc ?_
  have cB := cx.ch aU (fun hm => by have R := b _ hm; have aa := d _ hm; omega)
  refine Za rfl rfl (Zt cB.at_ agg27 sz27 rfl) (Zk rfl rfl ?_)
  have cC := (((((aO.ch C5 (nS om)).ch0 C6).ch C7 (nS om)).ch A (nS om)).ch0 aL).ch aU (fun hm => by have R := b _ hm; have aa := d _ hm; omega)
  refine Zy (off := 0) 3 cC sz27 rfl (us := [(.int .i64 r), (.slice m (k).length n), (.slice e (a).length f)]) rfl rfl rfl rfl fun am ae an => ?_
  have dg := an.size
  have E := E.step an (lS om)
  replace ae : Blk am be 27 [(.int .i64 r), (.slice m (k).length n), (.slice e (a).length f)] := ae
  refine Zf (Zb (eG _ _ ?_))
  refine Zs ?_
  have cD := (((((t.ch0 C6).ch C7 (dS c h om)).ch A (dS c h om)).ch0 aL).ch aU (fun g hg hm => by exact o _ hg hm)).ch an (dS c h om)
  have a7 : Ol bcs 4 1 am (.slice m (k).length n) (k) := by
   have hx := cD
   first | exact hx | simpa using hx
  have cE := bT.ch an (dS b d om)
  have cF := (a5.chS aU aE).ch an (oS om)
  have a8 : Ol Sv.cs 30 1 am (.slice e (a).length f) (a.set 0 (⟨I, ((p.take 8)).length, J⟩ : Sv)) := by
   have hx := cE
   exact hx
  have a9 : Od ics 3 1 am w.heap.size am.heap.size (a.set 0 (⟨I, ((p.take 8)).length, J⟩ : Sv)) ((z.set 0 (p.take 8))) := by
   have hx := cF.up (lo' := w.heap.size) (hi' := am.heap.size) om om
   exact hx
  have cG := ((bp.ch0 aL).ch aU (fun i hm => by have R := b _ hm; have aa := d _ hm; omega)).ch an (oS om)
  exact Zi [_] (Zz ae rfl agg27 sz27 trivial) ⟨r, k, (z.set 0 (p.take 8)), (.slice m (k).length n), (.slice e (a).length f), (a.set 0 (⟨I, ((p.take 8)).length, J⟩ : Sv)), (congrArg (fun zq => (Value.agg #[.int .i64 zq, (.slice m (k).length n), (.slice e (a).length f)])) (by first | rfl | simp_all)), a7, (Lo.down c om), a8, (Lo.down b om), a9, aE, (fun g hm hg => by exact o _ hm hg), a6, (by first | omega | (simp only [List.length_append, List.length_singleton, List.length_set]; omega)), cG, E⟩
 have cr := ad
 have ad := Yp ad
 refine Zu ?_
 refine Yc (Zb (H9 _ _ ?_))
 refine Zg fun eH cH => ?_
 refine Zc ?_
 have cI := Y.ch A (nS om)
 refine Za rfl rfl (Zt cI.at_ agg27 sz27 rfl) (Zk rfl rfl ?_)
 have cJ := (((aO.ch C5 (nS om)).ch0 C6).ch C7 (nS om)).ch A (nS om)
 refine Zy (off := 0) 3 cJ sz27 rfl (us := [(.int .i64 r), (.slice m (k).length n), (.slice e (a).length f)]) rfl rfl rfl rfl fun ao af ap => ?_
 have dh := ap.size
 have E := E.step ap (lS om)
 replace af : Blk ao be 27 [(.int .i64 r), (.slice m (k).length n), (.slice e (a).length f)] := af
 refine Zf (Zb (cH _ _ ?_))
 refine Zs ?_
 have cK := (((t.ch0 C6).ch C7 (dS c h om)).ch A (dS c h om)).ch ap (dS c h om)
 have ba : Ol bcs 4 1 ao (.slice m (k).length n) (k) := by
  have hx := cK
  first | exact hx | simpa using hx
 have cL := (((x.ch0 C6).ch C7 (dS b d om)).ch A (dS b d om)).ch ap (dS b d om)
 have cM := (((s.ch0 C6).ch C7 (oS om)).ch A (oS om)).ch ap (oS om)
 have bb : Ol Sv.cs 30 1 ao (.slice e (a).length f) a := by
  have hx := cL
  exact hx
 have bc : Od ics 3 1 ao w.heap.size ao.heap.size a (z) := by
  have hx := cM.up (lo' := w.heap.size) (hi' := ao.heap.size) om om
  exact hx
 have cN := bp.ch ap (oS om)
 exact Zi [_] (Zz af rfl agg27 sz27 trivial) ⟨r, k, z, (.slice m (k).length n), (.slice e (a).length f), a, (congrArg (fun zq => (Value.agg #[.int .i64 zq, (.slice m (k).length n), (.slice e (a).length f)])) (by first | rfl | simp_all)), ba, (Lo.down c om), bb, (Lo.down b om), bc, q, (fun g hm hg => by exact o _ hm hg), l, (by first | omega | (simp only [List.length_append, List.length_singleton, List.length_set]; omega)), cN, E⟩

/-- spec.l1New -/
theorem Zlt {w : World} {LL_code m : Nat} {k : Value} {code : List Int} (a : Ls ucs 1 w LL_code m k code) (hb : code.length ≤ 4194304) :
 Ctr Try.prog 40 #[k] w (fun v w' => ∃ b, v = .pointer (some ⟨b, 0, none⟩) ∧ Cu w' b ∧ w.heap.size ≤ b ∧ Ch [] w w') := by
 obtain ⟨c, e, l⟩ := a.val
 subst l
 have p := a.len
 have a := a.here (by decide)
 have E := Ch.refl [] w
 refine Yh (N := 32) (vs0 := [(.slice c code.length e)]) Try.func40 rfl rfl rfl ?_
 refine Zg fun K1 H1 => ?_
 refine Zc (Za rfl rfl (Ze rfl) (Zf (Zb (H1 _ _ ?_))))
 refine Zg fun K2 H2 => ?_
 refine Zc (Za rfl rfl (Zd rfl) (Za rfl rfl (Xm (by rw [el22]; rfl) rfl) (Za rfl rfl (Yq om rfl rfl) (Za rfl rfl (Ze rfl) (Zf (Zb (H2 _ _ ?_)))))))
 refine Zg fun K3 H3 => ?_
 refine Zg fun K4 H4 => ?_
 refine Zc (Za rfl rfl (Ze rfl) (Zf (Zb (H4 _ _ ?_))))
 refine Yf ?_
 refine Xo (σ := Nat × Int) (fun ⟨i, h⟩ => [(0, (.slice c code.length e)), (2, (.pointer none)), (3, (.int .i64 h)), (4, (.int .i64 ((i : Nat) : Int)))]) (fun ⟨i, h⟩ wx => Ch [] w wx ∧ w.heap.size ≤ wx.heap.size ∧ (i ≤ code.length)) (fun ⟨i, h⟩ => code.length - i) (0, (10101 + ((code.length : Nat) : Int))) (sC4 rfl rfl rfl rfl (Sub.nil _)) ⟨E, (Nat.le_refl _), om⟩ ?_
 rintro ⟨i, h⟩ R5 ⟨E, A, hi⟩
 have n := E
 have y := n.size
 refine Zg fun K6 H6 => ?_
 refine Zg fun K7 H7 => ?_
 refine Zc (Za rfl rfl (Zd rfl) (Za rfl rfl (Zd rfl) (Za rfl rfl (Xm (by rw [el22]; rfl) rfl) (Za rfl rfl (Xv rfl rfl) (Za rfl rfl (Zd rfl) ?_)))))
 refine Ym (d := 12) rfl (fun g => ?_) (fun g => ?_)
 ·have B := g
  have g := Yo g
  refine Za rfl rfl (Zd rfl) (Za rfl rfl (Xv rfl rfl) (Za rfl rfl (Zw rfl rfl) (Zf (Zb (H7 _ _ ?_)))))
  refine Zx rfl (fun j => ?_) (fun j => ?_)
  ·have C := j
   have j := Yo j
   refine Zu ?_
   refine Zb (H6 _ _ ?_)
   refine Zg fun Q D => ?_
   refine Yf ?_
   refine Zc (Za rfl rfl (Zd rfl) (Za rfl rfl (Zqb rfl rfl) (Za rfl rfl (Zd rfl) (Za rfl rfl (Zd rfl) (Zk rfl rfl ?_)))))
   have F := a.ch0 n
   refine (Yy F Zhq el22 sz5 rfl rfl rfl om fun G q z r => ?_)
   refine Za rfl rfl (Yk r agg5 rfl rfl) (Za rfl rfl (Zdu (by rw [un5]; rfl) un3 rfl) (Za rfl rfl (Zjs rfl rfl) (Za rfl rfl (Zjs rfl rfl) (Za rfl rfl (Zgu rfl rfl) (Za rfl rfl (Ze rfl) (Zf (Yc ?_)))))))
   refine Zb (D _ _ (Zc (Za rfl rfl (Zd rfl) (Za rfl rfl (Yq om rfl rfl) (Za rfl rfl (Ze rfl) (Zf ?_))))))
   exact Zb (Exists.intro ((i + 1), (iand (w64 ((w64 ((w64 (h * 131)) + (w64 q))) + 7)) 1073741823)) ⟨⟨E, om, om⟩, sC4 rfl rfl rfl rfl (Sub.nil _), (by first | omega | (dsimp only; omega))⟩)
  have C := j
  have j := Yp j
  refine Xk (Ya (Ya (Xd ?_)))
  refine Zb (H3 _ _ ?_)
  refine Zg fun R H => ?_
  refine Zc (Za rfl rfl (Zd rfl) (Za rfl rfl (Zd rfl) (Za rfl rfl (Yt (parts := [(0, .tmp 28), (2, .tmp 29)]) (cells := [(.slice c code.length e), (.int .i64 0), (.int .i64 h)]) zr101 pl101 rfl rfl) (Zk rfl rfl ?_))))
  refine Xw rfl fun o I f s t => ?_
  have J := s.size
  have E := E.trans s
  have u := f.lt
  replace f : Blk I o 101 [(.slice c code.length e), (.int .i64 0), (.int .i64 h)] := f
  refine Za rfl rfl (Ze rfl) (Zf (Zb (H _ _ ?_)))
  refine Zs ?_
  have K := (a.ch0 n).ch0 s
  exact Zi [_] ⟨rfl, trivial⟩ ⟨_, rfl, ⟨_, _, _, _, _, f, K.up om om, om, om⟩, om, E⟩
 have B := g
 have g := Yp g
 refine Zj rfl rfl (Zj rfl rfl (Za rfl rfl (Zv rfl rfl) (Zf (Zb (H7 _ _ ?_)))))
 refine Xn rfl ?_
 refine Xk (Ya (Ya (Xd ?_)))
 refine Zb (H3 _ _ ?_)
 refine Zg fun S L => ?_
 refine Zc (Za rfl rfl (Zd rfl) (Za rfl rfl (Zd rfl) (Za rfl rfl (Yt (parts := [(0, .tmp 28), (2, .tmp 29)]) (cells := [(.slice c code.length e), (.int .i64 0), (.int .i64 h)]) zr101 pl101 rfl rfl) (Zk rfl rfl ?_))))
 refine Xw rfl fun o M f x t => ?_
 have O := x.size
 have E := E.trans x
 have u := f.lt
 replace f : Blk M o 101 [(.slice c code.length e), (.int .i64 0), (.int .i64 h)] := f
 refine Za rfl rfl (Ze rfl) (Zf (Zb (L _ _ ?_)))
 refine Zs ?_
 have P := (a.ch0 n).ch0 x
 exact Zi [_] ⟨rfl, trivial⟩ ⟨_, rfl, ⟨_, _, _, _, _, f, P.up om om, om, om⟩, om, E⟩

/-- spec.l13Two -/
theorem Zkt {w : World} {LL_code aN : Nat} {aq : Value} {code : List Int} (S : Ls ucs 1 w LL_code aN aq code) (hb : code.length ≤ 4194304) :
 Ctr Try.prog 55 #[aq] w (fun v w' => ∃ (a2 : Int) (a3 : List Bool) (a4 : List (List Int)) (a5 : Int) (a6 : List Bool) (a7 : List (List Int)) (Y : Value) (Z : Value) (al : List Sv) (ad : Value) (ae : Value) (U : List Sv), v = .tuple #[.agg #[.int .i64 a2, Y, Z], .agg #[.int .i64 a5, ad, ae]] ∧ Ol bcs 4 1 w' Y (a3) ∧ Lo w.heap.size Y ∧ Ol Sv.cs 30 1 w' Z al ∧ Lo w.heap.size Z ∧ Od ics 3 1 w' w.heap.size w'.heap.size al (a4) ∧ Sep Z al ∧ (∀ g ∈ bl Y, g ∉ bl Z) ∧ Sep Y al ∧ Ol bcs 4 1 w' ad (a6) ∧ Lo w.heap.size ad ∧ (∀ g ∈ bl Y, g ∉ bl ad) ∧ (∀ g ∈ bl Z, g ∉ bl ad) ∧ Ol Sv.cs 30 1 w' ae U ∧ Lo w.heap.size ae ∧ Od ics 3 1 w' w.heap.size w'.heap.size U (a7) ∧ Sep ae U ∧ (∀ g ∈ bl Y, g ∉ bl ae) ∧ Sep Y U ∧ (∀ g ∈ bl Z, g ∉ bl ae) ∧ Sep Z U ∧ (∀ g ∈ bl ad, g ∉ bl ae) ∧ Sep ad U ∧ Ch [] w w') := by
 obtain ⟨aO, aP, aB⟩ := S.val
 subst aB
 have bw := S.len
 have S := S.here (by decide)
 have E := Ch.refl [] w
 refine Yh (N := 18) (vs0 := [(.slice aO code.length aP)]) Try.func55 rfl rfl rfl ?_
 refine Zg fun K1 H1 => ?_
 refine Zc (Zk rfl rfl ?_)
 refine Yr zr27 fun aC W2 a8 C2 cP => ?_
 have cQ := C2.size
 have E := E.trans C2
 have cR := a8.lt
 replace a8 : Blk W2 aC 27 [(.int .i64 0), (.slice none 0 0), (.slice none 0 0)] := a8
 refine Zk rfl rfl ?_
 refine Yr zr27 fun aD W3 a9 C3 cS => ?_
 have cT := C3.size
 have E := E.trans C3
 have cU := a9.lt
 replace a9 : Blk W3 aD 27 [(.int .i64 0), (.slice none 0 0), (.slice none 0 0)] := a9
 refine Zf (Zb (H1 _ _ ?_))
 refine Zg fun K4 H4 => ?_
 refine Zc (Za rfl rfl (Zd rfl) (Zk rfl rfl ?_))
 have F5 := (S.ch0 C2).ch0 C3
 refine Step.call (Zl (xs := [.tmp 6]) fk40 rfl) (Zlt F5 om) fun cV W6 b5 => ?_
 obtain ⟨bz, rfl, bV, cW, C6⟩ := b5
 have cX := C6.size
 have E := E.trans C6
 have cY := bV.lt
 refine Za rfl rfl (Ze rfl) (Zf (Zb (H4 _ _ ?_)))
 refine Zg fun K7 H7 => ?_
 refine Zc (Za rfl rfl (Zd rfl) (Zk rfl rfl ?_))
 refine Step.call (Zl (xs := [.tmp 8]) fk41 rfl) (Zfh bV ) fun cZ W8 b6 => ?_
 obtain ⟨z, f, am, bI, bJ, e, rfl, V, a, X, b, aa, T, t, s, bW, b7, C8⟩ := b6
 have c0 := C8.size
 have E := E.step C8 (lS om)
 obtain ⟨h, j, rfl, bA, c⟩ := V.opn
 obtain ⟨k, l, rfl, bB, d⟩ := X.opn
 refine Zk rfl rfl ?_
 refine Yr zr27 fun bX W9 bC C9 c1 => ?_
 have c2 := C9.size
 have E := E.trans C9
 have c3 := bC.lt
 replace bC : Blk W9 bX 27 [(.int .i64 0), (.slice none 0 0), (.slice none 0 0)] := bC
 refine Zk rfl rfl ?_
 refine Zy (off := 0) 3 bC sz27 rfl (us := [(.int .i64 z), (.slice h (f).length j), (.slice k (e).length l)]) rfl rfl rfl rfl fun b8 au ay => ?_
 have b9 := ay.size
 have E := E.step ay (lS om)
 replace au : Blk b8 bX 27 [(.int .i64 z), (.slice h (f).length j), (.slice k (e).length l)] := au
 refine Zf (Zb (H7 _ _ ?_))
 refine Zg fun c4 ca => ?_
 refine Zg fun c5 cb => ?_
 refine Zc (Za rfl rfl (Zd rfl) (Zk rfl rfl ?_))
 have cc := (b7.ch0 C9).ch ay (oS om)
 refine Step.call (Zl (xs := [.tmp 10, .const (Go.Value.int Go.IntKind.i64 5)]) fk96 rfl) (Zan cc _ om) fun cd c6 bK => ?_
 obtain ⟨bY, rfl, bL, av⟩ := bK
 have ce := av.size
 have E := E.step av (lS om)
 refine Zf (Zb (cb _ _ ?_))
 refine Zx rfl (fun aZ => ?_) (fun aZ => ?_)
 ·have bM := aZ
  refine Zg fun c7 cf => ?_
  refine Yx ([aC] ++ [aD]) 5 mixed rfl fun bN aS => ?_
  have cg := aS.size
  have E := E.trans aS
  have bZ := (au.ch av (nS om)).ch0 aS
  refine dT 0 rfl rfl rfl (Zn bZ.at_ (fun i hm => by rcases List.mem_append.1 hm with hm | hm; (have ap := List.mem_singleton.1 hm; omega); (have ap := List.mem_singleton.1 hm; omega)) agg27 sz27 rfl ?_)
  refine dT 1 rfl rfl rfl (Zn bZ.at_ (fun i hm => by rcases List.mem_append.1 hm with hm | hm; (have ap := List.mem_singleton.1 hm; omega); (have ap := List.mem_singleton.1 hm; omega)) agg27 sz27 rfl ?_)
  refine dO 2 (Ye rfl rfl rfl ?_)
  have b0 := (((V.ch0 C9).ch ay (dS a c om)).ch av (dS a c om)).ch0 aS
  have b1 := (((aa.ch0 C9).ch ay (oS om)).ch av (oS om)).ch0 aS
  have b2 := (((X.ch0 C9).ch ay (dS b d om)).ch av (dS b d om)).ch0 aS
  refine Step.call (Zl (xs := [.tmp 13]) fk97 rfl) (Zif _ b0.ls b2.ls b1.rd ) fun ci cj bO => ?_
  obtain ⟨ab, x, aw, bD, bF, m, rfl, af, o, ag, p, an, aj, Q, O, aT⟩ := bO
  have ck := aT.size
  have E := E.trans aT
  obtain ⟨A, B, rfl, ba, J⟩ := af.opn
  obtain ⟨C, D, rfl, bb, K⟩ := ag.opn
  have aU : Ch ([aC] ++ [aD]) bN cj := ((Ch.refl _ _).trans aT.of_nil)
  refine ⟨aU, ?_⟩
  refine dO 3 (Ye rfl rfl rfl ?_)
  have cm := (((((((a8.ch0 C3).ch0 C6).ch C8 (nS om)).ch0 C9).ch ay (nS om)).ch av (nS om)).ch0 aS).ch0 aT
  refine Zy (off := 0) 3 cm sz27 rfl (us := [(.int .i64 z), (.slice h (f).length j), (.slice k (e).length l)]) rfl rfl rfl rfl fun b3 aE aJ => ?_
  have cn := aJ.size
  have E := E.step aJ (lS om)
  replace aE : Blk b3 aC 27 [(.int .i64 z), (.slice h (f).length j), (.slice k (e).length l)] := aE
  have aV : Ch ([aC] ++ [aD]) bN b3 := (aU.step aJ (fun i hm => by have aQ := List.mem_singleton.1 hm; exact .inr (by rw [aQ]; exact (List.mem_append_left _ (List.mem_singleton.2 rfl)))))
  refine ⟨aV, ?_⟩
  refine dO 4 (Ye rfl rfl rfl ?_)
  have co := (((((((a9.ch0 C6).ch C8 (nS om)).ch0 C9).ch ay (nS om)).ch av (nS om)).ch0 aS).ch0 aT).ch aJ (nS om)
  refine Zy (off := 0) 3 co sz27 rfl (us := [(.int .i64 ab), (.slice A (x).length B), (.slice C (m).length D)]) rfl rfl rfl rfl fun az aF aK => ?_
  have cp := aK.size
  have E := E.step aK (lS om)
  replace aF : Blk az aD 27 [(.int .i64 ab), (.slice A (x).length B), (.slice C (m).length D)] := aF
  have bc : Ch ([aC] ++ [aD]) bN az := (aV.step aK (fun i hm => by have aQ := List.mem_singleton.1 hm; exact .inr (by rw [aQ]; exact (List.mem_append_right _ (List.mem_singleton.2 rfl)))))
  refine ⟨bc, ?_⟩
  refine Yb (by kernel_rfl) ?_
  refine Zb (cf _ _ ?_)
  refine Zs (Zm ?_)
  have cq := aE.ch aK (nS om)
  have cr := ((b0.ch0 aT).ch aJ (dS a c om)).ch aK (dS a c om)
  have be : Ol bcs 4 1 az (.slice h (f).length j) (f) := by
   have hx := cr
   first | exact hx | simpa using hx
  have ct := ((b2.ch0 aT).ch aJ (dS b d om)).ch aK (dS b d om)
  have cu := ((b1.ch0 aT).ch aJ (oS om)).ch aK (oS om)
  have bf : Ol Sv.cs 30 1 az (.slice k (e).length l) e := by
   have hx := ct
   exact hx
  have bg : Od ics 3 1 az w.heap.size az.heap.size e (am) := by
   have hx := cu.up (lo' := w.heap.size) (hi' := az.heap.size) om om
   exact hx
  have cv := (af.ch aJ (dS o J om)).ch aK (dS o J om)
  have bh : Ol bcs 4 1 az (.slice A (x).length B) (x) := by
   have hx := cv
   first | exact hx | simpa using hx
  have cw := (ag.ch aJ (dS p K om)).ch aK (dS p K om)
  have bP := (an.ch aJ (oS om)).ch aK (oS om)
  have bi : Ol Sv.cs 30 1 az (.slice C (m).length D) m := by
   have hx := cw
   exact hx
  have bj : Od ics 3 1 az w.heap.size az.heap.size m (aw) := by
   have hx := bP.up (lo' := w.heap.size) (hi' := az.heap.size) om om
   exact hx
  exact Zi [_, _] (Zz cq rfl agg27 sz27 (Zz aF rfl agg27 sz27 trivial)) ⟨z, f, am, ab, x, aw, (.slice h (f).length j), (.slice k (e).length l), e, (.slice A (x).length B), (.slice C (m).length D), m, ((congrArg (fun zq => (Value.tuple #[.agg #[.int .i64 zq, (.slice h (f).length j), (.slice k (e).length l)], .agg #[.int .i64 ab, (.slice A (x).length B), (.slice C (m).length D)]])) (by first | rfl | simp_all)).trans (congrArg (fun zq => (Value.tuple #[.agg #[.int .i64 z, (.slice h (f).length j), (.slice k (e).length l)], .agg #[.int .i64 zq, (.slice A (x).length B), (.slice C (m).length D)]])) (by first | rfl | simp_all))), be, (Lo.down a om), bf, (Lo.down b om), bg, T, (fun g hm hg => by exact t _ hm hg), s, bh, (Lo.down o om), (fun g hm hg => by have ap := a _ hm; have aG := c _ hm; have a0 := o _ hg; have a1 := J _ hg; omega), (fun g hm hg => by have ap := b _ hm; have aG := d _ hm; have a0 := o _ hg; have a1 := J _ hg; omega), bi, (Lo.down p om), bj, aj, (fun g hm hg => by have ap := a _ hm; have aG := c _ hm; have a0 := p _ hg; have a1 := K _ hg; omega), (fun u hu g hg hm => by have bQ := bP.rng hu hg; have ap := a _ hm; have aG := c _ hm; omega), (fun g hm hg => by have ap := b _ hm; have aG := d _ hm; have a0 := p _ hg; have a1 := K _ hg; omega), (fun u hu g hg hm => by have bQ := bP.rng hu hg; have ap := b _ hm; have aG := d _ hm; omega), (fun g hm hg => by exact Q _ hm hg), O, E⟩
 have bM := aZ
 refine Zu ?_
 refine Zb (ca _ _ ?_)
 refine Zg fun c8 cx => ?_
 refine Yx ([bz] ++ [aC] ++ [aD]) 5 mixed rfl fun bR aR => ?_
 have cy := aR.size
 have E := E.trans aR
 have cz := (au.ch av (nS om)).ch0 aR
 refine dT 0 rfl rfl rfl (Zn cz.at_ (fun i hm => by rcases List.mem_append.1 hm with hm | hm; (rcases List.mem_append.1 hm with hm | hm; (have ap := List.mem_singleton.1 hm; omega); (have ap := List.mem_singleton.1 hm; omega)); (have ap := List.mem_singleton.1 hm; omega)) agg27 sz27 rfl ?_)
 refine dV 1 rfl rfl rfl (fun _ => Zd rfl) (dO 2 (Ye rfl rfl rfl ?_))
 have cA := bL.ch0 aR
 refine Step.call (Zl (xs := [.tmp 16]) fk41 rfl) (Zfh cA ) fun cB cC bS => ?_
 obtain ⟨ac, y, ax, bG, bH, n, rfl, ah, q, ai, r, ao, ak, R, P, bT, cD, aW⟩ := bS
 have cE := aW.size
 have E := E.step aW (lS om)
 obtain ⟨F, G, rfl, bk, L⟩ := ah.opn
 obtain ⟨H, I, rfl, bm, M⟩ := ai.opn
 have aX : Ch ([bz] ++ [aC] ++ [aD]) bR cC := ((Ch.refl _ _).step aW (fun i hm => by have aQ := List.mem_singleton.1 hm; exact .inr (by rw [aQ]; exact (List.mem_append_left _ (List.mem_append_left _ (List.mem_singleton.2 rfl))))))
 refine ⟨aX, ?_⟩
 refine dO 3 (Ye rfl rfl rfl ?_)
 have cF := (((((((a8.ch0 C3).ch0 C6).ch C8 (nS om)).ch0 C9).ch ay (nS om)).ch av (nS om)).ch0 aR).ch aW (nS om)
 refine Zy (off := 0) 3 cF sz27 rfl (us := [(.int .i64 z), (.slice h (f).length j), (.slice k (e).length l)]) rfl rfl rfl rfl fun b4 aH aL => ?_
 have cG := aL.size
 have E := E.step aL (lS om)
 replace aH : Blk b4 aC 27 [(.int .i64 z), (.slice h (f).length j), (.slice k (e).length l)] := aH
 have aY : Ch ([bz] ++ [aC] ++ [aD]) bR b4 := (aX.step aL (fun i hm => by have aQ := List.mem_singleton.1 hm; exact .inr (by rw [aQ]; exact (List.mem_append_left _ (List.mem_append_right _ (List.mem_singleton.2 rfl))))))
 refine ⟨aY, ?_⟩
 refine dO 4 (Ye rfl rfl rfl ?_)
 have cH := (((((((a9.ch0 C6).ch C8 (nS om)).ch0 C9).ch ay (nS om)).ch av (nS om)).ch0 aR).ch aW (nS om)).ch aL (nS om)
 refine Zy (off := 0) 3 cH sz27 rfl (us := [(.int .i64 ac), (.slice F (y).length G), (.slice H (n).length I)]) rfl rfl rfl rfl fun aA aI aM => ?_
 have cI := aM.size
 have E := E.step aM (lS om)
 replace aI : Blk aA aD 27 [(.int .i64 ac), (.slice F (y).length G), (.slice H (n).length I)] := aI
 have bn : Ch ([bz] ++ [aC] ++ [aD]) bR aA := (aY.step aM (fun i hm => by have aQ := List.mem_singleton.1 hm; exact .inr (by rw [aQ]; exact (List.mem_append_right _ (List.mem_singleton.2 rfl)))))
 refine ⟨bn, ?_⟩
 refine Yb (by kernel_rfl) ?_
 refine Zb (cx _ _ ?_)
 refine Zs ?_
 have cJ := aH.ch aM (nS om)
 have cK := ((((((V.ch0 C9).ch ay (dS a c om)).ch av (dS a c om)).ch0 aR).ch aW (dS a c om)).ch aL (dS a c om)).ch aM (dS a c om)
 have bp : Ol bcs 4 1 aA (.slice h (f).length j) (f) := by
  have hx := cK
  first | exact hx | simpa using hx
 have cL := ((((((X.ch0 C9).ch ay (dS b d om)).ch av (dS b d om)).ch0 aR).ch aW (dS b d om)).ch aL (dS b d om)).ch aM (dS b d om)
 have cM := ((((((aa.ch0 C9).ch ay (oS om)).ch av (oS om)).ch0 aR).ch aW (oS om)).ch aL (oS om)).ch aM (oS om)
 have bq : Ol Sv.cs 30 1 aA (.slice k (e).length l) e := by
  have hx := cL
  exact hx
 have br : Od ics 3 1 aA w.heap.size aA.heap.size e (am) := by
  have hx := cM.up (lo' := w.heap.size) (hi' := aA.heap.size) om om
  exact hx
 have cN := (ah.ch aL (dS q L om)).ch aM (dS q L om)
 have bs : Ol bcs 4 1 aA (.slice F (y).length G) (y) := by
  have hx := cN
  first | exact hx | simpa using hx
 have cO := (ai.ch aL (dS r M om)).ch aM (dS r M om)
 have bU := (ao.ch aL (oS om)).ch aM (oS om)
 have bu : Ol Sv.cs 30 1 aA (.slice H (n).length I) n := by
  have hx := cO
  exact hx
 have bv : Od ics 3 1 aA w.heap.size aA.heap.size n (ax) := by
  have hx := bU.up (lo' := w.heap.size) (hi' := aA.heap.size) om om
  exact hx
 exact Zi [_, _] (Zz cJ rfl agg27 sz27 (Zz aI rfl agg27 sz27 trivial)) ⟨z, f, am, ac, y, ax, (.slice h (f).length j), (.slice k (e).length l), e, (.slice F (y).length G), (.slice H (n).length I), n, ((congrArg (fun zq => (Value.tuple #[.agg #[.int .i64 zq, (.slice h (f).length j), (.slice k (e).length l)], .agg #[.int .i64 ac, (.slice F (y).length G), (.slice H (n).length I)]])) (by first | rfl | simp_all)).trans (congrArg (fun zq => (Value.tuple #[.agg #[.int .i64 z, (.slice h (f).length j), (.slice k (e).length l)], .agg #[.int .i64 zq, (.slice F (y).length G), (.slice H (n).length I)]])) (by first | rfl | simp_all))), bp, (Lo.down a om), bq, (Lo.down b om), br, T, (fun g hm hg => by exact t _ hm hg), s, bs, (Lo.down q om), (fun g hm hg => by have ap := a _ hm; have aG := c _ hm; have a0 := q _ hg; have a1 := L _ hg; omega), (fun g hm hg => by have ap := b _ hm; have aG := d _ hm; have a0 := q _ hg; have a1 := L _ hg; omega), bu, (Lo.down r om), bv, ak, (fun g hm hg => by have ap := a _ hm; have aG := c _ hm; have a0 := r _ hg; have a1 := M _ hg; omega), (fun u hu g hg hm => by have bQ := bU.rng hu hg; have ap := a _ hm; have aG := c _ hm; omega), (fun g hm hg => by have ap := b _ hm; have aG := d _ hm; have a0 := r _ hg; have a1 := M _ hg; omega), (fun u hu g hg hm => by have bQ := bU.rng hu hg; have ap := b _ hm; have aG := d _ hm; omega), (fun g hm hg => by exact R _ hm hg), P, E⟩

/-- spec.DrawMissingWord -/
theorem Zdk {w : World} {LL_code aq : Nat} {ac : Value} {code : List Int} (C : Ls ucs 1 w LL_code aq ac code) (hb : code.length ≤ 4194304) :
 Ctr Try.prog 15 #[ac] w (fun v w' => ∃ (ax : Int) (ay : List Bool) (az : List (List Int)) (aA : Int) (aB : List Bool) (aC : List (List Int)) (O : Value) (P : Value) (X : List Sv) (Q : Value) (R : Value) (K : List Sv), v = .tuple #[.agg #[.int .i64 ax, O, P], .agg #[.int .i64 aA, Q, R]] ∧ Ol bcs 4 1 w' O (ay) ∧ Lo w.heap.size O ∧ Ol Sv.cs 30 1 w' P X ∧ Lo w.heap.size P ∧ Od ics 3 1 w' w.heap.size w'.heap.size X (az) ∧ Sep P X ∧ (∀ g ∈ bl O, g ∉ bl P) ∧ Sep O X ∧ Ol bcs 4 1 w' Q (aB) ∧ Lo w.heap.size Q ∧ (∀ g ∈ bl O, g ∉ bl Q) ∧ (∀ g ∈ bl P, g ∉ bl Q) ∧ Ol Sv.cs 30 1 w' R K ∧ Lo w.heap.size R ∧ Od ics 3 1 w' w.heap.size w'.heap.size K (aC) ∧ Sep R K ∧ (∀ g ∈ bl O, g ∉ bl R) ∧ Sep O K ∧ (∀ g ∈ bl P, g ∉ bl R) ∧ Sep P K ∧ (∀ g ∈ bl Q, g ∉ bl R) ∧ Sep Q K ∧ Ch [] w w') := by
 obtain ⟨au, av, af⟩ := C.val
 subst af
 have aM := C.len
 have C := C.here (by decide)
 have E := Ch.refl [] w
 refine Yh (N := 13) (vs0 := [(.slice au code.length av)]) Try.func15 rfl rfl rfl ?_
 refine Zg fun K1 H1 => ?_
 refine Zc (Zk rfl rfl ?_)
 refine Yr zr27 fun aD W2 aN C2 bu => ?_
 have bv := C2.size
 have E := E.trans C2
 have bw := aN.lt
 replace aN : Blk W2 aD 27 [(.int .i64 0), (.slice none 0 0), (.slice none 0 0)] := aN
 refine Zk rfl rfl ?_
 refine Yr zr27 fun aE W3 aO C3 bz => ?_
 have bA := C3.size
 have E := E.trans C3
 have bB := aO.lt
 replace aO : Blk W3 aE 27 [(.int .i64 0), (.slice none 0 0), (.slice none 0 0)] := aO
 refine Zf (Zb (H1 _ _ ?_))
 refine Zg fun K4 H4 => ?_
 refine Zc (Za rfl rfl (Zd rfl) (Zk rfl rfl ?_))
 have F5 := (C.ch0 C2).ch0 C3
 refine Step.call (Zl (xs := [.tmp 7]) fk55 rfl) (Zkt F5 om) fun bC W6 a5 => ?_
 obtain ⟨L, q, ag, M, r, ah, aV, aW, a, aX, aY, b, rfl, S, c, T, d, aa, Y, D, y, U, e, F, G, V, f, ab, Z, H, z, I, A, J, B, C6⟩ := a5
 have bD := C6.size
 have E := E.trans C6
 obtain ⟨h, j, rfl, aP, s⟩ := S.opn
 obtain ⟨k, l, rfl, aQ, t⟩ := T.opn
 obtain ⟨m, n, rfl, aR, u⟩ := U.opn
 obtain ⟨o, p, rfl, aS, x⟩ := V.opn
 refine Za rfl rfl (Zd rfl) (Za rfl rfl (Xc rfl rfl) (Za rfl rfl (Xc rfl rfl) (Zk rfl rfl ?_)))
 refine Yr zr27 fun a1 W7 aT C7 bF => ?_
 have bG := C7.size
 have E := E.trans C7
 have bH := aT.lt
 replace aT : Blk W7 a1 27 [(.int .i64 0), (.slice none 0 0), (.slice none 0 0)] := aT
 refine Zk rfl rfl ?_
 refine Yr zr27 fun a2 W8 aU C8 bI => ?_
 have bJ := C8.size
 have E := E.trans C8
 have bK := aU.lt
 replace aU : Blk W8 a2 27 [(.int .i64 0), (.slice none 0 0), (.slice none 0 0)] := aU
 refine Zk rfl rfl ?_
 have F9 := aT.ch0 C8
 refine Zy (off := 0) 3 F9 sz27 rfl (us := [(.int .i64 L), (.slice h (q).length j), (.slice k (a).length l)]) rfl rfl rfl rfl fun a6 ai aj => ?_
 have a7 := aj.size
 have E := E.step aj (lS om)
 replace ai : Blk a6 a1 27 [(.int .i64 L), (.slice h (q).length j), (.slice k (a).length l)] := ai
 refine Zk rfl rfl ?_
 have a8 := aU.ch aj (nS om)
 refine Zy (off := 0) 3 a8 sz27 rfl (us := [(.int .i64 M), (.slice m (r).length n), (.slice o (b).length p)]) rfl rfl rfl rfl fun a9 ak al => ?_
 have ba := al.size
 have E := E.step al (lS om)
 replace ak : Blk a9 a2 27 [(.int .i64 M), (.slice m (r).length n), (.slice o (b).length p)] := ak
 refine Zf (Zb (H4 _ _ ?_))
 refine Zg fun bL bb => ?_
 refine Yx ([aD] ++ [aE]) 4 mixed rfl fun a3 ad => ?_
 have bc := ad.size
 have E := E.trans ad
 have be := (ai.ch al (nS om)).ch0 ad
 refine dT 0 rfl rfl rfl (Zn be.at_ (fun i hm => by rcases List.mem_append.1 hm with hm | hm; (have aZ := List.mem_singleton.1 hm; omega); (have aZ := List.mem_singleton.1 hm; omega)) agg27 sz27 rfl ?_)
 have bf := ak.ch0 ad
 refine dT 1 rfl rfl rfl (Zn bf.at_ (fun i hm => by rcases List.mem_append.1 hm with hm | hm; (have aZ := List.mem_singleton.1 hm; omega); (have aZ := List.mem_singleton.1 hm; omega)) agg27 sz27 rfl ?_)
 refine dO 2 (Ye rfl rfl rfl ?_)
 have bg := ((((((aN.ch0 C3).ch0 C6).ch0 C7).ch0 C8).ch aj (nS om)).ch al (nS om)).ch0 ad
 refine Zy (off := 0) 3 bg sz27 rfl (us := [(.int .i64 L), (.slice h (q).length j), (.slice k (a).length l)]) rfl rfl rfl rfl fun a4 am ao => ?_
 have bh := ao.size
 have E := E.step ao (lS om)
 replace am : Blk a4 aD 27 [(.int .i64 L), (.slice h (q).length j), (.slice k (a).length l)] := am
 have aw : Ch ([aD] ++ [aE]) a3 a4 := ((Ch.refl _ _).step ao (fun i hm => by have a0 := List.mem_singleton.1 hm; exact .inr (by rw [a0]; exact (List.mem_append_left _ (List.mem_singleton.2 rfl)))))
 refine ⟨aw, ?_⟩
 refine dO 3 (Ye rfl rfl rfl ?_)
 have bi := ((((((aO.ch0 C6).ch0 C7).ch0 C8).ch aj (nS om)).ch al (nS om)).ch0 ad).ch ao (nS om)
 refine Zy (off := 0) 3 bi sz27 rfl (us := [(.int .i64 M), (.slice m (r).length n), (.slice o (b).length p)]) rfl rfl rfl rfl fun ae an ap => ?_
 have bj := ap.size
 have E := E.step ap (lS om)
 replace an : Blk ae aE 27 [(.int .i64 M), (.slice m (r).length n), (.slice o (b).length p)] := an
 have aF : Ch ([aD] ++ [aE]) a3 ae := (aw.step ap (fun i hm => by have a0 := List.mem_singleton.1 hm; exact .inr (by rw [a0]; exact (List.mem_append_right _ (List.mem_singleton.2 rfl)))))
 refine ⟨aF, ?_⟩
 refine Yb (by kernel_rfl) ?_
 refine Zb (bb _ _ ?_)
 refine Zs ?_
 have bk := am.ch ap (nS om)
 have bm := ((((((S.ch0 C7).ch0 C8).ch aj (dS c s om)).ch al (dS c s om)).ch0 ad).ch ao (dS c s om)).ch ap (dS c s om)
 have aG : Ol bcs 4 1 ae (.slice h (q).length j) (q) := by
  have hx := bm
  first | exact hx | simpa using hx
 have bn := ((((((T.ch0 C7).ch0 C8).ch aj (dS d t om)).ch al (dS d t om)).ch0 ad).ch ao (dS d t om)).ch ap (dS d t om)
 have bp := ((((((aa.ch0 C7).ch0 C8).ch aj (oS om)).ch al (oS om)).ch0 ad).ch ao (oS om)).ch ap (oS om)
 have aH : Ol Sv.cs 30 1 ae (.slice k (a).length l) a := by
  have hx := bn
  exact hx
 have aI : Od ics 3 1 ae w.heap.size ae.heap.size a (ag) := by
  have hx := bp.up (lo' := w.heap.size) (hi' := ae.heap.size) om om
  exact hx
 have bq := ((((((U.ch0 C7).ch0 C8).ch aj (dS e u om)).ch al (dS e u om)).ch0 ad).ch ao (dS e u om)).ch ap (dS e u om)
 have aJ : Ol bcs 4 1 ae (.slice m (r).length n) (r) := by
  have hx := bq
  first | exact hx | simpa using hx
 have br := ((((((V.ch0 C7).ch0 C8).ch aj (dS f x om)).ch al (dS f x om)).ch0 ad).ch ao (dS f x om)).ch ap (dS f x om)
 have bs := ((((((ab.ch0 C7).ch0 C8).ch aj (oS om)).ch al (oS om)).ch0 ad).ch ao (oS om)).ch ap (oS om)
 have aK : Ol Sv.cs 30 1 ae (.slice o (b).length p) b := by
  have hx := br
  exact hx
 have aL : Od ics 3 1 ae w.heap.size ae.heap.size b (ah) := by
  have hx := bs.up (lo' := w.heap.size) (hi' := ae.heap.size) om om
  exact hx
 exact Zi [_, _] (Zz bk rfl agg27 sz27 (Zz an rfl agg27 sz27 trivial)) ⟨L, q, ag, M, r, ah, (.slice h (q).length j), (.slice k (a).length l), a, (.slice m (r).length n), (.slice o (b).length p), b, ((congrArg (fun zq => (Value.tuple #[.agg #[.int .i64 zq, (.slice h (q).length j), (.slice k (a).length l)], .agg #[.int .i64 M, (.slice m (r).length n), (.slice o (b).length p)]])) (by first | rfl | simp_all)).trans (congrArg (fun zq => (Value.tuple #[.agg #[.int .i64 L, (.slice h (q).length j), (.slice k (a).length l)], .agg #[.int .i64 zq, (.slice m (r).length n), (.slice o (b).length p)]])) (by first | rfl | simp_all))), aG, (Lo.down c om), aH, (Lo.down d om), aI, Y, (fun g hm hg => by exact D _ hm hg), y, aJ, (Lo.down e om), (fun g hm hg => by exact F _ hm hg), (fun g hm hg => by exact G _ hm hg), aK, (Lo.down f om), aL, Z, (fun g hm hg => by exact H _ hm hg), z, (fun g hm hg => by exact I _ hm hg), A, (fun g hm hg => by exact J _ hm hg), B, E⟩

/-- spec.IsEmptyAutomaton -/
theorem Xf {w : World} (aS : Int) {LL_aA t : Nat} {m : Value} {aA : List Bool} (c : Ls bcs 1 w LL_aA t m aA) {LL_saN r : Nat} {f : Value} {saN : List Sv} (a : Ls Sv.cs 1 w LL_saN r f saN) {LR_aN BB_aN : Nat} {aN : List (List Int)} (b : Rd ics 1 w LR_aN BB_aN saN aN) :
 Ctr Try.prog 20 #[(.agg #[(.int .i64 aS), m, f])] w (fun v w' => v = .bool (emR aS aA aN) ∧ Ch [] w w') := by
 obtain ⟨n, o, s⟩ := c.val
 subst s
 have D := c.len
 have c := c.here (by decide)
 obtain ⟨g, h, l⟩ := a.val
 subst l
 have y := a.len
 have a := a.here (by decide)
 have b := b.here (by decide)
 have z := b.1
 have E := Ch.refl [] w
 refine Yh (N := 14) (vs0 := [(.agg #[(.int .i64 aS), (.slice n aA.length o), (.slice g saN.length h)])]) Try.func20 rfl rfl rfl ?_
 refine Zg fun K1 H1 => ?_
 refine Zc (Zk rfl rfl ?_)
 refine Xw rfl fun G W2 u C2 U => ?_
 have V := C2.size
 have E := E.trans C2
 have X := u.lt
 replace u : Blk W2 G 27 [(.int .i64 aS), (.slice n aA.length o), (.slice g saN.length h)] := u
 refine Za rfl rfl (Ze rfl) (Zf (Zb (H1 _ _ ?_)))
 refine Zg fun K3 H3 => ?_
 refine Yx [] 12 mixed rfl fun W4 C4 => ?_
 have Y := C4.size
 have E := E.trans C4
 have F5 := u.ch0 C4
 refine dT 0 rfl rfl rfl (Zn F5.at_ (fun i hi => absurd hi List.not_mem_nil) agg27 sz27 rfl ?_)
 refine dO 1 (Ye rfl rfl rfl ?_)
 have F6 := (c.ch0 C2).ch0 C4
 have F7 := (b.ch0 C2).ch0 C4
 have F8 := (a.ch0 C2).ch0 C4
 refine Step.call (Zl (xs := [.tmp 3]) fk13 rfl) (Yw _ F6 F8 F7 ) fun Z W9 H => ?_
 obtain ⟨rfl, C9⟩ := H
 have aa := C9.size
 have E := E.trans C9
 have p : Ch [] W4 W9 := ((Ch.refl _ _).trans C9)
 refine ⟨p, ?_⟩
 refine dV 2 rfl rfl rfl (fun _ => Zd rfl) ?_
 refine Xe (d := 5) rfl (fun e => ?_) (fun e => ?_)
 ·have A := e
  have e := bt_t e
  refine dT 3 rfl rfl rfl (Zn F5.at_ (fun i hi => absurd hi List.not_mem_nil) agg27 sz27 rfl ?_)
  refine dV 5 rfl rfl rfl (fun _ => Zh fa27_0 rfl) ?_
  refine dT 6 rfl rfl rfl (Xj F5.at_ (fun i hi => absurd hi List.not_mem_nil) agg3 rfl rfl ?_)
  refine dO 4 (Ye rfl rfl rfl ?_)
  have I := F6.ch0 C9
  have J := F7.ch0 C9
  have K := F8.ch0 C9
  refine Step.call (Zl (xs := [.tmp 6]) fk59 rfl) (Zco _ I K J e) fun ab L x => ?_
  obtain ⟨x, M, B⟩ := x
  have O := B.size
  have E := E.trans B
  obtain ⟨P, Q, rfl, R, F⟩ := x.opn
  have ac := Zdt aA aN
  have f7 := e.2.1
  have k : Ch [] W4 L := (p.trans B)
  refine ⟨k, ?_⟩
  refine dO 7 (Ye rfl rfl rfl ?_)
  refine (Yy (j := aS.toNat) x.ls Qa el24 sz4 rfl rfl om om fun S T q C => ?_)
  refine ⟨k, ?_⟩
  refine dO 8 (Ye rfl rfl rfl ?_)
  refine s_v (Yk C agg4 rfl rfl) ?_
  refine ⟨k, ?_⟩
  refine dV 9 rfl rfl rfl (fun _ => Xi rfl) (dV 10 rfl rfl rfl (fun _ => Zw rfl rfl) (dV 11 rfl rfl rfl (fun _ => Ze rfl) ?_))
  refine Yb (by kernel_rfl) ?_
  refine Zb (H3 _ _ ?_)
  refine Zs ?_
  exact Zi [_] ⟨rfl, trivial⟩ ⟨congrArg Value.bool (by first | exact em_y e q | exact em_n e), E⟩
 have A := e
 have e := bf_t e
 refine dK 3 rfl rfl rfl (dK 4 rfl rfl rfl (dK 5 rfl rfl rfl (dK 6 rfl rfl rfl (dK 7 rfl rfl rfl (dK 8 rfl rfl rfl (dK 9 rfl rfl rfl (dV 10 rfl rfl rfl (fun _ => Zv rfl rfl) ?_)))))))
 refine dV 11 rfl rfl rfl (fun _ => Ze rfl) ?_
 refine Yb (by kernel_rfl) ?_
 refine Zb (H3 _ _ ?_)
 refine Zs ?_
 exact Zi [_] ⟨rfl, trivial⟩ ⟨congrArg Value.bool (by first | exact em_y e q | exact em_n e), E⟩

/-- laws.FnMissingWord -/
theorem Zef {w : World} {LL_code dH : Nat} {cu : Value} {code : List Int} (al : Ls ucs 1 w LL_code dH cu code) :
 Ctr Try.prog 4 #[cu] w (fun v w' => v = .bool (true) ∧ Ch [] w w') := by
 obtain ⟨dI, dJ, cF⟩ := al.val
 subst cF
 have ky := al.len
 have al := al.here (by decide)
 have E := Ch.refl [] w
 refine Yh (N := 121) (vs0 := [(.slice dI code.length dJ)]) Try.func4 rfl rfl rfl ?_
 refine Zg fun K1 H1 => ?_
 refine Zc (Za rfl rfl (Ze rfl) (Zf (Zb (H1 _ _ ?_))))
 refine Zg fun K2 H2 => ?_
 refine Zg fun K3 H3 => ?_
 refine Zc (Za rfl rfl (Zd rfl) (Zk rfl rfl ?_))
 refine Step.call (Zl (xs := [.tmp 12]) fk6 rfl) (Zoj al ) fun qE W4 kI => ?_
 obtain ⟨rfl, C4⟩ := kI
 have sg := C4.size
 have E := E.trans C4
 refine Zf (Zb (H3 _ _ ?_))
 refine Zx rfl (fun ci => ?_) (fun ci => ?_)
 ·have qF := ci
  have ci := Yo ci
  refine Zg fun K6 H6 => ?_
  refine Zc (Za rfl rfl (Ze rfl) (Zf (Zb (H6 _ _ ?_))))
  refine Zs (Zm ?_)
  exact Zi [_] ⟨rfl, trivial⟩ ⟨congrArg Value.bool (by first | rfl | exact decide_eq_true (by have q := Qb g j; omega) | exact (l rfl).elim | exact (c (by rw [← Zq f, ← Zq e]; rfl)).elim | exact (c (by rw [← Zq f, ← Zo e]; rfl)).elim | exact (c (by rw [← Zo f]; rfl)).elim | exact (h rfl).elim | exact (a (Bool.not_not _).symm).elim | exact (a (congrArg Prod.snd (Yu e))).elim | exact (a (congrArg Prod.snd (Yu k))).elim | exact (b rfl).elim | exact (Bool.false_ne_true (a.symm.trans g)).elim), E⟩
 have qF := ci
 have ci := Yp ci
 refine Zu ?_
 refine Zb (H2 _ _ ?_)
 refine Zg fun K7 H7 => ?_
 refine Zc (Za rfl rfl (Zd rfl) (Zk rfl rfl ?_))
 have F8 := al.ch0 C4
 refine Step.call (Zl (xs := [.tmp 15]) fk15 rfl) (Zdk F8 om) fun qG W9 kJ => ?_
 obtain ⟨am, an, aK, u, x, H, kz, kA, bR, kB, kC, bS, rfl, aL, aE, aM, aF, bq, dE, cb, bN, aN, aG, cc, cd, aO, aH, br, dF, ce, bO, cf, bP, cg, bQ, C9⟩ := kJ
 have sh := C9.size
 have E := E.trans C9
 obtain ⟨bT, bU, rfl, fv, aP⟩ := aL.opn
 obtain ⟨bV, bW, rfl, fw, aQ⟩ := aM.opn
 obtain ⟨bX, bY, rfl, fx, aR⟩ := aN.opn
 obtain ⟨bZ, b0, rfl, fy, aS⟩ := aO.opn
 refine Za rfl rfl (Zd rfl) (Za rfl rfl (Xc rfl rfl) (Za rfl rfl (Xc rfl rfl) (Zk rfl rfl ?_)))
 refine Yr zr27 fun ot qH kD d0 si => ?_
 have qI := d0.size
 have E := E.trans d0
 have sj := kD.lt
 replace kD : Blk qH ot 27 [(.int .i64 0), (.slice none 0 0), (.slice none 0 0)] := kD
 refine Zk rfl rfl ?_
 refine Yr zr27 fun ou qJ kE dL sk => ?_
 have qK := dL.size
 have E := E.trans dL
 have sm := kE.lt
 replace kE : Blk qJ ou 27 [(.int .i64 0), (.slice none 0 0), (.slice none 0 0)] := kE
 refine Zk rfl rfl ?_
 have qL := kD.ch0 dL
 refine Zy (off := 0) 3 qL sz27 rfl (us := [(.int .i64 am), (.slice bT (an).length bU), (.slice bV (bR).length bW)]) rfl rfl rfl rfl fun qM cG dM => ?_
 have qN := dM.size
 have E := E.step dM (lS om)
 replace cG : Blk qM ot 27 [(.int .i64 am), (.slice bT (an).length bU), (.slice bV (bR).length bW)] := cG
 refine Zk rfl rfl ?_
 have qO := kE.ch dM (nS om)
 refine Zy (off := 0) 3 qO sz27 rfl (us := [(.int .i64 u), (.slice bX (x).length bY), (.slice bZ (bS).length b0)]) rfl rfl rfl rfl fun qP cv dN => ?_
 have qQ := dN.size
 have E := E.step dN (lS om)
 replace cv : Blk qP ou 27 [(.int .i64 u), (.slice bX (x).length bY), (.slice bZ (bS).length b0)] := cv
 refine Zf (Zb (H7 _ _ ?_))
 refine Zg fun sn qR => ?_
 refine Zc ?_
 have ov := cG.ch dN (nS om)
 refine Za rfl rfl (Zt ov.at_ agg27 sz27 rfl) (Za rfl rfl (Zt cv.at_ agg27 sz27 rfl) (Zk rfl rfl ?_))
 have ow := (((aL.ch0 d0).ch0 dL).ch dM (dS aE aP om)).ch dN (dS aE aP om)
 have ox := (((bq.ch0 d0).ch0 dL).ch dM (oS om)).ch dN (oS om)
 have oy := (((aM.ch0 d0).ch0 dL).ch dM (dS aF aQ om)).ch dN (dS aF aQ om)
 have oz := (((aN.ch0 d0).ch0 dL).ch dM (dS aG aR om)).ch dN (dS aG aR om)
 have oA := (((br.ch0 d0).ch0 dL).ch dM (oS om)).ch dN (oS om)
 have oB := (((aO.ch0 d0).ch0 dL).ch dM (dS aH aS om)).ch dN (dS aH aS om)
 refine Step.call (Zl (xs := [.tmp 20, .tmp 21]) fk16 rfl) (Zcj _ ow.ls oy.ls ox.rd _ oz.ls oB.ls oA.rd ) fun qS so kK => ?_
 obtain ⟨oC, rfl, b1, fs, dG⟩ := kK
 have qT := dG.size
 have E := E.trans dG
 obtain ⟨kL, kM, rfl, kN, fz⟩ := b1.opn
 refine Za rfl rfl (Zd rfl) (Za rfl rfl (Xc rfl rfl) (Za rfl rfl (Xc rfl rfl) (Za rfl rfl (Ze rfl) (Za rfl rfl (Ze rfl) (Zf (Zb (qR _ _ ?_)))))))
 refine Zg fun sp qU => ?_
 refine Zc ?_
 have oD := ov.ch0 dG
 refine Za rfl rfl (Zt oD.at_ agg27 sz27 rfl) ?_
 have kO := cv.ch0 dG
 refine Za rfl rfl (Zt kO.at_ agg27 sz27 rfl) (Zk rfl rfl ?_)
 have oE := ow.ch0 dG
 have oF := ox.ch0 dG
 have oG := oy.ch0 dG
 have kP := oz.ch0 dG
 have kQ := oA.ch0 dG
 have kR := oB.ch0 dG
 refine Step.call (Zl (xs := [.tmp 26, .tmp 27]) fk17 rfl) (Zci _ oE.ls oG.ls oF.rd _ kP.ls kR.ls kQ.rd ) fun qV sq kS => ?_
 obtain ⟨oH, rfl, b2, ft, cj⟩ := kS
 have qW := cj.size
 have E := E.trans cj
 obtain ⟨kT, kU, rfl, kV, fA⟩ := b2.opn
 refine Za rfl rfl (Zd rfl) (Za rfl rfl (Xc rfl rfl) (Za rfl rfl (Xc rfl rfl) (Za rfl rfl (Ze rfl) (Za rfl rfl (Ze rfl) (Zf (Zb (qU _ _ ?_)))))))
 refine Zg fun sr qX => ?_
 refine Zg fun ss oI => ?_
 refine Zc (Za rfl rfl (Zd rfl) (Za rfl rfl (Zd rfl) (Za rfl rfl (Zba un4 rfl rfl) (Za rfl rfl (Zd rfl) ?_))))
 refine Ym (d := 34) rfl (fun l => ?_) (fun l => ?_)
 ·have kW := l
  have l := bf_e (Qf l)
  refine Zj rfl rfl (Zj rfl rfl (Zj rfl rfl (Zj rfl rfl (Za rfl rfl (Zw rfl rfl) (Zf (Zb (oI _ _ ?_)))))))
  refine Xl rfl ?_
  refine Zg fun st qY => ?_
  refine Zc (Za rfl rfl (Ze rfl) (Zf (Zb (qY _ _ ?_))))
  refine Zs (Zm ?_)
  exact Zi [_] ⟨rfl, trivial⟩ ⟨congrArg Value.bool (by first | rfl | exact decide_eq_true (by have q := Qb g j; omega) | exact (l rfl).elim | exact (c (by rw [← Zq f, ← Zq e]; rfl)).elim | exact (c (by rw [← Zq f, ← Zo e]; rfl)).elim | exact (c (by rw [← Zo f]; rfl)).elim | exact (h rfl).elim | exact (a (Bool.not_not _).symm).elim | exact (a (congrArg Prod.snd (Yu e))).elim | exact (a (congrArg Prod.snd (Yu k))).elim | exact (b rfl).elim | exact (Bool.false_ne_true (a.symm.trans g)).elim), E⟩
 have kW := l
 have l := bt_e (Qg l)
 refine Za rfl rfl (Zd rfl) (Za rfl rfl (Zd rfl) (Zk rfl rfl ?_))
 have kF := b1.ch0 cj
 refine Step.call (Zl (xs := [.tmp 35, .tmp 36]) fk10 rfl) (Zih kF.ls b2.ls ) fun kX su dP => ?_
 replace dP : kX = .bool (true) ∧ _ := ⟨dP.1.trans (congrArg Value.bool (decide_eq_true rfl)), dP.2⟩
 obtain ⟨rfl, b3⟩ := dP
 have qZ := b3.size
 have E := E.trans b3
 refine Za rfl rfl (Xi rfl) (Za rfl rfl (Zv rfl rfl) (Zf (Zb (oI _ _ ?_))))
 refine Xn rfl ?_
 refine Zu ?_
 refine Zb (qX _ _ ?_)
 refine Zg fun sv oJ => ?_
 refine Zc ?_
 have kY := (oD.ch0 cj).ch0 b3
 refine Za rfl rfl (Zt kY.at_ agg27 sz27 rfl) (Zk rfl rfl ?_)
 have kZ := (oE.ch0 cj).ch0 b3
 have k0 := (oF.ch0 cj).ch0 b3
 have k3 := (oG.ch0 cj).ch0 b3
 refine Step.call (Zl (xs := [.tmp 40]) fk13 rfl) (Yw _ kZ.ls k3.ls k0.rd ) fun q0 sw k4 => ?_
 obtain ⟨rfl, a6⟩ := k4
 have q1 := a6.size
 have E := E.trans a6
 refine Za rfl rfl (Zd rfl) ?_
 refine Ym (d := 42) rfl (fun f => ?_) (fun f => ?_)
 ·have k5 := f
  have f := bt_t f
  have oK := ((kO.ch0 cj).ch0 b3).ch0 a6
  refine Za rfl rfl (Zt oK.at_ agg27 sz27 rfl) (Zk rfl rfl ?_)
  have oL := ((kP.ch0 cj).ch0 b3).ch0 a6
  have oM := ((kQ.ch0 cj).ch0 b3).ch0 a6
  have oN := ((kR.ch0 cj).ch0 b3).ch0 a6
  refine Step.call (Zl (xs := [.tmp 43]) fk13 rfl) (Yw _ oL.ls oN.ls oM.rd ) fun q2 sx k6 => ?_
  obtain ⟨rfl, cE⟩ := k6
  have q3 := cE.size
  have E := E.trans cE
  refine Za rfl rfl (Zw rfl rfl) (Za rfl rfl (Ze rfl) (Zf (Zb (oJ _ _ ?_))))
  refine Zg fun sy kG => ?_
  refine Zg fun sA fu => ?_
  refine Zc ?_
  have d2 := (kY.ch0 a6).ch0 cE
  refine Za rfl rfl (Zt d2.at_ agg27 sz27 rfl) ?_
  have fB := oK.ch0 cE
  refine Za rfl rfl (Zt fB.at_ agg27 sz27 rfl) (Zk rfl rfl ?_)
  have d3 := (kZ.ch0 a6).ch0 cE
  have d4 := (k0.ch0 a6).ch0 cE
  have d5 := (k3.ch0 a6).ch0 cE
  have fC := oL.ch0 cE
  have fD := oM.ch0 cE
  have fE := oN.ch0 cE
  refine Step.call (Zl (xs := [.tmp 46, .tmp 47]) fk18 rfl) (Zae _ d3.ls d5.ls d4.rd _ fC.ls fE.ls fD.rd ) fun d6 sB bs => ?_
  replace bs : d6 = .bool ((tt (Yz am an aK) && (tt (Yz u x H) && !(msR am an aK u x H).2))) ∧ _ := ⟨bs.1.trans (congrArg Value.bool Zuz), bs.2⟩
  obtain ⟨rfl, I⟩ := bs
  have q4 := I.size
  have E := E.trans I
  refine Za rfl rfl (Zd rfl) (Za rfl rfl (Zd rfl) ?_)
  refine Ym (d := 50) rfl (fun e => ?_) (fun e => ?_)
  ·have cH := e
   have e := bt_t e
   refine Za rfl rfl (Zd rfl) (Za rfl rfl (Xi rfl) (Za rfl rfl (Zw rfl rfl) (Za rfl rfl (Zba un4 rfl rfl) (Za rfl rfl (Zd rfl) ?_))))
   refine Ym (d := 55) rfl (fun c => ?_) (fun c => ?_)
   ·have k7 := c
    have c := bf_e (Qf c)
    refine Zj rfl rfl (Zj rfl rfl (Zj rfl rfl (Zj rfl rfl (Zj rfl rfl (Zj rfl rfl (Zj rfl rfl (Zj rfl rfl ?_)))))))
    refine Zj rfl rfl (Zj rfl rfl (Zj rfl rfl (Zj rfl rfl (Za rfl rfl (Zw rfl rfl) (Zf (Zb (fu _ _ ?_)))))))
    refine Xl rfl ?_
    refine Zg fun sC q5 => ?_
    refine Zc (Za rfl rfl (Ze rfl) (Zf (Zb (q5 _ _ ?_))))
    refine Zs (Zm ?_)
    exact Zi [_] ⟨rfl, trivial⟩ ⟨congrArg Value.bool (by first | rfl | exact decide_eq_true (by have q := Qb g j; omega) | exact (l rfl).elim | exact (c (by rw [← Zq f, ← Zq e]; rfl)).elim | exact (c (by rw [← Zq f, ← Zo e]; rfl)).elim | exact (c (by rw [← Zo f]; rfl)).elim | exact (h rfl).elim | exact (a (Bool.not_not _).symm).elim | exact (a (congrArg Prod.snd (Yu e))).elim | exact (a (congrArg Prod.snd (Yu k))).elim | exact (b rfl).elim | exact (Bool.false_ne_true (a.symm.trans g)).elim), E⟩
   have k7 := c
   have c := bt_e (Qg c)
   refine Za rfl rfl (Zd rfl) (Za rfl rfl (Zd rfl) ?_)
   refine Ym (d := 57) rfl (fun j => ?_) (fun j => ?_)
   ·have d7 := j
    have k8 := d2.ch0 I
    refine Za rfl rfl (Zt k8.at_ agg27 sz27 rfl) (Za rfl rfl (Zd rfl) (Zk rfl rfl ?_))
    have k9 := d3.ch0 I
    have la := d4.ch0 I
    have lb := d5.ch0 I
    have oO := (((kF.ch0 b3).ch0 a6).ch0 cE).ch0 I
    refine Step.call (Zl (xs := [.tmp 58, .tmp 59]) fk14 rfl) (Zaa _ k9.ls lb.ls la.rd oO.ls ) fun cI sD ay => ?_
    replace ay : cI = .bool (false) ∧ _ := ⟨ay.1.trans (congrArg Value.bool (Zes (by first | exact j | simpa using j)).2.1), ay.2⟩
    obtain ⟨rfl, ck⟩ := ay
    have q6 := ck.size
    have E := E.trans ck
    refine Za rfl rfl (Zd rfl) ?_
    have oP := (fB.ch0 I).ch0 ck
    refine Za rfl rfl (Zt oP.at_ agg27 sz27 rfl) (Za rfl rfl (Zd rfl) (Zk rfl rfl ?_))
    have oQ := (fC.ch0 I).ch0 ck
    have oR := (fD.ch0 I).ch0 ck
    have oT := (fE.ch0 I).ch0 ck
    have q7 := oO.ch0 ck
    refine Step.call (Zl (xs := [.tmp 62, .tmp 63]) fk14 rfl) (Zaa _ oQ.ls oT.ls oR.rd q7.ls ) fun cJ sE az => ?_
    replace az : cJ = .bool (true) ∧ _ := ⟨az.1.trans (congrArg Value.bool (Zes (by first | exact j | simpa using j)).2.2), az.2⟩
    obtain ⟨rfl, cw⟩ := az
    have q8 := cw.size
    have E := E.trans cw
    refine Za rfl rfl (Xi rfl) (Za rfl rfl (Zv rfl rfl) (Za rfl rfl (Zw rfl rfl) (Za rfl rfl (Zv rfl rfl) (Zf (Zb (fu _ _ ?_))))))
    refine Xn rfl ?_
    refine Zu ?_
    refine Zb (kG _ _ ?_)
    refine Zg fun sF q9 => ?_
    refine Zc ?_
    have oU := oP.ch0 cw
    refine Za rfl rfl (Zt oU.at_ agg27 sz27 rfl) (Zk rfl rfl ?_)
    have oV := oQ.ch0 cw
    have oW := oR.ch0 cw
    have oX := oT.ch0 cw
    refine Step.call (Zl (xs := [.tmp 70]) fk19 rfl) (Qk _ oV.ls oX.ls oW.rd ) fun cK sG aT => ?_
    obtain ⟨b4, rfl, m, J, cx⟩ := aT
    have ra := cx.size
    have E := E.trans cx
    obtain ⟨aU, aV, rfl, aW, U⟩ := m.opn
    refine Za rfl rfl (Zd rfl) (Za rfl rfl (Xc rfl rfl) (Za rfl rfl (Xc rfl rfl) (Za rfl rfl (Ze rfl) (Za rfl rfl (Ze rfl) (Zf (Zb (q9 _ _ ?_)))))))
    refine Zg fun sH oY => ?_
    refine Zg fun sI kH => ?_
    refine Yx [] 25 mixed rfl fun fF cm => ?_
    have rb := cm.size
    have E := E.trans cm
    refine dV 0 rfl rfl rfl (fun _ => Zd rfl) ?_
    have d8 := (oU.ch0 cx).ch0 cm
    refine dT 1 rfl rfl rfl (Zn d8.at_ (fun i hi => absurd hi List.not_mem_nil) agg27 sz27 rfl ?_)
    refine dO 2 (Ye rfl rfl rfl ?_)
    have oZ := (oV.ch0 cx).ch0 cm
    have o0 := (oW.ch0 cx).ch0 cm
    have o1 := (oX.ch0 cx).ch0 cm
    refine Step.call (Zl (xs := [.tmp 75]) fk13 rfl) (Yw _ oZ.ls o1.ls o0.rd ) fun cL rc aX => ?_
    obtain ⟨rfl, b5⟩ := aX
    have re := b5.size
    have E := E.trans b5
    have d1 : Ch [] fF rc := ((Ch.refl _ _).trans b5)
    refine ⟨d1, ?_⟩
    refine dV 3 rfl rfl rfl (fun _ => Zd rfl) ?_
    refine Zai (d := 77) rfl cH ?_
    refine dT 4 rfl rfl rfl (Zn d8.at_ (fun i hi => absurd hi List.not_mem_nil) agg27 sz27 rfl ?_)
    refine dO 5 (Ye rfl rfl rfl ?_)
    have o2 := oZ.ch0 b5
    have o3 := o0.ch0 b5
    have o4 := o1.ch0 b5
    refine Step.call (Zl (xs := [.tmp 78]) fk20 rfl) (Xf _ o2.ls o4.ls o3.rd ) fun cn lc T => ?_
    replace T : cn = .bool ((!(saR u x H).2)) ∧ _ := ⟨T.1.trans (congrArg Value.bool (Zrb (by first | exact k | exact e))), T.2⟩
    obtain ⟨rfl, V⟩ := T
    have o5 := V.size
    have E := E.trans V
    have cM : Ch [] fF lc := (d1.trans V)
    refine ⟨cM, ?_⟩
    refine dV 6 rfl rfl rfl (fun _ => Xi rfl) (dV 7 rfl rfl rfl (fun _ => Zw rfl rfl) (dV 8 rfl rfl rfl (fun _ => Zba un4 rfl rfl) (dV 9 rfl rfl rfl (fun _ => Zd rfl) ?_)))
    refine Xe (d := 83) rfl (fun a => ?_) (fun a => ?_)
    ·have fG := a
     have a := bf_e (Qf a)
     refine dK 10 rfl rfl rfl (dK 11 rfl rfl rfl (dK 12 rfl rfl rfl (dK 13 rfl rfl rfl (dK 14 rfl rfl rfl (dV 15 rfl rfl rfl (fun _ => Zw rfl rfl) (dV 16 rfl rfl rfl (fun _ => Zd rfl) (dK 17 rfl rfl rfl ?_)))))))
     refine dK 18 rfl rfl rfl (dK 19 rfl rfl rfl (dK 20 rfl rfl rfl (dK 21 rfl rfl rfl (dK 22 rfl rfl rfl (dK 23 rfl rfl rfl (dV 24 rfl rfl rfl (fun _ => Zw rfl rfl) ?_))))))
     refine Yb (by kernel_rfl) ?_
     refine Zb (kH _ _ ?_)
     refine Xl rfl ?_
     refine Zg fun rf ld => ?_
     refine Zc (Za rfl rfl (Ze rfl) (Zf (Zb (ld _ _ ?_))))
     refine Zs (Zm ?_)
     exact Zi [_] ⟨rfl, trivial⟩ ⟨congrArg Value.bool (by first | rfl | exact decide_eq_true (by have q := Qb g j; omega) | exact (l rfl).elim | exact (c (by rw [← Zq f, ← Zq e]; rfl)).elim | exact (c (by rw [← Zq f, ← Zo e]; rfl)).elim | exact (c (by rw [← Zo f]; rfl)).elim | exact (h rfl).elim | exact (a (Bool.not_not _).symm).elim | exact (a (congrArg Prod.snd (Yu e))).elim | exact (a (congrArg Prod.snd (Yu k))).elim | exact (b rfl).elim | exact (Bool.false_ne_true (a.symm.trans g)).elim), E⟩
    have fG := a
    have a := bt_e (Qg a)
    refine dT 10 rfl rfl rfl (Zn d8.at_ (fun i hi => absurd hi List.not_mem_nil) agg27 sz27 rfl ?_)
    refine dT 12 rfl rfl rfl (Zn d8.at_ (fun i hi => absurd hi List.not_mem_nil) agg27 sz27 rfl ?_)
    refine dO 11 (Ye rfl rfl rfl ?_)
    have fH := o2.ch0 V
    have fI := o3.ch0 V
    have fJ := o4.ch0 V
    refine Step.call (Zl (xs := [.tmp 84]) fk21 rfl) (Xs _ fH.ls fJ.ls fI.rd ) fun co le ao => ?_
    obtain ⟨rfl, X⟩ := ao
    have o6 := X.size
    have E := E.trans X
    have cN : Ch [] fF le := (cM.trans X)
    refine ⟨cN, ?_⟩
    refine dO 13 (Ye rfl rfl rfl ?_)
    have d9 := fH.ch0 X
    have ea := fI.ch0 X
    have eb := fJ.ch0 X
    refine Step.call (Zl (xs := [.tmp 86]) fk20 rfl) (Xf _ d9.ls eb.ls ea.rd ) fun cp lf ap => ?_
    obtain ⟨rfl, K⟩ := ap
    have o7 := K.size
    have E := E.trans K
    have cO : Ch [] fF lf := (cN.trans K)
    refine ⟨cO, ?_⟩
    refine dV 14 rfl rfl rfl (fun _ => Zba un4 rfl rfl) (dV 15 rfl rfl rfl (fun _ => Zv rfl rfl) (dV 16 rfl rfl rfl (fun _ => Zd rfl) ?_))
    refine Xe (d := 90) rfl (fun h => ?_) (fun h => ?_)
    ·have fK := h
     have h := bf_e (Qf h)
     refine dK 17 rfl rfl rfl (dK 18 rfl rfl rfl (dK 19 rfl rfl rfl (dK 20 rfl rfl rfl (dK 21 rfl rfl rfl (dK 22 rfl rfl rfl (dK 23 rfl rfl rfl (dV 24 rfl rfl rfl (fun _ => Zw rfl rfl) ?_)))))))
     refine Yb (by kernel_rfl) ?_
     refine Zb (kH _ _ ?_)
     refine Xl rfl ?_
     refine Zg fun rg lg => ?_
     refine Zc (Za rfl rfl (Ze rfl) (Zf (Zb (lg _ _ ?_))))
     refine Zs (Zm ?_)
     exact Zi [_] ⟨rfl, trivial⟩ ⟨congrArg Value.bool (by first | rfl | exact decide_eq_true (by have q := Qb g j; omega) | exact (l rfl).elim | exact (c (by rw [← Zq f, ← Zq e]; rfl)).elim | exact (c (by rw [← Zq f, ← Zo e]; rfl)).elim | exact (c (by rw [← Zo f]; rfl)).elim | exact (h rfl).elim | exact (a (Bool.not_not _).symm).elim | exact (a (congrArg Prod.snd (Yu e))).elim | exact (a (congrArg Prod.snd (Yu k))).elim | exact (b rfl).elim | exact (Bool.false_ne_true (a.symm.trans g)).elim), E⟩
    have fK := h
    have h := bt_e (Qg h)
    refine dV 17 rfl rfl rfl (fun _ => Zd rfl) (dV 18 rfl rfl rfl (fun _ => Zd rfl) ?_)
    refine Xe (d := 92) rfl (fun g => ?_) (fun g => ?_)
    ·have cP := g
     refine dT 19 rfl rfl rfl (Zn d8.at_ (fun i hi => absurd hi List.not_mem_nil) agg27 sz27 rfl ?_)
     refine dV 20 rfl rfl rfl (fun _ => Zd rfl) (dO 21 (Ye rfl rfl rfl ?_))
     have fL := d9.ch0 K
     have fM := ea.ch0 K
     have fN := eb.ch0 K
     have lh := ((((m.ch0 cm).ch0 b5).ch0 V).ch0 X).ch0 K
     refine Step.call (Zl (xs := [.tmp 93, .tmp 94]) fk22 rfl) (Qm _ fL.ls fN.ls fM.rd lh.ls ) fun aq li p => ?_
     replace p : aq = .bool (true) ∧ _ := ⟨p.1.trans (congrArg Value.bool (Zdp (by first | exact g | simpa using g))), p.2⟩
     obtain ⟨rfl, aY⟩ := p
     have o8 := aY.size
     have E := E.trans aY
     have ec : Ch [] fF li := (cO.trans aY)
     refine ⟨ec, ?_⟩
     refine dV 22 rfl rfl rfl (fun _ => Xi rfl) (dV 23 rfl rfl rfl (fun _ => Zw rfl rfl) (dV 24 rfl rfl rfl (fun _ => Zv rfl rfl) ?_))
     refine Yb (by kernel_rfl) ?_
     refine Zb (kH _ _ ?_)
     refine Xn rfl ?_
     refine Zu ?_
     refine Zb (oY _ _ ?_)
     refine Zg fun rh fO => ?_
     refine Yx [] 23 mixed rfl fun fP a7 => ?_
     have o9 := a7.size
     have E := E.trans a7
     have fQ := (((((((((k8.ch0 ck).ch0 cw).ch0 cx).ch0 cm).ch0 b5).ch0 V).ch0 X).ch0 K).ch0 aY).ch0 a7
     refine dT 0 rfl rfl rfl (Zn fQ.at_ (fun i hi => absurd hi List.not_mem_nil) agg27 sz27 rfl ?_)
     have fR := (((((d8.ch0 b5).ch0 V).ch0 X).ch0 K).ch0 aY).ch0 a7
     refine dT 1 rfl rfl rfl (Zn fR.at_ (fun i hi => absurd hi List.not_mem_nil) agg27 sz27 rfl ?_)
     refine dT 3 rfl rfl rfl (Zn fQ.at_ (fun i hi => absurd hi List.not_mem_nil) agg27 sz27 rfl ?_)
     refine dT 4 rfl rfl rfl (Zn fR.at_ (fun i hi => absurd hi List.not_mem_nil) agg27 sz27 rfl ?_)
     refine dO 2 (Ye rfl rfl rfl ?_)
     have fS := (((((((((k9.ch0 ck).ch0 cw).ch0 cx).ch0 cm).ch0 b5).ch0 V).ch0 X).ch0 K).ch0 aY).ch0 a7
     have fT := (((((((((la.ch0 ck).ch0 cw).ch0 cx).ch0 cm).ch0 b5).ch0 V).ch0 X).ch0 K).ch0 aY).ch0 a7
     have fU := (((((((((lb.ch0 ck).ch0 cw).ch0 cx).ch0 cm).ch0 b5).ch0 V).ch0 X).ch0 K).ch0 aY).ch0 a7
     have fV := (fL.ch0 aY).ch0 a7
     have fW := (fM.ch0 aY).ch0 a7
     have fX := (fN.ch0 aY).ch0 a7
     refine Step.call (Zl (xs := [.tmp 99, .tmp 100]) fk23 rfl) (Xb _ fS.ls fU.ls fT.rd _ fV.ls fX.ls fW.rd ) fun A lj n => ?_
     obtain ⟨rfl, bu⟩ := n
     have pa := bu.size
     have E := E.trans bu
     have cQ : Ch [] fP lj := ((Ch.refl _ _).trans bu)
     refine ⟨cQ, ?_⟩
     refine dO 5 (Ye rfl rfl rfl ?_)
     have lk := fS.ch0 bu
     have ll := fT.ch0 bu
     have lm := fU.ch0 bu
     have ln := fV.ch0 bu
     have lo := fW.ch0 bu
     have lp := fX.ch0 bu
     refine Step.call (Zl (xs := [.tmp 102, .tmp 103]) fk24 rfl) (Xa _ lk.ls lm.ls ll.rd _ ln.ls lp.ls lo.rd ) fun B lq o => ?_
     obtain ⟨rfl, ed⟩ := o
     have pb := ed.size
     have E := E.trans ed
     have ee : Ch [] fP lq := (cQ.trans ed)
     refine ⟨ee, ?_⟩
     refine dV 6 rfl rfl rfl (fun _ => Zbj un4 rfl rfl) (dV 7 rfl rfl rfl (fun _ => Zd rfl) ?_)
     refine Xe (d := 106) rfl (fun b => ?_) (fun b => ?_)
     ·have fY := b
      have b := bt_e b
      refine dV 8 rfl rfl rfl (fun _ => Zd rfl) (dV 9 rfl rfl rfl (fun _ => Xi rfl) (dV 10 rfl rfl rfl (fun _ => Zd rfl) ?_))
      refine Zaj (d := 109) rfl (congrArg Bool.not cP) ?_
      refine dV 11 rfl rfl rfl (fun _ => Zd rfl) (dV 12 rfl rfl rfl (fun _ => Xi rfl) (dV 13 rfl rfl rfl (fun _ => Zv rfl rfl) (dV 14 rfl rfl rfl (fun _ => Zd rfl) ?_)))
      refine Zaj (d := 113) rfl (congrArg Bool.not d7) ?_
      refine dV 15 rfl rfl rfl (fun _ => Zd rfl) (dV 16 rfl rfl rfl (fun _ => Xm (by rw [el30]; rfl) rfl) (dV 17 rfl rfl rfl (fun _ => Zd rfl) (dV 18 rfl rfl rfl (fun _ => Xm (by rw [el30]; rfl) rfl) (dV 19 rfl rfl rfl (fun _ => Zfo rfl rfl) (dV 20 rfl rfl rfl (fun _ => Zv rfl rfl) (dV 21 rfl rfl rfl (fun _ => Zw rfl rfl) (dV 22 rfl rfl rfl (fun _ => Ze rfl) ?_)))))))
      refine Yb (by kernel_rfl) ?_
      refine Zb (fO _ _ ?_)
      refine Zs ?_
      exact Zi [_] ⟨rfl, trivial⟩ ⟨congrArg Value.bool (by first | rfl | exact decide_eq_true (by have q := Qb g j; omega) | exact (l rfl).elim | exact (c (by rw [← Zq f, ← Zq e]; rfl)).elim | exact (c (by rw [← Zq f, ← Zo e]; rfl)).elim | exact (c (by rw [← Zo f]; rfl)).elim | exact (h rfl).elim | exact (a (Bool.not_not _).symm).elim | exact (a (congrArg Prod.snd (Yu e))).elim | exact (a (congrArg Prod.snd (Yu k))).elim | exact (b rfl).elim | exact (Bool.false_ne_true (a.symm.trans g)).elim), E⟩
     have fY := b
     have b := bf_e b
     refine dK 8 rfl rfl rfl (dK 9 rfl rfl rfl (dK 10 rfl rfl rfl (dK 11 rfl rfl rfl (dK 12 rfl rfl rfl (dK 13 rfl rfl rfl (dK 14 rfl rfl rfl (dK 15 rfl rfl rfl ?_)))))))
     refine dK 16 rfl rfl rfl (dK 17 rfl rfl rfl (dK 18 rfl rfl rfl (dK 19 rfl rfl rfl (dK 20 rfl rfl rfl (dV 21 rfl rfl rfl (fun _ => Zv rfl rfl) (dV 22 rfl rfl rfl (fun _ => Ze rfl) ?_))))))
     refine Yb (by kernel_rfl) ?_
     refine Zb (fO _ _ ?_)
     refine Zs ?_
     exact Zi [_] ⟨rfl, trivial⟩ ⟨congrArg Value.bool (by first | rfl | exact decide_eq_true (by have q := Qb g j; omega) | exact (l rfl).elim | exact (c (by rw [← Zq f, ← Zq e]; rfl)).elim | exact (c (by rw [← Zq f, ← Zo e]; rfl)).elim | exact (c (by rw [← Zo f]; rfl)).elim | exact (h rfl).elim | exact (a (Bool.not_not _).symm).elim | exact (a (congrArg Prod.snd (Yu e))).elim | exact (a (congrArg Prod.snd (Yu k))).elim | exact (b rfl).elim | exact (Bool.false_ne_true (a.symm.trans g)).elim), E⟩
    have cP := g
    refine dK 19 rfl rfl rfl (dK 20 rfl rfl rfl (dK 21 rfl rfl rfl (dK 22 rfl rfl rfl (dV 23 rfl rfl rfl (fun _ => Zv rfl rfl) (dV 24 rfl rfl rfl (fun _ => Zv rfl rfl) ?_)))))
    refine Yb (by kernel_rfl) ?_
    refine Zb (kH _ _ ?_)
    refine Xn rfl ?_
    refine Zu ?_
    refine Zb (oY _ _ ?_)
    refine Zg fun ri fZ => ?_
    refine Yx [] 23 mixed rfl fun f0 a8 => ?_
    have pc := a8.size
    have E := E.trans a8
    have f1 := ((((((((k8.ch0 ck).ch0 cw).ch0 cx).ch0 cm).ch0 b5).ch0 V).ch0 X).ch0 K).ch0 a8
    refine dT 0 rfl rfl rfl (Zn f1.at_ (fun i hi => absurd hi List.not_mem_nil) agg27 sz27 rfl ?_)
    have f2 := ((((d8.ch0 b5).ch0 V).ch0 X).ch0 K).ch0 a8
    refine dT 1 rfl rfl rfl (Zn f2.at_ (fun i hi => absurd hi List.not_mem_nil) agg27 sz27 rfl ?_)
    refine dT 3 rfl rfl rfl (Zn f1.at_ (fun i hi => absurd hi List.not_mem_nil) agg27 sz27 rfl ?_)
    refine dT 4 rfl rfl rfl (Zn f2.at_ (fun i hi => absurd hi List.not_mem_nil) agg27 sz27 rfl ?_)
    refine dO 2 (Ye rfl rfl rfl ?_)
    have f3 := ((((((((k9.ch0 ck).ch0 cw).ch0 cx).ch0 cm).ch0 b5).ch0 V).ch0 X).ch0 K).ch0 a8
    have f4 := ((((((((la.ch0 ck).ch0 cw).ch0 cx).ch0 cm).ch0 b5).ch0 V).ch0 X).ch0 K).ch0 a8
    have f5 := ((((((((lb.ch0 ck).ch0 cw).ch0 cx).ch0 cm).ch0 b5).ch0 V).ch0 X).ch0 K).ch0 a8
    have f6 := (d9.ch0 K).ch0 a8
    have f7 := (ea.ch0 K).ch0 a8
    have f8 := (eb.ch0 K).ch0 a8
    refine Step.call (Zl (xs := [.tmp 99, .tmp 100]) fk23 rfl) (Xb _ f3.ls f5.ls f4.rd _ f6.ls f8.ls f7.rd ) fun A lr n => ?_
    obtain ⟨rfl, bv⟩ := n
    have pd := bv.size
    have E := E.trans bv
    have cR : Ch [] f0 lr := ((Ch.refl _ _).trans bv)
    refine ⟨cR, ?_⟩
    refine dO 5 (Ye rfl rfl rfl ?_)
    have lu := f3.ch0 bv
    have lv := f4.ch0 bv
    have lw := f5.ch0 bv
    have lx := f6.ch0 bv
    have ly := f7.ch0 bv
    have lz := f8.ch0 bv
    refine Step.call (Zl (xs := [.tmp 102, .tmp 103]) fk24 rfl) (Xa _ lu.ls lw.ls lv.rd _ lx.ls lz.ls ly.rd ) fun B lA o => ?_
    obtain ⟨rfl, ef⟩ := o
    have pe := ef.size
    have E := E.trans ef
    have eg : Ch [] f0 lA := (cR.trans ef)
    refine ⟨eg, ?_⟩
    refine dV 6 rfl rfl rfl (fun _ => Zbj un4 rfl rfl) (dV 7 rfl rfl rfl (fun _ => Zd rfl) ?_)
    refine Xe (d := 106) rfl (fun b => ?_) (fun b => ?_)
    ·have f9 := b
     have b := bt_e b
     refine dV 8 rfl rfl rfl (fun _ => Zd rfl) (dV 9 rfl rfl rfl (fun _ => Xi rfl) (dV 10 rfl rfl rfl (fun _ => Zd rfl) ?_))
     refine Zai (d := 109) rfl (congrArg Bool.not cP) ?_
     refine dK 11 rfl rfl rfl (dK 12 rfl rfl rfl (dV 13 rfl rfl rfl (fun _ => Zw rfl rfl) (dV 14 rfl rfl rfl (fun _ => Zd rfl) (dK 15 rfl rfl rfl (dK 16 rfl rfl rfl (dK 17 rfl rfl rfl (dK 18 rfl rfl rfl ?_)))))))
     refine dK 19 rfl rfl rfl (dV 20 rfl rfl rfl (fun _ => Zw rfl rfl) (dV 21 rfl rfl rfl (fun _ => Zw rfl rfl) (dV 22 rfl rfl rfl (fun _ => Ze rfl) ?_)))
     refine Yb (by kernel_rfl) ?_
     refine Zb (fZ _ _ ?_)
     refine Zs ?_
     exact Zi [_] ⟨rfl, trivial⟩ ⟨congrArg Value.bool (by first | rfl | exact decide_eq_true (by have q := Qb g j; omega) | exact (l rfl).elim | exact (c (by rw [← Zq f, ← Zq e]; rfl)).elim | exact (c (by rw [← Zq f, ← Zo e]; rfl)).elim | exact (c (by rw [← Zo f]; rfl)).elim | exact (h rfl).elim | exact (a (Bool.not_not _).symm).elim | exact (a (congrArg Prod.snd (Yu e))).elim | exact (a (congrArg Prod.snd (Yu k))).elim | exact (b rfl).elim | exact (Bool.false_ne_true (a.symm.trans g)).elim), E⟩
    have f9 := b
    have b := bf_e b
    refine dK 8 rfl rfl rfl (dK 9 rfl rfl rfl (dK 10 rfl rfl rfl (dK 11 rfl rfl rfl (dK 12 rfl rfl rfl (dK 13 rfl rfl rfl (dK 14 rfl rfl rfl (dK 15 rfl rfl rfl ?_)))))))
    refine dK 16 rfl rfl rfl (dK 17 rfl rfl rfl (dK 18 rfl rfl rfl (dK 19 rfl rfl rfl (dK 20 rfl rfl rfl (dV 21 rfl rfl rfl (fun _ => Zv rfl rfl) (dV 22 rfl rfl rfl (fun _ => Ze rfl) ?_))))))
    refine Yb (by kernel_rfl) ?_
    refine Zb (fZ _ _ ?_)
    refine Zs ?_
    exact Zi [_] ⟨rfl, trivial⟩ ⟨congrArg Value.bool (by first | rfl | exact decide_eq_true (by have q := Qb g j; omega) | exact (l rfl).elim | exact (c (by rw [← Zq f, ← Zq e]; rfl)).elim | exact (c (by rw [← Zq f, ← Zo e]; rfl)).elim | exact (c (by rw [← Zo f]; rfl)).elim | exact (h rfl).elim | exact (a (Bool.not_not _).symm).elim | exact (a (congrArg Prod.snd (Yu e))).elim | exact (a (congrArg Prod.snd (Yu k))).elim | exact (b rfl).elim | exact (Bool.false_ne_true (a.symm.trans g)).elim), E⟩
   have d7 := j
   refine Zj rfl rfl (Zj rfl rfl (Zj rfl rfl (Zj rfl rfl (Zj rfl rfl (Zj rfl rfl (Zj rfl rfl (Zj rfl rfl ?_)))))))
   refine Zj rfl rfl (Za rfl rfl (Zv rfl rfl) (Za rfl rfl (Zv rfl rfl) (Zf (Zb (fu _ _ ?_)))))
   refine Xn rfl ?_
   refine Zu ?_
   refine Zb (kG _ _ ?_)
   refine Zg fun rj lB => ?_
   refine Zc ?_
   have ga := fB.ch0 I
   refine Za rfl rfl (Zt ga.at_ agg27 sz27 rfl) (Zk rfl rfl ?_)
   have gb := fC.ch0 I
   have gc := fD.ch0 I
   have gd := fE.ch0 I
   refine Step.call (Zl (xs := [.tmp 70]) fk19 rfl) (Qk _ gb.ls gd.ls gc.rd ) fun cK rk aT => ?_
   obtain ⟨b4, rfl, m, J, aA⟩ := aT
   have pf := aA.size
   have E := E.trans aA
   obtain ⟨aU, aV, rfl, aW, U⟩ := m.opn
   refine Za rfl rfl (Zd rfl) (Za rfl rfl (Xc rfl rfl) (Za rfl rfl (Xc rfl rfl) (Za rfl rfl (Ze rfl) (Za rfl rfl (Ze rfl) (Zf (Zb (lB _ _ ?_)))))))
   refine Zg fun rl ge => ?_
   refine Zg fun rm dQ => ?_
   refine Yx [] 25 mixed rfl fun cS au => ?_
   have pg := au.size
   have E := E.trans au
   refine dV 0 rfl rfl rfl (fun _ => Zd rfl) ?_
   have cq := (ga.ch0 aA).ch0 au
   refine dT 1 rfl rfl rfl (Zn cq.at_ (fun i hi => absurd hi List.not_mem_nil) agg27 sz27 rfl ?_)
   refine dO 2 (Ye rfl rfl rfl ?_)
   have gf := (gb.ch0 aA).ch0 au
   have gg := (gc.ch0 aA).ch0 au
   have gh := (gd.ch0 aA).ch0 au
   refine Step.call (Zl (xs := [.tmp 75]) fk13 rfl) (Yw _ gf.ls gh.ls gg.rd ) fun cL lC aX => ?_
   obtain ⟨rfl, Y⟩ := aX
   have ph := Y.size
   have E := E.trans Y
   have cT : Ch [] cS lC := ((Ch.refl _ _).trans Y)
   refine ⟨cT, ?_⟩
   refine dV 3 rfl rfl rfl (fun _ => Zd rfl) ?_
   refine Zai (d := 77) rfl cH ?_
   refine dT 4 rfl rfl rfl (Zn cq.at_ (fun i hi => absurd hi List.not_mem_nil) agg27 sz27 rfl ?_)
   refine dO 5 (Ye rfl rfl rfl ?_)
   have gi := gf.ch0 Y
   have gj := gg.ch0 Y
   have gk := gh.ch0 Y
   refine Step.call (Zl (xs := [.tmp 78]) fk20 rfl) (Xf _ gi.ls gk.ls gj.rd ) fun cn lD T => ?_
   replace T : cn = .bool ((!(saR u x H).2)) ∧ _ := ⟨T.1.trans (congrArg Value.bool (Zrb (by first | exact k | exact e))), T.2⟩
   obtain ⟨rfl, Z⟩ := T
   have pi := Z.size
   have E := E.trans Z
   have cU : Ch [] cS lD := (cT.trans Z)
   refine ⟨cU, ?_⟩
   refine dV 6 rfl rfl rfl (fun _ => Xi rfl) (dV 7 rfl rfl rfl (fun _ => Zw rfl rfl) (dV 8 rfl rfl rfl (fun _ => Zba un4 rfl rfl) (dV 9 rfl rfl rfl (fun _ => Zd rfl) ?_)))
   refine Xe (d := 83) rfl (fun a => ?_) (fun a => ?_)
   ·have gl := a
    have a := bf_e (Qf a)
    refine dK 10 rfl rfl rfl (dK 11 rfl rfl rfl (dK 12 rfl rfl rfl (dK 13 rfl rfl rfl (dK 14 rfl rfl rfl (dV 15 rfl rfl rfl (fun _ => Zw rfl rfl) (dV 16 rfl rfl rfl (fun _ => Zd rfl) (dK 17 rfl rfl rfl ?_)))))))
    refine dK 18 rfl rfl rfl (dK 19 rfl rfl rfl (dK 20 rfl rfl rfl (dK 21 rfl rfl rfl (dK 22 rfl rfl rfl (dK 23 rfl rfl rfl (dV 24 rfl rfl rfl (fun _ => Zw rfl rfl) ?_))))))
    refine Yb (by kernel_rfl) ?_
    refine Zb (dQ _ _ ?_)
    refine Xl rfl ?_
    refine Zg fun rn lE => ?_
    refine Zc (Za rfl rfl (Ze rfl) (Zf (Zb (lE _ _ ?_))))
    refine Zs (Zm ?_)
    exact Zi [_] ⟨rfl, trivial⟩ ⟨congrArg Value.bool (by first | rfl | exact decide_eq_true (by have q := Qb g j; omega) | exact (l rfl).elim | exact (c (by rw [← Zq f, ← Zq e]; rfl)).elim | exact (c (by rw [← Zq f, ← Zo e]; rfl)).elim | exact (c (by rw [← Zo f]; rfl)).elim | exact (h rfl).elim | exact (a (Bool.not_not _).symm).elim | exact (a (congrArg Prod.snd (Yu e))).elim | exact (a (congrArg Prod.snd (Yu k))).elim | exact (b rfl).elim | exact (Bool.false_ne_true (a.symm.trans g)).elim), E⟩
   have gl := a
   have a := bt_e (Qg a)
   refine dT 10 rfl rfl rfl (Zn cq.at_ (fun i hi => absurd hi List.not_mem_nil) agg27 sz27 rfl ?_)
   refine dT 12 rfl rfl rfl (Zn cq.at_ (fun i hi => absurd hi List.not_mem_nil) agg27 sz27 rfl ?_)
   refine dO 11 (Ye rfl rfl rfl ?_)
   have gm := gi.ch0 Z
   have gn := gj.ch0 Z
   have gp := gk.ch0 Z
   refine Step.call (Zl (xs := [.tmp 84]) fk21 rfl) (Xs _ gm.ls gp.ls gn.rd ) fun co lF ao => ?_
   obtain ⟨rfl, aa⟩ := ao
   have pj := aa.size
   have E := E.trans aa
   have cV : Ch [] cS lF := (cU.trans aa)
   refine ⟨cV, ?_⟩
   refine dO 13 (Ye rfl rfl rfl ?_)
   have eh := gm.ch0 aa
   have ei := gn.ch0 aa
   have ej := gp.ch0 aa
   refine Step.call (Zl (xs := [.tmp 86]) fk20 rfl) (Xf _ eh.ls ej.ls ei.rd ) fun cp lG ap => ?_
   obtain ⟨rfl, L⟩ := ap
   have pk := L.size
   have E := E.trans L
   have cW : Ch [] cS lG := (cV.trans L)
   refine ⟨cW, ?_⟩
   refine dV 14 rfl rfl rfl (fun _ => Zba un4 rfl rfl) (dV 15 rfl rfl rfl (fun _ => Zv rfl rfl) (dV 16 rfl rfl rfl (fun _ => Zd rfl) ?_))
   refine Xe (d := 90) rfl (fun h => ?_) (fun h => ?_)
   ·have gq := h
    have h := bf_e (Qf h)
    refine dK 17 rfl rfl rfl (dK 18 rfl rfl rfl (dK 19 rfl rfl rfl (dK 20 rfl rfl rfl (dK 21 rfl rfl rfl (dK 22 rfl rfl rfl (dK 23 rfl rfl rfl (dV 24 rfl rfl rfl (fun _ => Zw rfl rfl) ?_)))))))
    refine Yb (by kernel_rfl) ?_
    refine Zb (dQ _ _ ?_)
    refine Xl rfl ?_
    refine Zg fun ro lH => ?_
    refine Zc (Za rfl rfl (Ze rfl) (Zf (Zb (lH _ _ ?_))))
    refine Zs (Zm ?_)
    exact Zi [_] ⟨rfl, trivial⟩ ⟨congrArg Value.bool (by first | rfl | exact decide_eq_true (by have q := Qb g j; omega) | exact (l rfl).elim | exact (c (by rw [← Zq f, ← Zq e]; rfl)).elim | exact (c (by rw [← Zq f, ← Zo e]; rfl)).elim | exact (c (by rw [← Zo f]; rfl)).elim | exact (h rfl).elim | exact (a (Bool.not_not _).symm).elim | exact (a (congrArg Prod.snd (Yu e))).elim | exact (a (congrArg Prod.snd (Yu k))).elim | exact (b rfl).elim | exact (Bool.false_ne_true (a.symm.trans g)).elim), E⟩
   have gq := h
   have h := bt_e (Qg h)
   refine dV 17 rfl rfl rfl (fun _ => Zd rfl) (dV 18 rfl rfl rfl (fun _ => Zd rfl) ?_)
   refine Xe (d := 92) rfl (fun g => ?_) (fun g => ?_)
   ·have cX := g
    refine dT 19 rfl rfl rfl (Zn cq.at_ (fun i hi => absurd hi List.not_mem_nil) agg27 sz27 rfl ?_)
    refine dV 20 rfl rfl rfl (fun _ => Zd rfl) (dO 21 (Ye rfl rfl rfl ?_))
    have gr := eh.ch0 L
    have gs := ei.ch0 L
    have gt := ej.ch0 L
    have lI := ((((m.ch0 au).ch0 Y).ch0 Z).ch0 aa).ch0 L
    refine Step.call (Zl (xs := [.tmp 93, .tmp 94]) fk22 rfl) (Qm _ gr.ls gt.ls gs.rd lI.ls ) fun aq lJ p => ?_
    replace p : aq = .bool (true) ∧ _ := ⟨p.1.trans (congrArg Value.bool (Zdp (by first | exact g | simpa using g))), p.2⟩
    obtain ⟨rfl, aZ⟩ := p
    have pl := aZ.size
    have E := E.trans aZ
    have ek : Ch [] cS lJ := (cW.trans aZ)
    refine ⟨ek, ?_⟩
    refine dV 22 rfl rfl rfl (fun _ => Xi rfl) (dV 23 rfl rfl rfl (fun _ => Zw rfl rfl) (dV 24 rfl rfl rfl (fun _ => Zv rfl rfl) ?_))
    refine Yb (by kernel_rfl) ?_
    refine Zb (dQ _ _ ?_)
    refine Xn rfl ?_
    refine Zu ?_
    refine Zb (ge _ _ ?_)
    refine Zg fun rp gu => ?_
    refine Yx [] 23 mixed rfl fun gv a9 => ?_
    have pm := a9.size
    have E := E.trans a9
    have gw := ((((((((d2.ch0 I).ch0 aA).ch0 au).ch0 Y).ch0 Z).ch0 aa).ch0 L).ch0 aZ).ch0 a9
    refine dT 0 rfl rfl rfl (Zn gw.at_ (fun i hi => absurd hi List.not_mem_nil) agg27 sz27 rfl ?_)
    have gx := (((((cq.ch0 Y).ch0 Z).ch0 aa).ch0 L).ch0 aZ).ch0 a9
    refine dT 1 rfl rfl rfl (Zn gx.at_ (fun i hi => absurd hi List.not_mem_nil) agg27 sz27 rfl ?_)
    refine dT 3 rfl rfl rfl (Zn gw.at_ (fun i hi => absurd hi List.not_mem_nil) agg27 sz27 rfl ?_)
    refine dT 4 rfl rfl rfl (Zn gx.at_ (fun i hi => absurd hi List.not_mem_nil) agg27 sz27 rfl ?_)
    refine dO 2 (Ye rfl rfl rfl ?_)
    have gy := ((((((((d3.ch0 I).ch0 aA).ch0 au).ch0 Y).ch0 Z).ch0 aa).ch0 L).ch0 aZ).ch0 a9
    have gz := ((((((((d4.ch0 I).ch0 aA).ch0 au).ch0 Y).ch0 Z).ch0 aa).ch0 L).ch0 aZ).ch0 a9
    have gA := ((((((((d5.ch0 I).ch0 aA).ch0 au).ch0 Y).ch0 Z).ch0 aa).ch0 L).ch0 aZ).ch0 a9
    have gB := (gr.ch0 aZ).ch0 a9
    have gC := (gs.ch0 aZ).ch0 a9
    have gD := (gt.ch0 aZ).ch0 a9
    refine Step.call (Zl (xs := [.tmp 99, .tmp 100]) fk23 rfl) (Xb _ gy.ls gA.ls gz.rd _ gB.ls gD.ls gC.rd ) fun A lK n => ?_
    obtain ⟨rfl, bw⟩ := n
    have pn := bw.size
    have E := E.trans bw
    have cY : Ch [] gv lK := ((Ch.refl _ _).trans bw)
    refine ⟨cY, ?_⟩
    refine dO 5 (Ye rfl rfl rfl ?_)
    have lL := gy.ch0 bw
    have lM := gz.ch0 bw
    have lN := gA.ch0 bw
    have lO := gB.ch0 bw
    have lP := gC.ch0 bw
    have lQ := gD.ch0 bw
    refine Step.call (Zl (xs := [.tmp 102, .tmp 103]) fk24 rfl) (Xa _ lL.ls lN.ls lM.rd _ lO.ls lQ.ls lP.rd ) fun B lR o => ?_
    obtain ⟨rfl, el⟩ := o
    have po := el.size
    have E := E.trans el
    have em : Ch [] gv lR := (cY.trans el)
    refine ⟨em, ?_⟩
    refine dV 6 rfl rfl rfl (fun _ => Zbj un4 rfl rfl) (dV 7 rfl rfl rfl (fun _ => Zd rfl) ?_)
    refine Xe (d := 106) rfl (fun b => ?_) (fun b => ?_)
    ·have gE := b
     have b := bt_e b
     refine dV 8 rfl rfl rfl (fun _ => Zd rfl) (dV 9 rfl rfl rfl (fun _ => Xi rfl) (dV 10 rfl rfl rfl (fun _ => Zd rfl) ?_))
     refine Zaj (d := 109) rfl (congrArg Bool.not cX) ?_
     refine dV 11 rfl rfl rfl (fun _ => Zd rfl) (dV 12 rfl rfl rfl (fun _ => Xi rfl) (dV 13 rfl rfl rfl (fun _ => Zv rfl rfl) (dV 14 rfl rfl rfl (fun _ => Zd rfl) ?_)))
     refine Zai (d := 113) rfl (congrArg Bool.not d7) ?_
     refine dK 15 rfl rfl rfl (dK 16 rfl rfl rfl (dK 17 rfl rfl rfl (dK 18 rfl rfl rfl (dK 19 rfl rfl rfl (dV 20 rfl rfl rfl (fun _ => Zw rfl rfl) (dV 21 rfl rfl rfl (fun _ => Zw rfl rfl) (dV 22 rfl rfl rfl (fun _ => Ze rfl) ?_)))))))
     refine Yb (by kernel_rfl) ?_
     refine Zb (gu _ _ ?_)
     refine Zs ?_
     exact Zi [_] ⟨rfl, trivial⟩ ⟨congrArg Value.bool (by first | rfl | exact decide_eq_true (by have q := Qb g j; omega) | exact (l rfl).elim | exact (c (by rw [← Zq f, ← Zq e]; rfl)).elim | exact (c (by rw [← Zq f, ← Zo e]; rfl)).elim | exact (c (by rw [← Zo f]; rfl)).elim | exact (h rfl).elim | exact (a (Bool.not_not _).symm).elim | exact (a (congrArg Prod.snd (Yu e))).elim | exact (a (congrArg Prod.snd (Yu k))).elim | exact (b rfl).elim | exact (Bool.false_ne_true (a.symm.trans g)).elim), E⟩
    have gE := b
    have b := bf_e b
    refine dK 8 rfl rfl rfl (dK 9 rfl rfl rfl (dK 10 rfl rfl rfl (dK 11 rfl rfl rfl (dK 12 rfl rfl rfl (dK 13 rfl rfl rfl (dK 14 rfl rfl rfl (dK 15 rfl rfl rfl ?_)))))))
    refine dK 16 rfl rfl rfl (dK 17 rfl rfl rfl (dK 18 rfl rfl rfl (dK 19 rfl rfl rfl (dK 20 rfl rfl rfl (dV 21 rfl rfl rfl (fun _ => Zv rfl rfl) (dV 22 rfl rfl rfl (fun _ => Ze rfl) ?_))))))
    refine Yb (by kernel_rfl) ?_
    refine Zb (gu _ _ ?_)
    refine Zs ?_
    exact Zi [_] ⟨rfl, trivial⟩ ⟨congrArg Value.bool (by first | rfl | exact decide_eq_true (by have q := Qb g j; omega) | exact (l rfl).elim | exact (c (by rw [← Zq f, ← Zq e]; rfl)).elim | exact (c (by rw [← Zq f, ← Zo e]; rfl)).elim | exact (c (by rw [← Zo f]; rfl)).elim | exact (h rfl).elim | exact (a (Bool.not_not _).symm).elim | exact (a (congrArg Prod.snd (Yu e))).elim | exact (a (congrArg Prod.snd (Yu k))).elim | exact (b rfl).elim | exact (Bool.false_ne_true (a.symm.trans g)).elim), E⟩
   have cX := g
   refine dK 19 rfl rfl rfl (dK 20 rfl rfl rfl (dK 21 rfl rfl rfl (dK 22 rfl rfl rfl (dV 23 rfl rfl rfl (fun _ => Zv rfl rfl) (dV 24 rfl rfl rfl (fun _ => Zv rfl rfl) ?_)))))
   refine Yb (by kernel_rfl) ?_
   refine Zb (dQ _ _ ?_)
   refine Xn rfl ?_
   refine Zu ?_
   refine Zb (ge _ _ ?_)
   refine Zg fun rq gF => ?_
   refine Yx [] 23 mixed rfl fun gG ba => ?_
   have pp := ba.size
   have E := E.trans ba
   have gH := (((((((d2.ch0 I).ch0 aA).ch0 au).ch0 Y).ch0 Z).ch0 aa).ch0 L).ch0 ba
   refine dT 0 rfl rfl rfl (Zn gH.at_ (fun i hi => absurd hi List.not_mem_nil) agg27 sz27 rfl ?_)
   have gI := ((((cq.ch0 Y).ch0 Z).ch0 aa).ch0 L).ch0 ba
   refine dT 1 rfl rfl rfl (Zn gI.at_ (fun i hi => absurd hi List.not_mem_nil) agg27 sz27 rfl ?_)
   refine dT 3 rfl rfl rfl (Zn gH.at_ (fun i hi => absurd hi List.not_mem_nil) agg27 sz27 rfl ?_)
   refine dT 4 rfl rfl rfl (Zn gI.at_ (fun i hi => absurd hi List.not_mem_nil) agg27 sz27 rfl ?_)
   refine dO 2 (Ye rfl rfl rfl ?_)
   have gJ := (((((((d3.ch0 I).ch0 aA).ch0 au).ch0 Y).ch0 Z).ch0 aa).ch0 L).ch0 ba
   have gK := (((((((d4.ch0 I).ch0 aA).ch0 au).ch0 Y).ch0 Z).ch0 aa).ch0 L).ch0 ba
   have gL := (((((((d5.ch0 I).ch0 aA).ch0 au).ch0 Y).ch0 Z).ch0 aa).ch0 L).ch0 ba
   have gM := (eh.ch0 L).ch0 ba
   have gN := (ei.ch0 L).ch0 ba
   have gO := (ej.ch0 L).ch0 ba
   refine Step.call (Zl (xs := [.tmp 99, .tmp 100]) fk23 rfl) (Xb _ gJ.ls gL.ls gK.rd _ gM.ls gO.ls gN.rd ) fun A lT n => ?_
   obtain ⟨rfl, bz⟩ := n
   have pq := bz.size
   have E := E.trans bz
   have cZ : Ch [] gG lT := ((Ch.refl _ _).trans bz)
   refine ⟨cZ, ?_⟩
   refine dO 5 (Ye rfl rfl rfl ?_)
   have lU := gJ.ch0 bz
   have lV := gK.ch0 bz
   have lW := gL.ch0 bz
   have lX := gM.ch0 bz
   have lY := gN.ch0 bz
   have lZ := gO.ch0 bz
   refine Step.call (Zl (xs := [.tmp 102, .tmp 103]) fk24 rfl) (Xa _ lU.ls lW.ls lV.rd _ lX.ls lZ.ls lY.rd ) fun B l0 o => ?_
   obtain ⟨rfl, en⟩ := o
   have pr := en.size
   have E := E.trans en
   have eo : Ch [] gG l0 := (cZ.trans en)
   refine ⟨eo, ?_⟩
   refine dV 6 rfl rfl rfl (fun _ => Zbj un4 rfl rfl) (dV 7 rfl rfl rfl (fun _ => Zd rfl) ?_)
   refine Xe (d := 106) rfl (fun b => ?_) (fun b => ?_)
   ·have gP := b
    have b := bt_e b
    refine dV 8 rfl rfl rfl (fun _ => Zd rfl) (dV 9 rfl rfl rfl (fun _ => Xi rfl) (dV 10 rfl rfl rfl (fun _ => Zd rfl) ?_))
    refine Zai (d := 109) rfl (congrArg Bool.not cX) ?_
    refine dK 11 rfl rfl rfl (dK 12 rfl rfl rfl (dV 13 rfl rfl rfl (fun _ => Zw rfl rfl) (dV 14 rfl rfl rfl (fun _ => Zd rfl) (dK 15 rfl rfl rfl (dK 16 rfl rfl rfl (dK 17 rfl rfl rfl (dK 18 rfl rfl rfl ?_)))))))
    refine dK 19 rfl rfl rfl (dV 20 rfl rfl rfl (fun _ => Zw rfl rfl) (dV 21 rfl rfl rfl (fun _ => Zw rfl rfl) (dV 22 rfl rfl rfl (fun _ => Ze rfl) ?_)))
    refine Yb (by kernel_rfl) ?_
    refine Zb (gF _ _ ?_)
    refine Zs ?_
    exact Zi [_] ⟨rfl, trivial⟩ ⟨congrArg Value.bool (by first | rfl | exact decide_eq_true (by have q := Qb g j; omega) | exact (l rfl).elim | exact (c (by rw [← Zq f, ← Zq e]; rfl)).elim | exact (c (by rw [← Zq f, ← Zo e]; rfl)).elim | exact (c (by rw [← Zo f]; rfl)).elim | exact (h rfl).elim | exact (a (Bool.not_not _).symm).elim | exact (a (congrArg Prod.snd (Yu e))).elim | exact (a (congrArg Prod.snd (Yu k))).elim | exact (b rfl).elim | exact (Bool.false_ne_true (a.symm.trans g)).elim), E⟩
   have gP := b
   have b := bf_e b
   refine dK 8 rfl rfl rfl (dK 9 rfl rfl rfl (dK 10 rfl rfl rfl (dK 11 rfl rfl rfl (dK 12 rfl rfl rfl (dK 13 rfl rfl rfl (dK 14 rfl rfl rfl (dK 15 rfl rfl rfl ?_)))))))
   refine dK 16 rfl rfl rfl (dK 17 rfl rfl rfl (dK 18 rfl rfl rfl (dK 19 rfl rfl rfl (dK 20 rfl rfl rfl (dV 21 rfl rfl rfl (fun _ => Zv rfl rfl) (dV 22 rfl rfl rfl (fun _ => Ze rfl) ?_))))))
   refine Yb (by kernel_rfl) ?_
   refine Zb (gF _ _ ?_)
   refine Zs ?_
   exact Zi [_] ⟨rfl, trivial⟩ ⟨congrArg Value.bool (by first | rfl | exact decide_eq_true (by have q := Qb g j; omega) | exact (l rfl).elim | exact (c (by rw [← Zq f, ← Zq e]; rfl)).elim | exact (c (by rw [← Zq f, ← Zo e]; rfl)).elim | exact (c (by rw [← Zo f]; rfl)).elim | exact (h rfl).elim | exact (a (Bool.not_not _).symm).elim | exact (a (congrArg Prod.snd (Yu e))).elim | exact (a (congrArg Prod.snd (Yu k))).elim | exact (b rfl).elim | exact (Bool.false_ne_true (a.symm.trans g)).elim), E⟩
  have cH := e
  have e := bf_t e
  refine Zj rfl rfl (Zj rfl rfl (Za rfl rfl (Zv rfl rfl) (Za rfl rfl (Zba un4 rfl rfl) (Za rfl rfl (Zd rfl) ?_))))
  refine Ym (d := 55) rfl (fun c => ?_) (fun c => ?_)
  ·have gQ := c
   have c := bf_e (Qf c)
   refine Zj rfl rfl (Zj rfl rfl (Zj rfl rfl (Zj rfl rfl (Zj rfl rfl (Zj rfl rfl (Zj rfl rfl (Zj rfl rfl ?_)))))))
   refine Zj rfl rfl (Zj rfl rfl (Zj rfl rfl (Zj rfl rfl (Za rfl rfl (Zw rfl rfl) (Zf (Zb (fu _ _ ?_)))))))
   refine Xl rfl ?_
   refine Zg fun rr l1 => ?_
   refine Zc (Za rfl rfl (Ze rfl) (Zf (Zb (l1 _ _ ?_))))
   refine Zs (Zm ?_)
   exact Zi [_] ⟨rfl, trivial⟩ ⟨congrArg Value.bool (by first | rfl | exact decide_eq_true (by have q := Qb g j; omega) | exact (l rfl).elim | exact (c (by rw [← Zq f, ← Zq e]; rfl)).elim | exact (c (by rw [← Zq f, ← Zo e]; rfl)).elim | exact (c (by rw [← Zo f]; rfl)).elim | exact (h rfl).elim | exact (a (Bool.not_not _).symm).elim | exact (a (congrArg Prod.snd (Yu e))).elim | exact (a (congrArg Prod.snd (Yu k))).elim | exact (b rfl).elim | exact (Bool.false_ne_true (a.symm.trans g)).elim), E⟩
  have gQ := c
  have c := bt_e (Qg c)
  refine Za rfl rfl (Zd rfl) (Za rfl rfl (Zd rfl) ?_)
  refine Ym (d := 57) rfl (fun j => ?_) (fun j => ?_)
  ·have c0 := j
   have ep := d2.ch0 I
   refine Za rfl rfl (Zt ep.at_ agg27 sz27 rfl) (Za rfl rfl (Zd rfl) (Zk rfl rfl ?_))
   have er := d3.ch0 I
   have es := d4.ch0 I
   have et := d5.ch0 I
   have gR := (((kF.ch0 b3).ch0 a6).ch0 cE).ch0 I
   refine Step.call (Zl (xs := [.tmp 58, .tmp 59]) fk14 rfl) (Zaa _ er.ls et.ls es.rd gR.ls ) fun cI rs ay => ?_
   replace ay : cI = .bool (false) ∧ _ := ⟨ay.1.trans (congrArg Value.bool (Zes (by first | exact j | simpa using j)).2.1), ay.2⟩
   obtain ⟨rfl, av⟩ := ay
   have ps := av.size
   have E := E.trans av
   refine Za rfl rfl (Zd rfl) ?_
   have gS := (fB.ch0 I).ch0 av
   refine Za rfl rfl (Zt gS.at_ agg27 sz27 rfl) (Za rfl rfl (Zd rfl) (Zk rfl rfl ?_))
   have gT := (fC.ch0 I).ch0 av
   have gU := (fD.ch0 I).ch0 av
   have gV := (fE.ch0 I).ch0 av
   have l2 := gR.ch0 av
   refine Step.call (Zl (xs := [.tmp 62, .tmp 63]) fk14 rfl) (Zaa _ gT.ls gV.ls gU.rd l2.ls ) fun cJ rt az => ?_
   replace az : cJ = .bool (true) ∧ _ := ⟨az.1.trans (congrArg Value.bool (Zes (by first | exact j | simpa using j)).2.2), az.2⟩
   obtain ⟨rfl, aB⟩ := az
   have pt := aB.size
   have E := E.trans aB
   refine Za rfl rfl (Xi rfl) (Za rfl rfl (Zv rfl rfl) (Za rfl rfl (Zw rfl rfl) (Za rfl rfl (Zv rfl rfl) (Zf (Zb (fu _ _ ?_))))))
   refine Xn rfl ?_
   refine Zu ?_
   refine Zb (kG _ _ ?_)
   refine Zg fun ru l3 => ?_
   refine Zc ?_
   have gW := gS.ch0 aB
   refine Za rfl rfl (Zt gW.at_ agg27 sz27 rfl) (Zk rfl rfl ?_)
   have gX := gT.ch0 aB
   have gY := gU.ch0 aB
   have gZ := gV.ch0 aB
   refine Step.call (Zl (xs := [.tmp 70]) fk19 rfl) (Qk _ gX.ls gZ.ls gY.rd ) fun cK rv aT => ?_
   obtain ⟨b4, rfl, m, J, aC⟩ := aT
   have pv := aC.size
   have E := E.trans aC
   obtain ⟨aU, aV, rfl, aW, U⟩ := m.opn
   refine Za rfl rfl (Zd rfl) (Za rfl rfl (Xc rfl rfl) (Za rfl rfl (Xc rfl rfl) (Za rfl rfl (Ze rfl) (Za rfl rfl (Ze rfl) (Zf (Zb (l3 _ _ ?_)))))))
   refine Zg fun rx g0 => ?_
   refine Zg fun ry dR => ?_
   refine Yx [] 25 mixed rfl fun dU aw => ?_
   have pw := aw.size
   have E := E.trans aw
   refine dV 0 rfl rfl rfl (fun _ => Zd rfl) ?_
   have cy := (gW.ch0 aC).ch0 aw
   refine dT 1 rfl rfl rfl (Zn cy.at_ (fun i hi => absurd hi List.not_mem_nil) agg27 sz27 rfl ?_)
   refine dO 2 (Ye rfl rfl rfl ?_)
   have g1 := (gX.ch0 aC).ch0 aw
   have g2 := (gY.ch0 aC).ch0 aw
   have g3 := (gZ.ch0 aC).ch0 aw
   refine Step.call (Zl (xs := [.tmp 75]) fk13 rfl) (Yw _ g1.ls g3.ls g2.rd ) fun cL l4 aX => ?_
   obtain ⟨rfl, ab⟩ := aX
   have px := ab.size
   have E := E.trans ab
   have c1 : Ch [] dU l4 := ((Ch.refl _ _).trans ab)
   refine ⟨c1, ?_⟩
   refine dV 3 rfl rfl rfl (fun _ => Zd rfl) ?_
   refine Zaj (d := 77) rfl cH ?_
   refine dK 4 rfl rfl rfl (dK 5 rfl rfl rfl (dK 6 rfl rfl rfl (dV 7 rfl rfl rfl (fun _ => Zv rfl rfl) (dV 8 rfl rfl rfl (fun _ => Zba un4 rfl rfl) (dV 9 rfl rfl rfl (fun _ => Zd rfl) ?_)))))
   refine Xe (d := 83) rfl (fun a => ?_) (fun a => ?_)
   ·have g4 := a
    have a := bf_e (Qf a)
    refine dK 10 rfl rfl rfl (dK 11 rfl rfl rfl (dK 12 rfl rfl rfl (dK 13 rfl rfl rfl (dK 14 rfl rfl rfl (dV 15 rfl rfl rfl (fun _ => Zw rfl rfl) (dV 16 rfl rfl rfl (fun _ => Zd rfl) (dK 17 rfl rfl rfl ?_)))))))
    refine dK 18 rfl rfl rfl (dK 19 rfl rfl rfl (dK 20 rfl rfl rfl (dK 21 rfl rfl rfl (dK 22 rfl rfl rfl (dK 23 rfl rfl rfl (dV 24 rfl rfl rfl (fun _ => Zw rfl rfl) ?_))))))
    refine Yb (by kernel_rfl) ?_
    refine Zb (dR _ _ ?_)
    refine Xl rfl ?_
    refine Zg fun rz l5 => ?_
    refine Zc (Za rfl rfl (Ze rfl) (Zf (Zb (l5 _ _ ?_))))
    refine Zs (Zm ?_)
    exact Zi [_] ⟨rfl, trivial⟩ ⟨congrArg Value.bool (by first | rfl | exact decide_eq_true (by have q := Qb g j; omega) | exact (l rfl).elim | exact (c (by rw [← Zq f, ← Zq e]; rfl)).elim | exact (c (by rw [← Zq f, ← Zo e]; rfl)).elim | exact (c (by rw [← Zo f]; rfl)).elim | exact (h rfl).elim | exact (a (Bool.not_not _).symm).elim | exact (a (congrArg Prod.snd (Yu e))).elim | exact (a (congrArg Prod.snd (Yu k))).elim | exact (b rfl).elim | exact (Bool.false_ne_true (a.symm.trans g)).elim), E⟩
   have g4 := a
   have a := bt_e (Qg a)
   refine dT 10 rfl rfl rfl (Zn cy.at_ (fun i hi => absurd hi List.not_mem_nil) agg27 sz27 rfl ?_)
   refine dT 12 rfl rfl rfl (Zn cy.at_ (fun i hi => absurd hi List.not_mem_nil) agg27 sz27 rfl ?_)
   refine dO 11 (Ye rfl rfl rfl ?_)
   have g5 := g1.ch0 ab
   have g6 := g2.ch0 ab
   have g7 := g3.ch0 ab
   refine Step.call (Zl (xs := [.tmp 84]) fk21 rfl) (Xs _ g5.ls g7.ls g6.rd ) fun co l6 ao => ?_
   obtain ⟨rfl, ac⟩ := ao
   have py := ac.size
   have E := E.trans ac
   have c2 : Ch [] dU l6 := (c1.trans ac)
   refine ⟨c2, ?_⟩
   refine dO 13 (Ye rfl rfl rfl ?_)
   have eu := g5.ch0 ac
   have ew := g6.ch0 ac
   have ex := g7.ch0 ac
   refine Step.call (Zl (xs := [.tmp 86]) fk20 rfl) (Xf _ eu.ls ex.ls ew.rd ) fun cp l7 ap => ?_
   obtain ⟨rfl, M⟩ := ap
   have pz := M.size
   have E := E.trans M
   have c3 : Ch [] dU l7 := (c2.trans M)
   refine ⟨c3, ?_⟩
   refine dV 14 rfl rfl rfl (fun _ => Zba un4 rfl rfl) (dV 15 rfl rfl rfl (fun _ => Zv rfl rfl) (dV 16 rfl rfl rfl (fun _ => Zd rfl) ?_))
   refine Xe (d := 90) rfl (fun h => ?_) (fun h => ?_)
   ·have g8 := h
    have h := bf_e (Qf h)
    refine dK 17 rfl rfl rfl (dK 18 rfl rfl rfl (dK 19 rfl rfl rfl (dK 20 rfl rfl rfl (dK 21 rfl rfl rfl (dK 22 rfl rfl rfl (dK 23 rfl rfl rfl (dV 24 rfl rfl rfl (fun _ => Zw rfl rfl) ?_)))))))
    refine Yb (by kernel_rfl) ?_
    refine Zb (dR _ _ ?_)
    refine Xl rfl ?_
    refine Zg fun rA l8 => ?_
    refine Zc (Za rfl rfl (Ze rfl) (Zf (Zb (l8 _ _ ?_))))
    refine Zs (Zm ?_)
    exact Zi [_] ⟨rfl, trivial⟩ ⟨congrArg Value.bool (by first | rfl | exact decide_eq_true (by have q := Qb g j; omega) | exact (l rfl).elim | exact (c (by rw [← Zq f, ← Zq e]; rfl)).elim | exact (c (by rw [← Zq f, ← Zo e]; rfl)).elim | exact (c (by rw [← Zo f]; rfl)).elim | exact (h rfl).elim | exact (a (Bool.not_not _).symm).elim | exact (a (congrArg Prod.snd (Yu e))).elim | exact (a (congrArg Prod.snd (Yu k))).elim | exact (b rfl).elim | exact (Bool.false_ne_true (a.symm.trans g)).elim), E⟩
   have g8 := h
   have h := bt_e (Qg h)
   refine dV 17 rfl rfl rfl (fun _ => Zd rfl) (dV 18 rfl rfl rfl (fun _ => Zd rfl) ?_)
   refine Xe (d := 92) rfl (fun g => ?_) (fun g => ?_)
   ·have c4 := g
    refine dT 19 rfl rfl rfl (Zn cy.at_ (fun i hi => absurd hi List.not_mem_nil) agg27 sz27 rfl ?_)
    refine dV 20 rfl rfl rfl (fun _ => Zd rfl) (dO 21 (Ye rfl rfl rfl ?_))
    have g9 := eu.ch0 M
    have ha := ew.ch0 M
    have hb := ex.ch0 M
    have l9 := (((m.ch0 aw).ch0 ab).ch0 ac).ch0 M
    refine Step.call (Zl (xs := [.tmp 93, .tmp 94]) fk22 rfl) (Qm _ g9.ls hb.ls ha.rd l9.ls ) fun aq ma p => ?_
    replace p : aq = .bool (true) ∧ _ := ⟨p.1.trans (congrArg Value.bool (Zdp (by first | exact g | simpa using g))), p.2⟩
    obtain ⟨rfl, a0⟩ := p
    have pA := a0.size
    have E := E.trans a0
    have ey : Ch [] dU ma := (c3.trans a0)
    refine ⟨ey, ?_⟩
    refine dV 22 rfl rfl rfl (fun _ => Xi rfl) (dV 23 rfl rfl rfl (fun _ => Zw rfl rfl) (dV 24 rfl rfl rfl (fun _ => Zv rfl rfl) ?_))
    refine Yb (by kernel_rfl) ?_
    refine Zb (dR _ _ ?_)
    refine Xn rfl ?_
    refine Zu ?_
    refine Zb (g0 _ _ ?_)
    refine Zg fun rB hc => ?_
    refine Yx [] 23 mixed rfl fun hd bb => ?_
    have pB := bb.size
    have E := E.trans bb
    have he := ((((((((ep.ch0 av).ch0 aB).ch0 aC).ch0 aw).ch0 ab).ch0 ac).ch0 M).ch0 a0).ch0 bb
    refine dT 0 rfl rfl rfl (Zn he.at_ (fun i hi => absurd hi List.not_mem_nil) agg27 sz27 rfl ?_)
    have hf := ((((cy.ch0 ab).ch0 ac).ch0 M).ch0 a0).ch0 bb
    refine dT 1 rfl rfl rfl (Zn hf.at_ (fun i hi => absurd hi List.not_mem_nil) agg27 sz27 rfl ?_)
    refine dT 3 rfl rfl rfl (Zn he.at_ (fun i hi => absurd hi List.not_mem_nil) agg27 sz27 rfl ?_)
    refine dT 4 rfl rfl rfl (Zn hf.at_ (fun i hi => absurd hi List.not_mem_nil) agg27 sz27 rfl ?_)
    refine dO 2 (Ye rfl rfl rfl ?_)
    have hg := ((((((((er.ch0 av).ch0 aB).ch0 aC).ch0 aw).ch0 ab).ch0 ac).ch0 M).ch0 a0).ch0 bb
    have hh := ((((((((es.ch0 av).ch0 aB).ch0 aC).ch0 aw).ch0 ab).ch0 ac).ch0 M).ch0 a0).ch0 bb
    have hj := ((((((((et.ch0 av).ch0 aB).ch0 aC).ch0 aw).ch0 ab).ch0 ac).ch0 M).ch0 a0).ch0 bb
    have hk := (g9.ch0 a0).ch0 bb
    have hl := (ha.ch0 a0).ch0 bb
    have hm := (hb.ch0 a0).ch0 bb
    refine Step.call (Zl (xs := [.tmp 99, .tmp 100]) fk23 rfl) (Xb _ hg.ls hj.ls hh.rd _ hk.ls hm.ls hl.rd ) fun A mb n => ?_
    obtain ⟨rfl, bA⟩ := n
    have pC := bA.size
    have E := E.trans bA
    have c5 : Ch [] hd mb := ((Ch.refl _ _).trans bA)
    refine ⟨c5, ?_⟩
    refine dO 5 (Ye rfl rfl rfl ?_)
    have mc := hg.ch0 bA
    have md := hh.ch0 bA
    have me := hj.ch0 bA
    have mf := hk.ch0 bA
    have mg := hl.ch0 bA
    have mh := hm.ch0 bA
    refine Step.call (Zl (xs := [.tmp 102, .tmp 103]) fk24 rfl) (Xa _ mc.ls me.ls md.rd _ mf.ls mh.ls mg.rd ) fun B mi o => ?_
    obtain ⟨rfl, ez⟩ := o
    have pD := ez.size
    have E := E.trans ez
    have eA : Ch [] hd mi := (c5.trans ez)
    refine ⟨eA, ?_⟩
    refine dV 6 rfl rfl rfl (fun _ => Zbj un4 rfl rfl) (dV 7 rfl rfl rfl (fun _ => Zd rfl) ?_)
    refine Xe (d := 106) rfl (fun b => ?_) (fun b => ?_)
    ·have hn := b
     have b := bt_e b
     refine dV 8 rfl rfl rfl (fun _ => Zd rfl) (dV 9 rfl rfl rfl (fun _ => Xi rfl) (dV 10 rfl rfl rfl (fun _ => Zd rfl) ?_))
     refine Zaj (d := 109) rfl (congrArg Bool.not c4) ?_
     refine dV 11 rfl rfl rfl (fun _ => Zd rfl) (dV 12 rfl rfl rfl (fun _ => Xi rfl) (dV 13 rfl rfl rfl (fun _ => Zv rfl rfl) (dV 14 rfl rfl rfl (fun _ => Zd rfl) ?_)))
     refine Zaj (d := 113) rfl (congrArg Bool.not c0) ?_
     refine dV 15 rfl rfl rfl (fun _ => Zd rfl) (dV 16 rfl rfl rfl (fun _ => Xm (by rw [el30]; rfl) rfl) (dV 17 rfl rfl rfl (fun _ => Zd rfl) (dV 18 rfl rfl rfl (fun _ => Xm (by rw [el30]; rfl) rfl) (dV 19 rfl rfl rfl (fun _ => Zfo rfl rfl) (dV 20 rfl rfl rfl (fun _ => Zv rfl rfl) (dV 21 rfl rfl rfl (fun _ => Zw rfl rfl) (dV 22 rfl rfl rfl (fun _ => Ze rfl) ?_)))))))
     refine Yb (by kernel_rfl) ?_
     refine Zb (hc _ _ ?_)
     refine Zs ?_
     exact Zi [_] ⟨rfl, trivial⟩ ⟨congrArg Value.bool (by first | rfl | exact decide_eq_true (by have q := Qb g j; omega) | exact (l rfl).elim | exact (c (by rw [← Zq f, ← Zq e]; rfl)).elim | exact (c (by rw [← Zq f, ← Zo e]; rfl)).elim | exact (c (by rw [← Zo f]; rfl)).elim | exact (h rfl).elim | exact (a (Bool.not_not _).symm).elim | exact (a (congrArg Prod.snd (Yu e))).elim | exact (a (congrArg Prod.snd (Yu k))).elim | exact (b rfl).elim | exact (Bool.false_ne_true (a.symm.trans g)).elim), E⟩
    have hn := b
    have b := bf_e b
    refine dK 8 rfl rfl rfl (dK 9 rfl rfl rfl (dK 10 rfl rfl rfl (dK 11 rfl rfl rfl (dK 12 rfl rfl rfl (dK 13 rfl rfl rfl (dK 14 rfl rfl rfl (dK 15 rfl rfl rfl ?_)))))))
    refine dK 16 rfl rfl rfl (dK 17 rfl rfl rfl (dK 18 rfl rfl rfl (dK 19 rfl rfl rfl (dK 20 rfl rfl rfl (dV 21 rfl rfl rfl (fun _ => Zv rfl rfl) (dV 22 rfl rfl rfl (fun _ => Ze rfl) ?_))))))
    refine Yb (by kernel_rfl) ?_
    refine Zb (hc _ _ ?_)
    refine Zs ?_
    exact Zi [_] ⟨rfl, trivial⟩ ⟨congrArg Value.bool (by first | rfl | exact decide_eq_true (by have q := Qb g j; omega) | exact (l rfl).elim | exact (c (by rw [← Zq f, ← Zq e]; rfl)).elim | exact (c (by rw [← Zq f, ← Zo e]; rfl)).elim | exact (c (by rw [← Zo f]; rfl)).elim | exact (h rfl).elim | exact (a (Bool.not_not _).symm).elim | exact (a (congrArg Prod.snd (Yu e))).elim | exact (a (congrArg Prod.snd (Yu k))).elim | exact (b rfl).elim | exact (Bool.false_ne_true (a.symm.trans g)).elim), E⟩
   have c4 := g
   refine dK 19 rfl rfl rfl (dK 20 rfl rfl rfl (dK 21 rfl rfl rfl (dK 22 rfl rfl rfl (dV 23 rfl rfl rfl (fun _ => Zv rfl rfl) (dV 24 rfl rfl rfl (fun _ => Zv rfl rfl) ?_)))))
   refine Yb (by kernel_rfl) ?_
   refine Zb (dR _ _ ?_)
   refine Xn rfl ?_
   refine Zu ?_
   refine Zb (g0 _ _ ?_)
   refine Zg fun rC ho => ?_
   refine Yx [] 23 mixed rfl fun hp bc => ?_
   have pE := bc.size
   have E := E.trans bc
   have hq := (((((((ep.ch0 av).ch0 aB).ch0 aC).ch0 aw).ch0 ab).ch0 ac).ch0 M).ch0 bc
   refine dT 0 rfl rfl rfl (Zn hq.at_ (fun i hi => absurd hi List.not_mem_nil) agg27 sz27 rfl ?_)
   have hr := (((cy.ch0 ab).ch0 ac).ch0 M).ch0 bc
   refine dT 1 rfl rfl rfl (Zn hr.at_ (fun i hi => absurd hi List.not_mem_nil) agg27 sz27 rfl ?_)
   refine dT 3 rfl rfl rfl (Zn hq.at_ (fun i hi => absurd hi List.not_mem_nil) agg27 sz27 rfl ?_)
   refine dT 4 rfl rfl rfl (Zn hr.at_ (fun i hi => absurd hi List.not_mem_nil) agg27 sz27 rfl ?_)
   refine dO 2 (Ye rfl rfl rfl ?_)
   have hs := (((((((er.ch0 av).ch0 aB).ch0 aC).ch0 aw).ch0 ab).ch0 ac).ch0 M).ch0 bc
   have ht := (((((((es.ch0 av).ch0 aB).ch0 aC).ch0 aw).ch0 ab).ch0 ac).ch0 M).ch0 bc
   have hu := (((((((et.ch0 av).ch0 aB).ch0 aC).ch0 aw).ch0 ab).ch0 ac).ch0 M).ch0 bc
   have hv := (eu.ch0 M).ch0 bc
   have hw := (ew.ch0 M).ch0 bc
   have hx := (ex.ch0 M).ch0 bc
   refine Step.call (Zl (xs := [.tmp 99, .tmp 100]) fk23 rfl) (Xb _ hs.ls hu.ls ht.rd _ hv.ls hx.ls hw.rd ) fun A mj n => ?_
   obtain ⟨rfl, bB⟩ := n
   have pF := bB.size
   have E := E.trans bB
   have c6 : Ch [] hp mj := ((Ch.refl _ _).trans bB)
   refine ⟨c6, ?_⟩
   refine dO 5 (Ye rfl rfl rfl ?_)
   have ml := hs.ch0 bB
   have mm := ht.ch0 bB
   have mn := hu.ch0 bB
   have mo := hv.ch0 bB
   have mp := hw.ch0 bB
   have mq := hx.ch0 bB
   refine Step.call (Zl (xs := [.tmp 102, .tmp 103]) fk24 rfl) (Xa _ ml.ls mn.ls mm.rd _ mo.ls mq.ls mp.rd ) fun B mr o => ?_
   obtain ⟨rfl, eB⟩ := o
   have pG := eB.size
   have E := E.trans eB
   have eC : Ch [] hp mr := (c6.trans eB)
   refine ⟨eC, ?_⟩
   refine dV 6 rfl rfl rfl (fun _ => Zbj un4 rfl rfl) (dV 7 rfl rfl rfl (fun _ => Zd rfl) ?_)
   refine Xe (d := 106) rfl (fun b => ?_) (fun b => ?_)
   ·have hy := b
    have b := bt_e b
    refine dV 8 rfl rfl rfl (fun _ => Zd rfl) (dV 9 rfl rfl rfl (fun _ => Xi rfl) (dV 10 rfl rfl rfl (fun _ => Zd rfl) ?_))
    refine Zai (d := 109) rfl (congrArg Bool.not c4) ?_
    refine dK 11 rfl rfl rfl (dK 12 rfl rfl rfl (dV 13 rfl rfl rfl (fun _ => Zw rfl rfl) (dV 14 rfl rfl rfl (fun _ => Zd rfl) (dK 15 rfl rfl rfl (dK 16 rfl rfl rfl (dK 17 rfl rfl rfl (dK 18 rfl rfl rfl ?_)))))))
    refine dK 19 rfl rfl rfl (dV 20 rfl rfl rfl (fun _ => Zw rfl rfl) (dV 21 rfl rfl rfl (fun _ => Zw rfl rfl) (dV 22 rfl rfl rfl (fun _ => Ze rfl) ?_)))
    refine Yb (by kernel_rfl) ?_
    refine Zb (ho _ _ ?_)
    refine Zs ?_
    exact Zi [_] ⟨rfl, trivial⟩ ⟨congrArg Value.bool (by first | rfl | exact decide_eq_true (by have q := Qb g j; omega) | exact (l rfl).elim | exact (c (by rw [← Zq f, ← Zq e]; rfl)).elim | exact (c (by rw [← Zq f, ← Zo e]; rfl)).elim | exact (c (by rw [← Zo f]; rfl)).elim | exact (h rfl).elim | exact (a (Bool.not_not _).symm).elim | exact (a (congrArg Prod.snd (Yu e))).elim | exact (a (congrArg Prod.snd (Yu k))).elim | exact (b rfl).elim | exact (Bool.false_ne_true (a.symm.trans g)).elim), E⟩
   have hy := b
   have b := bf_e b
   refine dK 8 rfl rfl rfl (dK 9 rfl rfl rfl (dK 10 rfl rfl rfl (dK 11 rfl rfl rfl (dK 12 rfl rfl rfl (dK 13 rfl rfl rfl (dK 14 rfl rfl rfl (dK 15 rfl rfl rfl ?_)))))))
   refine dK 16 rfl rfl rfl (dK 17 rfl rfl rfl (dK 18 rfl rfl rfl (dK 19 rfl rfl rfl (dK 20 rfl rfl rfl (dV 21 rfl rfl rfl (fun _ => Zv rfl rfl) (dV 22 rfl rfl rfl (fun _ => Ze rfl) ?_))))))
   refine Yb (by kernel_rfl) ?_
   refine Zb (ho _ _ ?_)
   refine Zs ?_
   exact Zi [_] ⟨rfl, trivial⟩ ⟨congrArg Value.bool (by first | rfl | exact decide_eq_true (by have q := Qb g j; omega) | exact (l rfl).elim | exact (c (by rw [← Zq f, ← Zq e]; rfl)).elim | exact (c (by rw [← Zq f, ← Zo e]; rfl)).elim | exact (c (by rw [← Zo f]; rfl)).elim | exact (h rfl).elim | exact (a (Bool.not_not _).symm).elim | exact (a (congrArg Prod.snd (Yu e))).elim | exact (a (congrArg Prod.snd (Yu k))).elim | exact (b rfl).elim | exact (Bool.false_ne_true (a.symm.trans g)).elim), E⟩
  have c0 := j
  refine Zj rfl rfl (Zj rfl rfl (Zj rfl rfl (Zj rfl rfl (Zj rfl rfl (Zj rfl rfl (Zj rfl rfl (Zj rfl rfl ?_)))))))
  refine Zj rfl rfl (Za rfl rfl (Zv rfl rfl) (Za rfl rfl (Zv rfl rfl) (Zf (Zb (fu _ _ ?_)))))
  refine Xn rfl ?_
  refine Zu ?_
  refine Zb (kG _ _ ?_)
  refine Zg fun rD ms => ?_
  refine Zc ?_
  have hz := fB.ch0 I
  refine Za rfl rfl (Zt hz.at_ agg27 sz27 rfl) (Zk rfl rfl ?_)
  have hA := fC.ch0 I
  have hB := fD.ch0 I
  have hC := fE.ch0 I
  refine Step.call (Zl (xs := [.tmp 70]) fk19 rfl) (Qk _ hA.ls hC.ls hB.rd ) fun cK rE aT => ?_
  obtain ⟨b4, rfl, m, J, aD⟩ := aT
  have pH := aD.size
  have E := E.trans aD
  obtain ⟨aU, aV, rfl, aW, U⟩ := m.opn
  refine Za rfl rfl (Zd rfl) (Za rfl rfl (Xc rfl rfl) (Za rfl rfl (Xc rfl rfl) (Za rfl rfl (Ze rfl) (Za rfl rfl (Ze rfl) (Zf (Zb (ms _ _ ?_)))))))
  refine Zg fun rF hD => ?_
  refine Zg fun rG dW => ?_
  refine Yx [] 25 mixed rfl fun dX ax => ?_
  have pI := ax.size
  have E := E.trans ax
  refine dV 0 rfl rfl rfl (fun _ => Zd rfl) ?_
  have cz := (hz.ch0 aD).ch0 ax
  refine dT 1 rfl rfl rfl (Zn cz.at_ (fun i hi => absurd hi List.not_mem_nil) agg27 sz27 rfl ?_)
  refine dO 2 (Ye rfl rfl rfl ?_)
  have hE := (hA.ch0 aD).ch0 ax
  have hF := (hB.ch0 aD).ch0 ax
  have hG := (hC.ch0 aD).ch0 ax
  refine Step.call (Zl (xs := [.tmp 75]) fk13 rfl) (Yw _ hE.ls hG.ls hF.rd ) fun cL mt aX => ?_
  obtain ⟨rfl, ad⟩ := aX
  have pJ := ad.size
  have E := E.trans ad
  have c7 : Ch [] dX mt := ((Ch.refl _ _).trans ad)
  refine ⟨c7, ?_⟩
  refine dV 3 rfl rfl rfl (fun _ => Zd rfl) ?_
  refine Zaj (d := 77) rfl cH ?_
  refine dK 4 rfl rfl rfl (dK 5 rfl rfl rfl (dK 6 rfl rfl rfl (dV 7 rfl rfl rfl (fun _ => Zv rfl rfl) (dV 8 rfl rfl rfl (fun _ => Zba un4 rfl rfl) (dV 9 rfl rfl rfl (fun _ => Zd rfl) ?_)))))
  refine Xe (d := 83) rfl (fun a => ?_) (fun a => ?_)
  ·have hH := a
   have a := bf_e (Qf a)
   refine dK 10 rfl rfl rfl (dK 11 rfl rfl rfl (dK 12 rfl rfl rfl (dK 13 rfl rfl rfl (dK 14 rfl rfl rfl (dV 15 rfl rfl rfl (fun _ => Zw rfl rfl) (dV 16 rfl rfl rfl (fun _ => Zd rfl) (dK 17 rfl rfl rfl ?_)))))))
   refine dK 18 rfl rfl rfl (dK 19 rfl rfl rfl (dK 20 rfl rfl rfl (dK 21 rfl rfl rfl (dK 22 rfl rfl rfl (dK 23 rfl rfl rfl (dV 24 rfl rfl rfl (fun _ => Zw rfl rfl) ?_))))))
   refine Yb (by kernel_rfl) ?_
   refine Zb (dW _ _ ?_)
   refine Xl rfl ?_
   refine Zg fun rH mu => ?_
   refine Zc (Za rfl rfl (Ze rfl) (Zf (Zb (mu _ _ ?_))))
   refine Zs (Zm ?_)
   exact Zi [_] ⟨rfl, trivial⟩ ⟨congrArg Value.bool (by first | rfl | exact decide_eq_true (by have q := Qb g j; omega) | exact (l rfl).elim | exact (c (by rw [← Zq f, ← Zq e]; rfl)).elim | exact (c (by rw [← Zq f, ← Zo e]; rfl)).elim | exact (c (by rw [← Zo f]; rfl)).elim | exact (h rfl).elim | exact (a (Bool.not_not _).symm).elim | exact (a (congrArg Prod.snd (Yu e))).elim | exact (a (congrArg Prod.snd (Yu k))).elim | exact (b rfl).elim | exact (Bool.false_ne_true (a.symm.trans g)).elim), E⟩
  have hH := a
  have a := bt_e (Qg a)
  refine dT 10 rfl rfl rfl (Zn cz.at_ (fun i hi => absurd hi List.not_mem_nil) agg27 sz27 rfl ?_)
  refine dT 12 rfl rfl rfl (Zn cz.at_ (fun i hi => absurd hi List.not_mem_nil) agg27 sz27 rfl ?_)
  refine dO 11 (Ye rfl rfl rfl ?_)
  have hI := hE.ch0 ad
  have hJ := hF.ch0 ad
  have hK := hG.ch0 ad
  refine Step.call (Zl (xs := [.tmp 84]) fk21 rfl) (Xs _ hI.ls hK.ls hJ.rd ) fun co mv ao => ?_
  obtain ⟨rfl, ae⟩ := ao
  have pK := ae.size
  have E := E.trans ae
  have c8 : Ch [] dX mv := (c7.trans ae)
  refine ⟨c8, ?_⟩
  refine dO 13 (Ye rfl rfl rfl ?_)
  have eD := hI.ch0 ae
  have eE := hJ.ch0 ae
  have eF := hK.ch0 ae
  refine Step.call (Zl (xs := [.tmp 86]) fk20 rfl) (Xf _ eD.ls eF.ls eE.rd ) fun cp mw ap => ?_
  obtain ⟨rfl, O⟩ := ap
  have pL := O.size
  have E := E.trans O
  have c9 : Ch [] dX mw := (c8.trans O)
  refine ⟨c9, ?_⟩
  refine dV 14 rfl rfl rfl (fun _ => Zba un4 rfl rfl) (dV 15 rfl rfl rfl (fun _ => Zv rfl rfl) (dV 16 rfl rfl rfl (fun _ => Zd rfl) ?_))
  refine Xe (d := 90) rfl (fun h => ?_) (fun h => ?_)
  ·have hL := h
   have h := bf_e (Qf h)
   refine dK 17 rfl rfl rfl (dK 18 rfl rfl rfl (dK 19 rfl rfl rfl (dK 20 rfl rfl rfl (dK 21 rfl rfl rfl (dK 22 rfl rfl rfl (dK 23 rfl rfl rfl (dV 24 rfl rfl rfl (fun _ => Zw rfl rfl) ?_)))))))
   refine Yb (by kernel_rfl) ?_
   refine Zb (dW _ _ ?_)
   refine Xl rfl ?_
   refine Zg fun rI mx => ?_
   refine Zc (Za rfl rfl (Ze rfl) (Zf (Zb (mx _ _ ?_))))
   refine Zs (Zm ?_)
   exact Zi [_] ⟨rfl, trivial⟩ ⟨congrArg Value.bool (by first | rfl | exact decide_eq_true (by have q := Qb g j; omega) | exact (l rfl).elim | exact (c (by rw [← Zq f, ← Zq e]; rfl)).elim | exact (c (by rw [← Zq f, ← Zo e]; rfl)).elim | exact (c (by rw [← Zo f]; rfl)).elim | exact (h rfl).elim | exact (a (Bool.not_not _).symm).elim | exact (a (congrArg Prod.snd (Yu e))).elim | exact (a (congrArg Prod.snd (Yu k))).elim | exact (b rfl).elim | exact (Bool.false_ne_true (a.symm.trans g)).elim), E⟩
  have hL := h
  have h := bt_e (Qg h)
  refine dV 17 rfl rfl rfl (fun _ => Zd rfl) (dV 18 rfl rfl rfl (fun _ => Zd rfl) ?_)
  refine Xe (d := 92) rfl (fun g => ?_) (fun g => ?_)
  ·have da := g
   refine dT 19 rfl rfl rfl (Zn cz.at_ (fun i hi => absurd hi List.not_mem_nil) agg27 sz27 rfl ?_)
   refine dV 20 rfl rfl rfl (fun _ => Zd rfl) (dO 21 (Ye rfl rfl rfl ?_))
   have hM := eD.ch0 O
   have hN := eE.ch0 O
   have hO := eF.ch0 O
   have my := (((m.ch0 ax).ch0 ad).ch0 ae).ch0 O
   refine Step.call (Zl (xs := [.tmp 93, .tmp 94]) fk22 rfl) (Qm _ hM.ls hO.ls hN.rd my.ls ) fun aq mz p => ?_
   replace p : aq = .bool (true) ∧ _ := ⟨p.1.trans (congrArg Value.bool (Zdp (by first | exact g | simpa using g))), p.2⟩
   obtain ⟨rfl, a1⟩ := p
   have pM := a1.size
   have E := E.trans a1
   have eG : Ch [] dX mz := (c9.trans a1)
   refine ⟨eG, ?_⟩
   refine dV 22 rfl rfl rfl (fun _ => Xi rfl) (dV 23 rfl rfl rfl (fun _ => Zw rfl rfl) (dV 24 rfl rfl rfl (fun _ => Zv rfl rfl) ?_))
   refine Yb (by kernel_rfl) ?_
   refine Zb (dW _ _ ?_)
   refine Xn rfl ?_
   refine Zu ?_
   refine Zb (hD _ _ ?_)
   refine Zg fun rJ hP => ?_
   refine Yx [] 23 mixed rfl fun hQ be => ?_
   have pN := be.size
   have E := E.trans be
   have hR := (((((((d2.ch0 I).ch0 aD).ch0 ax).ch0 ad).ch0 ae).ch0 O).ch0 a1).ch0 be
   refine dT 0 rfl rfl rfl (Zn hR.at_ (fun i hi => absurd hi List.not_mem_nil) agg27 sz27 rfl ?_)
   have hS := ((((cz.ch0 ad).ch0 ae).ch0 O).ch0 a1).ch0 be
   refine dT 1 rfl rfl rfl (Zn hS.at_ (fun i hi => absurd hi List.not_mem_nil) agg27 sz27 rfl ?_)
   refine dT 3 rfl rfl rfl (Zn hR.at_ (fun i hi => absurd hi List.not_mem_nil) agg27 sz27 rfl ?_)
   refine dT 4 rfl rfl rfl (Zn hS.at_ (fun i hi => absurd hi List.not_mem_nil) agg27 sz27 rfl ?_)
   refine dO 2 (Ye rfl rfl rfl ?_)
   have hT := (((((((d3.ch0 I).ch0 aD).ch0 ax).ch0 ad).ch0 ae).ch0 O).ch0 a1).ch0 be
   have hU := (((((((d4.ch0 I).ch0 aD).ch0 ax).ch0 ad).ch0 ae).ch0 O).ch0 a1).ch0 be
   have hV := (((((((d5.ch0 I).ch0 aD).ch0 ax).ch0 ad).ch0 ae).ch0 O).ch0 a1).ch0 be
   have hW := (hM.ch0 a1).ch0 be
   have hX := (hN.ch0 a1).ch0 be
   have hY := (hO.ch0 a1).ch0 be
   refine Step.call (Zl (xs := [.tmp 99, .tmp 100]) fk23 rfl) (Xb _ hT.ls hV.ls hU.rd _ hW.ls hY.ls hX.rd ) fun A mA n => ?_
   obtain ⟨rfl, bC⟩ := n
   have pO := bC.size
   have E := E.trans bC
   have db : Ch [] hQ mA := ((Ch.refl _ _).trans bC)
   refine ⟨db, ?_⟩
   refine dO 5 (Ye rfl rfl rfl ?_)
   have mB := hT.ch0 bC
   have mC := hU.ch0 bC
   have mD := hV.ch0 bC
   have mE := hW.ch0 bC
   have mF := hX.ch0 bC
   have mG := hY.ch0 bC
   refine Step.call (Zl (xs := [.tmp 102, .tmp 103]) fk24 rfl) (Xa _ mB.ls mD.ls mC.rd _ mE.ls mG.ls mF.rd ) fun B mH o => ?_
   obtain ⟨rfl, eH⟩ := o
   have pP := eH.size
   have E := E.trans eH
   have eI : Ch [] hQ mH := (db.trans eH)
   refine ⟨eI, ?_⟩
   refine dV 6 rfl rfl rfl (fun _ => Zbj un4 rfl rfl) (dV 7 rfl rfl rfl (fun _ => Zd rfl) ?_)
   refine Xe (d := 106) rfl (fun b => ?_) (fun b => ?_)
   ·have hZ := b
    have b := bt_e b
    refine dV 8 rfl rfl rfl (fun _ => Zd rfl) (dV 9 rfl rfl rfl (fun _ => Xi rfl) (dV 10 rfl rfl rfl (fun _ => Zd rfl) ?_))
    refine Zaj (d := 109) rfl (congrArg Bool.not da) ?_
    refine dV 11 rfl rfl rfl (fun _ => Zd rfl) (dV 12 rfl rfl rfl (fun _ => Xi rfl) (dV 13 rfl rfl rfl (fun _ => Zv rfl rfl) (dV 14 rfl rfl rfl (fun _ => Zd rfl) ?_)))
    refine Zai (d := 113) rfl (congrArg Bool.not c0) ?_
    refine dK 15 rfl rfl rfl (dK 16 rfl rfl rfl (dK 17 rfl rfl rfl (dK 18 rfl rfl rfl (dK 19 rfl rfl rfl (dV 20 rfl rfl rfl (fun _ => Zw rfl rfl) (dV 21 rfl rfl rfl (fun _ => Zw rfl rfl) (dV 22 rfl rfl rfl (fun _ => Ze rfl) ?_)))))))
    refine Yb (by kernel_rfl) ?_
    refine Zb (hP _ _ ?_)
    refine Zs ?_
    exact Zi [_] ⟨rfl, trivial⟩ ⟨congrArg Value.bool (by first | rfl | exact decide_eq_true (by have q := Qb g j; omega) | exact (l rfl).elim | exact (c (by rw [← Zq f, ← Zq e]; rfl)).elim | exact (c (by rw [← Zq f, ← Zo e]; rfl)).elim | exact (c (by rw [← Zo f]; rfl)).elim | exact (h rfl).elim | exact (a (Bool.not_not _).symm).elim | exact (a (congrArg Prod.snd (Yu e))).elim | exact (a (congrArg Prod.snd (Yu k))).elim | exact (b rfl).elim | exact (Bool.false_ne_true (a.symm.trans g)).elim), E⟩
   have hZ := b
   have b := bf_e b
   refine dK 8 rfl rfl rfl (dK 9 rfl rfl rfl (dK 10 rfl rfl rfl (dK 11 rfl rfl rfl (dK 12 rfl rfl rfl (dK 13 rfl rfl rfl (dK 14 rfl rfl rfl (dK 15 rfl rfl rfl ?_)))))))
   refine dK 16 rfl rfl rfl (dK 17 rfl rfl rfl (dK 18 rfl rfl rfl (dK 19 rfl rfl rfl (dK 20 rfl rfl rfl (dV 21 rfl rfl rfl (fun _ => Zv rfl rfl) (dV 22 rfl rfl rfl (fun _ => Ze rfl) ?_))))))
   refine Yb (by kernel_rfl) ?_
   refine Zb (hP _ _ ?_)
   refine Zs ?_
   exact Zi [_] ⟨rfl, trivial⟩ ⟨congrArg Value.bool (by first | rfl | exact decide_eq_true (by have q := Qb g j; omega) | exact (l rfl).elim | exact (c (by rw [← Zq f, ← Zq e]; rfl)).elim | exact (c (by rw [← Zq f, ← Zo e]; rfl)).elim | exact (c (by rw [← Zo f]; rfl)).elim | exact (h rfl).elim | exact (a (Bool.not_not _).symm).elim | exact (a (congrArg Prod.snd (Yu e))).elim | exact (a (congrArg Prod.snd (Yu k))).elim | exact (b rfl).elim | exact (Bool.false_ne_true (a.symm.trans g)).elim), E⟩
  have da := g
  refine dK 19 rfl rfl rfl (dK 20 rfl rfl rfl (dK 21 rfl rfl rfl (dK 22 rfl rfl rfl (dV 23 rfl rfl rfl (fun _ => Zv rfl rfl) (dV 24 rfl rfl rfl (fun _ => Zv rfl rfl) ?_)))))
  refine Yb (by kernel_rfl) ?_
  refine Zb (dW _ _ ?_)
  refine Xn rfl ?_
  refine Zu ?_
  refine Zb (hD _ _ ?_)
  refine Zg fun rK h0 => ?_
  refine Yx [] 23 mixed rfl fun h1 bf => ?_
  have pQ := bf.size
  have E := E.trans bf
  have h2 := ((((((d2.ch0 I).ch0 aD).ch0 ax).ch0 ad).ch0 ae).ch0 O).ch0 bf
  refine dT 0 rfl rfl rfl (Zn h2.at_ (fun i hi => absurd hi List.not_mem_nil) agg27 sz27 rfl ?_)
  have h3 := (((cz.ch0 ad).ch0 ae).ch0 O).ch0 bf
  refine dT 1 rfl rfl rfl (Zn h3.at_ (fun i hi => absurd hi List.not_mem_nil) agg27 sz27 rfl ?_)
  refine dT 3 rfl rfl rfl (Zn h2.at_ (fun i hi => absurd hi List.not_mem_nil) agg27 sz27 rfl ?_)
  refine dT 4 rfl rfl rfl (Zn h3.at_ (fun i hi => absurd hi List.not_mem_nil) agg27 sz27 rfl ?_)
  refine dO 2 (Ye rfl rfl rfl ?_)
  have h4 := ((((((d3.ch0 I).ch0 aD).ch0 ax).ch0 ad).ch0 ae).ch0 O).ch0 bf
  have h5 := ((((((d4.ch0 I).ch0 aD).ch0 ax).ch0 ad).ch0 ae).ch0 O).ch0 bf
  have h6 := ((((((d5.ch0 I).ch0 aD).ch0 ax).ch0 ad).ch0 ae).ch0 O).ch0 bf
  have h7 := (eD.ch0 O).ch0 bf
  have h8 := (eE.ch0 O).ch0 bf
  have h9 := (eF.ch0 O).ch0 bf
  refine Step.call (Zl (xs := [.tmp 99, .tmp 100]) fk23 rfl) (Xb _ h4.ls h6.ls h5.rd _ h7.ls h9.ls h8.rd ) fun A mI n => ?_
  obtain ⟨rfl, bD⟩ := n
  have pR := bD.size
  have E := E.trans bD
  have dc : Ch [] h1 mI := ((Ch.refl _ _).trans bD)
  refine ⟨dc, ?_⟩
  refine dO 5 (Ye rfl rfl rfl ?_)
  have mJ := h4.ch0 bD
  have mK := h5.ch0 bD
  have mL := h6.ch0 bD
  have mM := h7.ch0 bD
  have mN := h8.ch0 bD
  have mO := h9.ch0 bD
  refine Step.call (Zl (xs := [.tmp 102, .tmp 103]) fk24 rfl) (Xa _ mJ.ls mL.ls mK.rd _ mM.ls mO.ls mN.rd ) fun B mP o => ?_
  obtain ⟨rfl, eJ⟩ := o
  have pS := eJ.size
  have E := E.trans eJ
  have eK : Ch [] h1 mP := (dc.trans eJ)
  refine ⟨eK, ?_⟩
  refine dV 6 rfl rfl rfl (fun _ => Zbj un4 rfl rfl) (dV 7 rfl rfl rfl (fun _ => Zd rfl) ?_)
  refine Xe (d := 106) rfl (fun b => ?_) (fun b => ?_)
  ·have ia := b
   have b := bt_e b
   refine dV 8 rfl rfl rfl (fun _ => Zd rfl) (dV 9 rfl rfl rfl (fun _ => Xi rfl) (dV 10 rfl rfl rfl (fun _ => Zd rfl) ?_))
   refine Zai (d := 109) rfl (congrArg Bool.not da) ?_
   refine dK 11 rfl rfl rfl (dK 12 rfl rfl rfl (dV 13 rfl rfl rfl (fun _ => Zw rfl rfl) (dV 14 rfl rfl rfl (fun _ => Zd rfl) (dK 15 rfl rfl rfl (dK 16 rfl rfl rfl (dK 17 rfl rfl rfl (dK 18 rfl rfl rfl ?_)))))))
   refine dK 19 rfl rfl rfl (dV 20 rfl rfl rfl (fun _ => Zw rfl rfl) (dV 21 rfl rfl rfl (fun _ => Zw rfl rfl) (dV 22 rfl rfl rfl (fun _ => Ze rfl) ?_)))
   refine Yb (by kernel_rfl) ?_
   refine Zb (h0 _ _ ?_)
   refine Zs ?_
   exact Zi [_] ⟨rfl, trivial⟩ ⟨congrArg Value.bool (by first | rfl | exact decide_eq_true (by have q := Qb g j; omega) | exact (l rfl).elim | exact (c (by rw [← Zq f, ← Zq e]; rfl)).elim | exact (c (by rw [← Zq f, ← Zo e]; rfl)).elim | exact (c (by rw [← Zo f]; rfl)).elim | exact (h rfl).elim | exact (a (Bool.not_not _).symm).elim | exact (a (congrArg Prod.snd (Yu e))).elim | exact (a (congrArg Prod.snd (Yu k))).elim | exact (b rfl).elim | exact (Bool.false_ne_true (a.symm.trans g)).elim), E⟩
  have ia := b
  have b := bf_e b
  refine dK 8 rfl rfl rfl (dK 9 rfl rfl rfl (dK 10 rfl rfl rfl (dK 11 rfl rfl rfl (dK 12 rfl rfl rfl (dK 13 rfl rfl rfl (dK 14 rfl rfl rfl (dK 15 rfl rfl rfl ?_)))))))
  refine dK 16 rfl rfl rfl (dK 17 rfl rfl rfl (dK 18 rfl rfl rfl (dK 19 rfl rfl rfl (dK 20 rfl rfl rfl (dV 21 rfl rfl rfl (fun _ => Zv rfl rfl) (dV 22 rfl rfl rfl (fun _ => Ze rfl) ?_))))))
  refine Yb (by kernel_rfl) ?_
  refine Zb (h0 _ _ ?_)
  refine Zs ?_
  exact Zi [_] ⟨rfl, trivial⟩ ⟨congrArg Value.bool (by first | rfl | exact decide_eq_true (by have q := Qb g j; omega) | exact (l rfl).elim | exact (c (by rw [← Zq f, ← Zq e]; rfl)).elim | exact (c (by rw [← Zq f, ← Zo e]; rfl)).elim | exact (c (by rw [← Zo f]; rfl)).elim | exact (h rfl).elim | exact (a (Bool.not_not _).symm).elim | exact (a (congrArg Prod.snd (Yu e))).elim | exact (a (congrArg Prod.snd (Yu k))).elim | exact (b rfl).elim | exact (Bool.false_ne_true (a.symm.trans g)).elim), E⟩
 have k5 := f
 have f := bf_t f
 refine Zj rfl rfl (Zj rfl rfl (Za rfl rfl (Zv rfl rfl) (Za rfl rfl (Ze rfl) (Zf (Zb (oJ _ _ ?_))))))
 refine Zg fun rL ib => ?_
 refine Zg fun rM eL => ?_
 refine Zc ?_
 have cA := kY.ch0 a6
 refine Za rfl rfl (Zt cA.at_ agg27 sz27 rfl) ?_
 have eM := ((kO.ch0 cj).ch0 b3).ch0 a6
 refine Za rfl rfl (Zt eM.at_ agg27 sz27 rfl) (Zk rfl rfl ?_)
 have cB := kZ.ch0 a6
 have cC := k0.ch0 a6
 have cD := k3.ch0 a6
 have eN := ((kP.ch0 cj).ch0 b3).ch0 a6
 have eO := ((kQ.ch0 cj).ch0 b3).ch0 a6
 have eP := ((kR.ch0 cj).ch0 b3).ch0 a6
 refine Step.call (Zl (xs := [.tmp 46, .tmp 47]) fk18 rfl) (Zae _ cB.ls cD.ls cC.rd _ eN.ls eP.ls eO.rd ) fun d6 rN bs => ?_
 replace bs : d6 = .bool ((tt (Yz am an aK) && (tt (Yz u x H) && !(msR am an aK u x H).2))) ∧ _ := ⟨bs.1.trans (congrArg Value.bool Zuz), bs.2⟩
 obtain ⟨rfl, r⟩ := bs
 have pT := r.size
 have E := E.trans r
 refine Za rfl rfl (Zd rfl) (Za rfl rfl (Zd rfl) (Zj rfl rfl (Zj rfl rfl (Za rfl rfl (Zv rfl rfl) (Za rfl rfl (Zba un4 rfl rfl) (Za rfl rfl (Zd rfl) ?_))))))
 refine Ym (d := 55) rfl (fun c => ?_) (fun c => ?_)
 ·have ic := c
  have c := bf_e (Qf c)
  refine Zj rfl rfl (Zj rfl rfl (Zj rfl rfl (Zj rfl rfl (Zj rfl rfl (Zj rfl rfl (Zj rfl rfl (Zj rfl rfl ?_)))))))
  refine Zj rfl rfl (Zj rfl rfl (Zj rfl rfl (Zj rfl rfl (Za rfl rfl (Zw rfl rfl) (Zf (Zb (eL _ _ ?_)))))))
  refine Xl rfl ?_
  refine Zg fun rO mQ => ?_
  refine Zc (Za rfl rfl (Ze rfl) (Zf (Zb (mQ _ _ ?_))))
  refine Zs (Zm ?_)
  exact Zi [_] ⟨rfl, trivial⟩ ⟨congrArg Value.bool (by first | rfl | exact decide_eq_true (by have q := Qb g j; omega) | exact (l rfl).elim | exact (c (by rw [← Zq f, ← Zq e]; rfl)).elim | exact (c (by rw [← Zq f, ← Zo e]; rfl)).elim | exact (c (by rw [← Zo f]; rfl)).elim | exact (h rfl).elim | exact (a (Bool.not_not _).symm).elim | exact (a (congrArg Prod.snd (Yu e))).elim | exact (a (congrArg Prod.snd (Yu k))).elim | exact (b rfl).elim | exact (Bool.false_ne_true (a.symm.trans g)).elim), E⟩
 have ic := c
 have c := bt_e (Qg c)
 refine Za rfl rfl (Zd rfl) (Za rfl rfl (Zd rfl) ?_)
 refine Ym (d := 57) rfl (fun j => ?_) (fun j => ?_)
 ·have b6 := j
  have dd := cA.ch0 r
  refine Za rfl rfl (Zt dd.at_ agg27 sz27 rfl) (Za rfl rfl (Zd rfl) (Zk rfl rfl ?_))
  have de := cB.ch0 r
  have df := cC.ch0 r
  have dg := cD.ch0 r
  have ie := ((kF.ch0 b3).ch0 a6).ch0 r
  refine Step.call (Zl (xs := [.tmp 58, .tmp 59]) fk14 rfl) (Zaa _ de.ls dg.ls df.rd ie.ls ) fun cI rP ay => ?_
  replace ay : cI = .bool (false) ∧ _ := ⟨ay.1.trans (congrArg Value.bool (Zes (by first | exact j | simpa using j)).2.1), ay.2⟩
  obtain ⟨rfl, C⟩ := ay
  have pU := C.size
  have E := E.trans C
  refine Za rfl rfl (Zd rfl) ?_
  have ig := (eM.ch0 r).ch0 C
  refine Za rfl rfl (Zt ig.at_ agg27 sz27 rfl) (Za rfl rfl (Zd rfl) (Zk rfl rfl ?_))
  have ih := (eN.ch0 r).ch0 C
  have ii := (eO.ch0 r).ch0 C
  have ij := (eP.ch0 r).ch0 C
  have mR := ie.ch0 C
  refine Step.call (Zl (xs := [.tmp 62, .tmp 63]) fk14 rfl) (Zaa _ ih.ls ij.ls ii.rd mR.ls ) fun cJ rQ az => ?_
  replace az : cJ = .bool (true) ∧ _ := ⟨az.1.trans (congrArg Value.bool (Zes (by first | exact j | simpa using j)).2.2), az.2⟩
  obtain ⟨rfl, D⟩ := az
  have pV := D.size
  have E := E.trans D
  refine Za rfl rfl (Xi rfl) (Za rfl rfl (Zv rfl rfl) (Za rfl rfl (Zw rfl rfl) (Za rfl rfl (Zv rfl rfl) (Zf (Zb (eL _ _ ?_))))))
  refine Xn rfl ?_
  refine Zu ?_
  refine Zb (ib _ _ ?_)
  refine Zg fun rR mS => ?_
  refine Zc ?_
  have ik := ig.ch0 D
  refine Za rfl rfl (Zt ik.at_ agg27 sz27 rfl) (Zk rfl rfl ?_)
  have il := ih.ch0 D
  have im := ii.ch0 D
  have io := ij.ch0 D
  refine Step.call (Zl (xs := [.tmp 70]) fk19 rfl) (Qk _ il.ls io.ls im.rd ) fun cK rS aT => ?_
  obtain ⟨b4, rfl, m, J, F⟩ := aT
  have pW := F.size
  have E := E.trans F
  obtain ⟨aU, aV, rfl, aW, U⟩ := m.opn
  refine Za rfl rfl (Zd rfl) (Za rfl rfl (Xc rfl rfl) (Za rfl rfl (Xc rfl rfl) (Za rfl rfl (Ze rfl) (Za rfl rfl (Ze rfl) (Zf (Zb (mS _ _ ?_)))))))
  refine Zg fun rT dY => ?_
  refine Zg fun rU b7 => ?_
  refine Yx [] 25 mixed rfl fun b8 y => ?_
  have pX := y.size
  have E := E.trans y
  refine dV 0 rfl rfl rfl (fun _ => Zd rfl) ?_
  have aI := (ik.ch0 F).ch0 y
  refine dT 1 rfl rfl rfl (Zn aI.at_ (fun i hi => absurd hi List.not_mem_nil) agg27 sz27 rfl ?_)
  refine dO 2 (Ye rfl rfl rfl ?_)
  have eQ := (il.ch0 F).ch0 y
  have eR := (im.ch0 F).ch0 y
  have eS := (io.ch0 F).ch0 y
  refine Step.call (Zl (xs := [.tmp 75]) fk13 rfl) (Yw _ eQ.ls eS.ls eR.rd ) fun cL mT aX => ?_
  obtain ⟨rfl, s⟩ := aX
  have pY := s.size
  have E := E.trans s
  have cr : Ch [] b8 mT := ((Ch.refl _ _).trans s)
  refine ⟨cr, ?_⟩
  refine dV 3 rfl rfl rfl (fun _ => Zd rfl) ?_
  refine Xe (d := 77) rfl (fun k => ?_) (fun k => ?_)
  ·have ip := k
   have k := bt_t k
   refine dT 4 rfl rfl rfl (Zn aI.at_ (fun i hi => absurd hi List.not_mem_nil) agg27 sz27 rfl ?_)
   refine dO 5 (Ye rfl rfl rfl ?_)
   have iq := eQ.ch0 s
   have ir := eR.ch0 s
   have it := eS.ch0 s
   refine Step.call (Zl (xs := [.tmp 78]) fk20 rfl) (Xf _ iq.ls it.ls ir.rd ) fun cn mU T => ?_
   replace T : cn = .bool ((!(saR u x H).2)) ∧ _ := ⟨T.1.trans (congrArg Value.bool (Zrb (by first | exact k | exact e))), T.2⟩
   obtain ⟨rfl, af⟩ := T
   have pZ := af.size
   have E := E.trans af
   have dh : Ch [] b8 mU := (cr.trans af)
   refine ⟨dh, ?_⟩
   refine dV 6 rfl rfl rfl (fun _ => Xi rfl) (dV 7 rfl rfl rfl (fun _ => Zw rfl rfl) (dV 8 rfl rfl rfl (fun _ => Zba un4 rfl rfl) (dV 9 rfl rfl rfl (fun _ => Zd rfl) ?_)))
   refine Xe (d := 83) rfl (fun a => ?_) (fun a => ?_)
   ·have iu := a
    have a := bf_e (Qf a)
    refine dK 10 rfl rfl rfl (dK 11 rfl rfl rfl (dK 12 rfl rfl rfl (dK 13 rfl rfl rfl (dK 14 rfl rfl rfl (dV 15 rfl rfl rfl (fun _ => Zw rfl rfl) (dV 16 rfl rfl rfl (fun _ => Zd rfl) (dK 17 rfl rfl rfl ?_)))))))
    refine dK 18 rfl rfl rfl (dK 19 rfl rfl rfl (dK 20 rfl rfl rfl (dK 21 rfl rfl rfl (dK 22 rfl rfl rfl (dK 23 rfl rfl rfl (dV 24 rfl rfl rfl (fun _ => Zw rfl rfl) ?_))))))
    refine Yb (by kernel_rfl) ?_
    refine Zb (b7 _ _ ?_)
    refine Xl rfl ?_
    refine Zg fun rV mV => ?_
    refine Zc (Za rfl rfl (Ze rfl) (Zf (Zb (mV _ _ ?_))))
    refine Zs (Zm ?_)
    exact Zi [_] ⟨rfl, trivial⟩ ⟨congrArg Value.bool (by first | rfl | exact decide_eq_true (by have q := Qb g j; omega) | exact (l rfl).elim | exact (c (by rw [← Zq f, ← Zq e]; rfl)).elim | exact (c (by rw [← Zq f, ← Zo e]; rfl)).elim | exact (c (by rw [← Zo f]; rfl)).elim | exact (h rfl).elim | exact (a (Bool.not_not _).symm).elim | exact (a (congrArg Prod.snd (Yu e))).elim | exact (a (congrArg Prod.snd (Yu k))).elim | exact (b rfl).elim | exact (Bool.false_ne_true (a.symm.trans g)).elim), E⟩
   have iu := a
   have a := bt_e (Qg a)
   refine dT 10 rfl rfl rfl (Zn aI.at_ (fun i hi => absurd hi List.not_mem_nil) agg27 sz27 rfl ?_)
   refine dT 12 rfl rfl rfl (Zn aI.at_ (fun i hi => absurd hi List.not_mem_nil) agg27 sz27 rfl ?_)
   refine dO 11 (Ye rfl rfl rfl ?_)
   have iv := iq.ch0 af
   have iw := ir.ch0 af
   have ix := it.ch0 af
   refine Step.call (Zl (xs := [.tmp 84]) fk21 rfl) (Xs _ iv.ls ix.ls iw.rd ) fun co mW ao => ?_
   obtain ⟨rfl, ag⟩ := ao
   have p0 := ag.size
   have E := E.trans ag
   have di : Ch [] b8 mW := (dh.trans ag)
   refine ⟨di, ?_⟩
   refine dO 13 (Ye rfl rfl rfl ?_)
   have eT := iv.ch0 ag
   have eU := iw.ch0 ag
   have eV := ix.ch0 ag
   refine Step.call (Zl (xs := [.tmp 86]) fk20 rfl) (Xf _ eT.ls eV.ls eU.rd ) fun cp mX ap => ?_
   obtain ⟨rfl, P⟩ := ap
   have p1 := P.size
   have E := E.trans P
   have dj : Ch [] b8 mX := (di.trans P)
   refine ⟨dj, ?_⟩
   refine dV 14 rfl rfl rfl (fun _ => Zba un4 rfl rfl) (dV 15 rfl rfl rfl (fun _ => Zv rfl rfl) (dV 16 rfl rfl rfl (fun _ => Zd rfl) ?_))
   refine Xe (d := 90) rfl (fun h => ?_) (fun h => ?_)
   ·have iy := h
    have h := bf_e (Qf h)
    refine dK 17 rfl rfl rfl (dK 18 rfl rfl rfl (dK 19 rfl rfl rfl (dK 20 rfl rfl rfl (dK 21 rfl rfl rfl (dK 22 rfl rfl rfl (dK 23 rfl rfl rfl (dV 24 rfl rfl rfl (fun _ => Zw rfl rfl) ?_)))))))
    refine Yb (by kernel_rfl) ?_
    refine Zb (b7 _ _ ?_)
    refine Xl rfl ?_
    refine Zg fun rW mY => ?_
    refine Zc (Za rfl rfl (Ze rfl) (Zf (Zb (mY _ _ ?_))))
    refine Zs (Zm ?_)
    exact Zi [_] ⟨rfl, trivial⟩ ⟨congrArg Value.bool (by first | rfl | exact decide_eq_true (by have q := Qb g j; omega) | exact (l rfl).elim | exact (c (by rw [← Zq f, ← Zq e]; rfl)).elim | exact (c (by rw [← Zq f, ← Zo e]; rfl)).elim | exact (c (by rw [← Zo f]; rfl)).elim | exact (h rfl).elim | exact (a (Bool.not_not _).symm).elim | exact (a (congrArg Prod.snd (Yu e))).elim | exact (a (congrArg Prod.snd (Yu k))).elim | exact (b rfl).elim | exact (Bool.false_ne_true (a.symm.trans g)).elim), E⟩
   have iy := h
   have h := bt_e (Qg h)
   refine dV 17 rfl rfl rfl (fun _ => Zd rfl) (dV 18 rfl rfl rfl (fun _ => Zd rfl) ?_)
   refine Xe (d := 92) rfl (fun g => ?_) (fun g => ?_)
   ·have dk := g
    refine dT 19 rfl rfl rfl (Zn aI.at_ (fun i hi => absurd hi List.not_mem_nil) agg27 sz27 rfl ?_)
    refine dV 20 rfl rfl rfl (fun _ => Zd rfl) (dO 21 (Ye rfl rfl rfl ?_))
    have iz := eT.ch0 P
    have iA := eU.ch0 P
    have iB := eV.ch0 P
    have mZ := ((((m.ch0 y).ch0 s).ch0 af).ch0 ag).ch0 P
    refine Step.call (Zl (xs := [.tmp 93, .tmp 94]) fk22 rfl) (Qm _ iz.ls iB.ls iA.rd mZ.ls ) fun aq m0 p => ?_
    replace p : aq = .bool (true) ∧ _ := ⟨p.1.trans (congrArg Value.bool (Zdp (by first | exact g | simpa using g))), p.2⟩
    obtain ⟨rfl, a2⟩ := p
    have p2 := a2.size
    have E := E.trans a2
    have eW : Ch [] b8 m0 := (dj.trans a2)
    refine ⟨eW, ?_⟩
    refine dV 22 rfl rfl rfl (fun _ => Xi rfl) (dV 23 rfl rfl rfl (fun _ => Zw rfl rfl) (dV 24 rfl rfl rfl (fun _ => Zv rfl rfl) ?_))
    refine Yb (by kernel_rfl) ?_
    refine Zb (b7 _ _ ?_)
    refine Xn rfl ?_
    refine Zu ?_
    refine Zb (dY _ _ ?_)
    refine Zg fun rX iC => ?_
    refine Yx [] 23 mixed rfl fun iD bg => ?_
    have p3 := bg.size
    have E := E.trans bg
    have iE := (((((((((dd.ch0 C).ch0 D).ch0 F).ch0 y).ch0 s).ch0 af).ch0 ag).ch0 P).ch0 a2).ch0 bg
    refine dT 0 rfl rfl rfl (Zn iE.at_ (fun i hi => absurd hi List.not_mem_nil) agg27 sz27 rfl ?_)
    have iF := (((((aI.ch0 s).ch0 af).ch0 ag).ch0 P).ch0 a2).ch0 bg
    refine dT 1 rfl rfl rfl (Zn iF.at_ (fun i hi => absurd hi List.not_mem_nil) agg27 sz27 rfl ?_)
    refine dT 3 rfl rfl rfl (Zn iE.at_ (fun i hi => absurd hi List.not_mem_nil) agg27 sz27 rfl ?_)
    refine dT 4 rfl rfl rfl (Zn iF.at_ (fun i hi => absurd hi List.not_mem_nil) agg27 sz27 rfl ?_)
    refine dO 2 (Ye rfl rfl rfl ?_)
    have iG := (((((((((de.ch0 C).ch0 D).ch0 F).ch0 y).ch0 s).ch0 af).ch0 ag).ch0 P).ch0 a2).ch0 bg
    have iH := (((((((((df.ch0 C).ch0 D).ch0 F).ch0 y).ch0 s).ch0 af).ch0 ag).ch0 P).ch0 a2).ch0 bg
    have iI := (((((((((dg.ch0 C).ch0 D).ch0 F).ch0 y).ch0 s).ch0 af).ch0 ag).ch0 P).ch0 a2).ch0 bg
    have iJ := (iz.ch0 a2).ch0 bg
    have iK := (iA.ch0 a2).ch0 bg
    have iL := (iB.ch0 a2).ch0 bg
    refine Step.call (Zl (xs := [.tmp 99, .tmp 100]) fk23 rfl) (Xb _ iG.ls iI.ls iH.rd _ iJ.ls iL.ls iK.rd ) fun A m1 n => ?_
    obtain ⟨rfl, bF⟩ := n
    have p4 := bF.size
    have E := E.trans bF
    have dl : Ch [] iD m1 := ((Ch.refl _ _).trans bF)
    refine ⟨dl, ?_⟩
    refine dO 5 (Ye rfl rfl rfl ?_)
    have m2 := iG.ch0 bF
    have m3 := iH.ch0 bF
    have m4 := iI.ch0 bF
    have m5 := iJ.ch0 bF
    have m6 := iK.ch0 bF
    have m7 := iL.ch0 bF
    refine Step.call (Zl (xs := [.tmp 102, .tmp 103]) fk24 rfl) (Xa _ m2.ls m4.ls m3.rd _ m5.ls m7.ls m6.rd ) fun B m8 o => ?_
    obtain ⟨rfl, eX⟩ := o
    have p5 := eX.size
    have E := E.trans eX
    have eY : Ch [] iD m8 := (dl.trans eX)
    refine ⟨eY, ?_⟩
    refine dV 6 rfl rfl rfl (fun _ => Zbj un4 rfl rfl) (dV 7 rfl rfl rfl (fun _ => Zd rfl) ?_)
    refine Xe (d := 106) rfl (fun b => ?_) (fun b => ?_)
    ·have iM := b
     have b := bt_e b
     refine dV 8 rfl rfl rfl (fun _ => Zd rfl) (dV 9 rfl rfl rfl (fun _ => Xi rfl) (dV 10 rfl rfl rfl (fun _ => Zd rfl) ?_))
     refine Zaj (d := 109) rfl (congrArg Bool.not dk) ?_
     refine dV 11 rfl rfl rfl (fun _ => Zd rfl) (dV 12 rfl rfl rfl (fun _ => Xi rfl) (dV 13 rfl rfl rfl (fun _ => Zv rfl rfl) (dV 14 rfl rfl rfl (fun _ => Zd rfl) ?_)))
     refine Zaj (d := 113) rfl (congrArg Bool.not b6) ?_
     refine dV 15 rfl rfl rfl (fun _ => Zd rfl) (dV 16 rfl rfl rfl (fun _ => Xm (by rw [el30]; rfl) rfl) (dV 17 rfl rfl rfl (fun _ => Zd rfl) (dV 18 rfl rfl rfl (fun _ => Xm (by rw [el30]; rfl) rfl) (dV 19 rfl rfl rfl (fun _ => Zfo rfl rfl) (dV 20 rfl rfl rfl (fun _ => Zv rfl rfl) (dV 21 rfl rfl rfl (fun _ => Zw rfl rfl) (dV 22 rfl rfl rfl (fun _ => Ze rfl) ?_)))))))
     refine Yb (by kernel_rfl) ?_
     refine Zb (iC _ _ ?_)
     refine Zs ?_
     exact Zi [_] ⟨rfl, trivial⟩ ⟨congrArg Value.bool (by first | rfl | exact decide_eq_true (by have q := Qb g j; omega) | exact (l rfl).elim | exact (c (by rw [← Zq f, ← Zq e]; rfl)).elim | exact (c (by rw [← Zq f, ← Zo e]; rfl)).elim | exact (c (by rw [← Zo f]; rfl)).elim | exact (h rfl).elim | exact (a (Bool.not_not _).symm).elim | exact (a (congrArg Prod.snd (Yu e))).elim | exact (a (congrArg Prod.snd (Yu k))).elim | exact (b rfl).elim | exact (Bool.false_ne_true (a.symm.trans g)).elim), E⟩
    have iM := b
    have b := bf_e b
    refine dK 8 rfl rfl rfl (dK 9 rfl rfl rfl (dK 10 rfl rfl rfl (dK 11 rfl rfl rfl (dK 12 rfl rfl rfl (dK 13 rfl rfl rfl (dK 14 rfl rfl rfl (dK 15 rfl rfl rfl ?_)))))))
    refine dK 16 rfl rfl rfl (dK 17 rfl rfl rfl (dK 18 rfl rfl rfl (dK 19 rfl rfl rfl (dK 20 rfl rfl rfl (dV 21 rfl rfl rfl (fun _ => Zv rfl rfl) (dV 22 rfl rfl rfl (fun _ => Ze rfl) ?_))))))
    refine Yb (by kernel_rfl) ?_
    refine Zb (iC _ _ ?_)
    refine Zs ?_
    exact Zi [_] ⟨rfl, trivial⟩ ⟨congrArg Value.bool (by first | rfl | exact decide_eq_true (by have q := Qb g j; omega) | exact (l rfl).elim | exact (c (by rw [← Zq f, ← Zq e]; rfl)).elim | exact (c (by rw [← Zq f, ← Zo e]; rfl)).elim | exact (c (by rw [← Zo f]; rfl)).elim | exact (h rfl).elim | exact (a (Bool.not_not _).symm).elim | exact (a (congrArg Prod.snd (Yu e))).elim | exact (a (congrArg Prod.snd (Yu k))).elim | exact (b rfl).elim | exact (Bool.false_ne_true (a.symm.trans g)).elim), E⟩
   have dk := g
   refine dK 19 rfl rfl rfl (dK 20 rfl rfl rfl (dK 21 rfl rfl rfl (dK 22 rfl rfl rfl (dV 23 rfl rfl rfl (fun _ => Zv rfl rfl) (dV 24 rfl rfl rfl (fun _ => Zv rfl rfl) ?_)))))
   refine Yb (by kernel_rfl) ?_
   refine Zb (b7 _ _ ?_)
   refine Xn rfl ?_
   refine Zu ?_
   refine Zb (dY _ _ ?_)
   refine Zg fun rY iN => ?_
   refine Yx [] 23 mixed rfl fun iO bh => ?_
   have p6 := bh.size
   have E := E.trans bh
   have iP := ((((((((dd.ch0 C).ch0 D).ch0 F).ch0 y).ch0 s).ch0 af).ch0 ag).ch0 P).ch0 bh
   refine dT 0 rfl rfl rfl (Zn iP.at_ (fun i hi => absurd hi List.not_mem_nil) agg27 sz27 rfl ?_)
   have iQ := ((((aI.ch0 s).ch0 af).ch0 ag).ch0 P).ch0 bh
   refine dT 1 rfl rfl rfl (Zn iQ.at_ (fun i hi => absurd hi List.not_mem_nil) agg27 sz27 rfl ?_)
   refine dT 3 rfl rfl rfl (Zn iP.at_ (fun i hi => absurd hi List.not_mem_nil) agg27 sz27 rfl ?_)
   refine dT 4 rfl rfl rfl (Zn iQ.at_ (fun i hi => absurd hi List.not_mem_nil) agg27 sz27 rfl ?_)
   refine dO 2 (Ye rfl rfl rfl ?_)
   have iR := ((((((((de.ch0 C).ch0 D).ch0 F).ch0 y).ch0 s).ch0 af).ch0 ag).ch0 P).ch0 bh
   have iS := ((((((((df.ch0 C).ch0 D).ch0 F).ch0 y).ch0 s).ch0 af).ch0 ag).ch0 P).ch0 bh
   have iT := ((((((((dg.ch0 C).ch0 D).ch0 F).ch0 y).ch0 s).ch0 af).ch0 ag).ch0 P).ch0 bh
   have iU := (eT.ch0 P).ch0 bh
   have iV := (eU.ch0 P).ch0 bh
   have iW := (eV.ch0 P).ch0 bh
   refine Step.call (Zl (xs := [.tmp 99, .tmp 100]) fk23 rfl) (Xb _ iR.ls iT.ls iS.rd _ iU.ls iW.ls iV.rd ) fun A m9 n => ?_
   obtain ⟨rfl, bG⟩ := n
   have p7 := bG.size
   have E := E.trans bG
   have dm : Ch [] iO m9 := ((Ch.refl _ _).trans bG)
   refine ⟨dm, ?_⟩
   refine dO 5 (Ye rfl rfl rfl ?_)
   have na := iR.ch0 bG
   have nb := iS.ch0 bG
   have nc := iT.ch0 bG
   have nd := iU.ch0 bG
   have nf := iV.ch0 bG
   have ng := iW.ch0 bG
   refine Step.call (Zl (xs := [.tmp 102, .tmp 103]) fk24 rfl) (Xa _ na.ls nc.ls nb.rd _ nd.ls ng.ls nf.rd ) fun B nh o => ?_
   obtain ⟨rfl, eZ⟩ := o
   have p8 := eZ.size
   have E := E.trans eZ
   have e0 : Ch [] iO nh := (dm.trans eZ)
   refine ⟨e0, ?_⟩
   refine dV 6 rfl rfl rfl (fun _ => Zbj un4 rfl rfl) (dV 7 rfl rfl rfl (fun _ => Zd rfl) ?_)
   refine Xe (d := 106) rfl (fun b => ?_) (fun b => ?_)
   ·have iX := b
    have b := bt_e b
    refine dV 8 rfl rfl rfl (fun _ => Zd rfl) (dV 9 rfl rfl rfl (fun _ => Xi rfl) (dV 10 rfl rfl rfl (fun _ => Zd rfl) ?_))
    refine Zai (d := 109) rfl (congrArg Bool.not dk) ?_
    refine dK 11 rfl rfl rfl (dK 12 rfl rfl rfl (dV 13 rfl rfl rfl (fun _ => Zw rfl rfl) (dV 14 rfl rfl rfl (fun _ => Zd rfl) (dK 15 rfl rfl rfl (dK 16 rfl rfl rfl (dK 17 rfl rfl rfl (dK 18 rfl rfl rfl ?_)))))))
    refine dK 19 rfl rfl rfl (dV 20 rfl rfl rfl (fun _ => Zw rfl rfl) (dV 21 rfl rfl rfl (fun _ => Zw rfl rfl) (dV 22 rfl rfl rfl (fun _ => Ze rfl) ?_)))
    refine Yb (by kernel_rfl) ?_
    refine Zb (iN _ _ ?_)
    refine Zs ?_
    exact Zi [_] ⟨rfl, trivial⟩ ⟨congrArg Value.bool (by first | rfl | exact decide_eq_true (by have q := Qb g j; omega) | exact (l rfl).elim | exact (c (by rw [← Zq f, ← Zq e]; rfl)).elim | exact (c (by rw [← Zq f, ← Zo e]; rfl)).elim | exact (c (by rw [← Zo f]; rfl)).elim | exact (h rfl).elim | exact (a (Bool.not_not _).symm).elim | exact (a (congrArg Prod.snd (Yu e))).elim | exact (a (congrArg Prod.snd (Yu k))).elim | exact (b rfl).elim | exact (Bool.false_ne_true (a.symm.trans g)).elim), E⟩
   have iX := b
   have b := bf_e b
   refine dK 8 rfl rfl rfl (dK 9 rfl rfl rfl (dK 10 rfl rfl rfl (dK 11 rfl rfl rfl (dK 12 rfl rfl rfl (dK 13 rfl rfl rfl (dK 14 rfl rfl rfl (dK 15 rfl rfl rfl ?_)))))))
   refine dK 16 rfl rfl rfl (dK 17 rfl rfl rfl (dK 18 rfl rfl rfl (dK 19 rfl rfl rfl (dK 20 rfl rfl rfl (dV 21 rfl rfl rfl (fun _ => Zv rfl rfl) (dV 22 rfl rfl rfl (fun _ => Ze rfl) ?_))))))
   refine Yb (by kernel_rfl) ?_
   refine Zb (iN _ _ ?_)
   refine Zs ?_
   exact Zi [_] ⟨rfl, trivial⟩ ⟨congrArg Value.bool (by first | rfl | exact decide_eq_true (by have q := Qb g j; omega) | exact (l rfl).elim | exact (c (by rw [← Zq f, ← Zq e]; rfl)).elim | exact (c (by rw [← Zq f, ← Zo e]; rfl)).elim | exact (c (by rw [← Zo f]; rfl)).elim | exact (h rfl).elim | exact (a (Bool.not_not _).symm).elim | exact (a (congrArg Prod.snd (Yu e))).elim | exact (a (congrArg Prod.snd (Yu k))).elim | exact (b rfl).elim | exact (Bool.false_ne_true (a.symm.trans g)).elim), E⟩
  have ip := k
  have k := bf_t k
  refine dK 4 rfl rfl rfl (dK 5 rfl rfl rfl (dK 6 rfl rfl rfl (dV 7 rfl rfl rfl (fun _ => Zv rfl rfl) (dV 8 rfl rfl rfl (fun _ => Zba un4 rfl rfl) (dV 9 rfl rfl rfl (fun _ => Zd rfl) ?_)))))
  refine Xe (d := 83) rfl (fun a => ?_) (fun a => ?_)
  ·have iY := a
   have a := bf_e (Qf a)
   refine dK 10 rfl rfl rfl (dK 11 rfl rfl rfl (dK 12 rfl rfl rfl (dK 13 rfl rfl rfl (dK 14 rfl rfl rfl (dV 15 rfl rfl rfl (fun _ => Zw rfl rfl) (dV 16 rfl rfl rfl (fun _ => Zd rfl) (dK 17 rfl rfl rfl ?_)))))))
   refine dK 18 rfl rfl rfl (dK 19 rfl rfl rfl (dK 20 rfl rfl rfl (dK 21 rfl rfl rfl (dK 22 rfl rfl rfl (dK 23 rfl rfl rfl (dV 24 rfl rfl rfl (fun _ => Zw rfl rfl) ?_))))))
   refine Yb (by kernel_rfl) ?_
   refine Zb (b7 _ _ ?_)
   refine Xl rfl ?_
   refine Zg fun rZ ni => ?_
   refine Zc (Za rfl rfl (Ze rfl) (Zf (Zb (ni _ _ ?_))))
   refine Zs (Zm ?_)
   exact Zi [_] ⟨rfl, trivial⟩ ⟨congrArg Value.bool (by first | rfl | exact decide_eq_true (by have q := Qb g j; omega) | exact (l rfl).elim | exact (c (by rw [← Zq f, ← Zq e]; rfl)).elim | exact (c (by rw [← Zq f, ← Zo e]; rfl)).elim | exact (c (by rw [← Zo f]; rfl)).elim | exact (h rfl).elim | exact (a (Bool.not_not _).symm).elim | exact (a (congrArg Prod.snd (Yu e))).elim | exact (a (congrArg Prod.snd (Yu k))).elim | exact (b rfl).elim | exact (Bool.false_ne_true (a.symm.trans g)).elim), E⟩
  have iY := a
  have a := bt_e (Qg a)
  refine dT 10 rfl rfl rfl (Zn aI.at_ (fun i hi => absurd hi List.not_mem_nil) agg27 sz27 rfl ?_)
  refine dT 12 rfl rfl rfl (Zn aI.at_ (fun i hi => absurd hi List.not_mem_nil) agg27 sz27 rfl ?_)
  refine dO 11 (Ye rfl rfl rfl ?_)
  have iZ := eQ.ch0 s
  have i0 := eR.ch0 s
  have i1 := eS.ch0 s
  refine Step.call (Zl (xs := [.tmp 84]) fk21 rfl) (Xs _ iZ.ls i1.ls i0.rd ) fun co nj ao => ?_
  obtain ⟨rfl, ah⟩ := ao
  have p9 := ah.size
  have E := E.trans ah
  have dn : Ch [] b8 nj := (cr.trans ah)
  refine ⟨dn, ?_⟩
  refine dO 13 (Ye rfl rfl rfl ?_)
  have e1 := iZ.ch0 ah
  have e2 := i0.ch0 ah
  have e3 := i1.ch0 ah
  refine Step.call (Zl (xs := [.tmp 86]) fk20 rfl) (Xf _ e1.ls e3.ls e2.rd ) fun cp nk ap => ?_
  obtain ⟨rfl, Q⟩ := ap
  have qa := Q.size
  have E := E.trans Q
  have dp : Ch [] b8 nk := (dn.trans Q)
  refine ⟨dp, ?_⟩
  refine dV 14 rfl rfl rfl (fun _ => Zba un4 rfl rfl) (dV 15 rfl rfl rfl (fun _ => Zv rfl rfl) (dV 16 rfl rfl rfl (fun _ => Zd rfl) ?_))
  refine Xe (d := 90) rfl (fun h => ?_) (fun h => ?_)
  ·have i2 := h
   have h := bf_e (Qf h)
   refine dK 17 rfl rfl rfl (dK 18 rfl rfl rfl (dK 19 rfl rfl rfl (dK 20 rfl rfl rfl (dK 21 rfl rfl rfl (dK 22 rfl rfl rfl (dK 23 rfl rfl rfl (dV 24 rfl rfl rfl (fun _ => Zw rfl rfl) ?_)))))))
   refine Yb (by kernel_rfl) ?_
   refine Zb (b7 _ _ ?_)
   refine Xl rfl ?_
   refine Zg fun r0 nl => ?_
   refine Zc (Za rfl rfl (Ze rfl) (Zf (Zb (nl _ _ ?_))))
   refine Zs (Zm ?_)
   exact Zi [_] ⟨rfl, trivial⟩ ⟨congrArg Value.bool (by first | rfl | exact decide_eq_true (by have q := Qb g j; omega) | exact (l rfl).elim | exact (c (by rw [← Zq f, ← Zq e]; rfl)).elim | exact (c (by rw [← Zq f, ← Zo e]; rfl)).elim | exact (c (by rw [← Zo f]; rfl)).elim | exact (h rfl).elim | exact (a (Bool.not_not _).symm).elim | exact (a (congrArg Prod.snd (Yu e))).elim | exact (a (congrArg Prod.snd (Yu k))).elim | exact (b rfl).elim | exact (Bool.false_ne_true (a.symm.trans g)).elim), E⟩
  have i2 := h
  have h := bt_e (Qg h)
  refine dV 17 rfl rfl rfl (fun _ => Zd rfl) (dV 18 rfl rfl rfl (fun _ => Zd rfl) ?_)
  refine Xe (d := 92) rfl (fun g => ?_) (fun g => ?_)
  ·have dq := g
   refine dT 19 rfl rfl rfl (Zn aI.at_ (fun i hi => absurd hi List.not_mem_nil) agg27 sz27 rfl ?_)
   refine dV 20 rfl rfl rfl (fun _ => Zd rfl) (dO 21 (Ye rfl rfl rfl ?_))
   have i3 := e1.ch0 Q
   have i4 := e2.ch0 Q
   have i5 := e3.ch0 Q
   have nm := (((m.ch0 y).ch0 s).ch0 ah).ch0 Q
   refine Step.call (Zl (xs := [.tmp 93, .tmp 94]) fk22 rfl) (Qm _ i3.ls i5.ls i4.rd nm.ls ) fun aq nn p => ?_
   replace p : aq = .bool (true) ∧ _ := ⟨p.1.trans (congrArg Value.bool (Zdp (by first | exact g | simpa using g))), p.2⟩
   obtain ⟨rfl, a3⟩ := p
   have qb := a3.size
   have E := E.trans a3
   have e4 : Ch [] b8 nn := (dp.trans a3)
   refine ⟨e4, ?_⟩
   refine dV 22 rfl rfl rfl (fun _ => Xi rfl) (dV 23 rfl rfl rfl (fun _ => Zw rfl rfl) (dV 24 rfl rfl rfl (fun _ => Zv rfl rfl) ?_))
   refine Yb (by kernel_rfl) ?_
   refine Zb (b7 _ _ ?_)
   refine Xn rfl ?_
   refine Zu ?_
   refine Zb (dY _ _ ?_)
   refine Zg fun r1 i6 => ?_
   refine Yx [] 23 mixed rfl fun i7 bi => ?_
   have qc := bi.size
   have E := E.trans bi
   have i8 := ((((((((dd.ch0 C).ch0 D).ch0 F).ch0 y).ch0 s).ch0 ah).ch0 Q).ch0 a3).ch0 bi
   refine dT 0 rfl rfl rfl (Zn i8.at_ (fun i hi => absurd hi List.not_mem_nil) agg27 sz27 rfl ?_)
   have i9 := ((((aI.ch0 s).ch0 ah).ch0 Q).ch0 a3).ch0 bi
   refine dT 1 rfl rfl rfl (Zn i9.at_ (fun i hi => absurd hi List.not_mem_nil) agg27 sz27 rfl ?_)
   refine dT 3 rfl rfl rfl (Zn i8.at_ (fun i hi => absurd hi List.not_mem_nil) agg27 sz27 rfl ?_)
   refine dT 4 rfl rfl rfl (Zn i9.at_ (fun i hi => absurd hi List.not_mem_nil) agg27 sz27 rfl ?_)
   refine dO 2 (Ye rfl rfl rfl ?_)
   have ja := ((((((((de.ch0 C).ch0 D).ch0 F).ch0 y).ch0 s).ch0 ah).ch0 Q).ch0 a3).ch0 bi
   have jb := ((((((((df.ch0 C).ch0 D).ch0 F).ch0 y).ch0 s).ch0 ah).ch0 Q).ch0 a3).ch0 bi
   have jc := ((((((((dg.ch0 C).ch0 D).ch0 F).ch0 y).ch0 s).ch0 ah).ch0 Q).ch0 a3).ch0 bi
   have jd := (i3.ch0 a3).ch0 bi
   have je := (i4.ch0 a3).ch0 bi
   have jf := (i5.ch0 a3).ch0 bi
   refine Step.call (Zl (xs := [.tmp 99, .tmp 100]) fk23 rfl) (Xb _ ja.ls jc.ls jb.rd _ jd.ls jf.ls je.rd ) fun A no n => ?_
   obtain ⟨rfl, bH⟩ := n
   have qd := bH.size
   have E := E.trans bH
   have dr : Ch [] i7 no := ((Ch.refl _ _).trans bH)
   refine ⟨dr, ?_⟩
   refine dO 5 (Ye rfl rfl rfl ?_)
   have np := ja.ch0 bH
   have nq := jb.ch0 bH
   have nr := jc.ch0 bH
   have ns := jd.ch0 bH
   have nt := je.ch0 bH
   have nu := jf.ch0 bH
   refine Step.call (Zl (xs := [.tmp 102, .tmp 103]) fk24 rfl) (Xa _ np.ls nr.ls nq.rd _ ns.ls nu.ls nt.rd ) fun B nv o => ?_
   obtain ⟨rfl, e5⟩ := o
   have qe := e5.size
   have E := E.trans e5
   have e6 : Ch [] i7 nv := (dr.trans e5)
   refine ⟨e6, ?_⟩
   refine dV 6 rfl rfl rfl (fun _ => Zbj un4 rfl rfl) (dV 7 rfl rfl rfl (fun _ => Zd rfl) ?_)
   refine Xe (d := 106) rfl (fun b => ?_) (fun b => ?_)
   ·have jg := b
    have b := bt_e b
    refine dV 8 rfl rfl rfl (fun _ => Zd rfl) (dV 9 rfl rfl rfl (fun _ => Xi rfl) (dV 10 rfl rfl rfl (fun _ => Zd rfl) ?_))
    refine Zaj (d := 109) rfl (congrArg Bool.not dq) ?_
    refine dV 11 rfl rfl rfl (fun _ => Zd rfl) (dV 12 rfl rfl rfl (fun _ => Xi rfl) (dV 13 rfl rfl rfl (fun _ => Zv rfl rfl) (dV 14 rfl rfl rfl (fun _ => Zd rfl) ?_)))
    refine Zaj (d := 113) rfl (congrArg Bool.not b6) ?_
    refine dV 15 rfl rfl rfl (fun _ => Zd rfl) (dV 16 rfl rfl rfl (fun _ => Xm (by rw [el30]; rfl) rfl) (dV 17 rfl rfl rfl (fun _ => Zd rfl) (dV 18 rfl rfl rfl (fun _ => Xm (by rw [el30]; rfl) rfl) (dV 19 rfl rfl rfl (fun _ => Zfo rfl rfl) (dV 20 rfl rfl rfl (fun _ => Zv rfl rfl) (dV 21 rfl rfl rfl (fun _ => Zw rfl rfl) (dV 22 rfl rfl rfl (fun _ => Ze rfl) ?_)))))))
    refine Yb (by kernel_rfl) ?_
    refine Zb (i6 _ _ ?_)
    refine Zs ?_
    exact Zi [_] ⟨rfl, trivial⟩ ⟨congrArg Value.bool (by first | rfl | exact decide_eq_true (by have q := Qb g j; omega) | exact (l rfl).elim | exact (c (by rw [← Zq f, ← Zq e]; rfl)).elim | exact (c (by rw [← Zq f, ← Zo e]; rfl)).elim | exact (c (by rw [← Zo f]; rfl)).elim | exact (h rfl).elim | exact (a (Bool.not_not _).symm).elim | exact (a (congrArg Prod.snd (Yu e))).elim | exact (a (congrArg Prod.snd (Yu k))).elim | exact (b rfl).elim | exact (Bool.false_ne_true (a.symm.trans g)).elim), E⟩
   have jg := b
   have b := bf_e b
   refine dK 8 rfl rfl rfl (dK 9 rfl rfl rfl (dK 10 rfl rfl rfl (dK 11 rfl rfl rfl (dK 12 rfl rfl rfl (dK 13 rfl rfl rfl (dK 14 rfl rfl rfl (dK 15 rfl rfl rfl ?_)))))))
   refine dK 16 rfl rfl rfl (dK 17 rfl rfl rfl (dK 18 rfl rfl rfl (dK 19 rfl rfl rfl (dK 20 rfl rfl rfl (dV 21 rfl rfl rfl (fun _ => Zv rfl rfl) (dV 22 rfl rfl rfl (fun _ => Ze rfl) ?_))))))
   refine Yb (by kernel_rfl) ?_
   refine Zb (i6 _ _ ?_)
   refine Zs ?_
   exact Zi [_] ⟨rfl, trivial⟩ ⟨congrArg Value.bool (by first | rfl | exact decide_eq_true (by have q := Qb g j; omega) | exact (l rfl).elim | exact (c (by rw [← Zq f, ← Zq e]; rfl)).elim | exact (c (by rw [← Zq f, ← Zo e]; rfl)).elim | exact (c (by rw [← Zo f]; rfl)).elim | exact (h rfl).elim | exact (a (Bool.not_not _).symm).elim | exact (a (congrArg Prod.snd (Yu e))).elim | exact (a (congrArg Prod.snd (Yu k))).elim | exact (b rfl).elim | exact (Bool.false_ne_true (a.symm.trans g)).elim), E⟩
  have dq := g
  refine dK 19 rfl rfl rfl (dK 20 rfl rfl rfl (dK 21 rfl rfl rfl (dK 22 rfl rfl rfl (dV 23 rfl rfl rfl (fun _ => Zv rfl rfl) (dV 24 rfl rfl rfl (fun _ => Zv rfl rfl) ?_)))))
  refine Yb (by kernel_rfl) ?_
  refine Zb (b7 _ _ ?_)
  refine Xn rfl ?_
  refine Zu ?_
  refine Zb (dY _ _ ?_)
  refine Zg fun r2 jh => ?_
  refine Yx [] 23 mixed rfl fun ji bj => ?_
  have qf := bj.size
  have E := E.trans bj
  have jj := (((((((dd.ch0 C).ch0 D).ch0 F).ch0 y).ch0 s).ch0 ah).ch0 Q).ch0 bj
  refine dT 0 rfl rfl rfl (Zn jj.at_ (fun i hi => absurd hi List.not_mem_nil) agg27 sz27 rfl ?_)
  have jk := (((aI.ch0 s).ch0 ah).ch0 Q).ch0 bj
  refine dT 1 rfl rfl rfl (Zn jk.at_ (fun i hi => absurd hi List.not_mem_nil) agg27 sz27 rfl ?_)
  refine dT 3 rfl rfl rfl (Zn jj.at_ (fun i hi => absurd hi List.not_mem_nil) agg27 sz27 rfl ?_)
  refine dT 4 rfl rfl rfl (Zn jk.at_ (fun i hi => absurd hi List.not_mem_nil) agg27 sz27 rfl ?_)
  refine dO 2 (Ye rfl rfl rfl ?_)
  have jl := (((((((de.ch0 C).ch0 D).ch0 F).ch0 y).ch0 s).ch0 ah).ch0 Q).ch0 bj
  have jm := (((((((df.ch0 C).ch0 D).ch0 F).ch0 y).ch0 s).ch0 ah).ch0 Q).ch0 bj
  have jn := (((((((dg.ch0 C).ch0 D).ch0 F).ch0 y).ch0 s).ch0 ah).ch0 Q).ch0 bj
  have jo := (e1.ch0 Q).ch0 bj
  have jp := (e2.ch0 Q).ch0 bj
  have jq := (e3.ch0 Q).ch0 bj
  refine Step.call (Zl (xs := [.tmp 99, .tmp 100]) fk23 rfl) (Xb _ jl.ls jn.ls jm.rd _ jo.ls jq.ls jp.rd ) fun A nw n => ?_
  obtain ⟨rfl, bI⟩ := n
  have qg := bI.size
  have E := E.trans bI
  have ds : Ch [] ji nw := ((Ch.refl _ _).trans bI)
  refine ⟨ds, ?_⟩
  refine dO 5 (Ye rfl rfl rfl ?_)
  have nx := jl.ch0 bI
  have ny := jm.ch0 bI
  have nz := jn.ch0 bI
  have nA := jo.ch0 bI
  have nB := jp.ch0 bI
  have nC := jq.ch0 bI
  refine Step.call (Zl (xs := [.tmp 102, .tmp 103]) fk24 rfl) (Xa _ nx.ls nz.ls ny.rd _ nA.ls nC.ls nB.rd ) fun B nD o => ?_
  obtain ⟨rfl, e7⟩ := o
  have qh := e7.size
  have E := E.trans e7
  have e8 : Ch [] ji nD := (ds.trans e7)
  refine ⟨e8, ?_⟩
  refine dV 6 rfl rfl rfl (fun _ => Zbj un4 rfl rfl) (dV 7 rfl rfl rfl (fun _ => Zd rfl) ?_)
  refine Xe (d := 106) rfl (fun b => ?_) (fun b => ?_)
  ·have jr := b
   have b := bt_e b
   refine dV 8 rfl rfl rfl (fun _ => Zd rfl) (dV 9 rfl rfl rfl (fun _ => Xi rfl) (dV 10 rfl rfl rfl (fun _ => Zd rfl) ?_))
   refine Zai (d := 109) rfl (congrArg Bool.not dq) ?_
   refine dK 11 rfl rfl rfl (dK 12 rfl rfl rfl (dV 13 rfl rfl rfl (fun _ => Zw rfl rfl) (dV 14 rfl rfl rfl (fun _ => Zd rfl) (dK 15 rfl rfl rfl (dK 16 rfl rfl rfl (dK 17 rfl rfl rfl (dK 18 rfl rfl rfl ?_)))))))
   refine dK 19 rfl rfl rfl (dV 20 rfl rfl rfl (fun _ => Zw rfl rfl) (dV 21 rfl rfl rfl (fun _ => Zw rfl rfl) (dV 22 rfl rfl rfl (fun _ => Ze rfl) ?_)))
   refine Yb (by kernel_rfl) ?_
   refine Zb (jh _ _ ?_)
   refine Zs ?_
   exact Zi [_] ⟨rfl, trivial⟩ ⟨congrArg Value.bool (by first | rfl | exact decide_eq_true (by have q := Qb g j; omega) | exact (l rfl).elim | exact (c (by rw [← Zq f, ← Zq e]; rfl)).elim | exact (c (by rw [← Zq f, ← Zo e]; rfl)).elim | exact (c (by rw [← Zo f]; rfl)).elim | exact (h rfl).elim | exact (a (Bool.not_not _).symm).elim | exact (a (congrArg Prod.snd (Yu e))).elim | exact (a (congrArg Prod.snd (Yu k))).elim | exact (b rfl).elim | exact (Bool.false_ne_true (a.symm.trans g)).elim), E⟩
  have jr := b
  have b := bf_e b
  refine dK 8 rfl rfl rfl (dK 9 rfl rfl rfl (dK 10 rfl rfl rfl (dK 11 rfl rfl rfl (dK 12 rfl rfl rfl (dK 13 rfl rfl rfl (dK 14 rfl rfl rfl (dK 15 rfl rfl rfl ?_)))))))
  refine dK 16 rfl rfl rfl (dK 17 rfl rfl rfl (dK 18 rfl rfl rfl (dK 19 rfl rfl rfl (dK 20 rfl rfl rfl (dV 21 rfl rfl rfl (fun _ => Zv rfl rfl) (dV 22 rfl rfl rfl (fun _ => Ze rfl) ?_))))))
  refine Yb (by kernel_rfl) ?_
  refine Zb (jh _ _ ?_)
  refine Zs ?_
  exact Zi [_] ⟨rfl, trivial⟩ ⟨congrArg Value.bool (by first | rfl | exact decide_eq_true (by have q := Qb g j; omega) | exact (l rfl).elim | exact (c (by rw [← Zq f, ← Zq e]; rfl)).elim | exact (c (by rw [← Zq f, ← Zo e]; rfl)).elim | exact (c (by rw [← Zo f]; rfl)).elim | exact (h rfl).elim | exact (a (Bool.not_not _).symm).elim | exact (a (congrArg Prod.snd (Yu e))).elim | exact (a (congrArg Prod.snd (Yu k))).elim | exact (b rfl).elim | exact (Bool.false_ne_true (a.symm.trans g)).elim), E⟩
 have b6 := j
 refine Zj rfl rfl (Zj rfl rfl (Zj rfl rfl (Zj rfl rfl (Zj rfl rfl (Zj rfl rfl (Zj rfl rfl (Zj rfl rfl ?_)))))))
 refine Zj rfl rfl (Za rfl rfl (Zv rfl rfl) (Za rfl rfl (Zv rfl rfl) (Zf (Zb (eL _ _ ?_)))))
 refine Xn rfl ?_
 refine Zu ?_
 refine Zb (ib _ _ ?_)
 refine Zg fun r3 nE => ?_
 refine Zc ?_
 have js := eM.ch0 r
 refine Za rfl rfl (Zt js.at_ agg27 sz27 rfl) (Zk rfl rfl ?_)
 have jt := eN.ch0 r
 have ju := eO.ch0 r
 have jv := eP.ch0 r
 refine Step.call (Zl (xs := [.tmp 70]) fk19 rfl) (Qk _ jt.ls jv.ls ju.rd ) fun cK r4 aT => ?_
 obtain ⟨b4, rfl, m, J, G⟩ := aT
 have qi := G.size
 have E := E.trans G
 obtain ⟨aU, aV, rfl, aW, U⟩ := m.opn
 refine Za rfl rfl (Zd rfl) (Za rfl rfl (Xc rfl rfl) (Za rfl rfl (Xc rfl rfl) (Za rfl rfl (Ze rfl) (Za rfl rfl (Ze rfl) (Zf (Zb (nE _ _ ?_)))))))
 refine Zg fun r5 dZ => ?_
 refine Zg fun r6 b9 => ?_
 refine Yx [] 25 mixed rfl fun ca z => ?_
 have qj := z.size
 have E := E.trans z
 refine dV 0 rfl rfl rfl (fun _ => Zd rfl) ?_
 have aJ := (js.ch0 G).ch0 z
 refine dT 1 rfl rfl rfl (Zn aJ.at_ (fun i hi => absurd hi List.not_mem_nil) agg27 sz27 rfl ?_)
 refine dO 2 (Ye rfl rfl rfl ?_)
 have e9 := (jt.ch0 G).ch0 z
 have fa := (ju.ch0 G).ch0 z
 have fb := (jv.ch0 G).ch0 z
 refine Step.call (Zl (xs := [.tmp 75]) fk13 rfl) (Yw _ e9.ls fb.ls fa.rd ) fun cL nF aX => ?_
 obtain ⟨rfl, t⟩ := aX
 have qk := t.size
 have E := E.trans t
 have ct : Ch [] ca nF := ((Ch.refl _ _).trans t)
 refine ⟨ct, ?_⟩
 refine dV 3 rfl rfl rfl (fun _ => Zd rfl) ?_
 refine Xe (d := 77) rfl (fun k => ?_) (fun k => ?_)
 ·have jw := k
  have k := bt_t k
  refine dT 4 rfl rfl rfl (Zn aJ.at_ (fun i hi => absurd hi List.not_mem_nil) agg27 sz27 rfl ?_)
  refine dO 5 (Ye rfl rfl rfl ?_)
  have jx := e9.ch0 t
  have jy := fa.ch0 t
  have jz := fb.ch0 t
  refine Step.call (Zl (xs := [.tmp 78]) fk20 rfl) (Xf _ jx.ls jz.ls jy.rd ) fun cn nG T => ?_
  replace T : cn = .bool ((!(saR u x H).2)) ∧ _ := ⟨T.1.trans (congrArg Value.bool (Zrb (by first | exact k | exact e))), T.2⟩
  obtain ⟨rfl, ai⟩ := T
  have ql := ai.size
  have E := E.trans ai
  have dt : Ch [] ca nG := (ct.trans ai)
  refine ⟨dt, ?_⟩
  refine dV 6 rfl rfl rfl (fun _ => Xi rfl) (dV 7 rfl rfl rfl (fun _ => Zw rfl rfl) (dV 8 rfl rfl rfl (fun _ => Zba un4 rfl rfl) (dV 9 rfl rfl rfl (fun _ => Zd rfl) ?_)))
  refine Xe (d := 83) rfl (fun a => ?_) (fun a => ?_)
  ·have jA := a
   have a := bf_e (Qf a)
   refine dK 10 rfl rfl rfl (dK 11 rfl rfl rfl (dK 12 rfl rfl rfl (dK 13 rfl rfl rfl (dK 14 rfl rfl rfl (dV 15 rfl rfl rfl (fun _ => Zw rfl rfl) (dV 16 rfl rfl rfl (fun _ => Zd rfl) (dK 17 rfl rfl rfl ?_)))))))
   refine dK 18 rfl rfl rfl (dK 19 rfl rfl rfl (dK 20 rfl rfl rfl (dK 21 rfl rfl rfl (dK 22 rfl rfl rfl (dK 23 rfl rfl rfl (dV 24 rfl rfl rfl (fun _ => Zw rfl rfl) ?_))))))
   refine Yb (by kernel_rfl) ?_
   refine Zb (b9 _ _ ?_)
   refine Xl rfl ?_
   refine Zg fun r8 nH => ?_
   refine Zc (Za rfl rfl (Ze rfl) (Zf (Zb (nH _ _ ?_))))
   refine Zs (Zm ?_)
   exact Zi [_] ⟨rfl, trivial⟩ ⟨congrArg Value.bool (by first | rfl | exact decide_eq_true (by have q := Qb g j; omega) | exact (l rfl).elim | exact (c (by rw [← Zq f, ← Zq e]; rfl)).elim | exact (c (by rw [← Zq f, ← Zo e]; rfl)).elim | exact (c (by rw [← Zo f]; rfl)).elim | exact (h rfl).elim | exact (a (Bool.not_not _).symm).elim | exact (a (congrArg Prod.snd (Yu e))).elim | exact (a (congrArg Prod.snd (Yu k))).elim | exact (b rfl).elim | exact (Bool.false_ne_true (a.symm.trans g)).elim), E⟩
  have jA := a
  have a := bt_e (Qg a)
  refine dT 10 rfl rfl rfl (Zn aJ.at_ (fun i hi => absurd hi List.not_mem_nil) agg27 sz27 rfl ?_)
  refine dT 12 rfl rfl rfl (Zn aJ.at_ (fun i hi => absurd hi List.not_mem_nil) agg27 sz27 rfl ?_)
  refine dO 11 (Ye rfl rfl rfl ?_)
  have jB := jx.ch0 ai
  have jC := jy.ch0 ai
  have jD := jz.ch0 ai
  refine Step.call (Zl (xs := [.tmp 84]) fk21 rfl) (Xs _ jB.ls jD.ls jC.rd ) fun co nI ao => ?_
  obtain ⟨rfl, aj⟩ := ao
  have qm := aj.size
  have E := E.trans aj
  have du : Ch [] ca nI := (dt.trans aj)
  refine ⟨du, ?_⟩
  refine dO 13 (Ye rfl rfl rfl ?_)
  have fc := jB.ch0 aj
  have fd := jC.ch0 aj
  have fe := jD.ch0 aj
  refine Step.call (Zl (xs := [.tmp 86]) fk20 rfl) (Xf _ fc.ls fe.ls fd.rd ) fun cp nJ ap => ?_
  obtain ⟨rfl, R⟩ := ap
  have qn := R.size
  have E := E.trans R
  have dv : Ch [] ca nJ := (du.trans R)
  refine ⟨dv, ?_⟩
  refine dV 14 rfl rfl rfl (fun _ => Zba un4 rfl rfl) (dV 15 rfl rfl rfl (fun _ => Zv rfl rfl) (dV 16 rfl rfl rfl (fun _ => Zd rfl) ?_))
  refine Xe (d := 90) rfl (fun h => ?_) (fun h => ?_)
  ·have jE := h
   have h := bf_e (Qf h)
   refine dK 17 rfl rfl rfl (dK 18 rfl rfl rfl (dK 19 rfl rfl rfl (dK 20 rfl rfl rfl (dK 21 rfl rfl rfl (dK 22 rfl rfl rfl (dK 23 rfl rfl rfl (dV 24 rfl rfl rfl (fun _ => Zw rfl rfl) ?_)))))))
   refine Yb (by kernel_rfl) ?_
   refine Zb (b9 _ _ ?_)
   refine Xl rfl ?_
   refine Zg fun r9 nK => ?_
   refine Zc (Za rfl rfl (Ze rfl) (Zf (Zb (nK _ _ ?_))))
   refine Zs (Zm ?_)
   exact Zi [_] ⟨rfl, trivial⟩ ⟨congrArg Value.bool (by first | rfl | exact decide_eq_true (by have q := Qb g j; omega) | exact (l rfl).elim | exact (c (by rw [← Zq f, ← Zq e]; rfl)).elim | exact (c (by rw [← Zq f, ← Zo e]; rfl)).elim | exact (c (by rw [← Zo f]; rfl)).elim | exact (h rfl).elim | exact (a (Bool.not_not _).symm).elim | exact (a (congrArg Prod.snd (Yu e))).elim | exact (a (congrArg Prod.snd (Yu k))).elim | exact (b rfl).elim | exact (Bool.false_ne_true (a.symm.trans g)).elim), E⟩
  have jE := h
  have h := bt_e (Qg h)
  refine dV 17 rfl rfl rfl (fun _ => Zd rfl) (dV 18 rfl rfl rfl (fun _ => Zd rfl) ?_)
  refine Xe (d := 92) rfl (fun g => ?_) (fun g => ?_)
  ·have dw := g
   refine dT 19 rfl rfl rfl (Zn aJ.at_ (fun i hi => absurd hi List.not_mem_nil) agg27 sz27 rfl ?_)
   refine dV 20 rfl rfl rfl (fun _ => Zd rfl) (dO 21 (Ye rfl rfl rfl ?_))
   have jF := fc.ch0 R
   have jG := fd.ch0 R
   have jH := fe.ch0 R
   have nL := ((((m.ch0 z).ch0 t).ch0 ai).ch0 aj).ch0 R
   refine Step.call (Zl (xs := [.tmp 93, .tmp 94]) fk22 rfl) (Qm _ jF.ls jH.ls jG.rd nL.ls ) fun aq nM p => ?_
   replace p : aq = .bool (true) ∧ _ := ⟨p.1.trans (congrArg Value.bool (Zdp (by first | exact g | simpa using g))), p.2⟩
   obtain ⟨rfl, a4⟩ := p
   have qo := a4.size
   have E := E.trans a4
   have ff : Ch [] ca nM := (dv.trans a4)
   refine ⟨ff, ?_⟩
   refine dV 22 rfl rfl rfl (fun _ => Xi rfl) (dV 23 rfl rfl rfl (fun _ => Zw rfl rfl) (dV 24 rfl rfl rfl (fun _ => Zv rfl rfl) ?_))
   refine Yb (by kernel_rfl) ?_
   refine Zb (b9 _ _ ?_)
   refine Xn rfl ?_
   refine Zu ?_
   refine Zb (dZ _ _ ?_)
   refine Zg fun sa jI => ?_
   refine Yx [] 23 mixed rfl fun jJ bk => ?_
   have qp := bk.size
   have E := E.trans bk
   have jK := ((((((((cA.ch0 r).ch0 G).ch0 z).ch0 t).ch0 ai).ch0 aj).ch0 R).ch0 a4).ch0 bk
   refine dT 0 rfl rfl rfl (Zn jK.at_ (fun i hi => absurd hi List.not_mem_nil) agg27 sz27 rfl ?_)
   have jL := (((((aJ.ch0 t).ch0 ai).ch0 aj).ch0 R).ch0 a4).ch0 bk
   refine dT 1 rfl rfl rfl (Zn jL.at_ (fun i hi => absurd hi List.not_mem_nil) agg27 sz27 rfl ?_)
   refine dT 3 rfl rfl rfl (Zn jK.at_ (fun i hi => absurd hi List.not_mem_nil) agg27 sz27 rfl ?_)
   refine dT 4 rfl rfl rfl (Zn jL.at_ (fun i hi => absurd hi List.not_mem_nil) agg27 sz27 rfl ?_)
   refine dO 2 (Ye rfl rfl rfl ?_)
   have jM := ((((((((cB.ch0 r).ch0 G).ch0 z).ch0 t).ch0 ai).ch0 aj).ch0 R).ch0 a4).ch0 bk
   have jN := ((((((((cC.ch0 r).ch0 G).ch0 z).ch0 t).ch0 ai).ch0 aj).ch0 R).ch0 a4).ch0 bk
   have jO := ((((((((cD.ch0 r).ch0 G).ch0 z).ch0 t).ch0 ai).ch0 aj).ch0 R).ch0 a4).ch0 bk
   have jP := (jF.ch0 a4).ch0 bk
   have jQ := (jG.ch0 a4).ch0 bk
   have jR := (jH.ch0 a4).ch0 bk
   refine Step.call (Zl (xs := [.tmp 99, .tmp 100]) fk23 rfl) (Xb _ jM.ls jO.ls jN.rd _ jP.ls jR.ls jQ.rd ) fun A nN n => ?_
   obtain ⟨rfl, bJ⟩ := n
   have qq := bJ.size
   have E := E.trans bJ
   have dx : Ch [] jJ nN := ((Ch.refl _ _).trans bJ)
   refine ⟨dx, ?_⟩
   refine dO 5 (Ye rfl rfl rfl ?_)
   have nO := jM.ch0 bJ
   have nP := jN.ch0 bJ
   have nQ := jO.ch0 bJ
   have nR := jP.ch0 bJ
   have nT := jQ.ch0 bJ
   have nU := jR.ch0 bJ
   refine Step.call (Zl (xs := [.tmp 102, .tmp 103]) fk24 rfl) (Xa _ nO.ls nQ.ls nP.rd _ nR.ls nU.ls nT.rd ) fun B nV o => ?_
   obtain ⟨rfl, fg⟩ := o
   have qr := fg.size
   have E := E.trans fg
   have fh : Ch [] jJ nV := (dx.trans fg)
   refine ⟨fh, ?_⟩
   refine dV 6 rfl rfl rfl (fun _ => Zbj un4 rfl rfl) (dV 7 rfl rfl rfl (fun _ => Zd rfl) ?_)
   refine Xe (d := 106) rfl (fun b => ?_) (fun b => ?_)
   ·have jS := b
    have b := bt_e b
    refine dV 8 rfl rfl rfl (fun _ => Zd rfl) (dV 9 rfl rfl rfl (fun _ => Xi rfl) (dV 10 rfl rfl rfl (fun _ => Zd rfl) ?_))
    refine Zaj (d := 109) rfl (congrArg Bool.not dw) ?_
    refine dV 11 rfl rfl rfl (fun _ => Zd rfl) (dV 12 rfl rfl rfl (fun _ => Xi rfl) (dV 13 rfl rfl rfl (fun _ => Zv rfl rfl) (dV 14 rfl rfl rfl (fun _ => Zd rfl) ?_)))
    refine Zai (d := 113) rfl (congrArg Bool.not b6) ?_
    refine dK 15 rfl rfl rfl (dK 16 rfl rfl rfl (dK 17 rfl rfl rfl (dK 18 rfl rfl rfl (dK 19 rfl rfl rfl (dV 20 rfl rfl rfl (fun _ => Zw rfl rfl) (dV 21 rfl rfl rfl (fun _ => Zw rfl rfl) (dV 22 rfl rfl rfl (fun _ => Ze rfl) ?_)))))))
    refine Yb (by kernel_rfl) ?_
    refine Zb (jI _ _ ?_)
    refine Zs ?_
    exact Zi [_] ⟨rfl, trivial⟩ ⟨congrArg Value.bool (by first | rfl | exact decide_eq_true (by have q := Qb g j; omega) | exact (l rfl).elim | exact (c (by rw [← Zq f, ← Zq e]; rfl)).elim | exact (c (by rw [← Zq f, ← Zo e]; rfl)).elim | exact (c (by rw [← Zo f]; rfl)).elim | exact (h rfl).elim | exact (a (Bool.not_not _).symm).elim | exact (a (congrArg Prod.snd (Yu e))).elim | exact (a (congrArg Prod.snd (Yu k))).elim | exact (b rfl).elim | exact (Bool.false_ne_true (a.symm.trans g)).elim), E⟩
   have jS := b
   have b := bf_e b
   refine dK 8 rfl rfl rfl (dK 9 rfl rfl rfl (dK 10 rfl rfl rfl (dK 11 rfl rfl rfl (dK 12 rfl rfl rfl (dK 13 rfl rfl rfl (dK 14 rfl rfl rfl (dK 15 rfl rfl rfl ?_)))))))
   refine dK 16 rfl rfl rfl (dK 17 rfl rfl rfl (dK 18 rfl rfl rfl (dK 19 rfl rfl rfl (dK 20 rfl rfl rfl (dV 21 rfl rfl rfl (fun _ => Zv rfl rfl) (dV 22 rfl rfl rfl (fun _ => Ze rfl) ?_))))))
   refine Yb (by kernel_rfl) ?_
   refine Zb (jI _ _ ?_)
   refine Zs ?_
   exact Zi [_] ⟨rfl, trivial⟩ ⟨congrArg Value.bool (by first | rfl | exact decide_eq_true (by have q := Qb g j; omega) | exact (l rfl).elim | exact (c (by rw [← Zq f, ← Zq e]; rfl)).elim | exact (c (by rw [← Zq f, ← Zo e]; rfl)).elim | exact (c (by rw [← Zo f]; rfl)).elim | exact (h rfl).elim | exact (a (Bool.not_not _).symm).elim | exact (a (congrArg Prod.snd (Yu e))).elim | exact (a (congrArg Prod.snd (Yu k))).elim | exact (b rfl).elim | exact (Bool.false_ne_true (a.symm.trans g)).elim), E⟩
  have dw := g
  refine dK 19 rfl rfl rfl (dK 20 rfl rfl rfl (dK 21 rfl rfl rfl (dK 22 rfl rfl rfl (dV 23 rfl rfl rfl (fun _ => Zv rfl rfl) (dV 24 rfl rfl rfl (fun _ => Zv rfl rfl) ?_)))))
  refine Yb (by kernel_rfl) ?_
  refine Zb (b9 _ _ ?_)
  refine Xn rfl ?_
  refine Zu ?_
  refine Zb (dZ _ _ ?_)
  refine Zg fun sb jT => ?_
  refine Yx [] 23 mixed rfl fun jU bm => ?_
  have qs := bm.size
  have E := E.trans bm
  have jV := (((((((cA.ch0 r).ch0 G).ch0 z).ch0 t).ch0 ai).ch0 aj).ch0 R).ch0 bm
  refine dT 0 rfl rfl rfl (Zn jV.at_ (fun i hi => absurd hi List.not_mem_nil) agg27 sz27 rfl ?_)
  have jW := ((((aJ.ch0 t).ch0 ai).ch0 aj).ch0 R).ch0 bm
  refine dT 1 rfl rfl rfl (Zn jW.at_ (fun i hi => absurd hi List.not_mem_nil) agg27 sz27 rfl ?_)
  refine dT 3 rfl rfl rfl (Zn jV.at_ (fun i hi => absurd hi List.not_mem_nil) agg27 sz27 rfl ?_)
  refine dT 4 rfl rfl rfl (Zn jW.at_ (fun i hi => absurd hi List.not_mem_nil) agg27 sz27 rfl ?_)
  refine dO 2 (Ye rfl rfl rfl ?_)
  have jX := (((((((cB.ch0 r).ch0 G).ch0 z).ch0 t).ch0 ai).ch0 aj).ch0 R).ch0 bm
  have jY := (((((((cC.ch0 r).ch0 G).ch0 z).ch0 t).ch0 ai).ch0 aj).ch0 R).ch0 bm
  have jZ := (((((((cD.ch0 r).ch0 G).ch0 z).ch0 t).ch0 ai).ch0 aj).ch0 R).ch0 bm
  have j0 := (fc.ch0 R).ch0 bm
  have j1 := (fd.ch0 R).ch0 bm
  have j2 := (fe.ch0 R).ch0 bm
  refine Step.call (Zl (xs := [.tmp 99, .tmp 100]) fk23 rfl) (Xb _ jX.ls jZ.ls jY.rd _ j0.ls j2.ls j1.rd ) fun A nW n => ?_
  obtain ⟨rfl, bK⟩ := n
  have qt := bK.size
  have E := E.trans bK
  have dy : Ch [] jU nW := ((Ch.refl _ _).trans bK)
  refine ⟨dy, ?_⟩
  refine dO 5 (Ye rfl rfl rfl ?_)
  have nX := jX.ch0 bK
  have nY := jY.ch0 bK
  have nZ := jZ.ch0 bK
  have n0 := j0.ch0 bK
  have n1 := j1.ch0 bK
  have n2 := j2.ch0 bK
  refine Step.call (Zl (xs := [.tmp 102, .tmp 103]) fk24 rfl) (Xa _ nX.ls nZ.ls nY.rd _ n0.ls n2.ls n1.rd ) fun B n3 o => ?_
  obtain ⟨rfl, fi⟩ := o
  have qu := fi.size
  have E := E.trans fi
  have fj : Ch [] jU n3 := (dy.trans fi)
  refine ⟨fj, ?_⟩
  refine dV 6 rfl rfl rfl (fun _ => Zbj un4 rfl rfl) (dV 7 rfl rfl rfl (fun _ => Zd rfl) ?_)
  refine Xe (d := 106) rfl (fun b => ?_) (fun b => ?_)
  ·have j3 := b
   have b := bt_e b
   refine dV 8 rfl rfl rfl (fun _ => Zd rfl) (dV 9 rfl rfl rfl (fun _ => Xi rfl) (dV 10 rfl rfl rfl (fun _ => Zd rfl) ?_))
   refine Zai (d := 109) rfl (congrArg Bool.not dw) ?_
   refine dK 11 rfl rfl rfl (dK 12 rfl rfl rfl (dV 13 rfl rfl rfl (fun _ => Zw rfl rfl) (dV 14 rfl rfl rfl (fun _ => Zd rfl) (dK 15 rfl rfl rfl (dK 16 rfl rfl rfl (dK 17 rfl rfl rfl (dK 18 rfl rfl rfl ?_)))))))
   refine dK 19 rfl rfl rfl (dV 20 rfl rfl rfl (fun _ => Zw rfl rfl) (dV 21 rfl rfl rfl (fun _ => Zw rfl rfl) (dV 22 rfl rfl rfl (fun _ => Ze rfl) ?_)))
   refine Yb (by kernel_rfl) ?_
   refine Zb (jT _ _ ?_)
   refine Zs ?_
   exact Zi [_] ⟨rfl, trivial⟩ ⟨congrArg Value.bool (by first | rfl | exact decide_eq_true (by have q := Qb g j; omega) | exact (l rfl).elim | exact (c (by rw [← Zq f, ← Zq e]; rfl)).elim | exact (c (by rw [← Zq f, ← Zo e]; rfl)).elim | exact (c (by rw [← Zo f]; rfl)).elim | exact (h rfl).elim | exact (a (Bool.not_not _).symm).elim | exact (a (congrArg Prod.snd (Yu e))).elim | exact (a (congrArg Prod.snd (Yu k))).elim | exact (b rfl).elim | exact (Bool.false_ne_true (a.symm.trans g)).elim), E⟩
  have j3 := b
  have b := bf_e b
  refine dK 8 rfl rfl rfl (dK 9 rfl rfl rfl (dK 10 rfl rfl rfl (dK 11 rfl rfl rfl (dK 12 rfl rfl rfl (dK 13 rfl rfl rfl (dK 14 rfl rfl rfl (dK 15 rfl rfl rfl ?_)))))))
  refine dK 16 rfl rfl rfl (dK 17 rfl rfl rfl (dK 18 rfl rfl rfl (dK 19 rfl rfl rfl (dK 20 rfl rfl rfl (dV 21 rfl rfl rfl (fun _ => Zv rfl rfl) (dV 22 rfl rfl rfl (fun _ => Ze rfl) ?_))))))
  refine Yb (by kernel_rfl) ?_
  refine Zb (jT _ _ ?_)
  refine Zs ?_
  exact Zi [_] ⟨rfl, trivial⟩ ⟨congrArg Value.bool (by first | rfl | exact decide_eq_true (by have q := Qb g j; omega) | exact (l rfl).elim | exact (c (by rw [← Zq f, ← Zq e]; rfl)).elim | exact (c (by rw [← Zq f, ← Zo e]; rfl)).elim | exact (c (by rw [← Zo f]; rfl)).elim | exact (h rfl).elim | exact (a (Bool.not_not _).symm).elim | exact (a (congrArg Prod.snd (Yu e))).elim | exact (a (congrArg Prod.snd (Yu k))).elim | exact (b rfl).elim | exact (Bool.false_ne_true (a.symm.trans g)).elim), E⟩
 have jw := k
 have k := bf_t k
 refine dK 4 rfl rfl rfl (dK 5 rfl rfl rfl (dK 6 rfl rfl rfl (dV 7 rfl rfl rfl (fun _ => Zv rfl rfl) (dV 8 rfl rfl rfl (fun _ => Zba un4 rfl rfl) (dV 9 rfl rfl rfl (fun _ => Zd rfl) ?_)))))
 refine Xe (d := 83) rfl (fun a => ?_) (fun a => ?_)
 ·have j4 := a
  have a := bf_e (Qf a)
  refine dK 10 rfl rfl rfl (dK 11 rfl rfl rfl (dK 12 rfl rfl rfl (dK 13 rfl rfl rfl (dK 14 rfl rfl rfl (dV 15 rfl rfl rfl (fun _ => Zw rfl rfl) (dV 16 rfl rfl rfl (fun _ => Zd rfl) (dK 17 rfl rfl rfl ?_)))))))
  refine dK 18 rfl rfl rfl (dK 19 rfl rfl rfl (dK 20 rfl rfl rfl (dK 21 rfl rfl rfl (dK 22 rfl rfl rfl (dK 23 rfl rfl rfl (dV 24 rfl rfl rfl (fun _ => Zw rfl rfl) ?_))))))
  refine Yb (by kernel_rfl) ?_
  refine Zb (b9 _ _ ?_)
  refine Xl rfl ?_
  refine Zg fun sc n4 => ?_
  refine Zc (Za rfl rfl (Ze rfl) (Zf (Zb (n4 _ _ ?_))))
  refine Zs (Zm ?_)
  exact Zi [_] ⟨rfl, trivial⟩ ⟨congrArg Value.bool (by first | rfl | exact decide_eq_true (by have q := Qb g j; omega) | exact (l rfl).elim | exact (c (by rw [← Zq f, ← Zq e]; rfl)).elim | exact (c (by rw [← Zq f, ← Zo e]; rfl)).elim | exact (c (by rw [← Zo f]; rfl)).elim | exact (h rfl).elim | exact (a (Bool.not_not _).symm).elim | exact (a (congrArg Prod.snd (Yu e))).elim | exact (a (congrArg Prod.snd (Yu k))).elim | exact (b rfl).elim | exact (Bool.false_ne_true (a.symm.trans g)).elim), E⟩
 have j4 := a
 have a := bt_e (Qg a)
 refine dT 10 rfl rfl rfl (Zn aJ.at_ (fun i hi => absurd hi List.not_mem_nil) agg27 sz27 rfl ?_)
 refine dT 12 rfl rfl rfl (Zn aJ.at_ (fun i hi => absurd hi List.not_mem_nil) agg27 sz27 rfl ?_)
 refine dO 11 (Ye rfl rfl rfl ?_)
 have j5 := e9.ch0 t
 have j6 := fa.ch0 t
 have j7 := fb.ch0 t
 refine Step.call (Zl (xs := [.tmp 84]) fk21 rfl) (Xs _ j5.ls j7.ls j6.rd ) fun co n5 ao => ?_
 obtain ⟨rfl, ak⟩ := ao
 have qv := ak.size
 have E := E.trans ak
 have dz : Ch [] ca n5 := (ct.trans ak)
 refine ⟨dz, ?_⟩
 refine dO 13 (Ye rfl rfl rfl ?_)
 have fk := j5.ch0 ak
 have fl := j6.ch0 ak
 have fm := j7.ch0 ak
 refine Step.call (Zl (xs := [.tmp 86]) fk20 rfl) (Xf _ fk.ls fm.ls fl.rd ) fun cp n6 ap => ?_
 obtain ⟨rfl, S⟩ := ap
 have qw := S.size
 have E := E.trans S
 have dA : Ch [] ca n6 := (dz.trans S)
 refine ⟨dA, ?_⟩
 refine dV 14 rfl rfl rfl (fun _ => Zba un4 rfl rfl) (dV 15 rfl rfl rfl (fun _ => Zv rfl rfl) (dV 16 rfl rfl rfl (fun _ => Zd rfl) ?_))
 refine Xe (d := 90) rfl (fun h => ?_) (fun h => ?_)
 ·have j8 := h
  have h := bf_e (Qf h)
  refine dK 17 rfl rfl rfl (dK 18 rfl rfl rfl (dK 19 rfl rfl rfl (dK 20 rfl rfl rfl (dK 21 rfl rfl rfl (dK 22 rfl rfl rfl (dK 23 rfl rfl rfl (dV 24 rfl rfl rfl (fun _ => Zw rfl rfl) ?_)))))))
  refine Yb (by kernel_rfl) ?_
  refine Zb (b9 _ _ ?_)
  refine Xl rfl ?_
  refine Zg fun sd n7 => ?_
  refine Zc (Za rfl rfl (Ze rfl) (Zf (Zb (n7 _ _ ?_))))
  refine Zs (Zm ?_)
  exact Zi [_] ⟨rfl, trivial⟩ ⟨congrArg Value.bool (by first | rfl | exact decide_eq_true (by have q := Qb g j; omega) | exact (l rfl).elim | exact (c (by rw [← Zq f, ← Zq e]; rfl)).elim | exact (c (by rw [← Zq f, ← Zo e]; rfl)).elim | exact (c (by rw [← Zo f]; rfl)).elim | exact (h rfl).elim | exact (a (Bool.not_not _).symm).elim | exact (a (congrArg Prod.snd (Yu e))).elim | exact (a (congrArg Prod.snd (Yu k))).elim | exact (b rfl).elim | exact (Bool.false_ne_true (a.symm.trans g)).elim), E⟩
 have j8 := h
 have h := bt_e (Qg h)
 refine dV 17 rfl rfl rfl (fun _ => Zd rfl) (dV 18 rfl rfl rfl (fun _ => Zd rfl) ?_)
 refine Xe (d := 92) rfl (fun g => ?_) (fun g => ?_)
 ·have dB := g
  refine dT 19 rfl rfl rfl (Zn aJ.at_ (fun i hi => absurd hi List.not_mem_nil) agg27 sz27 rfl ?_)
  refine dV 20 rfl rfl rfl (fun _ => Zd rfl) (dO 21 (Ye rfl rfl rfl ?_))
  have j9 := fk.ch0 S
  have ka := fl.ch0 S
  have kb := fm.ch0 S
  have n8 := (((m.ch0 z).ch0 t).ch0 ak).ch0 S
  refine Step.call (Zl (xs := [.tmp 93, .tmp 94]) fk22 rfl) (Qm _ j9.ls kb.ls ka.rd n8.ls ) fun aq n9 p => ?_
  replace p : aq = .bool (true) ∧ _ := ⟨p.1.trans (congrArg Value.bool (Zdp (by first | exact g | simpa using g))), p.2⟩
  obtain ⟨rfl, a5⟩ := p
  have qx := a5.size
  have E := E.trans a5
  have fn : Ch [] ca n9 := (dA.trans a5)
  refine ⟨fn, ?_⟩
  refine dV 22 rfl rfl rfl (fun _ => Xi rfl) (dV 23 rfl rfl rfl (fun _ => Zw rfl rfl) (dV 24 rfl rfl rfl (fun _ => Zv rfl rfl) ?_))
  refine Yb (by kernel_rfl) ?_
  refine Zb (b9 _ _ ?_)
  refine Xn rfl ?_
  refine Zu ?_
  refine Zb (dZ _ _ ?_)
  refine Zg fun se kc => ?_
  refine Yx [] 23 mixed rfl fun kd bn => ?_
  have qy := bn.size
  have E := E.trans bn
  have ke := (((((((cA.ch0 r).ch0 G).ch0 z).ch0 t).ch0 ak).ch0 S).ch0 a5).ch0 bn
  refine dT 0 rfl rfl rfl (Zn ke.at_ (fun i hi => absurd hi List.not_mem_nil) agg27 sz27 rfl ?_)
  have kf := ((((aJ.ch0 t).ch0 ak).ch0 S).ch0 a5).ch0 bn
  refine dT 1 rfl rfl rfl (Zn kf.at_ (fun i hi => absurd hi List.not_mem_nil) agg27 sz27 rfl ?_)
  refine dT 3 rfl rfl rfl (Zn ke.at_ (fun i hi => absurd hi List.not_mem_nil) agg27 sz27 rfl ?_)
  refine dT 4 rfl rfl rfl (Zn kf.at_ (fun i hi => absurd hi List.not_mem_nil) agg27 sz27 rfl ?_)
  refine dO 2 (Ye rfl rfl rfl ?_)
  have kg := (((((((cB.ch0 r).ch0 G).ch0 z).ch0 t).ch0 ak).ch0 S).ch0 a5).ch0 bn
  have kh := (((((((cC.ch0 r).ch0 G).ch0 z).ch0 t).ch0 ak).ch0 S).ch0 a5).ch0 bn
  have ki := (((((((cD.ch0 r).ch0 G).ch0 z).ch0 t).ch0 ak).ch0 S).ch0 a5).ch0 bn
  have kj := (j9.ch0 a5).ch0 bn
  have kk := (ka.ch0 a5).ch0 bn
  have kl := (kb.ch0 a5).ch0 bn
  refine Step.call (Zl (xs := [.tmp 99, .tmp 100]) fk23 rfl) (Xb _ kg.ls ki.ls kh.rd _ kj.ls kl.ls kk.rd ) fun A oa n => ?_
  obtain ⟨rfl, bL⟩ := n
  have qz := bL.size
  have E := E.trans bL
  have dC : Ch [] kd oa := ((Ch.refl _ _).trans bL)
  refine ⟨dC, ?_⟩
  refine dO 5 (Ye rfl rfl rfl ?_)
  have ob := kg.ch0 bL
  have oc := kh.ch0 bL
  have od := ki.ch0 bL
  have oe := kj.ch0 bL
  have og := kk.ch0 bL
  have oh := kl.ch0 bL
  refine Step.call (Zl (xs := [.tmp 102, .tmp 103]) fk24 rfl) (Xa _ ob.ls od.ls oc.rd _ oe.ls oh.ls og.rd ) fun B oi o => ?_
  obtain ⟨rfl, fo⟩ := o
  have qA := fo.size
  have E := E.trans fo
  have fp : Ch [] kd oi := (dC.trans fo)
  refine ⟨fp, ?_⟩
  refine dV 6 rfl rfl rfl (fun _ => Zbj un4 rfl rfl) (dV 7 rfl rfl rfl (fun _ => Zd rfl) ?_)
  refine Xe (d := 106) rfl (fun b => ?_) (fun b => ?_)
  ·have km := b
   have b := bt_e b
   refine dV 8 rfl rfl rfl (fun _ => Zd rfl) (dV 9 rfl rfl rfl (fun _ => Xi rfl) (dV 10 rfl rfl rfl (fun _ => Zd rfl) ?_))
   refine Zaj (d := 109) rfl (congrArg Bool.not dB) ?_
   refine dV 11 rfl rfl rfl (fun _ => Zd rfl) (dV 12 rfl rfl rfl (fun _ => Xi rfl) (dV 13 rfl rfl rfl (fun _ => Zv rfl rfl) (dV 14 rfl rfl rfl (fun _ => Zd rfl) ?_)))
   refine Zai (d := 113) rfl (congrArg Bool.not b6) ?_
   refine dK 15 rfl rfl rfl (dK 16 rfl rfl rfl (dK 17 rfl rfl rfl (dK 18 rfl rfl rfl (dK 19 rfl rfl rfl (dV 20 rfl rfl rfl (fun _ => Zw rfl rfl) (dV 21 rfl rfl rfl (fun _ => Zw rfl rfl) (dV 22 rfl rfl rfl (fun _ => Ze rfl) ?_)))))))
   refine Yb (by kernel_rfl) ?_
   refine Zb (kc _ _ ?_)
   refine Zs ?_
   exact Zi [_] ⟨rfl, trivial⟩ ⟨congrArg Value.bool (by first | rfl | exact decide_eq_true (by have q := Qb g j; omega) | exact (l rfl).elim | exact (c (by rw [← Zq f, ← Zq e]; rfl)).elim | exact (c (by rw [← Zq f, ← Zo e]; rfl)).elim | exact (c (by rw [← Zo f]; rfl)).elim | exact (h rfl).elim | exact (a (Bool.not_not _).symm).elim | exact (a (congrArg Prod.snd (Yu e))).elim | exact (a (congrArg Prod.snd (Yu k))).elim | exact (b rfl).elim | exact (Bool.false_ne_true (a.symm.trans g)).elim), E⟩
  have km := b
  have b := bf_e b
  refine dK 8 rfl rfl rfl (dK 9 rfl rfl rfl (dK 10 rfl rfl rfl (dK 11 rfl rfl rfl (dK 12 rfl rfl rfl (dK 13 rfl rfl rfl (dK 14 rfl rfl rfl (dK 15 rfl rfl rfl ?_)))))))
  refine dK 16 rfl rfl rfl (dK 17 rfl rfl rfl (dK 18 rfl rfl rfl (dK 19 rfl rfl rfl (dK 20 rfl rfl rfl (dV 21 rfl rfl rfl (fun _ => Zv rfl rfl) (dV 22 rfl rfl rfl (fun _ => Ze rfl) ?_))))))
  refine Yb (by kernel_rfl) ?_
  refine Zb (kc _ _ ?_)
  refine Zs ?_
  exact Zi [_] ⟨rfl, trivial⟩ ⟨congrArg Value.bool (by first | rfl | exact decide_eq_true (by have q := Qb g j; omega) | exact (l rfl).elim | exact (c (by rw [← Zq f, ← Zq e]; rfl)).elim | exact (c (by rw [← Zq f, ← Zo e]; rfl)).elim | exact (c (by rw [← Zo f]; rfl)).elim | exact (h rfl).elim | exact (a (Bool.not_not _).symm).elim | exact (a (congrArg Prod.snd (Yu e))).elim | exact (a (congrArg Prod.snd (Yu k))).elim | exact (b rfl).elim | exact (Bool.false_ne_true (a.symm.trans g)).elim), E⟩
 have dB := g
 refine dK 19 rfl rfl rfl (dK 20 rfl rfl rfl (dK 21 rfl rfl rfl (dK 22 rfl rfl rfl (dV 23 rfl rfl rfl (fun _ => Zv rfl rfl) (dV 24 rfl rfl rfl (fun _ => Zv rfl rfl) ?_)))))
 refine Yb (by kernel_rfl) ?_
 refine Zb (b9 _ _ ?_)
 refine Xn rfl ?_
 refine Zu ?_
 refine Zb (dZ _ _ ?_)
 refine Zg fun sf kn => ?_
 refine Yx [] 23 mixed rfl fun ko bp => ?_
 have qB := bp.size
 have E := E.trans bp
 have kp := ((((((cA.ch0 r).ch0 G).ch0 z).ch0 t).ch0 ak).ch0 S).ch0 bp
 refine dT 0 rfl rfl rfl (Zn kp.at_ (fun i hi => absurd hi List.not_mem_nil) agg27 sz27 rfl ?_)
 have kq := (((aJ.ch0 t).ch0 ak).ch0 S).ch0 bp
 refine dT 1 rfl rfl rfl (Zn kq.at_ (fun i hi => absurd hi List.not_mem_nil) agg27 sz27 rfl ?_)
 refine dT 3 rfl rfl rfl (Zn kp.at_ (fun i hi => absurd hi List.not_mem_nil) agg27 sz27 rfl ?_)
 refine dT 4 rfl rfl rfl (Zn kq.at_ (fun i hi => absurd hi List.not_mem_nil) agg27 sz27 rfl ?_)
 refine dO 2 (Ye rfl rfl rfl ?_)
 have kr := ((((((cB.ch0 r).ch0 G).ch0 z).ch0 t).ch0 ak).ch0 S).ch0 bp
 have ks := ((((((cC.ch0 r).ch0 G).ch0 z).ch0 t).ch0 ak).ch0 S).ch0 bp
 have kt := ((((((cD.ch0 r).ch0 G).ch0 z).ch0 t).ch0 ak).ch0 S).ch0 bp
 have ku := (fk.ch0 S).ch0 bp
 have kv := (fl.ch0 S).ch0 bp
 have kw := (fm.ch0 S).ch0 bp
 refine Step.call (Zl (xs := [.tmp 99, .tmp 100]) fk23 rfl) (Xb _ kr.ls kt.ls ks.rd _ ku.ls kw.ls kv.rd ) fun A oj n => ?_
 obtain ⟨rfl, bM⟩ := n
 have qC := bM.size
 have E := E.trans bM
 have dD : Ch [] ko oj := ((Ch.refl _ _).trans bM)
 refine ⟨dD, ?_⟩
 refine dO 5 (Ye rfl rfl rfl ?_)
 have ok := kr.ch0 bM
 have ol := ks.ch0 bM
 have on := kt.ch0 bM
 have oo := ku.ch0 bM
 have op := kv.ch0 bM
 have oq := kw.ch0 bM
 refine Step.call (Zl (xs := [.tmp 102, .tmp 103]) fk24 rfl) (Xa _ ok.ls on.ls ol.rd _ oo.ls oq.ls op.rd ) fun B os o => ?_
 obtain ⟨rfl, fq⟩ := o
 have qD := fq.size
 have E := E.trans fq
 have fr : Ch [] ko os := (dD.trans fq)
 refine ⟨fr, ?_⟩
 refine dV 6 rfl rfl rfl (fun _ => Zbj un4 rfl rfl) (dV 7 rfl rfl rfl (fun _ => Zd rfl) ?_)
 refine Xe (d := 106) rfl (fun b => ?_) (fun b => ?_)
 ·have kx := b
  have b := bt_e b
  refine dV 8 rfl rfl rfl (fun _ => Zd rfl) (dV 9 rfl rfl rfl (fun _ => Xi rfl) (dV 10 rfl rfl rfl (fun _ => Zd rfl) ?_))
  refine Zai (d := 109) rfl (congrArg Bool.not dB) ?_
  refine dK 11 rfl rfl rfl (dK 12 rfl rfl rfl (dV 13 rfl rfl rfl (fun _ => Zw rfl rfl) (dV 14 rfl rfl rfl (fun _ => Zd rfl) (dK 15 rfl rfl rfl (dK 16 rfl rfl rfl (dK 17 rfl rfl rfl (dK 18 rfl rfl rfl ?_)))))))
  refine dK 19 rfl rfl rfl (dV 20 rfl rfl rfl (fun _ => Zw rfl rfl) (dV 21 rfl rfl rfl (fun _ => Zw rfl rfl) (dV 22 rfl rfl rfl (fun _ => Ze rfl) ?_)))
  refine Yb (by kernel_rfl) ?_
  refine Zb (kn _ _ ?_)
  refine Zs ?_
  exact Zi [_] ⟨rfl, trivial⟩ ⟨congrArg Value.bool (by first | rfl | exact decide_eq_true (by have q := Qb g j; omega) | exact (l rfl).elim | exact (c (by rw [← Zq f, ← Zq e]; rfl)).elim | exact (c (by rw [← Zq f, ← Zo e]; rfl)).elim | exact (c (by rw [← Zo f]; rfl)).elim | exact (h rfl).elim | exact (a (Bool.not_not _).symm).elim | exact (a (congrArg Prod.snd (Yu e))).elim | exact (a (congrArg Prod.snd (Yu k))).elim | exact (b rfl).elim | exact (Bool.false_ne_true (a.symm.trans g)).elim), E⟩
 have kx := b
 have b := bf_e b
 refine dK 8 rfl rfl rfl (dK 9 rfl rfl rfl (dK 10 rfl rfl rfl (dK 11 rfl rfl rfl (dK 12 rfl rfl rfl (dK 13 rfl rfl rfl (dK 14 rfl rfl rfl (dK 15 rfl rfl rfl ?_)))))))
 refine dK 16 rfl rfl rfl (dK 17 rfl rfl rfl (dK 18 rfl rfl rfl (dK 19 rfl rfl rfl (dK 20 rfl rfl rfl (dV 21 rfl rfl rfl (fun _ => Zv rfl rfl) (dV 22 rfl rfl rfl (fun _ => Ze rfl) ?_))))))
 refine Yb (by kernel_rfl) ?_
 refine Zb (kn _ _ ?_)
 refine Zs ?_
 exact Zi [_] ⟨rfl, trivial⟩ ⟨congrArg Value.bool (by first | rfl | exact decide_eq_true (by have q := Qb g j; omega) | exact (l rfl).elim | exact (c (by rw [← Zq f, ← Zq e]; rfl)).elim | exact (c (by rw [← Zq f, ← Zo e]; rfl)).elim | exact (c (by rw [← Zo f]; rfl)).elim | exact (h rfl).elim | exact (a (Bool.not_not _).symm).elim | exact (a (congrArg Prod.snd (Yu e))).elim | exact (a (congrArg Prod.snd (Yu k))).elim | exact (b rfl).elim | exact (Bool.false_ne_true (a.symm.trans g)).elim), E⟩

end Go.Proofs.Ytgnlfnkgkcmdjaa
