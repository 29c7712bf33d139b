/- Walks of functions that FnPositions reaches: what each returns, and that it leaves the memory that was there alone. -/
import Derived.Test.YtgnlfnkgkcmdjaaLibA
import Derived.Test.YtgnlfnkgkcmdjaaLibB
import Derived.Test.YtgnlfnkgkcmdjaaWPositions
import Derived.Test.YtgnlfnkgkcmdjaaWPositionsb
import Derived.Test.YtgnlfnkgkcmdjaaWPositionsc
import Derived.Test.YtgnlfnkgkcmdjaaWPositionsd
import Derived.Test.YtgnlfnkgkcmdjaaProg
namespace Go.Proofs.Ytgnlfnkgkcmdjaa
open Go.KLib Go.Shelf
set_option maxHeartbeats 1000000
set_option maxRecDepth 20000
set_option linter.unusedVariables false
set_option linter.unusedSimpArgs false
namespace TPositionse
theorem agg142 : Yv Try.prog 142 = some false := by kernel_rfl
theorem agg24 : Yv Try.prog 24 = some false := by kernel_rfl
theorem agg3 : Yv Try.prog 3 = some false := by kernel_rfl
theorem agg30 : Yv Try.prog 30 = some false := by kernel_rfl
theorem agg4 : Yv Try.prog 4 = some false := by kernel_rfl
theorem agg42 : Yv Try.prog 42 = some false := by kernel_rfl
theorem agg44 : Yv Try.prog 44 = some true := by kernel_rfl
theorem agg48 : Yv Try.prog 48 = some true := by kernel_rfl
theorem agg84 : Yv Try.prog 84 = some true := by kernel_rfl
theorem by142 : Zar Try.prog 142 = some 24 := by kernel_rfl
theorem by24 : Zar Try.prog 24 = some 24 := by kernel_rfl
theorem by3 : Zar Try.prog 3 = some 8 := by kernel_rfl
theorem by4 : Zar Try.prog 4 = some 1 := by kernel_rfl
theorem el142 : elB Try.prog 142 = some 24 := by kernel_rfl
theorem el144 : elB Try.prog 144 = some 142 := by kernel_rfl
theorem el24 : elB Try.prog 24 = some 4 := by kernel_rfl
theorem el30 : elB Try.prog 30 = some 3 := by kernel_rfl
theorem el42 : elB Try.prog 42 = some 84 := by kernel_rfl
theorem fa44_0 : faB Try.prog 44 0 = some 0 := by kernel_rfl
theorem fa48_0 : faB Try.prog 48 0 = some 0 := by kernel_rfl
theorem fa48_1 : faB Try.prog 48 1 = some 1 := by kernel_rfl
theorem fa48_2 : faB Try.prog 48 2 = some 2 := by kernel_rfl
theorem fa48_3 : faB Try.prog 48 3 = some 3 := by kernel_rfl
theorem fa48_4 : faB Try.prog 48 4 = some 4 := by kernel_rfl
theorem fa84_0 : faB Try.prog 84 0 = some 0 := by kernel_rfl
theorem fa84_1 : faB Try.prog 84 1 = some 1 := by kernel_rfl
theorem fa84_2 : faB Try.prog 84 2 = some 2 := by kernel_rfl
theorem fa84_3 : faB Try.prog 84 3 = some 3 := by kernel_rfl
theorem fk10 : fnB Try.prog 10 = true := by kernel_rfl
theorem fk101 : fnB Try.prog 101 = true := by kernel_rfl
theorem fk102 : fnB Try.prog 102 = true := by kernel_rfl
theorem fk115 : fnB Try.prog 115 = true := by kernel_rfl
theorem fk116 : fnB Try.prog 116 = true := by kernel_rfl
theorem fk117 : fnB Try.prog 117 = true := by kernel_rfl
theorem fk118 : fnB Try.prog 118 = true := by kernel_rfl
theorem fk127 : fnB Try.prog 127 = true := by kernel_rfl
theorem fk25 : fnB Try.prog 25 = true := by kernel_rfl
theorem fk26 : fnB Try.prog 26 = true := by kernel_rfl
theorem fk27 : fnB Try.prog 27 = true := by kernel_rfl
theorem fk28 : fnB Try.prog 28 = true := by kernel_rfl
theorem fk29 : fnB Try.prog 29 = true := by kernel_rfl
theorem fk30 : fnB Try.prog 30 = true := by kernel_rfl
theorem fk31 : fnB Try.prog 31 = true := by kernel_rfl
theorem fk32 : fnB Try.prog 32 = true := by kernel_rfl
theorem fk33 : fnB Try.prog 33 = true := by kernel_rfl
theorem fk34 : fnB Try.prog 34 = true := by kernel_rfl
theorem fk35 : fnB Try.prog 35 = true := by kernel_rfl
theorem fk36 : fnB Try.prog 36 = true := by kernel_rfl
theorem fk37 : fnB Try.prog 37 = true := by kernel_rfl
theorem fk38 : fnB Try.prog 38 = true := by kernel_rfl
theorem fk39 : fnB Try.prog 39 = true := by kernel_rfl
theorem fk40 : fnB Try.prog 40 = true := by kernel_rfl
theorem fk42 : fnB Try.prog 42 = true := by kernel_rfl
theorem fk6 : fnB Try.prog 6 = true := by kernel_rfl
theorem fk63 : fnB Try.prog 63 = true := by kernel_rfl
theorem fk64 : fnB Try.prog 64 = true := by kernel_rfl
theorem fk74 : fnB Try.prog 74 = true := by kernel_rfl
theorem fk75 : fnB Try.prog 75 = true := by kernel_rfl
theorem fk78 : fnB Try.prog 78 = true := by kernel_rfl
theorem fk85 : fnB Try.prog 85 = true := by kernel_rfl
theorem fk96 : fnB Try.prog 96 = true := by kernel_rfl
theorem ist84 : Zce Try.prog 84 4 = true := by kernel_rfl
theorem mixed : Try.prog.follows .mixedOrders = true := by kernel_rfl
theorem sz142 : Yg Try.prog 142 = some 1 := by kernel_rfl
theorem sz24 : Yg Try.prog 24 = some 1 := by kernel_rfl
theorem sz3 : Yg Try.prog 3 = some 1 := by kernel_rfl
theorem sz4 : Yg Try.prog 4 = some 1 := by kernel_rfl
theorem sz44 : Yg Try.prog 44 = some 1 := by kernel_rfl
theorem sz48 : Yg Try.prog 48 = some 5 := by kernel_rfl
theorem sz84 : Yg Try.prog 84 = some 4 := by kernel_rfl
theorem un4 : Try.prog.underlying 4 = some (.bool) := by kernel_rfl
theorem zr142 : Xf Try.prog 142 = some (.slice none 0 0) := by kernel_rfl
theorem zr24 : Xf Try.prog 24 = some (.slice none 0 0) := by kernel_rfl
theorem zr3 : Xf Try.prog 3 = some (.int .i64 0) := by kernel_rfl
theorem zr4 : Xf Try.prog 4 = some (.bool false) := by kernel_rfl
theorem zr44 : Xf Try.prog 44 = some (.agg #[.slice none 0 0]) := by kernel_rfl
theorem zr48 : Xf Try.prog 48 = some (.agg #[.slice none 0 0, .int .i64 0, .int .i64 0, .slice none 0 0, .bool false]) := by kernel_rfl
theorem zr84 : Xf Try.prog 84 = some (.agg #[.int .i64 0, .int .i64 0, .int .i64 0, .int .i64 0]) := by kernel_rfl
end TPositionse
open TPositionse

/-- spec.Alphabet -/
theorem Zih {w : World} {LL_e G : Nat} {t : Value} {e : List Token} (l : Ls Token.cs 4 w LL_e G t e) :
 Ctr Try.prog 101 #[(.agg #[t])] w (fun v w' => Ol ics 3 1 w' v (Zfk e) ∧ Lo w.heap.size v ∧ Ch [] w w') := by
 obtain ⟨q, r, u⟩ := l.val
 subst u
 have Y := l.len
 have l := l.here (by decide)
 have E := Ch.refl [] w
 skip
 refine Ye (N := 34) (vs0 := [(.agg #[(.slice q e.length r)])]) Try.func101 rfl rfl rfl ?_
 refine Zg fun K1 H1 => ?_
 refine Zc (Zm rfl rfl ?_)
 refine Qw rfl fun H W2 C C2 an => ?_
 have ao := C2.size
 have E := E.trans C2
 have ap := C.lt
 replace C : Blk W2 H 44 [(.slice q e.length r)] := C
 refine Za rfl rfl (Zf rfl) (Ze (Zb (H1 _ _ ?_)))
 refine Zg fun K3 H3 => ?_
 refine Zc (Za rfl rfl (Zf rfl) (Ze (Zb (H3 _ _ ?_))))
 refine Zg fun K4 H4 => ?_
 refine Zg fun K5 H5 => ?_
 refine Zc (Za rfl rfl (Zf rfl) (Ze (Zb (H5 _ _ ?_))))
 refine Zx ?_
 refine Xi (σ := Nat × Int) (fun ⟨i, m⟩ => [(1, (.pointer (some ⟨H, 0, none⟩))), (2, (.slice none 0 0)), (3, (.int .i64 m)), (4, (.int .i64 ((i : Nat) : Int)))]) (fun ⟨i, m⟩ wx => Ch [] w wx ∧ W2.heap.size ≤ wx.heap.size ∧ (i ≤ e.length) ∧ (m = ((letM e i : Nat) : Int)) ∧ (0 < i → isE e = true) ∧ Blk wx H 44 [(.slice q e.length r)]) (fun ⟨i, m⟩ => e.length - i) (0, 0) (sC4 rfl rfl rfl rfl (Sub.nil _)) ⟨E, (Nat.le_refl _), om, rfl, (fun h => absurd h om), C⟩ ?_
 rintro ⟨i, m⟩ R6 ⟨E, Z, hi, hm, ho, j⟩
 have x := E
 have R := x.size
 have I := j.lt
 have aq := Zse ho
 refine Zg fun K7 H7 => ?_
 refine Zg fun K8 H8 => ?_
 refine Zc (Za rfl rfl (Zd rfl) (Za rfl rfl (Zh fa44_0 rfl) (Za rfl rfl (Zk j.at_ agg42 rfl rfl) (Za rfl rfl (Xc (by rw [el42]; rfl) rfl) (Za rfl rfl (Xs rfl rfl) (Za rfl rfl (Zd rfl) ?_))))))
 refine Yp (d := 10) rfl (fun g => ?_) (fun g => ?_)
 ·have aa := g
  have g := Yi g
  refine Za rfl rfl (Zy j.at_ agg44 sz44 rfl) (Zm rfl rfl ?_)
  have S := l.ch0 x
  refine Step.call (Zl (xs := [.tmp 11]) fk74 rfl) (Zfd S ) fun ab au J => ?_
  obtain ⟨rfl, D⟩ := J
  have ac := D.size
  have E := E.trans D
  refine Za rfl rfl (Ya rfl rfl) (Ze (Zb (H8 _ _ ?_)))
  refine Zp rfl (fun b => ?_) (fun b => ?_)
  ·have K := b
   refine Zu ?_
   refine Zb (H7 _ _ ?_)
   refine Zg fun av T => ?_
   refine Zx ?_
   refine Zg fun aw ad => ?_
   refine Zc (Za rfl rfl (Zh fa44_0 rfl) ?_)
   have F := j.ch0 D
   refine Za rfl rfl (Zk F.at_ agg42 rfl rfl) (Za rfl rfl (Zd rfl) (Zm rfl rfl ?_))
   have U := S.ch0 D
   refine (Yw U Token.len el42 sz84 rfl rfl rfl om fun ae af f L => ?_)
   refine Za rfl rfl (Zh fa84_0 rfl) (Za rfl rfl (Zk L agg3 rfl rfl) (Za rfl rfl (Yy rfl rfl) (Ze (Zb (ad _ _ ?_)))))
   refine Zp rfl (fun a => ?_) (fun a => ?_)
   ·have M := a
    have a := Yi a
    refine Zc (Za rfl rfl (Zd rfl) (Za rfl rfl (Zh fa44_0 rfl) (Za rfl rfl (Zk F.at_ agg42 rfl rfl) (Za rfl rfl (Zd rfl) (Zm rfl rfl ?_)))))
    refine (Yw U Token.len el42 sz84 rfl rfl rfl om fun ag y k O => ?_)
    have P := Zbt f k
    have ax := Zdn b y (Xw k) (by rw [← P]; exact a)
    refine Za rfl rfl (Zh fa84_1 rfl) (Za rfl rfl (Zk O agg3 rfl rfl) (Za rfl rfl (Zjf om rfl rfl) (Za rfl rfl (r_or rfl rfl) (Za rfl rfl (Zf rfl) (Ze (Zw (Zb (T _ _ ?_))))))))
    refine Zc (Za rfl rfl (Zd rfl) (Za rfl rfl (Yo om rfl rfl) (Za rfl rfl (Zf rfl) (Ze ?_))))
    exact Zb (Exists.intro ((i + 1), (ior m (ishl 1 y.letter))) ⟨⟨E, om, om, (by first | exact Zsp f k hm a b | (rw [Zos f a]; exact hm)), (fun _ => b), F⟩, sC4 rfl rfl rfl rfl (Sub.nil _), (by first | omega | (dsimp only; omega))⟩)
   have M := a
   have a := Yj a
   refine Zu ?_
   refine Zw (Zb (T _ _ (Zc (Za rfl rfl (Zd rfl) (Za rfl rfl (Yo om rfl rfl) (Za rfl rfl (Zf rfl) (Ze ?_)))))))
   exact Zb (Exists.intro ((i + 1), m) ⟨⟨E, om, om, (by first | exact Zsp f k hm a b | (rw [Zos f a]; exact hm)), (fun _ => b), F⟩, sC4 rfl rfl rfl rfl (Sub.nil _), (by first | omega | (dsimp only; omega))⟩)
  have K := b
  refine Xe (Zr (Zr (Yu ?_)))
  refine Zb (H4 _ _ ?_)
  refine Zg fun ay ah => ?_
  refine Zc (Za rfl rfl (Zd rfl) (Zm rfl rfl ?_))
  refine Step.call (Zl (xs := [.tmp 32]) fk127 rfl) (Zgi _ om om) fun Q ai c => ?_
  obtain ⟨c, n, V⟩ := c
  have aj := V.size
  have E := E.trans V
  obtain ⟨o, p, rfl, z, s⟩ := c.opn
  refine Za rfl rfl (Zf rfl) (Ze (Zb (ah _ _ ?_)))
  refine Zq ?_
  have A : Ol ics 3 1 ai (.slice o (Zbi m.toNat 30).length p) (Zfk e) := by
   have hx := c
   exact hx.eq (by rw [hm, Int.toNat_natCast]; first | exact Zfa ho (.inl om) hi | exact Zfa ho (.inr b) hi)
  exact Zi [_] ⟨rfl, trivial⟩ ⟨A, Lo.down n om, E⟩
 have aa := g
 have g := Yj g
 refine Zj rfl rfl (Zj rfl rfl (Za rfl rfl (Yb rfl rfl) (Ze (Zb (H8 _ _ ?_)))))
 refine Zap rfl ?_
 refine Xe (Zr (Zr (Yu ?_)))
 refine Zb (H4 _ _ ?_)
 refine Zg fun az ak => ?_
 refine Zc (Za rfl rfl (Zd rfl) (Zm rfl rfl ?_))
 refine Step.call (Zl (xs := [.tmp 32]) fk127 rfl) (Zgi _ om om) fun Q al c => ?_
 obtain ⟨c, n, X⟩ := c
 have am := X.size
 have E := E.trans X
 obtain ⟨o, p, rfl, z, s⟩ := c.opn
 refine Za rfl rfl (Zf rfl) (Ze (Zb (ak _ _ ?_)))
 refine Zq ?_
 have B : Ol ics 3 1 al (.slice o (Zbi m.toNat 30).length p) (Zfk e) := by
  have hx := c
  exact hx.eq (by rw [hm, Int.toNat_natCast]; first | exact Zfa ho (.inl om) hi | exact Zfa ho (.inr b) hi)
 exact Zi [_] ⟨rfl, trivial⟩ ⟨B, Lo.down n om, E⟩

/-- spec.l2Draw -/
theorem Zfe {w : World} {b_c : Nat} (b : Cu w b_c) :
 Ctr Try.prog 102 #[(.pointer (some ⟨b_c, 0, none⟩))] w (fun v w' => ∃ (e : Int) , v = .int .i64 e ∧ (-1 ≤ e ∧ e ≤ 100) ∧ Cu w' b_c ∧ Ch [b_c] w w') := by
 have n := b.lt
 have E := Ch.refl [b_c] w
 refine Ye (N := 11) (vs0 := [(.pointer (some ⟨b_c, 0, none⟩))]) Try.func102 rfl rfl rfl ?_
 refine Zg fun K1 H1 => ?_
 refine Zc (Za rfl rfl (Zf rfl) (Ze (Zb (H1 _ _ ?_))))
 refine Zg fun K2 H2 => ?_
 refine Zg fun K3 H3 => ?_
 refine Zc (Za rfl rfl (Zd rfl) (Zm rfl rfl ?_))
 refine Step.call (Zl (xs := [.tmp 3, .const (Go.Value.int Go.IntKind.i64 14)]) fk96 rfl) (Zam b _ om) fun O W4 u => ?_
 obtain ⟨x, rfl, o, C4⟩ := u
 have P := C4.size
 have E := E.trans C4
 refine Ze (Zb (H3 _ _ ?_))
 refine Zp rfl (fun f => ?_) (fun f => ?_)
 ·have y := f
  refine Zg fun K6 H6 => ?_
  refine Zc (Za rfl rfl (Zd rfl) (Zm rfl rfl ?_))
  refine Ym (cs := ics) (parts := [(0, .const (Go.Value.int Go.IntKind.i64 (-1))), (1, .const (Go.Value.int Go.IntKind.i64 9)), (2, .const (Go.Value.int Go.IntKind.i64 8)), (3, .const (Go.Value.int Go.IntKind.i64 100))]) (0 : Int) [(-1), 9, 8, 100] el30 sz3 zr3 Xg (by decide) rfl rfl rfl (by decide) (by decide) rfl fun Q W7 p g C7 => ?_
  have R := C7.size
  have E := E.trans C7.of_nil
  obtain ⟨z, A, rfl, B, q⟩ := p.opn
  refine Zm rfl rfl ?_
  have F8 := o.ch0 C7
  refine Step.call (Zl (xs := [.tmp 5, .tmp 6]) fk85 rfl) (Zbc F8 p (by decide) W4.heap.size om g) fun S W9 C => ?_
  obtain ⟨h, rfl, c, D, C9⟩ := C
  have T := C9.size
  have E := E.trans C9
  refine Za rfl rfl (Zf rfl) (Ze (Zb (H6 _ _ ?_)))
  refine Zq (Zo ?_)
  exact Zi [_] ⟨rfl, trivial⟩ ⟨h, (congrArg (fun zq => (Value.int .i64 zq)) (by first | rfl | simp_all)), (by have i := c; simp at i; omega), D, E⟩
 have y := f
 refine Zu ?_
 refine Zb (H2 _ _ ?_)
 refine Zg fun U F => ?_
 refine Zc (Za rfl rfl (Zd rfl) (Zm rfl rfl ?_))
 refine Ym (cs := ics) (parts := [(0, .const (Go.Value.int Go.IntKind.i64 0)), (1, .const (Go.Value.int Go.IntKind.i64 0)), (2, .const (Go.Value.int Go.IntKind.i64 0)), (3, .const (Go.Value.int Go.IntKind.i64 1)), (4, .const (Go.Value.int Go.IntKind.i64 2)), (5, .const (Go.Value.int Go.IntKind.i64 2)), (6, .const (Go.Value.int Go.IntKind.i64 3)), (7, .const (Go.Value.int Go.IntKind.i64 4)), (8, .const (Go.Value.int Go.IntKind.i64 6)), (9, .const (Go.Value.int Go.IntKind.i64 7))]) (0 : Int) [0, 0, 0, 1, 2, 2, 3, 4, 6, 7] el30 sz3 zr3 Xg (by decide) rfl rfl rfl (by decide) (by decide) rfl fun V X r j k => ?_
 have G := k.size
 have E := E.trans k.of_nil
 obtain ⟨H, I, rfl, J, s⟩ := r.opn
 refine Zm rfl rfl ?_
 have K := o.ch0 k
 refine Step.call (Zl (xs := [.tmp 8, .tmp 9]) fk85 rfl) (Zbc K r (by decide) W4.heap.size om j) fun L Y l => ?_
 obtain ⟨d, rfl, a, m, t⟩ := l
 have M := t.size
 have E := E.trans t
 refine Za rfl rfl (Zf rfl) (Ze (Zb (F _ _ ?_)))
 refine Zq ?_
 exact Zi [_] ⟨rfl, trivial⟩ ⟨d, (congrArg (fun zq => (Value.int .i64 zq)) (by first | rfl | simp_all)), (by have i := a; simp at i; omega), m, E⟩

/-- spec.l9Near -/
theorem Zkk {w : World} {b_c : Nat} (V : Cu w b_c) {LL_e aG : Nat} {X : Value} {e : List Token} (p : Ls Token.cs 4 w LL_e aG X e) (most : Int) (hb : e.length ≤ 1048576) (hm : 0 ≤ most ∧ most ≤ 20) (hq : b_c < LL_e) :
 Ctr Try.prog 64 #[(.pointer (some ⟨b_c, 0, none⟩)), (.agg #[X]), (.int .i64 most)] w (fun v w' => ∃ (a5 : List Int) (aH : Value), v = aH ∧ Ol ics 3 1 w' aH (a5) ∧ Lo w.heap.size aH ∧ ((a5.length : Int) ≤ most + 1) ∧ Cu w' b_c ∧ Ch [b_c] w w') := by
 have a6 := V.lt
 obtain ⟨Y, Z, aa⟩ := p.val
 subst aa
 have bp := p.len
 have p := p.here (by decide)
 have E := Ch.refl [b_c] w
 have cc := Zql e
 refine Ye (N := 44) (vs0 := [(.pointer (some ⟨b_c, 0, none⟩)), (.agg #[(.slice Y e.length Z)]), (.int .i64 most)]) Try.func64 rfl rfl rfl ?_
 refine Zg fun K1 H1 => ?_
 refine Zc (Zm rfl rfl ?_)
 refine Qw rfl fun bq W2 ay C2 cd => ?_
 have ce := C2.size
 have E := E.trans C2.of_nil
 have cf := ay.lt
 replace ay : Blk W2 bq 44 [(.slice Y e.length Z)] := ay
 refine Za rfl rfl (Zf rfl) (Ze (Zb (H1 _ _ ?_)))
 refine Zg fun K3 H3 => ?_
 refine Zc (Za rfl rfl (Zy ay.at_ agg44 sz44 rfl) (Zm rfl rfl ?_))
 have F4 := p.ch0 C2
 refine Step.call (Zl (xs := [.tmp 10]) fk101 rfl) (Zih F4 ) fun br W5 A => ?_
 obtain ⟨A, r, C5⟩ := A
 have cg := C5.size
 have E := E.trans C5.of_nil
 obtain ⟨C, D, rfl, a7, l⟩ := A.opn
 refine Za rfl rfl (Zf rfl) (Ze (Zb (H3 _ _ ?_)))
 refine Zg fun K6 H6 => ?_
 refine Zc (Zm rfl rfl ?_)
 refine Zab (k := 1) ics el30 sz3 fun bs W7 ab F C7 => ?_
 have ci := C7.size
 have E := E.trans C7.of_nil
 obtain ⟨G, H, rfl, a8, K⟩ := ab.opn
 refine Za rfl rfl (Zf rfl) (Ze (Zb (H6 _ _ ?_)))
 refine Zg fun K8 H8 => ?_
 refine Zg fun K9 H9 => ?_
 refine Zc (Za rfl rfl (Zd rfl) (Za rfl rfl (Zd rfl) (Za rfl rfl (Yo om rfl rfl) (Zm rfl rfl ?_))))
 have bu := ((V.ch0 C2).ch0 C5).ch0 C7
 refine Step.call (Zl (xs := [.tmp 13, .tmp 15]) fk42 rfl) (Xr bu _ om) fun bv a9 aI => ?_
 obtain ⟨ac, rfl, aJ, aK, az⟩ := aI
 have bw := az.size
 have E := E.trans az
 refine Za rfl rfl (Zf rfl) (Ze (Zb (H9 _ _ ?_)))
 refine Zx ?_
 have bx := ab.ch az (dS F K om)
 have L : Ol ics 3 1 a9 (.slice G (([] : List Int)).length H) (([] : List Int)) := by
  have hx := bx
  exact hx
 have bz := (A.ch0 C7).ch az (dS r l om)
 refine Xi (σ := Int × List Int × Value) (fun ⟨q, ws, wv⟩ => [(0, (.pointer (some ⟨b_c, 0, none⟩))), (6, (.slice none 0 0)), (7, (.slice C (Zfk e).length D)), (8, wv), (9, (.int .i64 q))]) (fun ⟨q, ws, wv⟩ wx => Ch [b_c] w wx ∧ a9.heap.size ≤ wx.heap.size ∧ (q ≤ most ∧ (ws.length : Int) + (if 0 < q then q else 0) ≤ most) ∧ Cu wx b_c ∧ Ol ics 3 1 wx (.slice C (Zfk e).length D) (Zfk e) ∧ Ol ics 3 1 wx wv ws ∧ Lo W5.heap.size wv) (fun ⟨q, ws, wv⟩ => q.toNat) (ac, ([] : List Int), (.slice G (([] : List Int)).length H)) (sC4 rfl rfl rfl rfl (sC1 rfl (Sub.nil _))) ⟨E, (Nat.le_refl _), (by simp; split <;> omega), aK, bz, L, F⟩ ?_
 rintro ⟨q, ws, wv⟩ cj ⟨E, bA, ad, s, ae, c, a⟩
 have aL := E
 have ba := aL.size
 obtain ⟨Awv, Cwv, rfl, lwv, hiwv⟩ := c.opn
 refine Zg fun ck bB => ?_
 refine Zg fun cl bb => ?_
 refine Zc (Za rfl rfl (Zd rfl) (Za rfl rfl (Zcp rfl rfl) (Za rfl rfl (Zd rfl) ?_)))
 refine Yp (d := 19) rfl (fun m => ?_) (fun m => ?_)
 ·have aM := m
  have m := Yi m
  refine Za rfl rfl (Zd rfl) (Za rfl rfl (Xc (by rw [el30]; rfl) rfl) (Za rfl rfl (Zcp rfl rfl) (Za rfl rfl (Ya rfl rfl) (Ze (Zb (bb _ _ ?_))))))
  refine Zp rfl (fun n => ?_) (fun n => ?_)
  ·have aN := n
   have n := Yi n
   refine Zu ?_
   refine Zb (bB _ _ ?_)
   refine Zg fun cm bC => ?_
   refine Zx ?_
   refine Zc (Za rfl rfl (Zd rfl) (Za rfl rfl (Zd rfl) (Za rfl rfl (Zd rfl) (Za rfl rfl (Zd rfl) (Za rfl rfl (Xc (by rw [el30]; rfl) rfl) (Zm rfl rfl ?_))))))
   refine Step.call (Zl (xs := [.tmp 28, .tmp 30]) fk42 rfl) (Xr s _ om) fun bD cn aO => ?_
   obtain ⟨af, rfl, aP, aQ, aA⟩ := aO
   have bE := aA.size
   have E := E.trans aA
   refine Zm rfl rfl ?_
   have bc := ae.ch aA (dS r l om)
   refine (Yw (j := af.toNat) bc.ls Xg el30 sz3 rfl rfl om om fun bF t be aR => ?_)
   refine Za rfl rfl (Yr aR agg3 rfl rfl) (Zm rfl rfl ?_)
   refine Ym (cs := ics) (parts := [(0, .tmp 33)]) (0 : Int) [t] el30 sz3 zr3 Xg (by decide) rfl rfl rfl (by decide) (by decide) rfl fun bG co ag bf ah => ?_
   have bH := ah.size
   have E := E.trans ah.of_nil
   obtain ⟨bg, bh, rfl, bi, aS⟩ := ag.opn
   refine Zm rfl rfl ?_
   have bI := (c.ch aA (dS a hiwv om)).ch0 ah
   refine Xn (cs := ics) el30 sz3 by3 zr3 rfl (by decide) Zco bI ag.ls rfl rfl bd bd a om fun bJ bK ai aj bj aB => ?_
   have bL := aB.size
   have E := E.step aB (fun i hi => .inl (by have U := a _ hi; omega))
   obtain ⟨I, J, rfl, bk, aT⟩ := ai.opn
   refine Za rfl rfl (Zf rfl) (Ze (Zw (Zb (bC _ _ (Zc (Za rfl rfl (Zd rfl) (Za rfl rfl (Zav om rfl rfl) (Za rfl rfl (Zf rfl) ?_))))))))
   refine Ze ?_
   have M : Ol ics 3 1 bK (.slice I ((ws ++ [t])).length J) ((ws ++ [t])) := by
    have hx := ai
    exact hx
   have bM := (aQ.ch0 ah).ch aB (fun i hm => by have U := a _ hm; have aU := hiwv _ hm; omega)
   have bN := (bc.ch0 ah).ch aB (fun g hg hm => by have U := a _ hm; have aU := hiwv _ hm; have cp := r _ hg; have cq := l _ hg; omega)
   exact Zb (Exists.intro ((q - 1), (ws ++ [t]), (.slice I ((ws ++ [t])).length J)) ⟨⟨E, om, (by simp only [List.length_append, List.length_singleton]; have B := ad.2; split at B <;> split <;> omega), bM, bN, M, (Lo.down aj om)⟩, sC4 rfl rfl rfl rfl (sC1 rfl (Sub.nil _)), (by first | omega | (dsimp only; omega))⟩)
  have aN := n
  have n := Yj n
  refine Xe (Zr (Zr (Yu ?_)))
  refine Zb (H8 _ _ ?_)
  refine Zg fun cr bm => ?_
  refine Zg fun ct bO => ?_
  refine Zc (Za rfl rfl (Zd rfl) (Zm rfl rfl ?_))
  refine Step.call (Zl (xs := [.tmp 36, .const (Go.Value.int Go.IntKind.i64 8)]) fk96 rfl) (Zam s _ om) fun aV bP O => ?_
  obtain ⟨ak, rfl, u, aC⟩ := O
  have bQ := aC.size
  have E := E.trans aC
  refine Ze (Zb (bO _ _ ?_))
  refine Zp rfl (fun o => ?_) (fun o => ?_)
  ·have aW := o
   refine Zc (Za rfl rfl (Zd rfl) (Za rfl rfl (Zd rfl) (Zm rfl rfl ?_)))
   refine Step.call (Zl (xs := [.tmp 39]) fk102 rfl) (Zfe u ) fun aX cu P => ?_
   obtain ⟨b, rfl, Q, R, aY⟩ := P
   have bR := aY.size
   have E := E.trans aY
   refine Zm rfl rfl ?_
   refine Ym (cs := ics) (parts := [(0, .tmp 40)]) (0 : Int) [b] el30 sz3 zr3 Xg (by decide) rfl rfl rfl (by decide) (by decide) rfl fun aZ cv x al aD => ?_
   have bS := aD.size
   have E := E.trans aD.of_nil
   obtain ⟨am, an, rfl, ao, S⟩ := x.opn
   refine Zm rfl rfl ?_
   have bT := ((c.ch aC (dS a hiwv om)).ch aY (dS a hiwv om)).ch0 aD
   refine Xn (cs := ics) el30 sz3 by3 zr3 rfl (by decide) Zco bT x.ls rfl rfl bd bd a om fun a0 bU y z ap a1 => ?_
   have bV := a1.size
   have E := E.step a1 (fun i hi => .inl (by have U := a _ hi; omega))
   obtain ⟨f, h, rfl, aq, T⟩ := y.opn
   refine Za rfl rfl (Zf rfl) (Ze (Zb (bm _ _ ?_)))
   refine Zg fun cw bW => ?_
   refine Zc (Za rfl rfl (Zd rfl) (Za rfl rfl (Zf rfl) (Ze (Zb (bW _ _ ?_)))))
   refine Zq ?_
   have au : Ol ics 3 1 bU (.slice f ((ws ++ [b])).length h) ((ws ++ [b])) := by
    have hx := y
    first | exact hx | simpa using hx
   have bX := (R.ch0 aD).ch a1 (fun i hm => by have U := a _ hm; have aU := hiwv _ hm; omega)
   exact Zi [_] ⟨rfl, trivial⟩ ⟨(ws ++ [b]), (.slice f ((ws ++ [b])).length h), rfl, au, (Lo.down z om), (by have B := ad.2; split at B <;> first | omega | (simp only [List.length_append, List.length_singleton]; omega)), bX, E⟩
  have aW := o
  refine Zu ?_
  refine Zb (bm _ _ ?_)
  refine Zg fun cx bY => ?_
  refine Zc (Za rfl rfl (Zd rfl) (Za rfl rfl (Zf rfl) (Ze (Zb (bY _ _ ?_)))))
  refine Zq ?_
  have bZ := c.ch aC (dS a hiwv om)
  have av : Ol ics 3 1 bP (.slice Awv (ws).length Cwv) (ws) := by
   have hx := bZ
   first | exact hx | simpa using hx
  exact Zi [_] ⟨rfl, trivial⟩ ⟨ws, (.slice Awv (ws).length Cwv), rfl, av, (Lo.down a om), (by have B := ad.2; split at B <;> first | omega | (simp only [List.length_append, List.length_singleton]; omega)), u, E⟩
 have aM := m
 have m := Yj m
 refine Zj rfl rfl (Zj rfl rfl (Zj rfl rfl (Za rfl rfl (Yb rfl rfl) (Ze (Zb (bb _ _ ?_))))))
 refine Zap rfl ?_
 refine Xe (Zr (Zr (Yu ?_)))
 refine Zb (H8 _ _ ?_)
 refine Zg fun cy bn => ?_
 refine Zg fun cz b0 => ?_
 refine Zc (Za rfl rfl (Zd rfl) (Zm rfl rfl ?_))
 refine Step.call (Zl (xs := [.tmp 36, .const (Go.Value.int Go.IntKind.i64 8)]) fk96 rfl) (Zam s _ om) fun aV b1 O => ?_
 obtain ⟨ak, rfl, u, aE⟩ := O
 have b2 := aE.size
 have E := E.trans aE
 refine Ze (Zb (b0 _ _ ?_))
 refine Zp rfl (fun o => ?_) (fun o => ?_)
 ·have a2 := o
  refine Zc (Za rfl rfl (Zd rfl) (Za rfl rfl (Zd rfl) (Zm rfl rfl ?_)))
  refine Step.call (Zl (xs := [.tmp 39]) fk102 rfl) (Zfe u ) fun aX cA P => ?_
  obtain ⟨b, rfl, Q, R, a3⟩ := P
  have b3 := a3.size
  have E := E.trans a3
  refine Zm rfl rfl ?_
  refine Ym (cs := ics) (parts := [(0, .tmp 40)]) (0 : Int) [b] el30 sz3 zr3 Xg (by decide) rfl rfl rfl (by decide) (by decide) rfl fun aZ cB x al aF => ?_
  have b4 := aF.size
  have E := E.trans aF.of_nil
  obtain ⟨am, an, rfl, ao, S⟩ := x.opn
  refine Zm rfl rfl ?_
  have b5 := ((c.ch aE (dS a hiwv om)).ch a3 (dS a hiwv om)).ch0 aF
  refine Xn (cs := ics) el30 sz3 by3 zr3 rfl (by decide) Zco b5 x.ls rfl rfl bd bd a om fun a0 b6 y z ap a4 => ?_
  have b7 := a4.size
  have E := E.step a4 (fun i hi => .inl (by have U := a _ hi; omega))
  obtain ⟨f, h, rfl, aq, T⟩ := y.opn
  refine Za rfl rfl (Zf rfl) (Ze (Zb (bn _ _ ?_)))
  refine Zg fun cC b8 => ?_
  refine Zc (Za rfl rfl (Zd rfl) (Za rfl rfl (Zf rfl) (Ze (Zb (b8 _ _ ?_)))))
  refine Zq ?_
  have aw : Ol ics 3 1 b6 (.slice f ((ws ++ [b])).length h) ((ws ++ [b])) := by
   have hx := y
   first | exact hx | simpa using hx
  have b9 := (R.ch0 aF).ch a4 (fun i hm => by have U := a _ hm; have aU := hiwv _ hm; omega)
  exact Zi [_] ⟨rfl, trivial⟩ ⟨(ws ++ [b]), (.slice f ((ws ++ [b])).length h), rfl, aw, (Lo.down z om), (by have B := ad.2; split at B <;> first | omega | (simp only [List.length_append, List.length_singleton]; omega)), b9, E⟩
 have a2 := o
 refine Zu ?_
 refine Zb (bn _ _ ?_)
 refine Zg fun cD ca => ?_
 refine Zc (Za rfl rfl (Zd rfl) (Za rfl rfl (Zf rfl) (Ze (Zb (ca _ _ ?_)))))
 refine Zq ?_
 have cb := c.ch aE (dS a hiwv om)
 have ax : Ol ics 3 1 b1 (.slice Awv (ws).length Cwv) (ws) := by
  have hx := cb
  first | exact hx | simpa using hx
 exact Zi [_] ⟨rfl, trivial⟩ ⟨ws, (.slice Awv (ws).length Cwv), rfl, ax, (Lo.down a om), (by have B := ad.2; split at B <;> first | omega | (simp only [List.length_append, List.length_singleton]; omega)), u, E⟩

/-- spec.DrawMatchesWord -/
theorem Zdj {w : World} {LL_code u : Nat} {m : Value} {code : List Int} (e : Ls ucs 1 w LL_code u m code) (hb : code.length ≤ 4194304) :
 Ctr Try.prog 25 #[m] w (fun v w' => ∃ (X : List Token) (Y : List Int) (n : Value) (I : Value), v = .tuple #[.agg #[n], I] ∧ Ol Token.cs 84 4 w' n (X) ∧ Lo w.heap.size n ∧ Ol ics 3 1 w' I (Y) ∧ Lo w.heap.size I ∧ (∀ g ∈ bl n, g ∉ bl I) ∧ (X.length ≤ 26) ∧ (Y.length ≤ 6) ∧ Ch [] w w') := by
 obtain ⟨x, y, p⟩ := e.val
 subst p
 have J := e.len
 have e := e.here (by decide)
 have E := Ch.refl [] w
 refine Ye (N := 14) (vs0 := [(.slice x code.length y)]) Try.func25 rfl rfl rfl ?_
 refine Zg fun K1 H1 => ?_
 refine Zc (Zm rfl rfl ?_)
 refine Yh zr44 fun B W2 K C2 ax => ?_
 have ay := C2.size
 have E := E.trans C2
 have az := K.lt
 replace K : Blk W2 B 44 [(.slice none 0 0)] := K
 refine Za rfl rfl (Zf rfl) (Ze (Zb (H1 _ _ ?_)))
 refine Zg fun K3 H3 => ?_
 refine Zc (Za rfl rfl (Zd rfl) (Zm rfl rfl ?_))
 have F4 := e.ch0 C2
 refine Step.call (Zl (xs := [.tmp 6]) fk40 rfl) (Zlp F4 om) fun aA W5 ag => ?_
 obtain ⟨Q, rfl, Z, aB, C5⟩ := ag
 have aC := C5.size
 have E := E.trans C5
 have aD := Z.lt
 refine Za rfl rfl (Zf rfl) (Ze (Zb (H3 _ _ ?_)))
 refine Zg fun K6 H6 => ?_
 refine Zc (Za rfl rfl (Zd rfl) (Zm rfl rfl ?_))
 refine Step.call (Zl (xs := [.tmp 8]) fk63 rfl) (Zlq Z ) fun aE W7 ah => ?_
 obtain ⟨j, R, rfl, h, a, aa, ai, C7⟩ := ah
 have aF := C7.size
 have E := E.step C7 (lS om)
 obtain ⟨c, d, rfl, L, b⟩ := h.opn
 refine Zm rfl rfl ?_
 refine Yh zr44 fun ab W8 M C8 aG => ?_
 have aH := C8.size
 have E := E.trans C8
 have aI := M.lt
 replace M : Blk W8 ab 44 [(.slice none 0 0)] := M
 refine Zm rfl rfl ?_
 refine Zn (off := 0) 1 M sz44 rfl (us := [(.slice c (j).length d)]) rfl rfl rfl rfl fun W9 q C9 => ?_
 have aJ := C9.size
 have E := E.step C9 (lS om)
 replace q : Blk W9 ab 44 [(.slice c (j).length d)] := q
 refine Ze (Zb (H6 _ _ ?_))
 refine Zg fun aK aj => ?_
 refine Xb ([Q] ++ [B]) 6 mixed rfl fun ac A => ?_
 have ak := A.size
 have E := E.trans A
 have ad := q.ch0 A
 refine dT 0 rfl rfl rfl (Yq ad.at_ (fun i hm => by rcases List.mem_append.1 hm with hm | hm; (have O := List.mem_singleton.1 hm; omega); (have O := List.mem_singleton.1 hm; omega)) agg44 sz44 rfl ?_)
 refine dV 1 rfl rfl rfl (fun _ => Zd rfl) ?_
 refine dT 2 rfl rfl rfl (Yq ad.at_ (fun i hm => by rcases List.mem_append.1 hm with hm | hm; (have O := List.mem_singleton.1 hm; omega); (have O := List.mem_singleton.1 hm; omega)) agg44 sz44 rfl ?_)
 refine dO 3 (Zz rfl rfl rfl ?_)
 have al := ((ai.ch0 C8).ch C9 (oS om)).ch0 A
 have ae := ((h.ch0 C8).ch C9 (dS a b om)).ch0 A
 refine Step.call (Zl (xs := [.tmp 11, .tmp 12, .const (Go.Value.int Go.IntKind.i64 5)]) fk64 rfl) (Zkk al (Ol.lsR ae (lo := _) (hi := _) a b) _ om om om) fun am an S => ?_
 obtain ⟨o, af, rfl, k, f, T, ao, C⟩ := S
 have ap := C.size
 have E := E.step C (lS om)
 obtain ⟨r, s, rfl, U, l⟩ := k.opn
 have z : Ch ([Q] ++ [B]) ac an := ((Ch.refl _ _).step C (fun i hm => by have V := List.mem_singleton.1 hm; exact .inr (by rw [V]; exact (List.mem_append_left _ (List.mem_singleton.2 rfl)))))
 refine ⟨z, ?_⟩
 refine dO 4 (Zz rfl rfl rfl ?_)
 have aq := (((((K.ch0 C5).ch C7 (nS om)).ch0 C8).ch C9 (nS om)).ch0 A).ch C (nS om)
 refine Zn (off := 0) 1 aq sz44 rfl (us := [(.slice c (j).length d)]) rfl rfl rfl rfl fun P t D => ?_
 have au := D.size
 have E := E.step D (lS om)
 replace t : Blk P B 44 [(.slice c (j).length d)] := t
 have F : Ch ([Q] ++ [B]) ac P := (z.step D (fun i hm => by have V := List.mem_singleton.1 hm; exact .inr (by rw [V]; exact (List.mem_append_right _ (List.mem_singleton.2 rfl)))))
 refine ⟨F, ?_⟩
 refine dV 5 rfl rfl rfl (fun _ => Zf rfl) ?_
 refine Yc (by kernel_rfl) ?_
 refine Zb (aj _ _ ?_)
 refine Zq ?_
 have av := (ae.ch C (dS a b om)).ch D (dS a b om)
 have G : Ol Token.cs 84 4 P (.slice c (j).length d) (j) := by
  have hx := av
  first | exact hx | simpa using hx
 have aw := k.ch D (dS f l om)
 have H : Ol ics 3 1 P (.slice r (o).length s) (o) := by
  have hx := aw
  first | exact hx | simpa using hx
 exact Zi [_, _] (Zt t rfl agg44 sz44 ⟨rfl, trivial⟩) ⟨j, o, (.slice c (j).length d), (.slice r (o).length s), rfl, G, (Lo.down a om), H, (Lo.down f om), (fun g hm hg => by have O := a _ hm; have aL := b _ hm; have aM := f _ hg; have aN := l _ hg; omega), om, om, E⟩

/-- spec.EqualExprs -/
theorem Zfy {w : World} {LL_a F : Nat} {y : Value} {a : List Token} (g : Ls Token.cs 4 w LL_a F y a) {LL_b G : Nat} {z : Value} {b : List Token} (h : Ls Token.cs 4 w LL_b G z b) :
 Ctr Try.prog 30 #[(.agg #[y]), (.agg #[z])] w (fun v w' => v = .bool (decide (a = b)) ∧ Ch [] w w') := by
 obtain ⟨q, r, A⟩ := g.val
 subst A
 have V := g.len
 have g := g.here (by decide)
 obtain ⟨s, t, B⟩ := h.val
 subst B
 have X := h.len
 have h := h.here (by decide)
 have E := Ch.refl [] w
 refine Ye (N := 31) (vs0 := [(.agg #[(.slice q a.length r)]), (.agg #[(.slice s b.length t)])]) Try.func30 rfl rfl rfl ?_
 refine Zg fun K1 H1 => ?_
 refine Zc (Zm rfl rfl ?_)
 refine Qw rfl fun H W2 D C2 al => ?_
 have am := C2.size
 have E := E.trans C2
 have an := D.lt
 replace D : Blk W2 H 44 [(.slice q a.length r)] := D
 refine Zm rfl rfl ?_
 refine Qw rfl fun I W3 C C3 ao => ?_
 have ap := C3.size
 have E := E.trans C3
 have aq := C.lt
 replace C : Blk W3 I 44 [(.slice s b.length t)] := C
 refine Za rfl rfl (Zf rfl) (Ze (Zb (H1 _ _ ?_)))
 refine Zg fun K4 H4 => ?_
 refine Zg fun K5 H5 => ?_
 refine Zc (Za rfl rfl (Zh fa44_0 rfl) ?_)
 have F6 := D.ch0 C3
 refine Za rfl rfl (Zk F6.at_ agg42 rfl rfl) (Za rfl rfl (Xc (by rw [el42]; rfl) rfl) (Za rfl rfl (Zh fa44_0 rfl) (Za rfl rfl (Zk C.at_ agg42 rfl rfl) (Za rfl rfl (Xc (by rw [el42]; rfl) rfl) (Za rfl rfl (Zbg rfl rfl) (Ze (Zb (H5 _ _ ?_))))))))
 refine Zp rfl (fun d => ?_) (fun d => ?_)
 ·have Y := d
  have d := Yj (Qu d)
  refine Zg fun K8 H8 => ?_
  refine Zc (Za rfl rfl (Zf rfl) (Ze (Zb (H8 _ _ ?_))))
  refine Zq (Zo ?_)
  exact Zi [_] ⟨rfl, trivial⟩ ⟨congrArg Value.bool (decide_eq_false (fun e => d (by rw [e]))).symm, E⟩
 have Y := d
 have d := Yi (Qv d)
 refine Zu ?_
 refine Zb (H4 _ _ ?_)
 refine Zg fun K9 H9 => ?_
 refine Zg fun au Z => ?_
 refine Zc (Za rfl rfl (Zf rfl) (Ze (Zb (Z _ _ ?_))))
 refine Zx ?_
 refine Xi (σ := Nat) (fun (k : Nat) => [(2, (.pointer (some ⟨H, 0, none⟩))), (3, (.pointer (some ⟨I, 0, none⟩))), (5, (.int .i64 ((k : Nat) : Int)))]) (fun (k : Nat) wx => Ch [] w wx ∧ W3.heap.size ≤ wx.heap.size ∧ (k ≤ a.length) ∧ (a.take k = b.take k) ∧ Blk wx H 44 [(.slice q a.length r)] ∧ Blk wx I 44 [(.slice s b.length t)]) (fun (k : Nat) => a.length - k) 0 (sC2 rfl rfl (sC1 rfl (Sub.nil _))) ⟨E, (Nat.le_refl _), om, rfl, F6, C⟩ ?_
 rintro k av ⟨E, aa, aw, Q, j, n⟩
 have u := E
 have R := u.size
 have J := j.lt
 have K := n.lt
 refine Zg fun ax ab => ?_
 refine Zg fun ay ac => ?_
 refine Zc (Za rfl rfl (Zd rfl) (Za rfl rfl (Zh fa44_0 rfl) (Za rfl rfl (Zk j.at_ agg42 rfl rfl) (Za rfl rfl (Xc (by rw [el42]; rfl) rfl) (Za rfl rfl (Xs rfl rfl) (Ze (Zb (ac _ _ ?_))))))))
 refine Zp rfl (fun f => ?_) (fun f => ?_)
 ·have L := f
  have f := Yi f
  refine Zu ?_
  refine Zb (ab _ _ ?_)
  refine Zg fun az S => ?_
  refine Zx ?_
  refine Zg fun aA ad => ?_
  refine Xb [] 11 mixed rfl fun aB x => ?_
  have ae := x.size
  have E := E.trans x
  refine dV 0 rfl rfl rfl (fun _ => Zh fa44_0 rfl) ?_
  have T := j.ch0 x
  refine dT 1 rfl rfl rfl (Xh T.at_ (fun i hi => absurd hi List.not_mem_nil) agg42 rfl rfl ?_)
  refine dV 2 rfl rfl rfl (fun _ => Zd rfl) ?_
  have af := (g.ch0 u).ch0 x
  refine dT 3 rfl rfl rfl (Xo af Token.len el42 sz84 rfl rfl rfl om fun ag l o M => ?_)
  refine dT 4 rfl rfl rfl (Yq M (fun i hi => absurd hi List.not_mem_nil) agg84 sz84 rfl ?_)
  refine dV 5 rfl rfl rfl (fun _ => Zh fa44_0 rfl) ?_
  have U := n.ch0 x
  refine dT 6 rfl rfl rfl (Xh U.at_ (fun i hi => absurd hi List.not_mem_nil) agg42 rfl rfl ?_)
  refine dV 7 rfl rfl rfl (fun _ => Zd rfl) ?_
  have ah := (h.ch0 u).ch0 x
  refine dT 8 rfl rfl rfl (Xo ah Token.len el42 sz84 rfl rfl rfl om fun ai m p O => ?_)
  refine dT 9 rfl rfl rfl (Yq O (fun i hi => absurd hi List.not_mem_nil) agg84 sz84 rfl ?_)
  refine dV 10 rfl rfl rfl (fun _ => Zvx [l.kind, l.letter, l.low, l.high] [m.kind, m.letter, m.low, m.high] ist84 rfl rfl rfl) ?_
  refine Yc (by kernel_rfl) ?_
  refine Zb (ad _ _ ?_)
  refine Zp rfl (fun c => ?_) (fun c => ?_)
  ·have P := c
   have c := Yj (Qu c)
   refine Zg fun aC aj => ?_
   refine Zc (Za rfl rfl (Zf rfl) (Ze (Zb (aj _ _ ?_))))
   refine Zq (Yd (Zo (Zo (Yd (Zo ?_)))))
   clear H9 S
   exact Zi [_] ⟨rfl, trivial⟩ ⟨congrArg Value.bool (decide_eq_false (Zkx o p (fun e => c (by rw [e])))).symm, E⟩
  have P := c
  have c := Yi (Qv c)
  refine Zu ?_
  refine Zw (Zb (S _ _ (Zc (Za rfl rfl (Zd rfl) (Za rfl rfl (Yo om rfl rfl) (Za rfl rfl (Zf rfl) (Ze ?_)))))))
  exact Zb (Exists.intro (k + 1) ⟨⟨E, om, om, (Zgk Q o p (Token.inj c)), T, U⟩, sC2 rfl rfl (sC1 rfl (Sub.nil _)), (by first | omega | (dsimp only; omega))⟩)
 have L := f
 have f := Yj f
 refine Xe (Zr (Zr (Yu ?_)))
 refine Zb (H9 _ _ ?_)
 refine Zg fun aD ak => ?_
 refine Zc (Za rfl rfl (Zf rfl) (Ze (Zb (ak _ _ ?_))))
 refine Zq ?_
 exact Zi [_] ⟨rfl, trivial⟩ ⟨congrArg Value.bool (decide_eq_true (Ziy Q om om)).symm, E⟩

/-- spec.IsWord -/
theorem Zaw {w : World} {LL_wd j : Nat} {d : Value} {wd : List Int} (b : Ls ics 1 w LL_wd j d wd) :
 Ctr Try.prog 32 #[d] w (fun v w' => v = .bool (tt (IsWd wd)) ∧ Ch [] w w') := by
 obtain ⟨f, g, h⟩ := b.val
 subst h
 have q := b.len
 have b := b.here (by decide)
 have E := Ch.refl [] w
 refine Ye (N := 19) (vs0 := [(.slice f wd.length g)]) Try.func32 rfl rfl rfl ?_
 refine Zg fun K1 H1 => ?_
 refine Zc (Za rfl rfl (Zf rfl) (Ze (Zb (H1 _ _ ?_))))
 refine Zg fun K2 H2 => ?_
 refine Zg fun K3 H3 => ?_
 refine Zc (Za rfl rfl (Zf rfl) (Ze (Zb (H3 _ _ ?_))))
 refine Zx ?_
 refine Xi (σ := Nat) (fun (k : Nat) => [(0, (.slice f wd.length g)), (3, (.int .i64 ((k : Nat) : Int)))]) (fun (k : Nat) wx => Ch [] w wx ∧ w.heap.size ≤ wx.heap.size ∧ (k ≤ wd.length) ∧ (WdP wd k)) (fun (k : Nat) => wd.length - k) 0 (sC2 rfl rfl (Sub.nil _)) ⟨E, (Nat.le_refl _), om, (Zoy _)⟩ ?_
 rintro k R4 ⟨E, t, F, m⟩
 have l := E
 have r := l.size
 refine Zg fun K5 H5 => ?_
 refine Zg fun K6 H6 => ?_
 refine Zc (Za rfl rfl (Zd rfl) (Za rfl rfl (Zd rfl) (Za rfl rfl (Xc (by rw [el30]; rfl) rfl) (Za rfl rfl (Xs rfl rfl) (Ze (Zb (H6 _ _ ?_)))))))
 refine Zp rfl (fun i => ?_) (fun i => ?_)
 ·have u := i
  have i := Yi i
  refine Zu ?_
  refine Zb (H5 _ _ ?_)
  refine Zg fun K8 H8 => ?_
  refine Zx ?_
  refine Zg fun K9 H9 => ?_
  refine Zc (Za rfl rfl (Zd rfl) (Za rfl rfl (Zd rfl) (Zm rfl rfl ?_)))
  have x := b.ch0 l
  refine (Yw x Xg el30 sz3 rfl rfl rfl om fun y z c n => ?_)
  refine Za rfl rfl (Yr n agg3 rfl rfl) (Zm rfl rfl ?_)
  refine Step.call (Zl (xs := [.tmp 13]) fk75 rfl) (Zci _ ) fun A G o => ?_
  obtain ⟨rfl, s⟩ := o
  have B := s.size
  have E := E.trans s
  refine Za rfl rfl (Zbh rfl) (Ze (Zb (H9 _ _ ?_)))
  refine Zp rfl (fun a => ?_) (fun a => ?_)
  ·have p := a
   have a := Yj (Qu a)
   refine Zg fun H C => ?_
   refine Zc (Za rfl rfl (Zf rfl) (Ze (Zb (C _ _ ?_))))
   refine Zq (Yd (Zo (Zo (Yd (Zo ?_)))))
   clear H2 H8
   exact Zi [_] ⟨rfl, trivial⟩ ⟨congrArg Value.bool (by first | exact Xp (fun e => a (Zmt e c)) | (rw [Zhl]; exact Zgn ⟨fun e => ⟨Zmv m om, by omega⟩, fun e => by have := e.2; omega⟩)), E⟩
  have p := a
  have a := Yi (Qv a)
  refine Zu ?_
  refine Zw (Zb (H8 _ _ (Zc (Za rfl rfl (Zd rfl) (Za rfl rfl (Yo om rfl rfl) (Za rfl rfl (Zf rfl) (Ze ?_)))))))
  exact Zb (Exists.intro (k + 1) ⟨⟨E, om, om, (Zpe m c a)⟩, sC2 rfl rfl (Sub.nil _), (by first | omega | (dsimp only; omega))⟩)
 have u := i
 have i := Yj i
 refine Xe (Zr (Zr (Yu ?_)))
 refine Zb (H2 _ _ ?_)
 refine Zg fun I D => ?_
 refine Zc (Za rfl rfl (Zd rfl) (Za rfl rfl (Xc (by rw [el30]; rfl) rfl) (Za rfl rfl (Zgl rfl rfl) (Za rfl rfl (Zf rfl) (Ze (Zb (D _ _ ?_)))))))
 refine Zq ?_
 exact Zi [_] ⟨rfl, trivial⟩ ⟨congrArg Value.bool (by first | exact Xp (fun e => a (Zmt e c)) | (rw [Zhl]; exact Zgn ⟨fun e => ⟨Zmv m om, by omega⟩, fun e => by have := e.2; omega⟩)), E⟩

/-- spec.l9Grid -/
theorem Zal {w : World} (n : Nat) (same : Bool) (hb : n ≤ 4097) :
 Ctr Try.prog 115 #[(.int .i64 ((n : Nat) : Int)), (.bool same)] w (fun v w' => ∃ (H : Value) (vs0 : List Sv), v = H ∧ Ol Sv.cs 24 1 w' H vs0 ∧ Lo w.heap.size H ∧ Od bcs 4 1 w' w.heap.size w'.heap.size vs0 (grd n (idM same)) ∧ Sep H vs0 ∧ Ch [] w w') := by
 have E := Ch.refl [] w
 refine Ye (N := 25) (vs0 := [(.int .i64 ((n : Nat) : Int)), (.bool same)]) Try.func115 rfl rfl rfl ?_
 refine Zg fun K1 H1 => ?_
 refine Zc (Za rfl rfl (Zf rfl) (Ze (Zb (H1 _ _ ?_))))
 refine Zg fun K2 H2 => ?_
 refine Zc (Zm rfl rfl ?_)
 refine Zab (k := 1) Sv.cs el142 sz24 fun aG W3 V L C3 => ?_
 have aH := C3.size
 have E := E.trans C3
 obtain ⟨t, x, rfl, ak, X⟩ := V.opn
 refine Za rfl rfl (Zf rfl) (Ze (Zb (H2 _ _ ?_)))
 refine Zg fun K4 H4 => ?_
 refine Zg fun K5 H5 => ?_
 refine Zc (Za rfl rfl (Zf rfl) (Ze (Zb (H5 _ _ ?_))))
 refine Zx ?_
 have y : Ol Sv.cs 24 1 W3 (.slice t (([] : List Sv)).length x) (([] : List Sv)) := by
  have hx := V
  exact hx
 refine Xi (σ := Nat × List Sv × Value) (fun ⟨i, vs, kv⟩ => [(0, (.int .i64 ((n : Nat) : Int))), (1, (.bool same)), (4, (.slice none 0 0)), (5, kv), (6, (.int .i64 ((i : Nat) : Int)))]) (fun ⟨i, vs, kv⟩ wx => Ch [] w wx ∧ W3.heap.size ≤ wx.heap.size ∧ (i ≤ n) ∧ (vs.length = i) ∧ Ol Sv.cs 24 1 wx kv vs ∧ Lo w.heap.size kv ∧ Od bcs 4 1 wx W3.heap.size wx.heap.size vs ((grd n (idM same)).take i) ∧ (Sep kv vs)) (fun ⟨i, vs, kv⟩ => n - i) (0, ([] : List Sv), (.slice t (([] : List Sv)).length x)) (sC4 rfl rfl rfl rfl (sC1 rfl (Sub.nil _))) ⟨E, (Nat.le_refl _), om, rfl, y, L, Od.nil, (fun u hu => by cases hu)⟩ ?_
 rintro ⟨i, vs, kv⟩ R7 ⟨E, al, hi, hvl, l, a, od, f⟩
 have M := E
 have Y := M.size
 obtain ⟨Akv, Ckv, rfl, lkv, hikv⟩ := l.opn
 refine Zg fun K8 H8 => ?_
 refine Zg fun K9 H9 => ?_
 refine Zc (Za rfl rfl (Zd rfl) (Za rfl rfl (Zd rfl) (Za rfl rfl (Xs rfl rfl) (Ze (Zb (H9 _ _ ?_))))))
 refine Zp rfl (fun h => ?_) (fun h => ?_)
 ·have O := h
  have h := Yi h
  refine Zu ?_
  refine Zb (H8 _ _ ?_)
  refine Zg fun aI am => ?_
  refine Zx ?_
  refine Zg fun aJ an => ?_
  refine Zc (Za rfl rfl (Zd rfl) (Zm rfl rfl ?_))
  refine Zkr (cs := bcs) false el24 sz4 by4 zr4 Qg (by decide) rfl rfl om om fun ao aK q c I => ?_
  have ap := I.size
  have E := E.trans I
  obtain ⟨d, e, rfl, Z, b⟩ := q.opn
  refine Za rfl rfl (Zf rfl) (Ze (Zb (an _ _ ?_)))
  refine Zg fun aL aq => ?_
  refine Zc (Za rfl rfl (Zd rfl) (Za rfl rfl (Zd rfl) (Za rfl rfl (Zd rfl) (Zm rfl rfl ?_))))
  refine Qj (j := i) q el24 sz4 rfl rfl rfl (by (simp; omega)) fun au av aa P => ?_
  refine Zm rfl rfl ?_
  refine Qk (j := i) same q P Qg sz4 rfl rfl rfl rfl (by (simp; omega)) fun aM z J => ?_
  have aw := J.size
  have E := E.step J (fun i hi => .inl (by have s := c _ hi; omega))
  refine Ze (Zb (aq _ _ (Zc (Za rfl rfl (Zd rfl) (Za rfl rfl (Zd rfl) (Zm rfl rfl ?_))))))
  refine Ym (cs := Sv.cs) (parts := [(0, .tmp 21)]) (⟨none, 0, 0⟩ : Sv) [(⟨d, ((List.replicate n false)).length, e⟩ : Sv)] el142 sz24 zr24 Sv.len (by decide) rfl rfl rfl (by decide) (by decide) rfl fun ax ab A ac B => ?_
  have ay := B.size
  have E := E.trans B
  obtain ⟨ad, ae, rfl, af, Q⟩ := A.opn
  have ag := z.ch0 B
  have ah : Rd bcs 1 ab 0 ab.heap.size ([(⟨d, ((List.replicate n false)).length, e⟩ : Sv)]) ([((List.replicate n false).set i same)]) := (Rd.cons (ag.ls.up om om) Rd.nil)
  refine Zm rfl rfl ?_
  have az := ((l.ch0 I).ch J (fun g hg hm => by have s := c _ hm; have R := b _ hm; have S := a _ hg; have T := hikv _ hg; omega)).ch0 B
  refine Xn (cs := Sv.cs) el142 sz24 by24 zr24 rfl (by decide) Sv.one az A.ls rfl rfl (by simp only [List.length_singleton]; omega) (by simp only [List.length_singleton]; omega) a om fun aA aB C D m K => ?_
  have aC := K.size
  have E := E.step K (fun i hi => .inl (by have s := a _ hi; omega))
  obtain ⟨o, p, rfl, ai, U⟩ := C.opn
  refine Za rfl rfl (Zf rfl) (Ze (Zw (Zb (am _ _ (Zc (Za rfl rfl (Zd rfl) (Za rfl rfl (Yo om rfl rfl) (Za rfl rfl (Zf rfl) ?_))))))))
  refine Ze ?_
  have r : Ol Sv.cs 24 1 aB (.slice o ((vs ++ [(⟨d, ((List.replicate n false)).length, e⟩ : Sv)])).length p) ((vs ++ [(⟨d, ((List.replicate n false)).length, e⟩ : Sv)])) := by
   have hx := C
   exact hx
  have aj := (((od.ch0 I).ch J (fun i hm => by have s := c _ hm; have R := b _ hm; omega)).ch0 B).chS K f
  have aD := ag.ch K (fun g hg hm => by have s := a _ hm; have R := hikv _ hm; have S := c _ hg; have T := b _ hg; omega)
  exact Zb (Exists.intro ((i + 1), (vs ++ [(⟨d, ((List.replicate n false)).length, e⟩ : Sv)]), (.slice o ((vs ++ [(⟨d, ((List.replicate n false)).length, e⟩ : Sv)])).length p)) ⟨⟨E, om, om, (by simp [hvl]), r, (Lo.down D om), (by rw [Zaa (Zho om)]; exact Od.snoc aj (aD.eq (by exact Zsr)) (Lo.down c om) (fun g hg => by have s := b g hg; omega) om om), (fun u hu g hg hm => by rcases List.mem_append.1 hu with hu | hu; (rcases m with ea | ea; (rw [ea] at hm; exact f _ hu _ hg hm); (rw [ea] at hm; have aE := List.mem_singleton.1 hm; have aN := aj.rng hu hg; omega)); (rw [List.mem_singleton.1 hu] at hg; replace hg : g ∈ bl (.slice d ((List.replicate n false)).length e) := hg; rcases m with ea | ea; (rw [ea] at hm; have s := a _ hm; have R := hikv _ hm; have S := c _ hg; have T := b _ hg; omega); (rw [ea] at hm; have aE := List.mem_singleton.1 hm; have S := c _ hg; have T := b _ hg; omega)))⟩, sC4 rfl rfl rfl rfl (sC1 rfl (Sub.nil _)), (by first | omega | (dsimp only; omega))⟩)
 have O := h
 have h := Yj h
 refine Xe (Zr (Zr (Yu ?_)))
 refine Zb (H4 _ _ ?_)
 refine Zg fun aO aF => ?_
 refine Zc (Za rfl rfl (Zd rfl) (Za rfl rfl (Zf rfl) (Ze (Zb (aF _ _ ?_)))))
 refine Zq ?_
 have F : Ol Sv.cs 24 1 R7 (.slice Akv (vs).length Ckv) vs := by
  have hx := l
  exact hx
 have G : Od bcs 4 1 R7 w.heap.size R7.heap.size vs (grd n (idM same)) := by
  have hx := od.up (lo' := w.heap.size) (hi' := R7.heap.size) om om
  rwa [List.take_of_length_le (by rw [Ql]; omega)] at hx
 exact Zi [_] ⟨rfl, trivial⟩ ⟨(.slice Akv (vs).length Ckv), vs, rfl, F, (Lo.down a om), G, f, E⟩

/-- spec.l9Either -/
theorem Zdq {w : World} {LL_sa aw : Nat} {ab : Value} {sa : List Sv} (t : Ls Sv.cs 1 w LL_sa aw ab sa) {LR_a BB_a : Nat} {a : List (List Bool)} (J : Rd bcs 1 w LR_a BB_a sa a) {LL_sb ax : Nat} {ac : Value} {sb : List Sv} (u : Ls Sv.cs 1 w LL_sb ax ac sb) {LR_b BB_b : Nat} {b : List (List Bool)} (K : Rd bcs 1 w LR_b BB_b sb b) (n : Nat) (A : Nat → Nat → Bool) (B : Nat → Nat → Bool) (ha : a = grd n A) (hb : b = grd n B) (ta : Tri A) (tb : Tri B) (hn : n ≤ 4097) :
 Ctr Try.prog 117 #[ab, ac] w (fun v w' => ∃ (aU : Value) (vs0 : List Sv), v = aU ∧ Ol Sv.cs 24 1 w' aU vs0 ∧ Lo w.heap.size aU ∧ Od bcs 4 1 w' w.heap.size w'.heap.size vs0 (grd n (oeM A B)) ∧ Sep aU vs0 ∧ Ch [] w w') := by
 obtain ⟨S, T, ag⟩ := t.val
 subst ag
 have be := t.len
 have t := t.here (by decide)
 have J := J.here (by decide)
 have ay := J.1
 obtain ⟨U, V, ah⟩ := u.val
 subst ah
 have bf := u.len
 have u := u.here (by decide)
 have K := K.here (by decide)
 have az := K.1
 have E := Ch.refl [] w
 have aV : sa.length = n := (by rw [ay, ha, Ql]); have br : sb.length = n := (by rw [az, hb, Ql])
 refine Ye (N := 47) (vs0 := [(.slice S sa.length T), (.slice U sb.length V)]) Try.func117 rfl rfl rfl ?_
 refine Zg fun K1 H1 => ?_
 refine Zc (Za rfl rfl (Zf rfl) (Ze (Zb (H1 _ _ ?_))))
 refine Zg fun K2 H2 => ?_
 refine Zc (Za rfl rfl (Zd rfl) (Za rfl rfl (Xc (by rw [el142]; rfl) rfl) (Zm rfl rfl ?_)))
 refine Step.call (Zl (xs := [.tmp 9, .const (Go.Value.bool false)]) fk115 rfl) (Zal sa.length _ om) fun bs W3 aW => ?_
 obtain ⟨bg, c, rfl, x, Q, C, o, C3⟩ := aW
 have b2 := C3.size
 have E := E.trans C3
 obtain ⟨f, h, rfl, aX, aA⟩ := x.opn
 refine Za rfl rfl (Zf rfl) (Ze (Zb (H2 _ _ ?_)))
 refine Zg fun K4 H4 => ?_
 refine Zg fun K5 H5 => ?_
 refine Zc (Za rfl rfl (Zf rfl) (Ze (Zb (H5 _ _ ?_))))
 refine Zx ?_
 refine Xi (σ := Nat) (fun (i : Nat) => [(0, (.slice S sa.length T)), (1, (.slice U sb.length V)), (4, (.slice none 0 0)), (5, (.slice f (c).length h)), (6, (.int .i64 ((i : Nat) : Int)))]) (fun (i : Nat) wx => Ch [] w wx ∧ W3.heap.size ≤ wx.heap.size ∧ (i ≤ n) ∧ Ol Sv.cs 24 1 wx (.slice f (c).length h) c ∧ Od bcs 4 1 wx w.heap.size W3.heap.size c (grd n (upt (oeM A B) i 0))) (fun (i : Nat) => n - i) 0 (sC4 rfl rfl rfl rfl (sC1 rfl (Sub.nil _))) ⟨E, (Nat.le_refl _), om, x, (C.eq (by rw [aV]; exact Znp))⟩ ?_
 rintro i R6 ⟨E, bu, hi, ad, od⟩
 have aY := E
 have bh := aY.size
 refine Zg fun K7 H7 => ?_
 refine Zg fun K8 H8 => ?_
 refine Zc (Za rfl rfl (Zd rfl) (Za rfl rfl (Zd rfl) (Za rfl rfl (Xc (by rw [el142]; rfl) rfl) (Za rfl rfl (Xs rfl rfl) (Ze (Zb (H8 _ _ ?_)))))))
 refine Zp rfl (fun D => ?_) (fun D => ?_)
 ·have bv := D
  have D := Yi D
  refine Zu ?_
  refine Zb (H7 _ _ ?_)
  refine Zg fun b3 bw => ?_
  refine Zx ?_
  refine Zg fun b4 bx => ?_
  refine Zc (Za rfl rfl (Zd rfl) (Za rfl rfl (Zf rfl) (Ze (Zb (bx _ _ ?_)))))
  refine Zx ?_
  refine Xi (σ := Nat) (fun (j : Nat) => [(0, (.slice S sa.length T)), (1, (.slice U sb.length V)), (4, (.slice none 0 0)), (5, (.slice f (c).length h)), (6, (.int .i64 ((i : Nat) : Int))), (7, (.int .i64 ((j : Nat) : Int))), (14, (.bool (decide (((i : Nat) : Int) < ((sa.length : Nat) : Int)))))]) (fun (j : Nat) wx => Ch [] w wx ∧ R6.heap.size ≤ wx.heap.size ∧ (j ≤ n) ∧ Ol Sv.cs 24 1 wx (.slice f (c).length h) c ∧ Od bcs 4 1 wx w.heap.size W3.heap.size c (grd n (upt (oeM A B) i j))) (fun (j : Nat) => n - j) i (sC4 rfl rfl rfl rfl (sC2 rfl rfl (sC1 rfl (Sub.nil _)))) ⟨E, (Nat.le_refl _), om, ad, (od.eq (Zuy (ta.or tb)))⟩ ?_
  rintro j bz ⟨E, bA, hj, L, od⟩
  have X := E
  have bi := X.size
  refine Zg fun b5 bB => ?_
  refine Zg fun b6 bC => ?_
  refine Zc (Za rfl rfl (Zd rfl) (Za rfl rfl (Zd rfl) (Za rfl rfl (Xc (by rw [el142]; rfl) rfl) (Za rfl rfl (Xs rfl rfl) (Ze (Zb (bC _ _ ?_)))))))
  refine Zp rfl (fun F => ?_) (fun F => ?_)
  ·have aZ := F
   have F := Yi F
   refine Zu ?_
   refine Zb (bB _ _ ?_)
   refine Zg fun b7 bj => ?_
   refine Zx ?_
   have ai := (od).1
   rw [Ql] at ai
   obtain ⟨ae, aj, ak⟩ := Ol.lsE L om
   obtain ⟨aB, s⟩ := Zdx (xs := c) (j := i) om
   have aC : Sep (.slice f (c).length h) c := o
   have G := aC _ (Xw s)
   obtain ⟨e, k, l, Y⟩ := od.ownget s
   have M := s
   obtain ⟨p, bk, q⟩ := aB
   obtain rfl := l.ls.eqn
   have bm := l.len
   have m : Lo w.heap.size (.slice p e.length q) := fun g hg => (Y g hg).1
   have O : ∀ g ∈ bl (.slice p e.length q), g < W3.heap.size := fun g hg => (Y g hg).2
   replace l : Ol bcs 4 1 bz (.slice p e.length q) e := l
   have bn := Zai rfl k
   refine Xb (bl (.slice p e.length q)) 23 mixed rfl fun al R => ?_
   have bD := R.size
   have E := E.trans R
   refine dV 0 rfl rfl rfl (fun _ => Zd rfl) (dV 1 rfl rfl rfl (fun _ => Zd rfl) ?_)
   have bE := ak.ch0 R
   refine dT 2 rfl rfl rfl (Xo bE Sv.len el142 sz24 rfl rfl rfl om fun a0 bF aD am => ?_)
   obtain rfl := Zbt s aD
   replace am : At al ae (ae + 1) a0 ([(.slice p e.length q)]) := am
   refine dT 3 rfl rfl rfl (Yx am (fun i hm => Zgf (G i hm) aj) agg24 rfl rfl ?_)
   refine dV 4 rfl rfl rfl (fun _ => Zd rfl) (dV 5 rfl rfl rfl (fun _ => Zd rfl) (dV 6 rfl rfl rfl (fun _ => Zd rfl) ?_))
   have bG := (t.ch0 X).ch0 R
   have bH := (J.ch0 X).ch0 R
   refine dT 7 rfl rfl rfl (Xo bG Sv.len el142 sz24 rfl rfl rfl om fun a1 a2 aE an => ?_)
   obtain ⟨Z, r, y⟩ := bH.get aE
   obtain ⟨aF, bI, aG⟩ := a2
   obtain rfl := y.eqn
   have bJ := y.len
   replace y : Ls bcs 1 al LR_a w.heap.size (.slice aF Z.length aG) Z := y
   replace an : At al LL_sa w.heap.size a1 ([(.slice aF Z.length aG)]) := an
   have bK := Zai ha r
   refine dT 8 rfl rfl rfl (Yx an (fun i hm => by have aH := m _ hm; have a3 := O _ hm; omega) agg24 rfl rfl ?_)
   refine dV 9 rfl rfl rfl (fun _ => Zd rfl) ?_
   refine dT 10 rfl rfl rfl (Xo y Qg el24 sz4 rfl rfl rfl om fun bL bM P a4 => ?_)
   refine dT 11 rfl rfl rfl (Yx a4 (fun i hm => by have aH := m _ hm; have a3 := O _ hm; omega) agg4 rfl rfl ?_)
   refine dV 12 rfl rfl rfl (fun _ => Zd rfl) ?_
   refine Qn (d := 36) rfl (fun H => ?_) (fun H => ?_)
   ·have a5 := H
    refine dK 13 rfl rfl rfl (dK 14 rfl rfl rfl (dK 15 rfl rfl rfl (dK 16 rfl rfl rfl (dK 17 rfl rfl rfl (dK 18 rfl rfl rfl (dK 19 rfl rfl rfl (dV 20 rfl rfl rfl (fun _ => Ya rfl rfl) ?_)))))))
    refine dO 21 (Zz rfl rfl rfl ?_)
    have bp := l.ch0 R
    refine Qj (j := j) bp el24 sz4 rfl rfl rfl om fun a6 a7 aI ao => ?_
    refine ⟨(Ch.refl _ _), ?_⟩
    refine dO 22 (Zz rfl rfl rfl ?_)
    refine Qk (j := j) true bp ao Qg sz4 rfl rfl rfl rfl om fun bN aJ aK => ?_
    have bO := od.ch0 R
    have bP := aK.size
    have E := E.step aK (fun i hi => .inl (by have aH := m _ hi; omega))
    have ap := Od.set bO M k aK aJ
    have aL : Ch (bl (.slice p e.length q)) al bN := ((Ch.refl _ _).step aK (fun i hm => by exact .inr hm))
    refine ⟨aL, ?_⟩
    refine Yc (by kernel_rfl) ?_
    refine Zw (Zb (bj _ _ (Zc (Za rfl rfl (Zd rfl) (Za rfl rfl (Yo om rfl rfl) (Za rfl rfl (Zf rfl) (Ze ?_)))))))
    have bQ := (L.ch0 R).ch aK (fun g hg hm => by exact G _ hm hg)
    exact Zb (Exists.intro (j + 1) ⟨⟨E, om, om, bQ, (ap.eq (Zgx rfl k (by first | (have aq := Zbp ha r P; simp [oeM, ← aq, H]; done) | (have aq := Zbp ha r P; have a8 := Zbp hb I af; simp [oeM, ← aq, ← a8, H]; done))))⟩, sC4 rfl rfl rfl rfl (sC2 rfl rfl (sC1 rfl (Sub.nil _))), (by first | omega | (dsimp only; omega))⟩)
   have a5 := H
   refine dV 13 rfl rfl rfl (fun _ => Zd rfl) (dV 14 rfl rfl rfl (fun _ => Zd rfl) ?_)
   have bR := (u.ch0 X).ch0 R
   have bS := (K.ch0 X).ch0 R
   refine dT 15 rfl rfl rfl (Xo bR Sv.len el142 sz24 rfl rfl rfl om fun a9 ba aM au => ?_)
   obtain ⟨aa, I, z⟩ := bS.get aM
   obtain ⟨aN, bT, aO⟩ := ba
   obtain rfl := z.eqn
   have bU := z.len
   replace z : Ls bcs 1 al LR_b w.heap.size (.slice aN aa.length aO) aa := z
   replace au : At al LL_sb w.heap.size a9 ([(.slice aN aa.length aO)]) := au
   have bV := Zai hb I
   refine dT 16 rfl rfl rfl (Yx au (fun i hm => by have aH := m _ hm; have a3 := O _ hm; omega) agg24 rfl rfl ?_)
   refine dV 17 rfl rfl rfl (fun _ => Zd rfl) ?_
   refine dT 18 rfl rfl rfl (Xo z Qg el24 sz4 rfl rfl rfl om fun bW bb af bc => ?_)
   refine dT 19 rfl rfl rfl (Yx bc (fun i hm => by have aH := m _ hm; have a3 := O _ hm; omega) agg4 rfl rfl ?_)
   refine dV 20 rfl rfl rfl (fun _ => Yb rfl rfl) (dO 21 (Zz rfl rfl rfl ?_))
   have bq := l.ch0 R
   refine Qj (j := j) bq el24 sz4 rfl rfl rfl om fun a6 a7 aI ao => ?_
   refine ⟨(Ch.refl _ _), ?_⟩
   refine dO 22 (Zz rfl rfl rfl ?_)
   refine Qk (j := j) bb bq ao Qg sz4 rfl rfl rfl rfl om fun bX aP aQ => ?_
   have bY := od.ch0 R
   have bZ := aQ.size
   have E := E.step aQ (fun i hi => .inl (by have aH := m _ hi; omega))
   have av := Od.set bY M k aQ aP
   have aR : Ch (bl (.slice p e.length q)) al bX := ((Ch.refl _ _).step aQ (fun i hm => by exact .inr hm))
   refine ⟨aR, ?_⟩
   refine Yc (by kernel_rfl) ?_
   refine Zw (Zb (bj _ _ (Zc (Za rfl rfl (Zd rfl) (Za rfl rfl (Yo om rfl rfl) (Za rfl rfl (Zf rfl) (Ze ?_)))))))
   have b0 := (L.ch0 R).ch aQ (fun g hg hm => by exact G _ hm hg)
   exact Zb (Exists.intro (j + 1) ⟨⟨E, om, om, b0, (av.eq (Zgx rfl k (by first | (have aq := Zbp ha r P; simp [oeM, ← aq, H]; done) | (have aq := Zbp ha r P; have a8 := Zbp hb I af; simp [oeM, ← aq, ← a8, H]; done))))⟩, sC4 rfl rfl rfl rfl (sC2 rfl rfl (sC1 rfl (Sub.nil _))), (by first | omega | (dsimp only; omega))⟩)
  have aZ := F
  have F := Yj F
  refine Xe (Zr (Zr (Yu ?_)))
  refine Zw (Zb (bw _ _ (Zc (Za rfl rfl (Zd rfl) (Za rfl rfl (Yo om rfl rfl) (Za rfl rfl (Zf rfl) (Ze ?_)))))))
  exact Zb (Exists.intro (i + 1) ⟨⟨E, om, om, L, (od.eq (Zpn om))⟩, sC4 rfl rfl rfl rfl (sC1 rfl (Sub.nil _)), (by first | omega | (dsimp only; omega))⟩)
 have bv := D
 have D := Yj D
 refine Xe (Zr (Zr (Yu ?_)))
 refine Zb (H4 _ _ ?_)
 refine Zg fun b8 b1 => ?_
 refine Zc (Za rfl rfl (Zd rfl) (Za rfl rfl (Zf rfl) (Ze (Zb (b1 _ _ ?_)))))
 refine Zq ?_
 have aS : Ol Sv.cs 24 1 R6 (.slice f (c).length h) c := by
  have hx := ad
  exact hx
 have aT : Od bcs 4 1 R6 w.heap.size R6.heap.size c (grd n (oeM A B)) := by
  have hx := od.up (lo' := w.heap.size) (hi' := R6.heap.size) om om
  rwa [Zqb om] at hx
 exact Zi [_] ⟨rfl, trivial⟩ ⟨(.slice f (c).length h), c, rfl, aS, (Lo.down Q om), aT, o, E⟩

/-- spec.l9Joined -/
theorem Zch {w : World} {LL_sa aC : Nat} {ag : Value} {sa : List Sv} (u : Ls Sv.cs 1 w LL_sa aC ag sa) {LR_a BB_a : Nat} {a : List (List Bool)} (M : Rd bcs 1 w LR_a BB_a sa a) {LL_sb aD : Nat} {ah : Value} {sb : List Sv} (x : Ls Sv.cs 1 w LL_sb aD ah sb) {LR_b BB_b : Nat} {b : List (List Bool)} (O : Rd bcs 1 w LR_b BB_b sb b) (n : Nat) (A : Nat → Nat → Bool) (B : Nat → Nat → Bool) (ha : a = grd n A) (hb : b = grd n B) (ta : Tri A) (tb : Tri B) (hn : n ≤ 4097) :
 Ctr Try.prog 116 #[ag, ah] w (fun v w' => ∃ (a2 : Value) (vs0 : List Sv), v = a2 ∧ Ol Sv.cs 24 1 w' a2 vs0 ∧ Lo w.heap.size a2 ∧ Od bcs 4 1 w' w.heap.size w'.heap.size vs0 (grd n (mulM n A B)) ∧ Sep a2 vs0 ∧ Ch [] w w') := by
 obtain ⟨P, Q, am⟩ := u.val
 subst am
 have bv := u.len
 have u := u.here (by decide)
 have M := M.here (by decide)
 have aE := M.1
 obtain ⟨R, S, an⟩ := x.val
 subst an
 have bw := x.len
 have x := x.here (by decide)
 have O := O.here (by decide)
 have aF := O.1
 have E := Ch.refl [] w
 have a3 : sa.length = n := (by rw [aE, ha, Ql]); have bJ : sb.length = n := (by rw [aF, hb, Ql])
 refine Ye (N := 64) (vs0 := [(.slice P sa.length Q), (.slice R sb.length S)]) Try.func116 rfl rfl rfl ?_
 refine Zg fun K1 H1 => ?_
 refine Zc (Za rfl rfl (Zf rfl) (Ze (Zb (H1 _ _ ?_))))
 refine Zg fun K2 H2 => ?_
 refine Zc (Za rfl rfl (Zd rfl) (Za rfl rfl (Xc (by rw [el142]; rfl) rfl) (Zm rfl rfl ?_)))
 refine Step.call (Zl (xs := [.tmp 10, .const (Go.Value.bool false)]) fk115 rfl) (Zal sa.length _ om) fun bK W3 a4 => ?_
 obtain ⟨bx, c, rfl, y, X, F, m, C3⟩ := a4
 have cp := C3.size
 have E := E.trans C3
 obtain ⟨f, h, rfl, a5, aG⟩ := y.opn
 refine Za rfl rfl (Zf rfl) (Ze (Zb (H2 _ _ ?_)))
 refine Zg fun K4 H4 => ?_
 refine Zg fun K5 H5 => ?_
 refine Zc (Za rfl rfl (Zf rfl) (Ze (Zb (H5 _ _ ?_))))
 refine Zx ?_
 refine Xi (σ := Nat) (fun (i : Nat) => [(0, (.slice P sa.length Q)), (1, (.slice R sb.length S)), (4, (.slice none 0 0)), (5, (.slice f (c).length h)), (6, (.int .i64 ((i : Nat) : Int)))]) (fun (i : Nat) wx => Ch [] w wx ∧ W3.heap.size ≤ wx.heap.size ∧ (i ≤ n) ∧ Ol Sv.cs 24 1 wx (.slice f (c).length h) c ∧ Od bcs 4 1 wx w.heap.size W3.heap.size c (grd n (mupt n A B i 0 0))) (fun (i : Nat) => n - i) 0 (sC4 rfl rfl rfl rfl (sC1 rfl (Sub.nil _))) ⟨E, (Nat.le_refl _), om, y, (F.eq (by rw [a3]; exact Zle))⟩ ?_
 rintro i R6 ⟨E, bL, hi, ai, od⟩
 have a6 := E
 have bz := a6.size
 refine Zg fun K7 H7 => ?_
 refine Zg fun K8 H8 => ?_
 refine Zc (Za rfl rfl (Zd rfl) (Za rfl rfl (Zd rfl) (Za rfl rfl (Xc (by rw [el142]; rfl) rfl) (Za rfl rfl (Xs rfl rfl) (Ze (Zb (H8 _ _ ?_)))))))
 refine Zp rfl (fun G => ?_) (fun G => ?_)
 ·have bM := G
  have G := Yi G
  refine Zu ?_
  refine Zb (H7 _ _ ?_)
  refine Zg fun cq bN => ?_
  refine Zx ?_
  refine Zg fun cr bO => ?_
  refine Zc (Za rfl rfl (Zd rfl) (Za rfl rfl (Zf rfl) (Ze (Zb (bO _ _ ?_)))))
  refine Zx ?_
  refine Xi (σ := Nat) (fun (k : Nat) => [(0, (.slice P sa.length Q)), (1, (.slice R sb.length S)), (4, (.slice none 0 0)), (5, (.slice f (c).length h)), (6, (.int .i64 ((i : Nat) : Int))), (7, (.int .i64 ((k : Nat) : Int))), (15, (.bool (decide (((i : Nat) : Int) < ((sa.length : Nat) : Int)))))]) (fun (k : Nat) wx => Ch [] w wx ∧ R6.heap.size ≤ wx.heap.size ∧ (k ≤ n) ∧ Ol Sv.cs 24 1 wx (.slice f (c).length h) c ∧ Od bcs 4 1 wx w.heap.size W3.heap.size c (grd n (mupt n A B i k 0))) (fun (k : Nat) => n - k) i (sC4 rfl rfl rfl rfl (sC2 rfl rfl (sC1 rfl (Sub.nil _)))) ⟨E, (Nat.le_refl _), om, ai, (od.eq (Zqs ta))⟩ ?_
  rintro k bP ⟨E, bQ, ct, aj, od⟩
  have a7 := E
  have bA := a7.size
  refine Zg fun cu bR => ?_
  refine Zg fun cv bS => ?_
  refine Zc (Za rfl rfl (Zd rfl) (Za rfl rfl (Zd rfl) (Za rfl rfl (Xc (by rw [el142]; rfl) rfl) (Za rfl rfl (Xs rfl rfl) (Ze (Zb (bS _ _ ?_)))))))
  refine Zp rfl (fun H => ?_) (fun H => ?_)
  ·have a8 := H
   have H := Yi H
   refine Zu ?_
   refine Zb (bR _ _ ?_)
   refine Zg fun cw bB => ?_
   refine Zx ?_
   refine Zg fun cx bT => ?_
   refine Zc (Za rfl rfl (Zd rfl) (Za rfl rfl (Zf rfl) (Ze (Zb (bT _ _ ?_)))))
   refine Zx ?_
   refine Xi (σ := Nat) (fun (j : Nat) => [(0, (.slice P sa.length Q)), (1, (.slice R sb.length S)), (4, (.slice none 0 0)), (5, (.slice f (c).length h)), (6, (.int .i64 ((i : Nat) : Int))), (7, (.int .i64 ((k : Nat) : Int))), (8, (.int .i64 ((j : Nat) : Int))), (15, (.bool (decide (((i : Nat) : Int) < ((sa.length : Nat) : Int))))), (22, (.bool (decide (((k : Nat) : Int) < ((sa.length : Nat) : Int)))))]) (fun (j : Nat) wx => Ch [] w wx ∧ bP.heap.size ≤ wx.heap.size ∧ (j ≤ n) ∧ Ol Sv.cs 24 1 wx (.slice f (c).length h) c ∧ Od bcs 4 1 wx w.heap.size W3.heap.size c (grd n (mupt n A B i k j))) (fun (j : Nat) => n - j) k (sC8 rfl rfl rfl rfl rfl rfl rfl rfl (sC1 rfl (Sub.nil _))) ⟨E, (Nat.le_refl _), om, aj, (od.eq (Zqr tb))⟩ ?_
   rintro j a9 ⟨E, bU, hj, z, od⟩
   have Y := E
   have bC := Y.size
   refine Zg fun cy bV => ?_
   refine Zg fun cz bD => ?_
   refine Zc (Za rfl rfl (Zd rfl) (Za rfl rfl (Zd rfl) (Za rfl rfl (Xc (by rw [el142]; rfl) rfl) (Za rfl rfl (Xs rfl rfl) (Za rfl rfl (Zd rfl) ?_)))))
   refine Yp (d := 30) rfl (fun I => ?_) (fun I => ?_)
   ·have ba := I
    have I := Yi I
    refine Za rfl rfl (Zd rfl) (Za rfl rfl (Zd rfl) (Zm rfl rfl ?_))
    have bW := u.ch0 Y
    refine (Yw bW Sv.len el142 sz24 rfl rfl rfl om fun bb bc aH ao => ?_)
    have bX := M.ch0 Y
    obtain ⟨Z, aa, C⟩ := bX.get aH
    obtain ⟨aI, bY, aJ⟩ := bc
    obtain rfl := C.eqn
    have bZ := C.len
    replace C : Ls bcs 1 a9 LR_a w.heap.size (.slice aI Z.length aJ) Z := C
    replace ao : At a9 LL_sa w.heap.size bb ([(.slice aI Z.length aJ)]) := ao
    have b0 := Zai ha aa
    refine Za rfl rfl (Yr ao agg24 rfl rfl) (Za rfl rfl (Zd rfl) (Zm rfl rfl ?_))
    refine (Yw C Qg el24 sz4 rfl rfl rfl om fun b1 b2 aK be => ?_)
    have af := Zbp ha aa aK
    refine Za rfl rfl (Yr be agg4 rfl rfl) (Za rfl rfl (Ya rfl rfl) (Ze (Zb (bD _ _ ?_))))
    refine Zp rfl (fun J => ?_) (fun J => ?_)
    ·have bf := J
     refine Zu ?_
     refine Zb (bV _ _ ?_)
     refine Zg fun cA bE => ?_
     refine Zx ?_
     have ap := (od).1
     rw [Ql] at ap
     obtain ⟨T, ab, aq⟩ := Ol.lsE z om
     obtain ⟨aL, q⟩ := Zdx (xs := c) (j := i) om
     have aM : Sep (.slice f (c).length h) c := m
     have s := aM _ (Xw q)
     obtain ⟨l, e, r, ac⟩ := od.ownget q
     have U := q
     obtain ⟨o, bF, p⟩ := aL
     obtain rfl := r.ls.eqn
     have bG := r.len
     have t : Lo w.heap.size (.slice o l.length p) := fun g hg => (ac g hg).1
     have ak : ∀ g ∈ bl (.slice o l.length p), g < W3.heap.size := fun g hg => (ac g hg).2
     replace r : Ol bcs 4 1 a9 (.slice o l.length p) l := r
     have bH := Zai rfl e
     refine Xb (bl (.slice o l.length p)) 23 mixed rfl fun aB ae => ?_
     have b3 := ae.size
     have E := E.trans ae
     refine dV 0 rfl rfl rfl (fun _ => Zd rfl) (dV 1 rfl rfl rfl (fun _ => Zd rfl) ?_)
     have bI := aq.ch0 ae
     refine dT 2 rfl rfl rfl (Xo bI Sv.len el142 sz24 rfl rfl rfl om fun bg b4 aN au => ?_)
     obtain rfl := Zbt q aN
     replace au : At aB T (T + 1) bg ([(.slice o l.length p)]) := au
     refine dT 3 rfl rfl rfl (Yx au (fun i hm => Zgf (s i hm) ab) agg24 rfl rfl ?_)
     refine dV 4 rfl rfl rfl (fun _ => Zd rfl) (dV 5 rfl rfl rfl (fun _ => Zd rfl) (dV 6 rfl rfl rfl (fun _ => Zd rfl) ?_))
     refine dT 7 rfl rfl rfl (Xo bI Sv.len el142 sz24 rfl rfl rfl om fun bh b5 aO av => ?_)
     obtain rfl := Zbt q aO
     replace av : At aB T (T + 1) bh ([(.slice o l.length p)]) := av
     refine dT 8 rfl rfl rfl (Yx av (fun i hm => Zgf (s i hm) ab) agg24 rfl rfl ?_)
     refine dV 9 rfl rfl rfl (fun _ => Zd rfl) (dO 10 (Zz rfl rfl rfl ?_))
     have aP := r.ch0 ae
     refine (Yw aP.ls Qg el24 sz4 rfl rfl rfl om fun b6 b7 V bi => ?_)
     refine ⟨(Ch.refl _ _), ?_⟩
     refine dO 11 (Zz rfl rfl rfl ?_)
     refine s_v (Yr bi agg4 rfl rfl) ?_
     refine ⟨(Ch.refl _ _), ?_⟩
     refine dV 12 rfl rfl rfl (fun _ => Zd rfl) ?_
     refine Qn (d := 53) rfl (fun K => ?_) (fun K => ?_)
     ·have bj := K
      refine dK 13 rfl rfl rfl (dK 14 rfl rfl rfl (dK 15 rfl rfl rfl (dK 16 rfl rfl rfl (dK 17 rfl rfl rfl (dK 18 rfl rfl rfl (dK 19 rfl rfl rfl (dV 20 rfl rfl rfl (fun _ => Ya rfl rfl) ?_)))))))
      refine dO 21 (Zz rfl rfl rfl ?_)
      refine Qj (j := j) aP el24 sz4 rfl rfl rfl om fun bk bm aQ aw => ?_
      refine ⟨(Ch.refl _ _), ?_⟩
      refine dO 22 (Zz rfl rfl rfl ?_)
      refine Qk (j := j) true aP aw Qg sz4 rfl rfl rfl rfl om fun b8 aR aS => ?_
      have b9 := od.ch0 ae
      have ca := aS.size
      have E := E.step aS (fun i hi => .inl (by have bn := t _ hi; omega))
      have ax := Od.set b9 U e aS aR
      have aT : Ch (bl (.slice o l.length p)) aB b8 := ((Ch.refl _ _).step aS (fun i hm => by exact .inr hm))
      refine ⟨aT, ?_⟩
      refine Yc (by kernel_rfl) ?_
      refine Zw (Zb (bE _ _ (Zc (Za rfl rfl (Zd rfl) (Za rfl rfl (Yo om rfl rfl) (Za rfl rfl (Zf rfl) (Ze ?_)))))))
      have cb := (z.ch0 ae).ch aS (fun g hg hm => by exact s _ hm hg)
      exact Zb (Exists.intro (j + 1) ⟨⟨E, om, om, cb, (ax.eq (Zez rfl e (by rw [← af]; exact J) (by first | (have ay := Zbp rfl e V; simp [← ay, K]; done) | (have ay := Zbp rfl e V; have bp := Zbp hb L al; simp [← ay, ← bp, K]; done))))⟩, sC8 rfl rfl rfl rfl rfl rfl rfl rfl (sC1 rfl (Sub.nil _)), (by first | omega | (dsimp only; omega))⟩)
     have bj := K
     refine dV 13 rfl rfl rfl (fun _ => Zd rfl) (dV 14 rfl rfl rfl (fun _ => Zd rfl) ?_)
     have cc := (x.ch0 Y).ch0 ae
     have cd := (O.ch0 Y).ch0 ae
     refine dT 15 rfl rfl rfl (Xo cc Sv.len el142 sz24 rfl rfl rfl om fun bq br aU az => ?_)
     obtain ⟨ad, L, D⟩ := cd.get aU
     obtain ⟨aV, ce, aW⟩ := br
     obtain rfl := D.eqn
     have cf := D.len
     replace D : Ls bcs 1 aB LR_b w.heap.size (.slice aV ad.length aW) ad := D
     replace az : At aB LL_sb w.heap.size bq ([(.slice aV ad.length aW)]) := az
     have cg := Zai hb L
     refine dT 16 rfl rfl rfl (Yx az (fun i hm => by have bn := t _ hm; have ci := ak _ hm; omega) agg24 rfl rfl ?_)
     refine dV 17 rfl rfl rfl (fun _ => Zd rfl) ?_
     refine dT 18 rfl rfl rfl (Xo D Qg el24 sz4 rfl rfl rfl om fun cj bs al bu => ?_)
     refine dT 19 rfl rfl rfl (Yx bu (fun i hm => by have bn := t _ hm; have ci := ak _ hm; omega) agg4 rfl rfl ?_)
     refine dV 20 rfl rfl rfl (fun _ => Yb rfl rfl) (dO 21 (Zz rfl rfl rfl ?_))
     refine Qj (j := j) aP el24 sz4 rfl rfl rfl om fun bk bm aQ aw => ?_
     refine ⟨(Ch.refl _ _), ?_⟩
     refine dO 22 (Zz rfl rfl rfl ?_)
     refine Qk (j := j) bs aP aw Qg sz4 rfl rfl rfl rfl om fun ck aX aY => ?_
     have cl := od.ch0 ae
     have cm := aY.size
     have E := E.step aY (fun i hi => .inl (by have bn := t _ hi; omega))
     have aA := Od.set cl U e aY aX
     have aZ : Ch (bl (.slice o l.length p)) aB ck := ((Ch.refl _ _).step aY (fun i hm => by exact .inr hm))
     refine ⟨aZ, ?_⟩
     refine Yc (by kernel_rfl) ?_
     refine Zw (Zb (bE _ _ (Zc (Za rfl rfl (Zd rfl) (Za rfl rfl (Yo om rfl rfl) (Za rfl rfl (Zf rfl) (Ze ?_)))))))
     have cn := (z.ch0 ae).ch aY (fun g hg hm => by exact s _ hm hg)
     exact Zb (Exists.intro (j + 1) ⟨⟨E, om, om, cn, (aA.eq (Zez rfl e (by rw [← af]; exact J) (by first | (have ay := Zbp rfl e V; simp [← ay, K]; done) | (have ay := Zbp rfl e V; have bp := Zbp hb L al; simp [← ay, ← bp, K]; done))))⟩, sC8 rfl rfl rfl rfl rfl rfl rfl rfl (sC1 rfl (Sub.nil _)), (by first | omega | (dsimp only; omega))⟩)
    have bf := J
    refine Xe (Zr (Zr (Yu ?_)))
    refine Zw (Zb (bB _ _ (Zc (Za rfl rfl (Zd rfl) (Za rfl rfl (Yo om rfl rfl) (Za rfl rfl (Zf rfl) (Ze ?_)))))))
    exact Zb (Exists.intro (k + 1) ⟨⟨E, om, om, z, (od.eq (by first | exact Zcm (.inl om) | exact Zcm (.inr (by rw [← af]; exact J))))⟩, sC4 rfl rfl rfl rfl (sC2 rfl rfl (sC1 rfl (Sub.nil _))), (by first | omega | (dsimp only; omega))⟩)
   have ba := I
   have I := Yj I
   refine Zj rfl rfl (Zj rfl rfl (Zj rfl rfl (Zj rfl rfl (Zj rfl rfl (Zj rfl rfl (Zj rfl rfl (Za rfl rfl (Yb rfl rfl) ?_)))))))
   refine Ze (Zb (bD _ _ ?_))
   refine Zap rfl ?_
   refine Xe (Zr (Zr (Yu ?_)))
   refine Zw (Zb (bB _ _ (Zc (Za rfl rfl (Zd rfl) (Za rfl rfl (Yo om rfl rfl) (Za rfl rfl (Zf rfl) (Ze ?_)))))))
   exact Zb (Exists.intro (k + 1) ⟨⟨E, om, om, z, (od.eq (by first | exact Zcm (.inl om) | exact Zcm (.inr (by rw [← af]; exact J))))⟩, sC4 rfl rfl rfl rfl (sC2 rfl rfl (sC1 rfl (Sub.nil _))), (by first | omega | (dsimp only; omega))⟩)
  have a8 := H
  have H := Yj H
  refine Xe (Zr (Zr (Yu ?_)))
  refine Zw (Zb (bN _ _ (Zc (Za rfl rfl (Zd rfl) (Za rfl rfl (Yo om rfl rfl) (Za rfl rfl (Zf rfl) (Ze ?_)))))))
  exact Zb (Exists.intro (i + 1) ⟨⟨E, om, om, aj, (od.eq (Zla om))⟩, sC4 rfl rfl rfl rfl (sC1 rfl (Sub.nil _)), (by first | omega | (dsimp only; omega))⟩)
 have bM := G
 have G := Yj G
 refine Xe (Zr (Zr (Yu ?_)))
 refine Zb (H4 _ _ ?_)
 refine Zg fun cB co => ?_
 refine Zc (Za rfl rfl (Zd rfl) (Za rfl rfl (Zf rfl) (Ze (Zb (co _ _ ?_)))))
 refine Zq ?_
 have a0 : Ol Sv.cs 24 1 R6 (.slice f (c).length h) c := by
  have hx := ai
  exact hx
 have a1 : Od bcs 4 1 R6 w.heap.size R6.heap.size c (grd n (mulM n A B)) := by
  have hx := od.up (lo' := w.heap.size) (hi' := R6.heap.size) om om
  rwa [Zna om] at hx
 exact Zi [_] ⟨rfl, trivial⟩ ⟨(.slice f (c).length h), c, rfl, a0, (Lo.down X om), a1, m, E⟩

/-- spec.l9Repeated -/
theorem Zcw {w : World} {LL_sa ah : Nat} {U : Value} {sa : List Sv} (m : Ls Sv.cs 1 w LL_sa ah U sa) {LR_a BB_a : Nat} {a : List (List Bool)} (o : Rd bcs 1 w LR_a BB_a sa a) (low : Int) (high : Int) (n : Nat) (A : Nat → Nat → Bool) (ha : a = grd n A) (ta : Tri A) (hn : n ≤ 4097) (hh : high ≤ 4294967296) :
 Ctr Try.prog 118 #[U, (.int .i64 low), (.int .i64 high)] w (fun v w' => ∃ (au : Value) (vs0 : List Sv), v = au ∧ Ol Sv.cs 24 1 w' au vs0 ∧ Lo w.heap.size au ∧ Od bcs 4 1 w' w.heap.size w'.heap.size vs0 (grd n (repM n A low (high + 1).toNat)) ∧ Sep au vs0 ∧ Ch [] w w') := by
 obtain ⟨V, X, Y⟩ := m.val
 subst Y
 have aJ := m.len
 have m := m.here (by decide)
 have o := o.here (by decide)
 have ai := o.1
 have E := Ch.refl [] w
 have aj : sa.length = n := by rw [ai, ha, Ql]
 refine Ye (N := 31) (vs0 := [(.slice V sa.length X), (.int .i64 low), (.int .i64 high)]) Try.func118 rfl rfl rfl ?_
 refine Zg fun K1 H1 => ?_
 refine Zc (Za rfl rfl (Zf rfl) (Ze (Zb (H1 _ _ ?_))))
 refine Zg fun K2 H2 => ?_
 refine Zc (Za rfl rfl (Zd rfl) (Za rfl rfl (Xc (by rw [el142]; rfl) rfl) (Zm rfl rfl ?_)))
 refine Step.call (Zl (xs := [.tmp 11, .const (Go.Value.bool false)]) fk115 rfl) (Zal sa.length _ om) fun aS W3 az => ?_
 obtain ⟨aK, g, rfl, p, H, x, q, C3⟩ := az
 have bf := C3.size
 have E := E.trans C3
 obtain ⟨K, L, rfl, aA, ak⟩ := p.opn
 refine Za rfl rfl (Zf rfl) (Ze (Zb (H2 _ _ ?_)))
 refine Zg fun K4 H4 => ?_
 refine Zc (Za rfl rfl (Zd rfl) (Za rfl rfl (Xc (by rw [el142]; rfl) rfl) (Zm rfl rfl ?_)))
 refine Step.call (Zl (xs := [.tmp 14, .const (Go.Value.bool true)]) fk115 rfl) (Zal sa.length _ om) fun aT W5 aB => ?_
 obtain ⟨aL, h, rfl, r, I, y, s, C5⟩ := aB
 have bg := C5.size
 have E := E.trans C5
 obtain ⟨M, O, rfl, aC, al⟩ := r.opn
 refine Za rfl rfl (Zf rfl) (Ze (Zb (H4 _ _ ?_)))
 refine Zg fun K6 H6 => ?_
 refine Zg fun K7 H7 => ?_
 refine Zc (Za rfl rfl (Zf rfl) (Ze (Zb (H7 _ _ ?_))))
 refine Zx ?_
 have F8 := p.ch0 C5
 have am : Ol Sv.cs 24 1 W5 (.slice K (g).length L) (g) := by
  have hx := F8
  exact hx
 have Z : Ol Sv.cs 24 1 W5 (.slice M (h).length O) (h) := by
  have hx := r
  exact hx
 have aU := x.ch0 C5
 refine Xi (σ := Nat × List Sv × List Sv × Value × Value) (fun ⟨k, us, qs, ov, qv⟩ => [(0, (.slice V sa.length X)), (1, (.int .i64 low)), (2, (.int .i64 high)), (6, (.slice none 0 0)), (7, ov), (8, qv), (9, (.int .i64 ((k : Nat) : Int)))]) (fun ⟨k, us, qs, ov, qv⟩ wx => Ch [] w wx ∧ W5.heap.size ≤ wx.heap.size ∧ (k ≤ (high + 1).toNat) ∧ Ol Sv.cs 24 1 wx ov us ∧ Lo w.heap.size ov ∧ Ol Sv.cs 24 1 wx qv qs ∧ Lo W3.heap.size qv ∧ Od bcs 4 1 wx w.heap.size wx.heap.size us (grd n (repM n A low k)) ∧ Od bcs 4 1 wx w.heap.size wx.heap.size qs (grd n (powM n A k)) ∧ (Sep ov us) ∧ (Sep qv qs)) (fun ⟨k, us, qs, ov, qv⟩ => (high + 1).toNat - k) (0, g, h, (.slice K (g).length L), (.slice M (h).length O)) (sC4 rfl rfl rfl rfl (sC2 rfl rfl (sC1 rfl (Sub.nil _)))) ⟨E, (Nat.le_refl _), om, am, H, Z, I, ((aU.up om om).eq (by rw [aj]; exact Znk)), ((y.up om om).eq (by rw [aj]; rfl)), q, s⟩ ?_
 rintro ⟨k, us, qs, ov, qv⟩ av ⟨E, aV, bh, D, P, F, aD, od, oe, G, aw⟩
 have Q := E
 have aM := Q.size
 obtain ⟨Aov, Cov, rfl, lov, hiov⟩ := D.opn
 obtain ⟨Aqv, Cqv, rfl, lqv, hiqv⟩ := F.opn
 refine Zg fun bi aW => ?_
 refine Zg fun bj aX => ?_
 refine Zc (Za rfl rfl (Zd rfl) (Za rfl rfl (Zd rfl) (Za rfl rfl (Zgl rfl rfl) (Ze (Zb (aX _ _ ?_))))))
 refine Zp rfl (fun z => ?_) (fun z => ?_)
 ·have aE := z
  have z := Yi z
  refine Zu ?_
  refine Zb (aW _ _ ?_)
  refine Zg fun bk aN => ?_
  refine Zx ?_
  refine Zg fun bm aO => ?_
  refine Zg fun bn aY => ?_
  refine Zc (Za rfl rfl (Zd rfl) (Za rfl rfl (Zd rfl) (Za rfl rfl (Zra rfl rfl) (Ze (Zb (aY _ _ ?_))))))
  refine Zp rfl (fun B => ?_) (fun B => ?_)
  ·have aF := B
   have B := Yi B
   refine Zc (Za rfl rfl (Zd rfl) (Za rfl rfl (Zd rfl) (Zm rfl rfl ?_)))
   refine Step.call (Zl (xs := [.tmp 24, .tmp 25]) fk117 rfl) (Zdq D.ls od.rd F.ls oe.rd n (repM n A low k) (powM n A k) rfl rfl (Zjn ta) (Zcy ta _) hn) fun aZ bp aG => ?_
   obtain ⟨aP, i, rfl, t, J, C, u, ag⟩ := aG
   have a0 := ag.size
   have E := E.trans ag
   obtain ⟨R, S, rfl, aH, an⟩ := t.opn
   refine Za rfl rfl (Zf rfl) (Ze (Zb (aO _ _ (Zc (Za rfl rfl (Zd rfl) (Za rfl rfl (Zd rfl) (Zm rfl rfl ?_)))))))
   have a1 := oe.ch0 ag
   have a2 := F.ch0 ag
   have a3 := (o.ch0 Q).ch0 ag
   have a4 := (m.ch0 Q).ch0 ag
   refine Step.call (Zl (xs := [.tmp 27, .tmp 28]) fk116 rfl) (Zch a2.ls a1.rd a4 a3 n (powM n A k) A rfl ha (Zcy ta _) ta hn) fun aI aQ aa => ?_
   obtain ⟨ao, b, rfl, c, f, e, d, ax⟩ := aa
   have a5 := ax.size
   have E := E.trans ax
   obtain ⟨j, l, rfl, ab, T⟩ := c.opn
   refine Za rfl rfl (Zf rfl) (Ze (Zw (Zb (aN _ _ (Zc (Za rfl rfl (Zd rfl) (Za rfl rfl (Yo om rfl rfl) (Za rfl rfl (Zf rfl) ?_))))))))
   refine Ze ?_
   have a6 := t.ch0 ax
   have ac : Ol Sv.cs 24 1 aQ (.slice R (i).length S) (i) := by
    have hx := a6
    exact hx
   have ad : Ol Sv.cs 24 1 aQ (.slice j (b).length l) (b) := by
    have hx := c
    exact hx
   have a7 := C.ch0 ax
   exact Zb (Exists.intro ((k + 1), i, b, (.slice R (i).length S), (.slice j (b).length l)) ⟨⟨E, om, om, ac, (Lo.down J om), ad, (Lo.down f om), ((a7.up om om).eq (Zve om)), ((e.up om om).eq Zjk), u, d⟩, sC4 rfl rfl rfl rfl (sC2 rfl rfl (sC1 rfl (Sub.nil _))), (by first | omega | (dsimp only; omega))⟩)
  have aF := B
  have B := Yj B
  refine Zu ?_
  refine Zb (aO _ _ (Zc (Za rfl rfl (Zd rfl) (Za rfl rfl (Zd rfl) (Zm rfl rfl ?_)))))
  have a8 := o.ch0 Q
  have a9 := m.ch0 Q
  refine Step.call (Zl (xs := [.tmp 27, .tmp 28]) fk116 rfl) (Zch F.ls oe.rd a9 a8 n (powM n A k) A rfl ha (Zcy ta _) ta hn) fun aI aR aa => ?_
  obtain ⟨ao, b, rfl, c, f, e, d, ay⟩ := aa
  have ba := ay.size
  have E := E.trans ay
  obtain ⟨j, l, rfl, ab, T⟩ := c.opn
  refine Za rfl rfl (Zf rfl) (Ze (Zw (Zb (aN _ _ (Zc (Za rfl rfl (Zd rfl) (Za rfl rfl (Yo om rfl rfl) (Za rfl rfl (Zf rfl) ?_))))))))
  refine Ze ?_
  have bb := D.ch0 ay
  have ae : Ol Sv.cs 24 1 aR (.slice Aov (us).length Cov) (us) := by
   have hx := bb
   exact hx
  have af : Ol Sv.cs 24 1 aR (.slice j (b).length l) (b) := by
   have hx := c
   exact hx
  have bc := od.ch0 ay
  exact Zb (Exists.intro ((k + 1), us, b, (.slice Aov (us).length Cov), (.slice j (b).length l)) ⟨⟨E, om, om, ae, (Lo.down P om), af, (Lo.down f om), ((bc.up om om).eq (Zvh om)), ((e.up om om).eq Zjk), G, d⟩, sC4 rfl rfl rfl rfl (sC2 rfl rfl (sC1 rfl (Sub.nil _))), (by first | omega | (dsimp only; omega))⟩)
 have aE := z
 have z := Yj z
 refine Xe (Zr (Zr (Yu ?_)))
 refine Zb (H6 _ _ ?_)
 refine Zg fun bq be => ?_
 refine Zc (Za rfl rfl (Zd rfl) (Za rfl rfl (Zf rfl) (Ze (Zb (be _ _ ?_)))))
 refine Zq ?_
 have ap : Ol Sv.cs 24 1 av (.slice Aov (us).length Cov) us := by
  have hx := D
  exact hx
 have aq : Od bcs 4 1 av w.heap.size av.heap.size us (grd n (repM n A low (high + 1).toNat)) := by
  have hx := od.up (lo' := w.heap.size) (hi' := av.heap.size) om om
  rwa [show k = (high + 1).toNat by omega] at hx
 exact Zi [_] ⟨rfl, trivial⟩ ⟨(.slice Aov (us).length Cov), us, rfl, ap, (Lo.down P om), aq, G, E⟩

/-- spec.l9Match -/
theorem Zin {w : World} {LL_l eU : Nat} {dd : Value} {l : List Token} (a8 : Ls Token.cs 4 w LL_l eU dd l) {LL_wd de : Nat} {bV : Value} {wd : List Int} (ax : Ls ics 1 w LL_wd de bV wd) (t : Tr) (f4 : Qx l = some t) (hw : wd.length ≤ 4096) (hbl : l.length ≤ 1048576) :
 Ctr Try.prog 78 #[dd, bV] w (fun v w' => v = .bool (mtT wd t 0 wd.length) ∧ Ch [] w w') := by
 obtain ⟨bI, bJ, df⟩ := a8.val
 subst df
 have hy := a8.len
 have a8 := a8.here (by decide)
 obtain ⟨a9, ba, cA⟩ := ax.val
 subst cA
 have f5 := ax.len
 have ax := ax.here (by decide)
 have E := Ch.refl [] w
 refine Ye (N := 151) (vs0 := [(.slice bI l.length bJ), (.slice a9 wd.length ba)]) Try.func78 rfl rfl rfl ?_
 refine Zg fun K1 H1 => ?_
 refine Zc (Za rfl rfl (Zf rfl) (Ze (Zb (H1 _ _ ?_))))
 refine Zg fun K2 H2 => ?_
 refine Zc (Za rfl rfl (Zd rfl) (Za rfl rfl (Xc (by rw [el30]; rfl) rfl) (Za rfl rfl (Yo om rfl rfl) (Za rfl rfl (Zf rfl) (Ze (Zb (H2 _ _ ?_)))))))
 refine Zg fun K3 H3 => ?_
 refine Zc (Zm rfl rfl ?_)
 refine Zab (k := 1) Sv.cs el144 sz142 fun hz W4 dg dh C4 => ?_
 have jA := C4.size
 have E := E.trans C4
 obtain ⟨bW, bX, rfl, f6, eV⟩ := dg.opn
 refine Za rfl rfl (Zf rfl) (Ze (Zb (H3 _ _ ?_)))
 refine Zg fun K5 H5 => ?_
 refine Zg fun K6 H6 => ?_
 refine Zc (Za rfl rfl (Zf rfl) (Ze (Zb (H6 _ _ ?_))))
 refine Zx ?_
 have di : Ol Sv.cs 142 1 W4 (.slice bW (([] : List Sv)).length bX) (([] : List Sv)) := by
  have hx := dg
  exact hx
 refine Xi (σ := Nat × List Sv × List Tr × Value) (fun ⟨i, vs, st, sv⟩ => [(0, (.slice bI l.length bJ)), (1, (.slice a9 wd.length ba)), (4, (.bool false)), (5, (.int .i64 (((wd.length : Nat) : Int) + 1))), (6, sv), (7, (.int .i64 ((i : Nat) : Int)))]) (fun ⟨i, vs, st, sv⟩ wx => Ch [] w wx ∧ W4.heap.size ≤ wx.heap.size ∧ (i ≤ l.length) ∧ (vs.length = st.length) ∧ (st.length ≤ i) ∧ (prs [] (l.take i) = some st) ∧ Ol Sv.cs 142 1 wx sv vs ∧ Lo w.heap.size sv ∧ RT wx wx.heap.size (bl sv) wd vs st) (fun ⟨i, vs, st, sv⟩ => l.length - i) (0, ([] : List Sv), ([] : List Tr), (.slice bW (([] : List Sv)).length bX)) (sC4 rfl rfl rfl rfl (sC2 rfl rfl (Sub.nil _))) ⟨E, (Nat.le_refl _), om, rfl, (Nat.le_refl _), rfl, di, dh, RT.nil⟩ ?_
 rintro ⟨i, vs, st, sv⟩ R8 ⟨E, hA, hi, hl, hs, hp, B, c, ms⟩
 have dj := E
 have f7 := dj.size
 obtain ⟨Asv, Csv, rfl, lsv, hisv⟩ := B.opn
 refine Zg fun K9 H9 => ?_
 refine Zg fun jB hB => ?_
 refine Zc (Za rfl rfl (Zd rfl) (Za rfl rfl (Zd rfl) (Za rfl rfl (Xc (by rw [el42]; rfl) rfl) (Za rfl rfl (Xs rfl rfl) (Ze (Zb (hB _ _ ?_)))))))
 refine Zp rfl (fun aR => ?_) (fun aR => ?_)
 ·have eW := aR
  have aR := Yi aR
  refine Zu ?_
  refine Zb (H9 _ _ ?_)
  refine Zg fun jC cB => ?_
  refine Zx ?_
  refine Zg fun jD hC => ?_
  refine Zc (Za rfl rfl (Zd rfl) (Za rfl rfl (Xc (by rw [el144]; rfl) rfl) (Za rfl rfl (Zf rfl) (Ze (Zb (hC _ _ ?_))))))
  refine Zg fun jE hD => ?_
  refine Zc (Za rfl rfl (Zd rfl) (Za rfl rfl (Zd rfl) (Zm rfl rfl ?_)))
  have f8 := a8.ch0 dj
  refine (Yw f8 Token.len el42 sz84 rfl rfl rfl om fun hE f dk eX => ?_)
  obtain ⟨s2, bY, cC⟩ := Zvw f4 hp dk
  refine Za rfl rfl (Zy eX agg84 sz84 rfl) (Zm rfl rfl ?_)
  refine Yh zr84 fun eK hF eL ay bZ => ?_
  have hG := ay.size
  have E := E.trans ay
  have jF := eL.lt
  replace eL : Blk hF eK 84 [(.int .i64 0), (.int .i64 0), (.int .i64 0), (.int .i64 0)] := eL
  refine Zm rfl rfl ?_
  refine Zn (off := 0) 4 eL sz84 rfl (us := [(.int .i64 f.kind), (.int .i64 f.letter), (.int .i64 f.low), (.int .i64 f.high)]) rfl rfl rfl rfl fun bH az aA => ?_
  have hH := aA.size
  have E := E.step aA (lS om)
  replace az : Blk bH eK 84 [(.int .i64 f.kind), (.int .i64 f.letter), (.int .i64 f.low), (.int .i64 f.high)] := az
  refine Ze (Zb (hD _ _ ?_))
  refine Zg fun jG hI => ?_
  refine Zc (Za rfl rfl (Zh fa84_0 rfl) (Za rfl rfl (Zk az.at_ agg3 rfl rfl) (Ze (Zb (hI _ _ ?_)))))
  refine Zx ?_
  refine Zg fun jH hJ => ?_
  refine Zc (Za rfl rfl (Yy rfl rfl) (Za rfl rfl (Zf rfl) (Ze (Zb (hJ _ _ ?_)))))
  refine Zp rfl (fun aS => ?_) (fun aS => ?_)
  ·have eY := aS
   have aS := Yi aS
   have F := Zml bY (by unfold arK; rw [if_neg om, if_neg om])
   have hK := ml2 (w := wd) (y := f) om
   refine Zc (Za rfl rfl (Zd rfl) (Za rfl rfl (Zd rfl) (Zm rfl rfl ?_)))
   refine Step.call (Zl (xs := [.tmp 40, .const (Go.Value.bool true)]) fk115 rfl) (Zal (wd.length + 1) _ om) fun hL hM eZ => ?_
   obtain ⟨f9, o, rfl, aB, af, aT, b0, eM⟩ := eZ
   have hN := eM.size
   have E := E.trans eM
   obtain ⟨G, H, rfl, e0, aC⟩ := aB.opn
   refine Zm rfl rfl ?_
   refine Ym (cs := Sv.cs) (parts := [(0, .tmp 41)]) (⟨none, 0, 0⟩ : Sv) [(⟨G, (o).length, H⟩ : Sv)] el144 sz142 zr142 Sv.len (by decide) rfl rfl rfl (by decide) (by decide) rfl fun hO jI dl ga c8 => ?_
   have hP := c8.size
   have E := E.trans c8
   obtain ⟨gb, gc, rfl, gd, e1⟩ := dl.opn
   refine Zm rfl rfl ?_
   have hQ := (((B.ch0 ay).ch aA (dS c hisv om)).ch0 eM).ch0 c8
   refine Xn (cs := Sv.cs) el144 sz142 by142 zr142 rfl (by decide) Sv.one hQ dl.ls rfl rfl (by simp only [List.length_singleton, List.length_take, List.length_drop]; omega) (by simp only [List.length_singleton, List.length_take, List.length_drop]; omega) c om fun hR hS dm dn b1 dp => ?_
   have hT := dp.size
   have E := E.step dp (fun i hi => .inl (by have e := c _ hi; omega))
   obtain ⟨b2, b3, rfl, ge, bb⟩ := dm.opn
   refine Za rfl rfl (Zf rfl) (Ze (Zw (Zw (Zb (cB _ _ (Zc (Za rfl rfl (Zd rfl) (Za rfl rfl (Yo om rfl rfl) ?_))))))))
   refine Za rfl rfl (Zf rfl) (Ze ?_)
   have cD : Ol Sv.cs 142 1 hS (.slice b2 ((vs ++ [(⟨G, (o).length, H⟩ : Sv)])).length b3) ((vs ++ [(⟨G, (o).length, H⟩ : Sv)])) := by
    have hx := dm
    exact hx
   have hU := ((((ms.ch0 ay).ch aA (fun i hm => by have e := List.mem_singleton.1 hm; left; omega)).ch0 eM).ch0 c8).ch dp (fun i hm => by right; exact hm)
   have hV := (aB.ch0 c8).ch dp (fun g hg hm => by have e := c _ hm; have I := hisv _ hm; have cE := af _ hg; have cF := aC _ hg; omega)
   have hW := (aT.ch0 c8).ch dp (fun i hm => by have e := c _ hm; have I := hisv _ hm; omega)
   exact Zb (Exists.intro ((i + 1), (vs ++ [(⟨G, (o).length, H⟩ : Sv)]), s2, (.slice b2 ((vs ++ [(⟨G, (o).length, H⟩ : Sv)])).length b3)) ⟨⟨E, om, om, (by rw [F]; simp; omega), (by rw [F]; simp; omega), cC, cD, (Lo.down dn om), (by rw [F]; exact (RT.add hU (v := (⟨G, (o).length, H⟩ : Sv)) (Ol.lsR hV (Lo.down af om) (lo := bH.heap.size) (hi := hM.heap.size) (fun g hg => by have e := aC g hg; omega)) (Od.rdR (hW.eq (by rw [hK]))) om om (fun g hm => by rcases b1 with ea | ea; (rw [ea] at hm; have e := c _ hm; have I := hisv _ hm; omega); (have au := bb _ hm; rw [ea] at hm; have bK := List.mem_singleton.1 hm; omega)) (fun g hm => by rcases b1 with ea | ea; (rw [ea] at hm; left; exact hm); (have au := bb _ hm; rw [ea] at hm; have bK := List.mem_singleton.1 hm; right; omega))).eq (by simp_all <;> omega))⟩, sC4 rfl rfl rfl rfl (sC2 rfl rfl (Sub.nil _)), (by first | omega | (dsimp only; omega))⟩)
  have eY := aS
  have aS := Yj aS
  refine Zg fun jJ hX => ?_
  refine Zc (Za rfl rfl (Yy rfl rfl) (Za rfl rfl (Zf rfl) (Ze (Zb (hX _ _ ?_)))))
  refine Zp rfl (fun aU => ?_) (fun aU => ?_)
  ·have e2 := aU
   have aU := Yi aU
   have F := Zml bY (by unfold arK; rw [if_neg om, if_neg om])
   have hY := ml3 (w := wd) (y := f) om
   refine Zg fun jK hZ => ?_
   refine Zc (Za rfl rfl (Zd rfl) (Zm rfl rfl ?_))
   refine Step.call (Zl (xs := [.tmp 46, .const (Go.Value.bool false)]) fk115 rfl) (Zal (wd.length + 1) _ om) fun h0 eN e3 => ?_
   obtain ⟨gf, d, rfl, aD, ag, aV, aE, c9⟩ := e3
   have h1 := c9.size
   have E := E.trans c9
   obtain ⟨m, n, rfl, e4, aF⟩ := aD.opn
   refine Za rfl rfl (Zf rfl) (Ze (Zb (hZ _ _ ?_)))
   refine Zg fun jL h2 => ?_
   refine Zg fun jM h3 => ?_
   refine Zc (Za rfl rfl (Zf rfl) (Ze (Zb (h3 _ _ ?_))))
   refine Zx ?_
   have h4 := ((f8.ch0 ay).ch aA (oS om)).ch0 c9
   have h5 := ((B.ch0 ay).ch aA (dS c hisv om)).ch0 c9
   have h6 := az.ch0 c9
   have h7 := ((ms.ch0 ay).ch aA (fun i hm => by have e := List.mem_singleton.1 hm; left; omega)).ch0 c9
   refine Xi (σ := Nat) (fun (k : Nat) => [(0, (.slice bI l.length bJ)), (1, (.slice a9 wd.length ba)), (4, (.bool false)), (5, (.int .i64 (((wd.length : Nat) : Int) + 1))), (6, (.slice Asv (vs).length Csv)), (7, (.int .i64 ((i : Nat) : Int))), (8, (.int .i64 ((vs.length : Nat) : Int))), (9, (.pointer (some ⟨eK, 0, none⟩))), (10, (.slice m (d).length n)), (11, (.int .i64 ((k : Nat) : Int))), (21, (.bool (decide (((i : Nat) : Int) < ((l.length : Nat) : Int))))), (31, (.int .i64 f.kind)), (37, (.bool (decide (f.kind = 2)))), (44, (.bool (decide (f.kind = 3))))]) (fun (k : Nat) wx => Ch [] w wx ∧ eN.heap.size ≤ wx.heap.size ∧ (k ≤ wd.length) ∧ Ls Token.cs 4 wx LL_l w.heap.size (.slice bI l.length bJ) l ∧ Ol Sv.cs 142 1 wx (.slice Asv (vs).length Csv) vs ∧ Blk wx eK 84 [(.int .i64 f.kind), (.int .i64 f.letter), (.int .i64 f.low), (.int .i64 f.high)] ∧ Ol Sv.cs 24 1 wx (.slice m (d).length n) d ∧ RT wx R8.heap.size (bl (.slice Asv (vs).length Csv)) wd vs st ∧ Od bcs 4 1 wx bH.heap.size eN.heap.size d (grd (wd.length + 1) (lupt f.letter wd k))) (fun (k : Nat) => wd.length - k) 0 (sC8 rfl rfl rfl rfl rfl rfl rfl rfl (sC4 rfl rfl rfl rfl (sC2 rfl rfl (Sub.nil _)))) ⟨E, (Nat.le_refl _), om, h4, h5, h6, aD, h7, (aV.eq Zkz)⟩ ?_
   rintro k h8 ⟨E, h9, jN, dq, b4, b5, bc, b6, od⟩
   have dr := E
   have gg := dr.size
   have e5 := b5.lt
   refine Zg fun jO ia => ?_
   refine Zg fun jP ib => ?_
   refine Zc (Za rfl rfl (Zd rfl) (Za rfl rfl (Zd rfl) (Za rfl rfl (Xc (by rw [el30]; rfl) rfl) (Za rfl rfl (Xs rfl rfl) (Ze (Zb (ib _ _ ?_)))))))
   refine Zp rfl (fun aW => ?_) (fun aW => ?_)
   ·have e6 := aW
    have aW := Yi aW
    refine Zu ?_
    refine Zb (ia _ _ ?_)
    refine Zg fun jQ ic => ?_
    refine Zx ?_
    have cG := (od).1
    rw [Ql] at cG
    obtain ⟨b7, cH, cI⟩ := Ol.lsE bc om
    obtain ⟨ds, av⟩ := Zdx (xs := d) (j := k) om
    have dt : Sep (.slice m (d).length n) d := aE
    have be := dt _ (Xw av)
    obtain ⟨u, aw, S, bf⟩ := od.ownget av
    have bL := av
    obtain ⟨ah, gh, ai⟩ := ds
    obtain rfl := S.ls.eqn
    have gi := S.len
    have x : Lo bH.heap.size (.slice ah u.length ai) := fun g hg => (bf g hg).1
    have aG : ∀ g ∈ bl (.slice ah u.length ai), g < eN.heap.size := fun g hg => (bf g hg).2
    replace S : Ol bcs 4 1 h8 (.slice ah u.length ai) u := S
    have gj := Zai rfl aw
    refine Xb (bl (.slice ah u.length ai)) 15 mixed rfl fun gk bg => ?_
    have ie := bg.size
    have E := E.trans bg
    refine dV 0 rfl rfl rfl (fun _ => Zd rfl) (dV 1 rfl rfl rfl (fun _ => Zd rfl) ?_)
    have ig := cI.ch0 bg
    refine dT 2 rfl rfl rfl (Xo ig Sv.len el142 sz24 rfl rfl rfl om fun e7 ih du cJ => ?_)
    obtain rfl := Zbt av du
    replace cJ : At gk b7 (b7 + 1) e7 ([(.slice ah u.length ai)]) := cJ
    refine dT 3 rfl rfl rfl (Yx cJ (fun i hm => Zgf (be i hm) cH) agg24 rfl rfl ?_)
    refine dV 4 rfl rfl rfl (fun _ => Zd rfl) (dV 5 rfl rfl rfl (fun _ => Yo om rfl rfl) (dV 6 rfl rfl rfl (fun _ => Zd rfl) (dV 7 rfl rfl rfl (fun _ => Zd rfl) ?_)))
    have ii := (ax.ch0 dr).ch0 bg
    refine dT 8 rfl rfl rfl (Xo ii Xg el30 sz3 rfl rfl rfl om fun ij e8 dv e9 => ?_)
    refine dT 9 rfl rfl rfl (Yx e9 (fun i hm => by have e := x _ hm; have I := aG _ hm; omega) agg3 rfl rfl ?_)
    refine dV 10 rfl rfl rfl (fun _ => Zh fa84_1 rfl) ?_
    have gl := b5.ch0 bg
    refine dT 11 rfl rfl rfl (Xh gl.at_ (fun i hm => by have e := x _ hm; have I := aG _ hm; omega) agg3 rfl rfl ?_)
    refine dV 12 rfl rfl rfl (fun _ => Yy rfl rfl) (dO 13 (Zz rfl rfl rfl ?_))
    have gm := S.ch0 bg
    refine Qj (j := (k + 1)) gm el24 sz4 rfl rfl rfl (by first | omega | (simp; omega)) fun ik il gn fa => ?_
    refine ⟨(Ch.refl _ _), ?_⟩
    refine dO 14 (Zz rfl rfl rfl ?_)
    refine Qk (j := (k + 1)) (decide (e8 = f.letter)) gm fa Qg sz4 rfl rfl rfl rfl (by first | omega | (simp; omega)) fun im dw bM => ?_
    have io := od.ch0 bg
    have ip := bM.size
    have E := E.step bM (fun i hi => .inl (by have e := x _ hi; omega))
    have cK := Od.set io bL aw bM dw
    have dx : Ch (bl (.slice ah u.length ai)) gk im := ((Ch.refl _ _).step bM (fun i hm => by exact .inr hm))
    refine ⟨dx, ?_⟩
    refine Yc (by kernel_rfl) ?_
    refine Zw (Zb (ic _ _ (Zc (Za rfl rfl (Zd rfl) (Za rfl rfl (Yo om rfl rfl) (Za rfl rfl (Zf rfl) (Ze ?_)))))))
    have iq := (dq.ch0 bg).ch bM (fun i hi => by have e := x _ hi; omega)
    have ir := (b4.ch0 bg).ch bM (fun g hg hm => by have e := x _ hm; have I := aG _ hm; have cE := c _ hg; have cF := hisv _ hg; omega)
    have it := gl.ch bM (fun hm => by have e := x _ hm; have I := aG _ hm; omega)
    have iu := (bc.ch0 bg).ch bM (fun g hg hm => by exact be _ hm hg)
    have iv := (b6.ch0 bg).ch bM (fun i hm => by have e := x _ hm; have I := aG _ hm; left; omega)
    exact Zb (Exists.intro (k + 1) ⟨⟨E, om, om, iq, ir, it, iu, iv, (cK.eq (Zln rfl aw dv rfl))⟩, sC8 rfl rfl rfl rfl rfl rfl rfl rfl (sC4 rfl rfl rfl rfl (sC2 rfl rfl (Sub.nil _))), (by first | omega | (dsimp only; omega))⟩)
   have e6 := aW
   have aW := Yj aW
   refine Xe (Zr (Zr (Yu ?_)))
   refine Zb (h2 _ _ (Zc (Za rfl rfl (Zd rfl) (Za rfl rfl (Zd rfl) (Zm rfl rfl ?_)))))
   refine Ym (cs := Sv.cs) (parts := [(0, .tmp 69)]) (⟨none, 0, 0⟩ : Sv) [(⟨m, (d).length, n⟩ : Sv)] el144 sz142 zr142 Sv.len (by decide) rfl rfl rfl (by decide) (by decide) rfl fun iw jR dy gp da => ?_
   have ix := da.size
   have E := E.trans da
   obtain ⟨gq, gr, rfl, gs, fb⟩ := dy.opn
   refine Zm rfl rfl ?_
   have iy := b4.ch0 da
   refine Xn (cs := Sv.cs) el144 sz142 by142 zr142 rfl (by decide) Sv.one iy dy.ls rfl rfl (by simp only [List.length_singleton, List.length_take, List.length_drop]; omega) (by simp only [List.length_singleton, List.length_take, List.length_drop]; omega) c om fun iz iA dz dA b8 dB => ?_
   have iB := dB.size
   have E := E.step dB (fun i hi => .inl (by have e := c _ hi; omega))
   obtain ⟨b9, ca, rfl, gt, bh⟩ := dz.opn
   refine Za rfl rfl (Zf rfl) (Ze (Zw (Zw (Zb (cB _ _ (Zc (Za rfl rfl (Zd rfl) (Za rfl rfl (Yo om rfl rfl) ?_))))))))
   refine Za rfl rfl (Zf rfl) (Ze ?_)
   have cL : Ol Sv.cs 142 1 iA (.slice b9 ((vs ++ [(⟨m, (d).length, n⟩ : Sv)])).length ca) ((vs ++ [(⟨m, (d).length, n⟩ : Sv)])) := by
    have hx := dz
    exact hx
   have iC := (b6.ch0 da).ch dB (fun i hm => by right; exact hm)
   have iD := (bc.ch0 da).ch dB (fun g hg hm => by have e := c _ hm; have I := hisv _ hm; have cE := ag _ hg; have cF := aF _ hg; omega)
   have iE := (od.ch0 da).ch dB (fun i hm => by have e := c _ hm; have I := hisv _ hm; omega)
   exact Zb (Exists.intro ((i + 1), (vs ++ [(⟨m, (d).length, n⟩ : Sv)]), s2, (.slice b9 ((vs ++ [(⟨m, (d).length, n⟩ : Sv)])).length ca)) ⟨⟨E, om, om, (by rw [F]; simp; omega), (by rw [F]; simp; omega), cC, cL, (Lo.down dA om), (by rw [F]; exact (RT.add iC (v := (⟨m, (d).length, n⟩ : Sv)) (Ol.lsR iD (Lo.down ag om) (lo := bH.heap.size) (hi := eN.heap.size) (fun g hg => by have e := aF g hg; omega)) (Od.rdR (iE.eq (by rw [hY]; exact Zns rfl om))) om om (fun g hm => by rcases b8 with ea | ea; (rw [ea] at hm; have e := c _ hm; have I := hisv _ hm; omega); (have au := bh _ hm; rw [ea] at hm; have bK := List.mem_singleton.1 hm; omega)) (fun g hm => by rcases b8 with ea | ea; (rw [ea] at hm; left; exact hm); (have au := bh _ hm; rw [ea] at hm; have bK := List.mem_singleton.1 hm; right; omega))).eq (by simp_all <;> omega))⟩, sC4 rfl rfl rfl rfl (sC2 rfl rfl (Sub.nil _)), (by first | omega | (dsimp only; omega))⟩)
  have e2 := aU
  have aU := Yj aU
  refine Zg fun jS iF => ?_
  refine Zc (Za rfl rfl (Yy rfl rfl) (Za rfl rfl (Zf rfl) (Ze (Zb (iF _ _ ?_)))))
  refine Zp rfl (fun aX => ?_) (fun aX => ?_)
  ·have fc := aX
   have aX := Yi aX
   obtain ⟨ta, tb, r9, bZ, F⟩ := Zph bY (by unfold arK; rw [if_pos om])
   subst bZ
   simp only [List.length_cons] at hl hs
   have iG := ml4 (w := wd) (a := ta) (b := tb) (y := f) om
   refine Zg fun jT iH => ?_
   refine Xb [] 12 mixed rfl fun cb eO => ?_
   have iI := eO.size
   have E := E.trans eO
   refine dV 0 rfl rfl rfl (fun _ => Zd rfl) (dV 1 rfl rfl rfl (fun _ => Zd rfl) (dV 2 rfl rfl rfl (fun _ => Zav om rfl rfl) ?_))
   have fd := ((B.ch0 ay).ch aA (dS c hisv om)).ch0 eO
   have fe := ((ms.ch0 ay).ch aA (fun i hm => by have e := List.mem_singleton.1 hm; left; omega)).ch0 eO
   refine dT 3 rfl rfl rfl (Xo (j := (((vs.length : Nat) : Int) - 2).toNat) fd.ls Sv.len el144 sz142 rfl rfl om om fun ff fg dC cM => ?_)
   obtain ⟨iJ, cN, fh, fi, fj, aH, dD, iK⟩ := RT.get fe dC
   obtain ⟨dE, iL, dF⟩ := fg
   obtain rfl := aH.eqn
   have iM := aH.len
   replace aH : Ls Sv.cs 1 cb fh fi (.slice dE cN.length dF) cN := aH
   obtain rfl := (top2 om fj).symm
   replace cM : At cb 0 cb.heap.size ff ([(.slice dE cN.length dF)]) := cM
   refine dT 4 rfl rfl rfl (Yx cM (fun i hi => absurd hi List.not_mem_nil) agg142 rfl rfl ?_)
   refine dV 5 rfl rfl rfl (fun _ => Zd rfl) (dV 6 rfl rfl rfl (fun _ => Zd rfl) (dV 7 rfl rfl rfl (fun _ => Zav om rfl rfl) ?_))
   refine dT 8 rfl rfl rfl (Xo (j := (((vs.length : Nat) : Int) - 1).toNat) fd.ls Sv.len el144 sz142 rfl rfl om om fun fk fl dG cO => ?_)
   obtain ⟨iN, cP, fm, fn, fo, aI, dH, iO⟩ := RT.get fe dG
   obtain ⟨dI, iP, dJ⟩ := fl
   obtain rfl := aI.eqn
   have iQ := aI.len
   replace aI : Ls Sv.cs 1 cb fm fn (.slice dI cP.length dJ) cP := aI
   obtain rfl := (top1 (by first | omega | (simp only [List.length_cons]; omega)) fo).symm
   replace cO : At cb 0 cb.heap.size fk ([(.slice dI cP.length dJ)]) := cO
   refine dT 9 rfl rfl rfl (Yx cO (fun i hi => absurd hi List.not_mem_nil) agg142 rfl rfl ?_)
   refine dO 10 (Zz rfl rfl rfl ?_)
   refine Step.call (Zl (xs := [.tmp 78, .tmp 83]) fk116 rfl) (Zch aH dD aI dH (wd.length + 1) (mtT wd ta) (mtT wd tb) rfl rfl (Qr _ _) (Qr _ _) om) fun iR gu fp => ?_
   obtain ⟨gv, p, rfl, aJ, aj, aY, cc, dL⟩ := fp
   have iS := dL.size
   have E := E.trans dL
   obtain ⟨J, K, rfl, fq, aK⟩ := aJ.opn
   have dM : Ch [] cb gu := ((Ch.refl _ _).trans dL)
   refine ⟨dM, ?_⟩
   refine dV 11 rfl rfl rfl (fun _ => Zf rfl) ?_
   refine Yc (by kernel_rfl) ?_
   refine Zb (iH _ _ (Zc (Za rfl rfl (Zd rfl) (Za rfl rfl (Zd rfl) (Za rfl rfl (Zav om rfl rfl) (Zm rfl rfl ?_))))))
   have iT := fd.ch0 dL
   refine (Zmx (ys := (vs.take ((((vs.length : Nat) : Int) - 2).toNat))) 0 ((((vs.length : Nat) : Int) - 2).toNat) iT Sv.len el144 sz142 rfl rfl ⟨_, _, rfl, by omega⟩ om om rfl fun iU dN T gw => ?_)
   obtain ⟨iV, iW, rfl, iX, iY⟩ := dN.opn
   refine Za rfl rfl (Zd rfl) (Zm rfl rfl ?_)
   refine Ym (cs := Sv.cs) (parts := [(0, .tmp 89)]) (⟨none, 0, 0⟩ : Sv) [(⟨J, (p).length, K⟩ : Sv)] el144 sz142 zr142 Sv.len (by decide) rfl rfl rfl (by decide) (by decide) rfl fun iZ jU dP gx db => ?_
   have i0 := db.size
   have E := E.trans db
   obtain ⟨gy, gz, rfl, gA, fr⟩ := dP.opn
   refine Zm rfl rfl ?_
   have i1 := dN.ch0 db
   refine Xn (cs := Sv.cs) el144 sz142 by142 zr142 rfl (by decide) Sv.one i1 dP.ls rfl rfl (by simp only [List.length_singleton, List.length_take, List.length_drop]; omega) (by simp only [List.length_singleton, List.length_take, List.length_drop]; omega) (fun g hg => c g (T ▸ hg)) om fun i2 i3 dQ dR cd dU => ?_
   have i4 := dU.size
   have E := E.step dU (fun i hi => .inl (by have e := (fun g hg => c g (T ▸ hg)) _ hi; omega))
   obtain ⟨ce, cf, rfl, gB, bi⟩ := dQ.opn
   refine Za rfl rfl (Zf rfl) (Ze (Zw (Zw (Zb (cB _ _ (Zc (Za rfl rfl (Zd rfl) (Za rfl rfl (Yo om rfl rfl) ?_))))))))
   refine Za rfl rfl (Zf rfl) (Ze ?_)
   have cQ : Ol Sv.cs 142 1 i3 (.slice ce (((vs.take ((((vs.length : Nat) : Int) - 2).toNat)) ++ [(⟨J, (p).length, K⟩ : Sv)])).length cf) (((vs.take ((((vs.length : Nat) : Int) - 2).toNat)) ++ [(⟨J, (p).length, K⟩ : Sv)])) := by
    have hx := dQ
    exact hx
   have i5 := ((fe.ch0 dL).ch0 db).ch dU (fun i hm => by rw [T] at hm; right; exact hm)
   have i6 := (aJ.ch0 db).ch dU (fun g hg hm => by rw [T] at hm; have e := c _ hm; have I := hisv _ hm; have cE := aj _ hg; have cF := aK _ hg; omega)
   have i7 := (aY.ch0 db).ch dU (fun i hm => by rw [T] at hm; have e := c _ hm; have I := hisv _ hm; omega)
   exact Zb (Exists.intro ((i + 1), ((vs.take ((((vs.length : Nat) : Int) - 2).toNat)) ++ [(⟨J, (p).length, K⟩ : Sv)]), s2, (.slice ce (((vs.take ((((vs.length : Nat) : Int) - 2).toNat)) ++ [(⟨J, (p).length, K⟩ : Sv)])).length cf)) ⟨⟨E, om, om, (by rw [F]; simp; omega), (by rw [F]; simp; omega), cC, cQ, (Lo.down dR om), (by rw [F]; exact (RT.add (RT.take i5 (k := 2) (by simp)) (v := (⟨J, (p).length, K⟩ : Sv)) (Ol.lsR i6 (Lo.down aj om) (lo := cb.heap.size) (hi := gu.heap.size) (fun g hg => by have e := aK g hg; omega)) (Od.rdR (i7.eq (by rw [iG]))) om om (fun g hm => by rcases cd with ea | ea; (rw [ea] at hm; rw [T] at hm; have e := c _ hm; have I := hisv _ hm; omega); (have au := bi _ hm; rw [ea] at hm; have bK := List.mem_singleton.1 hm; omega)) (fun g hm => by rcases cd with ea | ea; (rw [ea] at hm; rw [T] at hm; left; exact hm); (have au := bi _ hm; rw [ea] at hm; have bK := List.mem_singleton.1 hm; right; omega))).eq (by simp_all <;> omega))⟩, sC4 rfl rfl rfl rfl (sC2 rfl rfl (Sub.nil _)), (by first | omega | (dsimp only; omega))⟩)
  have fc := aX
  have aX := Yj aX
  refine Zg fun jV i8 => ?_
  refine Zc (Za rfl rfl (Yy rfl rfl) (Za rfl rfl (Zf rfl) (Ze (Zb (i8 _ _ ?_)))))
  refine Zp rfl (fun aZ => ?_) (fun aZ => ?_)
  ·have fs := aZ
   have aZ := Yi aZ
   obtain ⟨ta, tb, r9, bZ, F⟩ := Zph bY (by unfold arK; rw [if_pos om])
   subst bZ
   simp only [List.length_cons] at hl hs
   have i9 := ml5 (w := wd) (a := ta) (b := tb) (y := f) om
   refine Zg fun jW ja => ?_
   refine Xb [] 12 mixed rfl fun cg eP => ?_
   have jb := eP.size
   have E := E.trans eP
   refine dV 0 rfl rfl rfl (fun _ => Zd rfl) (dV 1 rfl rfl rfl (fun _ => Zd rfl) (dV 2 rfl rfl rfl (fun _ => Zav om rfl rfl) ?_))
   have ft := ((B.ch0 ay).ch aA (dS c hisv om)).ch0 eP
   have fu := ((ms.ch0 ay).ch aA (fun i hm => by have e := List.mem_singleton.1 hm; left; omega)).ch0 eP
   refine dT 3 rfl rfl rfl (Xo (j := (((vs.length : Nat) : Int) - 2).toNat) ft.ls Sv.len el144 sz142 rfl rfl om om fun fv fw dW cR => ?_)
   obtain ⟨jc, cS, fx, fy, fz, aL, dX, jd⟩ := RT.get fu dW
   obtain ⟨dY, je, dZ⟩ := fw
   obtain rfl := aL.eqn
   have jf := aL.len
   replace aL : Ls Sv.cs 1 cg fx fy (.slice dY cS.length dZ) cS := aL
   obtain rfl := (top2 om fz).symm
   replace cR : At cg 0 cg.heap.size fv ([(.slice dY cS.length dZ)]) := cR
   refine dT 4 rfl rfl rfl (Yx cR (fun i hi => absurd hi List.not_mem_nil) agg142 rfl rfl ?_)
   refine dV 5 rfl rfl rfl (fun _ => Zd rfl) (dV 6 rfl rfl rfl (fun _ => Zd rfl) (dV 7 rfl rfl rfl (fun _ => Zav om rfl rfl) ?_))
   refine dT 8 rfl rfl rfl (Xo (j := (((vs.length : Nat) : Int) - 1).toNat) ft.ls Sv.len el144 sz142 rfl rfl om om fun d0 d1 cT bj => ?_)
   obtain ⟨gC, bk, d2, d3, d4, U, cU, gD⟩ := RT.get fu cT
   obtain ⟨ci, gE, cj⟩ := d1
   obtain rfl := U.eqn
   have gF := U.len
   replace U : Ls Sv.cs 1 cg d2 d3 (.slice ci bk.length cj) bk := U
   obtain rfl := (top1 (by first | omega | (simp only [List.length_cons]; omega)) d4).symm
   replace bj : At cg 0 cg.heap.size d0 ([(.slice ci bk.length cj)]) := bj
   refine dT 9 rfl rfl rfl (Yx bj (fun i hi => absurd hi List.not_mem_nil) agg142 rfl rfl ?_)
   refine dO 10 (Zz rfl rfl rfl ?_)
   refine Step.call (Zl (xs := [.tmp 98, .tmp 103]) fk117 rfl) (Zdq aL dX U cU (wd.length + 1) (mtT wd ta) (mtT wd tb) rfl rfl (Qr _ _) (Qr _ _) om) fun gG gH d5 => ?_
   obtain ⟨fA, h, rfl, ak, V, aM, bN, d6⟩ := d5
   have jg := d6.size
   have E := E.trans d6
   obtain ⟨q, r, rfl, eQ, al⟩ := ak.opn
   have d7 : Ch [] cg gH := ((Ch.refl _ _).trans d6)
   refine ⟨d7, ?_⟩
   refine dV 11 rfl rfl rfl (fun _ => Zf rfl) ?_
   refine Yc (by kernel_rfl) ?_
   refine Zb (ja _ _ (Zc (Za rfl rfl (Zd rfl) (Za rfl rfl (Zd rfl) (Za rfl rfl (Zav om rfl rfl) (Zm rfl rfl ?_))))))
   have jh := ft.ch0 d6
   refine (Zmx (ys := (vs.take ((((vs.length : Nat) : Int) - 2).toNat))) 0 ((((vs.length : Nat) : Int) - 2).toNat) jh Sv.len el144 sz142 rfl rfl ⟨_, _, rfl, by omega⟩ om om rfl fun gI ck A fB => ?_)
   obtain ⟨gJ, gK, rfl, gL, gM⟩ := ck.opn
   refine Za rfl rfl (Zd rfl) (Zm rfl rfl ?_)
   refine Ym (cs := Sv.cs) (parts := [(0, .tmp 109)]) (⟨none, 0, 0⟩ : Sv) [(⟨q, (h).length, r⟩ : Sv)] el144 sz142 zr142 Sv.len (by decide) rfl rfl rfl (by decide) (by decide) rfl fun gN jX cl fC dc => ?_
   have ji := dc.size
   have E := E.trans dc
   obtain ⟨fD, fE, rfl, fF, eR⟩ := cl.opn
   refine Zm rfl rfl ?_
   have jj := ck.ch0 dc
   refine Xn (cs := Sv.cs) el144 sz142 by142 zr142 rfl (by decide) Sv.one jj cl.ls rfl rfl (by simp only [List.length_singleton, List.length_take, List.length_drop]; omega) (by simp only [List.length_singleton, List.length_take, List.length_drop]; omega) (fun g hg => c g (A ▸ hg)) om fun gO jk cm cV bm d8 => ?_
   have jl := d8.size
   have E := E.step d8 (fun i hi => .inl (by have e := (fun g hg => c g (A ▸ hg)) _ hi; omega))
   obtain ⟨bn, bp, rfl, fG, a3⟩ := cm.opn
   refine Za rfl rfl (Zf rfl) (Ze (Zw (Zw (Zb (cB _ _ (Zc (Za rfl rfl (Zd rfl) (Za rfl rfl (Yo om rfl rfl) ?_))))))))
   refine Za rfl rfl (Zf rfl) (Ze ?_)
   have cW : Ol Sv.cs 142 1 jk (.slice bn (((vs.take ((((vs.length : Nat) : Int) - 2).toNat)) ++ [(⟨q, (h).length, r⟩ : Sv)])).length bp) (((vs.take ((((vs.length : Nat) : Int) - 2).toNat)) ++ [(⟨q, (h).length, r⟩ : Sv)])) := by
    have hx := cm
    exact hx
   have jm := ((fu.ch0 d6).ch0 dc).ch d8 (fun i hm => by rw [A] at hm; right; exact hm)
   have jn := (ak.ch0 dc).ch d8 (fun g hg hm => by rw [A] at hm; have e := c _ hm; have I := hisv _ hm; have cE := V _ hg; have cF := al _ hg; omega)
   have jo := (aM.ch0 dc).ch d8 (fun i hm => by rw [A] at hm; have e := c _ hm; have I := hisv _ hm; omega)
   exact Zb (Exists.intro ((i + 1), ((vs.take ((((vs.length : Nat) : Int) - 2).toNat)) ++ [(⟨q, (h).length, r⟩ : Sv)]), s2, (.slice bn (((vs.take ((((vs.length : Nat) : Int) - 2).toNat)) ++ [(⟨q, (h).length, r⟩ : Sv)])).length bp)) ⟨⟨E, om, om, (by rw [F]; simp; omega), (by rw [F]; simp; omega), cC, cW, (Lo.down cV om), (by rw [F]; exact (RT.add (RT.take jm (k := 2) (by simp)) (v := (⟨q, (h).length, r⟩ : Sv)) (Ol.lsR jn (Lo.down V om) (lo := cg.heap.size) (hi := gH.heap.size) (fun g hg => by have e := al g hg; omega)) (Od.rdR (jo.eq (by rw [i9]))) om om (fun g hm => by rcases bm with ea | ea; (rw [ea] at hm; rw [A] at hm; have e := c _ hm; have I := hisv _ hm; omega); (have au := a3 _ hm; rw [ea] at hm; have bK := List.mem_singleton.1 hm; omega)) (fun g hm => by rcases bm with ea | ea; (rw [ea] at hm; rw [A] at hm; left; exact hm); (have au := a3 _ hm; rw [ea] at hm; have bK := List.mem_singleton.1 hm; right; omega))).eq (by simp_all <;> omega))⟩, sC4 rfl rfl rfl rfl (sC2 rfl rfl (Sub.nil _)), (by first | omega | (dsimp only; omega))⟩)
  have fs := aZ
  have aZ := Yj aZ
  refine Zg fun jY jp => ?_
  refine Zc (Za rfl rfl (Yy rfl rfl) (Za rfl rfl (Zf rfl) (Ze (Zb (jp _ _ ?_)))))
  refine Zp rfl (fun X => ?_) (fun X => ?_)
  ·have d9 := X
   have X := Yi X
   obtain ⟨ta, r9, bZ, F⟩ := Zqg bY (by unfold arK; rw [if_neg om, if_pos om])
   subst bZ
   simp only [List.length_cons] at hl hs
   have jq := ml6 (w := wd) (a := ta) (y := f) om
   refine Zc (Za rfl rfl (Zd rfl) (Za rfl rfl (Zd rfl) (Za rfl rfl (Zav om rfl rfl) (Za rfl rfl (Zd rfl) (Za rfl rfl (Zd rfl) (Za rfl rfl (Zav om rfl rfl) (Zm rfl rfl ?_)))))))
   have eb := (B.ch0 ay).ch aA (dS c hisv om)
   refine (Yw (j := (((vs.length : Nat) : Int) - 1).toNat) eb.ls Sv.len el144 sz142 rfl rfl om om fun ec ed cX bq => ?_)
   have ee := (ms.ch0 ay).ch aA (fun i hm => by have e := List.mem_singleton.1 hm; left; omega)
   obtain ⟨gP, br, ef, eg, eh, Y, cY, gQ⟩ := RT.get ee cX
   obtain ⟨cn, gR, co⟩ := ed
   obtain rfl := Y.eqn
   have gS := Y.len
   replace Y : Ls Sv.cs 1 bH ef eg (.slice cn br.length co) br := Y
   obtain rfl := (top1 (by first | omega | (simp only [List.length_cons]; omega)) eh).symm
   replace bq : At bH 0 bH.heap.size ec ([(.slice cn br.length co)]) := bq
   refine Za rfl rfl (Yr bq agg142 rfl rfl) (Za rfl rfl (Zd rfl) (Za rfl rfl (Xc (by rw [el30]; rfl) rfl) (Zm rfl rfl ?_)))
   refine Step.call (Zl (xs := [.tmp 121, .const (Go.Value.int Go.IntKind.i64 0), .tmp 123]) fk118 rfl) (Zcw Y cY _ _ (wd.length + 1) (mtT wd ta) rfl (Qr _ _) om om) fun gT fH ei => ?_
   obtain ⟨fI, C, rfl, am, Z, aN, bO, bP⟩ := ei
   have gU := bP.size
   have E := E.trans bP
   obtain ⟨O, P, rfl, eS, an⟩ := am.opn
   refine Zm rfl rfl ?_
   have ej := eb.ch0 bP
   refine Qj (j := (((vs.length : Nat) : Int) - 1).toNat) ej el144 sz142 rfl rfl om (by first | omega | (simp; omega)) fun gV gW fJ ek => ?_
   refine Zm rfl rfl ?_
   refine Qk (j := (((vs.length : Nat) : Int) - 1).toNat) (⟨O, (C).length, P⟩ : Sv) ej ek Sv.len sz142 rfl rfl rfl rfl (by first | omega | (simp; omega)) fun fK cZ bs => ?_
   have gX := bs.size
   have E := E.step bs (fun i hi => .inl (by have e := c _ hi; omega))
   refine Ze (Zw (Zw (Zb (cB _ _ (Zc (Za rfl rfl (Zd rfl) (Za rfl rfl (Yo om rfl rfl) (Za rfl rfl (Zf rfl) ?_))))))))
   refine Ze ?_
   have bQ : Ol Sv.cs 142 1 fK (.slice Asv (vs).length Csv) ((vs.set ((((vs.length : Nat) : Int) - 1).toNat) (⟨O, (C).length, P⟩ : Sv))) := by
    have hx := cZ
    exact hx
   have fL := (ee.ch0 bP).ch bs (fun i hm => by right; exact hm)
   have fM := am.ch bs (fun g hg hm => by have e := c _ hm; have I := hisv _ hm; have cE := Z _ hg; have cF := an _ hg; omega)
   have fN := aN.ch bs (fun i hm => by have e := c _ hm; have I := hisv _ hm; omega)
   exact Zb (Exists.intro ((i + 1), (vs.set ((((vs.length : Nat) : Int) - 1).toNat) (⟨O, (C).length, P⟩ : Sv)), s2, (.slice Asv (vs).length Csv)) ⟨⟨E, om, om, (by rw [F]; simp; omega), (by rw [F]; simp; omega), cC, bQ, (Lo.down c om), (by rw [F]; exact (RT.add (RT.take fL (k := 1) (by simp)) (v := (⟨O, (C).length, P⟩ : Sv)) (Ol.lsR fM (Lo.down Z om) (lo := bH.heap.size) (hi := fH.heap.size) (fun g hg => by have e := an g hg; omega)) (Od.rdR (fN.eq (by rw [jq]; exact congrArg (fun z => grd (wd.length + 1) (repM (wd.length + 1) (mtT wd ta) 0 z)) om))) om om (fun g hm => by have e := c _ hm; have I := hisv _ hm; omega) (fun g hm => by left; exact hm)).eq (Zno om))⟩, sC4 rfl rfl rfl rfl (sC2 rfl rfl (Sub.nil _)), (by first | omega | (dsimp only; omega))⟩)
  have d9 := X
  have X := Yj X
  refine Zg fun jr fO => ?_
  refine Zc (Za rfl rfl (Yy rfl rfl) (Za rfl rfl (Zf rfl) (Ze (Zb (fO _ _ ?_)))))
  refine Zp rfl (fun aa => ?_) (fun aa => ?_)
  ·have el := aa
   have aa := Yi aa
   obtain ⟨ta, r9, bZ, F⟩ := Zqg bY (by unfold arK; rw [if_neg om, if_pos om])
   subst bZ
   simp only [List.length_cons] at hl hs
   have js := ml7 (w := wd) (a := ta) (y := f) om
   have jZ := Zub bY om
   refine Xb (bl (.slice Asv (vs).length Csv)) 15 mixed rfl fun a5 bu => ?_
   have gY := bu.size
   have E := E.trans bu
   refine dV 0 rfl rfl rfl (fun _ => Zd rfl) (dV 1 rfl rfl rfl (fun _ => Zd rfl) (dV 2 rfl rfl rfl (fun _ => Zav om rfl rfl) (dV 3 rfl rfl rfl (fun _ => Zd rfl) (dV 4 rfl rfl rfl (fun _ => Zd rfl) (dV 5 rfl rfl rfl (fun _ => Zav om rfl rfl) (dV 8 rfl rfl rfl (fun _ => Zh fa84_2 rfl) ?_))))))
   have em := az.ch0 bu
   refine dT 9 rfl rfl rfl (Xh em.at_ (fun i hm => by have e := c _ hm; have I := hisv _ hm; omega) agg3 rfl rfl ?_)
   refine dV 10 rfl rfl rfl (fun _ => Zh fa84_3 rfl) ?_
   refine dT 11 rfl rfl rfl (Xh em.at_ (fun i hm => by have e := c _ hm; have I := hisv _ hm; omega) agg3 rfl rfl ?_)
   refine dO 6 (Zz rfl rfl rfl ?_)
   have en := ((B.ch0 ay).ch aA (dS c hisv om)).ch0 bu
   refine (Yw (j := (((vs.length : Nat) : Int) - 1).toNat) en.ls Sv.len el144 sz142 rfl rfl om om fun eo ep c0 bv => ?_)
   have er := ((ms.ch0 ay).ch aA (fun i hm => by have e := List.mem_singleton.1 hm; left; omega)).ch0 bu
   obtain ⟨gZ, bw, es, et, eu, ab, c1, g0⟩ := RT.get er c0
   obtain ⟨cp, g1, cq⟩ := ep
   obtain rfl := ab.eqn
   have g2 := ab.len
   replace ab : Ls Sv.cs 1 a5 es et (.slice cp bw.length cq) bw := ab
   obtain rfl := (top1 (by first | omega | (simp only [List.length_cons]; omega)) eu).symm
   replace bv : At a5 0 a5.heap.size eo ([(.slice cp bw.length cq)]) := bv
   refine ⟨(Ch.refl _ _), ?_⟩
   refine dO 7 (Zz rfl rfl rfl ?_)
   refine s_v (Yr bv agg142 rfl rfl) ?_
   refine ⟨(Ch.refl _ _), ?_⟩
   refine dO 12 (Zz rfl rfl rfl ?_)
   refine Step.call (Zl (xs := [.tmp 135, .tmp 137, .tmp 139]) fk118 rfl) (Zcw ab c1 _ _ (wd.length + 1) (mtT wd ta) rfl (Qr _ _) om om) fun g3 ew ex => ?_
   obtain ⟨fP, D, rfl, ao, ac, aO, bR, bx⟩ := ex
   have g4 := bx.size
   have E := E.trans bx
   obtain ⟨Q, R, rfl, eT, ap⟩ := ao.opn
   have a0 : Ch (bl (.slice Asv (vs).length Csv)) a5 ew := ((Ch.refl _ _).trans bx.of_nil)
   refine ⟨a0, ?_⟩
   refine dO 13 (Zz rfl rfl rfl ?_)
   have ey := en.ch0 bx
   refine Qj (j := (((vs.length : Nat) : Int) - 1).toNat) ey el144 sz142 rfl rfl om (by first | omega | (simp; omega)) fun g5 g6 fQ ez => ?_
   refine ⟨a0, ?_⟩
   refine dO 14 (Zz rfl rfl rfl ?_)
   refine Qk (j := (((vs.length : Nat) : Int) - 1).toNat) (⟨Q, (D).length, R⟩ : Sv) ey ez Sv.len sz142 rfl rfl rfl rfl (by first | omega | (simp; omega)) fun eA c2 a6 => ?_
   have g7 := a6.size
   have E := E.step a6 (fun i hi => .inl (by have e := c _ hi; omega))
   have c3 : Ch (bl (.slice Asv (vs).length Csv)) a5 eA := (a0.step a6 (fun i hm => by exact .inr hm))
   refine ⟨c3, ?_⟩
   refine Yc (by kernel_rfl) ?_
   refine Zw (Zw (Zb (cB _ _ (Zc (Za rfl rfl (Zd rfl) (Za rfl rfl (Yo om rfl rfl) (Za rfl rfl (Zf rfl) (Ze ?_))))))))
   have bS : Ol Sv.cs 142 1 eA (.slice Asv (vs).length Csv) ((vs.set ((((vs.length : Nat) : Int) - 1).toNat) (⟨Q, (D).length, R⟩ : Sv))) := by
    have hx := c2
    exact hx
   have fR := (er.ch0 bx).ch a6 (fun i hm => by right; exact hm)
   have fS := ao.ch a6 (fun g hg hm => by have e := c _ hm; have I := hisv _ hm; have cE := ac _ hg; have cF := ap _ hg; omega)
   have fT := aO.ch a6 (fun i hm => by have e := c _ hm; have I := hisv _ hm; omega)
   exact Zb (Exists.intro ((i + 1), (vs.set ((((vs.length : Nat) : Int) - 1).toNat) (⟨Q, (D).length, R⟩ : Sv)), s2, (.slice Asv (vs).length Csv)) ⟨⟨E, om, om, (by rw [F]; simp; omega), (by rw [F]; simp; omega), cC, bS, (Lo.down c om), (by rw [F]; exact (RT.add (RT.take fR (k := 1) (by simp)) (v := (⟨Q, (D).length, R⟩ : Sv)) (Ol.lsR fS (Lo.down ac om) (lo := a5.heap.size) (hi := ew.heap.size) (fun g hg => by have e := ap g hg; omega)) (Od.rdR (fT.eq (by rw [js]))) om om (fun g hm => by have e := c _ hm; have I := hisv _ hm; omega) (fun g hm => by left; exact hm)).eq (Zno om))⟩, sC4 rfl rfl rfl rfl (sC2 rfl rfl (Sub.nil _)), (by first | omega | (dsimp only; omega))⟩)
  have el := aa
  have aa := Yj aa
  have F := Zml bY (by unfold arK; rw [if_neg om, if_neg om])
  have jt := ml0 (w := wd) (y := f) ⟨by omega, by omega⟩
  refine Zc (Za rfl rfl (Zd rfl) (Za rfl rfl (Zd rfl) (Zm rfl rfl ?_)))
  refine Step.call (Zl (xs := [.tmp 33, .const (Go.Value.bool false)]) fk115 rfl) (Zal (wd.length + 1) _ om) fun ju fU fV => ?_
  obtain ⟨g8, s, rfl, aP, aq, a1, cr, bT⟩ := fV
  have g9 := bT.size
  have E := E.trans bT
  obtain ⟨L, M, rfl, fW, aQ⟩ := aP.opn
  refine Zm rfl rfl ?_
  refine Ym (cs := Sv.cs) (parts := [(0, .tmp 34)]) (⟨none, 0, 0⟩ : Sv) [(⟨L, (s).length, M⟩ : Sv)] el144 sz142 zr142 Sv.len (by decide) rfl rfl rfl (by decide) (by decide) rfl fun jv jw eB ha a7 => ?_
  have hb := a7.size
  have E := E.trans a7
  obtain ⟨hc, hd, rfl, he, fX⟩ := eB.opn
  refine Zm rfl rfl ?_
  have fY := (((B.ch0 ay).ch aA (dS c hisv om)).ch0 bT).ch0 a7
  refine Xn (cs := Sv.cs) el144 sz142 by142 zr142 rfl (by decide) Sv.one fY eB.ls rfl rfl (by simp only [List.length_singleton, List.length_take, List.length_drop]; omega) (by simp only [List.length_singleton, List.length_take, List.length_drop]; omega) c om fun jx fZ eC eD ct bz => ?_
  have hf := bz.size
  have E := E.step bz (fun i hi => .inl (by have e := c _ hi; omega))
  obtain ⟨cu, cv, rfl, hh, bA⟩ := eC.opn
  refine Za rfl rfl (Zf rfl) (Ze (Zw (Zw (Zb (cB _ _ (Zc (Za rfl rfl (Zd rfl) (Za rfl rfl (Yo om rfl rfl) ?_))))))))
  refine Za rfl rfl (Zf rfl) (Ze ?_)
  have bU : Ol Sv.cs 142 1 fZ (.slice cu ((vs ++ [(⟨L, (s).length, M⟩ : Sv)])).length cv) ((vs ++ [(⟨L, (s).length, M⟩ : Sv)])) := by
   have hx := eC
   exact hx
  have f0 := ((((ms.ch0 ay).ch aA (fun i hm => by have e := List.mem_singleton.1 hm; left; omega)).ch0 bT).ch0 a7).ch bz (fun i hm => by right; exact hm)
  have f1 := (aP.ch0 a7).ch bz (fun g hg hm => by have e := c _ hm; have I := hisv _ hm; have cE := aq _ hg; have cF := aQ _ hg; omega)
  have f2 := (a1.ch0 a7).ch bz (fun i hm => by have e := c _ hm; have I := hisv _ hm; omega)
  exact Zb (Exists.intro ((i + 1), (vs ++ [(⟨L, (s).length, M⟩ : Sv)]), s2, (.slice cu ((vs ++ [(⟨L, (s).length, M⟩ : Sv)])).length cv)) ⟨⟨E, om, om, (by rw [F]; simp; omega), (by rw [F]; simp; omega), cC, bU, (Lo.down eD om), (by rw [F]; exact (RT.add f0 (v := (⟨L, (s).length, M⟩ : Sv)) (Ol.lsR f1 (Lo.down aq om) (lo := bH.heap.size) (hi := fU.heap.size) (fun g hg => by have e := aQ g hg; omega)) (Od.rdR (f2.eq (by rw [jt]))) om om (fun g hm => by rcases ct with ea | ea; (rw [ea] at hm; have e := c _ hm; have I := hisv _ hm; omega); (have au := bA _ hm; rw [ea] at hm; have bK := List.mem_singleton.1 hm; omega)) (fun g hm => by rcases ct with ea | ea; (rw [ea] at hm; left; exact hm); (have au := bA _ hm; rw [ea] at hm; have bK := List.mem_singleton.1 hm; right; omega))).eq (by simp_all <;> omega))⟩, sC4 rfl rfl rfl rfl (sC2 rfl rfl (Sub.nil _)), (by first | omega | (dsimp only; omega))⟩)
 have eW := aR
 have aR := Yj aR
 have jy := Zut f4 hp om
 subst jy
 simp only [List.length_cons, List.length_nil] at hl
 refine Xe (Zr (Zr (Yu ?_)))
 refine Zb (H5 _ _ ?_)
 refine Zg fun jz f3 => ?_
 refine Zc (Za rfl rfl (Zd rfl) (Zm rfl rfl ?_))
 refine (Yw (j := 0) B.ls Sv.len el144 sz142 rfl rfl rfl om fun eE eF c4 bB => ?_)
 obtain ⟨hj, bC, bD, bE, eG, ad, bF, hk⟩ := RT.get ms c4
 obtain ⟨cw, hn, cx⟩ := eF
 obtain rfl := ad.eqn
 have ho := ad.len
 replace ad : Ls Sv.cs 1 R8 bD bE (.slice cw bC.length cx) bC := ad
 have c5 := bF.1
 rw [Ql] at c5
 replace bB : At R8 0 R8.heap.size eE ([(.slice cw bC.length cx)]) := bB
 refine Za rfl rfl (Yr bB agg142 rfl rfl) (Zm rfl rfl ?_)
 refine (Yw (j := 0) ad Sv.len el142 sz24 rfl rfl rfl om fun eH eI c6 bG => ?_)
 obtain ⟨a2, a4, ae⟩ := bF.get c6
 obtain ⟨cy, hq, cz⟩ := eI
 obtain rfl := ae.eqn
 have hr := ae.len
 replace ae : Ls bcs 1 R8 bD bE (.slice cy a2.length cz) a2 := ae
 replace bG : At R8 bD bE eH ([(.slice cy a2.length cz)]) := bG
 have ht := Zai rfl a4
 refine Za rfl rfl (Yr bG agg24 rfl rfl) (Za rfl rfl (Zd rfl) (Za rfl rfl (Xc (by rw [el30]; rfl) rfl) (Zm rfl rfl ?_)))
 refine (Yw ae Qg el24 sz4 rfl rfl rfl om fun hu hv c7 eJ => ?_)
 refine Za rfl rfl (Yr eJ agg4 rfl rfl) (Za rfl rfl (Zf rfl) (Ze (Zb (f3 _ _ ?_))))
 refine Zq ?_
 exact Zi [_] ⟨rfl, trivial⟩ ⟨congrArg Value.bool (Zvt eG a4 c7), E⟩

/-- spec.MatchesWord -/
theorem Xk {w : World} {LL_e u : Nat} {m : Value} {e : List Token} (f : Ls Token.cs 4 w LL_e u m e) {LL_word i : Nat} {c : Value} {word : List Int} (a : Ls ics 1 w LL_word i c word) (hb : e.length ≤ 1048576) :
 Ctr Try.prog 34 #[(.agg #[m]), c] w (fun v w' => v = .bool (mwE e word) ∧ Ch [] w w') := by
 obtain ⟨n, o, p⟩ := f.val
 subst p
 have z := f.len
 have f := f.here (by decide)
 obtain ⟨j, k, g⟩ := a.val
 subst g
 have s := a.len
 have a := a.here (by decide)
 have E := Ch.refl [] w
 refine Ye (N := 17) (vs0 := [(.agg #[(.slice n e.length o)]), (.slice j word.length k)]) Try.func34 rfl rfl rfl ?_
 refine Zg fun K1 H1 => ?_
 refine Zc (Zm rfl rfl ?_)
 refine Qw rfl fun A W2 r C2 M => ?_
 have O := C2.size
 have E := E.trans C2
 have P := r.lt
 replace r : Blk W2 A 44 [(.slice n e.length o)] := r
 refine Za rfl rfl (Zf rfl) (Ze (Zb (H1 _ _ ?_)))
 refine Zg fun K3 H3 => ?_
 refine Zc (Za rfl rfl (Zy r.at_ agg44 sz44 rfl) (Zm rfl rfl ?_))
 have F4 := f.ch0 C2
 refine Step.call (Zl (xs := [.tmp 5]) fk31 rfl) (Zac F4 ) fun Q W5 B => ?_
 obtain ⟨rfl, C5⟩ := B
 have R := C5.size
 have E := E.trans C5
 refine Za rfl rfl (Zd rfl) ?_
 refine Yp (d := 7) rfl (fun h => ?_) (fun h => ?_)
 ·have C := h
  obtain ⟨D, t, S, f9, T⟩ := Zkn h
  refine Za rfl rfl (Zd rfl) (Zm rfl rfl ?_)
  have F7 := (a.ch0 C2).ch0 C5
  refine Step.call (Zl (xs := [.tmp 8]) fk32 rfl) (Zaw F7 ) fun U W8 F => ?_
  obtain ⟨rfl, C8⟩ := F
  have V := C8.size
  have E := E.trans C8
  refine Za rfl rfl (Ya rfl rfl) (Za rfl rfl (Zd rfl) ?_)
  refine Yp (d := 11) rfl (fun b => ?_) (fun b => ?_)
  ·have G := b
   have b := bt_t b
   have l := b
   refine Za rfl rfl (Zh fa44_0 rfl) ?_
   have H := (r.ch0 C5).ch0 C8
   refine Za rfl rfl (Zk H.at_ agg42 rfl rfl) (Za rfl rfl (Zd rfl) (Zm rfl rfl ?_))
   have I := (F4.ch0 C5).ch0 C8
   have J := F7.ch0 C8
   refine Step.call (Zl (xs := [.tmp 13, .tmp 14]) fk78 rfl) (Zin I J D t (by have q := l.2; omega) om) fun K X x => ?_
   obtain ⟨rfl, y⟩ := x
   have L := y.size
   have E := E.trans y
   refine Za rfl rfl (Ya rfl rfl) (Za rfl rfl (Zf rfl) (Ze (Zb (H3 _ _ ?_))))
   refine Zq ?_
   exact Zi [_] ⟨rfl, trivial⟩ ⟨congrArg Value.bool (by first | (rw [Zlx h l t]; done) | (rw [Zis h]; done) | (rw [Ziu b]; done)), E⟩
  have G := b
  have b := bf_t b
  refine Zj rfl rfl (Zj rfl rfl (Zj rfl rfl (Zj rfl rfl (Za rfl rfl (Yb rfl rfl) (Za rfl rfl (Zf rfl) (Ze (Zb (H3 _ _ ?_))))))))
  refine Zq ?_
  exact Zi [_] ⟨rfl, trivial⟩ ⟨congrArg Value.bool (by first | (rw [Zlx h l t]; done) | (rw [Zis h]; done) | (rw [Ziu b]; done)), E⟩
 have C := h
 refine Zj rfl rfl (Zj rfl rfl (Za rfl rfl (Yb rfl rfl) (Za rfl rfl (Zd rfl) (Zj rfl rfl (Zj rfl rfl (Zj rfl rfl (Zj rfl rfl ?_)))))))
 refine Za rfl rfl (Yb rfl rfl) (Za rfl rfl (Zf rfl) (Ze (Zb (H3 _ _ ?_))))
 refine Zq ?_
 exact Zi [_] ⟨rfl, trivial⟩ ⟨congrArg Value.bool (by first | (rw [Zlx h l t]; done) | (rw [Zis h]; done) | (rw [Ziu b]; done)), E⟩

/-- laws.FnPositions -/
theorem Zfi {w : World} {LL_code cH : Nat} {bQ : Value} {code : List Int} (T : Ls ucs 1 w LL_code cH bQ code) :
 Ctr Try.prog 5 #[bQ] w (fun v w' => v = .bool (true) ∧ Ch [] w w') := by
 obtain ⟨cI, cJ, bY⟩ := T.val
 subst bY
 have fe := T.len
 have T := T.here (by decide)
 have E := Ch.refl [] w
 refine Ye (N := 165) (vs0 := [(.slice cI code.length cJ)]) Try.func5 rfl rfl rfl ?_
 refine Zg fun K1 H1 => ?_
 refine Zc (Za rfl rfl (Zf rfl) (Ze (Zb (H1 _ _ ?_))))
 refine Zg fun K2 H2 => ?_
 refine Zg fun K3 H3 => ?_
 refine Zc (Za rfl rfl (Zd rfl) (Zm rfl rfl ?_))
 refine Step.call (Zl (xs := [.tmp 16]) fk6 rfl) (Zod T ) fun jc W4 fu => ?_
 obtain ⟨rfl, C4⟩ := fu
 have kP := C4.size
 have E := E.trans C4
 refine Ze (Zb (H3 _ _ ?_))
 refine Zp rfl (fun ba => ?_) (fun ba => ?_)
 ·have jd := ba
  have ba := Yi ba
  refine Zg fun K6 H6 => ?_
  refine Zc (Za rfl rfl (Zf rfl) (Ze (Zb (H6 _ _ ?_))))
  refine Zq (Zo ?_)
  exact Zi [_] ⟨rfl, trivial⟩ ⟨congrArg Value.bool (by first | rfl | (rw [Zbz e]; rfl) | (exfalso; omega) | (exfalso; exact c (Qa e b)) | (exfalso; simp_all; done) | (simp_all; done)), E⟩
 have jd := ba
 have ba := Yj ba
 refine Zu ?_
 refine Zb (H2 _ _ ?_)
 refine Zg fun K7 H7 => ?_
 refine Zc (Za rfl rfl (Zd rfl) (Zm rfl rfl ?_))
 have F8 := T.ch0 C4
 refine Step.call (Zl (xs := [.tmp 19]) fk25 rfl) (Zdj F8 om) fun je W9 fv => ?_
 obtain ⟨a, g, ff, h2, rfl, ae, u, V, h, bR, fw, fx, C9⟩ := fv
 have kQ := C9.size
 have E := E.trans C9
 obtain ⟨y, z, rfl, dr, x⟩ := ae.opn
 obtain ⟨M, O, rfl, fy, o⟩ := V.opn
 refine Za rfl rfl (Zd rfl) (Za rfl rfl (Qh rfl rfl) (Za rfl rfl (Qh rfl rfl) (Zm rfl rfl ?_)))
 refine Yh zr44 fun cE jf fg dp kR => ?_
 have jg := dp.size
 have E := E.trans dp
 have kS := fg.lt
 replace fg : Blk jf cE 44 [(.slice none 0 0)] := fg
 refine Zm rfl rfl ?_
 refine Zn (off := 0) 1 fg sz44 rfl (us := [(.slice y (a).length z)]) rfl rfl rfl rfl fun jh bS dq => ?_
 have ji := dq.size
 have E := E.step dq (lS om)
 replace bS : Blk jh cE 44 [(.slice y (a).length z)] := bS
 refine Za rfl rfl (Zf rfl) (Ze (Zb (H7 _ _ ?_)))
 refine Zg fun kT jj => ?_
 refine Zc (Za rfl rfl (Zy bS.at_ agg44 sz44 rfl) (Zm rfl rfl ?_))
 have h3 := (ae.ch0 dp).ch dq (dS u x om)
 refine Step.call (Zl (xs := [.tmp 24]) fk26 rfl) (Zdu h3.ls om) fun jk kU fz => ?_
 obtain ⟨fh, fi, rfl, af, j, ag, m, a7, c1⟩ := fz
 have jl := c1.size
 have E := E.trans c1
 obtain ⟨A, B, rfl, ds, r⟩ := af.opn
 obtain ⟨C, D, rfl, dt, t⟩ := ag.opn
 have el9 := Zhc a
 refine Za rfl rfl (Zd rfl) (Za rfl rfl (Qh rfl rfl) (Za rfl rfl (Qh rfl rfl) (Zm rfl rfl ?_)))
 refine Yh zr48 fun cF jm fj cK kV => ?_
 have jn := cK.size
 have E := E.trans cK
 have kW := fj.lt
 replace fj : Blk jm cF 48 [(.slice none 0 0), (.int .i64 0), (.int .i64 0), (.slice none 0 0), (.bool false)] := fj
 refine Zm rfl rfl ?_
 refine Zn (off := 0) 5 fj sz48 rfl (us := [(.slice A ((bpE a).1.L).length B), (.int .i64 ((bpE a).1.f)), (.int .i64 ((bpE a).1.l)), (.slice C ((bpE a).1.F).length D), (.bool ((bpE a).1.n))]) rfl rfl rfl rfl fun jo bZ cL => ?_
 have jp := cL.size
 have E := E.step cL (lS om)
 replace bZ : Blk jo cF 48 [(.slice A ((bpE a).1.L).length B), (.int .i64 ((bpE a).1.f)), (.int .i64 ((bpE a).1.l)), (.slice C ((bpE a).1.F).length D), (.bool ((bpE a).1.n))] := bZ
 refine Za rfl rfl (Zf rfl) (Ze (Zb (jj _ _ ?_)))
 refine Zg fun kX jq => ?_
 refine Zc ?_
 have h4 := ((bS.ch0 c1).ch0 cK).ch cL (nS om)
 refine Za rfl rfl (Zy h4.at_ agg44 sz44 rfl) (Zm rfl rfl ?_)
 have h5 := ((h3.ch0 c1).ch0 cK).ch cL (dS u x om)
 refine Step.call (Zl (xs := [.tmp 29]) fk27 rfl) (Zds h5.ls om) fun jr kY fA => ?_
 obtain ⟨fk, fl, rfl, ah, aJ, ai, aK, a8, cG⟩ := fA
 have js := cG.size
 have E := E.trans cG
 obtain ⟨aL, aM, rfl, du, bb⟩ := ah.opn
 obtain ⟨aN, aO, rfl, dv, bc⟩ := ai.opn
 refine Za rfl rfl (Zd rfl) (Za rfl rfl (Qh rfl rfl) (Za rfl rfl (Qh rfl rfl) (Zm rfl rfl ?_)))
 refine Yh zr48 fun h6 jt fm bW kZ => ?_
 have ju := bW.size
 have E := E.trans bW
 have k3 := fm.lt
 replace fm : Blk jt h6 48 [(.slice none 0 0), (.int .i64 0), (.int .i64 0), (.slice none 0 0), (.bool false)] := fm
 refine Zm rfl rfl ?_
 refine Zn (off := 0) 5 fm sz48 rfl (us := [(.slice aL ((bpE a).1.L).length aM), (.int .i64 ((bpE a).1.f)), (.int .i64 ((bpE a).1.l)), (.slice aN ((bpE a).1.F).length aO), (.bool ((bpE a).1.n))]) rfl rfl rfl rfl fun jv bT bX => ?_
 have jw := bX.size
 have E := E.step bX (lS om)
 replace bT : Blk jv h6 48 [(.slice aL ((bpE a).1.L).length aM), (.int .i64 ((bpE a).1.f)), (.int .i64 ((bpE a).1.l)), (.slice aN ((bpE a).1.F).length aO), (.bool ((bpE a).1.n))] := bT
 refine Za rfl rfl (Zf rfl) (Ze (Zb (jq _ _ ?_)))
 refine Zg fun k4 jx => ?_
 refine Zg fun k5 fn => ?_
 refine Zc (Za rfl rfl (Zd rfl) (Za rfl rfl (Zd rfl) (Za rfl rfl (Zmq un4 rfl rfl) (Za rfl rfl (Zd rfl) ?_))))
 refine Yp (d := 36) rfl (fun be => ?_) (fun be => ?_)
 ·have fB := be
  have be := bf_e (Qu be)
  refine Zj rfl rfl (Zj rfl rfl (Zj rfl rfl (Zj rfl rfl (Zj rfl rfl (Zj rfl rfl (Za rfl rfl (Ya rfl rfl) (Za rfl rfl (Zd rfl) ?_)))))))
  refine Zj rfl rfl (Zj rfl rfl (Zj rfl rfl (Zj rfl rfl (Zj rfl rfl (Zj rfl rfl (Za rfl rfl (Ya rfl rfl) (Za rfl rfl (Zd rfl) ?_)))))))
  refine Zj rfl rfl (Zj rfl rfl (Zj rfl rfl (Zj rfl rfl (Zj rfl rfl (Za rfl rfl (Ya rfl rfl) (Za rfl rfl (Zd rfl) (Zj rfl rfl ?_)))))))
  refine Zj rfl rfl (Zj rfl rfl (Zj rfl rfl (Zj rfl rfl (Za rfl rfl (Ya rfl rfl) (Za rfl rfl (Zd rfl) (Zj rfl rfl (Zj rfl rfl ?_)))))))
  refine Zj rfl rfl (Zj rfl rfl (Zj rfl rfl (Za rfl rfl (Ya rfl rfl) (Ze (Zb (fn _ _ ?_))))))
  refine Qf rfl ?_
  refine Zg fun k6 jy => ?_
  refine Zc (Za rfl rfl (Zf rfl) (Ze (Zb (jy _ _ ?_))))
  refine Zq (Zo ?_)
  exact Zi [_] ⟨rfl, trivial⟩ ⟨congrArg Value.bool (by first | rfl | (rw [Zbz e]; rfl) | (exfalso; omega) | (exfalso; exact c (Qa e b)) | (exfalso; simp_all; done) | (simp_all; done)), E⟩
 have fB := be
 have be := bt_e (Qv be)
 refine Za rfl rfl (Zh fa48_0 rfl) ?_
 have h7 := ((bZ.ch0 cG).ch0 bW).ch bX (nS om)
 refine Za rfl rfl (Zk h7.at_ agg30 rfl rfl) (Za rfl rfl (Zh fa48_0 rfl) (Za rfl rfl (Zk bT.at_ agg30 rfl rfl) (Zm rfl rfl ?_)))
 have dw := ((((af.ch0 cK).ch cL (dS j r om)).ch0 cG).ch0 bW).ch bX (dS j r om)
 have jz := (ah.ch0 bW).ch bX (dS aJ bb om)
 refine Step.call (Zl (xs := [.tmp 38, .tmp 40]) fk10 rfl) (Zdr dw.ls jz.ls ) fun fC k7 cM => ?_
 replace cM : fC = .bool (true) ∧ _ := ⟨cM.1.trans (congrArg Value.bool (decide_eq_true rfl)), cM.2⟩
 obtain ⟨rfl, bf⟩ := cM
 have jA := bf.size
 have E := E.trans bf
 refine Za rfl rfl (Zbh rfl) (Za rfl rfl (Yb rfl rfl) (Za rfl rfl (Zd rfl) (Za rfl rfl (Zh fa48_3 rfl) ?_)))
 have h8 := h7.ch0 bf
 refine Za rfl rfl (Zk h8.at_ agg30 rfl rfl) (Za rfl rfl (Zh fa48_3 rfl) ?_)
 have h9 := bT.ch0 bf
 refine Za rfl rfl (Zk h9.at_ agg30 rfl rfl) (Zm rfl rfl ?_)
 have dx := (((((ag.ch0 cK).ch cL (dS m t om)).ch0 cG).ch0 bW).ch bX (dS m t om)).ch0 bf
 have jB := ((ai.ch0 bW).ch bX (dS aK bc om)).ch0 bf
 refine Step.call (Zl (xs := [.tmp 46, .tmp 48]) fk10 rfl) (Zdr dx.ls jB.ls ) fun fD k8 cN => ?_
 replace cN : fD = .bool (true) ∧ _ := ⟨cN.1.trans (congrArg Value.bool (decide_eq_true rfl)), cN.2⟩
 obtain ⟨rfl, aP⟩ := cN
 have jC := aP.size
 have E := E.trans aP
 refine Za rfl rfl (Zbh rfl) (Za rfl rfl (Yb rfl rfl) (Za rfl rfl (Zd rfl) (Za rfl rfl (Zh fa48_1 rfl) ?_)))
 have cX := h8.ch0 aP
 refine Za rfl rfl (Zk cX.at_ agg3 rfl rfl) (Za rfl rfl (Zh fa48_1 rfl) ?_)
 have fE := h9.ch0 aP
 refine Za rfl rfl (Zk fE.at_ agg3 rfl rfl) (Za rfl rfl (Zbg rfl rfl) (Za rfl rfl (Yb rfl rfl) (Za rfl rfl (Zd rfl) ?_)))
 refine Yp (d := 59) rfl (fun bg => ?_) (fun bg => ?_)
 ·have fF := bg
  have bg := Yj (Qu bg)
  refine Zj rfl rfl (Zj rfl rfl (Zj rfl rfl (Zj rfl rfl (Zj rfl rfl (Za rfl rfl (Ya rfl rfl) (Za rfl rfl (Zd rfl) (Zj rfl rfl ?_)))))))
  refine Zj rfl rfl (Zj rfl rfl (Zj rfl rfl (Zj rfl rfl (Za rfl rfl (Ya rfl rfl) (Ze (Zb (fn _ _ ?_)))))))
  refine Qf rfl ?_
  refine Zg fun k9 jD => ?_
  refine Zc (Za rfl rfl (Zf rfl) (Ze (Zb (jD _ _ ?_))))
  refine Zq (Zo ?_)
  exact Zi [_] ⟨rfl, trivial⟩ ⟨congrArg Value.bool (by first | rfl | (rw [Zbz e]; rfl) | (exfalso; omega) | (exfalso; exact c (Qa e b)) | (exfalso; simp_all; done) | (simp_all; done)), E⟩
 have fF := bg
 have bg := Yi (Qv bg)
 refine Za rfl rfl (Zh fa48_2 rfl) (Za rfl rfl (Zk cX.at_ agg3 rfl rfl) (Za rfl rfl (Zh fa48_2 rfl) (Za rfl rfl (Zk fE.at_ agg3 rfl rfl) (Za rfl rfl (Zbg rfl rfl) (Za rfl rfl (Yb rfl rfl) (Za rfl rfl (Zd rfl) ?_))))))
 refine Yp (d := 66) rfl (fun bh => ?_) (fun bh => ?_)
 ·have fG := bh
  have bh := Yj (Qu bh)
  refine Zj rfl rfl (Zj rfl rfl (Zj rfl rfl (Zj rfl rfl (Zj rfl rfl (Za rfl rfl (Ya rfl rfl) (Ze (Zb (fn _ _ ?_))))))))
  refine Qf rfl ?_
  refine Zg fun la jE => ?_
  refine Zc (Za rfl rfl (Zf rfl) (Ze (Zb (jE _ _ ?_))))
  refine Zq (Zo ?_)
  exact Zi [_] ⟨rfl, trivial⟩ ⟨congrArg Value.bool (by first | rfl | (rw [Zbz e]; rfl) | (exfalso; omega) | (exfalso; exact c (Qa e b)) | (exfalso; simp_all; done) | (simp_all; done)), E⟩
 have fG := bh
 have bh := Yi (Qv bh)
 refine Za rfl rfl (Zh fa48_4 rfl) (Za rfl rfl (Zk cX.at_ agg4 rfl rfl) (Za rfl rfl (Zh fa48_4 rfl) (Za rfl rfl (Zk fE.at_ agg4 rfl rfl) (Za rfl rfl (Zmq un4 rfl rfl) (Za rfl rfl (Yb rfl rfl) (Ze (Zb (fn _ _ ?_))))))))
 refine Zp rfl (fun bi => ?_) (fun bi => ?_)
 ·have fH := bi
  have bi := bf_e (Qu bi)
  refine Zg fun lc jF => ?_
  refine Zc (Za rfl rfl (Zf rfl) (Ze (Zb (jF _ _ ?_))))
  refine Zq (Zo ?_)
  exact Zi [_] ⟨rfl, trivial⟩ ⟨congrArg Value.bool (by first | rfl | (rw [Zbz e]; rfl) | (exfalso; omega) | (exfalso; exact c (Qa e b)) | (exfalso; simp_all; done) | (simp_all; done)), E⟩
 have fH := bi
 have bi := bt_e (Qv bi)
 refine Zu ?_
 refine Zb (jx _ _ ?_)
 refine Zg fun ld jG => ?_
 refine Zc ?_
 have ia := ((((h4.ch0 cG).ch0 bW).ch bX (nS om)).ch0 bf).ch0 aP
 refine Za rfl rfl (Zy ia.at_ agg44 sz44 rfl) (Zm rfl rfl ?_)
 have ib := ((((h5.ch0 cG).ch0 bW).ch bX (dS u x om)).ch0 bf).ch0 aP
 refine Step.call (Zl (xs := [.tmp 74]) fk28 rfl) (Zct ib.ls om) fun jH lf fI => ?_
 obtain ⟨fo, rfl, aj, ac, aE⟩ := fI
 have jI := aE.size
 have E := E.trans aE
 obtain ⟨aQ, aR, rfl, dy, ak⟩ := aj.opn
 refine Za rfl rfl (Zd rfl) (Za rfl rfl (Qh rfl rfl) (Za rfl rfl (Qh rfl rfl) (Zm rfl rfl ?_)))
 refine Yh zr44 fun ic jJ fp aB lg => ?_
 have jK := aB.size
 have E := E.trans aB
 have lh := fp.lt
 replace fp : Blk jJ ic 44 [(.slice none 0 0)] := fp
 refine Zm rfl rfl ?_
 refine Zn (off := 0) 1 fp sz44 rfl (us := [(.slice aQ ((Qc a).1).length aR)]) rfl rfl rfl rfl fun jL b0 aC => ?_
 have jM := aC.size
 have E := E.step aC (lS om)
 replace b0 : Blk jL ic 44 [(.slice aQ ((Qc a).1).length aR)] := b0
 refine Za rfl rfl (Zf rfl) (Ze (Zb (jG _ _ ?_)))
 refine Zg fun li jN => ?_
 refine Zc ?_
 have dz := ((ia.ch0 aE).ch0 aB).ch aC (nS om)
 refine Za rfl rfl (Zy dz.at_ agg44 sz44 rfl) (Zm rfl rfl ?_)
 have dA := ((ib.ch0 aE).ch0 aB).ch aC (dS u x om)
 refine Step.call (Zl (xs := [.tmp 79]) fk29 rfl) (Zcv dA.ls om) fun jO lj fJ => ?_
 obtain ⟨fq, rfl, al, aS, Z⟩ := fJ
 have jP := Z.size
 have E := E.trans Z
 obtain ⟨aT, aU, rfl, dB, bj⟩ := al.opn
 refine Za rfl rfl (Zd rfl) (Za rfl rfl (Qh rfl rfl) (Za rfl rfl (Qh rfl rfl) (Zm rfl rfl ?_)))
 refine Yh zr44 fun dC jQ cO X jR => ?_
 have jS := X.size
 have E := E.trans X
 have jT := cO.lt
 replace cO : Blk jQ dC 44 [(.slice none 0 0)] := cO
 refine Zm rfl rfl ?_
 refine Zn (off := 0) 1 cO sz44 rfl (us := [(.slice aT ((Qc a).1).length aU)]) rfl rfl rfl rfl fun jU b1 Y => ?_
 have jV := Y.size
 have E := E.step Y (lS om)
 replace b1 : Blk jU dC 44 [(.slice aT ((Qc a).1).length aU)] := b1
 refine Za rfl rfl (Zf rfl) (Ze (Zb (jN _ _ ?_)))
 refine Zg fun lk jW => ?_
 refine Zg fun ll ie => ?_
 refine Zc (Za rfl rfl (Zd rfl) (Za rfl rfl (Zd rfl) (Za rfl rfl (Zmq un4 rfl rfl) (Za rfl rfl (Zd rfl) ?_))))
 refine Yp (d := 86) rfl (fun bk => ?_) (fun bk => ?_)
 ·have fK := bk
  have bk := bf_e (Qu bk)
  refine Zj rfl rfl (Zj rfl rfl (Zj rfl rfl (Zj rfl rfl (Za rfl rfl (Ya rfl rfl) (Ze (Zb (ie _ _ ?_)))))))
  refine Qf rfl ?_
  refine Zg fun lm jX => ?_
  refine Zc (Za rfl rfl (Zf rfl) (Ze (Zb (jX _ _ ?_))))
  refine Zq (Zo ?_)
  exact Zi [_] ⟨rfl, trivial⟩ ⟨congrArg Value.bool (by first | rfl | (rw [Zbz e]; rfl) | (exfalso; omega) | (exfalso; exact c (Qa e b)) | (exfalso; simp_all; done) | (simp_all; done)), E⟩
 have fK := bk
 have bk := bt_e (Qv bk)
 have ig := ((b0.ch0 Z).ch0 X).ch Y (nS om)
 refine Za rfl rfl (Zy ig.at_ agg44 sz44 rfl) (Za rfl rfl (Zy b1.at_ agg44 sz44 rfl) (Zm rfl rfl ?_))
 have ih := ((((aj.ch0 aB).ch aC (dS ac ak om)).ch0 Z).ch0 X).ch Y (dS ac ak om)
 have jY := (al.ch0 X).ch Y (dS aS bj om)
 refine Step.call (Zl (xs := [.tmp 87, .tmp 88]) fk30 rfl) (Zfy ih.ls jY.ls ) fun fL ln cP => ?_
 replace cP : fL = .bool (true) ∧ _ := ⟨cP.1.trans (congrArg Value.bool (decide_eq_true rfl)), cP.2⟩
 obtain ⟨rfl, aa⟩ := cP
 have jZ := aa.size
 have E := E.trans aa
 refine Za rfl rfl (Zbh rfl) (Za rfl rfl (Yb rfl rfl) (Ze (Zb (ie _ _ ?_))))
 refine Zap rfl ?_
 refine Zu ?_
 refine Zb (jW _ _ ?_)
 refine Zg fun lo j0 => ?_
 refine Zg fun lp j1 => ?_
 refine Zc (Za rfl rfl (Zd rfl) (Za rfl rfl (Zbh rfl) (Ze (Zb (j1 _ _ ?_)))))
 refine Zp rfl (fun e => ?_) (fun e => ?_)
 ·have fM := e
  have e := Qu e
  refine Zg fun lq j2 => ?_
  refine Zc (Za rfl rfl (Zh fa48_0 rfl) ?_)
  have j3 := ((((((cX.ch0 aE).ch0 aB).ch aC (nS om)).ch0 Z).ch0 X).ch Y (nS om)).ch0 aa
  refine Za rfl rfl (Zk j3.at_ agg30 rfl rfl) (Za rfl rfl (Xc (by rw [el30]; rfl) rfl) (Za rfl rfl (Yy rfl rfl) (Za rfl rfl (Zf rfl) (Ze (Zb (j2 _ _ ?_))))))
  refine Zq (Zo ?_)
  exact Zi [_] ⟨rfl, trivial⟩ ⟨congrArg Value.bool (by first | rfl | (rw [Zbz e]; rfl) | (exfalso; omega) | (exfalso; exact c (Qa e b)) | (exfalso; simp_all; done) | (simp_all; done)), E⟩
 have fM := e
 have e := Qv e
 refine Zu ?_
 refine Zb (j0 _ _ ?_)
 refine Zg fun lr fr => ?_
 refine Zg fun lu fs => ?_
 refine Xb [] 18 mixed rfl fun ft ab => ?_
 have j4 := ab.size
 have E := E.trans ab
 refine dV 0 rfl rfl rfl (fun _ => Zd rfl) (dV 1 rfl rfl rfl (fun _ => Zd rfl) ?_)
 refine Qn (d := 99) rfl (fun cQ => ?_) (fun cQ => ?_)
 ·have fN := cQ
  have ii := (ig.ch0 aa).ch0 ab
  refine dT 2 rfl rfl rfl (Yq ii.at_ (fun i hi => absurd hi List.not_mem_nil) agg44 sz44 rfl ?_)
  refine dO 3 (Zz rfl rfl rfl ?_)
  have ij := (ih.ch0 aa).ch0 ab
  refine Step.call (Zl (xs := [.tmp 100]) fk31 rfl) (Zac ij.ls ) fun ik j5 dD => ?_
  obtain ⟨rfl, aD⟩ := dD
  have j6 := aD.size
  have E := E.trans aD
  have cY : Ch [] ft j5 := ((Ch.refl _ _).trans aD)
  refine ⟨cY, ?_⟩
  refine dV 4 rfl rfl rfl (fun _ => Ya rfl rfl) (dV 5 rfl rfl rfl (fun _ => Zd rfl) ?_)
  refine Qn (d := 103) rfl (fun bU => ?_) (fun bU => ?_)
  ·have fO := bU
   refine dV 6 rfl rfl rfl (fun _ => Zd rfl) (dO 7 (Zz rfl rfl rfl ?_))
   have fP := ((((((((((((((((((V.ch0 dp).ch dq (dS h o om)).ch0 c1).ch0 cK).ch cL (dS h o om)).ch0 cG).ch0 bW).ch bX (dS h o om)).ch0 bf).ch0 aP).ch0 aE).ch0 aB).ch aC (dS h o om)).ch0 Z).ch0 X).ch Y (dS h o om)).ch0 aa).ch0 ab).ch0 aD
   refine Step.call (Zl (xs := [.tmp 104]) fk32 rfl) (Zaw fP.ls ) fun il j7 dE => ?_
   obtain ⟨rfl, a9⟩ := dE
   have j8 := a9.size
   have E := E.trans a9
   have cZ : Ch [] ft j7 := (cY.trans a9)
   refine ⟨cZ, ?_⟩
   refine dV 8 rfl rfl rfl (fun _ => Ya rfl rfl) (dV 9 rfl rfl rfl (fun _ => Zd rfl) ?_)
   refine Qn (d := 107) rfl (fun ad => ?_) (fun ad => ?_)
   ·have fQ := ad
    have ad := bt_t ad
    refine dT 10 rfl rfl rfl (Yq ii.at_ (fun i hi => absurd hi List.not_mem_nil) agg44 sz44 rfl ?_)
    refine dV 11 rfl rfl rfl (fun _ => Zd rfl) ?_
    have im := ((((dz.ch0 Z).ch0 X).ch Y (nS om)).ch0 aa).ch0 ab
    refine dT 13 rfl rfl rfl (Yq im.at_ (fun i hi => absurd hi List.not_mem_nil) agg44 sz44 rfl ?_)
    refine dV 14 rfl rfl rfl (fun _ => Zd rfl) (dO 12 (Zz rfl rfl rfl ?_))
    have j9 := (ij.ch0 aD).ch0 a9
    have io := fP.ch0 a9
    refine Step.call (Zl (xs := [.tmp 108, .tmp 109]) fk33 rfl) (Zfj j9.ls io.ls om) fun dF ka bV => ?_
    replace bV : dF = .bool ((mwE a g)) ∧ _ := ⟨bV.1.trans (congrArg Value.bool (Zwg cQ bU ad)), bV.2⟩
    obtain ⟨rfl, cR⟩ := bV
    have kb := cR.size
    have E := E.trans cR
    have c0 : Ch [] ft ka := (cZ.trans cR)
    refine ⟨c0, ?_⟩
    refine dO 15 (Zz rfl rfl rfl ?_)
    have ip := (((((((dA.ch0 Z).ch0 X).ch Y (dS u x om)).ch0 aa).ch0 ab).ch0 aD).ch0 a9).ch0 cR
    have iq := io.ch0 cR
    refine Step.call (Zl (xs := [.tmp 111, .tmp 112]) fk34 rfl) (Xk ip.ls iq.ls om) fun ir kc dG => ?_
    obtain ⟨rfl, cS⟩ := dG
    have kd := cS.size
    have E := E.trans cS
    have dH : Ch [] ft kc := (c0.trans cS)
    refine ⟨dH, ?_⟩
    refine dV 16 rfl rfl rfl (fun _ => Zmq un4 rfl rfl) (dV 17 rfl rfl rfl (fun _ => Ya rfl rfl) ?_)
    refine Yc (by kernel_rfl) ?_
    refine Zb (fs _ _ ?_)
    refine Zp rfl (fun am => ?_) (fun am => ?_)
    ·have fR := am
     have am := bf_e (Qu am)
     refine Zg fun lv ke => ?_
     refine Zc (Za rfl rfl (Zf rfl) (Ze (Zb (ke _ _ ?_))))
     refine Zq (Zo ?_)
     exact Zi [_] ⟨rfl, trivial⟩ ⟨congrArg Value.bool (by first | rfl | (rw [Zbz e]; rfl) | (exfalso; omega) | (exfalso; exact c (Qa e b)) | (exfalso; simp_all; done) | (simp_all; done)), E⟩
    have fR := am
    have am := bt_e (Qv am)
    refine Zu ?_
    refine Zb (fr _ _ ?_)
    refine Zg fun lw kf => ?_
    refine Zc ?_
    have it := (((((((((((cX.ch0 aE).ch0 aB).ch aC (nS om)).ch0 Z).ch0 X).ch Y (nS om)).ch0 aa).ch0 ab).ch0 aD).ch0 a9).ch0 cR).ch0 cS
    refine Za rfl rfl (Zy it.at_ agg48 sz48 rfl) (Za rfl rfl (Zd rfl) (Zm rfl rfl ?_))
    have dI := (((((((((((((dw.ch0 bf).ch0 aP).ch0 aE).ch0 aB).ch aC (dS j r om)).ch0 Z).ch0 X).ch Y (dS j r om)).ch0 aa).ch0 ab).ch0 aD).ch0 a9).ch0 cR).ch0 cS
    have dJ := ((((((((((((dx.ch0 aP).ch0 aE).ch0 aB).ch aC (dS m t om)).ch0 Z).ch0 X).ch Y (dS m t om)).ch0 aa).ch0 ab).ch0 aD).ch0 a9).ch0 cR).ch0 cS
    have dL := iq.ch0 cS
    refine Step.call (Zl (xs := [.tmp 116, .tmp 117]) fk35 rfl) (Zbd dI.ls _ _ dJ.ls _ dL.ls ) fun b2 fS an => ?_
    obtain ⟨rfl, aV⟩ := an
    have iu := aV.size
    have E := E.trans aV
    refine Za rfl rfl (Zf rfl) (Ze (Zb (kf _ _ ?_)))
    refine Zg fun kg fT => ?_
    refine Zc (Za rfl rfl (Zf rfl) (Ze (Zb (fT _ _ ?_))))
    refine Zg fun kh fU => ?_
    refine Zg fun ki fV => ?_
    refine Zc (Za rfl rfl (Zf rfl) (Ze (Zb (fV _ _ ?_))))
    refine Zx ?_
    have fW := ((((im.ch0 aD).ch0 a9).ch0 cR).ch0 cS).ch0 aV
    have fX := (ip.ch0 cS).ch0 aV
    have fY := dL.ch0 aV
    have fZ := it.ch0 aV
    have f0 := dI.ch0 aV
    have f1 := dJ.ch0 aV
    refine Xi (σ := Nat × Int) (fun ⟨k, s⟩ => [(2, (.bool false)), (3, (.pointer (some ⟨cE, 0, none⟩))), (4, (.slice M (g).length O)), (5, (.pointer (some ⟨cF, 0, none⟩))), (13, (.int .i64 (crR ((bpE a).1.L) ((bpE a).1.f) ((bpE a).1.l) ((bpE a).1.F) ((bpE a).1.n) g))), (14, (.int .i64 s)), (15, (.int .i64 ((k : Nat) : Int)))]) (fun ⟨k, s⟩ wx => Ch [] w wx ∧ fS.heap.size ≤ wx.heap.size ∧ (k ≤ g.length) ∧ (s = runP (bpE a).1.L (bpE a).1.f (bpE a).1.F g k) ∧ Blk wx cE 44 [(.slice y (a).length z)] ∧ Ol Token.cs 84 4 wx (.slice y (a).length z) a ∧ Ol ics 3 1 wx (.slice M (g).length O) g ∧ Blk wx cF 48 [(.slice A ((bpE a).1.L).length B), (.int .i64 ((bpE a).1.f)), (.int .i64 ((bpE a).1.l)), (.slice C ((bpE a).1.F).length D), (.bool ((bpE a).1.n))] ∧ Ol ics 3 1 wx (.slice A ((bpE a).1.L).length B) ((bpE a).1.L) ∧ Ol ics 3 1 wx (.slice C ((bpE a).1.F).length D) ((bpE a).1.F)) (fun ⟨k, s⟩ => g.length - k) (0, 1) (sC4 rfl rfl rfl rfl (sC2 rfl rfl (sC1 rfl (Sub.nil _)))) ⟨E, (Nat.le_refl _), om, rfl, fW, fX, fY, fZ, f0, f1⟩ ?_
    rintro ⟨k, s⟩ kj ⟨E, c2, c3, hs, J, P, Q, K, R, S⟩
    have bm := E
    have b3 := bm.size
    have bn := J.lt
    have bp := K.lt
    refine Zg fun kk f2 => ?_
    refine Zg fun kl f3 => ?_
    refine Zc (Za rfl rfl (Zd rfl) (Za rfl rfl (Zd rfl) (Za rfl rfl (Xc (by rw [el30]; rfl) rfl) (Za rfl rfl (Xs rfl rfl) (Ze (Zb (f3 _ _ ?_)))))))
    refine Zp rfl (fun p => ?_) (fun p => ?_)
    ·have dM := p
     have p := Yi p
     refine Zu ?_
     refine Zb (f2 _ _ ?_)
     refine Zg fun km f4 => ?_
     refine Zx ?_
     refine Xb [] 8 mixed rfl fun f5 aW => ?_
     have iv := aW.size
     have E := E.trans aW
     have dN := K.ch0 aW
     refine dT 0 rfl rfl rfl (Yq dN.at_ (fun i hi => absurd hi List.not_mem_nil) agg48 sz48 rfl ?_)
     refine dV 1 rfl rfl rfl (fun _ => Zd rfl) (dV 2 rfl rfl rfl (fun _ => Zd rfl) (dV 3 rfl rfl rfl (fun _ => Zd rfl) (dO 4 (Zz rfl rfl rfl ?_))))
     have dP := Q.ch0 aW
     refine (Yw dP.ls Xg el30 sz3 rfl rfl rfl om fun b4 ao U ap => ?_)
     refine ⟨(Ch.refl _ _), ?_⟩
     refine dT 5 rfl rfl rfl (Yx ap (fun i hi => absurd hi List.not_mem_nil) agg3 rfl rfl ?_)
     refine dO 6 (Zz rfl rfl rfl ?_)
     have dQ := R.ch0 aW
     have dR := S.ch0 aW
     refine Step.call (Zl (xs := [.tmp 125, .tmp 126, .tmp 130]) fk36 rfl) (Zad dQ.ls _ _ dR.ls _ _ _ ) fun b5 f6 aq => ?_
     obtain ⟨rfl, aF⟩ := aq
     have iw := aF.size
     have E := E.trans aF
     have c4 : Ch [] f5 f6 := ((Ch.refl _ _).trans aF)
     refine ⟨c4, ?_⟩
     refine dV 7 rfl rfl rfl (fun _ => Zf rfl) ?_
     refine Yc (by kernel_rfl) ?_
     refine Zw (Zb (f4 _ _ (Zc (Za rfl rfl (Zd rfl) (Za rfl rfl (Yo om rfl rfl) (Za rfl rfl (Zf rfl) (Ze ?_)))))))
     have f7 := (J.ch0 aW).ch0 aF
     have f8 := (P.ch0 aW).ch0 aF
     have f9 := dP.ch0 aF
     have ga := dN.ch0 aF
     have gb := dQ.ch0 aF
     have gc := dR.ch0 aF
     exact Zb (Exists.intro ((k + 1), Zec ((bpE a).1.L) ((bpE a).1.f) ((bpE a).1.l) ((bpE a).1.F) s ao) ⟨⟨E, om, om, (by rw [hs]; exact Zex e U), f7, f8, f9, ga, gb, gc⟩, sC4 rfl rfl rfl rfl (sC2 rfl rfl (sC1 rfl (Sub.nil _))), (by first | omega | (dsimp only; omega))⟩)
    have dM := p
    have p := Yj p
    refine Xe (Zr (Zr (Yu ?_)))
    refine Zb (fU _ _ ?_)
    refine Zg fun kn cT => ?_
    refine Xb [] 34 mixed rfl fun bq aX => ?_
    have ix := aX.size
    have E := E.trans aX
    have c5 := K.ch0 aX
    refine dT 0 rfl rfl rfl (Yq c5.at_ (fun i hi => absurd hi List.not_mem_nil) agg48 sz48 rfl ?_)
    refine dO 1 (Zz rfl rfl rfl ?_)
    have dU := R.ch0 aX
    have dW := S.ch0 aX
    refine Step.call (Zl (xs := [.tmp 132]) fk37 rfl) (Xu dU.ls _ _ dW.ls _ ) fun au gd G => ?_
    replace G : au = .bool (true) ∧ _ := ⟨G.1.trans (congrArg Value.bool (Zbl (Zga e).2.2.1).symm), G.2⟩
    obtain ⟨rfl, br⟩ := G
    have iy := br.size
    have E := E.trans br
    have b6 : Ch [] bq gd := ((Ch.refl _ _).trans br)
    refine ⟨b6, ?_⟩
    refine dV 2 rfl rfl rfl (fun _ => Zd rfl) (dV 3 rfl rfl rfl (fun _ => Zd rfl) (dO 4 (Zz rfl rfl rfl ?_)))
    have dX := (Q.ch0 aX).ch0 br
    refine Step.call (Zl (xs := [.tmp 135]) fk32 rfl) (Zaw dX.ls ) fun b7 ge av => ?_
    obtain ⟨rfl, bs⟩ := av
    have iz := bs.size
    have E := E.trans bs
    have b8 : Ch [] bq ge := (b6.trans bs)
    refine ⟨b8, ?_⟩
    refine dV 5 rfl rfl rfl (fun _ => Zbh rfl) (dV 6 rfl rfl rfl (fun _ => Zd rfl) ?_)
    refine Qn (d := 138) rfl (fun b => ?_) (fun b => ?_)
    ·have dY := b
     have b := bf_t (Qu b)
     refine dK 7 rfl rfl rfl (dK 8 rfl rfl rfl (dK 9 rfl rfl rfl (dK 10 rfl rfl rfl (dK 11 rfl rfl rfl (dK 12 rfl rfl rfl (dK 13 rfl rfl rfl (dK 14 rfl rfl rfl ?_)))))))
     refine dK 15 rfl rfl rfl (dK 16 rfl rfl rfl (dK 17 rfl rfl rfl (dK 18 rfl rfl rfl (dK 19 rfl rfl rfl (dK 20 rfl rfl rfl (dK 21 rfl rfl rfl (dK 22 rfl rfl rfl ?_)))))))
     refine dK 23 rfl rfl rfl (dK 24 rfl rfl rfl (dK 25 rfl rfl rfl (dK 26 rfl rfl rfl (dK 27 rfl rfl rfl (dK 28 rfl rfl rfl (dK 29 rfl rfl rfl (dK 30 rfl rfl rfl ?_)))))))
     refine dV 31 rfl rfl rfl (fun _ => Ya rfl rfl) (dV 32 rfl rfl rfl (fun _ => Ya rfl rfl) (dV 33 rfl rfl rfl (fun _ => Zf rfl) ?_))
     refine Yc (by kernel_rfl) ?_
     refine Zb (cT _ _ ?_)
     refine Zq ?_
     exact Zi [_] ⟨rfl, trivial⟩ ⟨congrArg Value.bool (by first | rfl | (rw [Zbz e]; rfl) | (exfalso; omega) | (exfalso; exact c (Qa e b)) | (exfalso; simp_all; done) | (simp_all; done)), E⟩
    have dY := b
    have b := bt_t (Qv b)
    refine dT 7 rfl rfl rfl (Yq c5.at_ (fun i hi => absurd hi List.not_mem_nil) agg48 sz48 rfl ?_)
    refine dV 8 rfl rfl rfl (fun _ => Zd rfl) ?_
    have c6 := J.ch0 aX
    refine dT 10 rfl rfl rfl (Yq c6.at_ (fun i hi => absurd hi List.not_mem_nil) agg44 sz44 rfl ?_)
    refine dV 11 rfl rfl rfl (fun _ => Zd rfl) (dO 9 (Zz rfl rfl rfl ?_))
    have dZ := (dU.ch0 br).ch0 bs
    have d0 := (dW.ch0 br).ch0 bs
    have d1 := dX.ch0 bs
    refine Step.call (Zl (xs := [.tmp 139, .tmp 140]) fk38 rfl) (Zae dZ.ls _ _ d0.ls _ d1.ls ) fun aw gf H => ?_
    replace H : aw = .bool ((mwE a g)) ∧ _ := ⟨H.1.trans (congrArg Value.bool (Zey e b)), H.2⟩
    obtain ⟨rfl, bu⟩ := H
    have iA := bu.size
    have E := E.trans bu
    have b9 : Ch [] bq gf := (b8.trans bu)
    refine ⟨b9, ?_⟩
    refine dO 12 (Zz rfl rfl rfl ?_)
    have d2 := (((P.ch0 aX).ch0 br).ch0 bs).ch0 bu
    have d3 := d1.ch0 bu
    refine Step.call (Zl (xs := [.tmp 142, .tmp 143]) fk34 rfl) (Xk d2.ls d3.ls om) fun ca gg ax => ?_
    obtain ⟨rfl, bv⟩ := ax
    have iB := bv.size
    have E := E.trans bv
    have cb : Ch [] bq gg := (b9.trans bv)
    refine ⟨cb, ?_⟩
    refine dV 13 rfl rfl rfl (fun _ => Zdg un4 rfl rfl) (dV 14 rfl rfl rfl (fun _ => Zd rfl) ?_)
    refine Qn (d := 146) rfl (fun q => ?_) (fun q => ?_)
    ·have d4 := q
     have q := bt_e q
     refine dV 15 rfl rfl rfl (fun _ => Zd rfl) (dV 16 rfl rfl rfl (fun _ => Zcp rfl rfl) ?_)
     refine dT 17 rfl rfl rfl (Yq c6.at_ (fun i hi => absurd hi List.not_mem_nil) agg44 sz44 rfl ?_)
     refine dV 18 rfl rfl rfl (fun _ => Zd rfl) (dO 19 (Zz rfl rfl rfl ?_))
     have d5 := d2.ch0 bv
     have d6 := d3.ch0 bv
     refine Step.call (Zl (xs := [.tmp 149, .tmp 150]) fk34 rfl) (Xk d5.ls d6.ls om) fun cc gh ay => ?_
     obtain ⟨rfl, bw⟩ := ay
     have iC := bw.size
     have E := E.trans bw
     have cd : Ch [] bq gh := (cb.trans bw)
     refine ⟨cd, ?_⟩
     refine dV 20 rfl rfl rfl (fun _ => Zdg un4 rfl rfl) (dV 21 rfl rfl rfl (fun _ => Ya rfl rfl) (dV 22 rfl rfl rfl (fun _ => Zd rfl) ?_))
     refine Qn (d := 154) rfl (fun c => ?_) (fun c => ?_)
     ·have d7 := c
      have c := bt_e c
      refine dT 23 rfl rfl rfl (Yq c5.at_ (fun i hi => absurd hi List.not_mem_nil) agg48 sz48 rfl ?_)
      refine dV 24 rfl rfl rfl (fun _ => Zd rfl) ?_
      refine dT 26 rfl rfl rfl (Yq c6.at_ (fun i hi => absurd hi List.not_mem_nil) agg44 sz44 rfl ?_)
      refine dV 27 rfl rfl rfl (fun _ => Zd rfl) (dO 25 (Zz rfl rfl rfl ?_))
      have gi := ((dZ.ch0 bu).ch0 bv).ch0 bw
      have gj := ((d0.ch0 bu).ch0 bv).ch0 bw
      refine Step.call (Zl (xs := [.tmp 155, .tmp 156]) fk39 rfl) (Zay gi.ls _ _ gj.ls _ _ ) fun az gk I => ?_
      replace I : az = .bool ((mwE a g)) ∧ _ := ⟨I.1.trans (congrArg Value.bool (by rw [hs]; exact Zjp e b om c3)), I.2⟩
      obtain ⟨rfl, ce⟩ := I
      have iD := ce.size
      have E := E.trans ce
      have cf : Ch [] bq gk := (cd.trans ce)
      refine ⟨cf, ?_⟩
      refine dO 28 (Zz rfl rfl rfl ?_)
      have gl := (d5.ch0 bw).ch0 ce
      have gm := (d6.ch0 bw).ch0 ce
      refine Step.call (Zl (xs := [.tmp 158, .tmp 159]) fk34 rfl) (Xk gl.ls gm.ls om) fun cg gn aA => ?_
      obtain ⟨rfl, c7⟩ := aA
      have iE := c7.size
      have E := E.trans c7
      have c8 : Ch [] bq gn := (cf.trans c7)
      refine ⟨c8, ?_⟩
      refine dV 29 rfl rfl rfl (fun _ => Zdg un4 rfl rfl) (dV 30 rfl rfl rfl (fun _ => Ya rfl rfl) (dV 31 rfl rfl rfl (fun _ => Yb rfl rfl) (dV 32 rfl rfl rfl (fun _ => Ya rfl rfl) (dV 33 rfl rfl rfl (fun _ => Zf rfl) ?_))))
      refine Yc (by kernel_rfl) ?_
      refine Zb (cT _ _ ?_)
      refine Zq ?_
      exact Zi [_] ⟨rfl, trivial⟩ ⟨congrArg Value.bool (by first | rfl | (rw [Zbz e]; rfl) | (exfalso; omega) | (exfalso; exact c (Qa e b)) | (exfalso; simp_all; done) | (simp_all; done)), E⟩
     have d7 := c
     have c := bf_e c
     refine dK 23 rfl rfl rfl (dK 24 rfl rfl rfl (dK 25 rfl rfl rfl (dK 26 rfl rfl rfl (dK 27 rfl rfl rfl (dK 28 rfl rfl rfl (dK 29 rfl rfl rfl (dV 30 rfl rfl rfl (fun _ => Yb rfl rfl) ?_)))))))
     refine dV 31 rfl rfl rfl (fun _ => Yb rfl rfl) (dV 32 rfl rfl rfl (fun _ => Ya rfl rfl) (dV 33 rfl rfl rfl (fun _ => Zf rfl) ?_))
     refine Yc (by kernel_rfl) ?_
     refine Zb (cT _ _ ?_)
     refine Zq ?_
     exact Zi [_] ⟨rfl, trivial⟩ ⟨congrArg Value.bool (by first | rfl | (rw [Zbz e]; rfl) | (exfalso; omega) | (exfalso; exact c (Qa e b)) | (exfalso; simp_all; done) | (simp_all; done)), E⟩
    have d4 := q
    have q := bf_e q
    refine dK 15 rfl rfl rfl (dK 16 rfl rfl rfl (dK 17 rfl rfl rfl (dK 18 rfl rfl rfl (dK 19 rfl rfl rfl (dK 20 rfl rfl rfl (dV 21 rfl rfl rfl (fun _ => Yb rfl rfl) (dV 22 rfl rfl rfl (fun _ => Zd rfl) ?_)))))))
    refine dK 23 rfl rfl rfl (dK 24 rfl rfl rfl (dK 25 rfl rfl rfl (dK 26 rfl rfl rfl (dK 27 rfl rfl rfl (dK 28 rfl rfl rfl (dK 29 rfl rfl rfl (dV 30 rfl rfl rfl (fun _ => Yb rfl rfl) ?_)))))))
    refine dV 31 rfl rfl rfl (fun _ => Yb rfl rfl) (dV 32 rfl rfl rfl (fun _ => Ya rfl rfl) (dV 33 rfl rfl rfl (fun _ => Zf rfl) ?_))
    refine Yc (by kernel_rfl) ?_
    refine Zb (cT _ _ ?_)
    refine Zq ?_
    exact Zi [_] ⟨rfl, trivial⟩ ⟨congrArg Value.bool (by first | rfl | (rw [Zbz e]; rfl) | (exfalso; omega) | (exfalso; exact c (Qa e b)) | (exfalso; simp_all; done) | (simp_all; done)), E⟩
   have fQ := ad
   have ad := bf_t ad
   refine dK 10 rfl rfl rfl (dK 11 rfl rfl rfl (dK 12 rfl rfl rfl (dK 13 rfl rfl rfl (dK 14 rfl rfl rfl (dK 15 rfl rfl rfl (dK 16 rfl rfl rfl (dV 17 rfl rfl rfl (fun _ => Yb rfl rfl) ?_)))))))
   refine Yc (by kernel_rfl) ?_
   refine Zb (fs _ _ ?_)
   refine Zap rfl ?_
   refine Zu ?_
   refine Zb (fr _ _ ?_)
   refine Zg fun ko gp => ?_
   refine Zc ?_
   have d8 := (((((((((cX.ch0 aE).ch0 aB).ch aC (nS om)).ch0 Z).ch0 X).ch Y (nS om)).ch0 aa).ch0 ab).ch0 aD).ch0 a9
   refine Za rfl rfl (Zy d8.at_ agg48 sz48 rfl) (Za rfl rfl (Zd rfl) (Zm rfl rfl ?_))
   have d9 := (((((((((((dw.ch0 bf).ch0 aP).ch0 aE).ch0 aB).ch aC (dS j r om)).ch0 Z).ch0 X).ch Y (dS j r om)).ch0 aa).ch0 ab).ch0 aD).ch0 a9
   have ea := ((((((((((dx.ch0 aP).ch0 aE).ch0 aB).ch aC (dS m t om)).ch0 Z).ch0 X).ch Y (dS m t om)).ch0 aa).ch0 ab).ch0 aD).ch0 a9
   have eb := fP.ch0 a9
   refine Step.call (Zl (xs := [.tmp 116, .tmp 117]) fk35 rfl) (Zbd d9.ls _ _ ea.ls _ eb.ls ) fun b2 gq an => ?_
   obtain ⟨rfl, aY⟩ := an
   have iF := aY.size
   have E := E.trans aY
   refine Za rfl rfl (Zf rfl) (Ze (Zb (gp _ _ ?_)))
   refine Zg fun kp gr => ?_
   refine Zc (Za rfl rfl (Zf rfl) (Ze (Zb (gr _ _ ?_))))
   refine Zg fun kq gs => ?_
   refine Zg fun kr gt => ?_
   refine Zc (Za rfl rfl (Zf rfl) (Ze (Zb (gt _ _ ?_))))
   refine Zx ?_
   have gu := (((((((dz.ch0 Z).ch0 X).ch Y (nS om)).ch0 aa).ch0 ab).ch0 aD).ch0 a9).ch0 aY
   have gv := (((((((dA.ch0 Z).ch0 X).ch Y (dS u x om)).ch0 aa).ch0 ab).ch0 aD).ch0 a9).ch0 aY
   have gw := eb.ch0 aY
   have gx := d8.ch0 aY
   have gy := d9.ch0 aY
   have gz := ea.ch0 aY
   refine Xi (σ := Nat × Int) (fun ⟨k, s⟩ => [(2, (.bool false)), (3, (.pointer (some ⟨cE, 0, none⟩))), (4, (.slice M (g).length O)), (5, (.pointer (some ⟨cF, 0, none⟩))), (13, (.int .i64 (crR ((bpE a).1.L) ((bpE a).1.f) ((bpE a).1.l) ((bpE a).1.F) ((bpE a).1.n) g))), (14, (.int .i64 s)), (15, (.int .i64 ((k : Nat) : Int)))]) (fun ⟨k, s⟩ wx => Ch [] w wx ∧ gq.heap.size ≤ wx.heap.size ∧ (k ≤ g.length) ∧ (s = runP (bpE a).1.L (bpE a).1.f (bpE a).1.F g k) ∧ Blk wx cE 44 [(.slice y (a).length z)] ∧ Ol Token.cs 84 4 wx (.slice y (a).length z) a ∧ Ol ics 3 1 wx (.slice M (g).length O) g ∧ Blk wx cF 48 [(.slice A ((bpE a).1.L).length B), (.int .i64 ((bpE a).1.f)), (.int .i64 ((bpE a).1.l)), (.slice C ((bpE a).1.F).length D), (.bool ((bpE a).1.n))] ∧ Ol ics 3 1 wx (.slice A ((bpE a).1.L).length B) ((bpE a).1.L) ∧ Ol ics 3 1 wx (.slice C ((bpE a).1.F).length D) ((bpE a).1.F)) (fun ⟨k, s⟩ => g.length - k) (0, 1) (sC4 rfl rfl rfl rfl (sC2 rfl rfl (sC1 rfl (Sub.nil _)))) ⟨E, (Nat.le_refl _), om, rfl, gu, gv, gw, gx, gy, gz⟩ ?_
   rintro ⟨k, s⟩ ks ⟨E, c2, c3, hs, J, P, Q, K, R, S⟩
   have bm := E
   have b3 := bm.size
   have bn := J.lt
   have bp := K.lt
   refine Zg fun kt gA => ?_
   refine Zg fun ku gB => ?_
   refine Zc (Za rfl rfl (Zd rfl) (Za rfl rfl (Zd rfl) (Za rfl rfl (Xc (by rw [el30]; rfl) rfl) (Za rfl rfl (Xs rfl rfl) (Ze (Zb (gB _ _ ?_)))))))
   refine Zp rfl (fun p => ?_) (fun p => ?_)
   ·have ec := p
    have p := Yi p
    refine Zu ?_
    refine Zb (gA _ _ ?_)
    refine Zg fun kv gC => ?_
    refine Zx ?_
    refine Xb [] 8 mixed rfl fun gD aZ => ?_
    have iG := aZ.size
    have E := E.trans aZ
    have ed := K.ch0 aZ
    refine dT 0 rfl rfl rfl (Yq ed.at_ (fun i hi => absurd hi List.not_mem_nil) agg48 sz48 rfl ?_)
    refine dV 1 rfl rfl rfl (fun _ => Zd rfl) (dV 2 rfl rfl rfl (fun _ => Zd rfl) (dV 3 rfl rfl rfl (fun _ => Zd rfl) (dO 4 (Zz rfl rfl rfl ?_))))
    have ee := Q.ch0 aZ
    refine (Yw ee.ls Xg el30 sz3 rfl rfl rfl om fun b4 ao U ap => ?_)
    refine ⟨(Ch.refl _ _), ?_⟩
    refine dT 5 rfl rfl rfl (Yx ap (fun i hi => absurd hi List.not_mem_nil) agg3 rfl rfl ?_)
    refine dO 6 (Zz rfl rfl rfl ?_)
    have ef := R.ch0 aZ
    have eg := S.ch0 aZ
    refine Step.call (Zl (xs := [.tmp 125, .tmp 126, .tmp 130]) fk36 rfl) (Zad ef.ls _ _ eg.ls _ _ _ ) fun b5 gE aq => ?_
    obtain ⟨rfl, aG⟩ := aq
    have iH := aG.size
    have E := E.trans aG
    have c9 : Ch [] gD gE := ((Ch.refl _ _).trans aG)
    refine ⟨c9, ?_⟩
    refine dV 7 rfl rfl rfl (fun _ => Zf rfl) ?_
    refine Yc (by kernel_rfl) ?_
    refine Zw (Zb (gC _ _ (Zc (Za rfl rfl (Zd rfl) (Za rfl rfl (Yo om rfl rfl) (Za rfl rfl (Zf rfl) (Ze ?_)))))))
    have gF := (J.ch0 aZ).ch0 aG
    have gG := (P.ch0 aZ).ch0 aG
    have gH := ee.ch0 aG
    have gI := ed.ch0 aG
    have gJ := ef.ch0 aG
    have gK := eg.ch0 aG
    exact Zb (Exists.intro ((k + 1), Zec ((bpE a).1.L) ((bpE a).1.f) ((bpE a).1.l) ((bpE a).1.F) s ao) ⟨⟨E, om, om, (by rw [hs]; exact Zex e U), gF, gG, gH, gI, gJ, gK⟩, sC4 rfl rfl rfl rfl (sC2 rfl rfl (sC1 rfl (Sub.nil _))), (by first | omega | (dsimp only; omega))⟩)
   have ec := p
   have p := Yj p
   refine Xe (Zr (Zr (Yu ?_)))
   refine Zb (gs _ _ ?_)
   refine Zg fun kw cU => ?_
   refine Xb [] 34 mixed rfl fun bx a0 => ?_
   have iI := a0.size
   have E := E.trans a0
   have da := K.ch0 a0
   refine dT 0 rfl rfl rfl (Yq da.at_ (fun i hi => absurd hi List.not_mem_nil) agg48 sz48 rfl ?_)
   refine dO 1 (Zz rfl rfl rfl ?_)
   have eh := R.ch0 a0
   have ei := S.ch0 a0
   refine Step.call (Zl (xs := [.tmp 132]) fk37 rfl) (Xu eh.ls _ _ ei.ls _ ) fun au gL G => ?_
   replace G : au = .bool (true) ∧ _ := ⟨G.1.trans (congrArg Value.bool (Zbl (Zga e).2.2.1).symm), G.2⟩
   obtain ⟨rfl, bz⟩ := G
   have iJ := bz.size
   have E := E.trans bz
   have ci : Ch [] bx gL := ((Ch.refl _ _).trans bz)
   refine ⟨ci, ?_⟩
   refine dV 2 rfl rfl rfl (fun _ => Zd rfl) (dV 3 rfl rfl rfl (fun _ => Zd rfl) (dO 4 (Zz rfl rfl rfl ?_)))
   have ej := (Q.ch0 a0).ch0 bz
   refine Step.call (Zl (xs := [.tmp 135]) fk32 rfl) (Zaw ej.ls ) fun b7 gM av => ?_
   obtain ⟨rfl, bA⟩ := av
   have iK := bA.size
   have E := E.trans bA
   have cj : Ch [] bx gM := (ci.trans bA)
   refine ⟨cj, ?_⟩
   refine dV 5 rfl rfl rfl (fun _ => Zbh rfl) (dV 6 rfl rfl rfl (fun _ => Zd rfl) ?_)
   refine Qn (d := 138) rfl (fun b => ?_) (fun b => ?_)
   ·have ek := b
    have b := bf_t (Qu b)
    refine dK 7 rfl rfl rfl (dK 8 rfl rfl rfl (dK 9 rfl rfl rfl (dK 10 rfl rfl rfl (dK 11 rfl rfl rfl (dK 12 rfl rfl rfl (dK 13 rfl rfl rfl (dK 14 rfl rfl rfl ?_)))))))
    refine dK 15 rfl rfl rfl (dK 16 rfl rfl rfl (dK 17 rfl rfl rfl (dK 18 rfl rfl rfl (dK 19 rfl rfl rfl (dK 20 rfl rfl rfl (dK 21 rfl rfl rfl (dK 22 rfl rfl rfl ?_)))))))
    refine dK 23 rfl rfl rfl (dK 24 rfl rfl rfl (dK 25 rfl rfl rfl (dK 26 rfl rfl rfl (dK 27 rfl rfl rfl (dK 28 rfl rfl rfl (dK 29 rfl rfl rfl (dK 30 rfl rfl rfl ?_)))))))
    refine dV 31 rfl rfl rfl (fun _ => Ya rfl rfl) (dV 32 rfl rfl rfl (fun _ => Ya rfl rfl) (dV 33 rfl rfl rfl (fun _ => Zf rfl) ?_))
    refine Yc (by kernel_rfl) ?_
    refine Zb (cU _ _ ?_)
    refine Zq ?_
    exact Zi [_] ⟨rfl, trivial⟩ ⟨congrArg Value.bool (by first | rfl | (rw [Zbz e]; rfl) | (exfalso; omega) | (exfalso; exact c (Qa e b)) | (exfalso; simp_all; done) | (simp_all; done)), E⟩
   have ek := b
   have b := bt_t (Qv b)
   refine dT 7 rfl rfl rfl (Yq da.at_ (fun i hi => absurd hi List.not_mem_nil) agg48 sz48 rfl ?_)
   refine dV 8 rfl rfl rfl (fun _ => Zd rfl) ?_
   have db := J.ch0 a0
   refine dT 10 rfl rfl rfl (Yq db.at_ (fun i hi => absurd hi List.not_mem_nil) agg44 sz44 rfl ?_)
   refine dV 11 rfl rfl rfl (fun _ => Zd rfl) (dO 9 (Zz rfl rfl rfl ?_))
   have el := (eh.ch0 bz).ch0 bA
   have em := (ei.ch0 bz).ch0 bA
   have en := ej.ch0 bA
   refine Step.call (Zl (xs := [.tmp 139, .tmp 140]) fk38 rfl) (Zae el.ls _ _ em.ls _ en.ls ) fun aw gN H => ?_
   replace H : aw = .bool ((mwE a g)) ∧ _ := ⟨H.1.trans (congrArg Value.bool (Zey e b)), H.2⟩
   obtain ⟨rfl, bB⟩ := H
   have iL := bB.size
   have E := E.trans bB
   have ck : Ch [] bx gN := (cj.trans bB)
   refine ⟨ck, ?_⟩
   refine dO 12 (Zz rfl rfl rfl ?_)
   have eo := (((P.ch0 a0).ch0 bz).ch0 bA).ch0 bB
   have ep := en.ch0 bB
   refine Step.call (Zl (xs := [.tmp 142, .tmp 143]) fk34 rfl) (Xk eo.ls ep.ls om) fun ca gO ax => ?_
   obtain ⟨rfl, bC⟩ := ax
   have iM := bC.size
   have E := E.trans bC
   have cl : Ch [] bx gO := (ck.trans bC)
   refine ⟨cl, ?_⟩
   refine dV 13 rfl rfl rfl (fun _ => Zdg un4 rfl rfl) (dV 14 rfl rfl rfl (fun _ => Zd rfl) ?_)
   refine Qn (d := 146) rfl (fun q => ?_) (fun q => ?_)
   ·have er := q
    have q := bt_e q
    refine dV 15 rfl rfl rfl (fun _ => Zd rfl) (dV 16 rfl rfl rfl (fun _ => Zcp rfl rfl) ?_)
    refine dT 17 rfl rfl rfl (Yq db.at_ (fun i hi => absurd hi List.not_mem_nil) agg44 sz44 rfl ?_)
    refine dV 18 rfl rfl rfl (fun _ => Zd rfl) (dO 19 (Zz rfl rfl rfl ?_))
    have es := eo.ch0 bC
    have et := ep.ch0 bC
    refine Step.call (Zl (xs := [.tmp 149, .tmp 150]) fk34 rfl) (Xk es.ls et.ls om) fun cc gP ay => ?_
    obtain ⟨rfl, bD⟩ := ay
    have iN := bD.size
    have E := E.trans bD
    have cm : Ch [] bx gP := (cl.trans bD)
    refine ⟨cm, ?_⟩
    refine dV 20 rfl rfl rfl (fun _ => Zdg un4 rfl rfl) (dV 21 rfl rfl rfl (fun _ => Ya rfl rfl) (dV 22 rfl rfl rfl (fun _ => Zd rfl) ?_))
    refine Qn (d := 154) rfl (fun c => ?_) (fun c => ?_)
    ·have eu := c
     have c := bt_e c
     refine dT 23 rfl rfl rfl (Yq da.at_ (fun i hi => absurd hi List.not_mem_nil) agg48 sz48 rfl ?_)
     refine dV 24 rfl rfl rfl (fun _ => Zd rfl) ?_
     refine dT 26 rfl rfl rfl (Yq db.at_ (fun i hi => absurd hi List.not_mem_nil) agg44 sz44 rfl ?_)
     refine dV 27 rfl rfl rfl (fun _ => Zd rfl) (dO 25 (Zz rfl rfl rfl ?_))
     have gQ := ((el.ch0 bB).ch0 bC).ch0 bD
     have gR := ((em.ch0 bB).ch0 bC).ch0 bD
     refine Step.call (Zl (xs := [.tmp 155, .tmp 156]) fk39 rfl) (Zay gQ.ls _ _ gR.ls _ _ ) fun az gS I => ?_
     replace I : az = .bool ((mwE a g)) ∧ _ := ⟨I.1.trans (congrArg Value.bool (by rw [hs]; exact Zjp e b om c3)), I.2⟩
     obtain ⟨rfl, cn⟩ := I
     have iO := cn.size
     have E := E.trans cn
     have co : Ch [] bx gS := (cm.trans cn)
     refine ⟨co, ?_⟩
     refine dO 28 (Zz rfl rfl rfl ?_)
     have gT := (es.ch0 bD).ch0 cn
     have gU := (et.ch0 bD).ch0 cn
     refine Step.call (Zl (xs := [.tmp 158, .tmp 159]) fk34 rfl) (Xk gT.ls gU.ls om) fun cg gV aA => ?_
     obtain ⟨rfl, dc⟩ := aA
     have iP := dc.size
     have E := E.trans dc
     have dd : Ch [] bx gV := (co.trans dc)
     refine ⟨dd, ?_⟩
     refine dV 29 rfl rfl rfl (fun _ => Zdg un4 rfl rfl) (dV 30 rfl rfl rfl (fun _ => Ya rfl rfl) (dV 31 rfl rfl rfl (fun _ => Yb rfl rfl) (dV 32 rfl rfl rfl (fun _ => Ya rfl rfl) (dV 33 rfl rfl rfl (fun _ => Zf rfl) ?_))))
     refine Yc (by kernel_rfl) ?_
     refine Zb (cU _ _ ?_)
     refine Zq ?_
     exact Zi [_] ⟨rfl, trivial⟩ ⟨congrArg Value.bool (by first | rfl | (rw [Zbz e]; rfl) | (exfalso; omega) | (exfalso; exact c (Qa e b)) | (exfalso; simp_all; done) | (simp_all; done)), E⟩
    have eu := c
    have c := bf_e c
    refine dK 23 rfl rfl rfl (dK 24 rfl rfl rfl (dK 25 rfl rfl rfl (dK 26 rfl rfl rfl (dK 27 rfl rfl rfl (dK 28 rfl rfl rfl (dK 29 rfl rfl rfl (dV 30 rfl rfl rfl (fun _ => Yb rfl rfl) ?_)))))))
    refine dV 31 rfl rfl rfl (fun _ => Yb rfl rfl) (dV 32 rfl rfl rfl (fun _ => Ya rfl rfl) (dV 33 rfl rfl rfl (fun _ => Zf rfl) ?_))
    refine Yc (by kernel_rfl) ?_
    refine Zb (cU _ _ ?_)
    refine Zq ?_
    exact Zi [_] ⟨rfl, trivial⟩ ⟨congrArg Value.bool (by first | rfl | (rw [Zbz e]; rfl) | (exfalso; omega) | (exfalso; exact c (Qa e b)) | (exfalso; simp_all; done) | (simp_all; done)), E⟩
   have er := q
   have q := bf_e q
   refine dK 15 rfl rfl rfl (dK 16 rfl rfl rfl (dK 17 rfl rfl rfl (dK 18 rfl rfl rfl (dK 19 rfl rfl rfl (dK 20 rfl rfl rfl (dV 21 rfl rfl rfl (fun _ => Yb rfl rfl) (dV 22 rfl rfl rfl (fun _ => Zd rfl) ?_)))))))
   refine dK 23 rfl rfl rfl (dK 24 rfl rfl rfl (dK 25 rfl rfl rfl (dK 26 rfl rfl rfl (dK 27 rfl rfl rfl (dK 28 rfl rfl rfl (dK 29 rfl rfl rfl (dV 30 rfl rfl rfl (fun _ => Yb rfl rfl) ?_)))))))
   refine dV 31 rfl rfl rfl (fun _ => Yb rfl rfl) (dV 32 rfl rfl rfl (fun _ => Ya rfl rfl) (dV 33 rfl rfl rfl (fun _ => Zf rfl) ?_))
   refine Yc (by kernel_rfl) ?_
   refine Zb (cU _ _ ?_)
   refine Zq ?_
   exact Zi [_] ⟨rfl, trivial⟩ ⟨congrArg Value.bool (by first | rfl | (rw [Zbz e]; rfl) | (exfalso; omega) | (exfalso; exact c (Qa e b)) | (exfalso; simp_all; done) | (simp_all; done)), E⟩
  have fO := bU
  refine dK 6 rfl rfl rfl (dK 7 rfl rfl rfl (dV 8 rfl rfl rfl (fun _ => Yb rfl rfl) (dV 9 rfl rfl rfl (fun _ => Zd rfl) (dK 10 rfl rfl rfl (dK 11 rfl rfl rfl (dK 12 rfl rfl rfl (dK 13 rfl rfl rfl ?_)))))))
  refine dK 14 rfl rfl rfl (dK 15 rfl rfl rfl (dK 16 rfl rfl rfl (dV 17 rfl rfl rfl (fun _ => Yb rfl rfl) ?_)))
  refine Yc (by kernel_rfl) ?_
  refine Zb (fs _ _ ?_)
  refine Zap rfl ?_
  refine Zu ?_
  refine Zb (fr _ _ ?_)
  refine Zg fun kx gW => ?_
  refine Zc ?_
  have ew := ((((((((cX.ch0 aE).ch0 aB).ch aC (nS om)).ch0 Z).ch0 X).ch Y (nS om)).ch0 aa).ch0 ab).ch0 aD
  refine Za rfl rfl (Zy ew.at_ agg48 sz48 rfl) (Za rfl rfl (Zd rfl) (Zm rfl rfl ?_))
  have ex := ((((((((((dw.ch0 bf).ch0 aP).ch0 aE).ch0 aB).ch aC (dS j r om)).ch0 Z).ch0 X).ch Y (dS j r om)).ch0 aa).ch0 ab).ch0 aD
  have ey := (((((((((dx.ch0 aP).ch0 aE).ch0 aB).ch aC (dS m t om)).ch0 Z).ch0 X).ch Y (dS m t om)).ch0 aa).ch0 ab).ch0 aD
  have ez := ((((((((((((((((((V.ch0 dp).ch dq (dS h o om)).ch0 c1).ch0 cK).ch cL (dS h o om)).ch0 cG).ch0 bW).ch bX (dS h o om)).ch0 bf).ch0 aP).ch0 aE).ch0 aB).ch aC (dS h o om)).ch0 Z).ch0 X).ch Y (dS h o om)).ch0 aa).ch0 ab).ch0 aD
  refine Step.call (Zl (xs := [.tmp 116, .tmp 117]) fk35 rfl) (Zbd ex.ls _ _ ey.ls _ ez.ls ) fun b2 gX an => ?_
  obtain ⟨rfl, a1⟩ := an
  have iQ := a1.size
  have E := E.trans a1
  refine Za rfl rfl (Zf rfl) (Ze (Zb (gW _ _ ?_)))
  refine Zg fun ky gY => ?_
  refine Zc (Za rfl rfl (Zf rfl) (Ze (Zb (gY _ _ ?_))))
  refine Zg fun kz gZ => ?_
  refine Zg fun kA g0 => ?_
  refine Zc (Za rfl rfl (Zf rfl) (Ze (Zb (g0 _ _ ?_))))
  refine Zx ?_
  have g1 := ((((((dz.ch0 Z).ch0 X).ch Y (nS om)).ch0 aa).ch0 ab).ch0 aD).ch0 a1
  have g2 := ((((((dA.ch0 Z).ch0 X).ch Y (dS u x om)).ch0 aa).ch0 ab).ch0 aD).ch0 a1
  have g3 := ez.ch0 a1
  have g4 := ew.ch0 a1
  have g5 := ex.ch0 a1
  have g6 := ey.ch0 a1
  refine Xi (σ := Nat × Int) (fun ⟨k, s⟩ => [(2, (.bool false)), (3, (.pointer (some ⟨cE, 0, none⟩))), (4, (.slice M (g).length O)), (5, (.pointer (some ⟨cF, 0, none⟩))), (13, (.int .i64 (crR ((bpE a).1.L) ((bpE a).1.f) ((bpE a).1.l) ((bpE a).1.F) ((bpE a).1.n) g))), (14, (.int .i64 s)), (15, (.int .i64 ((k : Nat) : Int)))]) (fun ⟨k, s⟩ wx => Ch [] w wx ∧ gX.heap.size ≤ wx.heap.size ∧ (k ≤ g.length) ∧ (s = runP (bpE a).1.L (bpE a).1.f (bpE a).1.F g k) ∧ Blk wx cE 44 [(.slice y (a).length z)] ∧ Ol Token.cs 84 4 wx (.slice y (a).length z) a ∧ Ol ics 3 1 wx (.slice M (g).length O) g ∧ Blk wx cF 48 [(.slice A ((bpE a).1.L).length B), (.int .i64 ((bpE a).1.f)), (.int .i64 ((bpE a).1.l)), (.slice C ((bpE a).1.F).length D), (.bool ((bpE a).1.n))] ∧ Ol ics 3 1 wx (.slice A ((bpE a).1.L).length B) ((bpE a).1.L) ∧ Ol ics 3 1 wx (.slice C ((bpE a).1.F).length D) ((bpE a).1.F)) (fun ⟨k, s⟩ => g.length - k) (0, 1) (sC4 rfl rfl rfl rfl (sC2 rfl rfl (sC1 rfl (Sub.nil _)))) ⟨E, (Nat.le_refl _), om, rfl, g1, g2, g3, g4, g5, g6⟩ ?_
  rintro ⟨k, s⟩ kB ⟨E, c2, c3, hs, J, P, Q, K, R, S⟩
  have bm := E
  have b3 := bm.size
  have bn := J.lt
  have bp := K.lt
  refine Zg fun kC g7 => ?_
  refine Zg fun kD g8 => ?_
  refine Zc (Za rfl rfl (Zd rfl) (Za rfl rfl (Zd rfl) (Za rfl rfl (Xc (by rw [el30]; rfl) rfl) (Za rfl rfl (Xs rfl rfl) (Ze (Zb (g8 _ _ ?_)))))))
  refine Zp rfl (fun p => ?_) (fun p => ?_)
  ·have eA := p
   have p := Yi p
   refine Zu ?_
   refine Zb (g7 _ _ ?_)
   refine Zg fun kE g9 => ?_
   refine Zx ?_
   refine Xb [] 8 mixed rfl fun ha a2 => ?_
   have iR := a2.size
   have E := E.trans a2
   have eB := K.ch0 a2
   refine dT 0 rfl rfl rfl (Yq eB.at_ (fun i hi => absurd hi List.not_mem_nil) agg48 sz48 rfl ?_)
   refine dV 1 rfl rfl rfl (fun _ => Zd rfl) (dV 2 rfl rfl rfl (fun _ => Zd rfl) (dV 3 rfl rfl rfl (fun _ => Zd rfl) (dO 4 (Zz rfl rfl rfl ?_))))
   have eC := Q.ch0 a2
   refine (Yw eC.ls Xg el30 sz3 rfl rfl rfl om fun b4 ao U ap => ?_)
   refine ⟨(Ch.refl _ _), ?_⟩
   refine dT 5 rfl rfl rfl (Yx ap (fun i hi => absurd hi List.not_mem_nil) agg3 rfl rfl ?_)
   refine dO 6 (Zz rfl rfl rfl ?_)
   have eD := R.ch0 a2
   have eE := S.ch0 a2
   refine Step.call (Zl (xs := [.tmp 125, .tmp 126, .tmp 130]) fk36 rfl) (Zad eD.ls _ _ eE.ls _ _ _ ) fun b5 hb aq => ?_
   obtain ⟨rfl, aH⟩ := aq
   have iS := aH.size
   have E := E.trans aH
   have de : Ch [] ha hb := ((Ch.refl _ _).trans aH)
   refine ⟨de, ?_⟩
   refine dV 7 rfl rfl rfl (fun _ => Zf rfl) ?_
   refine Yc (by kernel_rfl) ?_
   refine Zw (Zb (g9 _ _ (Zc (Za rfl rfl (Zd rfl) (Za rfl rfl (Yo om rfl rfl) (Za rfl rfl (Zf rfl) (Ze ?_)))))))
   have hc := (J.ch0 a2).ch0 aH
   have hd := (P.ch0 a2).ch0 aH
   have he := eC.ch0 aH
   have hf := eB.ch0 aH
   have hg := eD.ch0 aH
   have hh := eE.ch0 aH
   exact Zb (Exists.intro ((k + 1), Zec ((bpE a).1.L) ((bpE a).1.f) ((bpE a).1.l) ((bpE a).1.F) s ao) ⟨⟨E, om, om, (by rw [hs]; exact Zex e U), hc, hd, he, hf, hg, hh⟩, sC4 rfl rfl rfl rfl (sC2 rfl rfl (sC1 rfl (Sub.nil _))), (by first | omega | (dsimp only; omega))⟩)
  have eA := p
  have p := Yj p
  refine Xe (Zr (Zr (Yu ?_)))
  refine Zb (gZ _ _ ?_)
  refine Zg fun kF cV => ?_
  refine Xb [] 34 mixed rfl fun bE a3 => ?_
  have iT := a3.size
  have E := E.trans a3
  have df := K.ch0 a3
  refine dT 0 rfl rfl rfl (Yq df.at_ (fun i hi => absurd hi List.not_mem_nil) agg48 sz48 rfl ?_)
  refine dO 1 (Zz rfl rfl rfl ?_)
  have eF := R.ch0 a3
  have eG := S.ch0 a3
  refine Step.call (Zl (xs := [.tmp 132]) fk37 rfl) (Xu eF.ls _ _ eG.ls _ ) fun au hj G => ?_
  replace G : au = .bool (true) ∧ _ := ⟨G.1.trans (congrArg Value.bool (Zbl (Zga e).2.2.1).symm), G.2⟩
  obtain ⟨rfl, bF⟩ := G
  have iU := bF.size
  have E := E.trans bF
  have cp : Ch [] bE hj := ((Ch.refl _ _).trans bF)
  refine ⟨cp, ?_⟩
  refine dV 2 rfl rfl rfl (fun _ => Zd rfl) (dV 3 rfl rfl rfl (fun _ => Zd rfl) (dO 4 (Zz rfl rfl rfl ?_)))
  have eH := (Q.ch0 a3).ch0 bF
  refine Step.call (Zl (xs := [.tmp 135]) fk32 rfl) (Zaw eH.ls ) fun b7 hk av => ?_
  obtain ⟨rfl, bG⟩ := av
  have iV := bG.size
  have E := E.trans bG
  have cq : Ch [] bE hk := (cp.trans bG)
  refine ⟨cq, ?_⟩
  refine dV 5 rfl rfl rfl (fun _ => Zbh rfl) (dV 6 rfl rfl rfl (fun _ => Zd rfl) ?_)
  refine Qn (d := 138) rfl (fun b => ?_) (fun b => ?_)
  ·have eI := b
   have b := bf_t (Qu b)
   refine dK 7 rfl rfl rfl (dK 8 rfl rfl rfl (dK 9 rfl rfl rfl (dK 10 rfl rfl rfl (dK 11 rfl rfl rfl (dK 12 rfl rfl rfl (dK 13 rfl rfl rfl (dK 14 rfl rfl rfl ?_)))))))
   refine dK 15 rfl rfl rfl (dK 16 rfl rfl rfl (dK 17 rfl rfl rfl (dK 18 rfl rfl rfl (dK 19 rfl rfl rfl (dK 20 rfl rfl rfl (dK 21 rfl rfl rfl (dK 22 rfl rfl rfl ?_)))))))
   refine dK 23 rfl rfl rfl (dK 24 rfl rfl rfl (dK 25 rfl rfl rfl (dK 26 rfl rfl rfl (dK 27 rfl rfl rfl (dK 28 rfl rfl rfl (dK 29 rfl rfl rfl (dK 30 rfl rfl rfl ?_)))))))
   refine dV 31 rfl rfl rfl (fun _ => Ya rfl rfl) (dV 32 rfl rfl rfl (fun _ => Ya rfl rfl) (dV 33 rfl rfl rfl (fun _ => Zf rfl) ?_))
   refine Yc (by kernel_rfl) ?_
   refine Zb (cV _ _ ?_)
   refine Zq ?_
   exact Zi [_] ⟨rfl, trivial⟩ ⟨congrArg Value.bool (by first | rfl | (rw [Zbz e]; rfl) | (exfalso; omega) | (exfalso; exact c (Qa e b)) | (exfalso; simp_all; done) | (simp_all; done)), E⟩
  have eI := b
  have b := bt_t (Qv b)
  refine dT 7 rfl rfl rfl (Yq df.at_ (fun i hi => absurd hi List.not_mem_nil) agg48 sz48 rfl ?_)
  refine dV 8 rfl rfl rfl (fun _ => Zd rfl) ?_
  have dg := J.ch0 a3
  refine dT 10 rfl rfl rfl (Yq dg.at_ (fun i hi => absurd hi List.not_mem_nil) agg44 sz44 rfl ?_)
  refine dV 11 rfl rfl rfl (fun _ => Zd rfl) (dO 9 (Zz rfl rfl rfl ?_))
  have eJ := (eF.ch0 bF).ch0 bG
  have eK := (eG.ch0 bF).ch0 bG
  have eL := eH.ch0 bG
  refine Step.call (Zl (xs := [.tmp 139, .tmp 140]) fk38 rfl) (Zae eJ.ls _ _ eK.ls _ eL.ls ) fun aw hl H => ?_
  replace H : aw = .bool ((mwE a g)) ∧ _ := ⟨H.1.trans (congrArg Value.bool (Zey e b)), H.2⟩
  obtain ⟨rfl, bH⟩ := H
  have iW := bH.size
  have E := E.trans bH
  have cr : Ch [] bE hl := (cq.trans bH)
  refine ⟨cr, ?_⟩
  refine dO 12 (Zz rfl rfl rfl ?_)
  have eM := (((P.ch0 a3).ch0 bF).ch0 bG).ch0 bH
  have eN := eL.ch0 bH
  refine Step.call (Zl (xs := [.tmp 142, .tmp 143]) fk34 rfl) (Xk eM.ls eN.ls om) fun ca hm ax => ?_
  obtain ⟨rfl, bI⟩ := ax
  have iX := bI.size
  have E := E.trans bI
  have ct : Ch [] bE hm := (cr.trans bI)
  refine ⟨ct, ?_⟩
  refine dV 13 rfl rfl rfl (fun _ => Zdg un4 rfl rfl) (dV 14 rfl rfl rfl (fun _ => Zd rfl) ?_)
  refine Qn (d := 146) rfl (fun q => ?_) (fun q => ?_)
  ·have eO := q
   have q := bt_e q
   refine dV 15 rfl rfl rfl (fun _ => Zd rfl) (dV 16 rfl rfl rfl (fun _ => Zcp rfl rfl) ?_)
   refine dT 17 rfl rfl rfl (Yq dg.at_ (fun i hi => absurd hi List.not_mem_nil) agg44 sz44 rfl ?_)
   refine dV 18 rfl rfl rfl (fun _ => Zd rfl) (dO 19 (Zz rfl rfl rfl ?_))
   have eP := eM.ch0 bI
   have eQ := eN.ch0 bI
   refine Step.call (Zl (xs := [.tmp 149, .tmp 150]) fk34 rfl) (Xk eP.ls eQ.ls om) fun cc hn ay => ?_
   obtain ⟨rfl, bJ⟩ := ay
   have iY := bJ.size
   have E := E.trans bJ
   have cu : Ch [] bE hn := (ct.trans bJ)
   refine ⟨cu, ?_⟩
   refine dV 20 rfl rfl rfl (fun _ => Zdg un4 rfl rfl) (dV 21 rfl rfl rfl (fun _ => Ya rfl rfl) (dV 22 rfl rfl rfl (fun _ => Zd rfl) ?_))
   refine Qn (d := 154) rfl (fun c => ?_) (fun c => ?_)
   ·have eR := c
    have c := bt_e c
    refine dT 23 rfl rfl rfl (Yq df.at_ (fun i hi => absurd hi List.not_mem_nil) agg48 sz48 rfl ?_)
    refine dV 24 rfl rfl rfl (fun _ => Zd rfl) ?_
    refine dT 26 rfl rfl rfl (Yq dg.at_ (fun i hi => absurd hi List.not_mem_nil) agg44 sz44 rfl ?_)
    refine dV 27 rfl rfl rfl (fun _ => Zd rfl) (dO 25 (Zz rfl rfl rfl ?_))
    have ho := ((eJ.ch0 bH).ch0 bI).ch0 bJ
    have hp := ((eK.ch0 bH).ch0 bI).ch0 bJ
    refine Step.call (Zl (xs := [.tmp 155, .tmp 156]) fk39 rfl) (Zay ho.ls _ _ hp.ls _ _ ) fun az hq I => ?_
    replace I : az = .bool ((mwE a g)) ∧ _ := ⟨I.1.trans (congrArg Value.bool (by rw [hs]; exact Zjp e b om c3)), I.2⟩
    obtain ⟨rfl, cv⟩ := I
    have iZ := cv.size
    have E := E.trans cv
    have cw : Ch [] bE hq := (cu.trans cv)
    refine ⟨cw, ?_⟩
    refine dO 28 (Zz rfl rfl rfl ?_)
    have hr := (eP.ch0 bJ).ch0 cv
    have ht := (eQ.ch0 bJ).ch0 cv
    refine Step.call (Zl (xs := [.tmp 158, .tmp 159]) fk34 rfl) (Xk hr.ls ht.ls om) fun cg hu aA => ?_
    obtain ⟨rfl, dh⟩ := aA
    have i0 := dh.size
    have E := E.trans dh
    have di : Ch [] bE hu := (cw.trans dh)
    refine ⟨di, ?_⟩
    refine dV 29 rfl rfl rfl (fun _ => Zdg un4 rfl rfl) (dV 30 rfl rfl rfl (fun _ => Ya rfl rfl) (dV 31 rfl rfl rfl (fun _ => Yb rfl rfl) (dV 32 rfl rfl rfl (fun _ => Ya rfl rfl) (dV 33 rfl rfl rfl (fun _ => Zf rfl) ?_))))
    refine Yc (by kernel_rfl) ?_
    refine Zb (cV _ _ ?_)
    refine Zq ?_
    exact Zi [_] ⟨rfl, trivial⟩ ⟨congrArg Value.bool (by first | rfl | (rw [Zbz e]; rfl) | (exfalso; omega) | (exfalso; exact c (Qa e b)) | (exfalso; simp_all; done) | (simp_all; done)), E⟩
   have eR := c
   have c := bf_e c
   refine dK 23 rfl rfl rfl (dK 24 rfl rfl rfl (dK 25 rfl rfl rfl (dK 26 rfl rfl rfl (dK 27 rfl rfl rfl (dK 28 rfl rfl rfl (dK 29 rfl rfl rfl (dV 30 rfl rfl rfl (fun _ => Yb rfl rfl) ?_)))))))
   refine dV 31 rfl rfl rfl (fun _ => Yb rfl rfl) (dV 32 rfl rfl rfl (fun _ => Ya rfl rfl) (dV 33 rfl rfl rfl (fun _ => Zf rfl) ?_))
   refine Yc (by kernel_rfl) ?_
   refine Zb (cV _ _ ?_)
   refine Zq ?_
   exact Zi [_] ⟨rfl, trivial⟩ ⟨congrArg Value.bool (by first | rfl | (rw [Zbz e]; rfl) | (exfalso; omega) | (exfalso; exact c (Qa e b)) | (exfalso; simp_all; done) | (simp_all; done)), E⟩
  have eO := q
  have q := bf_e q
  refine dK 15 rfl rfl rfl (dK 16 rfl rfl rfl (dK 17 rfl rfl rfl (dK 18 rfl rfl rfl (dK 19 rfl rfl rfl (dK 20 rfl rfl rfl (dV 21 rfl rfl rfl (fun _ => Yb rfl rfl) (dV 22 rfl rfl rfl (fun _ => Zd rfl) ?_)))))))
  refine dK 23 rfl rfl rfl (dK 24 rfl rfl rfl (dK 25 rfl rfl rfl (dK 26 rfl rfl rfl (dK 27 rfl rfl rfl (dK 28 rfl rfl rfl (dK 29 rfl rfl rfl (dV 30 rfl rfl rfl (fun _ => Yb rfl rfl) ?_)))))))
  refine dV 31 rfl rfl rfl (fun _ => Yb rfl rfl) (dV 32 rfl rfl rfl (fun _ => Ya rfl rfl) (dV 33 rfl rfl rfl (fun _ => Zf rfl) ?_))
  refine Yc (by kernel_rfl) ?_
  refine Zb (cV _ _ ?_)
  refine Zq ?_
  exact Zi [_] ⟨rfl, trivial⟩ ⟨congrArg Value.bool (by first | rfl | (rw [Zbz e]; rfl) | (exfalso; omega) | (exfalso; exact c (Qa e b)) | (exfalso; simp_all; done) | (simp_all; done)), E⟩
 have fN := cQ
 refine dK 2 rfl rfl rfl (dK 3 rfl rfl rfl (dV 4 rfl rfl rfl (fun _ => Yb rfl rfl) (dV 5 rfl rfl rfl (fun _ => Zd rfl) (dK 6 rfl rfl rfl (dK 7 rfl rfl rfl (dV 8 rfl rfl rfl (fun _ => Yb rfl rfl) (dV 9 rfl rfl rfl (fun _ => Zd rfl) ?_)))))))
 refine dK 10 rfl rfl rfl (dK 11 rfl rfl rfl (dK 12 rfl rfl rfl (dK 13 rfl rfl rfl (dK 14 rfl rfl rfl (dK 15 rfl rfl rfl (dK 16 rfl rfl rfl (dV 17 rfl rfl rfl (fun _ => Yb rfl rfl) ?_)))))))
 refine Yc (by kernel_rfl) ?_
 refine Zb (fs _ _ ?_)
 refine Zap rfl ?_
 refine Zu ?_
 refine Zb (fr _ _ ?_)
 refine Zg fun kG hv => ?_
 refine Zc ?_
 have eS := (((((((cX.ch0 aE).ch0 aB).ch aC (nS om)).ch0 Z).ch0 X).ch Y (nS om)).ch0 aa).ch0 ab
 refine Za rfl rfl (Zy eS.at_ agg48 sz48 rfl) (Za rfl rfl (Zd rfl) (Zm rfl rfl ?_))
 have eT := (((((((((dw.ch0 bf).ch0 aP).ch0 aE).ch0 aB).ch aC (dS j r om)).ch0 Z).ch0 X).ch Y (dS j r om)).ch0 aa).ch0 ab
 have eU := ((((((((dx.ch0 aP).ch0 aE).ch0 aB).ch aC (dS m t om)).ch0 Z).ch0 X).ch Y (dS m t om)).ch0 aa).ch0 ab
 have eV := (((((((((((((((((V.ch0 dp).ch dq (dS h o om)).ch0 c1).ch0 cK).ch cL (dS h o om)).ch0 cG).ch0 bW).ch bX (dS h o om)).ch0 bf).ch0 aP).ch0 aE).ch0 aB).ch aC (dS h o om)).ch0 Z).ch0 X).ch Y (dS h o om)).ch0 aa).ch0 ab
 refine Step.call (Zl (xs := [.tmp 116, .tmp 117]) fk35 rfl) (Zbd eT.ls _ _ eU.ls _ eV.ls ) fun b2 hw an => ?_
 obtain ⟨rfl, a4⟩ := an
 have i1 := a4.size
 have E := E.trans a4
 refine Za rfl rfl (Zf rfl) (Ze (Zb (hv _ _ ?_)))
 refine Zg fun kH hx => ?_
 refine Zc (Za rfl rfl (Zf rfl) (Ze (Zb (hx _ _ ?_))))
 refine Zg fun kI hy => ?_
 refine Zg fun kJ hz => ?_
 refine Zc (Za rfl rfl (Zf rfl) (Ze (Zb (hz _ _ ?_))))
 refine Zx ?_
 have hA := (((((dz.ch0 Z).ch0 X).ch Y (nS om)).ch0 aa).ch0 ab).ch0 a4
 have hB := (((((dA.ch0 Z).ch0 X).ch Y (dS u x om)).ch0 aa).ch0 ab).ch0 a4
 have hC := eV.ch0 a4
 have hD := eS.ch0 a4
 have hE := eT.ch0 a4
 have hF := eU.ch0 a4
 refine Xi (σ := Nat × Int) (fun ⟨k, s⟩ => [(2, (.bool false)), (3, (.pointer (some ⟨cE, 0, none⟩))), (4, (.slice M (g).length O)), (5, (.pointer (some ⟨cF, 0, none⟩))), (13, (.int .i64 (crR ((bpE a).1.L) ((bpE a).1.f) ((bpE a).1.l) ((bpE a).1.F) ((bpE a).1.n) g))), (14, (.int .i64 s)), (15, (.int .i64 ((k : Nat) : Int)))]) (fun ⟨k, s⟩ wx => Ch [] w wx ∧ hw.heap.size ≤ wx.heap.size ∧ (k ≤ g.length) ∧ (s = runP (bpE a).1.L (bpE a).1.f (bpE a).1.F g k) ∧ Blk wx cE 44 [(.slice y (a).length z)] ∧ Ol Token.cs 84 4 wx (.slice y (a).length z) a ∧ Ol ics 3 1 wx (.slice M (g).length O) g ∧ Blk wx cF 48 [(.slice A ((bpE a).1.L).length B), (.int .i64 ((bpE a).1.f)), (.int .i64 ((bpE a).1.l)), (.slice C ((bpE a).1.F).length D), (.bool ((bpE a).1.n))] ∧ Ol ics 3 1 wx (.slice A ((bpE a).1.L).length B) ((bpE a).1.L) ∧ Ol ics 3 1 wx (.slice C ((bpE a).1.F).length D) ((bpE a).1.F)) (fun ⟨k, s⟩ => g.length - k) (0, 1) (sC4 rfl rfl rfl rfl (sC2 rfl rfl (sC1 rfl (Sub.nil _)))) ⟨E, (Nat.le_refl _), om, rfl, hA, hB, hC, hD, hE, hF⟩ ?_
 rintro ⟨k, s⟩ kK ⟨E, c2, c3, hs, J, P, Q, K, R, S⟩
 have bm := E
 have b3 := bm.size
 have bn := J.lt
 have bp := K.lt
 refine Zg fun kL hG => ?_
 refine Zg fun kM hH => ?_
 refine Zc (Za rfl rfl (Zd rfl) (Za rfl rfl (Zd rfl) (Za rfl rfl (Xc (by rw [el30]; rfl) rfl) (Za rfl rfl (Xs rfl rfl) (Ze (Zb (hH _ _ ?_)))))))
 refine Zp rfl (fun p => ?_) (fun p => ?_)
 ·have eW := p
  have p := Yi p
  refine Zu ?_
  refine Zb (hG _ _ ?_)
  refine Zg fun kN hI => ?_
  refine Zx ?_
  refine Xb [] 8 mixed rfl fun hJ a5 => ?_
  have i2 := a5.size
  have E := E.trans a5
  have eX := K.ch0 a5
  refine dT 0 rfl rfl rfl (Yq eX.at_ (fun i hi => absurd hi List.not_mem_nil) agg48 sz48 rfl ?_)
  refine dV 1 rfl rfl rfl (fun _ => Zd rfl) (dV 2 rfl rfl rfl (fun _ => Zd rfl) (dV 3 rfl rfl rfl (fun _ => Zd rfl) (dO 4 (Zz rfl rfl rfl ?_))))
  have eY := Q.ch0 a5
  refine (Yw eY.ls Xg el30 sz3 rfl rfl rfl om fun b4 ao U ap => ?_)
  refine ⟨(Ch.refl _ _), ?_⟩
  refine dT 5 rfl rfl rfl (Yx ap (fun i hi => absurd hi List.not_mem_nil) agg3 rfl rfl ?_)
  refine dO 6 (Zz rfl rfl rfl ?_)
  have eZ := R.ch0 a5
  have e0 := S.ch0 a5
  refine Step.call (Zl (xs := [.tmp 125, .tmp 126, .tmp 130]) fk36 rfl) (Zad eZ.ls _ _ e0.ls _ _ _ ) fun b5 hK aq => ?_
  obtain ⟨rfl, aI⟩ := aq
  have i3 := aI.size
  have E := E.trans aI
  have dj : Ch [] hJ hK := ((Ch.refl _ _).trans aI)
  refine ⟨dj, ?_⟩
  refine dV 7 rfl rfl rfl (fun _ => Zf rfl) ?_
  refine Yc (by kernel_rfl) ?_
  refine Zw (Zb (hI _ _ (Zc (Za rfl rfl (Zd rfl) (Za rfl rfl (Yo om rfl rfl) (Za rfl rfl (Zf rfl) (Ze ?_)))))))
  have hL := (J.ch0 a5).ch0 aI
  have hM := (P.ch0 a5).ch0 aI
  have hN := eY.ch0 aI
  have hO := eX.ch0 aI
  have hP := eZ.ch0 aI
  have hQ := e0.ch0 aI
  exact Zb (Exists.intro ((k + 1), Zec ((bpE a).1.L) ((bpE a).1.f) ((bpE a).1.l) ((bpE a).1.F) s ao) ⟨⟨E, om, om, (by rw [hs]; exact Zex e U), hL, hM, hN, hO, hP, hQ⟩, sC4 rfl rfl rfl rfl (sC2 rfl rfl (sC1 rfl (Sub.nil _))), (by first | omega | (dsimp only; omega))⟩)
 have eW := p
 have p := Yj p
 refine Xe (Zr (Zr (Yu ?_)))
 refine Zb (hy _ _ ?_)
 refine Zg fun kO cW => ?_
 refine Xb [] 34 mixed rfl fun bK a6 => ?_
 have i4 := a6.size
 have E := E.trans a6
 have dk := K.ch0 a6
 refine dT 0 rfl rfl rfl (Yq dk.at_ (fun i hi => absurd hi List.not_mem_nil) agg48 sz48 rfl ?_)
 refine dO 1 (Zz rfl rfl rfl ?_)
 have e1 := R.ch0 a6
 have e2 := S.ch0 a6
 refine Step.call (Zl (xs := [.tmp 132]) fk37 rfl) (Xu e1.ls _ _ e2.ls _ ) fun au hR G => ?_
 replace G : au = .bool (true) ∧ _ := ⟨G.1.trans (congrArg Value.bool (Zbl (Zga e).2.2.1).symm), G.2⟩
 obtain ⟨rfl, bL⟩ := G
 have i5 := bL.size
 have E := E.trans bL
 have cx : Ch [] bK hR := ((Ch.refl _ _).trans bL)
 refine ⟨cx, ?_⟩
 refine dV 2 rfl rfl rfl (fun _ => Zd rfl) (dV 3 rfl rfl rfl (fun _ => Zd rfl) (dO 4 (Zz rfl rfl rfl ?_)))
 have e3 := (Q.ch0 a6).ch0 bL
 refine Step.call (Zl (xs := [.tmp 135]) fk32 rfl) (Zaw e3.ls ) fun b7 hS av => ?_
 obtain ⟨rfl, bM⟩ := av
 have i6 := bM.size
 have E := E.trans bM
 have cy : Ch [] bK hS := (cx.trans bM)
 refine ⟨cy, ?_⟩
 refine dV 5 rfl rfl rfl (fun _ => Zbh rfl) (dV 6 rfl rfl rfl (fun _ => Zd rfl) ?_)
 refine Qn (d := 138) rfl (fun b => ?_) (fun b => ?_)
 ·have e4 := b
  have b := bf_t (Qu b)
  refine dK 7 rfl rfl rfl (dK 8 rfl rfl rfl (dK 9 rfl rfl rfl (dK 10 rfl rfl rfl (dK 11 rfl rfl rfl (dK 12 rfl rfl rfl (dK 13 rfl rfl rfl (dK 14 rfl rfl rfl ?_)))))))
  refine dK 15 rfl rfl rfl (dK 16 rfl rfl rfl (dK 17 rfl rfl rfl (dK 18 rfl rfl rfl (dK 19 rfl rfl rfl (dK 20 rfl rfl rfl (dK 21 rfl rfl rfl (dK 22 rfl rfl rfl ?_)))))))
  refine dK 23 rfl rfl rfl (dK 24 rfl rfl rfl (dK 25 rfl rfl rfl (dK 26 rfl rfl rfl (dK 27 rfl rfl rfl (dK 28 rfl rfl rfl (dK 29 rfl rfl rfl (dK 30 rfl rfl rfl ?_)))))))
  refine dV 31 rfl rfl rfl (fun _ => Ya rfl rfl) (dV 32 rfl rfl rfl (fun _ => Ya rfl rfl) (dV 33 rfl rfl rfl (fun _ => Zf rfl) ?_))
  refine Yc (by kernel_rfl) ?_
  refine Zb (cW _ _ ?_)
  refine Zq ?_
  exact Zi [_] ⟨rfl, trivial⟩ ⟨congrArg Value.bool (by first | rfl | (rw [Zbz e]; rfl) | (exfalso; omega) | (exfalso; exact c (Qa e b)) | (exfalso; simp_all; done) | (simp_all; done)), E⟩
 have e4 := b
 have b := bt_t (Qv b)
 refine dT 7 rfl rfl rfl (Yq dk.at_ (fun i hi => absurd hi List.not_mem_nil) agg48 sz48 rfl ?_)
 refine dV 8 rfl rfl rfl (fun _ => Zd rfl) ?_
 have dl := J.ch0 a6
 refine dT 10 rfl rfl rfl (Yq dl.at_ (fun i hi => absurd hi List.not_mem_nil) agg44 sz44 rfl ?_)
 refine dV 11 rfl rfl rfl (fun _ => Zd rfl) (dO 9 (Zz rfl rfl rfl ?_))
 have e5 := (e1.ch0 bL).ch0 bM
 have e6 := (e2.ch0 bL).ch0 bM
 have e7 := e3.ch0 bM
 refine Step.call (Zl (xs := [.tmp 139, .tmp 140]) fk38 rfl) (Zae e5.ls _ _ e6.ls _ e7.ls ) fun aw hT H => ?_
 replace H : aw = .bool ((mwE a g)) ∧ _ := ⟨H.1.trans (congrArg Value.bool (Zey e b)), H.2⟩
 obtain ⟨rfl, bN⟩ := H
 have i7 := bN.size
 have E := E.trans bN
 have cz : Ch [] bK hT := (cy.trans bN)
 refine ⟨cz, ?_⟩
 refine dO 12 (Zz rfl rfl rfl ?_)
 have e8 := (((P.ch0 a6).ch0 bL).ch0 bM).ch0 bN
 have e9 := e7.ch0 bN
 refine Step.call (Zl (xs := [.tmp 142, .tmp 143]) fk34 rfl) (Xk e8.ls e9.ls om) fun ca hU ax => ?_
 obtain ⟨rfl, bO⟩ := ax
 have i8 := bO.size
 have E := E.trans bO
 have cA : Ch [] bK hU := (cz.trans bO)
 refine ⟨cA, ?_⟩
 refine dV 13 rfl rfl rfl (fun _ => Zdg un4 rfl rfl) (dV 14 rfl rfl rfl (fun _ => Zd rfl) ?_)
 refine Qn (d := 146) rfl (fun q => ?_) (fun q => ?_)
 ·have fa := q
  have q := bt_e q
  refine dV 15 rfl rfl rfl (fun _ => Zd rfl) (dV 16 rfl rfl rfl (fun _ => Zcp rfl rfl) ?_)
  refine dT 17 rfl rfl rfl (Yq dl.at_ (fun i hi => absurd hi List.not_mem_nil) agg44 sz44 rfl ?_)
  refine dV 18 rfl rfl rfl (fun _ => Zd rfl) (dO 19 (Zz rfl rfl rfl ?_))
  have fb := e8.ch0 bO
  have fc := e9.ch0 bO
  refine Step.call (Zl (xs := [.tmp 149, .tmp 150]) fk34 rfl) (Xk fb.ls fc.ls om) fun cc hV ay => ?_
  obtain ⟨rfl, bP⟩ := ay
  have i9 := bP.size
  have E := E.trans bP
  have cB : Ch [] bK hV := (cA.trans bP)
  refine ⟨cB, ?_⟩
  refine dV 20 rfl rfl rfl (fun _ => Zdg un4 rfl rfl) (dV 21 rfl rfl rfl (fun _ => Ya rfl rfl) (dV 22 rfl rfl rfl (fun _ => Zd rfl) ?_))
  refine Qn (d := 154) rfl (fun c => ?_) (fun c => ?_)
  ·have fd := c
   have c := bt_e c
   refine dT 23 rfl rfl rfl (Yq dk.at_ (fun i hi => absurd hi List.not_mem_nil) agg48 sz48 rfl ?_)
   refine dV 24 rfl rfl rfl (fun _ => Zd rfl) ?_
   refine dT 26 rfl rfl rfl (Yq dl.at_ (fun i hi => absurd hi List.not_mem_nil) agg44 sz44 rfl ?_)
   refine dV 27 rfl rfl rfl (fun _ => Zd rfl) (dO 25 (Zz rfl rfl rfl ?_))
   have hW := ((e5.ch0 bN).ch0 bO).ch0 bP
   have hX := ((e6.ch0 bN).ch0 bO).ch0 bP
   refine Step.call (Zl (xs := [.tmp 155, .tmp 156]) fk39 rfl) (Zay hW.ls _ _ hX.ls _ _ ) fun az hY I => ?_
   replace I : az = .bool ((mwE a g)) ∧ _ := ⟨I.1.trans (congrArg Value.bool (by rw [hs]; exact Zjp e b om c3)), I.2⟩
   obtain ⟨rfl, cC⟩ := I
   have ja := cC.size
   have E := E.trans cC
   have cD : Ch [] bK hY := (cB.trans cC)
   refine ⟨cD, ?_⟩
   refine dO 28 (Zz rfl rfl rfl ?_)
   have hZ := (fb.ch0 bP).ch0 cC
   have h0 := (fc.ch0 bP).ch0 cC
   refine Step.call (Zl (xs := [.tmp 158, .tmp 159]) fk34 rfl) (Xk hZ.ls h0.ls om) fun cg h1 aA => ?_
   obtain ⟨rfl, dm⟩ := aA
   have jb := dm.size
   have E := E.trans dm
   have dn : Ch [] bK h1 := (cD.trans dm)
   refine ⟨dn, ?_⟩
   refine dV 29 rfl rfl rfl (fun _ => Zdg un4 rfl rfl) (dV 30 rfl rfl rfl (fun _ => Ya rfl rfl) (dV 31 rfl rfl rfl (fun _ => Yb rfl rfl) (dV 32 rfl rfl rfl (fun _ => Ya rfl rfl) (dV 33 rfl rfl rfl (fun _ => Zf rfl) ?_))))
   refine Yc (by kernel_rfl) ?_
   refine Zb (cW _ _ ?_)
   refine Zq ?_
   exact Zi [_] ⟨rfl, trivial⟩ ⟨congrArg Value.bool (by first | rfl | (rw [Zbz e]; rfl) | (exfalso; omega) | (exfalso; exact c (Qa e b)) | (exfalso; simp_all; done) | (simp_all; done)), E⟩
  have fd := c
  have c := bf_e c
  refine dK 23 rfl rfl rfl (dK 24 rfl rfl rfl (dK 25 rfl rfl rfl (dK 26 rfl rfl rfl (dK 27 rfl rfl rfl (dK 28 rfl rfl rfl (dK 29 rfl rfl rfl (dV 30 rfl rfl rfl (fun _ => Yb rfl rfl) ?_)))))))
  refine dV 31 rfl rfl rfl (fun _ => Yb rfl rfl) (dV 32 rfl rfl rfl (fun _ => Ya rfl rfl) (dV 33 rfl rfl rfl (fun _ => Zf rfl) ?_))
  refine Yc (by kernel_rfl) ?_
  refine Zb (cW _ _ ?_)
  refine Zq ?_
  exact Zi [_] ⟨rfl, trivial⟩ ⟨congrArg Value.bool (by first | rfl | (rw [Zbz e]; rfl) | (exfalso; omega) | (exfalso; exact c (Qa e b)) | (exfalso; simp_all; done) | (simp_all; done)), E⟩
 have fa := q
 have q := bf_e q
 refine dK 15 rfl rfl rfl (dK 16 rfl rfl rfl (dK 17 rfl rfl rfl (dK 18 rfl rfl rfl (dK 19 rfl rfl rfl (dK 20 rfl rfl rfl (dV 21 rfl rfl rfl (fun _ => Yb rfl rfl) (dV 22 rfl rfl rfl (fun _ => Zd rfl) ?_)))))))
 refine dK 23 rfl rfl rfl (dK 24 rfl rfl rfl (dK 25 rfl rfl rfl (dK 26 rfl rfl rfl (dK 27 rfl rfl rfl (dK 28 rfl rfl rfl (dK 29 rfl rfl rfl (dV 30 rfl rfl rfl (fun _ => Yb rfl rfl) ?_)))))))
 refine dV 31 rfl rfl rfl (fun _ => Yb rfl rfl) (dV 32 rfl rfl rfl (fun _ => Ya rfl rfl) (dV 33 rfl rfl rfl (fun _ => Zf rfl) ?_))
 refine Yc (by kernel_rfl) ?_
 refine Zb (cW _ _ ?_)
 refine Zq ?_
 exact Zi [_] ⟨rfl, trivial⟩ ⟨congrArg Value.bool (by first | rfl | (rw [Zbz e]; rfl) | (exfalso; omega) | (exfalso; exact c (Qa e b)) | (exfalso; simp_all; done) | (simp_all; done)), E⟩

end Go.Proofs.Ytgnlfnkgkcmdjaa
