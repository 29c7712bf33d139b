/- Walks of functions that FnMissingWord reaches: what each returns, and that it leaves the memory that was there alone. -/
import Derived.Test.YtgnlfnkgkcmdjaaLibA
import Derived.Test.YtgnlfnkgkcmdjaaLibB
import Derived.Test.YtgnlfnkgkcmdjaaWMissingWord
import Derived.Test.YtgnlfnkgkcmdjaaWMissingWordb
import Derived.Test.YtgnlfnkgkcmdjaaWMissingWordc
import Derived.Test.YtgnlfnkgkcmdjaaProg
namespace Go.Proofs.Ytgnlfnkgkcmdjaa
open Go.KLib Go.Shelf
set_option maxHeartbeats 1000000
set_option maxRecDepth 20000
set_option linter.unusedVariables false
set_option linter.unusedSimpArgs false
namespace TMissingWordd
theorem agg22 : Ys Try.prog 22 = some false := by kernel_rfl
theorem agg24 : Ys Try.prog 24 = some false := by kernel_rfl
theorem agg25 : Ys Try.prog 25 = some false := by kernel_rfl
theorem agg27 : Ys Try.prog 27 = some true := by kernel_rfl
theorem agg3 : Ys Try.prog 3 = some false := by kernel_rfl
theorem agg30 : Ys Try.prog 30 = some false := by kernel_rfl
theorem agg4 : Ys Try.prog 4 = some false := by kernel_rfl
theorem agg42 : Ys Try.prog 42 = some false := by kernel_rfl
theorem agg44 : Ys Try.prog 44 = some true := by kernel_rfl
theorem agg48 : Ys Try.prog 48 = some true := by kernel_rfl
theorem agg5 : Ys Try.prog 5 = some false := by kernel_rfl
theorem agg84 : Ys Try.prog 84 = some true := by kernel_rfl
theorem agg9 : Ys Try.prog 9 = some false := by kernel_rfl
theorem by3 : Qw Try.prog 3 = some 8 := by kernel_rfl
theorem by30 : Qw Try.prog 30 = some 24 := by kernel_rfl
theorem by4 : Qw Try.prog 4 = some 1 := by kernel_rfl
theorem by84 : Qw Try.prog 84 = some 32 := by kernel_rfl
theorem by9 : Qw Try.prog 9 = some 16 := by kernel_rfl
theorem el160 : elB Try.prog 160 = some 9 := by kernel_rfl
theorem el22 : elB Try.prog 22 = some 5 := by kernel_rfl
theorem el24 : elB Try.prog 24 = some 4 := by kernel_rfl
theorem el25 : elB Try.prog 25 = some 30 := by kernel_rfl
theorem el30 : elB Try.prog 30 = some 3 := by kernel_rfl
theorem el42 : elB Try.prog 42 = some 84 := by kernel_rfl
theorem fa101_0 : faB Try.prog 101 0 = some 0 := by kernel_rfl
theorem fa101_1 : faB Try.prog 101 1 = some 1 := by kernel_rfl
theorem fa101_2 : faB Try.prog 101 2 = some 2 := by kernel_rfl
theorem fa27_1 : faB Try.prog 27 1 = some 1 := by kernel_rfl
theorem fa27_2 : faB Try.prog 27 2 = some 2 := by kernel_rfl
theorem fa44_0 : faB Try.prog 44 0 = some 0 := by kernel_rfl
theorem fa48_0 : faB Try.prog 48 0 = some 0 := by kernel_rfl
theorem fa48_1 : faB Try.prog 48 1 = some 1 := by kernel_rfl
theorem fa48_2 : faB Try.prog 48 2 = some 2 := by kernel_rfl
theorem fa48_3 : faB Try.prog 48 3 = some 3 := by kernel_rfl
theorem fa48_4 : faB Try.prog 48 4 = some 4 := by kernel_rfl
theorem fa84_0 : faB Try.prog 84 0 = some 0 := by kernel_rfl
theorem fa84_1 : faB Try.prog 84 1 = some 1 := by kernel_rfl
theorem fa84_2 : faB Try.prog 84 2 = some 2 := by kernel_rfl
theorem fa84_3 : faB Try.prog 84 3 = some 3 := by kernel_rfl
theorem fa91_0 : faB Try.prog 91 0 = some 0 := by kernel_rfl
theorem fa91_1 : faB Try.prog 91 1 = some 1 := by kernel_rfl
theorem fa91_2 : faB Try.prog 91 2 = some 2 := by kernel_rfl
theorem fk134 : fnB Try.prog 134 = true := by kernel_rfl
theorem fk135 : fnB Try.prog 135 = true := by kernel_rfl
theorem fk136 : fnB Try.prog 136 = true := by kernel_rfl
theorem fk138 : fnB Try.prog 138 = true := by kernel_rfl
theorem fk139 : fnB Try.prog 139 = true := by kernel_rfl
theorem fk142 : fnB Try.prog 142 = true := by kernel_rfl
theorem fk143 : fnB Try.prog 143 = true := by kernel_rfl
theorem fk144 : fnB Try.prog 144 = true := by kernel_rfl
theorem fk145 : fnB Try.prog 145 = true := by kernel_rfl
theorem fk146 : fnB Try.prog 146 = true := by kernel_rfl
theorem fk147 : fnB Try.prog 147 = true := by kernel_rfl
theorem fk29 : fnB Try.prog 29 = true := by kernel_rfl
theorem fk31 : fnB Try.prog 31 = true := by kernel_rfl
theorem fk42 : fnB Try.prog 42 = true := by kernel_rfl
theorem fk67 : fnB Try.prog 67 = true := by kernel_rfl
theorem fk75 : fnB Try.prog 75 = true := by kernel_rfl
theorem fk86 : fnB Try.prog 86 = true := by kernel_rfl
theorem fk96 : fnB Try.prog 96 = true := by kernel_rfl
theorem mixed : Try.prog.follows .mixedOrders = true := by kernel_rfl
theorem pl27 : Qp Try.prog 27 = some [(0, 1), (1, 1), (2, 1)] := by kernel_rfl
theorem pl44 : Qp Try.prog 44 = some [(0, 1)] := by kernel_rfl
theorem pl48 : Qp Try.prog 48 = some [(0, 1), (1, 1), (2, 1), (3, 1), (4, 1)] := by kernel_rfl
theorem pl84 : Qp Try.prog 84 = some [(0, 1), (1, 1), (2, 1), (3, 1)] := by kernel_rfl
theorem sz24 : Yg Try.prog 24 = some 1 := by kernel_rfl
theorem sz25 : Yg Try.prog 25 = some 1 := by kernel_rfl
theorem sz27 : Yg Try.prog 27 = some 3 := by kernel_rfl
theorem sz3 : Yg Try.prog 3 = some 1 := by kernel_rfl
theorem sz30 : Yg Try.prog 30 = some 1 := by kernel_rfl
theorem sz4 : Yg Try.prog 4 = some 1 := by kernel_rfl
theorem sz42 : Yg Try.prog 42 = some 1 := by kernel_rfl
theorem sz44 : Yg Try.prog 44 = some 1 := by kernel_rfl
theorem sz48 : Yg Try.prog 48 = some 5 := by kernel_rfl
theorem sz5 : Yg Try.prog 5 = some 1 := by kernel_rfl
theorem sz84 : Yg Try.prog 84 = some 4 := by kernel_rfl
theorem sz9 : Yg Try.prog 9 = some 1 := by kernel_rfl
theorem sz91 : Yg Try.prog 91 = some 3 := by kernel_rfl
theorem un3 : Try.prog.underlying 3 = some (.int .i64) := by kernel_rfl
theorem un5 : Try.prog.underlying 5 = some (.int .u8) := by kernel_rfl
theorem un9 : Try.prog.underlying 9 = some (.string) := by kernel_rfl
theorem zr27 : Xg Try.prog 27 = some (.agg #[.int .i64 0, .slice none 0 0, .slice none 0 0]) := by kernel_rfl
theorem zr3 : Xg Try.prog 3 = some (.int .i64 0) := by kernel_rfl
theorem zr30 : Xg Try.prog 30 = some (.slice none 0 0) := by kernel_rfl
theorem zr4 : Xg Try.prog 4 = some (.bool false) := by kernel_rfl
theorem zr44 : Xg Try.prog 44 = some (.agg #[.slice none 0 0]) := by kernel_rfl
theorem zr48 : Xg Try.prog 48 = some (.agg #[.slice none 0 0, .int .i64 0, .int .i64 0, .slice none 0 0, .bool false]) := by kernel_rfl
theorem zr5 : Xg Try.prog 5 = some (.int .u8 0) := by kernel_rfl
theorem zr84 : Xg Try.prog 84 = some (.agg #[.int .i64 0, .int .i64 0, .int .i64 0, .int .i64 0]) := by kernel_rfl
theorem zr9 : Xg Try.prog 9 = some (.string ⟨#[]⟩) := by kernel_rfl
theorem zr91 : Xg Try.prog 91 = some (.agg #[.bool false, .int .i64 0, .int .i64 0]) := by kernel_rfl
end TMissingWordd
open TMissingWordd

/-- spec.BuildPositions -/
theorem Zdv {w : World} {LL_e aV : Nat} {av : Value} {e : List Token} (U : Ls Token.cs 4 w LL_e aV av e) (hb : e.length ≤ 1048576) :
 Ctr Try.prog 27 #[(.agg #[av])] w (fun v w' => ∃ (ag : Value) (ah : Value), v = .tuple #[.agg #[ag, .int .i64 ((bpE e).1.f), .int .i64 ((bpE e).1.l), ah, .bool ((bpE e).1.n)], .bool ((bpE e).2)] ∧ Ol ics 3 1 w' ag ((bpE e).1.L) ∧ Lo w.heap.size ag ∧ Ol ics 3 1 w' ah ((bpE e).1.F) ∧ Lo w.heap.size ah ∧ (∀ g ∈ bl ag, g ∉ bl ah) ∧ Ch [] w w') := by
 obtain ⟨aw, ax, ay⟩ := U.val
 subst ay
 have bm := U.len
 have U := U.here (by decide)
 have E := Ch.refl [] w
 have sl := Zmu e
 refine Yh (N := 51) (vs0 := [(.agg #[(.slice aw e.length ax)])]) Try.func27 rfl rfl rfl ?_
 refine Zg fun K1 H1 => ?_
 refine Zc (Zk rfl rfl ?_)
 refine Xw rfl fun bn W2 aP C2 ck => ?_
 have cm := C2.size
 have E := E.trans C2
 have cn := aP.lt
 replace aP : Blk W2 bn 44 [(.slice aw e.length ax)] := aP
 refine Zk rfl rfl ?_
 refine Yr zr48 fun ak W3 az C3 co => ?_
 have cp := C3.size
 have E := E.trans C3
 have cq := az.lt
 replace az : Blk W3 ak 48 [(.slice none 0 0), (.int .i64 0), (.int .i64 0), (.slice none 0 0), (.bool false)] := az
 refine Za rfl rfl (Ze rfl) (Zf (Zb (H1 _ _ ?_)))
 refine Zg fun K4 H4 => ?_
 refine Zc ?_
 have F5 := aP.ch0 C3
 refine Za rfl rfl (Zt F5.at_ agg44 sz44 rfl) (Zk rfl rfl ?_)
 have F6 := (U.ch0 C2).ch0 C3
 refine Step.call (Zl (xs := [.tmp 11]) fk29 rfl) (Zga F6 om) fun bp W7 aW => ?_
 obtain ⟨aQ, rfl, x, u, C7⟩ := aW
 have cr := C7.size
 have E := E.trans C7
 obtain ⟨s, t, rfl, aA, r⟩ := x.opn
 refine Za rfl rfl (Zd rfl) (Za rfl rfl (Xc rfl rfl) (Za rfl rfl (Xc rfl rfl) (Zk rfl rfl ?_)))
 refine Yr zr44 fun an W8 aR C8 ct => ?_
 have cu := C8.size
 have E := E.trans C8
 have cv := aR.lt
 replace aR : Blk W8 an 44 [(.slice none 0 0)] := aR
 refine Zk rfl rfl ?_
 refine Zy (off := 0) 1 aR sz44 rfl (us := [(.slice s ((expE e).1).length t)]) rfl rfl rfl rfl fun W9 V C9 => ?_
 have cw := C9.size
 have E := E.step C9 (lS om)
 replace V : Blk W9 an 44 [(.slice s ((expE e).1).length t)] := V
 refine Za rfl rfl (Ze rfl) (Zf (Zb (H4 _ _ ?_)))
 refine Zg fun cx bq => ?_
 refine Zg fun cy br => ?_
 refine Zc (Za rfl rfl (Zd rfl) (Za rfl rfl (Xi rfl) (Zf (Zb (br _ _ ?_)))))
 refine Zx rfl (fun a => ?_) (fun a => ?_)
 ·have aX := a
  have a := Qf a
  refine Zg fun cz bs => ?_
  refine Zc (Za rfl rfl (Yt (parts := []) (cells := [(.slice none 0 0), (.int .i64 0), (.int .i64 0), (.slice none 0 0), (.bool false)]) zr48 pl48 rfl rfl) (Zk rfl rfl ?_))
  have bu := ((az.ch0 C7).ch0 C8).ch C9 (ne1 om)
  refine Zy (off := 0) 5 bu sz48 rfl (us := [(.slice none 0 0), (.int .i64 0), (.int .i64 0), (.slice none 0 0), (.bool false)]) rfl rfl rfl rfl fun aB X bc => ?_
  have bv := bc.size
  have E := E.step bc (lS om)
  replace X : Blk aB ak 48 [(.slice none 0 0), (.int .i64 0), (.int .i64 0), (.slice none 0 0), (.bool false)] := X
  refine Za rfl rfl (Ze rfl) (Zf (Zb (bs _ _ ?_)))
  refine Zs (Zm ?_)
  have aC : Ol ics 3 1 aB (.slice none 0 0) ((bpE e).1.L) := by
   have hx := Ol.nil (cs := ics) (e := 3) (k := 1) aB
   first | (rw [Zcw a om D]; exact hx) | (rw [Zap (fun q => by rw [a] at q; exact Bool.false_ne_true q.1)]; exact hx) | (rw [Zap (fun q => by have G := q.2; omega)]; exact hx)
  have aD : Ol ics 3 1 aB (.slice none 0 0) ((bpE e).1.F) := by
   have hx := Ol.nil (cs := ics) (e := 3) (k := 1) aB
   first | (rw [Zcw a om D]; exact hx) | (rw [Zap (fun q => by rw [a] at q; exact Bool.false_ne_true q.1)]; exact hx) | (rw [Zap (fun q => by have G := q.2; omega)]; exact hx)
  exact Zi [_, _] (Zz X rfl agg48 sz48 ⟨rfl, trivial⟩) ⟨(.slice none 0 0), (.slice none 0 0), ((((congrArg (fun zq => (Value.tuple #[.agg #[(.slice none 0 0), .int .i64 zq, .int .i64 0, (.slice none 0 0), .bool false], .bool false])) (by first | (rw [Zcw a om D]; done) | (rw [Zap (fun q => by rw [a] at q; exact Bool.false_ne_true q.1)]; done) | (rw [Zap (fun q => by have G := q.2; omega)]; done))).trans (congrArg (fun zq => (Value.tuple #[.agg #[(.slice none 0 0), .int .i64 ((bpE e).1.f), .int .i64 zq, (.slice none 0 0), .bool false], .bool false])) (by first | (rw [Zcw a om D]; done) | (rw [Zap (fun q => by rw [a] at q; exact Bool.false_ne_true q.1)]; done) | (rw [Zap (fun q => by have G := q.2; omega)]; done)))).trans (congrArg (fun zq => (Value.tuple #[.agg #[(.slice none 0 0), .int .i64 ((bpE e).1.f), .int .i64 ((bpE e).1.l), (.slice none 0 0), .bool zq], .bool false])) (by first | (rw [Zcw a om D]; done) | (rw [Zap (fun q => by rw [a] at q; exact Bool.false_ne_true q.1)]; done) | (rw [Zap (fun q => by have G := q.2; omega)]; done)))).trans (congrArg (fun zq => (Value.tuple #[.agg #[(.slice none 0 0), .int .i64 ((bpE e).1.f), .int .i64 ((bpE e).1.l), (.slice none 0 0), .bool ((bpE e).1.n)], .bool zq])) (by first | (rw [Zcw a om D]; done) | (rw [Zap (fun q => by rw [a] at q; exact Bool.false_ne_true q.1)]; done) | (rw [Zap (fun q => by have G := q.2; omega)]; done)))), aC, (Lo.nil _), aD, (Lo.nil _), (fun g hm hg => by cases hm), E⟩
 have aX := a
 have a := Qg a
 obtain ⟨j, D, bw, f5, cA⟩ := Zqy a
 refine Zu ?_
 refine Zb (bq _ _ ?_)
 refine Zg fun cB bz => ?_
 refine Zc (Za rfl rfl (Ze rfl) (Zf (Zb (bz _ _ ?_))))
 refine Zg fun cC bA => ?_
 refine Zg fun cD bB => ?_
 refine Zc (Za rfl rfl (Ze rfl) (Zf (Zb (bB _ _ ?_))))
 refine Yf ?_
 have bC := ((az.ch0 C7).ch0 C8).ch C9 (ne1 om)
 have bD := (x.ch0 C8).ch C9 (dS u r om)
 refine Xo (σ := Nat × Int) (fun ⟨k, m⟩ => [(2, (.pointer (some ⟨ak, 0, none⟩))), (3, (.bool false)), (4, (.pointer (some ⟨an, 0, none⟩))), (6, (.int .i64 m)), (7, (.int .i64 ((k : Nat) : Int)))]) (fun ⟨k, m⟩ wx => Ch [] w wx ∧ W9.heap.size ≤ wx.heap.size ∧ (k ≤ (expE e).1.length) ∧ (m = cntL ((expE e).1.take k)) ∧ Blk wx ak 48 [(.slice none 0 0), (.int .i64 0), (.int .i64 0), (.slice none 0 0), (.bool false)] ∧ Blk wx an 44 [(.slice s ((expE e).1).length t)] ∧ Ol Token.cs 84 4 wx (.slice s ((expE e).1).length t) ((expE e).1)) (fun ⟨k, m⟩ => (expE e).1.length - k) (0, 0) (sC4 rfl rfl rfl rfl (sC1 rfl (Sub.nil _))) ⟨E, (Nat.le_refl _), om, (by simp [cntL]), bC, V, bD⟩ ?_
 rintro ⟨k, m⟩ cE ⟨E, bF, cF, hm, H, C, P⟩
 have aY := E
 have be := aY.size
 have aZ := H.lt
 have a0 := C.lt
 have bG := Zue ((expE e).1.take k)
 have bH : ((expE e).1.take k).length ≤ k := List.length_take_le ..
 refine Zg fun cG bf => ?_
 refine Zg fun cH bI => ?_
 refine Zc (Za rfl rfl (Zd rfl) (Za rfl rfl (Zh fa44_0 rfl) (Za rfl rfl (Zp C.at_ agg42 rfl rfl) (Za rfl rfl (Xm (by rw [el42]; rfl) rfl) (Za rfl rfl (Xv rfl rfl) (Zf (Zb (bI _ _ ?_))))))))
 refine Zx rfl (fun M => ?_) (fun M => ?_)
 ·have a1 := M
  have M := Yo M
  refine Zu ?_
  refine Zb (bf _ _ ?_)
  refine Zg fun cI bg => ?_
  refine Yf ?_
  refine Zg fun cJ bJ => ?_
  refine Zc (Za rfl rfl (Zh fa44_0 rfl) (Za rfl rfl (Zp C.at_ agg42 rfl rfl) (Za rfl rfl (Zd rfl) (Zk rfl rfl ?_))))
  refine (Yy P.ls Token.len el42 sz84 rfl rfl rfl om fun bK bL Q a2 => ?_)
  refine Za rfl rfl (Zh fa84_0 rfl) (Za rfl rfl (Zp a2 agg3 rfl rfl) (Za rfl rfl (Xu rfl rfl) (Zf (Zb (bJ _ _ ?_)))))
  refine Zx rfl (fun y => ?_) (fun y => ?_)
  ·have a3 := y
   have y := Yo y
   refine Zc (Za rfl rfl (Zd rfl) (Za rfl rfl (Yq om rfl rfl) (Za rfl rfl (Ze rfl) (Zf (Yc (Zb (bg _ _ (Zc ?_))))))))
   refine Za rfl rfl (Zd rfl) (Za rfl rfl (Yq om rfl rfl) (Za rfl rfl (Ze rfl) (Zf ?_)))
   exact Zb (Exists.intro ((k + 1), (m + 1)) ⟨⟨E, om, om, (by first | (rw [Zsz Q y]; omega) | (rw [Zss Q y]; omega)), H, C, P⟩, sC4 rfl rfl rfl rfl (sC1 rfl (Sub.nil _)), (by first | omega | (dsimp only; omega))⟩)
  have a3 := y
  have y := Yp y
  refine Zu ?_
  refine Yc (Zb (bg _ _ (Zc (Za rfl rfl (Zd rfl) (Za rfl rfl (Yq om rfl rfl) (Za rfl rfl (Ze rfl) (Zf ?_)))))))
  exact Zb (Exists.intro ((k + 1), m) ⟨⟨E, om, om, (by first | (rw [Zsz Q y]; omega) | (rw [Zss Q y]; omega)), H, C, P⟩, sC4 rfl rfl rfl rfl (sC1 rfl (Sub.nil _)), (by first | omega | (dsimp only; omega))⟩)
 have a1 := M
 have M := Yp M
 have cK : cntL ((expE e).1.take k) = cntL (expE e).1 := by rw [List.take_of_length_le om]
 refine Xk (Ya (Ya (Xd ?_)))
 refine Zb (bA _ _ ?_)
 refine Zg fun cL bh => ?_
 refine Zg fun cM bM => ?_
 refine Zc (Za rfl rfl (Zd rfl) (Za rfl rfl (Zec rfl rfl) (Zf (Zb (bM _ _ ?_)))))
 refine Zx rfl (fun O => ?_) (fun O => ?_)
 ·have a4 := O
  have O := Yo O
  refine Zg fun cN bN => ?_
  refine Zc (Za rfl rfl (Yt (parts := []) (cells := [(.slice none 0 0), (.int .i64 0), (.int .i64 0), (.slice none 0 0), (.bool false)]) zr48 pl48 rfl rfl) (Zk rfl rfl ?_))
  refine Zy (off := 0) 5 H sz48 rfl (us := [(.slice none 0 0), (.int .i64 0), (.int .i64 0), (.slice none 0 0), (.bool false)]) rfl rfl rfl rfl fun aE Y bi => ?_
  have bO := bi.size
  have E := E.step bi (lS om)
  replace Y : Blk aE ak 48 [(.slice none 0 0), (.int .i64 0), (.int .i64 0), (.slice none 0 0), (.bool false)] := Y
  refine Za rfl rfl (Ze rfl) (Zf (Zb (bN _ _ ?_)))
  refine Zs (Zm ?_)
  clear bf bh
  have aF : Ol ics 3 1 aE (.slice none 0 0) ((bpE e).1.L) := by
   have hx := Ol.nil (cs := ics) (e := 3) (k := 1) aE
   first | (rw [Zcw a om D]; exact hx) | (rw [Zap (fun q => by rw [a] at q; exact Bool.false_ne_true q.1)]; exact hx) | (rw [Zap (fun q => by have G := q.2; omega)]; exact hx)
  have aG : Ol ics 3 1 aE (.slice none 0 0) ((bpE e).1.F) := by
   have hx := Ol.nil (cs := ics) (e := 3) (k := 1) aE
   first | (rw [Zcw a om D]; exact hx) | (rw [Zap (fun q => by rw [a] at q; exact Bool.false_ne_true q.1)]; exact hx) | (rw [Zap (fun q => by have G := q.2; omega)]; exact hx)
  exact Zi [_, _] (Zz Y rfl agg48 sz48 ⟨rfl, trivial⟩) ⟨(.slice none 0 0), (.slice none 0 0), ((((congrArg (fun zq => (Value.tuple #[.agg #[(.slice none 0 0), .int .i64 zq, .int .i64 0, (.slice none 0 0), .bool false], .bool false])) (by first | (rw [Zcw a om D]; done) | (rw [Zap (fun q => by rw [a] at q; exact Bool.false_ne_true q.1)]; done) | (rw [Zap (fun q => by have G := q.2; omega)]; done))).trans (congrArg (fun zq => (Value.tuple #[.agg #[(.slice none 0 0), .int .i64 ((bpE e).1.f), .int .i64 zq, (.slice none 0 0), .bool false], .bool false])) (by first | (rw [Zcw a om D]; done) | (rw [Zap (fun q => by rw [a] at q; exact Bool.false_ne_true q.1)]; done) | (rw [Zap (fun q => by have G := q.2; omega)]; done)))).trans (congrArg (fun zq => (Value.tuple #[.agg #[(.slice none 0 0), .int .i64 ((bpE e).1.f), .int .i64 ((bpE e).1.l), (.slice none 0 0), .bool zq], .bool false])) (by first | (rw [Zcw a om D]; done) | (rw [Zap (fun q => by rw [a] at q; exact Bool.false_ne_true q.1)]; done) | (rw [Zap (fun q => by have G := q.2; omega)]; done)))).trans (congrArg (fun zq => (Value.tuple #[.agg #[(.slice none 0 0), .int .i64 ((bpE e).1.f), .int .i64 ((bpE e).1.l), (.slice none 0 0), .bool ((bpE e).1.n)], .bool zq])) (by first | (rw [Zcw a om D]; done) | (rw [Zap (fun q => by rw [a] at q; exact Bool.false_ne_true q.1)]; done) | (rw [Zap (fun q => by have G := q.2; omega)]; done)))), aF, (Lo.nil _), aG, (Lo.nil _), (fun g hm hg => by cases hm), E⟩
 have a4 := O
 have O := Yp O
 refine Zu ?_
 refine Zb (bh _ _ ?_)
 refine Zg fun cO bP => ?_
 refine Zc (Za rfl rfl (Yt (parts := []) (cells := [(.slice none 0 0), (.int .i64 0), (.int .i64 0), (.slice none 0 0), (.bool false)]) zr48 pl48 rfl rfl) (Zk rfl rfl ?_))
 refine Yr zr48 fun al bQ aS aH cP => ?_
 have bR := aH.size
 have E := E.trans aH
 have bH := aS.lt
 replace aS : Blk bQ al 48 [(.slice none 0 0), (.int .i64 0), (.int .i64 0), (.slice none 0 0), (.bool false)] := aS
 refine Zk rfl rfl ?_
 refine Zy (off := 0) 5 aS sz48 rfl (us := [(.slice none 0 0), (.int .i64 0), (.int .i64 0), (.slice none 0 0), (.bool false)]) rfl rfl rfl rfl fun aI Z aJ => ?_
 have bS := aJ.size
 have E := E.step aJ (lS om)
 replace Z : Blk aI al 48 [(.slice none 0 0), (.int .i64 0), (.int .i64 0), (.slice none 0 0), (.bool false)] := Z
 refine Zf (Zb (bP _ _ ?_))
 refine Zg fun cQ bT => ?_
 refine Zc (Za rfl rfl (Zh fa44_0 rfl) ?_)
 have bU := (C.ch0 aH).ch aJ (ne1 om)
 refine Za rfl rfl (Zp bU.at_ agg42 rfl rfl) (Zk rfl rfl ?_)
 have bV := (P.ch0 aH).ch aJ (dS u r om)
 refine Step.call (Zl (xs := [.tmp 8, .tmp 39]) fk67 rfl) (Zii Z om (Ol.nil (cs := ics) (e := 3) (k := 1) aI) (fun hm => by cases hm) (Lo.nil _) (Ol.nil (cs := ics) (e := 3) (k := 1) aI) (fun hm => by cases hm) (Lo.nil _) (fun g hm hg => by cases hm) (Ol.lsB bV r) j bw f5 om ⟨by simp <;> omega, by simp <;> omega⟩ (L_p := al)) fun bW bX a5 => ?_
 obtain ⟨a6, a7, rfl, am, R, z, o, S, A, p, B, a8⟩ := a5
 have bY := a8.size
 have E := E.step a8 (fun i hm => .inl (by rcases List.mem_cons.1 hm with I | hm; (omega); (rcases List.mem_append.1 hm with hm | hm; (cases hm); (cases hm))))
 obtain ⟨b, c, rfl, a9, ai⟩ := R.opn
 have J : Lo aI.heap.size (.slice b ((bpT j [] []).L).length c) := Zed z o om (all2 (fun g hm => by cases hm) (fun g hm => by cases hm))
 obtain ⟨d, h, rfl, ba, aj⟩ := S.opn
 have K : Lo aI.heap.size (.slice d ((bpT j [] []).F).length h) := Zed A p om (all2 (fun g hm => by cases hm) (fun g hm => by cases hm))
 have aa := Qx z o (show ak < _ by omega) (nin2 (fun hm => by cases hm) (fun hm => by cases hm))
 have aK := Qx z o (show an < _ by omega) (nin2 (fun hm => by cases hm) (fun hm => by cases hm))
 have ab := Qx A p (show ak < _ by omega) (nin2 (fun hm => by cases hm) (fun hm => by cases hm))
 have aL := Qx A p (show an < _ by omega) (nin2 (fun hm => by cases hm) (fun hm => by cases hm))
 replace am : Blk bX al 48 [(.slice b ((bpT j [] []).L).length c), (.int .i64 0), (.int .i64 0), (.slice d ((bpT j [] []).F).length h), (.bool false)] := am
 refine Zk rfl rfl ?_
 refine Yr zr91 fun bj bZ aT ao cR => ?_
 have b0 := ao.size
 have E := E.trans ao
 have bG := aT.lt
 replace aT : Blk bZ bj 91 [(.bool false), (.int .i64 0), (.int .i64 0)] := aT
 refine Zk rfl rfl ?_
 refine Zy (off := 0) 3 aT sz91 rfl (us := [(.bool ((bpT j [] []).n)), (.int .i64 ((bpT j [] []).f)), (.int .i64 ((bpT j [] []).l))]) rfl rfl rfl rfl fun b1 T ap => ?_
 have b2 := ap.size
 have E := E.step ap (lS om)
 replace T : Blk b1 bj 91 [(.bool ((bpT j [] []).n)), (.int .i64 ((bpT j [] []).f)), (.int .i64 ((bpT j [] []).l))] := T
 refine Zf (Zb (bT _ _ ?_))
 refine Zg fun cS b3 => ?_
 refine Zc (Za rfl rfl (Zh fa91_1 rfl) (Za rfl rfl (Zp T.at_ agg3 rfl rfl) (Za rfl rfl (Zh fa48_1 rfl) (Zk rfl rfl ?_))))
 have b4 := (am.ch0 ao).ch ap (ne1 om)
 refine Xh (off := 1) b4 sz3 rfl rfl rfl rfl fun b5 ac aq => ?_
 have b6 := aq.size
 have E := E.step aq (lS om)
 replace ac : Blk b5 al 48 [(.slice b ((bpT j [] []).L).length c), (.int .i64 ((bpT j [] []).f)), (.int .i64 0), (.slice d ((bpT j [] []).F).length h), (.bool false)] := ac
 refine Zf (Zb (b3 _ _ ?_))
 refine Zg fun cT b7 => ?_
 refine Zc (Za rfl rfl (Zh fa91_2 rfl) ?_)
 have bk := T.ch aq (ne1 om)
 refine Za rfl rfl (Zp bk.at_ agg3 rfl rfl) (Za rfl rfl (Zh fa48_2 rfl) (Zk rfl rfl ?_))
 refine Xh (off := 2) ac sz3 rfl rfl rfl rfl fun b8 ad au => ?_
 have b9 := au.size
 have E := E.step au (lS om)
 replace ad : Blk b8 al 48 [(.slice b ((bpT j [] []).L).length c), (.int .i64 ((bpT j [] []).f)), (.int .i64 ((bpT j [] []).l)), (.slice d ((bpT j [] []).F).length h), (.bool false)] := ad
 refine Zf (Zb (b7 _ _ ?_))
 refine Zg fun cU ca => ?_
 refine Zc (Za rfl rfl (Zh fa91_0 rfl) ?_)
 have cb := bk.ch au (ne1 om)
 refine Za rfl rfl (Zp cb.at_ agg4 rfl rfl) (Za rfl rfl (Zh fa48_4 rfl) (Zk rfl rfl ?_))
 refine Xh (off := 4) ad sz4 rfl rfl rfl rfl fun cc ae aM => ?_
 have cd := aM.size
 have E := E.step aM (lS om)
 replace ae : Blk cc al 48 [(.slice b ((bpT j [] []).L).length c), (.int .i64 ((bpT j [] []).f)), (.int .i64 ((bpT j [] []).l)), (.slice d ((bpT j [] []).F).length h), (.bool ((bpT j [] []).n))] := ae
 refine Zf (Zb (ca _ _ ?_))
 refine Zg fun cV ce => ?_
 refine Zc (Za rfl rfl (Zt ae.at_ agg48 sz48 rfl) (Zk rfl rfl ?_))
 have cf := (((((((H.ch0 aH).ch aJ (ne1 om)).ch a8 (fun hm => by rcases List.mem_cons.1 hm with I | hm; (omega); (rcases List.mem_append.1 hm with hm | hm; (cases hm); (cases hm)))).ch0 ao).ch ap (ne1 om)).ch aq (ne1 om)).ch au (ne1 om)).ch aM (ne1 om)
 refine Zy (off := 0) 5 cf sz48 rfl (us := [(.slice b ((bpT j [] []).L).length c), (.int .i64 ((bpT j [] []).f)), (.int .i64 ((bpT j [] []).l)), (.slice d ((bpT j [] []).F).length h), (.bool ((bpT j [] []).n))]) rfl rfl rfl rfl fun bb af aU => ?_
 have cg := aU.size
 have E := E.step aU (lS om)
 replace af : Blk bb ak 48 [(.slice b ((bpT j [] []).L).length c), (.int .i64 ((bpT j [] []).f)), (.int .i64 ((bpT j [] []).l)), (.slice d ((bpT j [] []).F).length h), (.bool ((bpT j [] []).n))] := af
 refine Za rfl rfl (Ze rfl) (Zf (Zb (ce _ _ ?_)))
 refine Zs ?_
 have ci := (((((R.ch0 ao).ch ap (dS J ai om)).ch aq (fun g hg hm => by have I := mSg.1 hm; exact o (by first | exact hg | exact I ▸ hg))).ch au (fun g hg hm => by have I := mSg.1 hm; exact o (by first | exact hg | exact I ▸ hg))).ch aM (fun g hg hm => by have I := mSg.1 hm; exact o (by first | exact hg | exact I ▸ hg))).ch aU (fun g hg hm => by have I := mSg.1 hm; exact aa (by first | exact hg | exact I ▸ hg))
 have aN : Ol ics 3 1 bb (.slice b ((bpT j [] []).L).length c) ((bpE e).1.L) := by
  have hx := ci
  first | (rw [Zcw a om D]; exact hx) | (rw [Zap (fun q => by rw [a] at q; exact Bool.false_ne_true q.1)]; exact hx) | (rw [Zap (fun q => by have G := q.2; omega)]; exact hx)
 have cj := (((((S.ch0 ao).ch ap (dS K aj om)).ch aq (fun g hg hm => by have I := mSg.1 hm; exact p (by first | exact hg | exact I ▸ hg))).ch au (fun g hg hm => by have I := mSg.1 hm; exact p (by first | exact hg | exact I ▸ hg))).ch aM (fun g hg hm => by have I := mSg.1 hm; exact p (by first | exact hg | exact I ▸ hg))).ch aU (fun g hg hm => by have I := mSg.1 hm; exact ab (by first | exact hg | exact I ▸ hg))
 have aO : Ol ics 3 1 bb (.slice d ((bpT j [] []).F).length h) ((bpE e).1.F) := by
  have hx := cj
  first | (rw [Zcw a om D]; exact hx) | (rw [Zap (fun q => by rw [a] at q; exact Bool.false_ne_true q.1)]; exact hx) | (rw [Zap (fun q => by have G := q.2; omega)]; exact hx)
 exact Zi [_, _] (Zz af rfl agg48 sz48 ⟨rfl, trivial⟩) ⟨(.slice b ((bpT j [] []).L).length c), (.slice d ((bpT j [] []).F).length h), ((((congrArg (fun zq => (Value.tuple #[.agg #[(.slice b ((bpT j [] []).L).length c), .int .i64 zq, .int .i64 ((bpT j [] []).l), (.slice d ((bpT j [] []).F).length h), .bool ((bpT j [] []).n)], .bool true])) (by first | (rw [Zcw a om D]; done) | (rw [Zap (fun q => by rw [a] at q; exact Bool.false_ne_true q.1)]; done) | (rw [Zap (fun q => by have G := q.2; omega)]; done))).trans (congrArg (fun zq => (Value.tuple #[.agg #[(.slice b ((bpT j [] []).L).length c), .int .i64 ((bpE e).1.f), .int .i64 zq, (.slice d ((bpT j [] []).F).length h), .bool ((bpT j [] []).n)], .bool true])) (by first | (rw [Zcw a om D]; done) | (rw [Zap (fun q => by rw [a] at q; exact Bool.false_ne_true q.1)]; done) | (rw [Zap (fun q => by have G := q.2; omega)]; done)))).trans (congrArg (fun zq => (Value.tuple #[.agg #[(.slice b ((bpT j [] []).L).length c), .int .i64 ((bpE e).1.f), .int .i64 ((bpE e).1.l), (.slice d ((bpT j [] []).F).length h), .bool zq], .bool true])) (by first | (rw [Zcw a om D]; done) | (rw [Zap (fun q => by rw [a] at q; exact Bool.false_ne_true q.1)]; done) | (rw [Zap (fun q => by have G := q.2; omega)]; done)))).trans (congrArg (fun zq => (Value.tuple #[.agg #[(.slice b ((bpT j [] []).L).length c), .int .i64 ((bpE e).1.f), .int .i64 ((bpE e).1.l), (.slice d ((bpT j [] []).F).length h), .bool ((bpE e).1.n)], .bool zq])) (by first | (rw [Zcw a om D]; done) | (rw [Zap (fun q => by rw [a] at q; exact Bool.false_ne_true q.1)]; done) | (rw [Zap (fun q => by have G := q.2; omega)]; done)))), aN, (Lo.down J om), aO, (Lo.down K om), B, E⟩

/-- spec.l1Byte -/
theorem Zbe {w : World} {b_c : Nat} (n : Cu w b_c) :
 Ctr Try.prog 86 #[(.pointer (some ⟨b_c, 0, none⟩))] w (fun v w' => ∃ (o : Int) , v = .int .i64 o ∧ (0 ≤ o ∧ o ≤ 255) ∧ Cu w' b_c ∧ Ch [b_c] w w') := by
 obtain ⟨y, x_c, t_c, i_c, k_c, m_c, c, z, A⟩ := n
 obtain ⟨e, f, g⟩ := c.val
 subst g
 have B := c.len
 have t := m_c.lt
 have E := Ch.refl [b_c] w
 refine Yh (N := 58) (vs0 := [(.pointer (some ⟨b_c, 0, none⟩))]) Try.func86 rfl rfl rfl ?_
 refine Zg fun K1 H1 => ?_
 refine Zc (Za rfl rfl (Ze rfl) (Zf (Zb (H1 _ _ ?_))))
 refine Zg fun K2 H2 => ?_
 refine Zc (Za rfl rfl (Zd rfl) (Za rfl rfl (Zd rfl) (Za rfl rfl (Qc rfl) (Za rfl rfl (Zh fa101_2 rfl) (Za rfl rfl (Zp m_c.at_ agg3 rfl rfl) (Za rfl rfl (Zqb rfl rfl) (Za rfl rfl (Zjs rfl rfl) ?_)))))))
 refine Za rfl rfl (Qc rfl) (Za rfl rfl (Zh fa101_2 rfl) (Zk rfl rfl ?_))
 refine Xh (off := 2) m_c sz3 rfl rfl rfl rfl fun W3 d C3 => ?_
 have O := C3.size
 have E := E.trans C3
 replace d : Blk W3 b_c t_c [(.slice e x_c.length f), (.int .i64 i_c), (.int .i64 (w64 ((w64 (k_c * 6364136223846793005)) + 1442695040888963407)))] := d
 refine Zf (Zb (H2 _ _ ?_))
 refine Zg fun K5 H5 => ?_
 refine Yx [] 13 mixed rfl fun W6 C6 => ?_
 have P := C6.size
 have E := E.trans C6.of_nil
 refine dV 0 rfl rfl rfl (fun _ => Zd rfl) (dV 1 rfl rfl rfl (fun _ => Qc rfl) (dV 2 rfl rfl rfl (fun _ => Zh fa101_2 rfl) ?_))
 have F7 := d.ch0 C6
 refine dT 3 rfl rfl rfl (Xj F7.at_ (fun i hi => absurd hi List.not_mem_nil) agg3 rfl rfl ?_)
 refine dV 4 rfl rfl rfl (fun _ => Zjk om rfl rfl) (dV 5 rfl rfl rfl (fun _ => Zd rfl) (dV 6 rfl rfl rfl (fun _ => Qc rfl) (dV 7 rfl rfl rfl (fun _ => Zh fa101_2 rfl) ?_)))
 refine dT 8 rfl rfl rfl (Xj F7.at_ (fun i hi => absurd hi List.not_mem_nil) agg3 rfl rfl ?_)
 refine dV 9 rfl rfl rfl (fun _ => Zjk om rfl rfl) (dV 10 rfl rfl rfl (fun _ => Zwp rfl rfl) (dV 11 rfl rfl rfl (fun _ => Zgu rfl rfl) (dV 12 rfl rfl rfl (fun _ => Ze rfl) ?_)))
 refine Yb (by kernel_rfl) ?_
 refine Zb (H5 _ _ ?_)
 refine Zg fun K8 H8 => ?_
 refine Zg fun K9 H9 => ?_
 refine Yx [] 10 mixed rfl fun Q h => ?_
 have C := h.size
 have E := E.trans h.of_nil
 refine dV 0 rfl rfl rfl (fun _ => Zd rfl) (dV 1 rfl rfl rfl (fun _ => Qc rfl) (dV 2 rfl rfl rfl (fun _ => Zh fa101_1 rfl) ?_))
 have k := F7.ch0 h
 refine dT 3 rfl rfl rfl (Xj k.at_ (fun i hi => absurd hi List.not_mem_nil) agg3 rfl rfl ?_)
 refine dV 4 rfl rfl rfl (fun _ => Zd rfl) (dV 5 rfl rfl rfl (fun _ => Qc rfl) (dV 6 rfl rfl rfl (fun _ => Zh fa101_0 rfl) ?_))
 refine dT 7 rfl rfl rfl (Xj k.at_ (fun i hi => absurd hi List.not_mem_nil) agg22 rfl rfl ?_)
 refine dV 8 rfl rfl rfl (fun _ => Xm (by rw [el22]; rfl) rfl) (dV 9 rfl rfl rfl (fun _ => Xv rfl rfl) ?_)
 refine Yb (by kernel_rfl) ?_
 refine Zb (H9 _ _ ?_)
 refine Zx rfl (fun a => ?_) (fun a => ?_)
 ·have p := a
  have a := Yo a
  refine Zg fun R D => ?_
  refine Yx [] 15 mixed rfl fun S l => ?_
  have F := l.size
  have E := E.trans l.of_nil
  refine dV 0 rfl rfl rfl (fun _ => Zd rfl) (dV 1 rfl rfl rfl (fun _ => Zd rfl) (dV 2 rfl rfl rfl (fun _ => Qc rfl) (dV 3 rfl rfl rfl (fun _ => Zh fa101_0 rfl) ?_)))
  have m := k.ch0 l
  refine dT 4 rfl rfl rfl (Xj m.at_ (fun i hi => absurd hi List.not_mem_nil) agg22 rfl rfl ?_)
  refine dV 5 rfl rfl rfl (fun _ => Zd rfl) (dV 6 rfl rfl rfl (fun _ => Qc rfl) (dV 7 rfl rfl rfl (fun _ => Zh fa101_1 rfl) ?_))
  refine dT 8 rfl rfl rfl (Xj m.at_ (fun i hi => absurd hi List.not_mem_nil) agg3 rfl rfl ?_)
  have u := (((c.ch C3 (oS om)).ch0 C6).ch0 h).ch0 l
  refine dT 9 rfl rfl rfl (Ql (j := i_c.toNat) u Zhq el22 sz5 rfl rfl om om fun G q x r => ?_)
  refine dT 10 rfl rfl rfl (Qo r (fun i hi => absurd hi List.not_mem_nil) agg5 rfl rfl ?_)
  refine dV 11 rfl rfl rfl (fun _ => Zdu (by rw [un5]; rfl) un3 rfl) (dV 12 rfl rfl rfl (fun _ => Zjs rfl rfl) (dV 13 rfl rfl rfl (fun _ => Zgu rfl rfl) (dV 14 rfl rfl rfl (fun _ => Ze rfl) ?_)))
  refine Yb (by kernel_rfl) ?_
  refine Zb (D _ _ (Zc (Za rfl rfl (Zd rfl) (Za rfl rfl (Zd rfl) (Za rfl rfl (Qc rfl) (Za rfl rfl (Zh fa101_1 rfl) (Za rfl rfl (Zp m.at_ agg3 rfl rfl) (Za rfl rfl (Yq om rfl rfl) ?_))))))))
  refine Za rfl rfl (Qc rfl) (Za rfl rfl (Zh fa101_1 rfl) (Zk rfl rfl ?_))
  refine Xh (off := 1) m sz3 rfl rfl rfl rfl fun H b s => ?_
  have I := s.size
  have E := E.trans s
  replace b : Blk H b_c t_c [(.slice e x_c.length f), (.int .i64 (i_c + 1)), (.int .i64 (w64 ((w64 (k_c * 6364136223846793005)) + 1442695040888963407)))] := b
  refine Zf (Zb (H8 _ _ ?_))
  refine Zg fun T J => ?_
  refine Zc (Za rfl rfl (Zd rfl) (Za rfl rfl (Ze rfl) (Zf (Zb (J _ _ ?_)))))
  refine Zs ?_
  have K := u.ch s (oS om)
  exact Zi [_] ⟨rfl, trivial⟩ ⟨(iand (w64 ((iand (ixor (ishr (w64 ((w64 (k_c * 6364136223846793005)) + 1442695040888963407)) 33) (ishr (w64 ((w64 (k_c * 6364136223846793005)) + 1442695040888963407)) 45)) 255) + (w64 q))) 255), (congrArg (fun zq => (Value.int .i64 zq)) (by first | rfl | simp_all)), (Zpd _), ⟨_, _, _, _, _, b, K, om, om⟩, E⟩
 have p := a
 have a := Yp a
 refine Zu ?_
 refine Zb (H8 _ _ ?_)
 refine Zg fun U L => ?_
 refine Zc (Za rfl rfl (Zd rfl) (Za rfl rfl (Ze rfl) (Zf (Zb (L _ _ ?_)))))
 refine Zs ?_
 have M := ((c.ch C3 (oS om)).ch0 C6).ch0 h
 exact Zi [_] ⟨rfl, trivial⟩ ⟨(iand (ixor (ishr (w64 ((w64 (k_c * 6364136223846793005)) + 1442695040888963407)) 33) (ishr (w64 ((w64 (k_c * 6364136223846793005)) + 1442695040888963407)) 45)) 255), (congrArg (fun zq => (Value.int .i64 zq)) (by first | rfl | simp_all)), (Zpd _), ⟨_, _, _, _, _, k, M, om, om⟩, E⟩

/-- spec.l1Below -/
theorem Qn {w : World} {b_c : Nat} (c : Cu w b_c) (n : Int) (hn : 0 < n) :
 Ctr Try.prog 42 #[(.pointer (some ⟨b_c, 0, none⟩)), (.int .i64 n)] w (fun v w' => ∃ (i : Int) , v = .int .i64 i ∧ (0 ≤ i ∧ i < n) ∧ Cu w' b_c ∧ Ch [b_c] w w') := by
 have B := c.lt
 have E := Ch.refl [b_c] w
 refine Yh (N := 37) (vs0 := [(.pointer (some ⟨b_c, 0, none⟩)), (.int .i64 n)]) Try.func42 rfl rfl rfl ?_
 refine Zg fun K1 H1 => ?_
 refine Zc (Za rfl rfl (Ze rfl) (Zf (Zb (H1 _ _ ?_))))
 refine Zg fun K2 H2 => ?_
 refine Zg fun K3 H3 => ?_
 refine Zc (Za rfl rfl (Zd rfl) (Za rfl rfl (Zfo rfl rfl) (Zf (Zb (H3 _ _ ?_)))))
 refine Zx rfl (fun a => ?_) (fun a => ?_)
 ·have I := a
  have a := Yo a
  refine Zg fun K5 H5 => ?_
  refine Zc (Za rfl rfl (Ze rfl) (Zf (Zb (H5 _ _ ?_))))
  refine Zs (Zm ?_)
  exact Zi [_] ⟨rfl, trivial⟩ ⟨0, (congrArg (fun zq => (Value.int .i64 zq)) (by first | rfl | simp_all)), (by first | exact Zkb om om | omega), c, E⟩
 have I := a
 have a := Yp a
 refine Zu ?_
 refine Zb (H2 _ _ ?_)
 refine Zg fun K6 H6 => ?_
 refine Zg fun K7 H7 => ?_
 refine Zc (Za rfl rfl (Zd rfl) (Za rfl rfl (Zfo rfl rfl) (Zf (Zb (H7 _ _ ?_)))))
 refine Zx rfl (fun b => ?_) (fun b => ?_)
 ·have J := b
  have b := Yo b
  refine Zg fun K9 H9 => ?_
  refine Zc (Za rfl rfl (Zd rfl) (Zk rfl rfl ?_))
  refine Step.call (Zl (xs := [.tmp 13]) fk86 rfl) (Zbe c ) fun K ab j => ?_
  obtain ⟨d, rfl, k, l, C⟩ := j
  have L := C.size
  have E := E.trans C
  refine Za rfl rfl (Zd rfl) (Za rfl rfl (Zto om rfl rfl) (Za rfl rfl (Ze rfl) (Zf (Zb (H9 _ _ ?_)))))
  refine Zs (Zm ?_)
  exact Zi [_] ⟨rfl, trivial⟩ ⟨(d.tmod n), (congrArg (fun zq => (Value.int .i64 zq)) (by first | rfl | simp_all)), (by first | exact Zkb om om | omega), l, E⟩
 have J := b
 have b := Yp b
 refine Zu ?_
 refine Zb (H6 _ _ ?_)
 refine Zg fun ac M => ?_
 refine Zc (Za rfl rfl (Zd rfl) (Zk rfl rfl ?_))
 refine Step.call (Zl (xs := [.tmp 17]) fk86 rfl) (Zbe c ) fun O ad m => ?_
 obtain ⟨e, rfl, o, p, D⟩ := m
 have P := D.size
 have E := E.trans D
 refine Za rfl rfl (Ze rfl) (Zf (Zb (M _ _ ?_)))
 refine Zg fun ae Q => ?_
 refine Zc (Za rfl rfl (Zd rfl) (Zk rfl rfl ?_))
 refine Step.call (Zl (xs := [.tmp 19]) fk86 rfl) (Zbe p ) fun R af q => ?_
 obtain ⟨f, rfl, r, s, F⟩ := q
 have S := F.size
 have E := E.trans F
 refine Za rfl rfl (Ze rfl) (Zf (Zb (Q _ _ ?_)))
 refine Zg fun ag T => ?_
 refine Zc (Za rfl rfl (Zd rfl) (Zk rfl rfl ?_))
 refine Step.call (Zl (xs := [.tmp 21]) fk86 rfl) (Zbe s ) fun U ah t => ?_
 obtain ⟨g, rfl, u, x, G⟩ := t
 have V := G.size
 have E := E.trans G
 refine Za rfl rfl (Ze rfl) (Zf (Zb (T _ _ ?_)))
 refine Zg fun ai X => ?_
 refine Zc (Za rfl rfl (Zd rfl) (Zk rfl rfl ?_))
 refine Step.call (Zl (xs := [.tmp 23]) fk86 rfl) (Zbe x ) fun Y aj y => ?_
 obtain ⟨h, rfl, z, A, H⟩ := y
 have Z := H.size
 have E := E.trans H
 refine Za rfl rfl (Ze rfl) (Zf (Zb (X _ _ ?_)))
 refine Zg fun ak aa => ?_
 refine Zc (Za rfl rfl (Zd rfl) (Za rfl rfl (Zrg om rfl rfl) (Za rfl rfl (Zd rfl) (Za rfl rfl (Zrg om rfl rfl) (Za rfl rfl (Yq om rfl rfl) (Za rfl rfl (Zd rfl) (Za rfl rfl (Zrg om rfl rfl) ?_)))))))
 refine Za rfl rfl (Yq om rfl rfl) (Za rfl rfl (Zd rfl) (Za rfl rfl (Yq om rfl rfl) (Za rfl rfl (Zd rfl) (Za rfl rfl (Zto om rfl rfl) (Za rfl rfl (Ze rfl) (Zf (Zb (aa _ _ ?_))))))))
 refine Zs ?_
 exact Zi [_] ⟨rfl, trivial⟩ ⟨(((((e * 16777216) + (f * 65536)) + (g * 256)) + h).tmod n), (congrArg (fun zq => (Value.int .i64 zq)) (by first | rfl | simp_all)), (by first | exact Zkb om om | omega), A, E⟩

/-- spec.l1Once -/
theorem Zan {w : World} {b_c : Nat} (a : Cu w b_c) (n : Int) (hn : 0 < n) :
 Ctr Try.prog 96 #[(.pointer (some ⟨b_c, 0, none⟩)), (.int .i64 n)] w (fun v w' => ∃ (e : Bool) , v = .bool e ∧ Cu w' b_c ∧ Ch [b_c] w w') := by
 have c := a.lt
 have E := Ch.refl [b_c] w
 refine Yh (N := 9) (vs0 := [(.pointer (some ⟨b_c, 0, none⟩)), (.int .i64 n)]) Try.func96 rfl rfl rfl ?_
 refine Zg fun K1 H1 => ?_
 refine Zc (Za rfl rfl (Ze rfl) (Zf (Zb (H1 _ _ ?_))))
 refine Zg fun K2 H2 => ?_
 refine Zc (Za rfl rfl (Zd rfl) (Za rfl rfl (Zd rfl) (Zk rfl rfl ?_)))
 refine Step.call (Zl (xs := [.tmp 5, .tmp 6]) fk42 rfl) (Qn a _ om) fun h W3 f => ?_
 obtain ⟨b, rfl, d, g, C3⟩ := f
 have i := C3.size
 have E := E.trans C3
 refine Za rfl rfl (Xu rfl rfl) (Za rfl rfl (Ze rfl) (Zf (Zb (H2 _ _ ?_))))
 refine Zs ?_
 exact Zi [_] ⟨rfl, trivial⟩ ⟨(decide (b = 0)), (congrArg (fun zq => (Value.bool zq)) (by first | rfl | simp_all)), g, E⟩

/-- spec.l11Random -/
theorem Zdh {w : World} {b_c : Nat} (cr : Cu w b_c) :
 Ctr Try.prog 119 #[(.pointer (some ⟨b_c, 0, none⟩))] w (fun v w' => ∃ (ct : Int) (bC : List Bool) (ax : List (List Int)) (ay : Value) (az : Value) (ag : List Sv), v = .agg #[.int .i64 ct, ay, az] ∧ Ol bcs 4 1 w' ay (bC) ∧ Lo w.heap.size ay ∧ Ol Sv.cs 30 1 w' az ag ∧ Lo w.heap.size az ∧ Od ics 3 1 w' w.heap.size w'.heap.size ag (ax) ∧ Sep az ag ∧ (∀ g ∈ bl ay, g ∉ bl az) ∧ Sep ay ag ∧ (1 ≤ ax.length ∧ ax.length ≤ 12 ∧ bC.length = ax.length) ∧ (∀ r ∈ ax, r.length = 9) ∧ Cu w' b_c ∧ Ch [b_c] w w') := by
 have dR := cr.lt
 have E := Ch.refl [b_c] w
 refine Yh (N := 52) (vs0 := [(.pointer (some ⟨b_c, 0, none⟩))]) Try.func119 rfl rfl rfl ?_
 refine Zg fun K1 H1 => ?_
 refine Zc (Zk rfl rfl ?_)
 refine Yr zr27 fun cq W2 cN C2 fM => ?_
 have fN := C2.size
 have E := E.trans C2.of_nil
 have fO := cN.lt
 replace cN : Blk W2 cq 27 [(.int .i64 0), (.slice none 0 0), (.slice none 0 0)] := cN
 refine Zf (Zb (H1 _ _ ?_))
 refine Zg fun K3 H3 => ?_
 refine Zc (Za rfl rfl (Zd rfl) (Zk rfl rfl ?_))
 have F4 := cr.ch0 C2
 refine Step.call (Zl (xs := [.tmp 9, .const (Go.Value.int Go.IntKind.i64 4)]) fk42 rfl) (Qn F4 _ om) fun eo W5 cQ => ?_
 obtain ⟨aA, rfl, cR, cS, C5⟩ := cQ
 have fP := C5.size
 have E := E.trans C5
 refine Za rfl rfl (Yq om rfl rfl) (Za rfl rfl (Ze rfl) (Zf (Zb (H3 _ _ ?_))))
 refine Zg fun K6 H6 => ?_
 refine Zc (Za rfl rfl (Zd rfl) (Za rfl rfl (Zd rfl) (Zk rfl rfl ?_)))
 refine Step.call (Zl (xs := [.tmp 12, .tmp 13]) fk42 rfl) (Qn cS _ om) fun ep W7 cT => ?_
 obtain ⟨y, rfl, cU, cV, C7⟩ := cT
 have fQ := C7.size
 have E := E.trans C7
 refine Za rfl rfl (Yt (parts := [(0, .tmp 14)]) (cells := [(.int .i64 y), (.slice none 0 0), (.slice none 0 0)]) zr27 pl27 rfl rfl) (Zk rfl rfl ?_)
 refine Yr zr27 fun Q W8 cO C8 fR => ?_
 have fS := C8.size
 have E := E.trans C8.of_nil
 have fT := cO.lt
 replace cO : Blk W8 Q 27 [(.int .i64 0), (.slice none 0 0), (.slice none 0 0)] := cO
 refine Zk rfl rfl ?_
 refine Zy (off := 0) 3 cO sz27 rfl (us := [(.int .i64 y), (.slice none 0 0), (.slice none 0 0)]) rfl rfl rfl rfl fun W9 a2 C9 => ?_
 have fU := C9.size
 have E := E.step C9 (lS om)
 replace a2 : Blk W9 Q 27 [(.int .i64 y), (.slice none 0 0), (.slice none 0 0)] := a2
 refine Zf (Zb (H6 _ _ ?_))
 refine Zg fun fV er => ?_
 refine Zg fun fW es => ?_
 refine Zc (Za rfl rfl (Ze rfl) (Zf (Zb (es _ _ ?_))))
 refine Yf ?_
 have b0 : Ol bcs 4 1 W9 (.slice none 0 0) (([] : List Bool)) := by
  have hx := Ol.nil (cs := bcs) (e := 4) (k := 1) W9
  exact hx
 have b1 : Ol Sv.cs 30 1 W9 (.slice none 0 0) (([] : List Sv)) := by
  have hx := Ol.nil (cs := Sv.cs) (e := 30) (k := 1) W9
  exact hx
 have et := (cV.ch0 C8).ch C9 (oS om)
 have eu := (((cN.ch C5 (nS om)).ch C7 (nS om)).ch0 C8).ch C9 (nS om)
 refine Xo (σ := Nat × List Bool × List Sv × List (List Int) × Value × Value) (fun ⟨s, ab, vs, rs, av, nv⟩ => [(0, (.pointer (some ⟨b_c, 0, none⟩))), (2, (.pointer (some ⟨cq, 0, none⟩))), (3, (.int .i64 (1 + aA))), (4, (.pointer (some ⟨Q, 0, none⟩))), (5, (.int .i64 ((s : Nat) : Int)))]) (fun ⟨s, ab, vs, rs, av, nv⟩ wx => Ch [b_c] w wx ∧ W9.heap.size ≤ wx.heap.size ∧ ((s : Int) ≤ 1 + aA) ∧ (ab.length = s ∧ rs.length = s ∧ vs.length = s) ∧ (∀ r ∈ rs, r.length = 9) ∧ Cu wx b_c ∧ Blk wx cq 27 [(.int .i64 0), (.slice none 0 0), (.slice none 0 0)] ∧ Ol bcs 4 1 wx av ab ∧ Lo W9.heap.size av ∧ Ol Sv.cs 30 1 wx nv vs ∧ Lo W9.heap.size nv ∧ Od ics 3 1 wx W9.heap.size wx.heap.size vs rs ∧ Blk wx Q 27 [(.int .i64 y), av, nv] ∧ (Q ∉ bl av) ∧ (∀ g ∈ bl nv, g ∉ bl av) ∧ (Q ∉ bl nv) ∧ (Sep av vs) ∧ (Sep nv vs)) (fun ⟨s, ab, vs, rs, av, nv⟩ => (1 + aA).toNat - s) (0, ([] : List Bool), ([] : List Sv), ([] : List (List Int)), (.slice none 0 0), (.slice none 0 0)) (sC4 rfl rfl rfl rfl (sC1 rfl (Sub.nil _))) ⟨E, (Nat.le_refl _), om, ⟨rfl, rfl, rfl⟩, (fun r h => by cases h), et, eu, b0, (Lo.nil _), b1, (Lo.nil _), Od.nil, a2, (fun hm => by cases hm), (fun g hm hg => by cases hm), (fun hm => by cases hm), (fun u hu => by cases hu), (fun u hu => by cases hu)⟩ ?_
 rintro ⟨s, ab, vs, rs, av, nv⟩ dU ⟨E, ew, hs, hl, hr, bD, a3, aO, c, aP, b, od, bF, l, f, m, C, D⟩
 have cW := E
 have dW := cW.size
 have cX := a3.lt
 obtain ⟨Aav, Cav, rfl, lav, hiav⟩ := aO.opn
 obtain ⟨Anv, Cnv, rfl, lnv, hinv⟩ := aP.opn
 refine Zg fun fX ex => ?_
 refine Zg fun fY ey => ?_
 refine Zc (Za rfl rfl (Zd rfl) (Za rfl rfl (Zd rfl) (Za rfl rfl (Xv rfl rfl) (Zf (Zb (ey _ _ ?_))))))
 refine Zx rfl (fun aQ => ?_) (fun aQ => ?_)
 ·have cY := aQ
  have aQ := Yo aQ
  refine Zu ?_
  refine Zb (ex _ _ ?_)
  refine Zg fun fZ cZ => ?_
  refine Yf ?_
  refine Zg fun f0 ez => ?_
  refine Zc (Zk rfl rfl ?_)
  refine Xt (k := 1) ics el30 sz3 fun eA dX cu cv bG => ?_
  have eB := bG.size
  have E := E.trans bG.of_nil
  obtain ⟨bH, bI, rfl, dY, c0⟩ := cu.opn
  refine Za rfl rfl (Ze rfl) (Zf (Zb (ez _ _ ?_)))
  refine Zg fun f1 eC => ?_
  refine Zg fun f2 eD => ?_
  refine Zc (Za rfl rfl (Ze rfl) (Zf (Zb (eD _ _ ?_))))
  refine Yf ?_
  have b2 : Ol ics 3 1 dX (.slice bH (([] : List Int)).length bI) (([] : List Int)) := by
   have hx := cu
   exact hx
  have eE := bD.ch0 bG
  have eF := a3.ch0 bG
  have eG := bF.ch0 bG
  have eH := aO.ch0 bG
  have eI := aP.ch0 bG
  have eJ := od.ch0 bG
  refine Xo (σ := Nat × List Int × Value) (fun ⟨k, row, rv⟩ => [(0, (.pointer (some ⟨b_c, 0, none⟩))), (2, (.pointer (some ⟨cq, 0, none⟩))), (3, (.int .i64 (1 + aA))), (4, (.pointer (some ⟨Q, 0, none⟩))), (5, (.int .i64 ((s : Nat) : Int))), (6, rv), (7, (.int .i64 ((k : Nat) : Int))), (18, (.bool (decide (((s : Nat) : Int) < (1 + aA)))))]) (fun ⟨k, row, rv⟩ wx => Ch [b_c] w wx ∧ dX.heap.size ≤ wx.heap.size ∧ (k ≤ 9 ∧ row.length = k) ∧ Cu wx b_c ∧ Blk wx cq 27 [(.int .i64 0), (.slice none 0 0), (.slice none 0 0)] ∧ Blk wx Q 27 [(.int .i64 y), (.slice Aav (ab).length Cav), (.slice Anv (vs).length Cnv)] ∧ Ol bcs 4 1 wx (.slice Aav (ab).length Cav) ab ∧ Ol Sv.cs 30 1 wx (.slice Anv (vs).length Cnv) vs ∧ Od ics 3 1 wx W9.heap.size dU.heap.size vs rs ∧ Ol ics 3 1 wx rv row ∧ Lo dU.heap.size rv) (fun ⟨k, row, rv⟩ => 9 - k) (0, ([] : List Int), (.slice bH (([] : List Int)).length bI)) (sC8 rfl rfl rfl rfl rfl rfl rfl rfl (Sub.nil _)) ⟨E, (Nat.le_refl _), ⟨by omega, rfl⟩, eE, eF, eG, eH, eI, eJ, b2, cv⟩ ?_
  rintro ⟨k, row, rv⟩ f3 ⟨E, eK, f4, a4, R, S, V, X, Y, T, a⟩
  have c1 := E
  have dZ := c1.size
  have c2 := R.lt
  have c3 := S.lt
  obtain ⟨Arv, Crv, rfl, lrv, hirv⟩ := T.opn
  refine Zg fun f5 eL => ?_
  refine Zg fun f6 eM => ?_
  refine Zc (Za rfl rfl (Zd rfl) (Za rfl rfl (Xv rfl rfl) (Zf (Zb (eM _ _ ?_)))))
  refine Zx rfl (fun aR => ?_) (fun aR => ?_)
  ·have c4 := aR
   have aR := Yo aR
   refine Zu ?_
   refine Zb (eL _ _ ?_)
   refine Zg fun f7 cP => ?_
   refine Yf ?_
   refine Zg fun f8 eN => ?_
   refine Zc (Za rfl rfl (Ze rfl) (Zf (Zb (eN _ _ ?_))))
   refine Zg fun f9 d0 => ?_
   refine Zg fun ga eO => ?_
   refine Zc (Za rfl rfl (Zd rfl) (Zk rfl rfl ?_))
   refine Step.call (Zl (xs := [.tmp 26, .const (Go.Value.int Go.IntKind.i64 3)]) fk96 rfl) (Zan a4 _ om) fun eP gb c5 => ?_
   obtain ⟨d1, rfl, b3, U⟩ := c5
   have eQ := U.size
   have E := E.trans U
   refine Za rfl rfl (Xi rfl) (Zf (Zb (eO _ _ ?_)))
   refine Zx rfl (fun b4 => ?_) (fun b4 => ?_)
   ·have c6 := b4
    refine Zc (Za rfl rfl (Zd rfl) (Za rfl rfl (Zd rfl) (Zk rfl rfl ?_)))
    refine Step.call (Zl (xs := [.tmp 29, .tmp 30]) fk42 rfl) (Qn b3 _ om) fun eR gc c7 => ?_
    obtain ⟨aB, rfl, c8, cw, aZ⟩ := c7
    have eS := aZ.size
    have E := E.trans aZ
    refine Za rfl rfl (Ze rfl) (Zf (Zb (d0 _ _ ?_)))
    refine Zg fun gd d2 => ?_
    refine Zg fun ge eT => ?_
    refine Zc (Za rfl rfl (Zd rfl) (Za rfl rfl (Zec rfl rfl) (Zf (Zb (eT _ _ ?_)))))
    refine Zx rfl (fun L => ?_) (fun L => ?_)
    ·have c9 := L
     have L := Yo L
     refine Zc (Za rfl rfl (Ze rfl) (Zf (Zb (d2 _ _ (Zc (Za rfl rfl (Zd rfl) (Za rfl rfl (Zd rfl) (Zk rfl rfl ?_))))))))
     refine Zr (cs := ics) (parts := [(0, .tmp 35)]) (0 : Int) [(-1)] el30 sz3 zr3 Yl (by decide) rfl rfl rfl (by decide) (by decide) rfl fun b5 gf Z a5 bk => ?_
     have eU := bk.size
     have E := E.trans bk.of_nil
     obtain ⟨a6, a7, rfl, a8, aS⟩ := Z.opn
     refine Zk rfl rfl ?_
     have eV := ((T.ch U (dS a hirv om)).ch aZ (dS a hirv om)).ch0 bk
     refine Yj (cs := ics) el30 sz3 by3 zr3 rfl (by decide) Xz eV Z.ls rfl rfl bd bd a om fun b6 eW aa ac a9 bJ => ?_
     have eX := bJ.size
     have E := E.step bJ (fun i hi => .inl (by have p := a _ hi; omega))
     obtain ⟨G, H, rfl, ba, aT⟩ := aa.opn
     refine Za rfl rfl (Ze rfl) (Zf (Yc (Zb (cP _ _ (Zc (Za rfl rfl (Zd rfl) (Za rfl rfl (Yq om rfl rfl) (Za rfl rfl (Ze rfl) ?_))))))))
     refine Zf ?_
     have b7 : Ol ics 3 1 eW (.slice G ((row ++ [(-1)])).length H) ((row ++ [(-1)])) := by
      have hx := aa
      exact hx
     have eY := (cw.ch0 bk).ch bJ (fun i hm => by have p := a _ hm; have q := hirv _ hm; omega)
     have eZ := (((R.ch U (nS om)).ch aZ (nS om)).ch0 bk).ch bJ (fun hm => by have p := a _ hm; have q := hirv _ hm; omega)
     have e0 := (((S.ch U (nS om)).ch aZ (nS om)).ch0 bk).ch bJ (fun hm => by have p := a _ hm; have q := hirv _ hm; omega)
     have e1 := (((V.ch U (dS c hiav om)).ch aZ (dS c hiav om)).ch0 bk).ch bJ (fun g hg hm => by have p := a _ hm; have q := hirv _ hm; have O := c _ hg; have P := hiav _ hg; omega)
     have e2 := (((X.ch U (dS b hinv om)).ch aZ (dS b hinv om)).ch0 bk).ch bJ (fun g hg hm => by have p := a _ hm; have q := hirv _ hm; have O := b _ hg; have P := hinv _ hg; omega)
     have e3 := (((Y.ch U (oS om)).ch aZ (oS om)).ch0 bk).ch bJ (fun i hm => by have p := a _ hm; have q := hirv _ hm; omega)
     exact Zb (Exists.intro ((k + 1), (row ++ [(-1)]), (.slice G ((row ++ [(-1)])).length H)) ⟨⟨E, om, ⟨by omega, by simp only [List.length_append, List.length_singleton]; omega⟩, eY, eZ, e0, e1, e2, e3, b7, (Lo.down ac om)⟩, sC8 rfl rfl rfl rfl rfl rfl rfl rfl (Sub.nil _), (by first | omega | (dsimp only; omega))⟩)
    have c9 := L
    have L := Yp L
    refine Zu ?_
    refine Zb (d2 _ _ (Zc (Za rfl rfl (Zd rfl) (Za rfl rfl (Zd rfl) (Zk rfl rfl ?_)))))
    refine Zr (cs := ics) (parts := [(0, .tmp 35)]) (0 : Int) [aB] el30 sz3 zr3 Yl (by decide) rfl rfl rfl (by decide) (by decide) rfl fun b5 gg Z a5 bm => ?_
    have e4 := bm.size
    have E := E.trans bm.of_nil
    obtain ⟨a6, a7, rfl, a8, aS⟩ := Z.opn
    refine Zk rfl rfl ?_
    have e5 := ((T.ch U (dS a hirv om)).ch aZ (dS a hirv om)).ch0 bm
    refine Yj (cs := ics) el30 sz3 by3 zr3 rfl (by decide) Xz e5 Z.ls rfl rfl bd bd a om fun b6 e6 aa ac a9 bK => ?_
    have e7 := bK.size
    have E := E.step bK (fun i hi => .inl (by have p := a _ hi; omega))
    obtain ⟨G, H, rfl, ba, aT⟩ := aa.opn
    refine Za rfl rfl (Ze rfl) (Zf (Yc (Zb (cP _ _ (Zc (Za rfl rfl (Zd rfl) (Za rfl rfl (Yq om rfl rfl) (Za rfl rfl (Ze rfl) ?_))))))))
    refine Zf ?_
    have b8 : Ol ics 3 1 e6 (.slice G ((row ++ [aB])).length H) ((row ++ [aB])) := by
     have hx := aa
     exact hx
    have e8 := (cw.ch0 bm).ch bK (fun i hm => by have p := a _ hm; have q := hirv _ hm; omega)
    have e9 := (((R.ch U (nS om)).ch aZ (nS om)).ch0 bm).ch bK (fun hm => by have p := a _ hm; have q := hirv _ hm; omega)
    have fa := (((S.ch U (nS om)).ch aZ (nS om)).ch0 bm).ch bK (fun hm => by have p := a _ hm; have q := hirv _ hm; omega)
    have fb := (((V.ch U (dS c hiav om)).ch aZ (dS c hiav om)).ch0 bm).ch bK (fun g hg hm => by have p := a _ hm; have q := hirv _ hm; have O := c _ hg; have P := hiav _ hg; omega)
    have fc := (((X.ch U (dS b hinv om)).ch aZ (dS b hinv om)).ch0 bm).ch bK (fun g hg hm => by have p := a _ hm; have q := hirv _ hm; have O := b _ hg; have P := hinv _ hg; omega)
    have fd := (((Y.ch U (oS om)).ch aZ (oS om)).ch0 bm).ch bK (fun i hm => by have p := a _ hm; have q := hirv _ hm; omega)
    exact Zb (Exists.intro ((k + 1), (row ++ [aB]), (.slice G ((row ++ [aB])).length H)) ⟨⟨E, om, ⟨by omega, by simp only [List.length_append, List.length_singleton]; omega⟩, e8, e9, fa, fb, fc, fd, b8, (Lo.down ac om)⟩, sC8 rfl rfl rfl rfl rfl rfl rfl rfl (Sub.nil _), (by first | omega | (dsimp only; omega))⟩)
   have c6 := b4
   refine Zu ?_
   refine Zb (d0 _ _ ?_)
   refine Zg fun gh d3 => ?_
   refine Zg fun gi fe => ?_
   refine Zc (Za rfl rfl (Zd rfl) (Za rfl rfl (Zec rfl rfl) (Zf (Zb (fe _ _ ?_)))))
   refine Zx rfl (fun L => ?_) (fun L => ?_)
   ·have da := L
    have L := Yo L
    refine Zc (Za rfl rfl (Ze rfl) (Zf (Zb (d3 _ _ (Zc (Za rfl rfl (Zd rfl) (Za rfl rfl (Zd rfl) (Zk rfl rfl ?_))))))))
    refine Zr (cs := ics) (parts := [(0, .tmp 35)]) (0 : Int) [(-1)] el30 sz3 zr3 Yl (by decide) rfl rfl rfl (by decide) (by decide) rfl fun b5 gj Z a5 bn => ?_
    have ff := bn.size
    have E := E.trans bn.of_nil
    obtain ⟨a6, a7, rfl, a8, aS⟩ := Z.opn
    refine Zk rfl rfl ?_
    have fg := (T.ch U (dS a hirv om)).ch0 bn
    refine Yj (cs := ics) el30 sz3 by3 zr3 rfl (by decide) Xz fg Z.ls rfl rfl bd bd a om fun b6 fh aa ac a9 bL => ?_
    have fi := bL.size
    have E := E.step bL (fun i hi => .inl (by have p := a _ hi; omega))
    obtain ⟨G, H, rfl, ba, aT⟩ := aa.opn
    refine Za rfl rfl (Ze rfl) (Zf (Yc (Zb (cP _ _ (Zc (Za rfl rfl (Zd rfl) (Za rfl rfl (Yq om rfl rfl) (Za rfl rfl (Ze rfl) ?_))))))))
    refine Zf ?_
    have b9 : Ol ics 3 1 fh (.slice G ((row ++ [(-1)])).length H) ((row ++ [(-1)])) := by
     have hx := aa
     exact hx
    have fj := (b3.ch0 bn).ch bL (fun i hm => by have p := a _ hm; have q := hirv _ hm; omega)
    have fk := ((R.ch U (nS om)).ch0 bn).ch bL (fun hm => by have p := a _ hm; have q := hirv _ hm; omega)
    have fl := ((S.ch U (nS om)).ch0 bn).ch bL (fun hm => by have p := a _ hm; have q := hirv _ hm; omega)
    have fm := ((V.ch U (dS c hiav om)).ch0 bn).ch bL (fun g hg hm => by have p := a _ hm; have q := hirv _ hm; have O := c _ hg; have P := hiav _ hg; omega)
    have fn := ((X.ch U (dS b hinv om)).ch0 bn).ch bL (fun g hg hm => by have p := a _ hm; have q := hirv _ hm; have O := b _ hg; have P := hinv _ hg; omega)
    have fo := ((Y.ch U (oS om)).ch0 bn).ch bL (fun i hm => by have p := a _ hm; have q := hirv _ hm; omega)
    exact Zb (Exists.intro ((k + 1), (row ++ [(-1)]), (.slice G ((row ++ [(-1)])).length H)) ⟨⟨E, om, ⟨by omega, by simp only [List.length_append, List.length_singleton]; omega⟩, fj, fk, fl, fm, fn, fo, b9, (Lo.down ac om)⟩, sC8 rfl rfl rfl rfl rfl rfl rfl rfl (Sub.nil _), (by first | omega | (dsimp only; omega))⟩)
   have da := L
   have L := Yp L
   refine Zu ?_
   refine Zb (d3 _ _ (Zc (Za rfl rfl (Zd rfl) (Za rfl rfl (Zd rfl) (Zk rfl rfl ?_)))))
   refine Zr (cs := ics) (parts := [(0, .tmp 35)]) (0 : Int) [(-1)] el30 sz3 zr3 Yl (by decide) rfl rfl rfl (by decide) (by decide) rfl fun b5 gk Z a5 bp => ?_
   have fp := bp.size
   have E := E.trans bp.of_nil
   obtain ⟨a6, a7, rfl, a8, aS⟩ := Z.opn
   refine Zk rfl rfl ?_
   have fq := (T.ch U (dS a hirv om)).ch0 bp
   refine Yj (cs := ics) el30 sz3 by3 zr3 rfl (by decide) Xz fq Z.ls rfl rfl bd bd a om fun b6 fr aa ac a9 bM => ?_
   have fs := bM.size
   have E := E.step bM (fun i hi => .inl (by have p := a _ hi; omega))
   obtain ⟨G, H, rfl, ba, aT⟩ := aa.opn
   refine Za rfl rfl (Ze rfl) (Zf (Yc (Zb (cP _ _ (Zc (Za rfl rfl (Zd rfl) (Za rfl rfl (Yq om rfl rfl) (Za rfl rfl (Ze rfl) ?_))))))))
   refine Zf ?_
   have ca : Ol ics 3 1 fr (.slice G ((row ++ [(-1)])).length H) ((row ++ [(-1)])) := by
    have hx := aa
    exact hx
   have ft := (b3.ch0 bp).ch bM (fun i hm => by have p := a _ hm; have q := hirv _ hm; omega)
   have fu := ((R.ch U (nS om)).ch0 bp).ch bM (fun hm => by have p := a _ hm; have q := hirv _ hm; omega)
   have fv := ((S.ch U (nS om)).ch0 bp).ch bM (fun hm => by have p := a _ hm; have q := hirv _ hm; omega)
   have fw := ((V.ch U (dS c hiav om)).ch0 bp).ch bM (fun g hg hm => by have p := a _ hm; have q := hirv _ hm; have O := c _ hg; have P := hiav _ hg; omega)
   have fx := ((X.ch U (dS b hinv om)).ch0 bp).ch bM (fun g hg hm => by have p := a _ hm; have q := hirv _ hm; have O := b _ hg; have P := hinv _ hg; omega)
   have fy := ((Y.ch U (oS om)).ch0 bp).ch bM (fun i hm => by have p := a _ hm; have q := hirv _ hm; omega)
   exact Zb (Exists.intro ((k + 1), (row ++ [(-1)]), (.slice G ((row ++ [(-1)])).length H)) ⟨⟨E, om, ⟨by omega, by simp only [List.length_append, List.length_singleton]; omega⟩, ft, fu, fv, fw, fx, fy, ca, (Lo.down ac om)⟩, sC8 rfl rfl rfl rfl rfl rfl rfl rfl (Sub.nil _), (by first | omega | (dsimp only; omega))⟩)
  have c4 := aR
  have aR := Yp aR
  refine Xk (Ya (Ya (Xd ?_)))
  refine Zb (eC _ _ ?_)
  refine Zg fun gl db => ?_
  refine Yx ([b_c] ++ (bl (.slice Aav (ab).length Cav)) ++ [Q]) 8 mixed rfl fun bb ad => ?_
  have fz := ad.size
  have E := E.trans ad.of_nil
  refine dV 0 rfl rfl rfl (fun _ => Zh fa27_1 rfl) (dV 2 rfl rfl rfl (fun _ => Zd rfl) ?_)
  refine Zau 1 3 (by kernel_rfl) ?_ ?_
  ·refine Ye rfl rfl rfl ?_
   have d4 := S.ch0 ad
   refine s_v (Zp d4.at_ agg24 rfl rfl) ?_
   refine ⟨(Ch.refl _ _), ?_⟩
   refine dO 3 (Ye rfl rfl rfl ?_)
   have fA := a4.ch0 ad
   refine Step.call (Zl (xs := [.tmp 40, .const (Go.Value.int Go.IntKind.i64 3)]) fk96 rfl) (Zan fA _ om) fun dc fB cb => ?_
   obtain ⟨o, rfl, bq, br⟩ := cb
   have fC := br.size
   have E := E.trans br
   have bN : Ch ([b_c] ++ (bl (.slice Aav (ab).length Cav)) ++ [Q]) bb fB := ((Ch.refl _ _).step br (fun i hm => by have x := List.mem_singleton.1 hm; exact .inr (by rw [x]; exact (List.mem_append_left _ (List.mem_append_left _ (List.mem_singleton.2 rfl))))))
   refine ⟨bN, ?_⟩
   refine dO 4 (Ye rfl rfl rfl ?_)
   refine Zr (cs := bcs) (parts := [(0, .tmp 41)]) false [o] el24 sz4 zr4 Qa (by decide) rfl rfl rfl (by decide) (by decide) rfl fun cx fD aC bO bj => ?_
   have fE := bj.size
   have E := E.trans bj.of_nil
   obtain ⟨bP, bQ, rfl, bR, bc⟩ := aC.opn
   have bS : Ch ([b_c] ++ (bl (.slice Aav (ab).length Cav)) ++ [Q]) bb fD := (bN.trans bj.of_nil)
   refine ⟨bS, ?_⟩
   refine dO 5 (Ye rfl rfl rfl ?_)
   have fF := ((V.ch0 ad).ch br (dS c hiav om)).ch0 bj
   refine Yj (cs := bcs) el24 sz4 by4 zr4 rfl (by decide) Zaz fF aC.ls rfl rfl bd bd c om fun cy fG aD aE j bs => ?_
   have fH := bs.size
   have E := E.step bs (fun i hi => .inl (by have p := c _ hi; omega))
   obtain ⟨z, A, rfl, bT, d⟩ := aD.opn
   have be : Ch ([b_c] ++ (bl (.slice Aav (ab).length Cav)) ++ [Q]) bb fG := (bS.step bs (fun i hm => by exact .inr (List.mem_append_left _ (List.mem_append_right _ hm))))
   refine ⟨be, ?_⟩
   refine dV 6 rfl rfl rfl (fun _ => Zh fa27_1 rfl) (dO 7 (Ye rfl rfl rfl ?_))
   have dd := ((d4.ch br (nS om)).ch0 bj).ch bs (fun hm => by exact l (by first | exact hm | exact x ▸ hm))
   refine Xh (off := 1) dd sz24 rfl rfl rfl rfl fun cz ah ai => ?_
   have d5 := ai.size
   have E := E.step ai (lS om)
   replace ah : Blk cz Q 27 [(.int .i64 y), (.slice z ((ab ++ [o])).length A), (.slice Anv (vs).length Cnv)] := ah
   have cc : Ch ([b_c] ++ (bl (.slice Aav (ab).length Cav)) ++ [Q]) bb cz := (be.step ai (fun i hm => by have x := List.mem_singleton.1 hm; exact .inr (by rw [x]; exact (List.mem_append_right _ (List.mem_singleton.2 rfl)))))
   refine ⟨cc, ?_⟩
   refine Yb (by kernel_rfl) ?_
   refine Zb (db _ _ (Zc (Za rfl rfl (Zh fa27_2 rfl) (Za rfl rfl (Zp ah.at_ agg25 rfl rfl) (Za rfl rfl (Zd rfl) (Zk rfl rfl ?_))))))
   refine Zr (cs := Sv.cs) (parts := [(0, .tmp 47)]) (⟨none, 0, 0⟩ : Sv) [(⟨Arv, (row).length, Crv⟩ : Sv)] el25 sz30 zr30 Sv.len (by decide) rfl rfl rfl (by decide) (by decide) rfl fun cA cB aF bU aj => ?_
   have d6 := aj.size
   have E := E.trans aj.of_nil
   obtain ⟨bV, bW, rfl, bX, bf⟩ := aF.opn
   have cC := (((((T.ch0 ad).ch br (dS a hirv om)).ch0 bj).ch bs (fun g hg hm => by have p := c _ hm; have q := hiav _ hm; have O := a _ hg; have P := hirv _ hg; omega)).ch ai (dS a hirv om)).ch0 aj
   have bY : Rd ics 1 cB 0 cB.heap.size ([(⟨Arv, (row).length, Crv⟩ : Sv)]) ([row]) := (Rd.cons (cC.ls.up om om) Rd.nil)
   refine Zk rfl rfl ?_
   have de := (((((X.ch0 ad).ch br (dS b hinv om)).ch0 bj).ch bs (fun g hg hm => by exact f _ hg hm)).ch ai (fun g hg hm => by have x := List.mem_singleton.1 hm; exact m (by first | exact hg | exact x ▸ hg))).ch0 aj
   refine Yj (cs := Sv.cs) el25 sz30 by30 zr30 rfl (by decide) Sv.one de aF.ls rfl rfl bd bd b om fun cD fI aG aH t aI => ?_
   have d7 := aI.size
   have E := E.step aI (fun i hi => .inl (by have p := b _ hi; omega))
   obtain ⟨I, J, rfl, bZ, n⟩ := aG.opn
   refine Za rfl rfl (Zh fa27_2 rfl) (Zk rfl rfl ?_)
   have df := (ah.ch0 aj).ch aI (fun hm => by exact m (by first | exact hm | exact x ▸ hm))
   refine Xh (off := 2) df sz25 rfl rfl rfl rfl fun cd aU aJ => ?_
   have d8 := aJ.size
   have E := E.step aJ (lS om)
   replace aU : Blk cd Q 27 [(.int .i64 y), (.slice z ((ab ++ [o])).length A), (.slice I ((vs ++ [(⟨Arv, (row).length, Crv⟩ : Sv)])).length J)] := aU
   refine Zf (Yc (Zb (cZ _ _ (Zc (Za rfl rfl (Zd rfl) (Za rfl rfl (Yq om rfl rfl) (Za rfl rfl (Ze rfl) (Zf ?_))))))))
   have dg := (((aD.ch ai (fun g hg hm => by have x := List.mem_singleton.1 hm; rcases j with ea | ea; (rw [ea] at hg; exact l (by first | exact hg | exact x ▸ hg)); (have K := d _ hg; rw [ea] at hg; have F := List.mem_singleton.1 hg; omega))).ch0 aj).ch aI (fun g hg hm => by rcases j with ea | ea; (rw [ea] at hg; exact f _ hm hg); (have K := d _ hg; rw [ea] at hg; have F := List.mem_singleton.1 hg; have p := b _ hm; have q := hinv _ hm; omega))).ch aJ (fun g hg hm => by have x := List.mem_singleton.1 hm; rcases j with ea | ea; (rw [ea] at hg; exact l (by first | exact hg | exact x ▸ hg)); (have K := d _ hg; rw [ea] at hg; have F := List.mem_singleton.1 hg; omega))
   have bu : Ol bcs 4 1 cd (.slice z ((ab ++ [o])).length A) ((ab ++ [o])) := by
    have hx := dg
    exact hx
   have dh := aG.ch aJ (fun g hg hm => by have x := List.mem_singleton.1 hm; rcases t with ea | ea; (rw [ea] at hg; exact m (by first | exact hg | exact x ▸ hg)); (have K := n _ hg; rw [ea] at hg; have F := List.mem_singleton.1 hg; omega))
   have bv : Ol Sv.cs 30 1 cd (.slice I ((vs ++ [(⟨Arv, (row).length, Crv⟩ : Sv)])).length J) ((vs ++ [(⟨Arv, (row).length, Crv⟩ : Sv)])) := by
    have hx := dh
    exact hx
   have ce := (((((((Y.ch0 ad).ch br (oS om)).ch0 bj).chS bs C).ch ai (oS om)).ch0 aj).chS aI D).ch aJ (oS om)
   have di := (cC.ch aI (fun g hg hm => by have p := b _ hm; have q := hinv _ hm; have O := a _ hg; have P := hirv _ hg; omega)).ch aJ (dS a hirv om)
   have dj := (((((bq.ch0 bj).ch bs (fun i hm => by have p := c _ hm; have q := hiav _ hm; omega)).ch ai (oS om)).ch0 aj).ch aI (fun i hm => by have p := b _ hm; have q := hinv _ hm; omega)).ch aJ (oS om)
   have dk := (((((((R.ch0 ad).ch br (nS om)).ch0 bj).ch bs (fun hm => by have p := c _ hm; have q := hiav _ hm; omega)).ch ai (nS om)).ch0 aj).ch aI (fun hm => by have p := b _ hm; have q := hinv _ hm; omega)).ch aJ (nS om)
   exact Zb (Exists.intro ((s + 1), (ab ++ [o]), (vs ++ [(⟨Arv, (row).length, Crv⟩ : Sv)]), (rs ++ [row]), (.slice z ((ab ++ [o])).length A), (.slice I ((vs ++ [(⟨Arv, (row).length, Crv⟩ : Sv)])).length J)) ⟨⟨E, om, om, (by simp only [List.length_append, List.length_singleton]; omega), (fun r h => by rcases List.mem_append.1 h with h | h; exact hr r h; rw [List.mem_singleton.1 h]; omega), dj, dk, bu, (Lo.down aE om), bv, (Lo.down aH om), (Od.snoc ce (v := (⟨Arv, (row).length, Crv⟩ : Sv)) di (Lo.down a om) (fun g hg => by have p := hirv g hg; omega) om om), aU, (fun hm => by rcases j with ea | ea; (rw [ea] at hm; exact l (by first | exact hm | exact x ▸ hm)); (have B := d _ hm; rw [ea] at hm; have F := List.mem_singleton.1 hm; omega)), (fun g hm hg => by rcases t with ea | ea; (rw [ea] at hm; rcases j with ea | ea; (rw [ea] at hg; exact f _ hm hg); (have K := d _ hg; rw [ea] at hg; have F := List.mem_singleton.1 hg; have p := b _ hm; have q := hinv _ hm; omega)); (have B := n _ hm; rw [ea] at hm; have F := List.mem_singleton.1 hm; rcases j with ea | ea; (rw [ea] at hg; have O := c _ hg; have P := hiav _ hg; omega); (have K := d _ hg; rw [ea] at hg; have F := List.mem_singleton.1 hg; omega))), (fun hm => by rcases t with ea | ea; (rw [ea] at hm; exact m (by first | exact hm | exact x ▸ hm)); (have B := n _ hm; rw [ea] at hm; have F := List.mem_singleton.1 hm; omega)), (fun u hu g hg hm => by rcases List.mem_append.1 hu with hu | hu; (rcases j with ea | ea; (rw [ea] at hm; exact C _ hu _ hg hm); (have B := d _ hm; rw [ea] at hm; have F := List.mem_singleton.1 hm; have cE := ce.rng hu hg; omega)); (rw [List.mem_singleton.1 hu] at hg; replace hg : g ∈ bl (.slice Arv (row).length Crv) := hg; rcases j with ea | ea; (rw [ea] at hm; have p := c _ hm; have q := hiav _ hm; have O := a _ hg; have P := hirv _ hg; omega); (have B := d _ hm; rw [ea] at hm; have F := List.mem_singleton.1 hm; have O := a _ hg; have P := hirv _ hg; omega))), (fun u hu g hg hm => by rcases List.mem_append.1 hu with hu | hu; (rcases t with ea | ea; (rw [ea] at hm; exact D _ hu _ hg hm); (have B := n _ hm; rw [ea] at hm; have F := List.mem_singleton.1 hm; have cE := ce.rng hu hg; omega)); (rw [List.mem_singleton.1 hu] at hg; replace hg : g ∈ bl (.slice Arv (row).length Crv) := hg; rcases t with ea | ea; (rw [ea] at hm; have p := b _ hm; have q := hinv _ hm; have O := a _ hg; have P := hirv _ hg; omega); (have B := n _ hm; rw [ea] at hm; have F := List.mem_singleton.1 hm; have O := a _ hg; have P := hirv _ hg; omega)))⟩, sC4 rfl rfl rfl rfl (sC1 rfl (Sub.nil _)), (by first | omega | (dsimp only; omega))⟩)
  refine Ye rfl rfl rfl ?_
  have dl := a4.ch0 ad
  refine Step.call (Zl (xs := [.tmp 40, .const (Go.Value.int Go.IntKind.i64 3)]) fk96 rfl) (Zan dl _ om) fun dc dm cb => ?_
  obtain ⟨o, rfl, bq, M⟩ := cb
  have d9 := M.size
  have E := E.trans M
  have ak : Ch ([b_c] ++ (bl (.slice Aav (ab).length Cav)) ++ [Q]) bb dm := ((Ch.refl _ _).step M (fun i hm => by have x := List.mem_singleton.1 hm; exact .inr (by rw [x]; exact (List.mem_append_left _ (List.mem_append_left _ (List.mem_singleton.2 rfl))))))
  refine ⟨ak, ?_⟩
  refine Zau 1 4 (by kernel_rfl) ?_ ?_
  ·refine Ye rfl rfl rfl ?_
   have cF := (S.ch0 ad).ch M (nS om)
   refine s_v (Zp cF.at_ agg24 rfl rfl) ?_
   refine ⟨ak, ?_⟩
   refine dO 4 (Ye rfl rfl rfl ?_)
   refine Zr (cs := bcs) (parts := [(0, .tmp 41)]) false [o] el24 sz4 zr4 Qa (by decide) rfl rfl rfl (by decide) (by decide) rfl fun cx dn aC bO ae => ?_
   have eb := ae.size
   have E := E.trans ae.of_nil
   obtain ⟨bP, bQ, rfl, bR, bc⟩ := aC.opn
   have bg : Ch ([b_c] ++ (bl (.slice Aav (ab).length Cav)) ++ [Q]) bb dn := (ak.trans ae.of_nil)
   refine ⟨bg, ?_⟩
   refine dO 5 (Ye rfl rfl rfl ?_)
   have dp := ((V.ch0 ad).ch M (dS c hiav om)).ch0 ae
   refine Yj (cs := bcs) el24 sz4 by4 zr4 rfl (by decide) Zaz dp aC.ls rfl rfl bd bd c om fun cy dq aD aE j al => ?_
   have ec := al.size
   have E := E.step al (fun i hi => .inl (by have p := c _ hi; omega))
   obtain ⟨z, A, rfl, bT, d⟩ := aD.opn
   have bh : Ch ([b_c] ++ (bl (.slice Aav (ab).length Cav)) ++ [Q]) bb dq := (bg.step al (fun i hm => by exact .inr (List.mem_append_left _ (List.mem_append_right _ hm))))
   refine ⟨bh, ?_⟩
   refine dV 6 rfl rfl rfl (fun _ => Zh fa27_1 rfl) (dO 7 (Ye rfl rfl rfl ?_))
   have dr := (cF.ch0 ae).ch al (fun hm => by exact l (by first | exact hm | exact x ▸ hm))
   refine Xh (off := 1) dr sz24 rfl rfl rfl rfl fun cG am an => ?_
   have ed := an.size
   have E := E.step an (lS om)
   replace am : Blk cG Q 27 [(.int .i64 y), (.slice z ((ab ++ [o])).length A), (.slice Anv (vs).length Cnv)] := am
   have cf : Ch ([b_c] ++ (bl (.slice Aav (ab).length Cav)) ++ [Q]) bb cG := (bh.step an (fun i hm => by have x := List.mem_singleton.1 hm; exact .inr (by rw [x]; exact (List.mem_append_right _ (List.mem_singleton.2 rfl)))))
   refine ⟨cf, ?_⟩
   refine Yb (by kernel_rfl) ?_
   refine Zb (db _ _ (Zc (Za rfl rfl (Zh fa27_2 rfl) (Za rfl rfl (Zp am.at_ agg25 rfl rfl) (Za rfl rfl (Zd rfl) (Zk rfl rfl ?_))))))
   refine Zr (cs := Sv.cs) (parts := [(0, .tmp 47)]) (⟨none, 0, 0⟩ : Sv) [(⟨Arv, (row).length, Crv⟩ : Sv)] el25 sz30 zr30 Sv.len (by decide) rfl rfl rfl (by decide) (by decide) rfl fun cA cH aF bU ao => ?_
   have ee := ao.size
   have E := E.trans ao.of_nil
   obtain ⟨bV, bW, rfl, bX, bf⟩ := aF.opn
   have cI := (((((T.ch0 ad).ch M (dS a hirv om)).ch0 ae).ch al (fun g hg hm => by have p := c _ hm; have q := hiav _ hm; have O := a _ hg; have P := hirv _ hg; omega)).ch an (dS a hirv om)).ch0 ao
   have bY : Rd ics 1 cH 0 cH.heap.size ([(⟨Arv, (row).length, Crv⟩ : Sv)]) ([row]) := (Rd.cons (cI.ls.up om om) Rd.nil)
   refine Zk rfl rfl ?_
   have ds := (((((X.ch0 ad).ch M (dS b hinv om)).ch0 ae).ch al (fun g hg hm => by exact f _ hg hm)).ch an (fun g hg hm => by have x := List.mem_singleton.1 hm; exact m (by first | exact hg | exact x ▸ hg))).ch0 ao
   refine Yj (cs := Sv.cs) el25 sz30 by30 zr30 rfl (by decide) Sv.one ds aF.ls rfl rfl bd bd b om fun cD fJ aG aH t aK => ?_
   have ef := aK.size
   have E := E.step aK (fun i hi => .inl (by have p := b _ hi; omega))
   obtain ⟨I, J, rfl, bZ, n⟩ := aG.opn
   refine Za rfl rfl (Zh fa27_2 rfl) (Zk rfl rfl ?_)
   have dt := (am.ch0 ao).ch aK (fun hm => by exact m (by first | exact hm | exact x ▸ hm))
   refine Xh (off := 2) dt sz25 rfl rfl rfl rfl fun cg aV aL => ?_
   have eg := aL.size
   have E := E.step aL (lS om)
   replace aV : Blk cg Q 27 [(.int .i64 y), (.slice z ((ab ++ [o])).length A), (.slice I ((vs ++ [(⟨Arv, (row).length, Crv⟩ : Sv)])).length J)] := aV
   refine Zf (Yc (Zb (cZ _ _ (Zc (Za rfl rfl (Zd rfl) (Za rfl rfl (Yq om rfl rfl) (Za rfl rfl (Ze rfl) (Zf ?_))))))))
   have du := (((aD.ch an (fun g hg hm => by have x := List.mem_singleton.1 hm; rcases j with ea | ea; (rw [ea] at hg; exact l (by first | exact hg | exact x ▸ hg)); (have K := d _ hg; rw [ea] at hg; have F := List.mem_singleton.1 hg; omega))).ch0 ao).ch aK (fun g hg hm => by rcases j with ea | ea; (rw [ea] at hg; exact f _ hm hg); (have K := d _ hg; rw [ea] at hg; have F := List.mem_singleton.1 hg; have p := b _ hm; have q := hinv _ hm; omega))).ch aL (fun g hg hm => by have x := List.mem_singleton.1 hm; rcases j with ea | ea; (rw [ea] at hg; exact l (by first | exact hg | exact x ▸ hg)); (have K := d _ hg; rw [ea] at hg; have F := List.mem_singleton.1 hg; omega))
   have bw : Ol bcs 4 1 cg (.slice z ((ab ++ [o])).length A) ((ab ++ [o])) := by
    have hx := du
    exact hx
   have dv := aG.ch aL (fun g hg hm => by have x := List.mem_singleton.1 hm; rcases t with ea | ea; (rw [ea] at hg; exact m (by first | exact hg | exact x ▸ hg)); (have K := n _ hg; rw [ea] at hg; have F := List.mem_singleton.1 hg; omega))
   have bz : Ol Sv.cs 30 1 cg (.slice I ((vs ++ [(⟨Arv, (row).length, Crv⟩ : Sv)])).length J) ((vs ++ [(⟨Arv, (row).length, Crv⟩ : Sv)])) := by
    have hx := dv
    exact hx
   have ci := (((((((Y.ch0 ad).ch M (oS om)).ch0 ae).chS al C).ch an (oS om)).ch0 ao).chS aK D).ch aL (oS om)
   have dw := (cI.ch aK (fun g hg hm => by have p := b _ hm; have q := hinv _ hm; have O := a _ hg; have P := hirv _ hg; omega)).ch aL (dS a hirv om)
   have dx := (((((bq.ch0 ae).ch al (fun i hm => by have p := c _ hm; have q := hiav _ hm; omega)).ch an (oS om)).ch0 ao).ch aK (fun i hm => by have p := b _ hm; have q := hinv _ hm; omega)).ch aL (oS om)
   have dy := (((((((R.ch0 ad).ch M (nS om)).ch0 ae).ch al (fun hm => by have p := c _ hm; have q := hiav _ hm; omega)).ch an (nS om)).ch0 ao).ch aK (fun hm => by have p := b _ hm; have q := hinv _ hm; omega)).ch aL (nS om)
   exact Zb (Exists.intro ((s + 1), (ab ++ [o]), (vs ++ [(⟨Arv, (row).length, Crv⟩ : Sv)]), (rs ++ [row]), (.slice z ((ab ++ [o])).length A), (.slice I ((vs ++ [(⟨Arv, (row).length, Crv⟩ : Sv)])).length J)) ⟨⟨E, om, om, (by simp only [List.length_append, List.length_singleton]; omega), (fun r h => by rcases List.mem_append.1 h with h | h; exact hr r h; rw [List.mem_singleton.1 h]; omega), dx, dy, bw, (Lo.down aE om), bz, (Lo.down aH om), (Od.snoc ci (v := (⟨Arv, (row).length, Crv⟩ : Sv)) dw (Lo.down a om) (fun g hg => by have p := hirv g hg; omega) om om), aV, (fun hm => by rcases j with ea | ea; (rw [ea] at hm; exact l (by first | exact hm | exact x ▸ hm)); (have B := d _ hm; rw [ea] at hm; have F := List.mem_singleton.1 hm; omega)), (fun g hm hg => by rcases t with ea | ea; (rw [ea] at hm; rcases j with ea | ea; (rw [ea] at hg; exact f _ hm hg); (have K := d _ hg; rw [ea] at hg; have F := List.mem_singleton.1 hg; have p := b _ hm; have q := hinv _ hm; omega)); (have B := n _ hm; rw [ea] at hm; have F := List.mem_singleton.1 hm; rcases j with ea | ea; (rw [ea] at hg; have O := c _ hg; have P := hiav _ hg; omega); (have K := d _ hg; rw [ea] at hg; have F := List.mem_singleton.1 hg; omega))), (fun hm => by rcases t with ea | ea; (rw [ea] at hm; exact m (by first | exact hm | exact x ▸ hm)); (have B := n _ hm; rw [ea] at hm; have F := List.mem_singleton.1 hm; omega)), (fun u hu g hg hm => by rcases List.mem_append.1 hu with hu | hu; (rcases j with ea | ea; (rw [ea] at hm; exact C _ hu _ hg hm); (have B := d _ hm; rw [ea] at hm; have F := List.mem_singleton.1 hm; have cE := ci.rng hu hg; omega)); (rw [List.mem_singleton.1 hu] at hg; replace hg : g ∈ bl (.slice Arv (row).length Crv) := hg; rcases j with ea | ea; (rw [ea] at hm; have p := c _ hm; have q := hiav _ hm; have O := a _ hg; have P := hirv _ hg; omega); (have B := d _ hm; rw [ea] at hm; have F := List.mem_singleton.1 hm; have O := a _ hg; have P := hirv _ hg; omega))), (fun u hu g hg hm => by rcases List.mem_append.1 hu with hu | hu; (rcases t with ea | ea; (rw [ea] at hm; exact D _ hu _ hg hm); (have B := n _ hm; rw [ea] at hm; have F := List.mem_singleton.1 hm; have cE := ci.rng hu hg; omega)); (rw [List.mem_singleton.1 hu] at hg; replace hg : g ∈ bl (.slice Arv (row).length Crv) := hg; rcases t with ea | ea; (rw [ea] at hm; have p := b _ hm; have q := hinv _ hm; have O := a _ hg; have P := hirv _ hg; omega); (have B := n _ hm; rw [ea] at hm; have F := List.mem_singleton.1 hm; have O := a _ hg; have P := hirv _ hg; omega)))⟩, sC4 rfl rfl rfl rfl (sC1 rfl (Sub.nil _)), (by first | omega | (dsimp only; omega))⟩)
  refine Ye rfl rfl rfl ?_
  refine Zr (cs := bcs) (parts := [(0, .tmp 41)]) false [o] el24 sz4 zr4 Qa (by decide) rfl rfl rfl (by decide) (by decide) rfl fun cx dz aC bO af => ?_
  have eh := af.size
  have E := E.trans af.of_nil
  obtain ⟨bP, bQ, rfl, bR, bc⟩ := aC.opn
  have aW : Ch ([b_c] ++ (bl (.slice Aav (ab).length Cav)) ++ [Q]) bb dz := (ak.trans af.of_nil)
  refine ⟨aW, ?_⟩
  refine dO 1 (Ye rfl rfl rfl ?_)
  have cJ := ((S.ch0 ad).ch M (nS om)).ch0 af
  refine s_v (Zp cJ.at_ agg24 rfl rfl) ?_
  refine ⟨aW, ?_⟩
  refine dO 5 (Ye rfl rfl rfl ?_)
  have dA := ((V.ch0 ad).ch M (dS c hiav om)).ch0 af
  refine Yj (cs := bcs) el24 sz4 by4 zr4 rfl (by decide) Zaz dA aC.ls rfl rfl bd bd c om fun cy dB aD aE j ap => ?_
  have ei := ap.size
  have E := E.step ap (fun i hi => .inl (by have p := c _ hi; omega))
  obtain ⟨z, A, rfl, bT, d⟩ := aD.opn
  have bi : Ch ([b_c] ++ (bl (.slice Aav (ab).length Cav)) ++ [Q]) bb dB := (aW.step ap (fun i hm => by exact .inr (List.mem_append_left _ (List.mem_append_right _ hm))))
  refine ⟨bi, ?_⟩
  refine dV 6 rfl rfl rfl (fun _ => Zh fa27_1 rfl) (dO 7 (Ye rfl rfl rfl ?_))
  have dC := cJ.ch ap (fun hm => by exact l (by first | exact hm | exact x ▸ hm))
  refine Xh (off := 1) dC sz24 rfl rfl rfl rfl fun cK aq au => ?_
  have ej := au.size
  have E := E.step au (lS om)
  replace aq : Blk cK Q 27 [(.int .i64 y), (.slice z ((ab ++ [o])).length A), (.slice Anv (vs).length Cnv)] := aq
  have cj : Ch ([b_c] ++ (bl (.slice Aav (ab).length Cav)) ++ [Q]) bb cK := (bi.step au (fun i hm => by have x := List.mem_singleton.1 hm; exact .inr (by rw [x]; exact (List.mem_append_right _ (List.mem_singleton.2 rfl)))))
  refine ⟨cj, ?_⟩
  refine Yb (by kernel_rfl) ?_
  refine Zb (db _ _ (Zc (Za rfl rfl (Zh fa27_2 rfl) (Za rfl rfl (Zp aq.at_ agg25 rfl rfl) (Za rfl rfl (Zd rfl) (Zk rfl rfl ?_))))))
  refine Zr (cs := Sv.cs) (parts := [(0, .tmp 47)]) (⟨none, 0, 0⟩ : Sv) [(⟨Arv, (row).length, Crv⟩ : Sv)] el25 sz30 zr30 Sv.len (by decide) rfl rfl rfl (by decide) (by decide) rfl fun cA cL aF bU aw => ?_
  have ek := aw.size
  have E := E.trans aw.of_nil
  obtain ⟨bV, bW, rfl, bX, bf⟩ := aF.opn
  have cM := (((((T.ch0 ad).ch M (dS a hirv om)).ch0 af).ch ap (fun g hg hm => by have p := c _ hm; have q := hiav _ hm; have O := a _ hg; have P := hirv _ hg; omega)).ch au (dS a hirv om)).ch0 aw
  have bY : Rd ics 1 cL 0 cL.heap.size ([(⟨Arv, (row).length, Crv⟩ : Sv)]) ([row]) := (Rd.cons (cM.ls.up om om) Rd.nil)
  refine Zk rfl rfl ?_
  have dD := (((((X.ch0 ad).ch M (dS b hinv om)).ch0 af).ch ap (fun g hg hm => by exact f _ hg hm)).ch au (fun g hg hm => by have x := List.mem_singleton.1 hm; exact m (by first | exact hg | exact x ▸ hg))).ch0 aw
  refine Yj (cs := Sv.cs) el25 sz30 by30 zr30 rfl (by decide) Sv.one dD aF.ls rfl rfl bd bd b om fun cD fK aG aH t aM => ?_
  have el := aM.size
  have E := E.step aM (fun i hi => .inl (by have p := b _ hi; omega))
  obtain ⟨I, J, rfl, bZ, n⟩ := aG.opn
  refine Za rfl rfl (Zh fa27_2 rfl) (Zk rfl rfl ?_)
  have dE := (aq.ch0 aw).ch aM (fun hm => by exact m (by first | exact hm | exact x ▸ hm))
  refine Xh (off := 2) dE sz25 rfl rfl rfl rfl fun ck aX aN => ?_
  have em := aN.size
  have E := E.step aN (lS om)
  replace aX : Blk ck Q 27 [(.int .i64 y), (.slice z ((ab ++ [o])).length A), (.slice I ((vs ++ [(⟨Arv, (row).length, Crv⟩ : Sv)])).length J)] := aX
  refine Zf (Yc (Zb (cZ _ _ (Zc (Za rfl rfl (Zd rfl) (Za rfl rfl (Yq om rfl rfl) (Za rfl rfl (Ze rfl) (Zf ?_))))))))
  have dF := (((aD.ch au (fun g hg hm => by have x := List.mem_singleton.1 hm; rcases j with ea | ea; (rw [ea] at hg; exact l (by first | exact hg | exact x ▸ hg)); (have K := d _ hg; rw [ea] at hg; have F := List.mem_singleton.1 hg; omega))).ch0 aw).ch aM (fun g hg hm => by rcases j with ea | ea; (rw [ea] at hg; exact f _ hm hg); (have K := d _ hg; rw [ea] at hg; have F := List.mem_singleton.1 hg; have p := b _ hm; have q := hinv _ hm; omega))).ch aN (fun g hg hm => by have x := List.mem_singleton.1 hm; rcases j with ea | ea; (rw [ea] at hg; exact l (by first | exact hg | exact x ▸ hg)); (have K := d _ hg; rw [ea] at hg; have F := List.mem_singleton.1 hg; omega))
  have bA : Ol bcs 4 1 ck (.slice z ((ab ++ [o])).length A) ((ab ++ [o])) := by
   have hx := dF
   exact hx
  have dG := aG.ch aN (fun g hg hm => by have x := List.mem_singleton.1 hm; rcases t with ea | ea; (rw [ea] at hg; exact m (by first | exact hg | exact x ▸ hg)); (have K := n _ hg; rw [ea] at hg; have F := List.mem_singleton.1 hg; omega))
  have bB : Ol Sv.cs 30 1 ck (.slice I ((vs ++ [(⟨Arv, (row).length, Crv⟩ : Sv)])).length J) ((vs ++ [(⟨Arv, (row).length, Crv⟩ : Sv)])) := by
   have hx := dG
   exact hx
  have cm := (((((((Y.ch0 ad).ch M (oS om)).ch0 af).chS ap C).ch au (oS om)).ch0 aw).chS aM D).ch aN (oS om)
  have dH := (cM.ch aM (fun g hg hm => by have p := b _ hm; have q := hinv _ hm; have O := a _ hg; have P := hirv _ hg; omega)).ch aN (dS a hirv om)
  have dI := (((((bq.ch0 af).ch ap (fun i hm => by have p := c _ hm; have q := hiav _ hm; omega)).ch au (oS om)).ch0 aw).ch aM (fun i hm => by have p := b _ hm; have q := hinv _ hm; omega)).ch aN (oS om)
  have dJ := (((((((R.ch0 ad).ch M (nS om)).ch0 af).ch ap (fun hm => by have p := c _ hm; have q := hiav _ hm; omega)).ch au (nS om)).ch0 aw).ch aM (fun hm => by have p := b _ hm; have q := hinv _ hm; omega)).ch aN (nS om)
  exact Zb (Exists.intro ((s + 1), (ab ++ [o]), (vs ++ [(⟨Arv, (row).length, Crv⟩ : Sv)]), (rs ++ [row]), (.slice z ((ab ++ [o])).length A), (.slice I ((vs ++ [(⟨Arv, (row).length, Crv⟩ : Sv)])).length J)) ⟨⟨E, om, om, (by simp only [List.length_append, List.length_singleton]; omega), (fun r h => by rcases List.mem_append.1 h with h | h; exact hr r h; rw [List.mem_singleton.1 h]; omega), dI, dJ, bA, (Lo.down aE om), bB, (Lo.down aH om), (Od.snoc cm (v := (⟨Arv, (row).length, Crv⟩ : Sv)) dH (Lo.down a om) (fun g hg => by have p := hirv g hg; omega) om om), aX, (fun hm => by rcases j with ea | ea; (rw [ea] at hm; exact l (by first | exact hm | exact x ▸ hm)); (have B := d _ hm; rw [ea] at hm; have F := List.mem_singleton.1 hm; omega)), (fun g hm hg => by rcases t with ea | ea; (rw [ea] at hm; rcases j with ea | ea; (rw [ea] at hg; exact f _ hm hg); (have K := d _ hg; rw [ea] at hg; have F := List.mem_singleton.1 hg; have p := b _ hm; have q := hinv _ hm; omega)); (have B := n _ hm; rw [ea] at hm; have F := List.mem_singleton.1 hm; rcases j with ea | ea; (rw [ea] at hg; have O := c _ hg; have P := hiav _ hg; omega); (have K := d _ hg; rw [ea] at hg; have F := List.mem_singleton.1 hg; omega))), (fun hm => by rcases t with ea | ea; (rw [ea] at hm; exact m (by first | exact hm | exact x ▸ hm)); (have B := n _ hm; rw [ea] at hm; have F := List.mem_singleton.1 hm; omega)), (fun u hu g hg hm => by rcases List.mem_append.1 hu with hu | hu; (rcases j with ea | ea; (rw [ea] at hm; exact C _ hu _ hg hm); (have B := d _ hm; rw [ea] at hm; have F := List.mem_singleton.1 hm; have cE := cm.rng hu hg; omega)); (rw [List.mem_singleton.1 hu] at hg; replace hg : g ∈ bl (.slice Arv (row).length Crv) := hg; rcases j with ea | ea; (rw [ea] at hm; have p := c _ hm; have q := hiav _ hm; have O := a _ hg; have P := hirv _ hg; omega); (have B := d _ hm; rw [ea] at hm; have F := List.mem_singleton.1 hm; have O := a _ hg; have P := hirv _ hg; omega))), (fun u hu g hg hm => by rcases List.mem_append.1 hu with hu | hu; (rcases t with ea | ea; (rw [ea] at hm; exact D _ hu _ hg hm); (have B := n _ hm; rw [ea] at hm; have F := List.mem_singleton.1 hm; have cE := cm.rng hu hg; omega)); (rw [List.mem_singleton.1 hu] at hg; replace hg : g ∈ bl (.slice Arv (row).length Crv) := hg; rcases t with ea | ea; (rw [ea] at hm; have p := b _ hm; have q := hinv _ hm; have O := a _ hg; have P := hirv _ hg; omega); (have B := n _ hm; rw [ea] at hm; have F := List.mem_singleton.1 hm; have O := a _ hg; have P := hirv _ hg; omega)))⟩, sC4 rfl rfl rfl rfl (sC1 rfl (Sub.nil _)), (by first | omega | (dsimp only; omega))⟩)
 have cY := aQ
 have aQ := Yp aQ
 refine Xk (Ya (Ya (Xd ?_)))
 refine Zb (er _ _ ?_)
 refine Zg fun fL dL => ?_
 refine Zc (Za rfl rfl (Zt bF.at_ agg27 sz27 rfl) (Zk rfl rfl ?_))
 refine Zy (off := 0) 3 a3 sz27 rfl (us := [(.int .i64 y), (.slice Aav (ab).length Cav), (.slice Anv (vs).length Cnv)]) rfl rfl rfl rfl fun a0 aY a1 => ?_
 have en := a1.size
 have E := E.step a1 (lS om)
 replace aY : Blk a0 cq 27 [(.int .i64 y), (.slice Aav (ab).length Cav), (.slice Anv (vs).length Cnv)] := aY
 refine Zf (Zb (dL _ _ ?_))
 refine Zs ?_
 have dM := aO.ch a1 (dS c hiav om)
 have cn : Ol bcs 4 1 a0 (.slice Aav (ab).length Cav) (ab) := by
  have hx := dM
  first | exact hx | simpa using hx
 have dN := aP.ch a1 (dS b hinv om)
 have dP := od.ch a1 (oS om)
 have co : Ol Sv.cs 30 1 a0 (.slice Anv (vs).length Cnv) vs := by
  have hx := dN
  exact hx
 have cp : Od ics 3 1 a0 w.heap.size a0.heap.size vs (rs) := by
  have hx := dP.up (lo' := w.heap.size) (hi' := a0.heap.size) om om
  exact hx
 have dQ := bD.ch a1 (oS om)
 exact Zi [_] (Zz aY rfl agg27 sz27 trivial) ⟨y, ab, rs, (.slice Aav (ab).length Cav), (.slice Anv (vs).length Cnv), vs, (congrArg (fun zq => (Value.agg #[.int .i64 zq, (.slice Aav (ab).length Cav), (.slice Anv (vs).length Cnv)])) (by first | rfl | simp_all)), cn, (Lo.down c om), co, (Lo.down b om), cp, D, (fun g hm hg => by exact f _ hg hm), C, om, hr, dQ, E⟩

/-- spec.l10Accepts -/
theorem Zat {w : World} {LL_pL o : Nat} {c : Value} {pL : List Int} (a : Ls ics 1 w LL_pL o c pL) (pfirst : Int) (plast : Int) {LL_pF p : Nat} {e : Value} {pF : List Int} (b : Ls ics 1 w LL_pF p e pF) (pnull : Bool) (set : Int) :
 Ctr Try.prog 136 #[(.agg #[c, (.int .i64 pfirst), (.int .i64 plast), e, (.bool pnull)]), (.int .i64 set)] w (fun v w' => v = .bool (accB plast pnull set) ∧ Ch [] w w') := by
 obtain ⟨f, g, j⟩ := a.val
 subst j
 have q := a.len
 have a := a.here (by decide)
 obtain ⟨h, i, k⟩ := b.val
 subst k
 have r := b.len
 have b := b.here (by decide)
 have E := Ch.refl [] w
 refine Yh (N := 20) (vs0 := [(.agg #[(.slice f pL.length g), (.int .i64 pfirst), (.int .i64 plast), (.slice h pF.length i), (.bool pnull)]), (.int .i64 set)]) Try.func136 rfl rfl rfl ?_
 refine Zg fun K1 H1 => ?_
 refine Zc (Zk rfl rfl ?_)
 refine Xw rfl fun s W2 n C2 x => ?_
 have y := C2.size
 have E := E.trans C2
 have z := n.lt
 replace n : Blk W2 s 48 [(.slice f pL.length g), (.int .i64 pfirst), (.int .i64 plast), (.slice h pF.length i), (.bool pnull)] := n
 refine Za rfl rfl (Ze rfl) (Zf (Zb (H1 _ _ ?_)))
 refine Zg fun K3 H3 => ?_
 refine Zc (Za rfl rfl (Zd rfl) (Za rfl rfl (Zgu rfl rfl) (Za rfl rfl (Xu rfl rfl) (Za rfl rfl (Zd rfl) ?_))))
 refine Ym (d := 8) rfl (fun l => ?_) (fun l => ?_)
 ·have t := l
  have l := Yo l
  refine Za rfl rfl (Zh fa48_4 rfl) (Za rfl rfl (Zp n.at_ agg4 rfl rfl) (Za rfl rfl (Zw rfl rfl) (Za rfl rfl (Zd rfl) ?_)))
  refine Ym (d := 12) rfl (fun m => ?_) (fun m => ?_)
  ·have u := m
   refine Zj rfl rfl (Zj rfl rfl (Zj rfl rfl (Zj rfl rfl (Zj rfl rfl (Zj rfl rfl (Za rfl rfl (Zw rfl rfl) (Za rfl rfl (Ze rfl) ?_)))))))
   refine Zf (Zb (H3 _ _ ?_))
   refine Zs ?_
   exact Zi [_] ⟨rfl, trivial⟩ ⟨congrArg Value.bool (by unfold accB; simp_all), E⟩
  have u := m
  refine Za rfl rfl (Zd rfl) (Za rfl rfl (Zjk om rfl rfl) (Za rfl rfl (Zh fa48_2 rfl) (Za rfl rfl (Zp n.at_ agg3 rfl rfl) (Za rfl rfl (Zgu rfl rfl) (Za rfl rfl (Zbb rfl rfl) (Za rfl rfl (Zv rfl rfl) (Za rfl rfl (Ze rfl) ?_)))))))
  refine Zf (Zb (H3 _ _ ?_))
  refine Zs ?_
  exact Zi [_] ⟨rfl, trivial⟩ ⟨congrArg Value.bool (by unfold accB; simp_all), E⟩
 have t := l
 have l := Yp l
 refine Zj rfl rfl (Zj rfl rfl (Za rfl rfl (Zv rfl rfl) (Za rfl rfl (Zd rfl) (Za rfl rfl (Zd rfl) (Za rfl rfl (Zjk om rfl rfl) (Za rfl rfl (Zh fa48_2 rfl) (Za rfl rfl (Zp n.at_ agg3 rfl rfl) ?_)))))))
 refine Za rfl rfl (Zgu rfl rfl) (Za rfl rfl (Zbb rfl rfl) (Za rfl rfl (Zv rfl rfl) (Za rfl rfl (Ze rfl) (Zf (Zb (H3 _ _ ?_))))))
 refine Zs ?_
 exact Zi [_] ⟨rfl, trivial⟩ ⟨congrArg Value.bool (by unfold accB; simp_all), E⟩

/-- spec.l10After -/
theorem Zin {w : World} {LL_pL M : Nat} {B : Value} {pL : List Int} (l : Ls ics 1 w LL_pL M B pL) (pfirst : Int) (plast : Int) {LL_pF O : Nat} {C : Value} {pF : List Int} (n : Ls ics 1 w LL_pF O C pF) (pnull : Bool) (set : Int) (letter : Int) (hF : pF.length = pL.length) (hn : pL.length ≤ 20) :
 Ctr Try.prog 134 #[(.agg #[B, (.int .i64 pfirst), (.int .i64 plast), C, (.bool pnull)]), (.int .i64 set), (.int .i64 letter)] w (fun v w' => v = .int .i64 (Zgi pL pfirst pF set letter) ∧ Ch [] w w') := by
 obtain ⟨p, r, D⟩ := l.val
 subst D
 have aj := l.len
 have l := l.here (by decide)
 obtain ⟨s, t, F⟩ := n.val
 subst F
 have ak := n.len
 have n := n.here (by decide)
 have E := Ch.refl [] w
 refine Yh (N := 63) (vs0 := [(.agg #[(.slice p pL.length r), (.int .i64 pfirst), (.int .i64 plast), (.slice s pF.length t), (.bool pnull)]), (.int .i64 set), (.int .i64 letter)]) Try.func134 rfl rfl rfl ?_
 refine Zg fun K1 H1 => ?_
 refine Zc (Zk rfl rfl ?_)
 refine Xw rfl fun A W2 L C2 aT => ?_
 have aU := C2.size
 have E := E.trans C2
 have aV := L.lt
 replace L : Blk W2 A 48 [(.slice p pL.length r), (.int .i64 pfirst), (.int .i64 plast), (.slice s pF.length t), (.bool pnull)] := L
 refine Za rfl rfl (Ze rfl) (Zf (Zb (H1 _ _ ?_)))
 refine Zg fun K3 H3 => ?_
 refine Zc (Za rfl rfl (Ze rfl) (Zf (Zb (H3 _ _ ?_))))
 refine Zg fun K4 H4 => ?_
 refine Zg fun K5 H5 => ?_
 refine Zc (Za rfl rfl (Zd rfl) (Za rfl rfl (Zgu rfl rfl) (Za rfl rfl (Xu rfl rfl) (Zf (Zb (H5 _ _ ?_))))))
 refine Zx rfl (fun j => ?_) (fun j => ?_)
 ·have aw := j
  have j := Yo j
  refine Zc (Za rfl rfl (Zh fa48_1 rfl) (Za rfl rfl (Zp L.at_ agg3 rfl rfl) (Za rfl rfl (Ze rfl) (Zf (Zb (H4 _ _ ?_))))))
  refine Zg fun K7 H7 => ?_
  refine Zg fun K8 H8 => ?_
  refine Zc (Za rfl rfl (Ze rfl) (Zf (Zb (H8 _ _ ?_))))
  refine Yf ?_
  refine Xo (σ := Nat × Int) (fun ⟨k, m⟩ => [(1, (.int .i64 set)), (2, (.int .i64 letter)), (3, (.pointer (some ⟨A, 0, none⟩))), (6, (.int .i64 0)), (7, (.int .i64 m)), (8, (.int .i64 ((k : Nat) : Int)))]) (fun ⟨k, m⟩ wx => Ch [] w wx ∧ W2.heap.size ≤ wx.heap.size ∧ (k ≤ pL.length) ∧ (m = nxt pF set (if iand set 1 = 1 then pfirst else 0) k) ∧ Blk wx A 48 [(.slice p pL.length r), (.int .i64 pfirst), (.int .i64 plast), (.slice s pF.length t), (.bool pnull)]) (fun ⟨k, m⟩ => pL.length - k) (0, pfirst) (sC4 rfl rfl rfl rfl (sC2 rfl rfl (Sub.nil _))) ⟨E, (Nat.le_refl _), om, (by first | exact (if_pos j).symm | exact (if_neg j).symm), L⟩ ?_
  rintro ⟨k, m⟩ R9 ⟨E, R, ax, hm, e⟩
  have y := E
  have P := y.size
  have G := e.lt
  refine Zg fun aW al => ?_
  refine Zg fun aX ay => ?_
  refine Zc (Za rfl rfl (Zd rfl) (Za rfl rfl (Zh fa48_0 rfl) (Za rfl rfl (Zp e.at_ agg30 rfl rfl) (Za rfl rfl (Xm (by rw [el30]; rfl) rfl) (Za rfl rfl (Xv rfl rfl) (Zf (Zb (ay _ _ ?_))))))))
  refine Zx rfl (fun h => ?_) (fun h => ?_)
  ·have S := h
   have h := Yo h
   refine Zu ?_
   refine Zb (al _ _ ?_)
   refine Zg fun aY am => ?_
   refine Yf ?_
   refine Zg fun aZ az => ?_
   refine Zc (Za rfl rfl (Zd rfl) (Za rfl rfl (Zd rfl) (Za rfl rfl (Yq om rfl rfl) (Za rfl rfl (Zjk om rfl rfl) (Za rfl rfl (Zgu rfl rfl) (Za rfl rfl (Xu rfl rfl) (Zf ?_)))))))
   refine Zb (az _ _ ?_)
   refine Zx rfl (fun c => ?_) (fun c => ?_)
   ·have T := c
    have c := Yo c
    refine Zc (Za rfl rfl (Zd rfl) (Za rfl rfl (Zh fa48_3 rfl) (Za rfl rfl (Zp e.at_ agg30 rfl rfl) (Za rfl rfl (Zd rfl) (Zk rfl rfl ?_)))))
    have aA := n.ch0 y
    refine (Yy aA Yl el30 sz3 rfl rfl rfl om fun U H u I => ?_)
    refine Za rfl rfl (Yk I agg3 rfl rfl) (Za rfl rfl (r_or rfl rfl) (Za rfl rfl (Ze rfl) (Zf (Yc (Zb (am _ _ (Zc (Za rfl rfl (Zd rfl) ?_))))))))
    refine Za rfl rfl (Yq om rfl rfl) (Za rfl rfl (Ze rfl) (Zf ?_))
    exact Zb (Exists.intro ((k + 1), (ior m H)) ⟨⟨E, om, om, (by first | exact Zri c hm u | exact Zre c hm), e⟩, sC4 rfl rfl rfl rfl (sC2 rfl rfl (Sub.nil _)), (by first | omega | (dsimp only; omega))⟩)
   have T := c
   have c := Yp c
   refine Zu ?_
   refine Yc (Zb (am _ _ (Zc (Za rfl rfl (Zd rfl) (Za rfl rfl (Yq om rfl rfl) (Za rfl rfl (Ze rfl) (Zf ?_)))))))
   exact Zb (Exists.intro ((k + 1), m) ⟨⟨E, om, om, (by first | exact Zri c hm u | exact Zre c hm), e⟩, sC4 rfl rfl rfl rfl (sC2 rfl rfl (Sub.nil _)), (by first | omega | (dsimp only; omega))⟩)
  have S := h
  have h := Yp h
  refine Xk (Ya (Ya (Xd ?_)))
  refine Zb (H7 _ _ ?_)
  refine Zg fun a0 aB => ?_
  refine Zc (Za rfl rfl (Ze rfl) (Zf (Zb (aB _ _ ?_))))
  refine Zg fun a1 aC => ?_
  refine Zg fun a2 aD => ?_
  refine Zc (Za rfl rfl (Ze rfl) (Zf (Zb (aD _ _ ?_))))
  refine Yf ?_
  refine Xo (σ := Nat × Int) (fun ⟨q, o⟩ => [(2, (.int .i64 letter)), (3, (.pointer (some ⟨A, 0, none⟩))), (6, (.int .i64 0)), (7, (.int .i64 m)), (9, (.int .i64 o)), (10, (.int .i64 ((q : Nat) : Int)))]) (fun ⟨q, o⟩ wx => Ch [] w wx ∧ R9.heap.size ≤ wx.heap.size ∧ (q ≤ pL.length) ∧ (o = outP pL (nxt pF set (if iand set 1 = 1 then pfirst else 0) pL.length) letter q) ∧ Blk wx A 48 [(.slice p pL.length r), (.int .i64 pfirst), (.int .i64 plast), (.slice s pF.length t), (.bool pnull)]) (fun ⟨q, o⟩ => pL.length - q) (0, 0) (sC4 rfl rfl rfl rfl (sC2 rfl rfl (Sub.nil _))) ⟨E, (Nat.le_refl _), om, rfl, e⟩ ?_
  rintro ⟨q, o⟩ a3 ⟨E, V, hq, ho, f⟩
  have z := E
  have Q := z.size
  have J := f.lt
  have x : m = nxt pF set (if iand set 1 = 1 then pfirst else 0) pL.length := by rw [hm, show k = pL.length by omega]
  refine Zg fun a4 an => ?_
  refine Zg fun a5 aE => ?_
  refine Zc (Za rfl rfl (Zd rfl) (Za rfl rfl (Zh fa48_0 rfl) (Za rfl rfl (Zp f.at_ agg30 rfl rfl) (Za rfl rfl (Xm (by rw [el30]; rfl) rfl) (Za rfl rfl (Xv rfl rfl) (Zf (Zb (aE _ _ ?_))))))))
  refine Zx rfl (fun i => ?_) (fun i => ?_)
  ·have X := i
   have i := Yo i
   refine Zu ?_
   refine Zb (an _ _ ?_)
   refine Zg fun a6 Y => ?_
   refine Yf ?_
   refine Zg fun a7 ao => ?_
   refine Zc (Za rfl rfl (Zd rfl) (Za rfl rfl (Zd rfl) (Za rfl rfl (Zjk om rfl rfl) (Za rfl rfl (Zgu rfl rfl) (Za rfl rfl (Xu rfl rfl) (Za rfl rfl (Zd rfl) ?_))))))
   refine Ym (d := 48) rfl (fun a => ?_) (fun a => ?_)
   ·have Z := a
    have a := Yo a
    refine Za rfl rfl (Zh fa48_0 rfl) (Za rfl rfl (Zp f.at_ agg30 rfl rfl) (Za rfl rfl (Zd rfl) (Zk rfl rfl ?_)))
    have aF := l.ch0 z
    refine (Yy aF Yl el30 sz3 rfl rfl rfl om fun aa ab g K => ?_)
    refine Za rfl rfl (Yk K agg3 rfl rfl) (Za rfl rfl (Zd rfl) (Za rfl rfl (Xu rfl rfl) (Za rfl rfl (Zw rfl rfl) (Zf (Zb (ao _ _ ?_))))))
    refine Zx rfl (fun b => ?_) (fun b => ?_)
    ·have ac := b
     have b := Yo b
     refine Zc (Za rfl rfl (Zd rfl) (Za rfl rfl (Zd rfl) (Za rfl rfl (Yq om rfl rfl) (Za rfl rfl (Ztp om rfl rfl) (Za rfl rfl (r_or rfl rfl) (Za rfl rfl (Ze rfl) (Zf ?_)))))))
     refine Yc (Zb (Y _ _ (Zc (Za rfl rfl (Zd rfl) (Za rfl rfl (Yq om rfl rfl) (Za rfl rfl (Ze rfl) (Zf ?_)))))))
     exact Zb (Exists.intro ((q + 1), (ior o (ishl 1 (((q : Nat) : Int) + 1)))) ⟨⟨E, om, om, (by first | exact Znq g b (by rw [← x]; exact a) ho | exact Ziw (by rw [← x]; exact a) ho | exact Ziy g b ho), f⟩, sC4 rfl rfl rfl rfl (sC2 rfl rfl (Sub.nil _)), (by first | omega | (dsimp only; omega))⟩)
    have ac := b
    have b := Yp b
    refine Zu ?_
    refine Yc (Zb (Y _ _ (Zc (Za rfl rfl (Zd rfl) (Za rfl rfl (Yq om rfl rfl) (Za rfl rfl (Ze rfl) (Zf ?_)))))))
    exact Zb (Exists.intro ((q + 1), o) ⟨⟨E, om, om, (by first | exact Znq g b (by rw [← x]; exact a) ho | exact Ziw (by rw [← x]; exact a) ho | exact Ziy g b ho), f⟩, sC4 rfl rfl rfl rfl (sC2 rfl rfl (Sub.nil _)), (by first | omega | (dsimp only; omega))⟩)
   have Z := a
   have a := Yp a
   refine Zj rfl rfl (Zj rfl rfl (Zj rfl rfl (Zj rfl rfl (Zj rfl rfl (Zj rfl rfl (Zj rfl rfl (Za rfl rfl (Zv rfl rfl) ?_)))))))
   refine Zf (Zb (ao _ _ ?_))
   refine Xn rfl ?_
   refine Zu ?_
   refine Yc (Zb (Y _ _ (Zc (Za rfl rfl (Zd rfl) (Za rfl rfl (Yq om rfl rfl) (Za rfl rfl (Ze rfl) (Zf ?_)))))))
   exact Zb (Exists.intro ((q + 1), o) ⟨⟨E, om, om, (by first | exact Znq g b (by rw [← x]; exact a) ho | exact Ziw (by rw [← x]; exact a) ho | exact Ziy g b ho), f⟩, sC4 rfl rfl rfl rfl (sC2 rfl rfl (Sub.nil _)), (by first | omega | (dsimp only; omega))⟩)
  have X := i
  have i := Yp i
  refine Xk (Ya (Ya (Xd ?_)))
  refine Zb (aC _ _ ?_)
  refine Zg fun a8 aG => ?_
  refine Zc (Za rfl rfl (Zd rfl) (Za rfl rfl (Ze rfl) (Zf (Zb (aG _ _ ?_)))))
  refine Zs ?_
  clear al an
  exact Zi [_] ⟨rfl, trivial⟩ ⟨congrArg (Value.int .i64) (by unfold Zgi; rw [ho, show q = pL.length by omega]), E⟩
 have aw := j
 have j := Yp j
 refine Zu ?_
 refine Zb (H4 _ _ ?_)
 refine Zg fun a9 aH => ?_
 refine Zg fun ba aI => ?_
 refine Zc (Za rfl rfl (Ze rfl) (Zf (Zb (aI _ _ ?_))))
 refine Yf ?_
 refine Xo (σ := Nat × Int) (fun ⟨k, m⟩ => [(1, (.int .i64 set)), (2, (.int .i64 letter)), (3, (.pointer (some ⟨A, 0, none⟩))), (6, (.int .i64 0)), (7, (.int .i64 m)), (8, (.int .i64 ((k : Nat) : Int)))]) (fun ⟨k, m⟩ wx => Ch [] w wx ∧ W2.heap.size ≤ wx.heap.size ∧ (k ≤ pL.length) ∧ (m = nxt pF set (if iand set 1 = 1 then pfirst else 0) k) ∧ Blk wx A 48 [(.slice p pL.length r), (.int .i64 pfirst), (.int .i64 plast), (.slice s pF.length t), (.bool pnull)]) (fun ⟨k, m⟩ => pL.length - k) (0, 0) (sC4 rfl rfl rfl rfl (sC2 rfl rfl (Sub.nil _))) ⟨E, (Nat.le_refl _), om, (by first | exact (if_pos j).symm | exact (if_neg j).symm), L⟩ ?_
 rintro ⟨k, m⟩ aJ ⟨E, R, ax, hm, e⟩
 have y := E
 have P := y.size
 have G := e.lt
 refine Zg fun bb ap => ?_
 refine Zg fun bc aK => ?_
 refine Zc (Za rfl rfl (Zd rfl) (Za rfl rfl (Zh fa48_0 rfl) (Za rfl rfl (Zp e.at_ agg30 rfl rfl) (Za rfl rfl (Xm (by rw [el30]; rfl) rfl) (Za rfl rfl (Xv rfl rfl) (Zf (Zb (aK _ _ ?_))))))))
 refine Zx rfl (fun h => ?_) (fun h => ?_)
 ·have ad := h
  have h := Yo h
  refine Zu ?_
  refine Zb (ap _ _ ?_)
  refine Zg fun be aq => ?_
  refine Yf ?_
  refine Zg fun bf aL => ?_
  refine Zc (Za rfl rfl (Zd rfl) (Za rfl rfl (Zd rfl) (Za rfl rfl (Yq om rfl rfl) (Za rfl rfl (Zjk om rfl rfl) (Za rfl rfl (Zgu rfl rfl) (Za rfl rfl (Xu rfl rfl) (Zf ?_)))))))
  refine Zb (aL _ _ ?_)
  refine Zx rfl (fun c => ?_) (fun c => ?_)
  ·have ae := c
   have c := Yo c
   refine Zc (Za rfl rfl (Zd rfl) (Za rfl rfl (Zh fa48_3 rfl) (Za rfl rfl (Zp e.at_ agg30 rfl rfl) (Za rfl rfl (Zd rfl) (Zk rfl rfl ?_)))))
   have aM := n.ch0 y
   refine (Yy aM Yl el30 sz3 rfl rfl rfl om fun U H u I => ?_)
   refine Za rfl rfl (Yk I agg3 rfl rfl) (Za rfl rfl (r_or rfl rfl) (Za rfl rfl (Ze rfl) (Zf (Yc (Zb (aq _ _ (Zc (Za rfl rfl (Zd rfl) ?_))))))))
   refine Za rfl rfl (Yq om rfl rfl) (Za rfl rfl (Ze rfl) (Zf ?_))
   exact Zb (Exists.intro ((k + 1), (ior m H)) ⟨⟨E, om, om, (by first | exact Zri c hm u | exact Zre c hm), e⟩, sC4 rfl rfl rfl rfl (sC2 rfl rfl (Sub.nil _)), (by first | omega | (dsimp only; omega))⟩)
  have ae := c
  have c := Yp c
  refine Zu ?_
  refine Yc (Zb (aq _ _ (Zc (Za rfl rfl (Zd rfl) (Za rfl rfl (Yq om rfl rfl) (Za rfl rfl (Ze rfl) (Zf ?_)))))))
  exact Zb (Exists.intro ((k + 1), m) ⟨⟨E, om, om, (by first | exact Zri c hm u | exact Zre c hm), e⟩, sC4 rfl rfl rfl rfl (sC2 rfl rfl (Sub.nil _)), (by first | omega | (dsimp only; omega))⟩)
 have ad := h
 have h := Yp h
 refine Xk (Ya (Ya (Xd ?_)))
 refine Zb (aH _ _ ?_)
 refine Zg fun bg aN => ?_
 refine Zc (Za rfl rfl (Ze rfl) (Zf (Zb (aN _ _ ?_))))
 refine Zg fun bh aO => ?_
 refine Zg fun bi aP => ?_
 refine Zc (Za rfl rfl (Ze rfl) (Zf (Zb (aP _ _ ?_))))
 refine Yf ?_
 refine Xo (σ := Nat × Int) (fun ⟨q, o⟩ => [(2, (.int .i64 letter)), (3, (.pointer (some ⟨A, 0, none⟩))), (6, (.int .i64 0)), (7, (.int .i64 m)), (9, (.int .i64 o)), (10, (.int .i64 ((q : Nat) : Int)))]) (fun ⟨q, o⟩ wx => Ch [] w wx ∧ aJ.heap.size ≤ wx.heap.size ∧ (q ≤ pL.length) ∧ (o = outP pL (nxt pF set (if iand set 1 = 1 then pfirst else 0) pL.length) letter q) ∧ Blk wx A 48 [(.slice p pL.length r), (.int .i64 pfirst), (.int .i64 plast), (.slice s pF.length t), (.bool pnull)]) (fun ⟨q, o⟩ => pL.length - q) (0, 0) (sC4 rfl rfl rfl rfl (sC2 rfl rfl (Sub.nil _))) ⟨E, (Nat.le_refl _), om, rfl, e⟩ ?_
 rintro ⟨q, o⟩ bj ⟨E, V, hq, ho, f⟩
 have z := E
 have Q := z.size
 have J := f.lt
 have x : m = nxt pF set (if iand set 1 = 1 then pfirst else 0) pL.length := by rw [hm, show k = pL.length by omega]
 refine Zg fun bk au => ?_
 refine Zg fun bm aQ => ?_
 refine Zc (Za rfl rfl (Zd rfl) (Za rfl rfl (Zh fa48_0 rfl) (Za rfl rfl (Zp f.at_ agg30 rfl rfl) (Za rfl rfl (Xm (by rw [el30]; rfl) rfl) (Za rfl rfl (Xv rfl rfl) (Zf (Zb (aQ _ _ ?_))))))))
 refine Zx rfl (fun i => ?_) (fun i => ?_)
 ·have af := i
  have i := Yo i
  refine Zu ?_
  refine Zb (au _ _ ?_)
  refine Zg fun bn ag => ?_
  refine Yf ?_
  refine Zg fun bp av => ?_
  refine Zc (Za rfl rfl (Zd rfl) (Za rfl rfl (Zd rfl) (Za rfl rfl (Zjk om rfl rfl) (Za rfl rfl (Zgu rfl rfl) (Za rfl rfl (Xu rfl rfl) (Za rfl rfl (Zd rfl) ?_))))))
  refine Ym (d := 48) rfl (fun a => ?_) (fun a => ?_)
  ·have ah := a
   have a := Yo a
   refine Za rfl rfl (Zh fa48_0 rfl) (Za rfl rfl (Zp f.at_ agg30 rfl rfl) (Za rfl rfl (Zd rfl) (Zk rfl rfl ?_)))
   have aR := l.ch0 z
   refine (Yy aR Yl el30 sz3 rfl rfl rfl om fun aa ab g K => ?_)
   refine Za rfl rfl (Yk K agg3 rfl rfl) (Za rfl rfl (Zd rfl) (Za rfl rfl (Xu rfl rfl) (Za rfl rfl (Zw rfl rfl) (Zf (Zb (av _ _ ?_))))))
   refine Zx rfl (fun b => ?_) (fun b => ?_)
   ·have ai := b
    have b := Yo b
    refine Zc (Za rfl rfl (Zd rfl) (Za rfl rfl (Zd rfl) (Za rfl rfl (Yq om rfl rfl) (Za rfl rfl (Ztp om rfl rfl) (Za rfl rfl (r_or rfl rfl) (Za rfl rfl (Ze rfl) (Zf ?_)))))))
    refine Yc (Zb (ag _ _ (Zc (Za rfl rfl (Zd rfl) (Za rfl rfl (Yq om rfl rfl) (Za rfl rfl (Ze rfl) (Zf ?_)))))))
    exact Zb (Exists.intro ((q + 1), (ior o (ishl 1 (((q : Nat) : Int) + 1)))) ⟨⟨E, om, om, (by first | exact Znq g b (by rw [← x]; exact a) ho | exact Ziw (by rw [← x]; exact a) ho | exact Ziy g b ho), f⟩, sC4 rfl rfl rfl rfl (sC2 rfl rfl (Sub.nil _)), (by first | omega | (dsimp only; omega))⟩)
   have ai := b
   have b := Yp b
   refine Zu ?_
   refine Yc (Zb (ag _ _ (Zc (Za rfl rfl (Zd rfl) (Za rfl rfl (Yq om rfl rfl) (Za rfl rfl (Ze rfl) (Zf ?_)))))))
   exact Zb (Exists.intro ((q + 1), o) ⟨⟨E, om, om, (by first | exact Znq g b (by rw [← x]; exact a) ho | exact Ziw (by rw [← x]; exact a) ho | exact Ziy g b ho), f⟩, sC4 rfl rfl rfl rfl (sC2 rfl rfl (Sub.nil _)), (by first | omega | (dsimp only; omega))⟩)
  have ah := a
  have a := Yp a
  refine Zj rfl rfl (Zj rfl rfl (Zj rfl rfl (Zj rfl rfl (Zj rfl rfl (Zj rfl rfl (Zj rfl rfl (Za rfl rfl (Zv rfl rfl) ?_)))))))
  refine Zf (Zb (av _ _ ?_))
  refine Xn rfl ?_
  refine Zu ?_
  refine Yc (Zb (ag _ _ (Zc (Za rfl rfl (Zd rfl) (Za rfl rfl (Yq om rfl rfl) (Za rfl rfl (Ze rfl) (Zf ?_)))))))
  exact Zb (Exists.intro ((q + 1), o) ⟨⟨E, om, om, (by first | exact Znq g b (by rw [← x]; exact a) ho | exact Ziw (by rw [← x]; exact a) ho | exact Ziy g b ho), f⟩, sC4 rfl rfl rfl rfl (sC2 rfl rfl (Sub.nil _)), (by first | omega | (dsimp only; omega))⟩)
 have af := i
 have i := Yp i
 refine Xk (Ya (Ya (Xd ?_)))
 refine Zb (aO _ _ ?_)
 refine Zg fun bq aS => ?_
 refine Zc (Za rfl rfl (Zd rfl) (Za rfl rfl (Ze rfl) (Zf (Zb (aS _ _ ?_)))))
 refine Zs ?_
 clear ap au
 exact Zi [_] ⟨rfl, trivial⟩ ⟨congrArg (Value.int .i64) (by unfold Zgi; rw [ho, show q = pL.length by omega]), E⟩

/-- spec.l11Subsets -/
theorem Zfy {w : World} {LL_pL dU : Nat} {c2 : Value} {pL : List Int} (Z : Ls ics 1 w LL_pL dU c2 pL) (pfirst : Int) (plast : Int) {LL_pF dW : Nat} {c3 : Value} {pF : List Int} (aa : Ls ics 1 w LL_pF dW c3 pF) (pnull : Bool) (most : Int) (hF : pF.length = pL.length) (hn : pL.length ≤ 20) (hm : 1 ≤ most ∧ most ≤ 12) :
 Ctr Try.prog 120 #[(.agg #[c2, (.int .i64 pfirst), (.int .i64 plast), c3, (.bool pnull)]), (.int .i64 most)] w (fun v w' => ∃ (dX : Int) (c4 : List Bool) (bg : List (List Int)) (gf : Bool) (bh : Value) (bi : Value) (aV : List Sv), v = .tuple #[.agg #[.int .i64 dX, bh, bi], .bool gf] ∧ Ol bcs 4 1 w' bh (c4) ∧ Lo w.heap.size bh ∧ Ol Sv.cs 30 1 w' bi aV ∧ Lo w.heap.size bi ∧ Od ics 3 1 w' w.heap.size w'.heap.size aV (bg) ∧ Sep bi aV ∧ (∀ g ∈ bl bh, g ∉ bl bi) ∧ Sep bh aV ∧ (gf = true → 1 ≤ bg.length ∧ bg.length ≤ 12 ∧ c4.length = bg.length ∧ ∀ r ∈ bg, r.length = 9) ∧ Ch [] w w') := by
 obtain ⟨bL, bM, dj⟩ := Z.val
 subst dj
 have gg := Z.len
 have Z := Z.here (by decide)
 obtain ⟨bN, bO, dk⟩ := aa.val
 subst dk
 have gh := aa.len
 have aa := aa.here (by decide)
 have E := Ch.refl [] w
 refine Yh (N := 73) (vs0 := [(.agg #[(.slice bL pL.length bM), (.int .i64 pfirst), (.int .i64 plast), (.slice bN pF.length bO), (.bool pnull)]), (.int .i64 most)]) Try.func120 rfl rfl rfl ?_
 refine Zg fun K1 H1 => ?_
 refine Zc (Zk rfl rfl ?_)
 refine Xw rfl fun dY W2 ez C2 iI => ?_
 have iJ := C2.size
 have E := E.trans C2
 have iK := ez.lt
 replace ez : Blk W2 dY 48 [(.slice bL pL.length bM), (.int .i64 pfirst), (.int .i64 plast), (.slice bN pF.length bO), (.bool pnull)] := ez
 refine Zk rfl rfl ?_
 refine Yr zr27 fun dl W3 eA C3 iL => ?_
 have iM := C3.size
 have E := E.trans C3
 have iN := eA.lt
 replace eA : Blk W3 dl 27 [(.int .i64 0), (.slice none 0 0), (.slice none 0 0)] := eA
 refine Za rfl rfl (Ze rfl) (Zf (Zb (H1 _ _ ?_)))
 refine Zg fun K4 H4 => ?_
 refine Zc (Za rfl rfl (Yt (parts := []) (cells := [(.int .i64 0), (.slice none 0 0), (.slice none 0 0)]) zr27 pl27 rfl rfl) (Zk rfl rfl ?_))
 refine Yr zr27 fun U W5 eB C5 iO => ?_
 have iP := C5.size
 have E := E.trans C5
 have iQ := eB.lt
 replace eB : Blk W5 U 27 [(.int .i64 0), (.slice none 0 0), (.slice none 0 0)] := eB
 refine Zk rfl rfl ?_
 refine Zy (off := 0) 3 eB sz27 rfl (us := [(.int .i64 0), (.slice none 0 0), (.slice none 0 0)]) rfl rfl rfl rfl fun W6 dm C6 => ?_
 have iR := C6.size
 have E := E.step C6 (lS om)
 replace dm : Blk W6 U 27 [(.int .i64 0), (.slice none 0 0), (.slice none 0 0)] := dm
 refine Zf (Zb (H4 _ _ ?_))
 refine Zg fun K8 H8 => ?_
 refine Zc (Zk rfl rfl ?_)
 refine Zr (cs := ics) (parts := [(0, .const (Go.Value.int Go.IntKind.i64 1))]) (0 : Int) [1] el30 sz3 zr3 Yl (by decide) rfl rfl rfl (by decide) (by decide) rfl fun he W9 dZ d0 C9 => ?_
 have iS := C9.size
 have E := E.trans C9
 obtain ⟨c5, c6, rfl, gi, eD⟩ := dZ.opn
 refine Za rfl rfl (Ze rfl) (Zf (Zb (H8 _ _ ?_)))
 refine Zg fun iT gj => ?_
 refine Zg fun iU hf => ?_
 refine Zc (Za rfl rfl (Ze rfl) (Zf (Zb (hf _ _ ?_))))
 refine Yf ?_
 have dn : Ol ics 3 1 W9 (.slice c5 ([1]).length c6) ([(1 : Int)]) := by
  have hx := dZ
  exact hx
 have dp : Ol bcs 4 1 W9 (.slice none 0 0) (([] : List Bool)) := by
  have hx := Ol.nil (cs := bcs) (e := 4) (k := 1) W9
  exact hx
 have dq : Ol Sv.cs 30 1 W9 (.slice none 0 0) (([] : List Sv)) := by
  have hx := Ol.nil (cs := Sv.cs) (e := 30) (k := 1) W9
  exact hx
 have hh := dm.ch0 C9
 have hj := (((ez.ch0 C3).ch0 C5).ch C6 (nS om)).ch0 C9
 have hk := ((eA.ch0 C5).ch C6 (nS om)).ch0 C9
 refine Xo (σ := Nat × List Bool × List Sv × List (List Int) × List Int × Value × Value × Value) (fun ⟨s, ab, vs, rs, sets, sv, av, nv⟩ => [(1, (.int .i64 most)), (2, (.pointer (some ⟨dY, 0, none⟩))), (4, (.pointer (some ⟨dl, 0, none⟩))), (6, (.pointer (some ⟨U, 0, none⟩))), (7, sv), (8, (.int .i64 ((s : Nat) : Int)))]) (fun ⟨s, ab, vs, rs, sets, sv, av, nv⟩ wx => Ch [] w wx ∧ W9.heap.size ≤ wx.heap.size ∧ (s ≤ sets.length ∧ 1 ≤ sets.length ∧ (sets.length : Int) ≤ most) ∧ (ab.length = s ∧ rs.length = s ∧ vs.length = s) ∧ (∀ r ∈ rs, r.length = 9) ∧ Blk wx dY 48 [(.slice bL pL.length bM), (.int .i64 pfirst), (.int .i64 plast), (.slice bN pF.length bO), (.bool pnull)] ∧ Blk wx dl 27 [(.int .i64 0), (.slice none 0 0), (.slice none 0 0)] ∧ Ol ics 3 1 wx sv sets ∧ Lo W6.heap.size sv ∧ Ol bcs 4 1 wx av ab ∧ Lo W9.heap.size av ∧ Ol Sv.cs 30 1 wx nv vs ∧ Lo W9.heap.size nv ∧ Od ics 3 1 wx W9.heap.size wx.heap.size vs rs ∧ Blk wx U 27 [(.int .i64 0), av, nv] ∧ (∀ g ∈ bl av, g ∉ bl sv) ∧ (U ∉ bl av) ∧ (∀ g ∈ bl nv, g ∉ bl sv) ∧ (∀ g ∈ bl nv, g ∉ bl av) ∧ (U ∉ bl nv) ∧ (Sep sv vs) ∧ (Sep av vs) ∧ (Sep nv vs)) (fun ⟨s, ab, vs, rs, sets, sv, av, nv⟩ => most.toNat - s) (0, ([] : List Bool), ([] : List Sv), ([] : List (List Int)), [(1 : Int)], (.slice c5 ([1]).length c6), (.slice none 0 0), (.slice none 0 0)) (sC4 rfl rfl rfl rfl (sC2 rfl rfl (Sub.nil _))) ⟨E, (Nat.le_refl _), (by simp; omega), ⟨rfl, rfl, rfl⟩, (fun r h => by cases h), hj, hk, dn, d0, dp, (Lo.nil _), dq, (Lo.nil _), Od.nil, hh, (fun g hm hg => by cases hm), (fun hm => by cases hm), (fun g hm hg => by cases hm), (fun g hm hg => by cases hm), (fun hm => by cases hm), (fun u hu => by cases hu), (fun u hu => by cases hu), (fun u hu => by cases hu)⟩ ?_
 rintro ⟨s, ab, vs, rs, sets, sv, av, nv⟩ gk ⟨E, ho, hs, hl, hr, c7, b4, c8, b5, bp, c, bq, b, od, c9, br, p, bs, o, q, cx, K, L⟩
 have eE := E
 have gl := eE.size
 have eF := c7.lt
 have eG := b4.lt
 obtain ⟨Asv, Csv, rfl, lsv, hisv⟩ := c8.opn
 obtain ⟨Aav, Cav, rfl, lav, hiav⟩ := bp.opn
 obtain ⟨Anv, Cnv, rfl, lnv, hinv⟩ := bq.opn
 refine Zg fun iV hp => ?_
 refine Zg fun iW hq => ?_
 refine Zc (Za rfl rfl (Zd rfl) (Za rfl rfl (Zd rfl) (Za rfl rfl (Xm (by rw [el30]; rfl) rfl) (Za rfl rfl (Xv rfl rfl) (Zf (Zb (hq _ _ ?_)))))))
 refine Zx rfl (fun bu => ?_) (fun bu => ?_)
 ·have eH := bu
  have bu := Yo bu
  refine Zu ?_
  refine Zb (hp _ _ ?_)
  refine Zg fun iX dR => ?_
  refine Yf ?_
  refine Zg fun iY ht => ?_
  refine Zc (Zk rfl rfl ?_)
  refine Xt (k := 1) ics el30 sz3 fun hv eI d1 b6 cy => ?_
  have hw := cy.size
  have E := E.trans cy
  obtain ⟨da, db, rfl, gm, b7⟩ := d1.opn
  refine Za rfl rfl (Ze rfl) (Zf (Zb (ht _ _ ?_)))
  refine Zg fun iZ hy => ?_
  refine Zg fun i0 hz => ?_
  refine Zc (Za rfl rfl (Ze rfl) (Zf (Zb (hz _ _ ?_))))
  refine Yf ?_
  have hA := c8.ch0 cy
  have dr : Ol ics 3 1 eI (.slice Asv (sets).length Csv) (sets) := by
   have hx := hA
   exact hx
  have ds : Ol ics 3 1 eI (.slice da (([] : List Int)).length db) (([] : List Int)) := by
   have hx := d1
   exact hx
  have gn := od.ch0 cy
  have hB := c7.ch0 cy
  have hC := b4.ch0 cy
  have hD := c9.ch0 cy
  have hE := bp.ch0 cy
  have hG := bq.ch0 cy
  refine Xo (σ := Nat × List Int × List Int × Value × Value) (fun ⟨k, row, us, uv, rv⟩ => [(1, (.int .i64 most)), (2, (.pointer (some ⟨dY, 0, none⟩))), (4, (.pointer (some ⟨dl, 0, none⟩))), (6, (.pointer (some ⟨U, 0, none⟩))), (7, uv), (8, (.int .i64 ((s : Nat) : Int))), (9, rv), (10, (.int .i64 ((k : Nat) : Int))), (18, (.bool (decide (((s : Nat) : Int) < ((sets.length : Nat) : Int)))))]) (fun ⟨k, row, us, uv, rv⟩ wx => Ch [] w wx ∧ eI.heap.size ≤ wx.heap.size ∧ (k ≤ 9 ∧ row.length = k) ∧ (sets.length ≤ us.length ∧ us.length ≤ sets.length + k) ∧ Blk wx dY 48 [(.slice bL pL.length bM), (.int .i64 pfirst), (.int .i64 plast), (.slice bN pF.length bO), (.bool pnull)] ∧ Blk wx dl 27 [(.int .i64 0), (.slice none 0 0), (.slice none 0 0)] ∧ Blk wx U 27 [(.int .i64 0), (.slice Aav (ab).length Cav), (.slice Anv (vs).length Cnv)] ∧ Ol bcs 4 1 wx (.slice Aav (ab).length Cav) ab ∧ Ol Sv.cs 30 1 wx (.slice Anv (vs).length Cnv) vs ∧ Ol ics 3 1 wx uv us ∧ Lo W6.heap.size uv ∧ Ol ics 3 1 wx rv row ∧ Lo gk.heap.size rv ∧ Od ics 3 1 wx W9.heap.size gk.heap.size vs rs ∧ (∀ g ∈ bl uv, g ∉ bl (.slice Aav (ab).length Cav)) ∧ (∀ g ∈ bl uv, g ∉ bl (.slice Anv (vs).length Cnv)) ∧ (∀ g ∈ bl rv, g ∉ bl uv) ∧ (Sep uv vs) ∧ (Sep rv vs)) (fun ⟨k, row, us, uv, rv⟩ => 9 - k) (0, ([] : List Int), sets, (.slice Asv (sets).length Csv), (.slice da (([] : List Int)).length db)) (sC8 rfl rfl rfl rfl rfl rfl rfl rfl (sC1 rfl (Sub.nil _))) ⟨E, (Nat.le_refl _), ⟨by omega, rfl⟩, om, hB, hC, hD, hE, hG, dr, b5, ds, b6, gn, (fun g hm hg => by exact br _ hg hm), (fun g hm hg => by exact bs _ hg hm), (fun g hm hg => by have z := b6 _ hm; have H := b7 _ hm; have P := b5 _ hg; have Q := hisv _ hg; omega), cx, (Od.sepO gn (fun g hm => by have z := b6 _ hm; have H := b7 _ hm; omega))⟩ ?_
  rintro ⟨k, row, us, uv, rv⟩ i1 ⟨E, hH, i2, hu, b8, Y, ac, al, am, bP, m, ad, a, od, f, j, y, R, X⟩
  have aw := E
  have gp := aw.size
  have eJ := b8.lt
  have eK := Y.lt
  have eL := ac.lt
  obtain ⟨Auv, Cuv, rfl, luv, C⟩ := bP.opn
  obtain ⟨Arv, Crv, rfl, lrv, hirv⟩ := ad.opn
  refine Zg fun i3 gq => ?_
  refine Zg fun i4 hI => ?_
  refine Zc (Za rfl rfl (Zd rfl) (Za rfl rfl (Xv rfl rfl) (Zf (Zb (hI _ _ ?_)))))
  refine Zx rfl (fun bv => ?_) (fun bv => ?_)
  ·have eM := bv
   have bv := Yo bv
   refine Zu ?_
   refine Zb (gq _ _ ?_)
   refine Zg fun i5 eN => ?_
   refine Yf ?_
   refine Zg fun i6 hJ => ?_
   refine Yx [] 8 mixed rfl fun hK au => ?_
   have hL := au.size
   have E := E.trans au
   have eC := b8.ch0 au
   refine dT 0 rfl rfl rfl (Zn eC.at_ (fun i hi => absurd hi List.not_mem_nil) agg48 sz48 rfl ?_)
   refine dV 1 rfl rfl rfl (fun _ => Zd rfl) (dV 2 rfl rfl rfl (fun _ => Zd rfl) (dV 5 rfl rfl rfl (fun _ => Zd rfl) (dO 3 (Ye rfl rfl rfl ?_))))
   have eO := bP.ch0 au
   refine (Yy eO.ls Yl el30 sz3 rfl rfl rfl om fun hM b9 gr eP => ?_)
   refine ⟨(Ch.refl _ _), ?_⟩
   refine dT 4 rfl rfl rfl (Qo eP (fun i hi => absurd hi List.not_mem_nil) agg3 rfl rfl ?_)
   refine dO 6 (Ye rfl rfl rfl ?_)
   have hN := (Z.ch0 aw).ch0 au
   have hO := (aa.ch0 aw).ch0 au
   refine Step.call (Zl (xs := [.tmp 26, .tmp 30, .tmp 31]) fk134 rfl) (Zin hN _ _ hO _ _ _ hF hn) fun hP hQ eQ => ?_
   obtain ⟨rfl, an⟩ := eQ
   have hR := an.size
   have E := E.trans an
   have d2 : Ch [] hK hQ := ((Ch.refl _ _).trans an)
   refine ⟨d2, ?_⟩
   refine dV 7 rfl rfl rfl (fun _ => Ze rfl) ?_
   refine Yb (by kernel_rfl) ?_
   refine Zb (hJ _ _ ?_)
   refine Zg fun i7 hS => ?_
   refine Zc (Za rfl rfl (Ze rfl) (Zf (Zb (hS _ _ ?_))))
   refine Zg fun i8 eR => ?_
   refine Zg fun i9 hT => ?_
   refine Zc (Za rfl rfl (Zd rfl) (Za rfl rfl (Zbb rfl rfl) (Zf (Zb (hT _ _ ?_)))))
   refine Zx rfl (fun bw => ?_) (fun bw => ?_)
   ·have eS := bw
    have bw := Yp (Qf bw)
    refine Zg fun ja hU => ?_
    refine Zc (Za rfl rfl (Zd rfl) (Za rfl rfl (Zd rfl) (Zk rfl rfl ?_)))
    have eT := eO.ch0 an
    refine Step.call (Zl (xs := [.tmp 35, .tmp 36]) fk135 rfl) (Zek eT.ls _ ) fun hV jb eU => ?_
    obtain ⟨bj, rfl, eV, bf⟩ := eU
    have hW := bf.size
    have E := E.trans bf
    refine Za rfl rfl (Ze rfl) (Zf (Zb (hU _ _ ?_)))
    refine Zg fun jc hX => ?_
    refine Zc (Za rfl rfl (Zd rfl) (Za rfl rfl (Xv rfl rfl) (Zf (Zb (hX _ _ ?_)))))
    refine Zx rfl (fun bz => ?_) (fun bz => ?_)
    ·have eW := bz
     have bz := Yo bz
     refine Zg fun jd hY => ?_
     refine Zc (Za rfl rfl (Zd rfl) (Za rfl rfl (Xm (by rw [el30]; rfl) rfl) (Za rfl rfl (Ze rfl) (Zf (Zb (hY _ _ (Zc (Za rfl rfl (Zd rfl) ?_))))))))
     refine Za rfl rfl (Zd rfl) (Zk rfl rfl ?_)
     refine Zr (cs := ics) (parts := [(0, .tmp 43)]) (0 : Int) [Zgi pL pfirst pF b9 ((k : Nat) : Int)] el30 sz3 zr3 Yl (by decide) rfl rfl rfl (by decide) (by decide) rfl fun hZ je d3 gs ct => ?_
     have h0 := ct.size
     have E := E.trans ct
     obtain ⟨gt, gu, rfl, gv, eX⟩ := d3.opn
     refine Zk rfl rfl ?_
     have h1 := (eT.ch0 bf).ch0 ct
     refine Yj (cs := ics) el30 sz3 by3 zr3 rfl (by decide) Xz h1 d3.ls rfl rfl bd bd m om fun h2 jf d4 d5 aU cz => ?_
     have h3 := cz.size
     have E := E.step cz (fun i hi => .inl (by have z := m _ hi; omega))
     obtain ⟨dc, dd, rfl, gw, ak⟩ := d4.opn
     refine Za rfl rfl (Ze rfl) (Zf (Zb (eR _ _ (Zc (Za rfl rfl (Zd rfl) (Za rfl rfl (Zd rfl) (Zk rfl rfl ?_)))))))
     refine Zr (cs := ics) (parts := [(0, .tmp 47)]) (0 : Int) [((us.length : Nat) : Int)] el30 sz3 zr3 Yl (by decide) rfl rfl rfl (by decide) (by decide) rfl fun d6 jg bk de cu => ?_
     have h4 := cu.size
     have E := E.trans cu
     obtain ⟨df, dg, rfl, dh, ca⟩ := bk.opn
     refine Zk rfl rfl ?_
     have h5 := (((((ad.ch0 au).ch0 an).ch0 bf).ch0 ct).ch cz (fun g hg hm => by exact y _ hg hm)).ch0 cu
     refine Yj (cs := ics) el30 sz3 by3 zr3 rfl (by decide) Xz h5 bk.ls rfl rfl bd bd a om fun d7 gx bm bn ao cA => ?_
     have h6 := cA.size
     have E := E.step cA (fun i hi => .inl (by have z := a _ hi; omega))
     obtain ⟨ap, aq, rfl, di, V⟩ := bm.opn
     refine Za rfl rfl (Ze rfl) (Zf (Yc (Zb (eN _ _ (Zc (Za rfl rfl (Zd rfl) (Za rfl rfl (Yq om rfl rfl) (Za rfl rfl (Ze rfl) ?_))))))))
     refine Zf ?_
     have h7 := (d4.ch0 cu).ch cA (fun g hg hm => by rcases aU with ea | ea; (rw [ea] at hg; exact y _ hm hg); (have J := ak _ hg; rw [ea] at hg; have B := List.mem_singleton.1 hg; have z := a _ hm; have H := hirv _ hm; omega))
     have dt : Ol ics 3 1 gx (.slice dc ((us ++ [Zgi pL pfirst pF b9 ((k : Nat) : Int)])).length dd) ((us ++ [Zgi pL pfirst pF b9 ((k : Nat) : Int)])) := by
      have hx := h7
      exact hx
     have du : Ol ics 3 1 gx (.slice ap ((row ++ [((us.length : Nat) : Int)])).length aq) ((row ++ [((us.length : Nat) : Int)])) := by
      have hx := bm
      exact hx
     have eY := ((((((od.ch0 au).ch0 an).ch0 bf).ch0 ct).chS cz R).ch0 cu).chS cA X
     have h8 := (((((eC.ch0 an).ch0 bf).ch0 ct).ch cz (fun hm => by have z := m _ hm; have H := C _ hm; omega)).ch0 cu).ch cA (fun hm => by have z := a _ hm; have H := hirv _ hm; omega)
     have h9 := ((((((Y.ch0 au).ch0 an).ch0 bf).ch0 ct).ch cz (fun hm => by have z := m _ hm; have H := C _ hm; omega)).ch0 cu).ch cA (fun hm => by have z := a _ hm; have H := hirv _ hm; omega)
     have ia := ((((((ac.ch0 au).ch0 an).ch0 bf).ch0 ct).ch cz (fun hm => by have z := m _ hm; have H := C _ hm; omega)).ch0 cu).ch cA (fun hm => by have z := a _ hm; have H := hirv _ hm; omega)
     have ib := ((((((al.ch0 au).ch0 an).ch0 bf).ch0 ct).ch cz (fun g hg hm => by exact f _ hm hg)).ch0 cu).ch cA (fun g hg hm => by have z := a _ hm; have H := hirv _ hm; have P := c _ hg; have Q := hiav _ hg; omega)
     have ic := ((((((am.ch0 au).ch0 an).ch0 bf).ch0 ct).ch cz (fun g hg hm => by exact j _ hm hg)).ch0 cu).ch cA (fun g hg hm => by have z := a _ hm; have H := hirv _ hm; have P := b _ hg; have Q := hinv _ hg; omega)
     exact Zb (Exists.intro ((k + 1), (row ++ [((us.length : Nat) : Int)]), (us ++ [Zgi pL pfirst pF b9 ((k : Nat) : Int)]), (.slice dc ((us ++ [Zgi pL pfirst pF b9 ((k : Nat) : Int)])).length dd), (.slice ap ((row ++ [((us.length : Nat) : Int)])).length aq)) ⟨⟨E, om, ⟨by omega, by simp only [List.length_append, List.length_singleton]; omega⟩, (by first | omega | (simp only [List.length_append, List.length_singleton]; omega)), h8, h9, ia, ib, ic, dt, (Lo.down d5 om), du, (Lo.down bn om), eY, (fun g hm hg => by rcases aU with ea | ea; (rw [ea] at hm; exact f _ hm hg); (have t := ak _ hm; rw [ea] at hm; have B := List.mem_singleton.1 hm; have P := c _ hg; have Q := hiav _ hg; omega)), (fun g hm hg => by rcases aU with ea | ea; (rw [ea] at hm; exact j _ hm hg); (have t := ak _ hm; rw [ea] at hm; have B := List.mem_singleton.1 hm; have P := b _ hg; have Q := hinv _ hg; omega)), (fun g hm hg => by rcases ao with ea | ea; (rw [ea] at hm; rcases aU with ea | ea; (rw [ea] at hg; exact y _ hm hg); (have J := ak _ hg; rw [ea] at hg; have B := List.mem_singleton.1 hg; have z := a _ hm; have H := hirv _ hm; omega)); (have t := V _ hm; rw [ea] at hm; have B := List.mem_singleton.1 hm; rcases aU with ea | ea; (rw [ea] at hg; have P := m _ hg; have Q := C _ hg; omega); (have J := ak _ hg; rw [ea] at hg; have B := List.mem_singleton.1 hg; omega))), (fun u hu g hg hm => by rcases aU with ea | ea; (rw [ea] at hm; exact R _ hu _ hg hm); (have t := ak _ hm; rw [ea] at hm; have B := List.mem_singleton.1 hm; have b1 := eY.rng hu hg; omega)), (fun u hu g hg hm => by rcases ao with ea | ea; (rw [ea] at hm; exact X _ hu _ hg hm); (have t := V _ hm; rw [ea] at hm; have B := List.mem_singleton.1 hm; have b1 := eY.rng hu hg; omega))⟩, sC8 rfl rfl rfl rfl rfl rfl rfl rfl (sC1 rfl (Sub.nil _)), (by first | omega | (dsimp only; omega))⟩)
    have eW := bz
    have bz := Yp bz
    refine Zu ?_
    refine Zb (eR _ _ (Zc (Za rfl rfl (Zd rfl) (Za rfl rfl (Zd rfl) (Zk rfl rfl ?_)))))
    refine Zr (cs := ics) (parts := [(0, .tmp 47)]) (0 : Int) [bj] el30 sz3 zr3 Yl (by decide) rfl rfl rfl (by decide) (by decide) rfl fun d6 jh bk de cv => ?_
    have ie := cv.size
    have E := E.trans cv
    obtain ⟨df, dg, rfl, dh, ca⟩ := bk.opn
    refine Zk rfl rfl ?_
    have ig := (((ad.ch0 au).ch0 an).ch0 bf).ch0 cv
    refine Yj (cs := ics) el30 sz3 by3 zr3 rfl (by decide) Xz ig bk.ls rfl rfl bd bd a om fun d7 gy bm bn ao cB => ?_
    have ih := cB.size
    have E := E.step cB (fun i hi => .inl (by have z := a _ hi; omega))
    obtain ⟨ap, aq, rfl, di, V⟩ := bm.opn
    refine Za rfl rfl (Ze rfl) (Zf (Yc (Zb (eN _ _ (Zc (Za rfl rfl (Zd rfl) (Za rfl rfl (Yq om rfl rfl) (Za rfl rfl (Ze rfl) ?_))))))))
    refine Zf ?_
    have ii := ((eT.ch0 bf).ch0 cv).ch cB (fun g hg hm => by exact y _ hm hg)
    have dv : Ol ics 3 1 gy (.slice Auv (us).length Cuv) (us) := by
     have hx := ii
     exact hx
    have dw : Ol ics 3 1 gy (.slice ap ((row ++ [bj])).length aq) ((row ++ [bj])) := by
     have hx := bm
     exact hx
    have gz := ((((od.ch0 au).ch0 an).ch0 bf).ch0 cv).chS cB X
    have ij := (((eC.ch0 an).ch0 bf).ch0 cv).ch cB (fun hm => by have z := a _ hm; have H := hirv _ hm; omega)
    have ik := ((((Y.ch0 au).ch0 an).ch0 bf).ch0 cv).ch cB (fun hm => by have z := a _ hm; have H := hirv _ hm; omega)
    have il := ((((ac.ch0 au).ch0 an).ch0 bf).ch0 cv).ch cB (fun hm => by have z := a _ hm; have H := hirv _ hm; omega)
    have im := ((((al.ch0 au).ch0 an).ch0 bf).ch0 cv).ch cB (fun g hg hm => by have z := a _ hm; have H := hirv _ hm; have P := c _ hg; have Q := hiav _ hg; omega)
    have io := ((((am.ch0 au).ch0 an).ch0 bf).ch0 cv).ch cB (fun g hg hm => by have z := a _ hm; have H := hirv _ hm; have P := b _ hg; have Q := hinv _ hg; omega)
    exact Zb (Exists.intro ((k + 1), (row ++ [bj]), us, (.slice Auv (us).length Cuv), (.slice ap ((row ++ [bj])).length aq)) ⟨⟨E, om, ⟨by omega, by simp only [List.length_append, List.length_singleton]; omega⟩, (by first | omega | (simp only [List.length_append, List.length_singleton]; omega)), ij, ik, il, im, io, dv, (Lo.down m om), dw, (Lo.down bn om), gz, (fun g hm hg => by exact f _ hm hg), (fun g hm hg => by exact j _ hm hg), (fun g hm hg => by rcases ao with ea | ea; (rw [ea] at hm; exact y _ hm hg); (have t := V _ hm; rw [ea] at hm; have B := List.mem_singleton.1 hm; have P := m _ hg; have Q := C _ hg; omega)), (fun u hu g hg hm => by exact R _ hu _ hg hm), (fun u hu g hg hm => by rcases ao with ea | ea; (rw [ea] at hm; exact X _ hu _ hg hm); (have t := V _ hm; rw [ea] at hm; have B := List.mem_singleton.1 hm; have b1 := gz.rng hu hg; omega))⟩, sC8 rfl rfl rfl rfl rfl rfl rfl rfl (sC1 rfl (Sub.nil _)), (by first | omega | (dsimp only; omega))⟩)
   have eS := bw
   have bw := Yo (Qg bw)
   refine Zu ?_
   refine Zb (eR _ _ (Zc (Za rfl rfl (Zd rfl) (Za rfl rfl (Zd rfl) (Zk rfl rfl ?_)))))
   refine Zr (cs := ics) (parts := [(0, .tmp 47)]) (0 : Int) [(-1)] el30 sz3 zr3 Yl (by decide) rfl rfl rfl (by decide) (by decide) rfl fun d6 ji bk de cw => ?_
   have ip := cw.size
   have E := E.trans cw
   obtain ⟨df, dg, rfl, dh, ca⟩ := bk.opn
   refine Zk rfl rfl ?_
   have iq := ((ad.ch0 au).ch0 an).ch0 cw
   refine Yj (cs := ics) el30 sz3 by3 zr3 rfl (by decide) Xz iq bk.ls rfl rfl bd bd a om fun d7 gA bm bn ao cC => ?_
   have ir := cC.size
   have E := E.step cC (fun i hi => .inl (by have z := a _ hi; omega))
   obtain ⟨ap, aq, rfl, di, V⟩ := bm.opn
   refine Za rfl rfl (Ze rfl) (Zf (Yc (Zb (eN _ _ (Zc (Za rfl rfl (Zd rfl) (Za rfl rfl (Yq om rfl rfl) (Za rfl rfl (Ze rfl) ?_))))))))
   refine Zf ?_
   have it := ((eO.ch0 an).ch0 cw).ch cC (fun g hg hm => by exact y _ hm hg)
   have dx : Ol ics 3 1 gA (.slice Auv (us).length Cuv) (us) := by
    have hx := it
    exact hx
   have dy : Ol ics 3 1 gA (.slice ap ((row ++ [(-1)])).length aq) ((row ++ [(-1)])) := by
    have hx := bm
    exact hx
   have gB := (((od.ch0 au).ch0 an).ch0 cw).chS cC X
   have iu := ((eC.ch0 an).ch0 cw).ch cC (fun hm => by have z := a _ hm; have H := hirv _ hm; omega)
   have iv := (((Y.ch0 au).ch0 an).ch0 cw).ch cC (fun hm => by have z := a _ hm; have H := hirv _ hm; omega)
   have iw := (((ac.ch0 au).ch0 an).ch0 cw).ch cC (fun hm => by have z := a _ hm; have H := hirv _ hm; omega)
   have ix := (((al.ch0 au).ch0 an).ch0 cw).ch cC (fun g hg hm => by have z := a _ hm; have H := hirv _ hm; have P := c _ hg; have Q := hiav _ hg; omega)
   have iy := (((am.ch0 au).ch0 an).ch0 cw).ch cC (fun g hg hm => by have z := a _ hm; have H := hirv _ hm; have P := b _ hg; have Q := hinv _ hg; omega)
   exact Zb (Exists.intro ((k + 1), (row ++ [(-1)]), us, (.slice Auv (us).length Cuv), (.slice ap ((row ++ [(-1)])).length aq)) ⟨⟨E, om, ⟨by omega, by simp only [List.length_append, List.length_singleton]; omega⟩, (by first | omega | (simp only [List.length_append, List.length_singleton]; omega)), iu, iv, iw, ix, iy, dx, (Lo.down m om), dy, (Lo.down bn om), gB, (fun g hm hg => by exact f _ hm hg), (fun g hm hg => by exact j _ hm hg), (fun g hm hg => by rcases ao with ea | ea; (rw [ea] at hm; exact y _ hm hg); (have t := V _ hm; rw [ea] at hm; have B := List.mem_singleton.1 hm; have P := m _ hg; have Q := C _ hg; omega)), (fun u hu g hg hm => by exact R _ hu _ hg hm), (fun u hu g hg hm => by rcases ao with ea | ea; (rw [ea] at hm; exact X _ hu _ hg hm); (have t := V _ hm; rw [ea] at hm; have B := List.mem_singleton.1 hm; have b1 := gB.rng hu hg; omega))⟩, sC8 rfl rfl rfl rfl rfl rfl rfl rfl (sC1 rfl (Sub.nil _)), (by first | omega | (dsimp only; omega))⟩)
  have eM := bv
  have bv := Yp bv
  refine Xk (Ya (Ya (Xd ?_)))
  refine Zb (hy _ _ ?_)
  refine Zg fun jj gC => ?_
  refine Zg fun jk iz => ?_
  refine Zc (Za rfl rfl (Zd rfl) (Za rfl rfl (Xm (by rw [el30]; rfl) rfl) (Za rfl rfl (Zd rfl) (Za rfl rfl (Zec rfl rfl) (Zf (Zb (iz _ _ ?_)))))))
  refine Zx rfl (fun bA => ?_) (fun bA => ?_)
  ·have d8 := bA
   have bA := Yo bA
   refine Zg fun iA eZ => ?_
   refine Zc (Za rfl rfl (Yt (parts := []) (cells := [(.int .i64 0), (.slice none 0 0), (.slice none 0 0)]) zr27 pl27 rfl rfl) (Zk rfl rfl ?_))
   refine Zy (off := 0) 3 Y sz27 rfl (us := [(.int .i64 0), (.slice none 0 0), (.slice none 0 0)]) rfl rfl rfl rfl fun dz bB d9 => ?_
   have gD := d9.size
   have E := E.step d9 (lS om)
   replace bB : Blk dz dl 27 [(.int .i64 0), (.slice none 0 0), (.slice none 0 0)] := bB
   refine Za rfl rfl (Ze rfl) (Zf (Zb (eZ _ _ ?_)))
   refine Zs (Zm (Yi (Zm (Zm (Yi (Zm ?_))))))
   clear gj dR gq gC
   have dA : Ol bcs 4 1 dz (.slice none 0 0) (([] : List Bool)) := by
    have hx := Ol.nil (cs := bcs) (e := 4) (k := 1) dz
    first | exact hx | simpa using hx
   exact Zi [_, _] (Zz bB rfl agg27 sz27 ⟨rfl, trivial⟩) ⟨0, ([] : List Bool), ([] : List (List Int)), false, (.slice none 0 0), (.slice none 0 0), [], ((congrArg (fun zq => (Value.tuple #[.agg #[.int .i64 zq, (.slice none 0 0), (.slice none 0 0)], .bool false])) (by first | rfl | simp_all)).trans (congrArg (fun zq => (Value.tuple #[.agg #[.int .i64 0, (.slice none 0 0), (.slice none 0 0)], .bool zq])) (by first | rfl | simp_all))), dA, (Lo.nil _), (Ol.nil _), (Lo.nil _), Od.nil, (fun u hu => by cases hu), (fun g hm hg => by cases hm), (fun u hu => by cases hu), (fun h => by cases h), E⟩
  have d8 := bA
  have bA := Yp bA
  refine Zu ?_
  refine Zb (gC _ _ ?_)
  refine Zg fun iB cb => ?_
  refine Yx ((bl (.slice Aav (ab).length Cav)) ++ [U]) 12 mixed rfl fun S A => ?_
  have gE := A.size
  have E := E.trans A
  refine dV 0 rfl rfl rfl (fun _ => Zh fa27_1 rfl) ?_
  have b2 := b8.ch0 A
  refine dT 2 rfl rfl rfl (Zn b2.at_ (fun i hm => by rcases List.mem_append.1 hm with hm | hm; (have z := c _ hm; have H := hiav _ hm; omega); (have z := List.mem_singleton.1 hm; omega)) agg48 sz48 rfl ?_)
  refine dV 3 rfl rfl rfl (fun _ => Zd rfl) (dV 4 rfl rfl rfl (fun _ => Zd rfl) ?_)
  refine Zau 1 5 (by kernel_rfl) ?_ ?_
  ·refine Ye rfl rfl rfl ?_
   have eb := ac.ch0 A
   refine s_v (Zp eb.at_ agg24 rfl rfl) ?_
   refine ⟨(Ch.refl _ _), ?_⟩
   refine dO 5 (Ye rfl rfl rfl ?_)
   have ec := bP.ch0 A
   refine (Yy ec.ls Yl el30 sz3 rfl rfl rfl om fun e0 G ed cD => ?_)
   refine ⟨(Ch.refl _ _), ?_⟩
   refine dO 6 (Ye rfl rfl rfl ?_)
   refine s_v (Yk cD agg3 rfl rfl) ?_
   refine ⟨(Ch.refl _ _), ?_⟩
   refine dO 7 (Ye rfl rfl rfl ?_)
   have e1 := (Z.ch0 aw).ch0 A
   have e2 := (aa.ch0 aw).ch0 A
   refine Step.call (Zl (xs := [.tmp 57, .tmp 61]) fk136 rfl) (Zat e1 _ _ e2 _ _ ) fun dB e3 bC => ?_
   obtain ⟨rfl, ax⟩ := bC
   have gF := ax.size
   have E := E.trans ax
   have cc : Ch ((bl (.slice Aav (ab).length Cav)) ++ [U]) S e3 := ((Ch.refl _ _).trans ax.of_nil)
   refine ⟨cc, ?_⟩
   refine dO 8 (Ye rfl rfl rfl ?_)
   refine Zr (cs := bcs) (parts := [(0, .tmp 62)]) false [accB plast pnull G] el24 sz4 zr4 Qa (by decide) rfl rfl rfl (by decide) (by decide) rfl fun cE e4 ae bQ ay => ?_
   have gG := ay.size
   have E := E.trans ay
   obtain ⟨bR, bS, rfl, bT, aW⟩ := ae.opn
   have cd : Ch ((bl (.slice Aav (ab).length Cav)) ++ [U]) S e4 := (cc.trans ay.of_nil)
   refine ⟨cd, ?_⟩
   refine dO 9 (Ye rfl rfl rfl ?_)
   have e5 := ((al.ch0 A).ch0 ax).ch0 ay
   refine Yj (cs := bcs) el24 sz4 by4 zr4 rfl (by decide) Zaz e5 ae.ls rfl rfl bd bd c om fun cF e6 af ag l aF => ?_
   have gH := aF.size
   have E := E.step aF (fun i hi => .inl (by have z := c _ hi; omega))
   obtain ⟨D, F, rfl, bU, d⟩ := af.opn
   have ce : Ch ((bl (.slice Aav (ab).length Cav)) ++ [U]) S e6 := (cd.step aF (fun i hm => by exact .inr (List.mem_append_left _ hm)))
   refine ⟨ce, ?_⟩
   refine dV 10 rfl rfl rfl (fun _ => Zh fa27_1 rfl) (dO 11 (Ye rfl rfl rfl ?_))
   have e7 := ((eb.ch0 ax).ch0 ay).ch aF (fun hm => by exact p (by first | exact hm | exact I ▸ hm))
   refine Xh (off := 1) e7 sz24 rfl rfl rfl rfl fun ee aX aG => ?_
   have gI := aG.size
   have E := E.step aG (lS om)
   replace aX : Blk ee U 27 [(.int .i64 0), (.slice D ((ab ++ [accB plast pnull G])).length F), (.slice Anv (vs).length Cnv)] := aX
   have dC : Ch ((bl (.slice Aav (ab).length Cav)) ++ [U]) S ee := (ce.step aG (fun i hm => by have I := List.mem_singleton.1 hm; exact .inr (by rw [I]; exact (List.mem_append_right _ (List.mem_singleton.2 rfl)))))
   refine ⟨dC, ?_⟩
   refine Yb (by kernel_rfl) ?_
   refine Zb (cb _ _ (Zc (Za rfl rfl (Zh fa27_2 rfl) (Za rfl rfl (Zp aX.at_ agg25 rfl rfl) (Za rfl rfl (Zd rfl) (Zk rfl rfl ?_))))))
   refine Zr (cs := Sv.cs) (parts := [(0, .tmp 68)]) (⟨none, 0, 0⟩ : Sv) [(⟨Arv, (row).length, Crv⟩ : Sv)] el25 sz30 zr30 Sv.len (by decide) rfl rfl rfl (by decide) (by decide) rfl fun cG ef ah bV aH => ?_
   have gJ := aH.size
   have E := E.trans aH
   obtain ⟨bW, bX, rfl, bY, aY⟩ := ah.opn
   have eg := (((((ad.ch0 A).ch0 ax).ch0 ay).ch aF (fun g hg hm => by have z := c _ hm; have H := hiav _ hm; have P := a _ hg; have Q := hirv _ hg; omega)).ch aG (dS a hirv om)).ch0 aH
   have bZ : Rd ics 1 ef 0 ef.heap.size ([(⟨Arv, (row).length, Crv⟩ : Sv)]) ([row]) := (Rd.cons (eg.ls.up om om) Rd.nil)
   refine Zk rfl rfl ?_
   have e8 := (((((am.ch0 A).ch0 ax).ch0 ay).ch aF (fun g hg hm => by exact o _ hg hm)).ch aG (fun g hg hm => by have I := List.mem_singleton.1 hm; exact q (by first | exact hg | exact I ▸ hg))).ch0 aH
   refine Yj (cs := Sv.cs) el25 sz30 by30 zr30 rfl (by decide) Sv.one e8 ah.ls rfl rfl bd bd b om fun cH iC ai aj x aZ => ?_
   have gK := aZ.size
   have E := E.step aZ (fun i hi => .inl (by have z := b _ hi; omega))
   obtain ⟨M, O, rfl, b0, n⟩ := ai.opn
   refine Za rfl rfl (Zh fa27_2 rfl) (Zk rfl rfl ?_)
   have e9 := (aX.ch0 aH).ch aZ (fun hm => by exact q (by first | exact hm | exact I ▸ hm))
   refine Xh (off := 2) e9 sz25 rfl rfl rfl rfl fun cI bD a0 => ?_
   have gL := a0.size
   have E := E.step a0 (lS om)
   replace bD : Blk cI U 27 [(.int .i64 0), (.slice D ((ab ++ [accB plast pnull G])).length F), (.slice M ((vs ++ [(⟨Arv, (row).length, Crv⟩ : Sv)])).length O)] := bD
   refine Zf (Yc (Zb (dR _ _ (Zc (Za rfl rfl (Zd rfl) (Za rfl rfl (Yq om rfl rfl) (Za rfl rfl (Ze rfl) (Zf ?_))))))))
   have fa := ((((((ec.ch0 ax).ch0 ay).ch aF (fun g hg hm => by exact f _ hg hm)).ch aG (dS m C om)).ch0 aH).ch aZ (fun g hg hm => by exact j _ hg hm)).ch a0 (dS m C om)
   have cJ : Ol ics 3 1 cI (.slice Auv (us).length Cuv) (us) := by
    have hx := fa
    exact hx
   have fb := (((af.ch aG (fun g hg hm => by have I := List.mem_singleton.1 hm; rcases l with ea | ea; (rw [ea] at hg; exact p (by first | exact hg | exact I ▸ hg)); (have J := d _ hg; rw [ea] at hg; have B := List.mem_singleton.1 hg; omega))).ch0 aH).ch aZ (fun g hg hm => by rcases l with ea | ea; (rw [ea] at hg; exact o _ hm hg); (have J := d _ hg; rw [ea] at hg; have B := List.mem_singleton.1 hg; have z := b _ hm; have H := hinv _ hm; omega))).ch a0 (fun g hg hm => by have I := List.mem_singleton.1 hm; rcases l with ea | ea; (rw [ea] at hg; exact p (by first | exact hg | exact I ▸ hg)); (have J := d _ hg; rw [ea] at hg; have B := List.mem_singleton.1 hg; omega))
   have cK : Ol bcs 4 1 cI (.slice D ((ab ++ [accB plast pnull G])).length F) ((ab ++ [accB plast pnull G])) := by
    have hx := fb
    exact hx
   have fc := ai.ch a0 (fun g hg hm => by have I := List.mem_singleton.1 hm; rcases x with ea | ea; (rw [ea] at hg; exact q (by first | exact hg | exact I ▸ hg)); (have J := n _ hg; rw [ea] at hg; have B := List.mem_singleton.1 hg; omega))
   have cL : Ol Sv.cs 30 1 cI (.slice M ((vs ++ [(⟨Arv, (row).length, Crv⟩ : Sv)])).length O) ((vs ++ [(⟨Arv, (row).length, Crv⟩ : Sv)])) := by
    have hx := fc
    exact hx
   have dD := (((((((od.ch0 A).ch0 ax).ch0 ay).chS aF K).ch aG (oS om)).ch0 aH).chS aZ L).ch a0 (oS om)
   have fd := (eg.ch aZ (fun g hg hm => by have z := b _ hm; have H := hinv _ hm; have P := a _ hg; have Q := hirv _ hg; omega)).ch a0 (dS a hirv om)
   have fe := ((((((b2.ch0 ax).ch0 ay).ch aF (fun hm => by have z := c _ hm; have H := hiav _ hm; omega)).ch aG (nS om)).ch0 aH).ch aZ (fun hm => by have z := b _ hm; have H := hinv _ hm; omega)).ch a0 (nS om)
   have ff := (((((((Y.ch0 A).ch0 ax).ch0 ay).ch aF (fun hm => by have z := c _ hm; have H := hiav _ hm; omega)).ch aG (nS om)).ch0 aH).ch aZ (fun hm => by have z := b _ hm; have H := hinv _ hm; omega)).ch a0 (nS om)
   exact Zb (Exists.intro ((s + 1), (ab ++ [accB plast pnull G]), (vs ++ [(⟨Arv, (row).length, Crv⟩ : Sv)]), (rs ++ [row]), us, (.slice Auv (us).length Cuv), (.slice D ((ab ++ [accB plast pnull G])).length F), (.slice M ((vs ++ [(⟨Arv, (row).length, Crv⟩ : Sv)])).length O)) ⟨⟨E, om, om, (by simp only [List.length_append, List.length_singleton]; omega), (fun r h => by rcases List.mem_append.1 h with h | h; exact hr r h; rw [List.mem_singleton.1 h]; omega), fe, ff, cJ, (Lo.down m om), cK, (Lo.down ag om), cL, (Lo.down aj om), (Od.snoc dD (v := (⟨Arv, (row).length, Crv⟩ : Sv)) fd (Lo.down a om) (fun g hg => by have z := hirv g hg; omega) om om), bD, (fun g hm hg => by rcases l with ea | ea; (rw [ea] at hm; exact f _ hg hm); (have t := d _ hm; rw [ea] at hm; have B := List.mem_singleton.1 hm; have P := m _ hg; have Q := C _ hg; omega)), (fun hm => by rcases l with ea | ea; (rw [ea] at hm; exact p (by first | exact hm | exact I ▸ hm)); (have t := d _ hm; rw [ea] at hm; have B := List.mem_singleton.1 hm; omega)), (fun g hm hg => by rcases x with ea | ea; (rw [ea] at hm; exact j _ hg hm); (have t := n _ hm; rw [ea] at hm; have B := List.mem_singleton.1 hm; have P := m _ hg; have Q := C _ hg; omega)), (fun g hm hg => by rcases x with ea | ea; (rw [ea] at hm; rcases l with ea | ea; (rw [ea] at hg; exact o _ hm hg); (have J := d _ hg; rw [ea] at hg; have B := List.mem_singleton.1 hg; have z := b _ hm; have H := hinv _ hm; omega)); (have t := n _ hm; rw [ea] at hm; have B := List.mem_singleton.1 hm; rcases l with ea | ea; (rw [ea] at hg; have P := c _ hg; have Q := hiav _ hg; omega); (have J := d _ hg; rw [ea] at hg; have B := List.mem_singleton.1 hg; omega))), (fun hm => by rcases x with ea | ea; (rw [ea] at hm; exact q (by first | exact hm | exact I ▸ hm)); (have t := n _ hm; rw [ea] at hm; have B := List.mem_singleton.1 hm; omega)), (fun u hu g hg hm => by rcases List.mem_append.1 hu with hu | hu; (exact R _ hu _ hg hm); (rw [List.mem_singleton.1 hu] at hg; replace hg : g ∈ bl (.slice Arv (row).length Crv) := hg; exact y _ hg hm)), (fun u hu g hg hm => by rcases List.mem_append.1 hu with hu | hu; (rcases l with ea | ea; (rw [ea] at hm; exact K _ hu _ hg hm); (have t := d _ hm; rw [ea] at hm; have B := List.mem_singleton.1 hm; have b1 := dD.rng hu hg; omega)); (rw [List.mem_singleton.1 hu] at hg; replace hg : g ∈ bl (.slice Arv (row).length Crv) := hg; rcases l with ea | ea; (rw [ea] at hm; have z := c _ hm; have H := hiav _ hm; have P := a _ hg; have Q := hirv _ hg; omega); (have t := d _ hm; rw [ea] at hm; have B := List.mem_singleton.1 hm; have P := a _ hg; have Q := hirv _ hg; omega))), (fun u hu g hg hm => by rcases List.mem_append.1 hu with hu | hu; (rcases x with ea | ea; (rw [ea] at hm; exact L _ hu _ hg hm); (have t := n _ hm; rw [ea] at hm; have B := List.mem_singleton.1 hm; have b1 := dD.rng hu hg; omega)); (rw [List.mem_singleton.1 hu] at hg; replace hg : g ∈ bl (.slice Arv (row).length Crv) := hg; rcases x with ea | ea; (rw [ea] at hm; have z := b _ hm; have H := hinv _ hm; have P := a _ hg; have Q := hirv _ hg; omega); (have t := n _ hm; rw [ea] at hm; have B := List.mem_singleton.1 hm; have P := a _ hg; have Q := hirv _ hg; omega)))⟩, sC4 rfl rfl rfl rfl (sC2 rfl rfl (Sub.nil _)), (by first | omega | (dsimp only; omega))⟩)
  refine Ye rfl rfl rfl ?_
  have cf := bP.ch0 A
  refine (Yy cf.ls Yl el30 sz3 rfl rfl rfl om fun e0 G ed cD => ?_)
  refine ⟨(Ch.refl _ _), ?_⟩
  refine Zau 1 6 (by kernel_rfl) ?_ ?_
  ·refine Ye rfl rfl rfl ?_
   have eh := ac.ch0 A
   refine s_v (Zp eh.at_ agg24 rfl rfl) ?_
   refine ⟨(Ch.refl _ _), ?_⟩
   refine dO 6 (Ye rfl rfl rfl ?_)
   refine s_v (Yk cD agg3 rfl rfl) ?_
   refine ⟨(Ch.refl _ _), ?_⟩
   refine dO 7 (Ye rfl rfl rfl ?_)
   have fg := (Z.ch0 aw).ch0 A
   have fh := (aa.ch0 aw).ch0 A
   refine Step.call (Zl (xs := [.tmp 57, .tmp 61]) fk136 rfl) (Zat fg _ _ fh _ _ ) fun dB fi bC => ?_
   obtain ⟨rfl, az⟩ := bC
   have gM := az.size
   have E := E.trans az
   have cg : Ch ((bl (.slice Aav (ab).length Cav)) ++ [U]) S fi := ((Ch.refl _ _).trans az.of_nil)
   refine ⟨cg, ?_⟩
   refine dO 8 (Ye rfl rfl rfl ?_)
   refine Zr (cs := bcs) (parts := [(0, .tmp 62)]) false [accB plast pnull G] el24 sz4 zr4 Qa (by decide) rfl rfl rfl (by decide) (by decide) rfl fun cE fj ae bQ aA => ?_
   have gN := aA.size
   have E := E.trans aA
   obtain ⟨bR, bS, rfl, bT, aW⟩ := ae.opn
   have ci : Ch ((bl (.slice Aav (ab).length Cav)) ++ [U]) S fj := (cg.trans aA.of_nil)
   refine ⟨ci, ?_⟩
   refine dO 9 (Ye rfl rfl rfl ?_)
   have fk := ((al.ch0 A).ch0 az).ch0 aA
   refine Yj (cs := bcs) el24 sz4 by4 zr4 rfl (by decide) Zaz fk ae.ls rfl rfl bd bd c om fun cF fl af ag l aI => ?_
   have gO := aI.size
   have E := E.step aI (fun i hi => .inl (by have z := c _ hi; omega))
   obtain ⟨D, F, rfl, bU, d⟩ := af.opn
   have cj : Ch ((bl (.slice Aav (ab).length Cav)) ++ [U]) S fl := (ci.step aI (fun i hm => by exact .inr (List.mem_append_left _ hm)))
   refine ⟨cj, ?_⟩
   refine dV 10 rfl rfl rfl (fun _ => Zh fa27_1 rfl) (dO 11 (Ye rfl rfl rfl ?_))
   have fm := ((eh.ch0 az).ch0 aA).ch aI (fun hm => by exact p (by first | exact hm | exact I ▸ hm))
   refine Xh (off := 1) fm sz24 rfl rfl rfl rfl fun ei a1 aJ => ?_
   have gP := aJ.size
   have E := E.step aJ (lS om)
   replace a1 : Blk ei U 27 [(.int .i64 0), (.slice D ((ab ++ [accB plast pnull G])).length F), (.slice Anv (vs).length Cnv)] := a1
   have dE : Ch ((bl (.slice Aav (ab).length Cav)) ++ [U]) S ei := (cj.step aJ (fun i hm => by have I := List.mem_singleton.1 hm; exact .inr (by rw [I]; exact (List.mem_append_right _ (List.mem_singleton.2 rfl)))))
   refine ⟨dE, ?_⟩
   refine Yb (by kernel_rfl) ?_
   refine Zb (cb _ _ (Zc (Za rfl rfl (Zh fa27_2 rfl) (Za rfl rfl (Zp a1.at_ agg25 rfl rfl) (Za rfl rfl (Zd rfl) (Zk rfl rfl ?_))))))
   refine Zr (cs := Sv.cs) (parts := [(0, .tmp 68)]) (⟨none, 0, 0⟩ : Sv) [(⟨Arv, (row).length, Crv⟩ : Sv)] el25 sz30 zr30 Sv.len (by decide) rfl rfl rfl (by decide) (by decide) rfl fun cG ej ah bV aK => ?_
   have gQ := aK.size
   have E := E.trans aK
   obtain ⟨bW, bX, rfl, bY, aY⟩ := ah.opn
   have ek := (((((ad.ch0 A).ch0 az).ch0 aA).ch aI (fun g hg hm => by have z := c _ hm; have H := hiav _ hm; have P := a _ hg; have Q := hirv _ hg; omega)).ch aJ (dS a hirv om)).ch0 aK
   have bZ : Rd ics 1 ej 0 ej.heap.size ([(⟨Arv, (row).length, Crv⟩ : Sv)]) ([row]) := (Rd.cons (ek.ls.up om om) Rd.nil)
   refine Zk rfl rfl ?_
   have fn := (((((am.ch0 A).ch0 az).ch0 aA).ch aI (fun g hg hm => by exact o _ hg hm)).ch aJ (fun g hg hm => by have I := List.mem_singleton.1 hm; exact q (by first | exact hg | exact I ▸ hg))).ch0 aK
   refine Yj (cs := Sv.cs) el25 sz30 by30 zr30 rfl (by decide) Sv.one fn ah.ls rfl rfl bd bd b om fun cH iD ai aj x a2 => ?_
   have gR := a2.size
   have E := E.step a2 (fun i hi => .inl (by have z := b _ hi; omega))
   obtain ⟨M, O, rfl, b0, n⟩ := ai.opn
   refine Za rfl rfl (Zh fa27_2 rfl) (Zk rfl rfl ?_)
   have fo := (a1.ch0 aK).ch a2 (fun hm => by exact q (by first | exact hm | exact I ▸ hm))
   refine Xh (off := 2) fo sz25 rfl rfl rfl rfl fun cM bF a3 => ?_
   have gS := a3.size
   have E := E.step a3 (lS om)
   replace bF : Blk cM U 27 [(.int .i64 0), (.slice D ((ab ++ [accB plast pnull G])).length F), (.slice M ((vs ++ [(⟨Arv, (row).length, Crv⟩ : Sv)])).length O)] := bF
   refine Zf (Yc (Zb (dR _ _ (Zc (Za rfl rfl (Zd rfl) (Za rfl rfl (Yq om rfl rfl) (Za rfl rfl (Ze rfl) (Zf ?_))))))))
   have fp := ((((((cf.ch0 az).ch0 aA).ch aI (fun g hg hm => by exact f _ hg hm)).ch aJ (dS m C om)).ch0 aK).ch a2 (fun g hg hm => by exact j _ hg hm)).ch a3 (dS m C om)
   have cN : Ol ics 3 1 cM (.slice Auv (us).length Cuv) (us) := by
    have hx := fp
    exact hx
   have fq := (((af.ch aJ (fun g hg hm => by have I := List.mem_singleton.1 hm; rcases l with ea | ea; (rw [ea] at hg; exact p (by first | exact hg | exact I ▸ hg)); (have J := d _ hg; rw [ea] at hg; have B := List.mem_singleton.1 hg; omega))).ch0 aK).ch a2 (fun g hg hm => by rcases l with ea | ea; (rw [ea] at hg; exact o _ hm hg); (have J := d _ hg; rw [ea] at hg; have B := List.mem_singleton.1 hg; have z := b _ hm; have H := hinv _ hm; omega))).ch a3 (fun g hg hm => by have I := List.mem_singleton.1 hm; rcases l with ea | ea; (rw [ea] at hg; exact p (by first | exact hg | exact I ▸ hg)); (have J := d _ hg; rw [ea] at hg; have B := List.mem_singleton.1 hg; omega))
   have cO : Ol bcs 4 1 cM (.slice D ((ab ++ [accB plast pnull G])).length F) ((ab ++ [accB plast pnull G])) := by
    have hx := fq
    exact hx
   have fr := ai.ch a3 (fun g hg hm => by have I := List.mem_singleton.1 hm; rcases x with ea | ea; (rw [ea] at hg; exact q (by first | exact hg | exact I ▸ hg)); (have J := n _ hg; rw [ea] at hg; have B := List.mem_singleton.1 hg; omega))
   have cP : Ol Sv.cs 30 1 cM (.slice M ((vs ++ [(⟨Arv, (row).length, Crv⟩ : Sv)])).length O) ((vs ++ [(⟨Arv, (row).length, Crv⟩ : Sv)])) := by
    have hx := fr
    exact hx
   have dF := (((((((od.ch0 A).ch0 az).ch0 aA).chS aI K).ch aJ (oS om)).ch0 aK).chS a2 L).ch a3 (oS om)
   have fs := (ek.ch a2 (fun g hg hm => by have z := b _ hm; have H := hinv _ hm; have P := a _ hg; have Q := hirv _ hg; omega)).ch a3 (dS a hirv om)
   have ft := ((((((b2.ch0 az).ch0 aA).ch aI (fun hm => by have z := c _ hm; have H := hiav _ hm; omega)).ch aJ (nS om)).ch0 aK).ch a2 (fun hm => by have z := b _ hm; have H := hinv _ hm; omega)).ch a3 (nS om)
   have fu := (((((((Y.ch0 A).ch0 az).ch0 aA).ch aI (fun hm => by have z := c _ hm; have H := hiav _ hm; omega)).ch aJ (nS om)).ch0 aK).ch a2 (fun hm => by have z := b _ hm; have H := hinv _ hm; omega)).ch a3 (nS om)
   exact Zb (Exists.intro ((s + 1), (ab ++ [accB plast pnull G]), (vs ++ [(⟨Arv, (row).length, Crv⟩ : Sv)]), (rs ++ [row]), us, (.slice Auv (us).length Cuv), (.slice D ((ab ++ [accB plast pnull G])).length F), (.slice M ((vs ++ [(⟨Arv, (row).length, Crv⟩ : Sv)])).length O)) ⟨⟨E, om, om, (by simp only [List.length_append, List.length_singleton]; omega), (fun r h => by rcases List.mem_append.1 h with h | h; exact hr r h; rw [List.mem_singleton.1 h]; omega), ft, fu, cN, (Lo.down m om), cO, (Lo.down ag om), cP, (Lo.down aj om), (Od.snoc dF (v := (⟨Arv, (row).length, Crv⟩ : Sv)) fs (Lo.down a om) (fun g hg => by have z := hirv g hg; omega) om om), bF, (fun g hm hg => by rcases l with ea | ea; (rw [ea] at hm; exact f _ hg hm); (have t := d _ hm; rw [ea] at hm; have B := List.mem_singleton.1 hm; have P := m _ hg; have Q := C _ hg; omega)), (fun hm => by rcases l with ea | ea; (rw [ea] at hm; exact p (by first | exact hm | exact I ▸ hm)); (have t := d _ hm; rw [ea] at hm; have B := List.mem_singleton.1 hm; omega)), (fun g hm hg => by rcases x with ea | ea; (rw [ea] at hm; exact j _ hg hm); (have t := n _ hm; rw [ea] at hm; have B := List.mem_singleton.1 hm; have P := m _ hg; have Q := C _ hg; omega)), (fun g hm hg => by rcases x with ea | ea; (rw [ea] at hm; rcases l with ea | ea; (rw [ea] at hg; exact o _ hm hg); (have J := d _ hg; rw [ea] at hg; have B := List.mem_singleton.1 hg; have z := b _ hm; have H := hinv _ hm; omega)); (have t := n _ hm; rw [ea] at hm; have B := List.mem_singleton.1 hm; rcases l with ea | ea; (rw [ea] at hg; have P := c _ hg; have Q := hiav _ hg; omega); (have J := d _ hg; rw [ea] at hg; have B := List.mem_singleton.1 hg; omega))), (fun hm => by rcases x with ea | ea; (rw [ea] at hm; exact q (by first | exact hm | exact I ▸ hm)); (have t := n _ hm; rw [ea] at hm; have B := List.mem_singleton.1 hm; omega)), (fun u hu g hg hm => by rcases List.mem_append.1 hu with hu | hu; (exact R _ hu _ hg hm); (rw [List.mem_singleton.1 hu] at hg; replace hg : g ∈ bl (.slice Arv (row).length Crv) := hg; exact y _ hg hm)), (fun u hu g hg hm => by rcases List.mem_append.1 hu with hu | hu; (rcases l with ea | ea; (rw [ea] at hm; exact K _ hu _ hg hm); (have t := d _ hm; rw [ea] at hm; have B := List.mem_singleton.1 hm; have b1 := dF.rng hu hg; omega)); (rw [List.mem_singleton.1 hu] at hg; replace hg : g ∈ bl (.slice Arv (row).length Crv) := hg; rcases l with ea | ea; (rw [ea] at hm; have z := c _ hm; have H := hiav _ hm; have P := a _ hg; have Q := hirv _ hg; omega); (have t := d _ hm; rw [ea] at hm; have B := List.mem_singleton.1 hm; have P := a _ hg; have Q := hirv _ hg; omega))), (fun u hu g hg hm => by rcases List.mem_append.1 hu with hu | hu; (rcases x with ea | ea; (rw [ea] at hm; exact L _ hu _ hg hm); (have t := n _ hm; rw [ea] at hm; have B := List.mem_singleton.1 hm; have b1 := dF.rng hu hg; omega)); (rw [List.mem_singleton.1 hu] at hg; replace hg : g ∈ bl (.slice Arv (row).length Crv) := hg; rcases x with ea | ea; (rw [ea] at hm; have z := b _ hm; have H := hinv _ hm; have P := a _ hg; have Q := hirv _ hg; omega); (have t := n _ hm; rw [ea] at hm; have B := List.mem_singleton.1 hm; have P := a _ hg; have Q := hirv _ hg; omega)))⟩, sC4 rfl rfl rfl rfl (sC2 rfl rfl (Sub.nil _)), (by first | omega | (dsimp only; omega))⟩)
  refine Ye rfl rfl rfl ?_
  refine s_v (Yk cD agg3 rfl rfl) ?_
  refine ⟨(Ch.refl _ _), ?_⟩
  refine Zau 1 7 (by kernel_rfl) ?_ ?_
  ·refine Ye rfl rfl rfl ?_
   have el := ac.ch0 A
   refine s_v (Zp el.at_ agg24 rfl rfl) ?_
   refine ⟨(Ch.refl _ _), ?_⟩
   refine dO 7 (Ye rfl rfl rfl ?_)
   have fv := (Z.ch0 aw).ch0 A
   have fw := (aa.ch0 aw).ch0 A
   refine Step.call (Zl (xs := [.tmp 57, .tmp 61]) fk136 rfl) (Zat fv _ _ fw _ _ ) fun dB fx bC => ?_
   obtain ⟨rfl, aB⟩ := bC
   have gT := aB.size
   have E := E.trans aB
   have ck : Ch ((bl (.slice Aav (ab).length Cav)) ++ [U]) S fx := ((Ch.refl _ _).trans aB.of_nil)
   refine ⟨ck, ?_⟩
   refine dO 8 (Ye rfl rfl rfl ?_)
   refine Zr (cs := bcs) (parts := [(0, .tmp 62)]) false [accB plast pnull G] el24 sz4 zr4 Qa (by decide) rfl rfl rfl (by decide) (by decide) rfl fun cE fy ae bQ aC => ?_
   have gU := aC.size
   have E := E.trans aC
   obtain ⟨bR, bS, rfl, bT, aW⟩ := ae.opn
   have cm : Ch ((bl (.slice Aav (ab).length Cav)) ++ [U]) S fy := (ck.trans aC.of_nil)
   refine ⟨cm, ?_⟩
   refine dO 9 (Ye rfl rfl rfl ?_)
   have fz := ((al.ch0 A).ch0 aB).ch0 aC
   refine Yj (cs := bcs) el24 sz4 by4 zr4 rfl (by decide) Zaz fz ae.ls rfl rfl bd bd c om fun cF fA af ag l aL => ?_
   have gV := aL.size
   have E := E.step aL (fun i hi => .inl (by have z := c _ hi; omega))
   obtain ⟨D, F, rfl, bU, d⟩ := af.opn
   have cn : Ch ((bl (.slice Aav (ab).length Cav)) ++ [U]) S fA := (cm.step aL (fun i hm => by exact .inr (List.mem_append_left _ hm)))
   refine ⟨cn, ?_⟩
   refine dV 10 rfl rfl rfl (fun _ => Zh fa27_1 rfl) (dO 11 (Ye rfl rfl rfl ?_))
   have fB := ((el.ch0 aB).ch0 aC).ch aL (fun hm => by exact p (by first | exact hm | exact I ▸ hm))
   refine Xh (off := 1) fB sz24 rfl rfl rfl rfl fun em a4 aM => ?_
   have gW := aM.size
   have E := E.step aM (lS om)
   replace a4 : Blk em U 27 [(.int .i64 0), (.slice D ((ab ++ [accB plast pnull G])).length F), (.slice Anv (vs).length Cnv)] := a4
   have dG : Ch ((bl (.slice Aav (ab).length Cav)) ++ [U]) S em := (cn.step aM (fun i hm => by have I := List.mem_singleton.1 hm; exact .inr (by rw [I]; exact (List.mem_append_right _ (List.mem_singleton.2 rfl)))))
   refine ⟨dG, ?_⟩
   refine Yb (by kernel_rfl) ?_
   refine Zb (cb _ _ (Zc (Za rfl rfl (Zh fa27_2 rfl) (Za rfl rfl (Zp a4.at_ agg25 rfl rfl) (Za rfl rfl (Zd rfl) (Zk rfl rfl ?_))))))
   refine Zr (cs := Sv.cs) (parts := [(0, .tmp 68)]) (⟨none, 0, 0⟩ : Sv) [(⟨Arv, (row).length, Crv⟩ : Sv)] el25 sz30 zr30 Sv.len (by decide) rfl rfl rfl (by decide) (by decide) rfl fun cG en ah bV aN => ?_
   have gX := aN.size
   have E := E.trans aN
   obtain ⟨bW, bX, rfl, bY, aY⟩ := ah.opn
   have eo := (((((ad.ch0 A).ch0 aB).ch0 aC).ch aL (fun g hg hm => by have z := c _ hm; have H := hiav _ hm; have P := a _ hg; have Q := hirv _ hg; omega)).ch aM (dS a hirv om)).ch0 aN
   have bZ : Rd ics 1 en 0 en.heap.size ([(⟨Arv, (row).length, Crv⟩ : Sv)]) ([row]) := (Rd.cons (eo.ls.up om om) Rd.nil)
   refine Zk rfl rfl ?_
   have fC := (((((am.ch0 A).ch0 aB).ch0 aC).ch aL (fun g hg hm => by exact o _ hg hm)).ch aM (fun g hg hm => by have I := List.mem_singleton.1 hm; exact q (by first | exact hg | exact I ▸ hg))).ch0 aN
   refine Yj (cs := Sv.cs) el25 sz30 by30 zr30 rfl (by decide) Sv.one fC ah.ls rfl rfl bd bd b om fun cH iE ai aj x a5 => ?_
   have gY := a5.size
   have E := E.step a5 (fun i hi => .inl (by have z := b _ hi; omega))
   obtain ⟨M, O, rfl, b0, n⟩ := ai.opn
   refine Za rfl rfl (Zh fa27_2 rfl) (Zk rfl rfl ?_)
   have fD := (a4.ch0 aN).ch a5 (fun hm => by exact q (by first | exact hm | exact I ▸ hm))
   refine Xh (off := 2) fD sz25 rfl rfl rfl rfl fun cQ bG a6 => ?_
   have gZ := a6.size
   have E := E.step a6 (lS om)
   replace bG : Blk cQ U 27 [(.int .i64 0), (.slice D ((ab ++ [accB plast pnull G])).length F), (.slice M ((vs ++ [(⟨Arv, (row).length, Crv⟩ : Sv)])).length O)] := bG
   refine Zf (Yc (Zb (dR _ _ (Zc (Za rfl rfl (Zd rfl) (Za rfl rfl (Yq om rfl rfl) (Za rfl rfl (Ze rfl) (Zf ?_))))))))
   have fE := ((((((cf.ch0 aB).ch0 aC).ch aL (fun g hg hm => by exact f _ hg hm)).ch aM (dS m C om)).ch0 aN).ch a5 (fun g hg hm => by exact j _ hg hm)).ch a6 (dS m C om)
   have cR : Ol ics 3 1 cQ (.slice Auv (us).length Cuv) (us) := by
    have hx := fE
    exact hx
   have fF := (((af.ch aM (fun g hg hm => by have I := List.mem_singleton.1 hm; rcases l with ea | ea; (rw [ea] at hg; exact p (by first | exact hg | exact I ▸ hg)); (have J := d _ hg; rw [ea] at hg; have B := List.mem_singleton.1 hg; omega))).ch0 aN).ch a5 (fun g hg hm => by rcases l with ea | ea; (rw [ea] at hg; exact o _ hm hg); (have J := d _ hg; rw [ea] at hg; have B := List.mem_singleton.1 hg; have z := b _ hm; have H := hinv _ hm; omega))).ch a6 (fun g hg hm => by have I := List.mem_singleton.1 hm; rcases l with ea | ea; (rw [ea] at hg; exact p (by first | exact hg | exact I ▸ hg)); (have J := d _ hg; rw [ea] at hg; have B := List.mem_singleton.1 hg; omega))
   have cS : Ol bcs 4 1 cQ (.slice D ((ab ++ [accB plast pnull G])).length F) ((ab ++ [accB plast pnull G])) := by
    have hx := fF
    exact hx
   have fG := ai.ch a6 (fun g hg hm => by have I := List.mem_singleton.1 hm; rcases x with ea | ea; (rw [ea] at hg; exact q (by first | exact hg | exact I ▸ hg)); (have J := n _ hg; rw [ea] at hg; have B := List.mem_singleton.1 hg; omega))
   have cT : Ol Sv.cs 30 1 cQ (.slice M ((vs ++ [(⟨Arv, (row).length, Crv⟩ : Sv)])).length O) ((vs ++ [(⟨Arv, (row).length, Crv⟩ : Sv)])) := by
    have hx := fG
    exact hx
   have dH := (((((((od.ch0 A).ch0 aB).ch0 aC).chS aL K).ch aM (oS om)).ch0 aN).chS a5 L).ch a6 (oS om)
   have fH := (eo.ch a5 (fun g hg hm => by have z := b _ hm; have H := hinv _ hm; have P := a _ hg; have Q := hirv _ hg; omega)).ch a6 (dS a hirv om)
   have fI := ((((((b2.ch0 aB).ch0 aC).ch aL (fun hm => by have z := c _ hm; have H := hiav _ hm; omega)).ch aM (nS om)).ch0 aN).ch a5 (fun hm => by have z := b _ hm; have H := hinv _ hm; omega)).ch a6 (nS om)
   have fJ := (((((((Y.ch0 A).ch0 aB).ch0 aC).ch aL (fun hm => by have z := c _ hm; have H := hiav _ hm; omega)).ch aM (nS om)).ch0 aN).ch a5 (fun hm => by have z := b _ hm; have H := hinv _ hm; omega)).ch a6 (nS om)
   exact Zb (Exists.intro ((s + 1), (ab ++ [accB plast pnull G]), (vs ++ [(⟨Arv, (row).length, Crv⟩ : Sv)]), (rs ++ [row]), us, (.slice Auv (us).length Cuv), (.slice D ((ab ++ [accB plast pnull G])).length F), (.slice M ((vs ++ [(⟨Arv, (row).length, Crv⟩ : Sv)])).length O)) ⟨⟨E, om, om, (by simp only [List.length_append, List.length_singleton]; omega), (fun r h => by rcases List.mem_append.1 h with h | h; exact hr r h; rw [List.mem_singleton.1 h]; omega), fI, fJ, cR, (Lo.down m om), cS, (Lo.down ag om), cT, (Lo.down aj om), (Od.snoc dH (v := (⟨Arv, (row).length, Crv⟩ : Sv)) fH (Lo.down a om) (fun g hg => by have z := hirv g hg; omega) om om), bG, (fun g hm hg => by rcases l with ea | ea; (rw [ea] at hm; exact f _ hg hm); (have t := d _ hm; rw [ea] at hm; have B := List.mem_singleton.1 hm; have P := m _ hg; have Q := C _ hg; omega)), (fun hm => by rcases l with ea | ea; (rw [ea] at hm; exact p (by first | exact hm | exact I ▸ hm)); (have t := d _ hm; rw [ea] at hm; have B := List.mem_singleton.1 hm; omega)), (fun g hm hg => by rcases x with ea | ea; (rw [ea] at hm; exact j _ hg hm); (have t := n _ hm; rw [ea] at hm; have B := List.mem_singleton.1 hm; have P := m _ hg; have Q := C _ hg; omega)), (fun g hm hg => by rcases x with ea | ea; (rw [ea] at hm; rcases l with ea | ea; (rw [ea] at hg; exact o _ hm hg); (have J := d _ hg; rw [ea] at hg; have B := List.mem_singleton.1 hg; have z := b _ hm; have H := hinv _ hm; omega)); (have t := n _ hm; rw [ea] at hm; have B := List.mem_singleton.1 hm; rcases l with ea | ea; (rw [ea] at hg; have P := c _ hg; have Q := hiav _ hg; omega); (have J := d _ hg; rw [ea] at hg; have B := List.mem_singleton.1 hg; omega))), (fun hm => by rcases x with ea | ea; (rw [ea] at hm; exact q (by first | exact hm | exact I ▸ hm)); (have t := n _ hm; rw [ea] at hm; have B := List.mem_singleton.1 hm; omega)), (fun u hu g hg hm => by rcases List.mem_append.1 hu with hu | hu; (exact R _ hu _ hg hm); (rw [List.mem_singleton.1 hu] at hg; replace hg : g ∈ bl (.slice Arv (row).length Crv) := hg; exact y _ hg hm)), (fun u hu g hg hm => by rcases List.mem_append.1 hu with hu | hu; (rcases l with ea | ea; (rw [ea] at hm; exact K _ hu _ hg hm); (have t := d _ hm; rw [ea] at hm; have B := List.mem_singleton.1 hm; have b1 := dH.rng hu hg; omega)); (rw [List.mem_singleton.1 hu] at hg; replace hg : g ∈ bl (.slice Arv (row).length Crv) := hg; rcases l with ea | ea; (rw [ea] at hm; have z := c _ hm; have H := hiav _ hm; have P := a _ hg; have Q := hirv _ hg; omega); (have t := d _ hm; rw [ea] at hm; have B := List.mem_singleton.1 hm; have P := a _ hg; have Q := hirv _ hg; omega))), (fun u hu g hg hm => by rcases List.mem_append.1 hu with hu | hu; (rcases x with ea | ea; (rw [ea] at hm; exact L _ hu _ hg hm); (have t := n _ hm; rw [ea] at hm; have B := List.mem_singleton.1 hm; have b1 := dH.rng hu hg; omega)); (rw [List.mem_singleton.1 hu] at hg; replace hg : g ∈ bl (.slice Arv (row).length Crv) := hg; rcases x with ea | ea; (rw [ea] at hm; have z := b _ hm; have H := hinv _ hm; have P := a _ hg; have Q := hirv _ hg; omega); (have t := n _ hm; rw [ea] at hm; have B := List.mem_singleton.1 hm; have P := a _ hg; have Q := hirv _ hg; omega)))⟩, sC4 rfl rfl rfl rfl (sC2 rfl rfl (Sub.nil _)), (by first | omega | (dsimp only; omega))⟩)
  refine Ye rfl rfl rfl ?_
  have fK := (Z.ch0 aw).ch0 A
  have fL := (aa.ch0 aw).ch0 A
  refine Step.call (Zl (xs := [.tmp 57, .tmp 61]) fk136 rfl) (Zat fK _ _ fL _ _ ) fun dB fM bC => ?_
  obtain ⟨rfl, T⟩ := bC
  have g0 := T.size
  have E := E.trans T
  have a7 : Ch ((bl (.slice Aav (ab).length Cav)) ++ [U]) S fM := ((Ch.refl _ _).trans T.of_nil)
  refine ⟨a7, ?_⟩
  refine Zau 1 8 (by kernel_rfl) ?_ ?_
  ·refine Ye rfl rfl rfl ?_
   have ep := (ac.ch0 A).ch0 T
   refine s_v (Zp ep.at_ agg24 rfl rfl) ?_
   refine ⟨a7, ?_⟩
   refine dO 8 (Ye rfl rfl rfl ?_)
   refine Zr (cs := bcs) (parts := [(0, .tmp 62)]) false [accB plast pnull G] el24 sz4 zr4 Qa (by decide) rfl rfl rfl (by decide) (by decide) rfl fun cE fN ae bQ aD => ?_
   have g1 := aD.size
   have E := E.trans aD
   obtain ⟨bR, bS, rfl, bT, aW⟩ := ae.opn
   have co : Ch ((bl (.slice Aav (ab).length Cav)) ++ [U]) S fN := (a7.trans aD.of_nil)
   refine ⟨co, ?_⟩
   refine dO 9 (Ye rfl rfl rfl ?_)
   have fO := ((al.ch0 A).ch0 T).ch0 aD
   refine Yj (cs := bcs) el24 sz4 by4 zr4 rfl (by decide) Zaz fO ae.ls rfl rfl bd bd c om fun cF fP af ag l aO => ?_
   have g2 := aO.size
   have E := E.step aO (fun i hi => .inl (by have z := c _ hi; omega))
   obtain ⟨D, F, rfl, bU, d⟩ := af.opn
   have cp : Ch ((bl (.slice Aav (ab).length Cav)) ++ [U]) S fP := (co.step aO (fun i hm => by exact .inr (List.mem_append_left _ hm)))
   refine ⟨cp, ?_⟩
   refine dV 10 rfl rfl rfl (fun _ => Zh fa27_1 rfl) (dO 11 (Ye rfl rfl rfl ?_))
   have fQ := (ep.ch0 aD).ch aO (fun hm => by exact p (by first | exact hm | exact I ▸ hm))
   refine Xh (off := 1) fQ sz24 rfl rfl rfl rfl fun er a8 aP => ?_
   have g3 := aP.size
   have E := E.step aP (lS om)
   replace a8 : Blk er U 27 [(.int .i64 0), (.slice D ((ab ++ [accB plast pnull G])).length F), (.slice Anv (vs).length Cnv)] := a8
   have dI : Ch ((bl (.slice Aav (ab).length Cav)) ++ [U]) S er := (cp.step aP (fun i hm => by have I := List.mem_singleton.1 hm; exact .inr (by rw [I]; exact (List.mem_append_right _ (List.mem_singleton.2 rfl)))))
   refine ⟨dI, ?_⟩
   refine Yb (by kernel_rfl) ?_
   refine Zb (cb _ _ (Zc (Za rfl rfl (Zh fa27_2 rfl) (Za rfl rfl (Zp a8.at_ agg25 rfl rfl) (Za rfl rfl (Zd rfl) (Zk rfl rfl ?_))))))
   refine Zr (cs := Sv.cs) (parts := [(0, .tmp 68)]) (⟨none, 0, 0⟩ : Sv) [(⟨Arv, (row).length, Crv⟩ : Sv)] el25 sz30 zr30 Sv.len (by decide) rfl rfl rfl (by decide) (by decide) rfl fun cG es ah bV aQ => ?_
   have g4 := aQ.size
   have E := E.trans aQ
   obtain ⟨bW, bX, rfl, bY, aY⟩ := ah.opn
   have et := (((((ad.ch0 A).ch0 T).ch0 aD).ch aO (fun g hg hm => by have z := c _ hm; have H := hiav _ hm; have P := a _ hg; have Q := hirv _ hg; omega)).ch aP (dS a hirv om)).ch0 aQ
   have bZ : Rd ics 1 es 0 es.heap.size ([(⟨Arv, (row).length, Crv⟩ : Sv)]) ([row]) := (Rd.cons (et.ls.up om om) Rd.nil)
   refine Zk rfl rfl ?_
   have fR := (((((am.ch0 A).ch0 T).ch0 aD).ch aO (fun g hg hm => by exact o _ hg hm)).ch aP (fun g hg hm => by have I := List.mem_singleton.1 hm; exact q (by first | exact hg | exact I ▸ hg))).ch0 aQ
   refine Yj (cs := Sv.cs) el25 sz30 by30 zr30 rfl (by decide) Sv.one fR ah.ls rfl rfl bd bd b om fun cH iF ai aj x a9 => ?_
   have g5 := a9.size
   have E := E.step a9 (fun i hi => .inl (by have z := b _ hi; omega))
   obtain ⟨M, O, rfl, b0, n⟩ := ai.opn
   refine Za rfl rfl (Zh fa27_2 rfl) (Zk rfl rfl ?_)
   have fS := (a8.ch0 aQ).ch a9 (fun hm => by exact q (by first | exact hm | exact I ▸ hm))
   refine Xh (off := 2) fS sz25 rfl rfl rfl rfl fun cU bH ba => ?_
   have g6 := ba.size
   have E := E.step ba (lS om)
   replace bH : Blk cU U 27 [(.int .i64 0), (.slice D ((ab ++ [accB plast pnull G])).length F), (.slice M ((vs ++ [(⟨Arv, (row).length, Crv⟩ : Sv)])).length O)] := bH
   refine Zf (Yc (Zb (dR _ _ (Zc (Za rfl rfl (Zd rfl) (Za rfl rfl (Yq om rfl rfl) (Za rfl rfl (Ze rfl) (Zf ?_))))))))
   have fT := ((((((cf.ch0 T).ch0 aD).ch aO (fun g hg hm => by exact f _ hg hm)).ch aP (dS m C om)).ch0 aQ).ch a9 (fun g hg hm => by exact j _ hg hm)).ch ba (dS m C om)
   have cV : Ol ics 3 1 cU (.slice Auv (us).length Cuv) (us) := by
    have hx := fT
    exact hx
   have fU := (((af.ch aP (fun g hg hm => by have I := List.mem_singleton.1 hm; rcases l with ea | ea; (rw [ea] at hg; exact p (by first | exact hg | exact I ▸ hg)); (have J := d _ hg; rw [ea] at hg; have B := List.mem_singleton.1 hg; omega))).ch0 aQ).ch a9 (fun g hg hm => by rcases l with ea | ea; (rw [ea] at hg; exact o _ hm hg); (have J := d _ hg; rw [ea] at hg; have B := List.mem_singleton.1 hg; have z := b _ hm; have H := hinv _ hm; omega))).ch ba (fun g hg hm => by have I := List.mem_singleton.1 hm; rcases l with ea | ea; (rw [ea] at hg; exact p (by first | exact hg | exact I ▸ hg)); (have J := d _ hg; rw [ea] at hg; have B := List.mem_singleton.1 hg; omega))
   have cW : Ol bcs 4 1 cU (.slice D ((ab ++ [accB plast pnull G])).length F) ((ab ++ [accB plast pnull G])) := by
    have hx := fU
    exact hx
   have fV := ai.ch ba (fun g hg hm => by have I := List.mem_singleton.1 hm; rcases x with ea | ea; (rw [ea] at hg; exact q (by first | exact hg | exact I ▸ hg)); (have J := n _ hg; rw [ea] at hg; have B := List.mem_singleton.1 hg; omega))
   have cX : Ol Sv.cs 30 1 cU (.slice M ((vs ++ [(⟨Arv, (row).length, Crv⟩ : Sv)])).length O) ((vs ++ [(⟨Arv, (row).length, Crv⟩ : Sv)])) := by
    have hx := fV
    exact hx
   have dJ := (((((((od.ch0 A).ch0 T).ch0 aD).chS aO K).ch aP (oS om)).ch0 aQ).chS a9 L).ch ba (oS om)
   have fW := (et.ch a9 (fun g hg hm => by have z := b _ hm; have H := hinv _ hm; have P := a _ hg; have Q := hirv _ hg; omega)).ch ba (dS a hirv om)
   have fX := ((((((b2.ch0 T).ch0 aD).ch aO (fun hm => by have z := c _ hm; have H := hiav _ hm; omega)).ch aP (nS om)).ch0 aQ).ch a9 (fun hm => by have z := b _ hm; have H := hinv _ hm; omega)).ch ba (nS om)
   have fY := (((((((Y.ch0 A).ch0 T).ch0 aD).ch aO (fun hm => by have z := c _ hm; have H := hiav _ hm; omega)).ch aP (nS om)).ch0 aQ).ch a9 (fun hm => by have z := b _ hm; have H := hinv _ hm; omega)).ch ba (nS om)
   exact Zb (Exists.intro ((s + 1), (ab ++ [accB plast pnull G]), (vs ++ [(⟨Arv, (row).length, Crv⟩ : Sv)]), (rs ++ [row]), us, (.slice Auv (us).length Cuv), (.slice D ((ab ++ [accB plast pnull G])).length F), (.slice M ((vs ++ [(⟨Arv, (row).length, Crv⟩ : Sv)])).length O)) ⟨⟨E, om, om, (by simp only [List.length_append, List.length_singleton]; omega), (fun r h => by rcases List.mem_append.1 h with h | h; exact hr r h; rw [List.mem_singleton.1 h]; omega), fX, fY, cV, (Lo.down m om), cW, (Lo.down ag om), cX, (Lo.down aj om), (Od.snoc dJ (v := (⟨Arv, (row).length, Crv⟩ : Sv)) fW (Lo.down a om) (fun g hg => by have z := hirv g hg; omega) om om), bH, (fun g hm hg => by rcases l with ea | ea; (rw [ea] at hm; exact f _ hg hm); (have t := d _ hm; rw [ea] at hm; have B := List.mem_singleton.1 hm; have P := m _ hg; have Q := C _ hg; omega)), (fun hm => by rcases l with ea | ea; (rw [ea] at hm; exact p (by first | exact hm | exact I ▸ hm)); (have t := d _ hm; rw [ea] at hm; have B := List.mem_singleton.1 hm; omega)), (fun g hm hg => by rcases x with ea | ea; (rw [ea] at hm; exact j _ hg hm); (have t := n _ hm; rw [ea] at hm; have B := List.mem_singleton.1 hm; have P := m _ hg; have Q := C _ hg; omega)), (fun g hm hg => by rcases x with ea | ea; (rw [ea] at hm; rcases l with ea | ea; (rw [ea] at hg; exact o _ hm hg); (have J := d _ hg; rw [ea] at hg; have B := List.mem_singleton.1 hg; have z := b _ hm; have H := hinv _ hm; omega)); (have t := n _ hm; rw [ea] at hm; have B := List.mem_singleton.1 hm; rcases l with ea | ea; (rw [ea] at hg; have P := c _ hg; have Q := hiav _ hg; omega); (have J := d _ hg; rw [ea] at hg; have B := List.mem_singleton.1 hg; omega))), (fun hm => by rcases x with ea | ea; (rw [ea] at hm; exact q (by first | exact hm | exact I ▸ hm)); (have t := n _ hm; rw [ea] at hm; have B := List.mem_singleton.1 hm; omega)), (fun u hu g hg hm => by rcases List.mem_append.1 hu with hu | hu; (exact R _ hu _ hg hm); (rw [List.mem_singleton.1 hu] at hg; replace hg : g ∈ bl (.slice Arv (row).length Crv) := hg; exact y _ hg hm)), (fun u hu g hg hm => by rcases List.mem_append.1 hu with hu | hu; (rcases l with ea | ea; (rw [ea] at hm; exact K _ hu _ hg hm); (have t := d _ hm; rw [ea] at hm; have B := List.mem_singleton.1 hm; have b1 := dJ.rng hu hg; omega)); (rw [List.mem_singleton.1 hu] at hg; replace hg : g ∈ bl (.slice Arv (row).length Crv) := hg; rcases l with ea | ea; (rw [ea] at hm; have z := c _ hm; have H := hiav _ hm; have P := a _ hg; have Q := hirv _ hg; omega); (have t := d _ hm; rw [ea] at hm; have B := List.mem_singleton.1 hm; have P := a _ hg; have Q := hirv _ hg; omega))), (fun u hu g hg hm => by rcases List.mem_append.1 hu with hu | hu; (rcases x with ea | ea; (rw [ea] at hm; exact L _ hu _ hg hm); (have t := n _ hm; rw [ea] at hm; have B := List.mem_singleton.1 hm; have b1 := dJ.rng hu hg; omega)); (rw [List.mem_singleton.1 hu] at hg; replace hg : g ∈ bl (.slice Arv (row).length Crv) := hg; rcases x with ea | ea; (rw [ea] at hm; have z := b _ hm; have H := hinv _ hm; have P := a _ hg; have Q := hirv _ hg; omega); (have t := n _ hm; rw [ea] at hm; have B := List.mem_singleton.1 hm; have P := a _ hg; have Q := hirv _ hg; omega)))⟩, sC4 rfl rfl rfl rfl (sC2 rfl rfl (Sub.nil _)), (by first | omega | (dsimp only; omega))⟩)
  refine Ye rfl rfl rfl ?_
  refine Zr (cs := bcs) (parts := [(0, .tmp 62)]) false [accB plast pnull G] el24 sz4 zr4 Qa (by decide) rfl rfl rfl (by decide) (by decide) rfl fun cE fZ ae bQ aE => ?_
  have g7 := aE.size
  have E := E.trans aE
  obtain ⟨bR, bS, rfl, bT, aW⟩ := ae.opn
  have bI : Ch ((bl (.slice Aav (ab).length Cav)) ++ [U]) S fZ := (a7.trans aE.of_nil)
  refine ⟨bI, ?_⟩
  refine dO 1 (Ye rfl rfl rfl ?_)
  have eu := ((ac.ch0 A).ch0 T).ch0 aE
  refine s_v (Zp eu.at_ agg24 rfl rfl) ?_
  refine ⟨bI, ?_⟩
  refine dO 9 (Ye rfl rfl rfl ?_)
  have f0 := ((al.ch0 A).ch0 T).ch0 aE
  refine Yj (cs := bcs) el24 sz4 by4 zr4 rfl (by decide) Zaz f0 ae.ls rfl rfl bd bd c om fun cF f1 af ag l aR => ?_
  have g8 := aR.size
  have E := E.step aR (fun i hi => .inl (by have z := c _ hi; omega))
  obtain ⟨D, F, rfl, bU, d⟩ := af.opn
  have cq : Ch ((bl (.slice Aav (ab).length Cav)) ++ [U]) S f1 := (bI.step aR (fun i hm => by exact .inr (List.mem_append_left _ hm)))
  refine ⟨cq, ?_⟩
  refine dV 10 rfl rfl rfl (fun _ => Zh fa27_1 rfl) (dO 11 (Ye rfl rfl rfl ?_))
  have f2 := eu.ch aR (fun hm => by exact p (by first | exact hm | exact I ▸ hm))
  refine Xh (off := 1) f2 sz24 rfl rfl rfl rfl fun ew bb aS => ?_
  have g9 := aS.size
  have E := E.step aS (lS om)
  replace bb : Blk ew U 27 [(.int .i64 0), (.slice D ((ab ++ [accB plast pnull G])).length F), (.slice Anv (vs).length Cnv)] := bb
  have dL : Ch ((bl (.slice Aav (ab).length Cav)) ++ [U]) S ew := (cq.step aS (fun i hm => by have I := List.mem_singleton.1 hm; exact .inr (by rw [I]; exact (List.mem_append_right _ (List.mem_singleton.2 rfl)))))
  refine ⟨dL, ?_⟩
  refine Yb (by kernel_rfl) ?_
  refine Zb (cb _ _ (Zc (Za rfl rfl (Zh fa27_2 rfl) (Za rfl rfl (Zp bb.at_ agg25 rfl rfl) (Za rfl rfl (Zd rfl) (Zk rfl rfl ?_))))))
  refine Zr (cs := Sv.cs) (parts := [(0, .tmp 68)]) (⟨none, 0, 0⟩ : Sv) [(⟨Arv, (row).length, Crv⟩ : Sv)] el25 sz30 zr30 Sv.len (by decide) rfl rfl rfl (by decide) (by decide) rfl fun cG ex ah bV aT => ?_
  have ha := aT.size
  have E := E.trans aT
  obtain ⟨bW, bX, rfl, bY, aY⟩ := ah.opn
  have ey := (((((ad.ch0 A).ch0 T).ch0 aE).ch aR (fun g hg hm => by have z := c _ hm; have H := hiav _ hm; have P := a _ hg; have Q := hirv _ hg; omega)).ch aS (dS a hirv om)).ch0 aT
  have bZ : Rd ics 1 ex 0 ex.heap.size ([(⟨Arv, (row).length, Crv⟩ : Sv)]) ([row]) := (Rd.cons (ey.ls.up om om) Rd.nil)
  refine Zk rfl rfl ?_
  have f3 := (((((am.ch0 A).ch0 T).ch0 aE).ch aR (fun g hg hm => by exact o _ hg hm)).ch aS (fun g hg hm => by have I := List.mem_singleton.1 hm; exact q (by first | exact hg | exact I ▸ hg))).ch0 aT
  refine Yj (cs := Sv.cs) el25 sz30 by30 zr30 rfl (by decide) Sv.one f3 ah.ls rfl rfl bd bd b om fun cH iG ai aj x bc => ?_
  have hb := bc.size
  have E := E.step bc (fun i hi => .inl (by have z := b _ hi; omega))
  obtain ⟨M, O, rfl, b0, n⟩ := ai.opn
  refine Za rfl rfl (Zh fa27_2 rfl) (Zk rfl rfl ?_)
  have f4 := (bb.ch0 aT).ch bc (fun hm => by exact q (by first | exact hm | exact I ▸ hm))
  refine Xh (off := 2) f4 sz25 rfl rfl rfl rfl fun cY bJ be => ?_
  have hc := be.size
  have E := E.step be (lS om)
  replace bJ : Blk cY U 27 [(.int .i64 0), (.slice D ((ab ++ [accB plast pnull G])).length F), (.slice M ((vs ++ [(⟨Arv, (row).length, Crv⟩ : Sv)])).length O)] := bJ
  refine Zf (Yc (Zb (dR _ _ (Zc (Za rfl rfl (Zd rfl) (Za rfl rfl (Yq om rfl rfl) (Za rfl rfl (Ze rfl) (Zf ?_))))))))
  have f5 := ((((((cf.ch0 T).ch0 aE).ch aR (fun g hg hm => by exact f _ hg hm)).ch aS (dS m C om)).ch0 aT).ch bc (fun g hg hm => by exact j _ hg hm)).ch be (dS m C om)
  have cZ : Ol ics 3 1 cY (.slice Auv (us).length Cuv) (us) := by
   have hx := f5
   exact hx
  have f6 := (((af.ch aS (fun g hg hm => by have I := List.mem_singleton.1 hm; rcases l with ea | ea; (rw [ea] at hg; exact p (by first | exact hg | exact I ▸ hg)); (have J := d _ hg; rw [ea] at hg; have B := List.mem_singleton.1 hg; omega))).ch0 aT).ch bc (fun g hg hm => by rcases l with ea | ea; (rw [ea] at hg; exact o _ hm hg); (have J := d _ hg; rw [ea] at hg; have B := List.mem_singleton.1 hg; have z := b _ hm; have H := hinv _ hm; omega))).ch be (fun g hg hm => by have I := List.mem_singleton.1 hm; rcases l with ea | ea; (rw [ea] at hg; exact p (by first | exact hg | exact I ▸ hg)); (have J := d _ hg; rw [ea] at hg; have B := List.mem_singleton.1 hg; omega))
  have c0 : Ol bcs 4 1 cY (.slice D ((ab ++ [accB plast pnull G])).length F) ((ab ++ [accB plast pnull G])) := by
   have hx := f6
   exact hx
  have f7 := ai.ch be (fun g hg hm => by have I := List.mem_singleton.1 hm; rcases x with ea | ea; (rw [ea] at hg; exact q (by first | exact hg | exact I ▸ hg)); (have J := n _ hg; rw [ea] at hg; have B := List.mem_singleton.1 hg; omega))
  have c1 : Ol Sv.cs 30 1 cY (.slice M ((vs ++ [(⟨Arv, (row).length, Crv⟩ : Sv)])).length O) ((vs ++ [(⟨Arv, (row).length, Crv⟩ : Sv)])) := by
   have hx := f7
   exact hx
  have dM := (((((((od.ch0 A).ch0 T).ch0 aE).chS aR K).ch aS (oS om)).ch0 aT).chS bc L).ch be (oS om)
  have f8 := (ey.ch bc (fun g hg hm => by have z := b _ hm; have H := hinv _ hm; have P := a _ hg; have Q := hirv _ hg; omega)).ch be (dS a hirv om)
  have f9 := ((((((b2.ch0 T).ch0 aE).ch aR (fun hm => by have z := c _ hm; have H := hiav _ hm; omega)).ch aS (nS om)).ch0 aT).ch bc (fun hm => by have z := b _ hm; have H := hinv _ hm; omega)).ch be (nS om)
  have ga := (((((((Y.ch0 A).ch0 T).ch0 aE).ch aR (fun hm => by have z := c _ hm; have H := hiav _ hm; omega)).ch aS (nS om)).ch0 aT).ch bc (fun hm => by have z := b _ hm; have H := hinv _ hm; omega)).ch be (nS om)
  exact Zb (Exists.intro ((s + 1), (ab ++ [accB plast pnull G]), (vs ++ [(⟨Arv, (row).length, Crv⟩ : Sv)]), (rs ++ [row]), us, (.slice Auv (us).length Cuv), (.slice D ((ab ++ [accB plast pnull G])).length F), (.slice M ((vs ++ [(⟨Arv, (row).length, Crv⟩ : Sv)])).length O)) ⟨⟨E, om, om, (by simp only [List.length_append, List.length_singleton]; omega), (fun r h => by rcases List.mem_append.1 h with h | h; exact hr r h; rw [List.mem_singleton.1 h]; omega), f9, ga, cZ, (Lo.down m om), c0, (Lo.down ag om), c1, (Lo.down aj om), (Od.snoc dM (v := (⟨Arv, (row).length, Crv⟩ : Sv)) f8 (Lo.down a om) (fun g hg => by have z := hirv g hg; omega) om om), bJ, (fun g hm hg => by rcases l with ea | ea; (rw [ea] at hm; exact f _ hg hm); (have t := d _ hm; rw [ea] at hm; have B := List.mem_singleton.1 hm; have P := m _ hg; have Q := C _ hg; omega)), (fun hm => by rcases l with ea | ea; (rw [ea] at hm; exact p (by first | exact hm | exact I ▸ hm)); (have t := d _ hm; rw [ea] at hm; have B := List.mem_singleton.1 hm; omega)), (fun g hm hg => by rcases x with ea | ea; (rw [ea] at hm; exact j _ hg hm); (have t := n _ hm; rw [ea] at hm; have B := List.mem_singleton.1 hm; have P := m _ hg; have Q := C _ hg; omega)), (fun g hm hg => by rcases x with ea | ea; (rw [ea] at hm; rcases l with ea | ea; (rw [ea] at hg; exact o _ hm hg); (have J := d _ hg; rw [ea] at hg; have B := List.mem_singleton.1 hg; have z := b _ hm; have H := hinv _ hm; omega)); (have t := n _ hm; rw [ea] at hm; have B := List.mem_singleton.1 hm; rcases l with ea | ea; (rw [ea] at hg; have P := c _ hg; have Q := hiav _ hg; omega); (have J := d _ hg; rw [ea] at hg; have B := List.mem_singleton.1 hg; omega))), (fun hm => by rcases x with ea | ea; (rw [ea] at hm; exact q (by first | exact hm | exact I ▸ hm)); (have t := n _ hm; rw [ea] at hm; have B := List.mem_singleton.1 hm; omega)), (fun u hu g hg hm => by rcases List.mem_append.1 hu with hu | hu; (exact R _ hu _ hg hm); (rw [List.mem_singleton.1 hu] at hg; replace hg : g ∈ bl (.slice Arv (row).length Crv) := hg; exact y _ hg hm)), (fun u hu g hg hm => by rcases List.mem_append.1 hu with hu | hu; (rcases l with ea | ea; (rw [ea] at hm; exact K _ hu _ hg hm); (have t := d _ hm; rw [ea] at hm; have B := List.mem_singleton.1 hm; have b1 := dM.rng hu hg; omega)); (rw [List.mem_singleton.1 hu] at hg; replace hg : g ∈ bl (.slice Arv (row).length Crv) := hg; rcases l with ea | ea; (rw [ea] at hm; have z := c _ hm; have H := hiav _ hm; have P := a _ hg; have Q := hirv _ hg; omega); (have t := d _ hm; rw [ea] at hm; have B := List.mem_singleton.1 hm; have P := a _ hg; have Q := hirv _ hg; omega))), (fun u hu g hg hm => by rcases List.mem_append.1 hu with hu | hu; (rcases x with ea | ea; (rw [ea] at hm; exact L _ hu _ hg hm); (have t := n _ hm; rw [ea] at hm; have B := List.mem_singleton.1 hm; have b1 := dM.rng hu hg; omega)); (rw [List.mem_singleton.1 hu] at hg; replace hg : g ∈ bl (.slice Arv (row).length Crv) := hg; rcases x with ea | ea; (rw [ea] at hm; have z := b _ hm; have H := hinv _ hm; have P := a _ hg; have Q := hirv _ hg; omega); (have t := n _ hm; rw [ea] at hm; have B := List.mem_singleton.1 hm; have P := a _ hg; have Q := hirv _ hg; omega)))⟩, sC4 rfl rfl rfl rfl (sC2 rfl rfl (Sub.nil _)), (by first | omega | (dsimp only; omega))⟩)
 have eH := bu
 have bu := Yp bu
 refine Xk (Ya (Ya (Xd ?_)))
 refine Zb (gj _ _ ?_)
 refine Zg fun iH gb => ?_
 refine Zc (Za rfl rfl (Zt c9.at_ agg27 sz27 rfl) (Zk rfl rfl ?_))
 refine Zy (off := 0) 3 b4 sz27 rfl (us := [(.int .i64 0), (.slice Aav (ab).length Cav), (.slice Anv (vs).length Cnv)]) rfl rfl rfl rfl fun b3 bK cr => ?_
 have hd := cr.size
 have E := E.step cr (lS om)
 replace bK : Blk b3 dl 27 [(.int .i64 0), (.slice Aav (ab).length Cav), (.slice Anv (vs).length Cnv)] := bK
 refine Za rfl rfl (Ze rfl) (Zf (Zb (gb _ _ ?_)))
 refine Zs ?_
 have gc := bp.ch cr (dS c hiav om)
 have dN : Ol bcs 4 1 b3 (.slice Aav (ab).length Cav) (ab) := by
  have hx := gc
  first | exact hx | simpa using hx
 have gd := bq.ch cr (dS b hinv om)
 have ge := od.ch cr (oS om)
 have dP : Ol Sv.cs 30 1 b3 (.slice Anv (vs).length Cnv) vs := by
  have hx := gd
  exact hx
 have dQ : Od ics 3 1 b3 w.heap.size b3.heap.size vs (rs) := by
  have hx := ge.up (lo' := w.heap.size) (hi' := b3.heap.size) om om
  exact hx
 exact Zi [_, _] (Zz bK rfl agg27 sz27 ⟨rfl, trivial⟩) ⟨0, ab, rs, true, (.slice Aav (ab).length Cav), (.slice Anv (vs).length Cnv), vs, ((congrArg (fun zq => (Value.tuple #[.agg #[.int .i64 zq, (.slice Aav (ab).length Cav), (.slice Anv (vs).length Cnv)], .bool true])) (by first | rfl | simp_all)).trans (congrArg (fun zq => (Value.tuple #[.agg #[.int .i64 0, (.slice Aav (ab).length Cav), (.slice Anv (vs).length Cnv)], .bool zq])) (by first | rfl | simp_all))), dN, (Lo.down c om), dP, (Lo.down b om), dQ, L, (fun g hm hg => by exact o _ hg hm), K, (fun _ => ⟨by omega, by omega, by omega, hr⟩), E⟩

/-- spec.l2Cut -/
theorem Zlr {w : World} (s : List UInt8) (sep : Int) (hb : s.length ≤ 4194304) :
 Ctr Try.prog 142 #[(bst s), (.int .u8 sep)] w (fun v w' => Ol scs 9 1 w' v (Qr s sep []) ∧ Lo w.heap.size v ∧ Ch [] w w') := by
 have E := Ch.refl [] w
 refine Yh (N := 35) (vs0 := [(bst s), (.int .u8 sep)]) Try.func142 rfl rfl rfl ?_
 refine Zg fun K1 H1 => ?_
 refine Zc (Za rfl rfl (Ze rfl) (Zf (Zb (H1 _ _ ?_))))
 refine Zg fun K2 H2 => ?_
 refine Zc (Zk rfl rfl ?_)
 refine Xt (k := 1) scs el160 sz9 fun aC W3 L A C3 => ?_
 have aD := C3.size
 have E := E.trans C3
 obtain ⟨l, m, rfl, af, M⟩ := L.opn
 refine Za rfl rfl (Ze rfl) (Zf (Zb (H2 _ _ ?_)))
 refine Zg fun K4 H4 => ?_
 refine Zc (Za rfl rfl (Ze rfl) (Zf (Zb (H4 _ _ ?_))))
 refine Zg fun K5 H5 => ?_
 refine Zg fun K6 H6 => ?_
 refine Zc (Za rfl rfl (Ze rfl) (Zf (Zb (H6 _ _ ?_))))
 refine Yf ?_
 have n : Ol scs 9 1 W3 (.slice l (([] : List (List UInt8))).length m) (([] : List (List UInt8))) := by
  have hx := L
  exact hx
 refine Xo (σ := Nat × Nat × List (List UInt8) × Value) (fun ⟨i, f, out, ov⟩ => [(0, (bst s)), (1, (.int .u8 sep)), (4, (.slice none 0 0)), (5, ov), (6, (.int .i64 ((f : Nat) : Int))), (7, (.int .i64 ((i : Nat) : Int)))]) (fun ⟨i, f, out, ov⟩ wx => Ch [] w wx ∧ W3.heap.size ≤ wx.heap.size ∧ (f ≤ i ∧ i ≤ s.length) ∧ (out ++ Qr (s.drop i) sep ((s.drop f).take (i - f)) = Qr s sep []) ∧ Ol scs 9 1 wx ov out ∧ Lo w.heap.size ov) (fun ⟨i, f, out, ov⟩ => s.length - i) (0, 0, ([] : List (List UInt8)), (.slice l (([] : List (List UInt8))).length m)) (sC4 rfl rfl rfl rfl (sC2 rfl rfl (Sub.nil _))) ⟨E, (Nat.le_refl _), om, Zsq, n, A⟩ ?_
 rintro ⟨i, f, out, ov⟩ R8 ⟨E, ag, hi, hc, d, a⟩
 have B := E
 have O := B.size
 obtain ⟨Aov, Cov, rfl, lov, hiov⟩ := d.opn
 have ah := congrArg List.length hc
 have aE := Zhj s sep []
 rw [List.length_append] at ah
 refine Zg fun K9 H9 => ?_
 refine Zg fun aF ai => ?_
 refine Zc (Za rfl rfl (Zd rfl) (Za rfl rfl (Zd rfl) (Za rfl rfl (Ztf un9 rfl) (Za rfl rfl (Xv rfl rfl) (Zf (Zb (ai _ _ ?_)))))))
 refine Zx rfl (fun c => ?_) (fun c => ?_)
 ·have C := c
  have c := Yo c
  refine Zu ?_
  refine Zb (H9 _ _ ?_)
  refine Zg fun aG P => ?_
  refine Yf ?_
  refine Zg fun aH aj => ?_
  refine Zc (Za rfl rfl (Zd rfl) (Za rfl rfl (Zd rfl) (Za rfl rfl (Zdy om un9 rfl rfl) (Za rfl rfl (Zd rfl) (Za rfl rfl (Xu rfl rfl) (Zf (Zb (aj _ _ ?_))))))))
  refine Zx rfl (fun b => ?_) (fun b => ?_)
  ·have D := b
   have b := Yo b
   refine Zg fun aI ak => ?_
   refine Zc (Za rfl rfl (Zd rfl) (Za rfl rfl (Zd rfl) (Za rfl rfl (Zd rfl) (Za rfl rfl (Zd rfl) (Za rfl rfl (Zvw om un9 rfl rfl rfl) (Zk rfl rfl ?_))))))
   refine Zr (cs := scs) (parts := [(0, .tmp 24)]) ([] : List UInt8) [((s.drop f).take (i - f))] el160 sz9 zr9 Zeq (by decide) rfl rfl rfl (by decide) (by decide) rfl fun al aJ o Q F => ?_
   have am := F.size
   have E := E.trans F
   obtain ⟨R, S, rfl, T, G⟩ := o.opn
   refine Zk rfl rfl ?_
   have an := d.ch0 F
   refine Yj (cs := scs) el160 sz9 by9 zr9 rfl (by decide) Zpe an o.ls rfl rfl bd bd a om fun ao ap p q U V => ?_
   have aq := V.size
   have E := E.step V (fun i hi => .inl (by have au := a _ hi; omega))
   obtain ⟨e, g, rfl, X, H⟩ := p.opn
   refine Za rfl rfl (Ze rfl) (Zf (Zb (ak _ _ (Zc (Za rfl rfl (Zd rfl) (Za rfl rfl (Yq om rfl rfl) (Za rfl rfl (Ze rfl) (Zf ?_))))))))
   refine Yc (Zb (P _ _ (Zc (Za rfl rfl (Zd rfl) (Za rfl rfl (Yq om rfl rfl) (Za rfl rfl (Ze rfl) (Zf ?_)))))))
   have h : Ol scs 9 1 ap (.slice e ((out ++ [((s.drop f).take (i - f))])).length g) ((out ++ [((s.drop f).take (i - f))])) := by
    have hx := p
    exact hx
   exact Zb (Exists.intro ((i + 1), (i + 1), (out ++ [((s.drop f).take (i - f))]), (.slice e ((out ++ [((s.drop f).take (i - f))])).length g)) ⟨⟨E, om, om, (by first | exact Zpk hc om b | exact Zmz hc om om b), h, (Lo.down q om)⟩, sC4 rfl rfl rfl rfl (sC2 rfl rfl (Sub.nil _)), (by first | omega | (dsimp only; omega))⟩)
  have D := b
  have b := Yp b
  refine Zu ?_
  refine Yc (Zb (P _ _ (Zc (Za rfl rfl (Zd rfl) (Za rfl rfl (Yq om rfl rfl) (Za rfl rfl (Ze rfl) (Zf ?_)))))))
  have j : Ol scs 9 1 R8 (.slice Aov (out).length Cov) (out) := by
   have hx := d
   exact hx
  exact Zb (Exists.intro ((i + 1), f, out, (.slice Aov (out).length Cov)) ⟨⟨E, om, om, (by first | exact Zpk hc om b | exact Zmz hc om om b), j, (Lo.down a om)⟩, sC4 rfl rfl rfl rfl (sC2 rfl rfl (Sub.nil _)), (by first | omega | (dsimp only; omega))⟩)
 have C := c
 have c := Yp c
 refine Xk (Ya (Ya (Xd ?_)))
 refine Zb (H5 _ _ ?_)
 refine Zg fun aK av => ?_
 refine Zc (Za rfl rfl (Zd rfl) (Za rfl rfl (Zd rfl) (Za rfl rfl (Zd rfl) (Za rfl rfl (Zua om un9 rfl rfl) (Zk rfl rfl ?_)))))
 refine Zr (cs := scs) (parts := [(0, .tmp 32)]) ([] : List UInt8) [(s.drop f)] el160 sz9 zr9 Zeq (by decide) rfl rfl rfl (by decide) (by decide) rfl fun aw aL r Y I => ?_
 have ax := I.size
 have E := E.trans I
 obtain ⟨Z, aa, rfl, ab, J⟩ := r.opn
 refine Zk rfl rfl ?_
 have ay := d.ch0 I
 refine Yj (cs := scs) el160 sz9 by9 zr9 rfl (by decide) Zpe ay r.ls rfl rfl bd bd a om fun az aA t u ac ad => ?_
 have aB := ad.size
 have E := E.step ad (fun i hi => .inl (by have au := a _ hi; omega))
 obtain ⟨x, y, rfl, ae, K⟩ := t.opn
 refine Za rfl rfl (Ze rfl) (Zf (Zb (av _ _ ?_)))
 refine Zs ?_
 have z : Ol scs 9 1 aA (.slice x ((out ++ [(s.drop f)])).length y) (Qr s sep []) := by
  have hx := t
  exact hx.eq (Zuf hc om)
 exact Zi [_] ⟨rfl, trivial⟩ ⟨z, Lo.down u om, E⟩

/-- spec.FormatLetter -/
theorem Zcd {w : World} (n : Int) :
 Ctr Try.prog 146 #[(.int .i64 n)] w (fun v w' => v = bst (fmtL n) ∧ Ch [] w w') := by
 have E := Ch.refl [] w
 refine Yh (N := 10) (vs0 := [(.int .i64 n)]) Try.func146 rfl rfl rfl ?_
 refine Zg fun K1 H1 => ?_
 refine Zc (Za rfl rfl (Ze rfl) (Zf (Zb (H1 _ _ ?_))))
 refine Zg fun K2 H2 => ?_
 refine Zg fun K3 H3 => ?_
 refine Zc (Za rfl rfl (Zd rfl) (Zk rfl rfl ?_))
 refine Step.call (Zl (xs := [.tmp 3]) fk75 rfl) (Zcc _ ) fun m W4 e => ?_
 obtain ⟨rfl, C4⟩ := e
 have o := C4.size
 have E := E.trans C4
 refine Za rfl rfl (Xi rfl) (Zf (Zb (H3 _ _ ?_)))
 refine Zx rfl (fun a => ?_) (fun a => ?_)
 ·have f := a
  have a := Yp (Qf a)
  refine Zg fun K6 H6 => ?_
  refine Zc (Za rfl rfl (Ze rfl) (Zf (Zb (H6 _ _ ?_))))
  refine Zs (Zm ?_)
  exact Zi [_] ⟨rfl, trivial⟩ ⟨congrArg bst (Zvv om), E⟩
 have f := a
 have a := Yo (Qg a)
 refine Zu ?_
 refine Zb (H2 _ _ ?_)
 refine Zg fun K7 H7 => ?_
 refine Zc (Zk rfl rfl ?_)
 refine Zr (cs := scs) (parts := [(0, .const (Go.Value.string { data := #[97] })), (1, .const (Go.Value.string { data := #[97, 45] })), (2, .const (Go.Value.string { data := #[98] })), (3, .const (Go.Value.string { data := #[98, 45] })), (4, .const (Go.Value.string { data := #[99] })), (5, .const (Go.Value.string { data := #[99, 45] })), (6, .const (Go.Value.string { data := #[48] })), (7, .const (Go.Value.string { data := #[49] })), (8, .const (Go.Value.string { data := #[50] }))]) ([] : List UInt8) [[97], [97, 45], [98], [98, 45], [99], [99, 45], [48], [49], [50]] el160 sz9 zr9 Zeq (by decide) rfl rfl rfl (by decide) (by decide) rfl fun p W8 c g C8 => ?_
 have q := C8.size
 have E := E.trans C8
 obtain ⟨h, i, rfl, k, d⟩ := c.opn
 refine Za rfl rfl (Zd rfl) (Zk rfl rfl ?_)
 refine (Yy (j := n.toNat) c.ls Zeq el160 sz9 rfl rfl om (by first | omega | (simp; omega)) fun r s b l => ?_)
 refine Za rfl rfl (Yk l agg9 rfl rfl) (Za rfl rfl (Ze rfl) (Zf (Zb (H7 _ _ ?_))))
 refine Zs ?_
 exact Zi [_] ⟨rfl, trivial⟩ ⟨congrArg bst (Zvm om b), E⟩

/-- spec.ParseLetter -/
theorem Zfm {w : World} (s : List UInt8) :
 Ctr Try.prog 145 #[(bst s)] w (fun v w' => v = .tuple #[.int .i64 ((plR s).1), .bool ((plR s).2)] ∧ Ch [] w w') := by
 have E := Ch.refl [] w
 refine Yh (N := 14) (vs0 := [(bst s)]) Try.func145 rfl rfl rfl ?_
 refine Zg fun K1 H1 => ?_
 refine Zc (Za rfl rfl (Ze rfl) (Za rfl rfl (Ze rfl) (Zf (Zb (H1 _ _ ?_)))))
 refine Zg fun K2 H2 => ?_
 refine Zg fun K3 H3 => ?_
 refine Zc (Za rfl rfl (Ze rfl) (Zf (Zb (H3 _ _ ?_))))
 refine Yf ?_
 refine Xo (σ := Nat) (fun (k : Nat) => [(0, (bst s)), (4, (.int .i64 ((k : Nat) : Int)))]) (fun (k : Nat) wx => Ch [] w wx ∧ w.heap.size ≤ wx.heap.size ∧ (k ≤ 9) ∧ (ltrI s k = none)) (fun (k : Nat) => 9 - k) 0 (sC2 rfl rfl (Sub.nil _)) ⟨E, (Nat.le_refl _), om, Zqf⟩ ?_
 rintro k R4 ⟨E, h, o, hn⟩
 have c := E
 have f := c.size
 refine Zg fun K5 H5 => ?_
 refine Zg fun K6 H6 => ?_
 refine Zc (Za rfl rfl (Zd rfl) (Za rfl rfl (Xv rfl rfl) (Zf (Zb (H6 _ _ ?_)))))
 refine Zx rfl (fun b => ?_) (fun b => ?_)
 ·have i := b
  have b := Yo b
  refine Zu ?_
  refine Zb (H5 _ _ ?_)
  refine Zg fun K8 H8 => ?_
  refine Yf ?_
  refine Zg fun K9 H9 => ?_
  refine Zc (Za rfl rfl (Zd rfl) (Zk rfl rfl ?_))
  refine Step.call (Zl (xs := [.tmp 9]) fk146 rfl) (Zcd _ ) fun j p d => ?_
  obtain ⟨rfl, g⟩ := d
  have l := g.size
  have E := E.trans g
  refine Za rfl rfl (Zd rfl) (Za rfl rfl (Zst rfl rfl) (Zf (Zb (H9 _ _ ?_))))
  refine Zx rfl (fun a => ?_) (fun a => ?_)
  ·have e := a
   have a := Yo a
   refine Zg fun q m => ?_
   refine Zc (Za rfl rfl (Zd rfl) (Za rfl rfl (Ze rfl) (Za rfl rfl (Ze rfl) (Zf (Zb (m _ _ ?_))))))
   refine Zs (Yi (Zm (Zm (Yi (Zm ?_)))))
   clear H2 H8
   exact Zi [_, _] ⟨rfl, ⟨rfl, trivial⟩⟩ ⟨((congrArg (fun zq => (Value.tuple #[.int .i64 zq, .bool true])) (by first | exact congrArg Prod.fst (Zrc hn om a) | exact congrArg Prod.fst (Zrh hn om om))).trans (congrArg (fun zq => (Value.tuple #[.int .i64 ((plR s).1), .bool zq])) (by first | exact congrArg Prod.snd (Zrc hn om a) | exact congrArg Prod.snd (Zrh hn om om)))), E⟩
  have e := a
  have a := Yp a
  refine Zu ?_
  refine Yc (Zb (H8 _ _ (Zc (Za rfl rfl (Zd rfl) (Za rfl rfl (Yq om rfl rfl) (Za rfl rfl (Ze rfl) (Zf ?_)))))))
  exact Zb (Exists.intro (k + 1) ⟨⟨E, om, om, (Zwa hn om a)⟩, sC2 rfl rfl (Sub.nil _), (by first | omega | (dsimp only; omega))⟩)
 have i := b
 have b := Yp b
 refine Xk (Ya (Ya (Xd ?_)))
 refine Zb (H2 _ _ ?_)
 refine Zg fun r n => ?_
 refine Zc (Za rfl rfl (Ze rfl) (Za rfl rfl (Ze rfl) (Zf (Zb (n _ _ ?_)))))
 refine Zs ?_
 exact Zi [_, _] ⟨rfl, ⟨rfl, trivial⟩⟩ ⟨((congrArg (fun zq => (Value.tuple #[.int .i64 zq, .bool false])) (by first | exact congrArg Prod.fst (Zrc hn om a) | exact congrArg Prod.fst (Zrh hn om om))).trans (congrArg (fun zq => (Value.tuple #[.int .i64 ((plR s).1), .bool zq])) (by first | exact congrArg Prod.snd (Zrc hn om a) | exact congrArg Prod.snd (Zrh hn om om)))), E⟩

/-- spec.FormatInt -/
theorem Zdg {w : World} (n : Int) (z : -9223372036854775808 ≤ n ∧ n ≤ 9223372036854775807) :
 Ctr Try.prog 147 #[(.int .i64 n)] w (fun v w' => v = bst (fmtI n) ∧ Ch [] w w') := by
 have E := Ch.refl [] w
 refine Yh (N := 31) (vs0 := [(.int .i64 n)]) Try.func147 rfl rfl rfl ?_
 refine Zg fun K1 H1 => ?_
 refine Zc (Za rfl rfl (Ze rfl) (Zf (Zb (H1 _ _ ?_))))
 refine Zg fun K2 H2 => ?_
 refine Zg fun K3 H3 => ?_
 refine Zc (Za rfl rfl (Zd rfl) (Za rfl rfl (Xu rfl rfl) (Zf (Zb (H3 _ _ ?_)))))
 refine Zx rfl (fun e => ?_) (fun e => ?_)
 ·have A := e
  have e := Yo e
  refine Zg fun K5 H5 => ?_
  refine Zc (Za rfl rfl (Ze rfl) (Zf (Zb (H5 _ _ ?_))))
  refine Zs (Zm ?_)
  exact Zi [_] ⟨rfl, trivial⟩ ⟨congrArg bst (Zvs e), E⟩
 have A := e
 have e := Yp e
 refine Zu ?_
 refine Zb (H2 _ _ ?_)
 refine Zg fun K6 H6 => ?_
 refine Zc (Za rfl rfl (Ze rfl) (Zf (Zb (H6 _ _ ?_))))
 refine Zg fun K7 H7 => ?_
 refine Zc (Za rfl rfl (Zd rfl) (Za rfl rfl (Xv rfl rfl) (Za rfl rfl (Ze rfl) (Zf (Zb (H7 _ _ ?_))))))
 refine Zg fun K8 H8 => ?_
 refine Yf ?_
 refine Xo (σ := Int × List UInt8) (fun ⟨m, out⟩ => [(0, (.int .i64 m)), (2, (bst ([] : List UInt8))), (3, (bst out)), (4, (.bool (decide (n < 0))))]) (fun ⟨m, out⟩ wx => Ch [] w wx ∧ w.heap.size ≤ wx.heap.size ∧ (dgF 20 m.natAbs ++ out = dgF 20 n.natAbs) ∧ (-9223372036854775808 ≤ m ∧ m ≤ 9223372036854775807)) (fun ⟨m, out⟩ => m.natAbs) (n, ([] : List UInt8)) (sC4 rfl rfl rfl rfl (Sub.nil _)) ⟨E, (Nat.le_refl _), (by simp), z⟩ ?_
 rintro ⟨m, out⟩ R9 ⟨E, B, hm, hr⟩
 have k := E
 have r := k.size
 have C := congrArg List.length hm
 have P := Zmh 20 n.natAbs
 rw [List.length_append] at C
 refine Zg fun Q s => ?_
 refine Zg fun R D => ?_
 refine Zc (Za rfl rfl (Zd rfl) (Za rfl rfl (Zbb rfl rfl) (Zf (Zb (D _ _ ?_)))))
 refine Zx rfl (fun a => ?_) (fun a => ?_)
 ·have l := a
  have a := Yp (Qf a)
  have S := tm10 m
  refine Zu ?_
  refine Zb (s _ _ ?_)
  refine Yf ?_
  refine Zg fun T F => ?_
  refine Zc (Za rfl rfl (Zd rfl) (Za rfl rfl (Zto om rfl rfl) (Za rfl rfl (Ze rfl) (Zf (Zb (F _ _ ?_))))))
  refine Zg fun U t => ?_
  refine Zg fun V G => ?_
  refine Zc (Za rfl rfl (Zd rfl) (Za rfl rfl (Xv rfl rfl) (Zf (Zb (G _ _ ?_)))))
  refine Zx rfl (fun c => ?_) (fun c => ?_)
  ·have o := c
   have c := Yo c
   refine Zc (Za rfl rfl (Zd rfl) (Za rfl rfl (Zwf om rfl) (Za rfl rfl (Ze rfl) (Zf (Zb (t _ _ ?_))))))
   refine Zg fun X H => ?_
   refine Zc (Za rfl rfl (Zd rfl) (Za rfl rfl (Yq om rfl rfl) (Za rfl rfl (Zdu (by rw [un3]; rfl) un5 rfl) (Zk rfl rfl ?_))))
   refine Zr (cs := ucs) (parts := [(0, .tmp 20)]) (0 : Int) [(w8 (48 + (-(m.tmod 10))))] el22 sz5 zr5 Zhq (by decide) rfl rfl rfl (by decide) (by decide) rfl fun p Y d g u => ?_
   have I := u.size
   have E := E.trans u
   obtain ⟨h, i, rfl, j, f⟩ := d.opn
   refine Za rfl rfl (Zjg d.ls el22 un5 un9 rfl) (Za rfl rfl (Zd rfl) (Za rfl rfl (Zhn (by (simp only [u8s, List.map_cons, List.map_nil, List.length_cons, List.length_nil]; omega)) rfl rfl) (Za rfl rfl (Ze rfl) (Zf (Zb (H _ _ (Zc (Za rfl rfl (Zd rfl) ?_))))))))
   refine Za rfl rfl (Zvf om (td10 om) rfl rfl) (Za rfl rfl (Ze rfl) (Zf (Yc ?_)))
   exact Zb (Exists.intro ((m.tdiv 10), ((u8s ([(w8 (48 + (-(m.tmod 10))))])) ++ out)) ⟨⟨E, om, (Zpi hm a hr (by first | exact .inl rfl | exact .inr rfl) om), (td10 hr)⟩, sC4 rfl rfl rfl rfl (Sub.nil _), (Zvj a)⟩)
  have o := c
  have c := Yp c
  refine Zu ?_
  refine Zb (t _ _ ?_)
  refine Zg fun Z J => ?_
  refine Zc (Za rfl rfl (Zd rfl) (Za rfl rfl (Yq om rfl rfl) (Za rfl rfl (Zdu (by rw [un3]; rfl) un5 rfl) (Zk rfl rfl ?_))))
  refine Zr (cs := ucs) (parts := [(0, .tmp 20)]) (0 : Int) [(w8 (48 + (m.tmod 10)))] el22 sz5 zr5 Zhq (by decide) rfl rfl rfl (by decide) (by decide) rfl fun p aa d g x => ?_
  have K := x.size
  have E := E.trans x
  obtain ⟨h, i, rfl, j, f⟩ := d.opn
  refine Za rfl rfl (Zjg d.ls el22 un5 un9 rfl) (Za rfl rfl (Zd rfl) (Za rfl rfl (Zhn (by (simp only [u8s, List.map_cons, List.map_nil, List.length_cons, List.length_nil]; omega)) rfl rfl) (Za rfl rfl (Ze rfl) (Zf (Zb (J _ _ (Zc (Za rfl rfl (Zd rfl) ?_))))))))
  refine Za rfl rfl (Zvf om (td10 om) rfl rfl) (Za rfl rfl (Ze rfl) (Zf (Yc ?_)))
  exact Zb (Exists.intro ((m.tdiv 10), ((u8s ([(w8 (48 + (m.tmod 10)))])) ++ out)) ⟨⟨E, om, (Zpi hm a hr (by first | exact .inl rfl | exact .inr rfl) om), (td10 hr)⟩, sC4 rfl rfl rfl rfl (Sub.nil _), (Zvj a)⟩)
 have l := a
 have a := Yo (Qg a)
 refine Xk (Ya (Ya (Xd ?_)))
 refine Zb (H8 _ _ ?_)
 refine Zg fun ab y => ?_
 refine Zg fun ac L => ?_
 refine Zc (Za rfl rfl (Zd rfl) (Zf (Zb (L _ _ ?_))))
 refine Zx rfl (fun b => ?_) (fun b => ?_)
 ·have q := b
  have b := Yo b
  refine Zg fun ad M => ?_
  refine Zc (Za rfl rfl (Zd rfl) (Za rfl rfl (Zhn (by (simp only [u8s, List.map_cons, List.map_nil, List.length_cons, List.length_nil]; omega)) rfl rfl) (Za rfl rfl (Ze rfl) (Zf (Zb (M _ _ ?_))))))
  refine Zs (Zm ?_)
  clear s y
  exact Zi [_] ⟨rfl, trivial⟩ ⟨congrArg bst (Zrn b (Zta hm a)), E⟩
 have q := b
 have b := Yp b
 refine Zu ?_
 refine Zb (y _ _ ?_)
 refine Zg fun ae O => ?_
 refine Zc (Za rfl rfl (Zd rfl) (Za rfl rfl (Ze rfl) (Zf (Zb (O _ _ ?_)))))
 refine Zs ?_
 exact Zi [_] ⟨rfl, trivial⟩ ⟨congrArg bst (Zrz b e (Zta hm a)), E⟩

/-- spec.l8Token -/
theorem Ziq {w : World} (t : Token) (hl : 0 ≤ t.low ∧ t.low ≤ 255) (hh : 0 ≤ t.high ∧ t.high ≤ 255) :
 Ctr Try.prog 144 #[(.agg #[(.int .i64 t.kind), (.int .i64 t.letter), (.int .i64 t.low), (.int .i64 t.high)])] w (fun v w' => v = bst (tokS t) ∧ Ch [] w w') := by
 have E := Ch.refl [] w
 have Z := Znd t.low; have aa := Znd t.high
 refine Yh (N := 30) (vs0 := [(.agg #[(.int .i64 t.kind), (.int .i64 t.letter), (.int .i64 t.low), (.int .i64 t.high)])]) Try.func144 rfl rfl rfl ?_
 refine Zg fun K1 H1 => ?_
 refine Zc (Zk rfl rfl ?_)
 refine Xw rfl fun A W2 h C2 ab => ?_
 have ac := C2.size
 have E := E.trans C2
 have ad := h.lt
 replace h : Blk W2 A 84 [(.int .i64 t.kind), (.int .i64 t.letter), (.int .i64 t.low), (.int .i64 t.high)] := h
 refine Za rfl rfl (Ze rfl) (Zf (Zb (H1 _ _ ?_)))
 refine Zg fun K3 H3 => ?_
 refine Zg fun K4 H4 => ?_
 refine Zc (Za rfl rfl (Zh fa84_0 rfl) (Za rfl rfl (Zp h.at_ agg3 rfl rfl) (Zf (Zb (H4 _ _ ?_)))))
 refine Yf ?_
 refine Zg fun K5 H5 => ?_
 refine Zc (Za rfl rfl (Xu rfl rfl) (Za rfl rfl (Ze rfl) (Zf (Zb (H5 _ _ ?_)))))
 refine Zx rfl (fun d => ?_) (fun d => ?_)
 ·have B := d
  have d := Yo d
  refine Zg fun K7 H7 => ?_
  refine Zc (Za rfl rfl (Ze rfl) (Zf (Zb (H7 _ _ ?_))))
  refine Zs (Yi (Zm ?_))
  exact Zi [_] ⟨rfl, trivial⟩ ⟨congrArg bst (by unfold tokS; rw [if_pos d]), E⟩
 have B := d
 have d := Yp d
 refine Zg fun K8 H8 => ?_
 refine Zc (Za rfl rfl (Xu rfl rfl) (Za rfl rfl (Ze rfl) (Zf (Zb (H8 _ _ ?_)))))
 refine Zx rfl (fun e => ?_) (fun e => ?_)
 ·have C := e
  have e := Yo e
  refine Zg fun ae D => ?_
  refine Zc (Za rfl rfl (Ze rfl) (Zf (Zb (D _ _ ?_))))
  refine Zs (Yi (Zm ?_))
  exact Zi [_] ⟨rfl, trivial⟩ ⟨congrArg bst (by unfold tokS; rw [if_neg d, if_pos e]), E⟩
 have C := e
 have e := Yp e
 refine Zg fun af F => ?_
 refine Zc (Za rfl rfl (Xu rfl rfl) (Za rfl rfl (Ze rfl) (Zf (Zb (F _ _ ?_)))))
 refine Zx rfl (fun f => ?_) (fun f => ?_)
 ·have k := f
  have f := Yo f
  refine Zg fun ag G => ?_
  refine Zc (Za rfl rfl (Zh fa84_1 rfl) (Za rfl rfl (Zp h.at_ agg3 rfl rfl) (Zk rfl rfl ?_)))
  refine Step.call (Zl (xs := [.tmp 12]) fk146 rfl) (Zcd _ ) fun H ah l => ?_
  obtain ⟨rfl, x⟩ := l
  have I := x.size
  have E := E.trans x
  refine Za rfl rfl (Ze rfl) (Zf (Zb (G _ _ ?_)))
  refine Zs (Yi (Zm ?_))
  exact Zi [_] ⟨rfl, trivial⟩ ⟨congrArg bst (by unfold tokS; rw [if_neg d, if_neg e, if_pos f]), E⟩
 have k := f
 have f := Yp f
 refine Zg fun ai J => ?_
 refine Zc (Za rfl rfl (Xu rfl rfl) (Za rfl rfl (Ze rfl) (Zf (Zb (J _ _ ?_)))))
 refine Zx rfl (fun a => ?_) (fun a => ?_)
 ·have m := a
  have a := Yo a
  refine Zg fun aj K => ?_
  refine Zc (Za rfl rfl (Ze rfl) (Zf (Zb (K _ _ ?_))))
  refine Zs (Yi (Zm ?_))
  exact Zi [_] ⟨rfl, trivial⟩ ⟨congrArg bst (by unfold tokS; rw [if_neg d, if_neg e, if_neg f, if_pos a]), E⟩
 have m := a
 have a := Yp a
 refine Zg fun ak L => ?_
 refine Zc (Za rfl rfl (Xu rfl rfl) (Za rfl rfl (Ze rfl) (Zf (Zb (L _ _ ?_)))))
 refine Zx rfl (fun b => ?_) (fun b => ?_)
 ·have n := b
  have b := Yo b
  refine Zg fun al M => ?_
  refine Zc (Za rfl rfl (Ze rfl) (Zf (Zb (M _ _ ?_))))
  refine Zs (Yi (Zm ?_))
  exact Zi [_] ⟨rfl, trivial⟩ ⟨congrArg bst (by unfold tokS; rw [if_neg d, if_neg e, if_neg f, if_neg a, if_pos b]), E⟩
 have n := b
 have b := Yp b
 refine Zg fun am O => ?_
 refine Zc (Za rfl rfl (Xu rfl rfl) (Za rfl rfl (Ze rfl) (Zf (Zb (O _ _ ?_)))))
 refine Zx rfl (fun c => ?_) (fun c => ?_)
 ·have o := c
  have c := Yo c
  refine Zg fun an P => ?_
  refine Zc (Za rfl rfl (Ze rfl) (Zf (Zb (P _ _ ?_))))
  refine Zs (Yi (Zm ?_))
  exact Zi [_] ⟨rfl, trivial⟩ ⟨congrArg bst (by unfold tokS; rw [if_neg d, if_neg e, if_neg f, if_neg a, if_neg b, if_pos c]), E⟩
 have o := c
 have c := Yp c
 refine Zu ?_
 refine Yc (Zb (H3 _ _ ?_))
 refine Zg fun ao Q => ?_
 refine Yx [] 11 mixed rfl fun y p => ?_
 have R := p.size
 have E := E.trans p
 refine dV 0 rfl rfl rfl (fun _ => Zh fa84_2 rfl) ?_
 have z := h.ch0 p
 refine dT 1 rfl rfl rfl (Xj z.at_ (fun i hi => absurd hi List.not_mem_nil) agg3 rfl rfl ?_)
 refine dV 5 rfl rfl rfl (fun _ => Zh fa84_3 rfl) ?_
 refine dT 6 rfl rfl rfl (Xj z.at_ (fun i hi => absurd hi List.not_mem_nil) agg3 rfl rfl ?_)
 refine dO 2 (Ye rfl rfl rfl ?_)
 refine Step.call (Zl (xs := [.tmp 21]) fk147 rfl) (Zdg _ om) fun S T q => ?_
 obtain ⟨rfl, r⟩ := q
 have U := r.size
 have E := E.trans r
 have g : Ch [] y T := ((Ch.refl _ _).trans r)
 refine ⟨g, ?_⟩
 refine dV 3 rfl rfl rfl (fun _ => Zhn (by (simp only [List.length_append, List.length_cons, List.length_nil]; omega)) rfl rfl) (dV 4 rfl rfl rfl (fun _ => Zhn (by (simp only [List.length_append, List.length_cons, List.length_nil]; omega)) rfl rfl) (dO 7 (Ye rfl rfl rfl ?_)))
 refine Step.call (Zl (xs := [.tmp 26]) fk147 rfl) (Zdg _ om) fun V X s => ?_
 obtain ⟨rfl, u⟩ := s
 have Y := u.size
 have E := E.trans u
 have j : Ch [] y X := (g.trans u)
 refine ⟨j, ?_⟩
 refine dV 8 rfl rfl rfl (fun _ => Zhn (by (simp only [List.length_append, List.length_cons, List.length_nil]; omega)) rfl rfl) (dV 9 rfl rfl rfl (fun _ => Zhn (by (simp only [List.length_append, List.length_cons, List.length_nil]; omega)) rfl rfl) (dV 10 rfl rfl rfl (fun _ => Ze rfl) ?_))
 refine Yb (by kernel_rfl) ?_
 refine Zb (Q _ _ ?_)
 refine Zs ?_
 exact Zi [_] ⟨rfl, trivial⟩ ⟨congrArg bst (by unfold tokS; rw [if_neg d, if_neg e, if_neg f, if_neg a, if_neg b, if_neg c]), E⟩

/-- spec.l8Read -/
theorem Zfi {w : World} (s : List UInt8) :
 Ctr Try.prog 143 #[(bst s)] w (fun v w' => v = .agg (Token.cs (rdT s)).toArray ∧ Ch [] w w') := by
 have E := Ch.refl [] w
 refine Yh (N := 57) (vs0 := [(bst s)]) Try.func143 rfl rfl rfl ?_
 refine Zg fun K1 H1 => ?_
 refine Zc (Zk rfl rfl ?_)
 refine Yr zr84 fun o W2 D C2 aX => ?_
 have aY := C2.size
 have E := E.trans C2
 have aZ := D.lt
 replace D : Blk W2 o 84 [(.int .i64 0), (.int .i64 0), (.int .i64 0), (.int .i64 0)] := D
 refine Zf (Zb (H1 _ _ ?_))
 refine Zg fun K3 H3 => ?_
 refine Zg fun K4 H4 => ?_
 refine Zc (Za rfl rfl (Ze rfl) (Zf (Zb (H4 _ _ ?_))))
 refine Yf ?_
 refine Xo (σ := Nat) (fun (k : Nat) => [(0, (bst s)), (2, (.pointer (some ⟨o, 0, none⟩))), (3, (.int .i64 ((k : Nat) : Int)))]) (fun (k : Nat) wx => Ch [] w wx ∧ W2.heap.size ≤ wx.heap.size ∧ (1 ≤ k ∧ k ≤ 7) ∧ (rdK s k = none) ∧ Blk wx o 84 [(.int .i64 0), (.int .i64 0), (.int .i64 0), (.int .i64 0)]) (fun (k : Nat) => 7 - k) 1 (sC2 rfl rfl (sC1 rfl (Sub.nil _))) ⟨E, (Nat.le_refl _), om, Zrl, D⟩ ?_
 rintro k R5 ⟨E, ag, a0, hn, j⟩
 have H := E
 have V := H.size
 have I := j.lt
 refine Zg fun K6 H6 => ?_
 refine Zg fun K7 H7 => ?_
 refine Zc (Za rfl rfl (Zd rfl) (Za rfl rfl (Zfo rfl rfl) (Zf (Zb (H7 _ _ ?_)))))
 refine Zx rfl (fun l => ?_) (fun l => ?_)
 ·have ah := l
  have l := Yo l
  refine Zu ?_
  refine Zb (H6 _ _ ?_)
  refine Zg fun K9 H9 => ?_
  refine Yf ?_
  refine Zg fun a1 X => ?_
  refine Zc (Za rfl rfl (Zd rfl) (Za rfl rfl (Zbb rfl rfl) (Za rfl rfl (Zd rfl) ?_)))
  refine Ym (d := 12) rfl (fun m => ?_) (fun m => ?_)
  ·have J := m
   have m := Yp (Qf m)
   refine Za rfl rfl (Zd rfl) (Za rfl rfl (Yt (parts := [(0, .tmp 13)]) (cells := [(.int .i64 ((k : Nat) : Int)), (.int .i64 0), (.int .i64 0), (.int .i64 0)]) zr84 pl84 rfl rfl) (Zk rfl rfl ?_))
   refine Step.call (Zl (xs := [.tmp 14]) fk144 rfl) (Ziq ⟨((k : Nat) : Int), 0, 0, 0⟩ (by first | omega | (dsimp only; omega) | simp) (by first | omega | (dsimp only; omega) | simp)) fun ai a2 K => ?_
   obtain ⟨rfl, F⟩ := K
   have aj := F.size
   have E := E.trans F
   refine Za rfl rfl (Zd rfl) (Za rfl rfl (Zst rfl rfl) (Za rfl rfl (Zw rfl rfl) (Zf (Zb (X _ _ ?_)))))
   refine Zx rfl (fun g => ?_) (fun g => ?_)
   ·have L := g
    have g := Yo g
    refine Zg fun a3 ak => ?_
    refine Zc (Za rfl rfl (Zd rfl) (Za rfl rfl (Yt (parts := [(0, .tmp 19)]) (cells := [(.int .i64 ((k : Nat) : Int)), (.int .i64 0), (.int .i64 0), (.int .i64 0)]) zr84 pl84 rfl rfl) (Zk rfl rfl ?_)))
    have al := j.ch0 F
    refine Zy (off := 0) 4 al sz84 rfl (us := [(.int .i64 ((k : Nat) : Int)), (.int .i64 0), (.int .i64 0), (.int .i64 0)]) rfl rfl rfl rfl fun am p Y => ?_
    have an := Y.size
    have E := E.step Y (lS om)
    replace p : Blk am o 84 [(.int .i64 ((k : Nat) : Int)), (.int .i64 0), (.int .i64 0), (.int .i64 0)] := p
    refine Zf (Zb (ak _ _ ?_))
    refine Zs (Yi (Zm (Zm (Yi (Zm ?_)))))
    clear H3 H9
    exact Zi [_] (Zz p rfl agg84 sz84 trivial) ⟨(by have key : ∀ z : Token, z = rdT s → Value.agg (Token.cs z).toArray = Value.agg (Token.cs (rdT s)).toArray := (fun z h => by rw [h]); first | exact key _ (Zlv hn om om om g) | exact key _ (Zly (Zal hn l om) a) | exact key _ (Zlx (Zal hn l om) a ⟨by omega, b, e, f⟩) | exact key _ (Zlw (Zal hn l om) a (fun c => by first | exact f c.2.2.2 | exact e c.2.2.1 | exact b c.2.1 | omega))), E⟩
   have L := g
   have g := Yp g
   refine Zu ?_
   refine Yc (Zb (H9 _ _ (Zc (Za rfl rfl (Zd rfl) (Za rfl rfl (Yq om rfl rfl) (Za rfl rfl (Ze rfl) (Zf ?_)))))))
   have ao := j.ch0 F
   exact Zb (Exists.intro (k + 1) ⟨⟨E, om, om, (Zva hn (by first | exact .inr g | (left; omega))), ao⟩, sC2 rfl rfl (sC1 rfl (Sub.nil _)), (by first | omega | (dsimp only; omega))⟩)
  have J := m
  have m := Yo (Qg m)
  refine Zj rfl rfl (Zj rfl rfl (Zj rfl rfl (Zj rfl rfl (Zj rfl rfl (Za rfl rfl (Zv rfl rfl) (Zf (Zb (X _ _ ?_))))))))
  refine Xn rfl ?_
  refine Zu ?_
  refine Yc (Zb (H9 _ _ (Zc (Za rfl rfl (Zd rfl) (Za rfl rfl (Yq om rfl rfl) (Za rfl rfl (Ze rfl) (Zf ?_)))))))
  exact Zb (Exists.intro (k + 1) ⟨⟨E, om, om, (Zva hn (by first | exact .inr g | (left; omega))), j⟩, sC2 rfl rfl (sC1 rfl (Sub.nil _)), (by first | omega | (dsimp only; omega))⟩)
 have ah := l
 have l := Yp l
 refine Xk (Ya (Ya (Xd ?_)))
 refine Zb (H3 _ _ ?_)
 refine Zg fun a4 ap => ?_
 refine Zc (Za rfl rfl (Zd rfl) (Zk rfl rfl ?_))
 refine Step.call (Zl (xs := [.tmp 22]) fk145 rfl) (Zfm s ) fun aq a5 M => ?_
 obtain ⟨rfl, A⟩ := M
 have au := A.size
 have E := E.trans A
 refine Za rfl rfl (Zd rfl) (Za rfl rfl (Xc rfl rfl) (Za rfl rfl (Xc rfl rfl) (Za rfl rfl (Ze rfl) (Za rfl rfl (Ze rfl) (Zf (Zb (ap _ _ ?_)))))))
 refine Zg fun a6 Z => ?_
 refine Zg fun a7 av => ?_
 refine Zc (Za rfl rfl (Zd rfl) (Zf (Zb (av _ _ ?_))))
 refine Zx rfl (fun a => ?_) (fun a => ?_)
 ·have O := a
  refine Zg fun a8 aw => ?_
  refine Zc (Za rfl rfl (Zd rfl) (Za rfl rfl (Yt (parts := [(0, .const (Go.Value.int Go.IntKind.i64 3)), (1, .tmp 27)]) (cells := [(.int .i64 3), (.int .i64 ((plR s).1)), (.int .i64 0), (.int .i64 0)]) zr84 pl84 rfl rfl) (Zk rfl rfl ?_)))
  have ax := j.ch0 A
  refine Zy (off := 0) 4 ax sz84 rfl (us := [(.int .i64 3), (.int .i64 ((plR s).1)), (.int .i64 0), (.int .i64 0)]) rfl rfl rfl rfl fun ay q aa => ?_
  have az := aa.size
  have E := E.step aa (lS om)
  replace q : Blk ay o 84 [(.int .i64 3), (.int .i64 ((plR s).1)), (.int .i64 0), (.int .i64 0)] := q
  refine Zf (Zb (aw _ _ ?_))
  refine Zs (Zm ?_)
  clear H6 Z
  exact Zi [_] (Zz q rfl agg84 sz84 trivial) ⟨(by have key : ∀ z : Token, z = rdT s → Value.agg (Token.cs z).toArray = Value.agg (Token.cs (rdT s)).toArray := (fun z h => by rw [h]); first | exact key _ (Zlv hn om om om g) | exact key _ (Zly (Zal hn l om) a) | exact key _ (Zlx (Zal hn l om) a ⟨by omega, b, e, f⟩) | exact key _ (Zlw (Zal hn l om) a (fun c => by first | exact f c.2.2.2 | exact e c.2.2.1 | exact b c.2.1 | omega))), E⟩
 have O := a
 refine Zu ?_
 refine Zb (Z _ _ ?_)
 refine Zg fun a9 B => ?_
 refine Zg fun ba G => ?_
 refine Zc (Za rfl rfl (Zd rfl) (Za rfl rfl (Ztf un9 rfl) (Za rfl rfl (Xu rfl rfl) (Za rfl rfl (Zd rfl) ?_))))
 refine Ym (d := 32) rfl (fun n => ?_) (fun n => ?_)
 ·have P := n
  have n := Yo n
  refine Za rfl rfl (Zd rfl) (Za rfl rfl (Zdy om un9 rfl rfl) (Za rfl rfl (Xu rfl rfl) (Za rfl rfl (Zw rfl rfl) (Za rfl rfl (Zd rfl) ?_))))
  refine Ym (d := 37) rfl (fun b => ?_) (fun b => ?_)
  ·have Q := b
   have b := Yo b
   refine Za rfl rfl (Zd rfl) (Za rfl rfl (Zdy om un9 rfl rfl) (Za rfl rfl (Xu rfl rfl) (Za rfl rfl (Zw rfl rfl) (Za rfl rfl (Zd rfl) ?_))))
   refine Ym (d := 42) rfl (fun e => ?_) (fun e => ?_)
   ·have R := e
    have e := Yo e
    refine Za rfl rfl (Zd rfl) (Za rfl rfl (Zdy om un9 rfl rfl) (Za rfl rfl (Xu rfl rfl) (Za rfl rfl (Zw rfl rfl) (Zf (Zb (G _ _ ?_))))))
    refine Zx rfl (fun f => ?_) (fun f => ?_)
    ·have S := f
     have f := Yo f
     refine Zg fun bb aA => ?_
     refine Yx [o] 10 mixed rfl fun aB T => ?_
     have aC := T.size
     have E := E.trans T
     refine dV 0 rfl rfl rfl (fun _ => Zd rfl) (dV 1 rfl rfl rfl (fun _ => Zdy om un9 rfl rfl) (dV 2 rfl rfl rfl (fun _ => Zid (Zsv _ _) (by rw [un5]; rfl) un3 rfl) (dV 3 rfl rfl rfl (fun _ => Zbr (by have aD := Zme s (Int.toNat 1); omega) rfl rfl) (dV 4 rfl rfl rfl (fun _ => Zd rfl) (dV 5 rfl rfl rfl (fun _ => Zdy om un9 rfl rfl) (dV 6 rfl rfl rfl (fun _ => Zid (Zsv _ _) (by rw [un5]; rfl) un3 rfl) (dV 7 rfl rfl rfl (fun _ => Zbr (by have aD := Zme s (Int.toNat 3); omega) rfl rfl) ?_)))))))
     refine dV 8 rfl rfl rfl (fun _ => Yt (parts := [(0, .const (Go.Value.int Go.IntKind.i64 7)), (2, .tmp 50), (3, .tmp 54)]) (cells := [(.int .i64 7), (.int .i64 0), (.int .i64 ((bat s 1) - 48)), (.int .i64 ((bat s 3) - 48))]) zr84 pl84 rfl rfl) (dO 9 (Ye rfl rfl rfl ?_))
     have aE := (j.ch0 A).ch0 T
     refine Zy (off := 0) 4 aE sz84 rfl (us := [(.int .i64 7), (.int .i64 0), (.int .i64 ((bat s 1) - 48)), (.int .i64 ((bat s 3) - 48))]) rfl rfl rfl rfl fun ab r U => ?_
     have aF := U.size
     have E := E.step U (lS om)
     replace r : Blk ab o 84 [(.int .i64 7), (.int .i64 0), (.int .i64 ((bat s 1) - 48)), (.int .i64 ((bat s 3) - 48))] := r
     have C : Ch [o] aB ab := ((Ch.refl _ _).step U (fun i hm => by have aG := List.mem_singleton.1 hm; exact .inr (by rw [aG]; exact (List.mem_singleton.2 rfl))))
     refine ⟨C, ?_⟩
     refine Yb (by kernel_rfl) ?_
     refine Zb (aA _ _ ?_)
     refine Zs (Zm ?_)
     clear H6 B
     exact Zi [_] (Zz r rfl agg84 sz84 trivial) ⟨(by have key : ∀ z : Token, z = rdT s → Value.agg (Token.cs z).toArray = Value.agg (Token.cs (rdT s)).toArray := (fun z h => by rw [h]); first | exact key _ (Zlv hn om om om g) | exact key _ (Zly (Zal hn l om) a) | exact key _ (Zlx (Zal hn l om) a ⟨by omega, b, e, f⟩) | exact key _ (Zlw (Zal hn l om) a (fun c => by first | exact f c.2.2.2 | exact e c.2.2.1 | exact b c.2.1 | omega))), E⟩
    have S := f
    have f := Yp f
    refine Zu ?_
    refine Zb (B _ _ ?_)
    refine Zg fun bc aH => ?_
    refine Zc (Za rfl rfl (Yt (parts := []) (cells := [(.int .i64 0), (.int .i64 0), (.int .i64 0), (.int .i64 0)]) zr84 pl84 rfl rfl) (Zk rfl rfl ?_))
    have aI := j.ch0 A
    refine Zy (off := 0) 4 aI sz84 rfl (us := [(.int .i64 0), (.int .i64 0), (.int .i64 0), (.int .i64 0)]) rfl rfl rfl rfl fun aJ t ac => ?_
    have aK := ac.size
    have E := E.step ac (lS om)
    replace t : Blk aJ o 84 [(.int .i64 0), (.int .i64 0), (.int .i64 0), (.int .i64 0)] := t
    refine Zf (Zb (aH _ _ ?_))
    refine Zs ?_
    exact Zi [_] (Zz t rfl agg84 sz84 trivial) ⟨(by have key : ∀ z : Token, z = rdT s → Value.agg (Token.cs z).toArray = Value.agg (Token.cs (rdT s)).toArray := (fun z h => by rw [h]); first | exact key _ (Zlv hn om om om g) | exact key _ (Zly (Zal hn l om) a) | exact key _ (Zlx (Zal hn l om) a ⟨by omega, b, e, f⟩) | exact key _ (Zlw (Zal hn l om) a (fun c => by first | exact f c.2.2.2 | exact e c.2.2.1 | exact b c.2.1 | omega))), E⟩
   have R := e
   have e := Yp e
   refine Zj rfl rfl (Zj rfl rfl (Zj rfl rfl (Za rfl rfl (Zv rfl rfl) (Zf (Zb (G _ _ ?_))))))
   refine Xn rfl ?_
   refine Zu ?_
   refine Zb (B _ _ ?_)
   refine Zg fun be aL => ?_
   refine Zc (Za rfl rfl (Yt (parts := []) (cells := [(.int .i64 0), (.int .i64 0), (.int .i64 0), (.int .i64 0)]) zr84 pl84 rfl rfl) (Zk rfl rfl ?_))
   have aM := j.ch0 A
   refine Zy (off := 0) 4 aM sz84 rfl (us := [(.int .i64 0), (.int .i64 0), (.int .i64 0), (.int .i64 0)]) rfl rfl rfl rfl fun aN u ad => ?_
   have aO := ad.size
   have E := E.step ad (lS om)
   replace u : Blk aN o 84 [(.int .i64 0), (.int .i64 0), (.int .i64 0), (.int .i64 0)] := u
   refine Zf (Zb (aL _ _ ?_))
   refine Zs ?_
   exact Zi [_] (Zz u rfl agg84 sz84 trivial) ⟨(by have key : ∀ z : Token, z = rdT s → Value.agg (Token.cs z).toArray = Value.agg (Token.cs (rdT s)).toArray := (fun z h => by rw [h]); first | exact key _ (Zlv hn om om om g) | exact key _ (Zly (Zal hn l om) a) | exact key _ (Zlx (Zal hn l om) a ⟨by omega, b, e, f⟩) | exact key _ (Zlw (Zal hn l om) a (fun c => by first | exact f c.2.2.2 | exact e c.2.2.1 | exact b c.2.1 | omega))), E⟩
  have Q := b
  have b := Yp b
  refine Zj rfl rfl (Zj rfl rfl (Zj rfl rfl (Za rfl rfl (Zv rfl rfl) (Za rfl rfl (Zd rfl) (Zj rfl rfl (Zj rfl rfl (Zj rfl rfl ?_)))))))
  refine Za rfl rfl (Zv rfl rfl) (Zf (Zb (G _ _ ?_)))
  refine Xn rfl ?_
  refine Zu ?_
  refine Zb (B _ _ ?_)
  refine Zg fun bf aP => ?_
  refine Zc (Za rfl rfl (Yt (parts := []) (cells := [(.int .i64 0), (.int .i64 0), (.int .i64 0), (.int .i64 0)]) zr84 pl84 rfl rfl) (Zk rfl rfl ?_))
  have aQ := j.ch0 A
  refine Zy (off := 0) 4 aQ sz84 rfl (us := [(.int .i64 0), (.int .i64 0), (.int .i64 0), (.int .i64 0)]) rfl rfl rfl rfl fun aR x ae => ?_
  have aS := ae.size
  have E := E.step ae (lS om)
  replace x : Blk aR o 84 [(.int .i64 0), (.int .i64 0), (.int .i64 0), (.int .i64 0)] := x
  refine Zf (Zb (aP _ _ ?_))
  refine Zs ?_
  exact Zi [_] (Zz x rfl agg84 sz84 trivial) ⟨(by have key : ∀ z : Token, z = rdT s → Value.agg (Token.cs z).toArray = Value.agg (Token.cs (rdT s)).toArray := (fun z h => by rw [h]); first | exact key _ (Zlv hn om om om g) | exact key _ (Zly (Zal hn l om) a) | exact key _ (Zlx (Zal hn l om) a ⟨by omega, b, e, f⟩) | exact key _ (Zlw (Zal hn l om) a (fun c => by first | exact f c.2.2.2 | exact e c.2.2.1 | exact b c.2.1 | omega))), E⟩
 have P := n
 have n := Yp n
 refine Zj rfl rfl (Zj rfl rfl (Zj rfl rfl (Za rfl rfl (Zv rfl rfl) (Za rfl rfl (Zd rfl) (Zj rfl rfl (Zj rfl rfl (Zj rfl rfl ?_)))))))
 refine Za rfl rfl (Zv rfl rfl) (Za rfl rfl (Zd rfl) (Zj rfl rfl (Zj rfl rfl (Zj rfl rfl (Za rfl rfl (Zv rfl rfl) (Zf (Zb (G _ _ ?_))))))))
 refine Xn rfl ?_
 refine Zu ?_
 refine Zb (B _ _ ?_)
 refine Zg fun bg aT => ?_
 refine Zc (Za rfl rfl (Yt (parts := []) (cells := [(.int .i64 0), (.int .i64 0), (.int .i64 0), (.int .i64 0)]) zr84 pl84 rfl rfl) (Zk rfl rfl ?_))
 have aU := j.ch0 A
 refine Zy (off := 0) 4 aU sz84 rfl (us := [(.int .i64 0), (.int .i64 0), (.int .i64 0), (.int .i64 0)]) rfl rfl rfl rfl fun aV y af => ?_
 have aW := af.size
 have E := E.step af (lS om)
 replace y : Blk aV o 84 [(.int .i64 0), (.int .i64 0), (.int .i64 0), (.int .i64 0)] := y
 refine Zf (Zb (aT _ _ ?_))
 refine Zs ?_
 exact Zi [_] (Zz y rfl agg84 sz84 trivial) ⟨(by have key : ∀ z : Token, z = rdT s → Value.agg (Token.cs z).toArray = Value.agg (Token.cs (rdT s)).toArray := (fun z h => by rw [h]); first | exact key _ (Zlv hn om om om g) | exact key _ (Zly (Zal hn l om) a) | exact key _ (Zlx (Zal hn l om) a ⟨by omega, b, e, f⟩) | exact key _ (Zlw (Zal hn l om) a (fun c => by first | exact f c.2.2.2 | exact e c.2.2.1 | exact b c.2.1 | omega))), E⟩

/-- spec.ParseExpr -/
theorem Zgx {w : World} (s : List UInt8) (hb : s.length ≤ 4194304) :
 Ctr Try.prog 138 #[(bst s)] w (fun v w' => ∃ (ae : Value), v = .tuple #[.agg #[ae], .bool ((parS s).2)] ∧ Ol Token.cs 84 4 w' ae ((parS s).1) ∧ Lo w.heap.size ae ∧ Ch [] w w') := by
 have E := Ch.refl [] w
 have cz := Zhj s 32 []
 refine Yh (N := 35) (vs0 := [(bst s)]) Try.func138 rfl rfl rfl ?_
 refine Zg fun K1 H1 => ?_
 refine Zc (Zk rfl rfl ?_)
 refine Yr zr44 fun af W2 aQ C2 cA => ?_
 have cB := C2.size
 have E := E.trans C2
 have cC := aQ.lt
 replace aQ : Blk W2 af 44 [(.slice none 0 0)] := aQ
 refine Za rfl rfl (Ze rfl) (Zf (Zb (H1 _ _ ?_)))
 refine Zg fun K3 H3 => ?_
 refine Zc (Za rfl rfl (Yt (parts := []) (cells := [(.slice none 0 0)]) zr44 pl44 rfl rfl) (Zk rfl rfl ?_))
 refine Yr zr44 fun p W4 aR C4 cD => ?_
 have cE := C4.size
 have E := E.trans C4
 have cF := aR.lt
 replace aR : Blk W4 p 44 [(.slice none 0 0)] := aR
 refine Zk rfl rfl ?_
 refine Zy (off := 0) 1 aR sz44 rfl (us := [(.slice none 0 0)]) rfl rfl rfl rfl fun W5 ag C5 => ?_
 have cG := C5.size
 have E := E.step C5 (lS om)
 replace ag : Blk W5 p 44 [(.slice none 0 0)] := ag
 refine Zf (Zb (H3 _ _ ?_))
 refine Zg fun K7 H7 => ?_
 refine Zc (Za rfl rfl (Zd rfl) (Zk rfl rfl ?_))
 refine Step.call (Zl (xs := [.tmp 8, .const (Go.Value.int Go.IntKind.u8 32)]) fk142 rfl) (Zlr s _ om) fun cH W8 aS => ?_
 obtain ⟨aS, aU, C8⟩ := aS
 have cI := C8.size
 have E := E.trans C8
 obtain ⟨aC, aD, rfl, bu, aE⟩ := aS.opn
 have aV := Ol.lsR aS (lo := W5.heap.size) (hi := W8.heap.size) aU aE
 refine Za rfl rfl (Ze rfl) (Zf (Zb (H7 _ _ ?_)))
 refine Zg fun K9 H9 => ?_
 refine Zg fun cJ bv => ?_
 refine Zc (Za rfl rfl (Ze rfl) (Zf (Zb (bv _ _ ?_))))
 refine Yf ?_
 have ah : Ol Token.cs 84 4 W8 (.slice none 0 0) (((Qr s 32 []).take 0).map rdT) := by
  have hx := Ol.nil (cs := Token.cs) (e := 84) (k := 4) W8
  simpa using hx
 have bw := ag.ch0 C8
 have bz := ((aQ.ch0 C4).ch C5 (nS om)).ch0 C8
 refine Xo (σ := Nat × Value) (fun ⟨i, tv⟩ => [(2, (.pointer (some ⟨af, 0, none⟩))), (3, (.bool false)), (4, (.pointer (some ⟨p, 0, none⟩))), (5, (.slice aC (Qr s 32 []).length aD)), (6, (.int .i64 ((i : Nat) : Int)))]) (fun ⟨i, tv⟩ wx => Ch [] w wx ∧ W8.heap.size ≤ wx.heap.size ∧ (i ≤ (Qr s 32 []).length ∧ i ≤ 25) ∧ Blk wx af 44 [(.slice none 0 0)] ∧ Ls scs 1 wx W5.heap.size W8.heap.size (.slice aC (Qr s 32 []).length aD) (Qr s 32 []) ∧ Ol Token.cs 84 4 wx tv (((Qr s 32 []).take i).map rdT) ∧ Lo W8.heap.size tv ∧ Blk wx p 44 [tv] ∧ (p ∉ bl tv)) (fun ⟨i, tv⟩ => (Qr s 32 []).length - i) (0, (.slice none 0 0)) (sC4 rfl rfl rfl rfl (sC1 rfl (Sub.nil _))) ⟨E, (Nat.le_refl _), om, bz, aV, ah, (Lo.nil _), bw, (fun hm => by cases hm)⟩ ?_
 rintro ⟨i, tv⟩ cK ⟨E, bA, hi, l, aF, m, a, o, c⟩
 have aW := E
 have bg := aW.size
 have aX := l.lt
 obtain ⟨Atv, Ctv, rfl, ltv, q⟩ := m.opn
 refine Zg fun cL aY => ?_
 refine Zg fun cM bh => ?_
 refine Zc (Za rfl rfl (Zd rfl) (Za rfl rfl (Zd rfl) (Za rfl rfl (Xm (by rw [el160]; rfl) rfl) (Za rfl rfl (Xv rfl rfl) (Za rfl rfl (Zd rfl) ?_)))))
 refine Ym (d := 14) rfl (fun y => ?_) (fun y => ?_)
 ·have aZ := y
  have y := Yo y
  refine Za rfl rfl (Zd rfl) (Za rfl rfl (Zfo rfl rfl) (Za rfl rfl (Zw rfl rfl) (Zf (Zb (bh _ _ ?_)))))
  refine Zx rfl (fun z => ?_) (fun z => ?_)
  ·have a0 := z
   have z := Yo z
   refine Zu ?_
   refine Zb (aY _ _ ?_)
   refine Zg fun cN a1 => ?_
   refine Yf ?_
   refine Yx ((bl (.slice Atv (((Qr s 32 []).take i).map rdT).length Ctv)) ++ [p]) 11 mixed rfl fun C B => ?_
   have bB := B.size
   have E := E.trans B
   refine dV 0 rfl rfl rfl (fun _ => Zh fa44_0 rfl) (dV 2 rfl rfl rfl (fun _ => Zd rfl) (dV 3 rfl rfl rfl (fun _ => Zd rfl) ?_))
   have aT := aF.ch0 B
   refine dT 4 rfl rfl rfl (Ql aT Zeq el160 sz9 rfl rfl rfl om fun bC j D a2 => ?_)
   refine dT 5 rfl rfl rfl (Qo a2 (fun i hm => by rcases List.mem_append.1 hm with hm | hm; (have R := a _ hm; have a3 := q _ hm; omega); (have R := List.mem_singleton.1 hm; omega)) agg9 rfl rfl ?_)
   refine Zau 1 6 (by kernel_rfl) ?_ ?_
   ·refine Ye rfl rfl rfl ?_
    have bi := o.ch0 B
    refine s_v (Zp bi.at_ agg42 rfl rfl) ?_
    refine ⟨(Ch.refl _ _), ?_⟩
    refine dO 6 (Ye rfl rfl rfl ?_)
    refine Step.call (Zl (xs := [.tmp 25]) fk143 rfl) (Zfi j ) fun a4 bD ai => ?_
    obtain ⟨rfl, aj⟩ := ai
    have bF := aj.size
    have E := E.trans aj
    have S : Ch ((bl (.slice Atv (((Qr s 32 []).take i).map rdT).length Ctv)) ++ [p]) C bD := ((Ch.refl _ _).trans aj.of_nil)
    refine ⟨S, ?_⟩
    refine dO 7 (Ye rfl rfl rfl ?_)
    refine Zr (cs := Token.cs) (parts := [(0, .tmp 26)]) (⟨0, 0, 0, 0⟩ : Token) [(rdT j)] el42 sz84 zr84 Token.len (by decide) rfl rfl rfl (by decide) (by decide) rfl fun aG bG r T ak => ?_
    have bH := ak.size
    have E := E.trans ak
    obtain ⟨U, V, rfl, X, F⟩ := r.opn
    have Y : Ch ((bl (.slice Atv (((Qr s 32 []).take i).map rdT).length Ctv)) ++ [p]) C bG := (S.trans ak.of_nil)
    refine ⟨Y, ?_⟩
    refine dO 8 (Ye rfl rfl rfl ?_)
    have bI := ((m.ch0 B).ch0 aj).ch0 ak
    refine Yj (cs := Token.cs) el42 sz84 by84 zr84 rfl (by decide) Token.one bI r.ls rfl rfl bd bd a om fun aH bJ t u n au => ?_
    have bK := au.size
    have E := E.step au (fun i hi => .inl (by have R := a _ hi; omega))
    obtain ⟨f, h, rfl, Z, G⟩ := t.opn
    have aa : Ch ((bl (.slice Atv (((Qr s 32 []).take i).map rdT).length Ctv)) ++ [p]) C bJ := (Y.step au (fun i hm => by exact .inr (List.mem_append_left _ hm)))
    refine ⟨aa, ?_⟩
    refine dV 9 rfl rfl rfl (fun _ => Zh fa44_0 rfl) (dO 10 (Ye rfl rfl rfl ?_))
    have bL := ((bi.ch0 aj).ch0 ak).ch au (fun hm => by exact c (by first | exact hm | exact x ▸ hm))
    refine Xh (off := 0) bL sz42 rfl rfl rfl rfl fun a5 H av => ?_
    have bM := av.size
    have E := E.step av (lS om)
    replace H : Blk a5 p 44 [(.slice f ((((Qr s 32 []).take i).map rdT ++ [(rdT j)])).length h)] := H
    have aI : Ch ((bl (.slice Atv (((Qr s 32 []).take i).map rdT).length Ctv)) ++ [p]) C a5 := (aa.step av (fun i hm => by have x := List.mem_singleton.1 hm; exact .inr (by rw [x]; exact (List.mem_append_right _ (List.mem_singleton.2 rfl)))))
    refine ⟨aI, ?_⟩
    refine Yb (by kernel_rfl) ?_
    refine Yc (Zb (a1 _ _ (Zc (Za rfl rfl (Zd rfl) (Za rfl rfl (Yq om rfl rfl) (Za rfl rfl (Ze rfl) (Zf ?_)))))))
    have bN := t.ch av (fun g hg hm => by have x := List.mem_singleton.1 hm; rcases n with ea | ea; (rw [ea] at hg; exact c (by first | exact hg | exact x ▸ hg)); (rw [ea] at hg; have aJ := List.mem_singleton.1 hg; omega))
    have al : Ol Token.cs 84 4 a5 (.slice f ((((Qr s 32 []).take i).map rdT ++ [(rdT j)])).length h) (((Qr s 32 []).take (i + 1)).map rdT) := by
     have hx := bN
     exact hx.eq (Zdb D)
    have bO := ((((l.ch0 B).ch0 aj).ch0 ak).ch au (fun hm => by have R := a _ hm; have a3 := q _ hm; omega)).ch av (nS om)
    have bP := (((aT.ch0 aj).ch0 ak).ch au (fun i hi => by have R := a _ hi; omega)).ch av (oS om)
    exact Zb (Exists.intro ((i + 1), (.slice f ((((Qr s 32 []).take i).map rdT ++ [(rdT j)])).length h)) ⟨⟨E, om, om, bO, bP, al, (Lo.down u om), H, (fun hm => by rcases n with ea | ea; (rw [ea] at hm; exact c (by first | exact hm | exact x ▸ hm)); (rw [ea] at hm; have aJ := List.mem_singleton.1 hm; omega))⟩, sC4 rfl rfl rfl rfl (sC1 rfl (Sub.nil _)), (by first | omega | (dsimp only; omega))⟩)
   refine Ye rfl rfl rfl ?_
   refine Step.call (Zl (xs := [.tmp 25]) fk143 rfl) (Zfi j ) fun a4 bQ ai => ?_
   obtain ⟨rfl, I⟩ := ai
   have bR := I.size
   have E := E.trans I
   have A : Ch ((bl (.slice Atv (((Qr s 32 []).take i).map rdT).length Ctv)) ++ [p]) C bQ := ((Ch.refl _ _).trans I.of_nil)
   refine ⟨A, ?_⟩
   refine Zau 1 7 (by kernel_rfl) ?_ ?_
   ·refine Ye rfl rfl rfl ?_
    have bj := (o.ch0 B).ch0 I
    refine s_v (Zp bj.at_ agg42 rfl rfl) ?_
    refine ⟨A, ?_⟩
    refine dO 7 (Ye rfl rfl rfl ?_)
    refine Zr (cs := Token.cs) (parts := [(0, .tmp 26)]) (⟨0, 0, 0, 0⟩ : Token) [(rdT j)] el42 sz84 zr84 Token.len (by decide) rfl rfl rfl (by decide) (by decide) rfl fun aG bS r T am => ?_
    have bT := am.size
    have E := E.trans am
    obtain ⟨U, V, rfl, X, F⟩ := r.opn
    have ab : Ch ((bl (.slice Atv (((Qr s 32 []).take i).map rdT).length Ctv)) ++ [p]) C bS := (A.trans am.of_nil)
    refine ⟨ab, ?_⟩
    refine dO 8 (Ye rfl rfl rfl ?_)
    have bU := ((m.ch0 B).ch0 I).ch0 am
    refine Yj (cs := Token.cs) el42 sz84 by84 zr84 rfl (by decide) Token.one bU r.ls rfl rfl bd bd a om fun aH bV t u n aw => ?_
    have bW := aw.size
    have E := E.step aw (fun i hi => .inl (by have R := a _ hi; omega))
    obtain ⟨f, h, rfl, Z, G⟩ := t.opn
    have ac : Ch ((bl (.slice Atv (((Qr s 32 []).take i).map rdT).length Ctv)) ++ [p]) C bV := (ab.step aw (fun i hm => by exact .inr (List.mem_append_left _ hm)))
    refine ⟨ac, ?_⟩
    refine dV 9 rfl rfl rfl (fun _ => Zh fa44_0 rfl) (dO 10 (Ye rfl rfl rfl ?_))
    have bX := (bj.ch0 am).ch aw (fun hm => by exact c (by first | exact hm | exact x ▸ hm))
    refine Xh (off := 0) bX sz42 rfl rfl rfl rfl fun a6 J ax => ?_
    have bY := ax.size
    have E := E.step ax (lS om)
    replace J : Blk a6 p 44 [(.slice f ((((Qr s 32 []).take i).map rdT ++ [(rdT j)])).length h)] := J
    have aK : Ch ((bl (.slice Atv (((Qr s 32 []).take i).map rdT).length Ctv)) ++ [p]) C a6 := (ac.step ax (fun i hm => by have x := List.mem_singleton.1 hm; exact .inr (by rw [x]; exact (List.mem_append_right _ (List.mem_singleton.2 rfl)))))
    refine ⟨aK, ?_⟩
    refine Yb (by kernel_rfl) ?_
    refine Yc (Zb (a1 _ _ (Zc (Za rfl rfl (Zd rfl) (Za rfl rfl (Yq om rfl rfl) (Za rfl rfl (Ze rfl) (Zf ?_)))))))
    have bZ := t.ch ax (fun g hg hm => by have x := List.mem_singleton.1 hm; rcases n with ea | ea; (rw [ea] at hg; exact c (by first | exact hg | exact x ▸ hg)); (rw [ea] at hg; have aJ := List.mem_singleton.1 hg; omega))
    have an : Ol Token.cs 84 4 a6 (.slice f ((((Qr s 32 []).take i).map rdT ++ [(rdT j)])).length h) (((Qr s 32 []).take (i + 1)).map rdT) := by
     have hx := bZ
     exact hx.eq (Zdb D)
    have b0 := ((((l.ch0 B).ch0 I).ch0 am).ch aw (fun hm => by have R := a _ hm; have a3 := q _ hm; omega)).ch ax (nS om)
    have b1 := (((aT.ch0 I).ch0 am).ch aw (fun i hi => by have R := a _ hi; omega)).ch ax (oS om)
    exact Zb (Exists.intro ((i + 1), (.slice f ((((Qr s 32 []).take i).map rdT ++ [(rdT j)])).length h)) ⟨⟨E, om, om, b0, b1, an, (Lo.down u om), J, (fun hm => by rcases n with ea | ea; (rw [ea] at hm; exact c (by first | exact hm | exact x ▸ hm)); (rw [ea] at hm; have aJ := List.mem_singleton.1 hm; omega))⟩, sC4 rfl rfl rfl rfl (sC1 rfl (Sub.nil _)), (by first | omega | (dsimp only; omega))⟩)
   refine Ye rfl rfl rfl ?_
   refine Zr (cs := Token.cs) (parts := [(0, .tmp 26)]) (⟨0, 0, 0, 0⟩ : Token) [(rdT j)] el42 sz84 zr84 Token.len (by decide) rfl rfl rfl (by decide) (by decide) rfl fun aG b2 r T ao => ?_
   have b3 := ao.size
   have E := E.trans ao
   obtain ⟨U, V, rfl, X, F⟩ := r.opn
   have K : Ch ((bl (.slice Atv (((Qr s 32 []).take i).map rdT).length Ctv)) ++ [p]) C b2 := (A.trans ao.of_nil)
   refine ⟨K, ?_⟩
   refine dO 1 (Ye rfl rfl rfl ?_)
   have bk := ((o.ch0 B).ch0 I).ch0 ao
   refine s_v (Zp bk.at_ agg42 rfl rfl) ?_
   refine ⟨K, ?_⟩
   refine dO 8 (Ye rfl rfl rfl ?_)
   have b4 := ((m.ch0 B).ch0 I).ch0 ao
   refine Yj (cs := Token.cs) el42 sz84 by84 zr84 rfl (by decide) Token.one b4 r.ls rfl rfl bd bd a om fun aH b5 t u n ay => ?_
   have b6 := ay.size
   have E := E.step ay (fun i hi => .inl (by have R := a _ hi; omega))
   obtain ⟨f, h, rfl, Z, G⟩ := t.opn
   have ad : Ch ((bl (.slice Atv (((Qr s 32 []).take i).map rdT).length Ctv)) ++ [p]) C b5 := (K.step ay (fun i hm => by exact .inr (List.mem_append_left _ hm)))
   refine ⟨ad, ?_⟩
   refine dV 9 rfl rfl rfl (fun _ => Zh fa44_0 rfl) (dO 10 (Ye rfl rfl rfl ?_))
   have b7 := bk.ch ay (fun hm => by exact c (by first | exact hm | exact x ▸ hm))
   refine Xh (off := 0) b7 sz42 rfl rfl rfl rfl fun a7 L az => ?_
   have b8 := az.size
   have E := E.step az (lS om)
   replace L : Blk a7 p 44 [(.slice f ((((Qr s 32 []).take i).map rdT ++ [(rdT j)])).length h)] := L
   have aL : Ch ((bl (.slice Atv (((Qr s 32 []).take i).map rdT).length Ctv)) ++ [p]) C a7 := (ad.step az (fun i hm => by have x := List.mem_singleton.1 hm; exact .inr (by rw [x]; exact (List.mem_append_right _ (List.mem_singleton.2 rfl)))))
   refine ⟨aL, ?_⟩
   refine Yb (by kernel_rfl) ?_
   refine Yc (Zb (a1 _ _ (Zc (Za rfl rfl (Zd rfl) (Za rfl rfl (Yq om rfl rfl) (Za rfl rfl (Ze rfl) (Zf ?_)))))))
   have b9 := t.ch az (fun g hg hm => by have x := List.mem_singleton.1 hm; rcases n with ea | ea; (rw [ea] at hg; exact c (by first | exact hg | exact x ▸ hg)); (rw [ea] at hg; have aJ := List.mem_singleton.1 hg; omega))
   have ap : Ol Token.cs 84 4 a7 (.slice f ((((Qr s 32 []).take i).map rdT ++ [(rdT j)])).length h) (((Qr s 32 []).take (i + 1)).map rdT) := by
    have hx := b9
    exact hx.eq (Zdb D)
   have ca := ((((l.ch0 B).ch0 I).ch0 ao).ch ay (fun hm => by have R := a _ hm; have a3 := q _ hm; omega)).ch az (nS om)
   have cb := (((aT.ch0 I).ch0 ao).ch ay (fun i hi => by have R := a _ hi; omega)).ch az (oS om)
   exact Zb (Exists.intro ((i + 1), (.slice f ((((Qr s 32 []).take i).map rdT ++ [(rdT j)])).length h)) ⟨⟨E, om, om, ca, cb, ap, (Lo.down u om), L, (fun hm => by rcases n with ea | ea; (rw [ea] at hm; exact c (by first | exact hm | exact x ▸ hm)); (rw [ea] at hm; have aJ := List.mem_singleton.1 hm; omega))⟩, sC4 rfl rfl rfl rfl (sC1 rfl (Sub.nil _)), (by first | omega | (dsimp only; omega))⟩)
  have a0 := z
  have z := Yp z
  refine Xk (Ya (Ya (Xd ?_)))
  refine Zb (H9 _ _ ?_)
  refine Zg fun cO bm => ?_
  refine Zg fun cP cc => ?_
  refine Zc (Za rfl rfl (Zt o.at_ agg44 sz44 rfl) (Zk rfl rfl ?_))
  refine Step.call (Zl (xs := [.tmp 30]) fk31 rfl) (Zbf m.ls ) fun a8 cQ aq => ?_
  obtain ⟨rfl, aA⟩ := aq
  have cd := aA.size
  have E := E.trans aA
  refine Za rfl rfl (Xi rfl) (Zf (Zb (cc _ _ ?_)))
  refine Zx rfl (fun b => ?_) (fun b => ?_)
  ·have a9 := b
   have b := Qf b
   refine Zg fun cR ce => ?_
   refine Zc (Za rfl rfl (Yt (parts := []) (cells := [(.slice none 0 0)]) zr44 pl44 rfl rfl) (Zk rfl rfl ?_))
   have cf := l.ch0 aA
   refine Zy (off := 0) 1 cf sz44 rfl (us := [(.slice none 0 0)]) rfl rfl rfl rfl fun ba M bn => ?_
   have cg := bn.size
   have E := E.step bn (lS om)
   replace M : Blk ba af 44 [(.slice none 0 0)] := M
   refine Za rfl rfl (Ze rfl) (Zf (Zb (ce _ _ ?_)))
   refine Zs (Zm ?_)
   clear aY bm
   have aM : Ol Token.cs 84 4 ba (.slice none 0 0) ((parS s).1) := by
    have hx := Ol.nil (cs := Token.cs) (e := 84) (k := 4) ba
    first | (rw [Zgl (congrArg (List.map rdT) (Zac om om)) b]; exact hx) | (rw [Zgj (congrArg (List.map rdT) (Zac om om)) b]; exact hx)
   exact Zi [_, _] (Zz M rfl agg44 sz44 ⟨rfl, trivial⟩) ⟨(.slice none 0 0), (congrArg (fun zq => (Value.tuple #[.agg #[(.slice none 0 0)], .bool zq])) (by first | rw [Zgl (congrArg (List.map rdT) (Zac om om)) b] | rw [Zgj (congrArg (List.map rdT) (Zac om om)) b])), aM, (Lo.nil _), E⟩
  have a9 := b
  have b := Qg b
  refine Zu ?_
  refine Zb (bm _ _ ?_)
  refine Zg fun cS ci => ?_
  refine Zc ?_
  have cj := o.ch0 aA
  refine Za rfl rfl (Zt cj.at_ agg44 sz44 rfl) (Zk rfl rfl ?_)
  have ck := l.ch0 aA
  refine Zy (off := 0) 1 ck sz44 rfl (us := [(.slice Atv (((Qr s 32 []).take i).map rdT).length Ctv)]) rfl rfl rfl rfl fun bp O bb => ?_
  have cm := bb.size
  have E := E.step bb (lS om)
  replace O : Blk bp af 44 [(.slice Atv (((Qr s 32 []).take i).map rdT).length Ctv)] := O
  refine Za rfl rfl (Ze rfl) (Zf (Zb (ci _ _ ?_)))
  refine Zs ?_
  have cn := (m.ch0 aA).ch bb (dS a q om)
  have aN : Ol Token.cs 84 4 bp (.slice Atv (((Qr s 32 []).take i).map rdT).length Ctv) ((parS s).1) := by
   have hx := cn
   first | (rw [Zgl (congrArg (List.map rdT) (Zac om om)) b]; exact hx) | (rw [Zgj (congrArg (List.map rdT) (Zac om om)) b]; exact hx)
  exact Zi [_, _] (Zz O rfl agg44 sz44 ⟨rfl, trivial⟩) ⟨(.slice Atv (((Qr s 32 []).take i).map rdT).length Ctv), (congrArg (fun zq => (Value.tuple #[.agg #[(.slice Atv (((Qr s 32 []).take i).map rdT).length Ctv)], .bool zq])) (by first | rw [Zgl (congrArg (List.map rdT) (Zac om om)) b] | rw [Zgj (congrArg (List.map rdT) (Zac om om)) b])), aN, (Lo.down a om), E⟩
 have aZ := y
 have y := Yp y
 refine Zj rfl rfl (Zj rfl rfl (Za rfl rfl (Zv rfl rfl) (Zf (Zb (bh _ _ ?_)))))
 refine Xn rfl ?_
 refine Xk (Ya (Ya (Xd ?_)))
 refine Zb (H9 _ _ ?_)
 refine Zg fun cT bq => ?_
 refine Zg fun cU co => ?_
 refine Zc (Za rfl rfl (Zt o.at_ agg44 sz44 rfl) (Zk rfl rfl ?_))
 refine Step.call (Zl (xs := [.tmp 30]) fk31 rfl) (Zbf m.ls ) fun a8 cV aq => ?_
 obtain ⟨rfl, aB⟩ := aq
 have cp := aB.size
 have E := E.trans aB
 refine Za rfl rfl (Xi rfl) (Zf (Zb (co _ _ ?_)))
 refine Zx rfl (fun b => ?_) (fun b => ?_)
 ·have bc := b
  have b := Qf b
  refine Zg fun cW cq => ?_
  refine Zc (Za rfl rfl (Yt (parts := []) (cells := [(.slice none 0 0)]) zr44 pl44 rfl rfl) (Zk rfl rfl ?_))
  have cr := l.ch0 aB
  refine Zy (off := 0) 1 cr sz44 rfl (us := [(.slice none 0 0)]) rfl rfl rfl rfl fun be P br => ?_
  have ct := br.size
  have E := E.step br (lS om)
  replace P : Blk be af 44 [(.slice none 0 0)] := P
  refine Za rfl rfl (Ze rfl) (Zf (Zb (cq _ _ ?_)))
  refine Zs (Zm ?_)
  clear aY bq
  have aO : Ol Token.cs 84 4 be (.slice none 0 0) ((parS s).1) := by
   have hx := Ol.nil (cs := Token.cs) (e := 84) (k := 4) be
   first | (rw [Zgl (congrArg (List.map rdT) (Zac om om)) b]; exact hx) | (rw [Zgj (congrArg (List.map rdT) (Zac om om)) b]; exact hx)
  exact Zi [_, _] (Zz P rfl agg44 sz44 ⟨rfl, trivial⟩) ⟨(.slice none 0 0), (congrArg (fun zq => (Value.tuple #[.agg #[(.slice none 0 0)], .bool zq])) (by first | rw [Zgl (congrArg (List.map rdT) (Zac om om)) b] | rw [Zgj (congrArg (List.map rdT) (Zac om om)) b])), aO, (Lo.nil _), E⟩
 have bc := b
 have b := Qg b
 refine Zu ?_
 refine Zb (bq _ _ ?_)
 refine Zg fun cX cu => ?_
 refine Zc ?_
 have cv := o.ch0 aB
 refine Za rfl rfl (Zt cv.at_ agg44 sz44 rfl) (Zk rfl rfl ?_)
 have cw := l.ch0 aB
 refine Zy (off := 0) 1 cw sz44 rfl (us := [(.slice Atv (((Qr s 32 []).take i).map rdT).length Ctv)]) rfl rfl rfl rfl fun bs Q bf => ?_
 have cx := bf.size
 have E := E.step bf (lS om)
 replace Q : Blk bs af 44 [(.slice Atv (((Qr s 32 []).take i).map rdT).length Ctv)] := Q
 refine Za rfl rfl (Ze rfl) (Zf (Zb (cu _ _ ?_)))
 refine Zs ?_
 have cy := (m.ch0 aB).ch bf (dS a q om)
 have aP : Ol Token.cs 84 4 bs (.slice Atv (((Qr s 32 []).take i).map rdT).length Ctv) ((parS s).1) := by
  have hx := cy
  first | (rw [Zgl (congrArg (List.map rdT) (Zac om om)) b]; exact hx) | (rw [Zgj (congrArg (List.map rdT) (Zac om om)) b]; exact hx)
 exact Zi [_, _] (Zz Q rfl agg44 sz44 ⟨rfl, trivial⟩) ⟨(.slice Atv (((Qr s 32 []).take i).map rdT).length Ctv), (congrArg (fun zq => (Value.tuple #[.agg #[(.slice Atv (((Qr s 32 []).take i).map rdT).length Ctv)], .bool zq])) (by first | rw [Zgl (congrArg (List.map rdT) (Zac om om)) b] | rw [Zgj (congrArg (List.map rdT) (Zac om om)) b])), aP, (Lo.down a om), E⟩

/-- spec.l1Pick -/
theorem Zks {w : World} {b_c : Nat} (f : Cu w b_c) {e_list : Nat} {a : Value} {list : List (List UInt8)} (b : Ol scs e_list 1 w a list) (hl : 0 < list.length ∧ list.length ≤ 4096) (K9 : Nat) (q : b_c < K9) (i : Lo K9 a) :
 Ctr Try.prog 139 #[(.pointer (some ⟨b_c, 0, none⟩)), a] w (fun v w' => ∃ (n : List UInt8) , v = .string (bys n) ∧ (n ∈ list) ∧ Cu w' b_c ∧ Ch [b_c] w w') := by
 have o := f.lt
 obtain ⟨d, e, rfl, h, c⟩ := b.opn
 have E := Ch.refl [b_c] w
 refine Yh (N := 12) (vs0 := [(.pointer (some ⟨b_c, 0, none⟩)), (.slice d list.length e)]) Try.func139 rfl rfl rfl ?_
 refine Zg fun V1 H1 => ?_
 refine Zc (Za rfl rfl (Ze rfl) (Zf (Zb (H1 _ _ ?_))))
 refine Zg fun V2 H2 => ?_
 refine Zc (Za rfl rfl (Zd rfl) (Za rfl rfl (Zd rfl) (Za rfl rfl (Zd rfl) (Za rfl rfl (Xm (by rw [el160]; rfl) rfl) (Zk rfl rfl ?_)))))
 refine Step.call (Zl (xs := [.tmp 6, .tmp 8]) fk42 rfl) (Qn f _ om) fun u W3 r => ?_
 obtain ⟨k, rfl, p, s, C3⟩ := r
 have x := C3.size
 have E := E.trans C3
 refine Zk rfl rfl ?_
 have F4 := b.ch C3 (dS i c om)
 refine (Yy (j := k.toNat) F4.ls Zeq el160 sz9 rfl rfl om om fun t l g m => ?_)
 refine Za rfl rfl (Yk m agg9 rfl rfl) (Za rfl rfl (Ze rfl) (Zf (Zb (H2 _ _ ?_))))
 refine Zs ?_
 exact Zi [_] ⟨rfl, trivial⟩ ⟨l, (congrArg (fun zq => (Value.string (bys zq))) (by first | rfl | simp_all)), (Yv g), s, E⟩

/-- spec.l8Known -/
theorem Ziv {w : World} {b_c : Nat} (k : Cu w b_c) :
 Ctr Try.prog 125 #[(.pointer (some ⟨b_c, 0, none⟩))] w (fun v w' => ∃ (q : List Token) (g : Value), v = .agg #[g] ∧ Ol Token.cs 84 4 w' g (q) ∧ Lo w.heap.size g ∧ (1 ≤ q.length ∧ q.length ≤ 24) ∧ Cu w' b_c ∧ Ch [b_c] w w') := by
 have t := k.lt
 have E := Ch.refl [b_c] w
 refine Yh (N := 13) (vs0 := [(.pointer (some ⟨b_c, 0, none⟩))]) Try.func125 rfl rfl rfl ?_
 refine Zg fun K1 H1 => ?_
 refine Zc (Zk rfl rfl ?_)
 refine Yr zr44 fun u W2 m C2 O => ?_
 have P := C2.size
 have E := E.trans C2.of_nil
 have Q := m.lt
 replace m : Blk W2 u 44 [(.slice none 0 0)] := m
 refine Zf (Zb (H1 _ _ ?_))
 refine Zg fun K3 H3 => ?_
 refine Zc (Za rfl rfl (Zd rfl) (Zk rfl rfl ?_))
 refine Zr (cs := scs) (parts := [(0, .const (Go.Value.string { data := #[97] })), (1, .const (Go.Value.string { data := #[97, 32, 98, 32, 46] })), (2, .const (Go.Value.string { data := #[97, 32, 42] })), (3, .const (Go.Value.string { data := #[97, 32, 98, 32, 124, 32, 42] })), (4, .const (Go.Value.string { data := #[97, 32, 97, 45, 32, 46] })), (5, .const (Go.Value.string { data := #[97, 32, 42, 32, 98, 32, 46] })), (6, .const (Go.Value.string { data := #[97, 32, 98, 32, 42, 32, 46, 32, 99, 32, 46] })), (7, .const (Go.Value.string { data := #[97, 32, 97, 32, 124, 32, 42] })), (8, .const (Go.Value.string { data := #[97, 32, 98, 32, 46, 32, 42] })), (9, .const (Go.Value.string { data := #[48, 32, 97, 32, 46, 32, 42] })), (10, .const (Go.Value.string { data := #[97, 32, 49, 32, 46, 32, 98, 32, 46] })), (11, .const (Go.Value.string { data := #[97, 32, 123, 48, 44, 50, 125] })), (12, .const (Go.Value.string { data := #[97, 32, 98, 32, 124, 32, 123, 49, 44, 51, 125] })), (13, .const (Go.Value.string { data := #[40, 41] })), (14, .const (Go.Value.string { data := #[33] })), (15, .const (Go.Value.string { data := #[97, 45, 32, 42, 32, 97, 32, 46] })), (16, .const (Go.Value.string { data := #[97, 32, 98, 45, 32, 46, 32, 42, 32, 99, 32, 124] })), (17, .const (Go.Value.string { data := #[97, 32, 42, 32, 97, 32, 42, 32, 46] })), (18, .const (Go.Value.string { data := #[97, 32, 48, 32, 124, 32, 42, 32, 98, 32, 46] })), (19, .const (Go.Value.string { data := #[97, 32, 97, 32, 46, 32, 42] })), (20, .const (Go.Value.string { data := #[97, 32, 98, 32, 46, 32, 98, 32, 97, 32, 46, 32, 124, 32, 42] }))]) ([] : List UInt8) [[97], [97, 32, 98, 32, 46], [97, 32, 42], [97, 32, 98, 32, 124, 32, 42], [97, 32, 97, 45, 32, 46], [97, 32, 42, 32, 98, 32, 46], [97, 32, 98, 32, 42, 32, 46, 32, 99, 32, 46], [97, 32, 97, 32, 124, 32, 42], [97, 32, 98, 32, 46, 32, 42], [48, 32, 97, 32, 46, 32, 42], [97, 32, 49, 32, 46, 32, 98, 32, 46], [97, 32, 123, 48, 44, 50, 125], [97, 32, 98, 32, 124, 32, 123, 49, 44, 51, 125], [40, 41], [33], [97, 45, 32, 42, 32, 97, 32, 46], [97, 32, 98, 45, 32, 46, 32, 42, 32, 99, 32, 124], [97, 32, 42, 32, 97, 32, 42, 32, 46], [97, 32, 48, 32, 124, 32, 42, 32, 98, 32, 46], [97, 32, 97, 32, 46, 32, 42], [97, 32, 98, 32, 46, 32, 98, 32, 97, 32, 46, 32, 124, 32, 42]] el160 sz9 zr9 Zeq (by decide) rfl rfl rfl (by decide) (by decide) rfl fun R W4 x r C4 => ?_
 have S := C4.size
 have E := E.trans C4.of_nil
 obtain ⟨B, C, rfl, D, y⟩ := x.opn
 refine Zk rfl rfl ?_
 have F5 := (k.ch0 C2).ch0 C4
 refine Step.call (Zl (xs := [.tmp 6, .tmp 7]) fk139 rfl) (Zks F5 x (by decide) W2.heap.size om r) fun T W6 F => ?_
 obtain ⟨f, rfl, j, G, C6⟩ := F
 have U := C6.size
 have E := E.trans C6
 refine Zk rfl rfl ?_
 refine Step.call (Zl (xs := [.tmp 8]) fk138 rfl) (Zgx f (by have V := Zql _ j; omega)) fun X W7 H => ?_
 obtain ⟨s, rfl, d, c, C7⟩ := H
 have Y := C7.size
 have E := E.trans C7.of_nil
 obtain ⟨a, b, rfl, n, e⟩ := d.opn
 refine Za rfl rfl (Zd rfl) (Za rfl rfl (Xc rfl rfl) (Za rfl rfl (Xc rfl rfl) (Zk rfl rfl ?_)))
 refine Yr zr44 fun z W8 o C8 Z => ?_
 have aa := C8.size
 have E := E.trans C8.of_nil
 have ab := o.lt
 replace o : Blk W8 z 44 [(.slice none 0 0)] := o
 refine Zk rfl rfl ?_
 refine Zy (off := 0) 1 o sz44 rfl (us := [(.slice a ((parS f).1).length b)]) rfl rfl rfl rfl fun W9 h C9 => ?_
 have ac := C9.size
 have E := E.step C9 (lS om)
 replace h : Blk W9 z 44 [(.slice a ((parS f).1).length b)] := h
 refine Za rfl rfl (Ze rfl) (Zf (Zb (H3 _ _ ?_)))
 refine Zg fun ad I => ?_
 refine Zc (Za rfl rfl (Zt h.at_ agg44 sz44 rfl) (Zk rfl rfl ?_))
 have J := ((((m.ch0 C4).ch C6 (nS om)).ch0 C7).ch0 C8).ch C9 (nS om)
 refine Zy (off := 0) 1 J sz44 rfl (us := [(.slice a ((parS f).1).length b)]) rfl rfl rfl rfl fun A i p => ?_
 have K := p.size
 have E := E.step p (lS om)
 replace i : Blk A u 44 [(.slice a ((parS f).1).length b)] := i
 refine Zf (Zb (I _ _ ?_))
 refine Zs ?_
 have L := ((d.ch0 C8).ch C9 (dS c e om)).ch p (dS c e om)
 have l : Ol Token.cs 84 4 A (.slice a ((parS f).1).length b) ((parS f).1) := by
  have hx := L
  first | exact hx | simpa using hx
 have M := (((G.ch0 C7).ch0 C8).ch C9 (oS om)).ch p (oS om)
 exact Zi [_] (Zz i rfl agg44 sz44 trivial) ⟨((parS f).1), (.slice a ((parS f).1).length b), rfl, l, (Lo.down c om), (Zsk _ j), M, E⟩

/-- spec.LetterExpr -/
theorem Zgf {w : World} (l : Int) :
 Ctr Try.prog 140 #[(.int .i64 l)] w (fun v w' => ∃ u, v = .agg #[u] ∧ Ol Token.cs 84 4 w' u ([(⟨3, l, 0, 0⟩ : Token)]) ∧ Lo w.heap.size u ∧ Ch [] w w') := by
 have E := Ch.refl [] w
 refine Yh (N := 7) (vs0 := [(.int .i64 l)]) Try.func140 rfl rfl rfl ?_
 refine Zg fun K1 H1 => ?_
 refine Zc (Zk rfl rfl ?_)
 refine Yr zr44 fun h W2 f C2 k => ?_
 have m := C2.size
 have E := E.trans C2
 have n := f.lt
 replace f : Blk W2 h 44 [(.slice none 0 0)] := f
 refine Zf (Zb (H1 _ _ ?_))
 refine Zg fun K3 H3 => ?_
 refine Zc (Za rfl rfl (Zd rfl) (Za rfl rfl (Yt (parts := [(0, .const (Go.Value.int Go.IntKind.i64 3)), (1, .tmp 3)]) (cells := [(.int .i64 3), (.int .i64 l), (.int .i64 0), (.int .i64 0)]) zr84 pl84 rfl rfl) (Zk rfl rfl ?_)))
 refine Zr (cs := Token.cs) (parts := [(0, .tmp 4)]) (⟨0, 0, 0, 0⟩ : Token) [(⟨3, l, 0, 0⟩ : Token)] el42 sz84 zr84 Token.len (by decide) rfl rfl rfl (by decide) (by decide) rfl fun o W4 i d C4 => ?_
 have p := C4.size
 have E := E.trans C4
 obtain ⟨a, b, rfl, j, e⟩ := i.opn
 refine Za rfl rfl (Yt (parts := [(0, .tmp 5)]) (cells := [(.slice a ([(⟨3, l, 0, 0⟩ : Token)]).length b)]) zr44 pl44 rfl rfl) (Zk rfl rfl ?_)
 have F5 := f.ch0 C4
 refine Zy (off := 0) 1 F5 sz44 rfl (us := [(.slice a ([(⟨3, l, 0, 0⟩ : Token)]).length b)]) rfl rfl rfl rfl fun W6 c C6 => ?_
 have q := C6.size
 have E := E.step C6 (lS om)
 replace c : Blk W6 h 44 [(.slice a ([(⟨3, l, 0, 0⟩ : Token)]).length b)] := c
 refine Zf (Zb (H3 _ _ ?_))
 refine Zs ?_
 have F9 := i.ch C6 (dS d e om)
 have g : Ol Token.cs 84 4 W6 (.slice a ([(⟨3, l, 0, 0⟩ : Token)]).length b) ([(⟨3, l, 0, 0⟩ : Token)]) := by
  have hx := F9
  first | exact hx | simpa using hx
 exact Zi [_] (Zz c rfl agg44 sz44 trivial) ⟨_, rfl, g, Lo.down d om, E⟩

end Go.Proofs.Ytgnlfnkgkcmdjaa
