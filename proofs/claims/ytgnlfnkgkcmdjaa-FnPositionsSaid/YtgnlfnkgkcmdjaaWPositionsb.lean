/- Walks of functions that FnPositions reaches: what each returns, and that it leaves the memory that was there alone. -/
import Derived.Test.YtgnlfnkgkcmdjaaLibA
import Derived.Test.YtgnlfnkgkcmdjaaLibB
import Derived.Test.YtgnlfnkgkcmdjaaWPositions
import Derived.Test.YtgnlfnkgkcmdjaaProg
namespace Go.Proofs.Ytgnlfnkgkcmdjaa
open Go.KLib Go.Shelf
set_option maxHeartbeats 1000000
set_option maxRecDepth 20000
set_option linter.unusedVariables false
set_option linter.unusedSimpArgs false
namespace TPositionsb
theorem agg129 : Yv Try.prog 129 = some false := by kernel_rfl
theorem agg3 : Yv Try.prog 3 = some false := by kernel_rfl
theorem agg30 : Yv Try.prog 30 = some false := by kernel_rfl
theorem agg4 : Yv Try.prog 4 = some false := by kernel_rfl
theorem agg42 : Yv Try.prog 42 = some false := by kernel_rfl
theorem agg44 : Yv Try.prog 44 = some true := by kernel_rfl
theorem agg48 : Yv Try.prog 48 = some true := by kernel_rfl
theorem agg84 : Yv Try.prog 84 = some true := by kernel_rfl
theorem agg86 : Yv Try.prog 86 = some true := by kernel_rfl
theorem agg88 : Yv Try.prog 88 = some false := by kernel_rfl
theorem by3 : Zar Try.prog 3 = some 8 := by kernel_rfl
theorem el129 : elB Try.prog 129 = some 88 := by kernel_rfl
theorem el30 : elB Try.prog 30 = some 3 := by kernel_rfl
theorem el42 : elB Try.prog 42 = some 84 := by kernel_rfl
theorem fa131_0 : faB Try.prog 131 0 = some 0 := by kernel_rfl
theorem fa131_1 : faB Try.prog 131 1 = some 4 := by kernel_rfl
theorem fa44_0 : faB Try.prog 44 0 = some 0 := by kernel_rfl
theorem fa48_0 : faB Try.prog 48 0 = some 0 := by kernel_rfl
theorem fa48_1 : faB Try.prog 48 1 = some 1 := by kernel_rfl
theorem fa48_2 : faB Try.prog 48 2 = some 2 := by kernel_rfl
theorem fa48_3 : faB Try.prog 48 3 = some 3 := by kernel_rfl
theorem fa48_4 : faB Try.prog 48 4 = some 4 := by kernel_rfl
theorem fa84_0 : faB Try.prog 84 0 = some 0 := by kernel_rfl
theorem fa84_1 : faB Try.prog 84 1 = some 1 := by kernel_rfl
theorem fa86_0 : faB Try.prog 86 0 = some 0 := by kernel_rfl
theorem fa86_1 : faB Try.prog 86 1 = some 1 := by kernel_rfl
theorem fa86_2 : faB Try.prog 86 2 = some 2 := by kernel_rfl
theorem fk103 : fnB Try.prog 103 = true := by kernel_rfl
theorem fk28 : fnB Try.prog 28 = true := by kernel_rfl
theorem fk65 : fnB Try.prog 65 = true := by kernel_rfl
theorem fk66 : fnB Try.prog 66 = true := by kernel_rfl
theorem fk83 : fnB Try.prog 83 = true := by kernel_rfl
theorem mixed : Try.prog.follows .mixedOrders = true := by kernel_rfl
theorem pl48 : Xz Try.prog 48 = some [(0, 1), (1, 1), (2, 1), (3, 1), (4, 1)] := by kernel_rfl
theorem pl86 : Xz Try.prog 86 = some [(0, 1), (1, 1), (2, 1)] := by kernel_rfl
theorem sz3 : Yg Try.prog 3 = some 1 := by kernel_rfl
theorem sz30 : Yg Try.prog 30 = some 1 := by kernel_rfl
theorem sz4 : Yg Try.prog 4 = some 1 := by kernel_rfl
theorem sz44 : Yg Try.prog 44 = some 1 := by kernel_rfl
theorem sz48 : Yg Try.prog 48 = some 5 := by kernel_rfl
theorem sz84 : Yg Try.prog 84 = some 4 := by kernel_rfl
theorem sz86 : Yg Try.prog 86 = some 3 := by kernel_rfl
theorem sz88 : Yg Try.prog 88 = some 1 := by kernel_rfl
theorem zr3 : Xf Try.prog 3 = some (.int .i64 0) := by kernel_rfl
theorem zr44 : Xf Try.prog 44 = some (.agg #[.slice none 0 0]) := by kernel_rfl
theorem zr48 : Xf Try.prog 48 = some (.agg #[.slice none 0 0, .int .i64 0, .int .i64 0, .slice none 0 0, .bool false]) := by kernel_rfl
theorem zr84 : Xf Try.prog 84 = some (.agg #[.int .i64 0, .int .i64 0, .int .i64 0, .int .i64 0]) := by kernel_rfl
theorem zr86 : Xf Try.prog 86 = some (.agg #[.int .i64 0, .int .i64 0, .bool false]) := by kernel_rfl
end TPositionsb
open TPositionsb

/-- impl.Positions).build -/
theorem Zcx : ∀ (n : Nat) {w : World} {b_p t_p L_p : Nat} {da : Value} {a : List Int} {b0 : Int} {b1 : Int} {db : Value} {b : List Int} {b2 : Bool} (m_p : Blk w b_p t_p [da, (.int .i64 b0), (.int .i64 b1), db, (.bool b2)])  (b8 : Ol ics 3 1 w da a) (bh : b_p ∉ bl da) (c : Lo L_p da) (b9 : Ol ics 3 1 w db b) (bs : b_p ∉ bl db) (e : Lo L_p db) (aR : ∀ g ∈ bl da, g ∉ bl db) {LT_x : Nat} {p_x : Addr} {x : Tr} (ld : TrAt w LT_x L_p p_x x) (xQ : b_p < LT_x ∨ L_p ≤ b_p) (xR : L_p ≤ w.heap.size) (hok : Okd x) (hb : a.length + x.sz ≤ 100000 ∧ b.length + x.sz ≤ 100000) (hsz : x.sz < n),
 Ctr Try.prog 65 #[(.pointer (some ⟨b_p, 0, none⟩)), (.pointer (some p_x))] w (fun v w' => ∃ (lf lg : Value), v = .agg #[.int .i64 ((bpT x a b).f), .int .i64 ((bpT x a b).l), .bool ((bpT x a b).n)] ∧ Blk w' b_p t_p [lf, .int .i64 b0, .int .i64 b1, lg, .bool b2] ∧ Ol ics 3 1 w' lf ((bpT x a b).L) ∧ (∀ g ∈ bl lf, w.heap.size ≤ g ∨ g ∈ (b_p :: (bl da ++ bl db))) ∧ b_p ∉ bl lf ∧ Ol ics 3 1 w' lg ((bpT x a b).F) ∧ (∀ g ∈ bl lg, w.heap.size ≤ g ∨ g ∈ (b_p :: (bl da ++ bl db))) ∧ b_p ∉ bl lg ∧ (∀ g ∈ bl lf, g ∉ bl lg) ∧ Ch (b_p :: (bl da ++ bl db)) w w') := by
  intro n
  induction n with
  | zero => intros; omega
  | succ n ih =>
 intro w b_p t_p L_p da a b0 b1 db b b2 m_p b8 bh c b9 bs e aR LT_x p_x x ld xQ xR hok hb hsz
 obtain ⟨bi, bj, rfl, u4, m⟩ := b8.opn
 obtain ⟨bn, bp, rfl, u5, o⟩ := b9.opn
 have u6 := m_p.lt
 obtain ⟨j6, j7, hC, lh, hD, g9⟩ := ld.open
 have u7 := g9.1
 have E := Ch.refl (b_p :: (bl (.slice bi a.length bj) ++ bl (.slice bn b.length bp))) w
 have k2 := hok.len; have hte : x.tok.letter = x.tok.letter := rfl
 refine Ye (N := 163) (vs0 := [(.pointer (some ⟨b_p, 0, none⟩)), (.pointer (some p_x))]) Try.func65 rfl rfl rfl ?_
 refine Zg fun K1 H1 => ?_
 refine Zc (Zm rfl rfl ?_)
 refine Yh zr86 fun a3 W2 c1 C2 zi => ?_
 have zj := C2.size
 have E := E.trans C2.of_nil
 have zk := c1.lt
 replace c1 : Blk W2 a3 86 [(.int .i64 0), (.int .i64 0), (.bool false)] := c1
 refine Ze (Zb (H1 _ _ ?_))
 refine Zg fun K3 H3 => ?_
 refine Zg fun K4 H4 => ?_
 refine Zc (Za rfl rfl (Zd rfl) (Za rfl rfl (Yf rfl) (Za rfl rfl (Zh fa131_0 rfl) (Za rfl rfl (Qo (n := 0) fa84_0 rfl rfl) ?_))))
 have F5 := lh.ch0 C2
 refine Za rfl rfl (Zk F5 agg3 rfl rfl) (Ze (Zb (H4 _ _ ?_)))
 refine Zx ?_
 refine Zg fun K6 H6 => ?_
 refine Zc (Za rfl rfl (Yy rfl rfl) (Za rfl rfl (Zf rfl) (Ze (Zb (H6 _ _ ?_)))))
 refine Zp rfl (fun fF => ?_) (fun fF => ?_)
 ·have xS := fF
  have fF := Yi fF
  have eb := bp2 (L := a) (F := b) hok om
  refine Zg fun K8 H8 => ?_
  refine Zc (Za rfl rfl (Yn (parts := [(2, .const (Go.Value.bool true))]) (cells := [(.int .i64 0), (.int .i64 0), (.bool true)]) zr86 pl86 rfl rfl) (Zm rfl rfl ?_))
  refine Zn (off := 0) 3 c1 sz86 rfl (us := [(.int .i64 0), (.int .i64 0), (.bool true)]) rfl rfl rfl rfl fun W9 hE C9 => ?_
  have zl := C9.size
  have E := E.step C9 (Xa om)
  replace hE : Blk W9 a3 86 [(.int .i64 0), (.int .i64 0), (.bool true)] := hE
  refine Ze (Zb (H8 _ _ ?_))
  refine Zq (Yd (Zo ?_))
  have xT := (m_p.ch0 C2).ch C9 (ne1 om)
  have xU := (b8.ch0 C2).ch C9 (dS c m om)
  have li : Ol ics 3 1 W9 (.slice bi a.length bj) ((bpT x a b).L) := by
   have hx := xU
   exact hx.eq (by rw [eb] <;> first | rfl | (rw [hte]; done))
  have xV := (b9.ch0 C2).ch C9 (dS e o om)
  have lk : Ol ics 3 1 W9 (.slice bn b.length bp) ((bpT x a b).F) := by
   have hx := xV
   exact hx.eq (by rw [eb] <;> first | rfl | (rw [hte]; done))
  have ll : Blk W9 b_p t_p [(.slice bi a.length bj), .int .i64 b0, .int .i64 b1, (.slice bn b.length bp), .bool b2] := by
   have hx := xT
   exact hx
  exact Zi [_] (Zt hE rfl agg86 sz86 trivial) ⟨(.slice bi a.length bj), (.slice bn b.length bp), (((congrArg (fun zq => (Value.agg #[.int .i64 zq, .int .i64 0, .bool true])) (by rw [eb] <;> first | rfl | (rw [hte]; done))).trans (congrArg (fun zq => (Value.agg #[.int .i64 ((bpT x a b).f), .int .i64 zq, .bool true])) (by rw [eb] <;> first | rfl | (rw [hte]; done)))).trans (congrArg (fun zq => (Value.agg #[.int .i64 ((bpT x a b).f), .int .i64 ((bpT x a b).l), .bool zq])) (by rw [eb] <;> first | rfl | (rw [hte]; done)))), ll, li, (fun g hm => by exact (.inr (mCo _ (mAL _ hm)))), bh, lk, (fun g hm => by exact (.inr (mCo _ (mAR _ hm)))), bs, aR, E⟩
 have xS := fF
 have fF := Yj fF
 refine Zg fun zm xW => ?_
 refine Zc (Za rfl rfl (Yy rfl rfl) (Za rfl rfl (Zf rfl) (Ze (Zb (xW _ _ ?_)))))
 refine Zp rfl (fun fG => ?_) (fun fG => ?_)
 ·have mQ := fG
  have fG := Yi fG
  have eb := bp3 (L := a) (F := b) hok om
  refine Zg fun zn xX => ?_
  refine Zc (Za rfl rfl (Zd rfl) (Za rfl rfl (Yf rfl) (Za rfl rfl (Zh fa48_0 rfl) ?_)))
  have mR := m_p.ch0 C2
  refine Za rfl rfl (Zk mR.at_ agg30 rfl rfl) (Za rfl rfl (Xc (by rw [el30]; rfl) rfl) (Za rfl rfl (Zjf om rfl rfl) (Za rfl rfl (Zf rfl) (Ze (Zb (xX _ _ ?_))))))
  refine Zg fun xY xZ => ?_
  have jJ : ∀ (lj : KL) (cK : World) (bk : Value) (bm : Value), Go.KLib.Sub [(0, (.pointer (some ⟨b_p, 0, none⟩))), (1, (.pointer (some p_x))), (4, (.pointer (some ⟨a3, 0, none⟩))), (5, (.int .i64 (ishl 1 ((a.length : Nat) : Int)))), (16, (.int .i64 x.tok.kind))] lj → Ch (b_p :: (bl (.slice bi a.length bj) ++ bl (.slice bn b.length bp))) w cK → W2.heap.size ≤ cK.heap.size → Ol ics 3 1 cK bk (a ++ [x.tok.letter]) → (∀ g ∈ bl bk, w.heap.size ≤ g ∨ g ∈ (b_p :: (bl (.slice bi a.length bj) ++ bl (.slice bn b.length bp)))) → b_p ∉ bl bk → Ol ics 3 1 cK bm b → (∀ g ∈ bl bm, w.heap.size ≤ g ∨ g ∈ (b_p :: (bl (.slice bi a.length bj) ++ bl (.slice bn b.length bp)))) → b_p ∉ bl bm → (∀ g ∈ bl bk, g ∉ bl bm) → Blk cK b_p t_p [bk, (.int .i64 b0), (.int .i64 b1), bm, (.bool b2)] → At cK LT_x L_p p_x ([.int .i64 x.tok.kind, .int .i64 x.tok.letter, .int .i64 x.tok.low, .int .i64 x.tok.high, (.slice j6 hC.length j7)]) → Blk cK a3 86 [(.int .i64 0), (.int .i64 0), (.bool false)] → a3 ∉ bl bk → a3 ∉ bl bm → xY lj cK := by
   intro lj cK bk bm fl E mo cg bM b3 ci bE bN bg j8 jK dc aH ay
   refine xZ _ _ (Znx fl ?_)
   have lm := E
   have mS := lm.size
   obtain ⟨bq, br, rfl, ha, cx⟩ := cg.opn
   have cy : Lo L_p (.slice bq ((a ++ [x.tok.letter])).length br) := fun g hm => by have c4 := cx _ hm; rcases bM _ hm with bY | bY; (omega); (rcases List.mem_cons.1 bY with bY | bY; (exact absurd (bY ▸ hm) b3); (replace hm := bY; rcases List.mem_append.1 hm with hm | hm; (have cw := c _ hm; have c5 := m _ hm; omega); (have cw := e _ hm; have c5 := o _ hm; omega)))
   obtain ⟨bO, bP, rfl, hc, cN⟩ := ci.opn
   have cz : Lo L_p (.slice bO (b).length bP) := fun g hm => by have c4 := cN _ hm; rcases bE _ hm with bY | bY; (omega); (rcases List.mem_cons.1 bY with bY | bY; (exact absurd (bY ▸ hm) bN); (replace hm := bY; rcases List.mem_append.1 hm with hm | hm; (have cw := c _ hm; have c5 := m _ hm; omega); (have cw := e _ hm; have c5 := o _ hm; omega)))
   refine Zg fun zo x0 => ?_
   refine Zc (Za rfl rfl (Zd rfl) (Za rfl rfl (Zd rfl) (Za rfl rfl (Yf rfl) (Za rfl rfl (Zh fa48_3 rfl) (Za rfl rfl (Zk j8.at_ agg30 rfl rfl) (Zm rfl rfl ?_))))))
   refine Ym (cs := ics) (parts := [(0, .const (Go.Value.int Go.IntKind.i64 0))]) (0 : Int) [0] el30 sz3 zr3 Xg (by decide) rfl rfl rfl (by decide) (by decide) rfl fun x1 zp ln u8 k9 => ?_
   have x2 := k9.size
   have E := E.trans k9.of_nil
   obtain ⟨u9, va, rfl, vb, mT⟩ := ln.opn
   refine Zm rfl rfl ?_
   have x3 := ci.ch0 k9
   refine Xn (cs := ics) el30 sz3 by3 zr3 rfl (by decide) Zco x3 ln.ls rfl rfl bd bd cz om fun x4 zr lo vc fm lp => ?_
   have x5 := lp.size
   have E := E.step lp (fun i hm => by exact bE _ hm)
   obtain ⟨hd, he, rfl, vd, dy⟩ := lo.opn
   refine Za rfl rfl (Yf rfl) (Za rfl rfl (Zh fa48_3 rfl) (Zm rfl rfl ?_))
   have x6 := (j8.ch0 k9).ch lp bN
   refine Xm (off := 3) x6 sz30 rfl rfl rfl rfl fun x7 hF lq => ?_
   have x8 := lq.size
   have E := E.step lq (fun i hm => by have I := mSg.1 hm; right; exact I ▸ List.mem_cons_self ..)
   replace hF : Blk x7 b_p t_p [(.slice bq ((a ++ [x.tok.letter])).length br), (.int .i64 b0), (.int .i64 b1), (.slice hd ((b ++ [0])).length he), (.bool b2)] := hF
   refine Ze (Zb (x0 _ _ ?_))
   refine Zg fun zs x9 => ?_
   refine Zc (Za rfl rfl (Zd rfl) (Za rfl rfl (Zd rfl) (Za rfl rfl (Yn (parts := [(0, .tmp 51), (1, .tmp 52)]) (cells := [(.int .i64 (ishl 1 ((a.length : Nat) : Int))), (.int .i64 (ishl 1 ((a.length : Nat) : Int))), (.bool false)]) zr86 pl86 rfl rfl) (Zm rfl rfl ?_))))
   have ya := ((dc.ch0 k9).ch lp ay).ch lq (ne1 om)
   refine Zn (off := 0) 3 ya sz86 rfl (us := [(.int .i64 (ishl 1 ((a.length : Nat) : Int))), (.int .i64 (ishl 1 ((a.length : Nat) : Int))), (.bool false)]) rfl rfl rfl rfl fun mp hG lr => ?_
   have yb := lr.size
   have E := E.step lr (Xa om)
   replace hG : Blk mp a3 86 [(.int .i64 (ishl 1 ((a.length : Nat) : Int))), (.int .i64 (ishl 1 ((a.length : Nat) : Int))), (.bool false)] := hG
   refine Ze (Zb (x9 _ _ ?_))
   refine Zq (Yd (Zo ?_))
   have yc := hF.ch lr (ne1 om)
   have yd := (((cg.ch0 k9).ch lp (fun g hg hm => by exact bg _ hg hm)).ch lq (fun g hg hm => by have I := mSg.1 hm; exact b3 (by first | exact hg | exact I ▸ hg))).ch lr (fun g hg hm => by have I := mSg.1 hm; exact aH (by first | exact hg | exact I ▸ hg))
   have lu : Ol ics 3 1 mp (.slice bq ((a ++ [x.tok.letter])).length br) ((bpT x a b).L) := by
    have hx := yd
    exact hx.eq (by rw [eb] <;> first | rfl | (rw [hte]; done))
   have ye := (lo.ch lq (fun g hg hm => by have I := mSg.1 hm; rcases fm with ea | ea; (rw [ea] at hg; exact bN (by first | exact hg | exact I ▸ hg)); (have jr := dy _ hg; rw [ea] at hg; have bY := mSg.1 hg; omega))).ch lr (fun g hg hm => by have I := mSg.1 hm; rcases fm with ea | ea; (rw [ea] at hg; exact ay (by first | exact hg | exact I ▸ hg)); (have jr := dy _ hg; rw [ea] at hg; have bY := mSg.1 hg; omega))
   have lv : Ol ics 3 1 mp (.slice hd ((b ++ [0])).length he) ((bpT x a b).F) := by
    have hx := ye
    exact hx.eq (by rw [eb] <;> first | rfl | (rw [hte]; done))
   have lw : Blk mp b_p t_p [(.slice bq ((a ++ [x.tok.letter])).length br), .int .i64 b0, .int .i64 b1, (.slice hd ((b ++ [0])).length he), .bool b2] := by
    have hx := yc
    exact hx
   exact Zi [_] (Zt hG rfl agg86 sz86 trivial) ⟨(.slice bq ((a ++ [x.tok.letter])).length br), (.slice hd ((b ++ [0])).length he), (((congrArg (fun zq => (Value.agg #[.int .i64 zq, .int .i64 (ishl 1 ((a.length : Nat) : Int)), .bool false])) (by rw [eb] <;> first | rfl | (rw [hte]; done))).trans (congrArg (fun zq => (Value.agg #[.int .i64 ((bpT x a b).f), .int .i64 zq, .bool false])) (by rw [eb] <;> first | rfl | (rw [hte]; done)))).trans (congrArg (fun zq => (Value.agg #[.int .i64 ((bpT x a b).f), .int .i64 ((bpT x a b).l), .bool zq])) (by rw [eb] <;> first | rfl | (rw [hte]; done)))), lw, lu, (fun g hm => by exact bM _ hm), b3, lv, (fun g hm => by rcases fm with ea | ea; (rw [ea] at hm; exact bE _ hm); (have c4 := dy _ hm; rw [ea] at hm; have bY := mSg.1 hm; left; omega)), (fun hm => by rcases fm with ea | ea; (rw [ea] at hm; exact bN (by first | exact hm | exact I ▸ hm)); (have c4 := dy _ hm; rw [ea] at hm; have bY := mSg.1 hm; omega)), (fun g hm hg => by rcases fm with ea | ea; (rw [ea] at hg; exact bg _ hm hg); (have jr := dy _ hg; rw [ea] at hg; have bY := mSg.1 hg; have cw := cy _ hm; have c5 := cx _ hm; omega)), E⟩
  refine Xb ((bl (.slice bi a.length bj)) ++ [b_p]) 15 mixed rfl fun ve hH => ?_
  have yf := hH.size
  have E := E.trans hH.of_nil
  refine dV 0 rfl rfl rfl (fun _ => Zd rfl) (dV 1 rfl rfl rfl (fun _ => Zd rfl) (dV 2 rfl rfl rfl (fun _ => Yf rfl) (dV 3 rfl rfl rfl (fun _ => Zh fa48_0 rfl) (dV 5 rfl rfl rfl (fun _ => Zd rfl) (dV 6 rfl rfl rfl (fun _ => Yf rfl) (dV 7 rfl rfl rfl (fun _ => Zh fa131_0 rfl) (dV 8 rfl rfl rfl (fun _ => Qo (n := 1) fa84_1 rfl rfl) ?_)))))))
  have mU := F5.ch0 hH
  refine dT 9 rfl rfl rfl (Xh mU (fun i hm => by rcases List.mem_append.1 hm with hm | hm; (have cw := c _ hm; have c5 := m _ hm; omega); (have cw := mSg.1 hm; omega)) agg3 rfl rfl ?_)
  refine Zat 4 10 (by kernel_rfl) ?_ ?_
  ·refine Zz rfl rfl rfl ?_
   have vf := mR.ch0 hH
   refine s_v (Zk vf.at_ agg30 rfl rfl) ?_
   refine ⟨(Ch.refl _ _), ?_⟩
   refine dO 10 (Zz rfl rfl rfl ?_)
   refine Ym (cs := ics) (parts := [(0, .tmp 37)]) (0 : Int) [x.tok.letter] el30 sz3 zr3 Xg (by decide) rfl rfl rfl (by decide) (by decide) rfl fun mV yg hI lx jL => ?_
   have yh := jL.size
   have E := E.trans jL.of_nil
   obtain ⟨ly, lz, rfl, lA, j9⟩ := hI.opn
   have jM : Ch ((bl (.slice bi a.length bj)) ++ [b_p]) ve yg := ((Ch.refl _ _).trans jL.of_nil)
   refine ⟨jM, ?_⟩
   refine dO 11 (Zz rfl rfl rfl ?_)
   have yi := ((b8.ch0 C2).ch0 hH).ch0 jL
   refine Xn (cs := ics) el30 sz3 by3 zr3 rfl (by decide) Zco yi hI.ls rfl rfl bd bd c om fun mW zt hJ lB cO ka => ?_
   have yj := ka.size
   have E := E.step ka (fun i hm => by exact (.inr (mCo _ (mAL _ hm))))
   obtain ⟨hK, hL, rfl, lC, cl⟩ := hJ.opn
   have jN := jM.step ka (fun i hm => by exact .inr (mAL _ hm))
   refine ⟨jN, ?_⟩
   refine dV 12 rfl rfl rfl (fun _ => Yf rfl) (dV 13 rfl rfl rfl (fun _ => Zh fa48_0 rfl) (dO 14 (Zz rfl rfl rfl ?_)))
   have yk := (vf.ch0 jL).ch ka bh
   refine Xm (off := 0) yk sz30 rfl rfl rfl rfl fun ym hM kb => ?_
   have yn := kb.size
   have E := E.step kb (fun i hm => by have I := mSg.1 hm; right; exact I ▸ List.mem_cons_self ..)
   replace hM : Blk ym b_p t_p [(.slice hK ((a ++ [x.tok.letter])).length hL), (.int .i64 b0), (.int .i64 b1), (.slice bn b.length bp), (.bool b2)] := hM
   have lD := jN.step kb (fun i hm => by have I := mSg.1 hm; exact .inr (by rw [I]; exact (mAR _ (mSg.2 rfl))))
   refine ⟨lD, ?_⟩
   refine Yc (by kernel_rfl) ?_
   refine Zb ?_
   have yo := hJ.ch kb (fun g hg hm => by have I := mSg.1 hm; rcases cO with ea | ea; (rw [ea] at hg; exact bh (by first | exact hg | exact I ▸ hg)); (have jr := cl _ hg; rw [ea] at hg; have bY := mSg.1 hg; omega))
   have yp := ((((b9.ch0 C2).ch0 hH).ch0 jL).ch ka (fun g hg hm => by exact aR _ hm hg)).ch kb (fun g hg hm => by have I := mSg.1 hm; exact bs (by first | exact hg | exact I ▸ hg))
   have yq := ((mU.ch0 jL).ch ka (fun i hi => by have cw := c _ hi; omega)).ch kb (Qm om)
   have yr := (((c1.ch0 hH).ch0 jL).ch ka (Zs c m om)).ch kb (ne1 om)
   exact jJ _ _ _ _ (sC4 rfl rfl rfl rfl (sC1 rfl (Sub.nil _))) E om yo (fun g hm => by rcases cO with ea | ea; (rw [ea] at hm; exact (.inr (mCo _ (mAL _ hm)))); (have c4 := cl _ hm; rw [ea] at hm; have bY := mSg.1 hm; left; omega)) (fun hm => by rcases cO with ea | ea; (rw [ea] at hm; exact bh (by first | exact hm | exact I ▸ hm)); (have c4 := cl _ hm; rw [ea] at hm; have bY := mSg.1 hm; omega)) yp (fun g hm => by exact (.inr (mCo _ (mAR _ hm)))) bs (fun g hm hg => by rcases cO with ea | ea; (rw [ea] at hm; exact aR _ hm hg); (have c4 := cl _ hm; rw [ea] at hm; have bY := mSg.1 hm; have ys := e _ hg; have yt := o _ hg; omega)) hM yq yr (fun hm => by rcases cO with ea | ea; (rw [ea] at hm; have cw := c _ hm; have c5 := m _ hm; omega); (have c4 := cl _ hm; rw [ea] at hm; have bY := mSg.1 hm; omega)) (Zs e o om)
  refine Zz rfl rfl rfl ?_
  refine Ym (cs := ics) (parts := [(0, .tmp 37)]) (0 : Int) [x.tok.letter] el30 sz3 zr3 Xg (by decide) rfl rfl rfl (by decide) (by decide) rfl fun mV yu hI lx jO => ?_
  have yv := jO.size
  have E := E.trans jO.of_nil
  obtain ⟨ly, lz, rfl, lA, j9⟩ := hI.opn
  have hN : Ch ((bl (.slice bi a.length bj)) ++ [b_p]) ve yu := ((Ch.refl _ _).trans jO.of_nil)
  refine ⟨hN, ?_⟩
  refine dO 4 (Zz rfl rfl rfl ?_)
  have vg := (mR.ch0 hH).ch0 jO
  refine s_v (Zk vg.at_ agg30 rfl rfl) ?_
  refine ⟨hN, ?_⟩
  refine dO 11 (Zz rfl rfl rfl ?_)
  have yw := ((b8.ch0 C2).ch0 hH).ch0 jO
  refine Xn (cs := ics) el30 sz3 by3 zr3 rfl (by decide) Zco yw hI.ls rfl rfl bd bd c om fun mW zu hJ lB cO kc => ?_
  have yx := kc.size
  have E := E.step kc (fun i hm => by exact (.inr (mCo _ (mAL _ hm))))
  obtain ⟨hK, hL, rfl, lC, cl⟩ := hJ.opn
  have jP := hN.step kc (fun i hm => by exact .inr (mAL _ hm))
  refine ⟨jP, ?_⟩
  refine dV 12 rfl rfl rfl (fun _ => Yf rfl) (dV 13 rfl rfl rfl (fun _ => Zh fa48_0 rfl) (dO 14 (Zz rfl rfl rfl ?_)))
  have yy := vg.ch kc bh
  refine Xm (off := 0) yy sz30 rfl rfl rfl rfl fun yz hO kd => ?_
  have yA := kd.size
  have E := E.step kd (fun i hm => by have I := mSg.1 hm; right; exact I ▸ List.mem_cons_self ..)
  replace hO : Blk yz b_p t_p [(.slice hK ((a ++ [x.tok.letter])).length hL), (.int .i64 b0), (.int .i64 b1), (.slice bn b.length bp), (.bool b2)] := hO
  have lE := jP.step kd (fun i hm => by have I := mSg.1 hm; exact .inr (by rw [I]; exact (mAR _ (mSg.2 rfl))))
  refine ⟨lE, ?_⟩
  refine Yc (by kernel_rfl) ?_
  refine Zb ?_
  have yB := hJ.ch kd (fun g hg hm => by have I := mSg.1 hm; rcases cO with ea | ea; (rw [ea] at hg; exact bh (by first | exact hg | exact I ▸ hg)); (have jr := cl _ hg; rw [ea] at hg; have bY := mSg.1 hg; omega))
  have yC := ((((b9.ch0 C2).ch0 hH).ch0 jO).ch kc (fun g hg hm => by exact aR _ hm hg)).ch kd (fun g hg hm => by have I := mSg.1 hm; exact bs (by first | exact hg | exact I ▸ hg))
  have yD := ((mU.ch0 jO).ch kc (fun i hi => by have cw := c _ hi; omega)).ch kd (Qm om)
  have yE := (((c1.ch0 hH).ch0 jO).ch kc (Zs c m om)).ch kd (ne1 om)
  exact jJ _ _ _ _ (sC4 rfl rfl rfl rfl (sC1 rfl (Sub.nil _))) E om yB (fun g hm => by rcases cO with ea | ea; (rw [ea] at hm; exact (.inr (mCo _ (mAL _ hm)))); (have c4 := cl _ hm; rw [ea] at hm; have bY := mSg.1 hm; left; omega)) (fun hm => by rcases cO with ea | ea; (rw [ea] at hm; exact bh (by first | exact hm | exact I ▸ hm)); (have c4 := cl _ hm; rw [ea] at hm; have bY := mSg.1 hm; omega)) yC (fun g hm => by exact (.inr (mCo _ (mAR _ hm)))) bs (fun g hm hg => by rcases cO with ea | ea; (rw [ea] at hm; exact aR _ hm hg); (have c4 := cl _ hm; rw [ea] at hm; have bY := mSg.1 hm; have ys := e _ hg; have yt := o _ hg; omega)) hO yD yE (fun hm => by rcases cO with ea | ea; (rw [ea] at hm; have cw := c _ hm; have c5 := m _ hm; omega); (have c4 := cl _ hm; rw [ea] at hm; have bY := mSg.1 hm; omega)) (Zs e o om)
 have mQ := fG
 have fG := Yj fG
 refine Zg fun zv yF => ?_
 refine Zc (Za rfl rfl (Yy rfl rfl) (Za rfl rfl (Zf rfl) (Ze (Zb (yF _ _ ?_)))))
 refine Zp rfl (fun fH => ?_) (fun fH => ?_)
 ·have mX := fH
  have fH := Yi fH
  obtain ⟨ta, tb, dz, fI, oa, ob, sab, ga, gb⟩ := hok.kk2 om
  have za := Zbq ta a b
  have zb := Zbq tb (bpT ta a b).L (bpT ta a b).F
  have eb := bp5 (L := a) (F := b) hok om dz fI
  refine Zg fun yG yH => ?_
  have cL : ∀ (lj : KL) (bZ : World) (bk : Value) (bm : Value) (jQ : Nat) (jR : Nat), Go.KLib.Sub [(0, (.pointer (some ⟨b_p, 0, none⟩))), (1, (.pointer (some p_x))), (4, (.pointer (some ⟨a3, 0, none⟩))), (6, (.pointer (some ⟨jQ, 0, none⟩))), (7, (.pointer (some ⟨jR, 0, none⟩))), (16, (.int .i64 x.tok.kind))] lj → Ch (b_p :: (bl (.slice bi a.length bj) ++ bl (.slice bn b.length bp))) w bZ → W2.heap.size ≤ bZ.heap.size → Ol ics 3 1 bZ bk ((bpT tb ((bpT ta a b).L) ((bpT ta a b).F)).L) → (∀ g ∈ bl bk, w.heap.size ≤ g ∨ g ∈ (b_p :: (bl (.slice bi a.length bj) ++ bl (.slice bn b.length bp)))) → b_p ∉ bl bk → Ol ics 3 1 bZ bm ((bpT tb ((bpT ta a b).L) ((bpT ta a b).F)).F) → (∀ g ∈ bl bm, w.heap.size ≤ g ∨ g ∈ (b_p :: (bl (.slice bi a.length bj) ++ bl (.slice bn b.length bp)))) → b_p ∉ bl bm → (∀ g ∈ bl bk, g ∉ bl bm) → Blk bZ b_p t_p [bk, (.int .i64 b0), (.int .i64 b1), bm, (.bool b2)] → Blk bZ jQ 86 [(.int .i64 ((bpT ta a b).f)), (.int .i64 ((bpT ta a b).l)), (.bool ((bpT ta a b).n))] → W2.heap.size ≤ jQ → jQ < bZ.heap.size → jQ ∉ bl bk → jQ ∉ bl bm → Blk bZ jR 86 [(.int .i64 ((bpT tb ((bpT ta a b).L) ((bpT ta a b).F)).f)), (.int .i64 ((bpT tb ((bpT ta a b).L) ((bpT ta a b).F)).l)), (.bool ((bpT tb ((bpT ta a b).L) ((bpT ta a b).F)).n))] → W2.heap.size ≤ jR → jR < bZ.heap.size → jR ∉ bl bk → jR ∉ bl bm → jR ≠ jQ → At bZ LT_x L_p p_x ([.int .i64 x.tok.kind, .int .i64 x.tok.letter, .int .i64 x.tok.low, .int .i64 x.tok.high, (.slice j6 hC.length j7)]) → Blk bZ a3 86 [(.int .i64 0), (.int .i64 0), (.bool false)] → a3 ∉ bl bk → a3 ∉ bl bm → yG lj bZ := by
   intro lj bZ bk bm jQ jR fl E mq cg bM b3 ci bE bN bg j8 hP vh vi jS jT hQ vj vk jU jV mr jK dc aH ay
   refine yH _ _ (Znx fl ?_)
   have lF := E
   have mY := lF.size
   obtain ⟨bq, br, rfl, ha, cx⟩ := cg.opn
   have cy : Lo L_p (.slice bq ((bpT tb ((bpT ta a b).L) ((bpT ta a b).F)).L).length br) := fun g hm => by have c4 := cx _ hm; rcases bM _ hm with bY | bY; (omega); (rcases List.mem_cons.1 bY with bY | bY; (exact absurd (bY ▸ hm) b3); (replace hm := bY; rcases List.mem_append.1 hm with hm | hm; (have cw := c _ hm; have c5 := m _ hm; omega); (have cw := e _ hm; have c5 := o _ hm; omega)))
   obtain ⟨bO, bP, rfl, hc, cN⟩ := ci.opn
   have cz : Lo L_p (.slice bO ((bpT tb ((bpT ta a b).L) ((bpT ta a b).F)).F).length bP) := fun g hm => by have c4 := cN _ hm; rcases bE _ hm with bY | bY; (omega); (rcases List.mem_cons.1 bY with bY | bY; (exact absurd (bY ▸ hm) bN); (replace hm := bY; rcases List.mem_append.1 hm with hm | hm; (have cw := c _ hm; have c5 := m _ hm; omega); (have cw := e _ hm; have c5 := o _ hm; omega)))
   refine Zg fun zw vl => ?_
   refine Zc (Za rfl rfl (Zh fa86_0 rfl) (Za rfl rfl (Zk hP.at_ agg3 rfl rfl) (Za rfl rfl (Zh fa86_0 rfl) (Za rfl rfl (Zk hQ.at_ agg3 rfl rfl) (Za rfl rfl (r_or rfl rfl) (Za rfl rfl (Zh fa86_1 rfl) (Za rfl rfl (Zk hP.at_ agg3 rfl rfl) ?_)))))))
   refine Za rfl rfl (Zh fa86_1 rfl) (Za rfl rfl (Zk hQ.at_ agg3 rfl rfl) (Za rfl rfl (r_or rfl rfl) (Za rfl rfl (Zh fa86_2 rfl) (Za rfl rfl (Zk hP.at_ agg4 rfl rfl) (Za rfl rfl (Zd rfl) ?_)))))
   refine Yp (d := 84) rfl (fun aW => ?_) (fun aW => ?_)
   ·have mZ := aW
    refine Zj rfl rfl (Zj rfl rfl (Za rfl rfl (Ya rfl rfl) (Za rfl rfl (Yn (parts := [(0, .tmp 76), (1, .tmp 81), (2, .tmp 87)]) (cells := [(.int .i64 (ior ((bpT ta a b).f) ((bpT tb ((bpT ta a b).L) ((bpT ta a b).F)).f))), (.int .i64 (ior ((bpT ta a b).l) ((bpT tb ((bpT ta a b).L) ((bpT ta a b).F)).l))), (.bool true)]) zr86 pl86 rfl rfl) (Zm rfl rfl ?_))))
    refine Zn (off := 0) 3 dc sz86 rfl (us := [(.int .i64 (ior ((bpT ta a b).f) ((bpT tb ((bpT ta a b).L) ((bpT ta a b).F)).f))), (.int .i64 (ior ((bpT ta a b).l) ((bpT tb ((bpT ta a b).L) ((bpT ta a b).F)).l))), (.bool true)]) rfl rfl rfl rfl fun ms hR lG => ?_
    have yI := lG.size
    have E := E.step lG (Xa om)
    replace hR : Blk ms a3 86 [(.int .i64 (ior ((bpT ta a b).f) ((bpT tb ((bpT ta a b).L) ((bpT ta a b).F)).f))), (.int .i64 (ior ((bpT ta a b).l) ((bpT tb ((bpT ta a b).L) ((bpT ta a b).F)).l))), (.bool true)] := hR
    refine Ze (Zb (vl _ _ ?_))
    refine Zq (Yd (Zo ?_))
    have yJ := j8.ch lG (ne1 om)
    have yK := cg.ch lG (fun g hg hm => by have I := mSg.1 hm; exact aH (by first | exact hg | exact I ▸ hg))
    have lH : Ol ics 3 1 ms (.slice bq ((bpT tb ((bpT ta a b).L) ((bpT ta a b).F)).L).length br) ((bpT x a b).L) := by
     have hx := yK
     exact hx.eq (by rw [eb] <;> first | rfl | exact rbA aW | exact rbB aW | exact rbC aW | exact rbD aW | exact rbE aW | (rw [aW]; simp; done) | (rw [hte]; done))
    have yL := ci.ch lG (fun g hg hm => by have I := mSg.1 hm; exact ay (by first | exact hg | exact I ▸ hg))
    have lI : Ol ics 3 1 ms (.slice bO ((bpT tb ((bpT ta a b).L) ((bpT ta a b).F)).F).length bP) ((bpT x a b).F) := by
     have hx := yL
     exact hx.eq (by rw [eb] <;> first | rfl | exact rbA aW | exact rbB aW | exact rbC aW | exact rbD aW | exact rbE aW | (rw [aW]; simp; done) | (rw [hte]; done))
    have lJ : Blk ms b_p t_p [(.slice bq ((bpT tb ((bpT ta a b).L) ((bpT ta a b).F)).L).length br), .int .i64 b0, .int .i64 b1, (.slice bO ((bpT tb ((bpT ta a b).L) ((bpT ta a b).F)).F).length bP), .bool b2] := by
     have hx := yJ
     exact hx
    exact Zi [_] (Zt hR rfl agg86 sz86 trivial) ⟨(.slice bq ((bpT tb ((bpT ta a b).L) ((bpT ta a b).F)).L).length br), (.slice bO ((bpT tb ((bpT ta a b).L) ((bpT ta a b).F)).F).length bP), (((congrArg (fun zq => (Value.agg #[.int .i64 zq, .int .i64 (ior ((bpT ta a b).l) ((bpT tb ((bpT ta a b).L) ((bpT ta a b).F)).l)), .bool true])) (by rw [eb] <;> first | rfl | exact rbA aW | exact rbB aW | exact rbC aW | exact rbD aW | exact rbE aW | (rw [aW]; simp; done) | (rw [hte]; done))).trans (congrArg (fun zq => (Value.agg #[.int .i64 ((bpT x a b).f), .int .i64 zq, .bool true])) (by rw [eb] <;> first | rfl | exact rbA aW | exact rbB aW | exact rbC aW | exact rbD aW | exact rbE aW | (rw [aW]; simp; done) | (rw [hte]; done)))).trans (congrArg (fun zq => (Value.agg #[.int .i64 ((bpT x a b).f), .int .i64 ((bpT x a b).l), .bool zq])) (by rw [eb] <;> first | rfl | exact rbA aW | exact rbB aW | exact rbC aW | exact rbD aW | exact rbE aW | (rw [aW]; simp; done) | (rw [hte]; done)))), lJ, lH, (fun g hm => by exact bM _ hm), b3, lI, (fun g hm => by exact bE _ hm), bN, bg, E⟩
   have mZ := aW
   refine Za rfl rfl (Zh fa86_2 rfl) (Za rfl rfl (Zk hQ.at_ agg4 rfl rfl) (Za rfl rfl (Yb rfl rfl) (Za rfl rfl (Yn (parts := [(0, .tmp 76), (1, .tmp 81), (2, .tmp 87)]) (cells := [(.int .i64 (ior ((bpT ta a b).f) ((bpT tb ((bpT ta a b).L) ((bpT ta a b).F)).f))), (.int .i64 (ior ((bpT ta a b).l) ((bpT tb ((bpT ta a b).L) ((bpT ta a b).F)).l))), (.bool ((bpT tb ((bpT ta a b).L) ((bpT ta a b).F)).n))]) zr86 pl86 rfl rfl) (Zm rfl rfl ?_))))
   refine Zn (off := 0) 3 dc sz86 rfl (us := [(.int .i64 (ior ((bpT ta a b).f) ((bpT tb ((bpT ta a b).L) ((bpT ta a b).F)).f))), (.int .i64 (ior ((bpT ta a b).l) ((bpT tb ((bpT ta a b).L) ((bpT ta a b).F)).l))), (.bool ((bpT tb ((bpT ta a b).L) ((bpT ta a b).F)).n))]) rfl rfl rfl rfl fun mt hS lK => ?_
   have yM := lK.size
   have E := E.step lK (Xa om)
   replace hS : Blk mt a3 86 [(.int .i64 (ior ((bpT ta a b).f) ((bpT tb ((bpT ta a b).L) ((bpT ta a b).F)).f))), (.int .i64 (ior ((bpT ta a b).l) ((bpT tb ((bpT ta a b).L) ((bpT ta a b).F)).l))), (.bool ((bpT tb ((bpT ta a b).L) ((bpT ta a b).F)).n))] := hS
   refine Ze (Zb (vl _ _ ?_))
   refine Zq (Yd (Zo ?_))
   have yN := j8.ch lK (ne1 om)
   have yO := cg.ch lK (fun g hg hm => by have I := mSg.1 hm; exact aH (by first | exact hg | exact I ▸ hg))
   have lL : Ol ics 3 1 mt (.slice bq ((bpT tb ((bpT ta a b).L) ((bpT ta a b).F)).L).length br) ((bpT x a b).L) := by
    have hx := yO
    exact hx.eq (by rw [eb] <;> first | rfl | exact rbA aW | exact rbB aW | exact rbC aW | exact rbD aW | exact rbE aW | (rw [aW]; simp; done) | (rw [hte]; done))
   have yP := ci.ch lK (fun g hg hm => by have I := mSg.1 hm; exact ay (by first | exact hg | exact I ▸ hg))
   have lM : Ol ics 3 1 mt (.slice bO ((bpT tb ((bpT ta a b).L) ((bpT ta a b).F)).F).length bP) ((bpT x a b).F) := by
    have hx := yP
    exact hx.eq (by rw [eb] <;> first | rfl | exact rbA aW | exact rbB aW | exact rbC aW | exact rbD aW | exact rbE aW | (rw [aW]; simp; done) | (rw [hte]; done))
   have lN : Blk mt b_p t_p [(.slice bq ((bpT tb ((bpT ta a b).L) ((bpT ta a b).F)).L).length br), .int .i64 b0, .int .i64 b1, (.slice bO ((bpT tb ((bpT ta a b).L) ((bpT ta a b).F)).F).length bP), .bool b2] := by
    have hx := yN
    exact hx
   exact Zi [_] (Zt hS rfl agg86 sz86 trivial) ⟨(.slice bq ((bpT tb ((bpT ta a b).L) ((bpT ta a b).F)).L).length br), (.slice bO ((bpT tb ((bpT ta a b).L) ((bpT ta a b).F)).F).length bP), (((congrArg (fun zq => (Value.agg #[.int .i64 zq, .int .i64 (ior ((bpT ta a b).l) ((bpT tb ((bpT ta a b).L) ((bpT ta a b).F)).l)), .bool ((bpT tb ((bpT ta a b).L) ((bpT ta a b).F)).n)])) (by rw [eb] <;> first | rfl | exact rbA aW | exact rbB aW | exact rbC aW | exact rbD aW | exact rbE aW | (rw [aW]; simp; done) | (rw [hte]; done))).trans (congrArg (fun zq => (Value.agg #[.int .i64 ((bpT x a b).f), .int .i64 zq, .bool ((bpT tb ((bpT ta a b).L) ((bpT ta a b).F)).n)])) (by rw [eb] <;> first | rfl | exact rbA aW | exact rbB aW | exact rbC aW | exact rbD aW | exact rbE aW | (rw [aW]; simp; done) | (rw [hte]; done)))).trans (congrArg (fun zq => (Value.agg #[.int .i64 ((bpT x a b).f), .int .i64 ((bpT x a b).l), .bool zq])) (by rw [eb] <;> first | rfl | exact rbA aW | exact rbB aW | exact rbC aW | exact rbD aW | exact rbE aW | (rw [aW]; simp; done) | (rw [hte]; done)))), lN, lL, (fun g hm => by exact bM _ hm), b3, lM, (fun g hm => by exact bE _ hm), bN, bg, E⟩
  refine Xb ([b_p] ++ (bl (.slice bi a.length bj)) ++ (bl (.slice bn b.length bp))) 20 mixed rfl fun lO c2 => ?_
  have yQ := c2.size
  have E := E.trans c2.of_nil
  refine dV 0 rfl rfl rfl (fun _ => Zd rfl) (dV 1 rfl rfl rfl (fun _ => Zd rfl) (dV 2 rfl rfl rfl (fun _ => Yf rfl) (dV 3 rfl rfl rfl (fun _ => Zh fa131_1 rfl) ?_)))
  have hf := F5.ch0 c2
  refine dT 4 rfl rfl rfl (Xh hf (fun i hm => by rcases List.mem_append.1 hm with hm | hm; (rcases List.mem_append.1 hm with hm | hm; (have cw := mSg.1 hm; omega); (have cw := c _ hm; have c5 := m _ hm; omega)); (have cw := e _ hm; have c5 := o _ hm; omega)) agg129 rfl rfl ?_)
  have vm := (hD.ch0 C2).ch0 c2
  have vn := (g9.ch0 C2).ch0 c2
  refine dT 5 rfl rfl rfl (Xo (j := 0) vm Zao el129 sz88 rfl rfl rfl om fun m0 m1 lP ke => ?_)
  have yR := dz
  have d0 := vn.2 _ _ _ lP dz
  obtain ⟨vo, vp, m2, m3, m4, kf⟩ := d0.open
  have m5 := kf.1
  replace ke : At lO LT_x L_p m0 ([(.pointer (some m1))]) := ke
  refine dT 6 rfl rfl rfl (Yx ke (fun i hm => by rcases List.mem_append.1 hm with hm | hm; (rcases List.mem_append.1 hm with hm | hm; (have cw := mSg.1 hm; omega); (have cw := c _ hm; have c5 := m _ hm; omega)); (have cw := e _ hm; have c5 := o _ hm; omega)) agg88 rfl rfl ?_)
  refine dV 8 rfl rfl rfl (fun _ => Zd rfl) (dV 9 rfl rfl rfl (fun _ => Zd rfl) (dV 10 rfl rfl rfl (fun _ => Yf rfl) (dV 11 rfl rfl rfl (fun _ => Zh fa131_1 rfl) ?_)))
  refine dT 12 rfl rfl rfl (Xh hf (fun i hm => by rcases List.mem_append.1 hm with hm | hm; (rcases List.mem_append.1 hm with hm | hm; (have cw := mSg.1 hm; omega); (have cw := c _ hm; have c5 := m _ hm; omega)); (have cw := e _ hm; have c5 := o _ hm; omega)) agg129 rfl rfl ?_)
  refine dT 13 rfl rfl rfl (Xo (j := 1) vm Zao el129 sz88 rfl rfl rfl om fun m6 m7 lQ kg => ?_)
  have yS := fI
  have cM := vn.2 _ _ _ lQ fI
  obtain ⟨vq, vr, m8, m9, na, kh⟩ := cM.open
  have nb := kh.1
  replace kg : At lO LT_x L_p m6 ([(.pointer (some m7))]) := kg
  refine dT 14 rfl rfl rfl (Yx kg (fun i hm => by rcases List.mem_append.1 hm with hm | hm; (rcases List.mem_append.1 hm with hm | hm; (have cw := mSg.1 hm; omega); (have cw := c _ hm; have c5 := m _ hm; omega)); (have cw := e _ hm; have c5 := o _ hm; omega)) agg88 rfl rfl ?_)
  refine Zhe 7 16 17 (by kernel_rfl) ?_ ?_ ?_
  ·refine Zz rfl rfl rfl ?_
   have nc := (m_p.ch0 C2).ch0 c2
   have nd := (b8.ch0 C2).ch0 c2
   have nf := (b9.ch0 C2).ch0 c2
   refine Step.call (Zl (xs := [.tmp 56, .tmp 62]) fk65 rfl) (ih nc nd bh (Lo.down c om) nf bs (Lo.down e om) aR d0 om om oa ⟨by omega, by omega⟩ om) fun js lR d3 => ?_
   obtain ⟨d4, d5, rfl, cc, aZ, Q, R, a0, S, T, ad, cA⟩ := d3
   have vs := cA.size
   have E := E.step cA (fun i hm => by rcases List.mem_cons.1 hm with I | hm; (right; exact I ▸ List.mem_cons_self ..); (rcases List.mem_append.1 hm with hm | hm; (exact (.inr (mCo _ (mAL _ hm)))); (exact (.inr (mCo _ (mAR _ hm))))))
   obtain ⟨bQ, bR, rfl, d6, aD⟩ := aZ.opn
   have u : Lo L_p (.slice bQ ((bpT ta a b).L).length bR) := Yz Q R om (Ys c e)
   obtain ⟨bS, bT, rfl, d7, aE⟩ := a0.opn
   have y : Lo L_p (.slice bS ((bpT ta a b).F).length bT) := Yz S T om (Ys c e)
   have K := Zv Q R (show a3 < _ by omega) (Yk (Zs c m om) (Zs e o om))
   have az := Yt E Q R om (Ys (fun g hm => (.inr (mCo _ (mAL _ hm)))) (fun g hm => (.inr (mCo _ (mAR _ hm)))))
   have M := Zv S T (show a3 < _ by omega) (Yk (Zs c m om) (Zs e o om))
   have aA := Yt E S T om (Ys (fun g hm => (.inr (mCo _ (mAL _ hm)))) (fun g hm => (.inr (mCo _ (mAR _ hm)))))
   replace cc : Blk lR b_p t_p [(.slice bQ ((bpT ta a b).L).length bR), (.int .i64 b0), (.int .i64 b1), (.slice bS ((bpT ta a b).F).length bT), (.bool b2)] := cc
   have d8 : Ch ([b_p] ++ (bl (.slice bi a.length bj)) ++ (bl (.slice bn b.length bp))) lO lR := ((Ch.refl _ _).step cA (all3 (.inr (mAL _ (mAL _ (mSg.2 rfl)))) (fun i hm => .inr (mAL _ (mAR _ hm))) (fun i hm => .inr (mAR _ hm))))
   refine ⟨d8, ?_⟩
   refine Zhe 15 16 17 (by kernel_rfl) ?_ ?_ ?_
   ·refine Zz rfl rfl rfl ?_
    have ng := cM.ch cA (Qb om c om e om)
    refine Step.call (Zl (xs := [.tmp 64, .tmp 70]) fk65 rfl) (ih cc aZ R (Lo.down u om) a0 T (Lo.down y om) ad ng om om ob ⟨by omega, by omega⟩ om) fun dN nh cq => ?_
    obtain ⟨cr, ct, rfl, a6, af, D, p, ag, G, q, J, fJ⟩ := cq
    have vt := fJ.size
    have E := E.step fJ (fun i hm => by rcases List.mem_cons.1 hm with I | hm; (right; exact I ▸ List.mem_cons_self ..); (rcases List.mem_append.1 hm with hm | hm; (exact (az _ hm)); (exact (aA _ hm))))
    obtain ⟨aS, aT, rfl, cu, aO⟩ := af.opn
    have ap : Lo L_p (.slice aS ((bpT tb ((bpT ta a b).L) ((bpT ta a b).F)).L).length aT) := Yz D p om (Ys u y)
    obtain ⟨aU, aV, rfl, cv, aP⟩ := ag.opn
    have aq : Lo L_p (.slice aU ((bpT tb ((bpT ta a b).L) ((bpT ta a b).F)).F).length aV) := Yz G q om (Ys u y)
    have aM := Zv D p (show a3 < _ by omega) (Yk K M)
    have a4 := Yt E D p om (Ys (fun g hm => (az _ hm)) (fun g hm => (aA _ hm)))
    have aN := Zv G q (show a3 < _ by omega) (Yk K M)
    have a5 := Yt E G q om (Ys (fun g hm => (az _ hm)) (fun g hm => (aA _ hm)))
    replace a6 : Blk nh b_p t_p [(.slice aS ((bpT tb ((bpT ta a b).L) ((bpT ta a b).F)).L).length aT), (.int .i64 b0), (.int .i64 b1), (.slice aU ((bpT tb ((bpT ta a b).L) ((bpT ta a b).F)).F).length aV), (.bool b2)] := a6
    have fK := d8.step fJ (all3 (.inr (mAL _ (mAL _ (mSg.2 rfl)))) (Xq Q om (.inr (mAL _ (mAL _ (mSg.2 rfl)))) (fun i hm => .inr (mAL _ (mAR _ hm))) (fun i hm => .inr (mAR _ hm))) (Xq S om (.inr (mAL _ (mAL _ (mSg.2 rfl)))) (fun i hm => .inr (mAL _ (mAR _ hm))) (fun i hm => .inr (mAR _ hm))))
    refine ⟨fK, ?_⟩
    refine Zat 16 17 (by kernel_rfl) ?_ ?_
    ·refine Zz rfl rfl rfl ?_
     refine Yh zr86 fun bG ni cm fn jW => ?_
     have vu := fn.size
     have E := E.trans fn.of_nil
     have jX := cm.lt
     replace cm : Blk ni bG 86 [(.int .i64 0), (.int .i64 0), (.bool false)] := cm
     have hT := fK.trans fn.of_nil
     refine ⟨hT, ?_⟩
     refine dO 17 (Zz rfl rfl rfl ?_)
     refine Yh zr86 fun bH nj cn d9 jY => ?_
     have vv := d9.size
     have E := E.trans d9.of_nil
     have jZ := cn.lt
     replace cn : Blk nj bH 86 [(.int .i64 0), (.int .i64 0), (.bool false)] := cn
     have hU := hT.trans d9.of_nil
     refine ⟨hU, ?_⟩
     refine dO 18 (Zz rfl rfl rfl ?_)
     have nk := cm.ch0 d9
     refine Zn (off := 0) 3 nk sz86 rfl (us := [(.int .i64 ((bpT ta a b).f)), (.int .i64 ((bpT ta a b).l)), (.bool ((bpT ta a b).n))]) rfl rfl rfl rfl fun nl fL ec => ?_
     have vw := ec.size
     have E := E.step ec (Xa om)
     replace fL : Blk nl bG 86 [(.int .i64 ((bpT ta a b).f)), (.int .i64 ((bpT ta a b).l)), (.bool ((bpT ta a b).n))] := fL
     have hV := hU.step ec (Xa om)
     refine ⟨hV, ?_⟩
     refine dO 19 (Zz rfl rfl rfl ?_)
     have nm := cn.ch ec (ne1 om)
     refine Zn (off := 0) 3 nm sz86 rfl (us := [(.int .i64 ((bpT tb ((bpT ta a b).L) ((bpT ta a b).F)).f)), (.int .i64 ((bpT tb ((bpT ta a b).L) ((bpT ta a b).F)).l)), (.bool ((bpT tb ((bpT ta a b).L) ((bpT ta a b).F)).n))]) rfl rfl rfl rfl fun nn fM ed => ?_
     have vx := ed.size
     have E := E.step ed (Xa om)
     replace fM : Blk nn bH 86 [(.int .i64 ((bpT tb ((bpT ta a b).L) ((bpT ta a b).F)).f)), (.int .i64 ((bpT tb ((bpT ta a b).L) ((bpT ta a b).F)).l)), (.bool ((bpT tb ((bpT ta a b).L) ((bpT ta a b).F)).n))] := fM
     have ki := hV.step ed (Xa om)
     refine ⟨ki, ?_⟩
     refine Yc (by kernel_rfl) ?_
     refine Zb ?_
     have no := (((af.ch0 fn).ch0 d9).ch ec (dS ap aO om)).ch ed (dS ap aO om)
     have np := (((ag.ch0 fn).ch0 d9).ch ec (dS aq aP om)).ch ed (dS aq aP om)
     have nq := (((a6.ch0 fn).ch0 d9).ch ec (ne1 om)).ch ed (ne1 om)
     have nr := fL.ch ed (ne1 om)
     have ns := (((((hf.ch cA (Qb om c om e om)).ch fJ (Qb om u om y om)).ch0 fn).ch0 d9).ch ec (Qm om)).ch ed (Qm om)
     have nt := ((((((c1.ch0 c2).ch cA (Xd om (Yl m om) (Yl o om))).ch fJ (Xd om K M)).ch0 fn).ch0 d9).ch ec (ne1 om)).ch ed (ne1 om)
     exact cL _ _ _ _ bG bH (sC4 rfl rfl rfl rfl (sC2 rfl rfl (Sub.nil _))) E om no a4 p np a5 q J nq nr om om (Zs ap aO om) (Zs aq aP om) fM om om (Zs ap aO om) (Zs aq aP om) om ns nt aM aN
    refine Zz rfl rfl rfl ?_
    refine Yh zr86 fun bH nu cn fo jY => ?_
    have vy := fo.size
    have E := E.trans fo.of_nil
    have jZ := cn.lt
    replace cn : Blk nu bH 86 [(.int .i64 0), (.int .i64 0), (.bool false)] := cn
    have hW := fK.trans fo.of_nil
    refine ⟨hW, ?_⟩
    refine dO 16 (Zz rfl rfl rfl ?_)
    refine Yh zr86 fun bG nv cm ee jW => ?_
    have vz := ee.size
    have E := E.trans ee.of_nil
    have jX := cm.lt
    replace cm : Blk nv bG 86 [(.int .i64 0), (.int .i64 0), (.bool false)] := cm
    have hX := hW.trans ee.of_nil
    refine ⟨hX, ?_⟩
    refine dO 18 (Zz rfl rfl rfl ?_)
    refine Zn (off := 0) 3 cm sz86 rfl (us := [(.int .i64 ((bpT ta a b).f)), (.int .i64 ((bpT ta a b).l)), (.bool ((bpT ta a b).n))]) rfl rfl rfl rfl fun nw fN ef => ?_
    have vA := ef.size
    have E := E.step ef (Xa om)
    replace fN : Blk nw bG 86 [(.int .i64 ((bpT ta a b).f)), (.int .i64 ((bpT ta a b).l)), (.bool ((bpT ta a b).n))] := fN
    have hY := hX.step ef (Xa om)
    refine ⟨hY, ?_⟩
    refine dO 19 (Zz rfl rfl rfl ?_)
    have nx := (cn.ch0 ee).ch ef (ne1 om)
    refine Zn (off := 0) 3 nx sz86 rfl (us := [(.int .i64 ((bpT tb ((bpT ta a b).L) ((bpT ta a b).F)).f)), (.int .i64 ((bpT tb ((bpT ta a b).L) ((bpT ta a b).F)).l)), (.bool ((bpT tb ((bpT ta a b).L) ((bpT ta a b).F)).n))]) rfl rfl rfl rfl fun ny fO eg => ?_
    have vB := eg.size
    have E := E.step eg (Xa om)
    replace fO : Blk ny bH 86 [(.int .i64 ((bpT tb ((bpT ta a b).L) ((bpT ta a b).F)).f)), (.int .i64 ((bpT tb ((bpT ta a b).L) ((bpT ta a b).F)).l)), (.bool ((bpT tb ((bpT ta a b).L) ((bpT ta a b).F)).n))] := fO
    have kj := hY.step eg (Xa om)
    refine ⟨kj, ?_⟩
    refine Yc (by kernel_rfl) ?_
    refine Zb ?_
    have nz := (((af.ch0 fo).ch0 ee).ch ef (dS ap aO om)).ch eg (dS ap aO om)
    have nA := (((ag.ch0 fo).ch0 ee).ch ef (dS aq aP om)).ch eg (dS aq aP om)
    have nB := (((a6.ch0 fo).ch0 ee).ch ef (ne1 om)).ch eg (ne1 om)
    have nC := fN.ch eg (ne1 om)
    have nD := (((((hf.ch cA (Qb om c om e om)).ch fJ (Qb om u om y om)).ch0 fo).ch0 ee).ch ef (Qm om)).ch eg (Qm om)
    have nE := ((((((c1.ch0 c2).ch cA (Xd om (Yl m om) (Yl o om))).ch fJ (Xd om K M)).ch0 fo).ch0 ee).ch ef (ne1 om)).ch eg (ne1 om)
    exact cL _ _ _ _ bG bH (sC4 rfl rfl rfl rfl (sC2 rfl rfl (Sub.nil _))) E om nz a4 p nA a5 q J nB nC om om (Zs ap aO om) (Zs aq aP om) fO om om (Zs ap aO om) (Zs aq aP om) om nD nE aM aN
   ·refine Zz rfl rfl rfl ?_
    refine Yh zr86 fun bG nF cm c6 jW => ?_
    have vC := c6.size
    have E := E.trans c6.of_nil
    have jX := cm.lt
    replace cm : Blk nF bG 86 [(.int .i64 0), (.int .i64 0), (.bool false)] := cm
    have fP := d8.trans c6.of_nil
    refine ⟨fP, ?_⟩
    refine Zat 15 17 (by kernel_rfl) ?_ ?_
    ·refine Zz rfl rfl rfl ?_
     have nG := cc.ch0 c6
     have nH := aZ.ch0 c6
     have nI := a0.ch0 c6
     have nJ := (cM.ch cA (Qb om c om e om)).ch0 c6
     refine Step.call (Zl (xs := [.tmp 64, .tmp 70]) fk65 rfl) (ih nG nH R (Lo.down u om) nI T (Lo.down y om) ad nJ om om ob ⟨by omega, by omega⟩ om) fun dN nK cq => ?_
     obtain ⟨cr, ct, rfl, a6, af, D, p, ag, G, q, J, hn⟩ := cq
     have vD := hn.size
     have E := E.step hn (fun i hm => by rcases List.mem_cons.1 hm with I | hm; (right; exact I ▸ List.mem_cons_self ..); (rcases List.mem_append.1 hm with hm | hm; (exact (az _ hm)); (exact (aA _ hm))))
     obtain ⟨aS, aT, rfl, cu, aO⟩ := af.opn
     have ap : Lo L_p (.slice aS ((bpT tb ((bpT ta a b).L) ((bpT ta a b).F)).L).length aT) := Yz D p om (Ys u y)
     obtain ⟨aU, aV, rfl, cv, aP⟩ := ag.opn
     have aq : Lo L_p (.slice aU ((bpT tb ((bpT ta a b).L) ((bpT ta a b).F)).F).length aV) := Yz G q om (Ys u y)
     have aM := Zv D p (show a3 < _ by omega) (Yk K M)
     have aI := Zv D p (show bG < _ by omega) (Yk (Zs u aD om) (Zs y aE om))
     have a4 := Yt E D p om (Ys (fun g hm => (az _ hm)) (fun g hm => (aA _ hm)))
     have aN := Zv G q (show a3 < _ by omega) (Yk K M)
     have aJ := Zv G q (show bG < _ by omega) (Yk (Zs u aD om) (Zs y aE om))
     have a5 := Yt E G q om (Ys (fun g hm => (az _ hm)) (fun g hm => (aA _ hm)))
     replace a6 : Blk nK b_p t_p [(.slice aS ((bpT tb ((bpT ta a b).L) ((bpT ta a b).F)).L).length aT), (.int .i64 b0), (.int .i64 b1), (.slice aU ((bpT tb ((bpT ta a b).L) ((bpT ta a b).F)).F).length aV), (.bool b2)] := a6
     have hZ := fP.step hn (all3 (.inr (mAL _ (mAL _ (mSg.2 rfl)))) (Xq Q om (.inr (mAL _ (mAL _ (mSg.2 rfl)))) (fun i hm => .inr (mAL _ (mAR _ hm))) (fun i hm => .inr (mAR _ hm))) (Xq S om (.inr (mAL _ (mAL _ (mSg.2 rfl)))) (fun i hm => .inr (mAL _ (mAR _ hm))) (fun i hm => .inr (mAR _ hm))))
     refine ⟨hZ, ?_⟩
     refine dO 17 (Zz rfl rfl rfl ?_)
     refine Yh zr86 fun bH nL cn eh jY => ?_
     have vE := eh.size
     have E := E.trans eh.of_nil
     have jZ := cn.lt
     replace cn : Blk nL bH 86 [(.int .i64 0), (.int .i64 0), (.bool false)] := cn
     have h0 := hZ.trans eh.of_nil
     refine ⟨h0, ?_⟩
     refine dO 18 (Zz rfl rfl rfl ?_)
     have nM := (cm.ch hn (Xd om (Yl aD om) (Yl aE om))).ch0 eh
     refine Zn (off := 0) 3 nM sz86 rfl (us := [(.int .i64 ((bpT ta a b).f)), (.int .i64 ((bpT ta a b).l)), (.bool ((bpT ta a b).n))]) rfl rfl rfl rfl fun nN fQ ei => ?_
     have vF := ei.size
     have E := E.step ei (Xa om)
     replace fQ : Blk nN bG 86 [(.int .i64 ((bpT ta a b).f)), (.int .i64 ((bpT ta a b).l)), (.bool ((bpT ta a b).n))] := fQ
     have h1 := h0.step ei (Xa om)
     refine ⟨h1, ?_⟩
     refine dO 19 (Zz rfl rfl rfl ?_)
     have nO := cn.ch ei (ne1 om)
     refine Zn (off := 0) 3 nO sz86 rfl (us := [(.int .i64 ((bpT tb ((bpT ta a b).L) ((bpT ta a b).F)).f)), (.int .i64 ((bpT tb ((bpT ta a b).L) ((bpT ta a b).F)).l)), (.bool ((bpT tb ((bpT ta a b).L) ((bpT ta a b).F)).n))]) rfl rfl rfl rfl fun nP fR ej => ?_
     have vG := ej.size
     have E := E.step ej (Xa om)
     replace fR : Blk nP bH 86 [(.int .i64 ((bpT tb ((bpT ta a b).L) ((bpT ta a b).F)).f)), (.int .i64 ((bpT tb ((bpT ta a b).L) ((bpT ta a b).F)).l)), (.bool ((bpT tb ((bpT ta a b).L) ((bpT ta a b).F)).n))] := fR
     have kk := h1.step ej (Xa om)
     refine ⟨kk, ?_⟩
     refine Yc (by kernel_rfl) ?_
     refine Zb ?_
     have nQ := ((af.ch0 eh).ch ei (fun g hg hm => by have I := mSg.1 hm; exact aI (by first | exact hg | exact I ▸ hg))).ch ej (dS ap aO om)
     have nR := ((ag.ch0 eh).ch ei (fun g hg hm => by have I := mSg.1 hm; exact aJ (by first | exact hg | exact I ▸ hg))).ch ej (dS aq aP om)
     have nT := ((a6.ch0 eh).ch ei (ne1 om)).ch ej (ne1 om)
     have nU := fQ.ch ej (ne1 om)
     have nV := (((((hf.ch cA (Qb om c om e om)).ch0 c6).ch hn (Qb om u om y om)).ch0 eh).ch ei (Qm om)).ch ej (Qm om)
     have nW := ((((((c1.ch0 c2).ch cA (Xd om (Yl m om) (Yl o om))).ch0 c6).ch hn (Xd om K M)).ch0 eh).ch ei (ne1 om)).ch ej (ne1 om)
     exact cL _ _ _ _ bG bH (sC4 rfl rfl rfl rfl (sC2 rfl rfl (Sub.nil _))) E om nQ a4 p nR a5 q J nT nU om om aI aJ fR om om (Zs ap aO om) (Zs aq aP om) om nV nW aM aN
    refine Zz rfl rfl rfl ?_
    refine Yh zr86 fun bH nX cn dP jY => ?_
    have vH := dP.size
    have E := E.trans dP.of_nil
    have jZ := cn.lt
    replace cn : Blk nX bH 86 [(.int .i64 0), (.int .i64 0), (.bool false)] := cn
    have h2 := fP.trans dP.of_nil
    refine ⟨h2, ?_⟩
    refine dO 15 (Zz rfl rfl rfl ?_)
    have nY := (cc.ch0 c6).ch0 dP
    have nZ := (aZ.ch0 c6).ch0 dP
    have n0 := (a0.ch0 c6).ch0 dP
    have n1 := ((cM.ch cA (Qb om c om e om)).ch0 c6).ch0 dP
    refine Step.call (Zl (xs := [.tmp 64, .tmp 70]) fk65 rfl) (ih nY nZ R (Lo.down u om) n0 T (Lo.down y om) ad n1 om om ob ⟨by omega, by omega⟩ om) fun dN n2 cq => ?_
    obtain ⟨cr, ct, rfl, a6, af, D, p, ag, G, q, J, fS⟩ := cq
    have vI := fS.size
    have E := E.step fS (fun i hm => by rcases List.mem_cons.1 hm with I | hm; (right; exact I ▸ List.mem_cons_self ..); (rcases List.mem_append.1 hm with hm | hm; (exact (az _ hm)); (exact (aA _ hm))))
    obtain ⟨aS, aT, rfl, cu, aO⟩ := af.opn
    have ap : Lo L_p (.slice aS ((bpT tb ((bpT ta a b).L) ((bpT ta a b).F)).L).length aT) := Yz D p om (Ys u y)
    obtain ⟨aU, aV, rfl, cv, aP⟩ := ag.opn
    have aq : Lo L_p (.slice aU ((bpT tb ((bpT ta a b).L) ((bpT ta a b).F)).F).length aV) := Yz G q om (Ys u y)
    have aM := Zv D p (show a3 < _ by omega) (Yk K M)
    have aI := Zv D p (show bG < _ by omega) (Yk (Zs u aD om) (Zs y aE om))
    have aK := Zv D p (show bH < _ by omega) (Yk (Zs u aD om) (Zs y aE om))
    have a4 := Yt E D p om (Ys (fun g hm => (az _ hm)) (fun g hm => (aA _ hm)))
    have aN := Zv G q (show a3 < _ by omega) (Yk K M)
    have aJ := Zv G q (show bG < _ by omega) (Yk (Zs u aD om) (Zs y aE om))
    have aL := Zv G q (show bH < _ by omega) (Yk (Zs u aD om) (Zs y aE om))
    have a5 := Yt E G q om (Ys (fun g hm => (az _ hm)) (fun g hm => (aA _ hm)))
    replace a6 : Blk n2 b_p t_p [(.slice aS ((bpT tb ((bpT ta a b).L) ((bpT ta a b).F)).L).length aT), (.int .i64 b0), (.int .i64 b1), (.slice aU ((bpT tb ((bpT ta a b).L) ((bpT ta a b).F)).F).length aV), (.bool b2)] := a6
    have h3 := h2.step fS (all3 (.inr (mAL _ (mAL _ (mSg.2 rfl)))) (Xq Q om (.inr (mAL _ (mAL _ (mSg.2 rfl)))) (fun i hm => .inr (mAL _ (mAR _ hm))) (fun i hm => .inr (mAR _ hm))) (Xq S om (.inr (mAL _ (mAL _ (mSg.2 rfl)))) (fun i hm => .inr (mAL _ (mAR _ hm))) (fun i hm => .inr (mAR _ hm))))
    refine ⟨h3, ?_⟩
    refine dO 18 (Zz rfl rfl rfl ?_)
    have n3 := (cm.ch0 dP).ch fS (Xd om (Yl aD om) (Yl aE om))
    refine Zn (off := 0) 3 n3 sz86 rfl (us := [(.int .i64 ((bpT ta a b).f)), (.int .i64 ((bpT ta a b).l)), (.bool ((bpT ta a b).n))]) rfl rfl rfl rfl fun n4 fT ek => ?_
    have vJ := ek.size
    have E := E.step ek (Xa om)
    replace fT : Blk n4 bG 86 [(.int .i64 ((bpT ta a b).f)), (.int .i64 ((bpT ta a b).l)), (.bool ((bpT ta a b).n))] := fT
    have h4 := h3.step ek (Xa om)
    refine ⟨h4, ?_⟩
    refine dO 19 (Zz rfl rfl rfl ?_)
    have n5 := (cn.ch fS (Xd om (Yl aD om) (Yl aE om))).ch ek (ne1 om)
    refine Zn (off := 0) 3 n5 sz86 rfl (us := [(.int .i64 ((bpT tb ((bpT ta a b).L) ((bpT ta a b).F)).f)), (.int .i64 ((bpT tb ((bpT ta a b).L) ((bpT ta a b).F)).l)), (.bool ((bpT tb ((bpT ta a b).L) ((bpT ta a b).F)).n))]) rfl rfl rfl rfl fun n6 fU el => ?_
    have vK := el.size
    have E := E.step el (Xa om)
    replace fU : Blk n6 bH 86 [(.int .i64 ((bpT tb ((bpT ta a b).L) ((bpT ta a b).F)).f)), (.int .i64 ((bpT tb ((bpT ta a b).L) ((bpT ta a b).F)).l)), (.bool ((bpT tb ((bpT ta a b).L) ((bpT ta a b).F)).n))] := fU
    have kl := h4.step el (Xa om)
    refine ⟨kl, ?_⟩
    refine Yc (by kernel_rfl) ?_
    refine Zb ?_
    have n7 := (af.ch ek (fun g hg hm => by have I := mSg.1 hm; exact aI (by first | exact hg | exact I ▸ hg))).ch el (fun g hg hm => by have I := mSg.1 hm; exact aK (by first | exact hg | exact I ▸ hg))
    have n8 := (ag.ch ek (fun g hg hm => by have I := mSg.1 hm; exact aJ (by first | exact hg | exact I ▸ hg))).ch el (fun g hg hm => by have I := mSg.1 hm; exact aL (by first | exact hg | exact I ▸ hg))
    have n9 := (a6.ch ek (ne1 om)).ch el (ne1 om)
    have oc := fT.ch el (ne1 om)
    have od := (((((hf.ch cA (Qb om c om e om)).ch0 c6).ch0 dP).ch fS (Qb om u om y om)).ch ek (Qm om)).ch el (Qm om)
    have oe := ((((((c1.ch0 c2).ch cA (Xd om (Yl m om) (Yl o om))).ch0 c6).ch0 dP).ch fS (Xd om K M)).ch ek (ne1 om)).ch el (ne1 om)
    exact cL _ _ _ _ bG bH (sC4 rfl rfl rfl rfl (sC2 rfl rfl (Sub.nil _))) E om n7 a4 p n8 a5 q J n9 oc om om aI aJ fU om om aK aL om od oe aM aN
   refine Zz rfl rfl rfl ?_
   refine Yh zr86 fun bH og cn c7 jY => ?_
   have vL := c7.size
   have E := E.trans c7.of_nil
   have jZ := cn.lt
   replace cn : Blk og bH 86 [(.int .i64 0), (.int .i64 0), (.bool false)] := cn
   have fV := d8.trans c7.of_nil
   refine ⟨fV, ?_⟩
   refine Zat 15 16 (by kernel_rfl) ?_ ?_
   ·refine Zz rfl rfl rfl ?_
    have oh := cc.ch0 c7
    have oi := aZ.ch0 c7
    have oj := a0.ch0 c7
    have ok := (cM.ch cA (Qb om c om e om)).ch0 c7
    refine Step.call (Zl (xs := [.tmp 64, .tmp 70]) fk65 rfl) (ih oh oi R (Lo.down u om) oj T (Lo.down y om) ad ok om om ob ⟨by omega, by omega⟩ om) fun dN ol cq => ?_
    obtain ⟨cr, ct, rfl, a6, af, D, p, ag, G, q, J, ho⟩ := cq
    have vM := ho.size
    have E := E.step ho (fun i hm => by rcases List.mem_cons.1 hm with I | hm; (right; exact I ▸ List.mem_cons_self ..); (rcases List.mem_append.1 hm with hm | hm; (exact (az _ hm)); (exact (aA _ hm))))
    obtain ⟨aS, aT, rfl, cu, aO⟩ := af.opn
    have ap : Lo L_p (.slice aS ((bpT tb ((bpT ta a b).L) ((bpT ta a b).F)).L).length aT) := Yz D p om (Ys u y)
    obtain ⟨aU, aV, rfl, cv, aP⟩ := ag.opn
    have aq : Lo L_p (.slice aU ((bpT tb ((bpT ta a b).L) ((bpT ta a b).F)).F).length aV) := Yz G q om (Ys u y)
    have aM := Zv D p (show a3 < _ by omega) (Yk K M)
    have aK := Zv D p (show bH < _ by omega) (Yk (Zs u aD om) (Zs y aE om))
    have a4 := Yt E D p om (Ys (fun g hm => (az _ hm)) (fun g hm => (aA _ hm)))
    have aN := Zv G q (show a3 < _ by omega) (Yk K M)
    have aL := Zv G q (show bH < _ by omega) (Yk (Zs u aD om) (Zs y aE om))
    have a5 := Yt E G q om (Ys (fun g hm => (az _ hm)) (fun g hm => (aA _ hm)))
    replace a6 : Blk ol b_p t_p [(.slice aS ((bpT tb ((bpT ta a b).L) ((bpT ta a b).F)).L).length aT), (.int .i64 b0), (.int .i64 b1), (.slice aU ((bpT tb ((bpT ta a b).L) ((bpT ta a b).F)).F).length aV), (.bool b2)] := a6
    have h5 := fV.step ho (all3 (.inr (mAL _ (mAL _ (mSg.2 rfl)))) (Xq Q om (.inr (mAL _ (mAL _ (mSg.2 rfl)))) (fun i hm => .inr (mAL _ (mAR _ hm))) (fun i hm => .inr (mAR _ hm))) (Xq S om (.inr (mAL _ (mAL _ (mSg.2 rfl)))) (fun i hm => .inr (mAL _ (mAR _ hm))) (fun i hm => .inr (mAR _ hm))))
    refine ⟨h5, ?_⟩
    refine dO 16 (Zz rfl rfl rfl ?_)
    refine Yh zr86 fun bG on cm em jW => ?_
    have vN := em.size
    have E := E.trans em.of_nil
    have jX := cm.lt
    replace cm : Blk on bG 86 [(.int .i64 0), (.int .i64 0), (.bool false)] := cm
    have h6 := h5.trans em.of_nil
    refine ⟨h6, ?_⟩
    refine dO 18 (Zz rfl rfl rfl ?_)
    refine Zn (off := 0) 3 cm sz86 rfl (us := [(.int .i64 ((bpT ta a b).f)), (.int .i64 ((bpT ta a b).l)), (.bool ((bpT ta a b).n))]) rfl rfl rfl rfl fun oo fW en => ?_
    have vO := en.size
    have E := E.step en (Xa om)
    replace fW : Blk oo bG 86 [(.int .i64 ((bpT ta a b).f)), (.int .i64 ((bpT ta a b).l)), (.bool ((bpT ta a b).n))] := fW
    have h7 := h6.step en (Xa om)
    refine ⟨h7, ?_⟩
    refine dO 19 (Zz rfl rfl rfl ?_)
    have op := ((cn.ch ho (Xd om (Yl aD om) (Yl aE om))).ch0 em).ch en (ne1 om)
    refine Zn (off := 0) 3 op sz86 rfl (us := [(.int .i64 ((bpT tb ((bpT ta a b).L) ((bpT ta a b).F)).f)), (.int .i64 ((bpT tb ((bpT ta a b).L) ((bpT ta a b).F)).l)), (.bool ((bpT tb ((bpT ta a b).L) ((bpT ta a b).F)).n))]) rfl rfl rfl rfl fun oq fX eo => ?_
    have vP := eo.size
    have E := E.step eo (Xa om)
    replace fX : Blk oq bH 86 [(.int .i64 ((bpT tb ((bpT ta a b).L) ((bpT ta a b).F)).f)), (.int .i64 ((bpT tb ((bpT ta a b).L) ((bpT ta a b).F)).l)), (.bool ((bpT tb ((bpT ta a b).L) ((bpT ta a b).F)).n))] := fX
    have km := h7.step eo (Xa om)
    refine ⟨km, ?_⟩
    refine Yc (by kernel_rfl) ?_
    refine Zb ?_
    have os := ((af.ch0 em).ch en (dS ap aO om)).ch eo (fun g hg hm => by have I := mSg.1 hm; exact aK (by first | exact hg | exact I ▸ hg))
    have ot := ((ag.ch0 em).ch en (dS aq aP om)).ch eo (fun g hg hm => by have I := mSg.1 hm; exact aL (by first | exact hg | exact I ▸ hg))
    have ou := ((a6.ch0 em).ch en (ne1 om)).ch eo (ne1 om)
    have ov := fW.ch eo (ne1 om)
    have ow := (((((hf.ch cA (Qb om c om e om)).ch0 c7).ch ho (Qb om u om y om)).ch0 em).ch en (Qm om)).ch eo (Qm om)
    have ox := ((((((c1.ch0 c2).ch cA (Xd om (Yl m om) (Yl o om))).ch0 c7).ch ho (Xd om K M)).ch0 em).ch en (ne1 om)).ch eo (ne1 om)
    exact cL _ _ _ _ bG bH (sC4 rfl rfl rfl rfl (sC2 rfl rfl (Sub.nil _))) E om os a4 p ot a5 q J ou ov om om (Zs ap aO om) (Zs aq aP om) fX om om aK aL om ow ox aM aN
   refine Zz rfl rfl rfl ?_
   refine Yh zr86 fun bG oy cm dQ jW => ?_
   have vQ := dQ.size
   have E := E.trans dQ.of_nil
   have jX := cm.lt
   replace cm : Blk oy bG 86 [(.int .i64 0), (.int .i64 0), (.bool false)] := cm
   have h8 := fV.trans dQ.of_nil
   refine ⟨h8, ?_⟩
   refine dO 15 (Zz rfl rfl rfl ?_)
   have oz := (cc.ch0 c7).ch0 dQ
   have oA := (aZ.ch0 c7).ch0 dQ
   have oB := (a0.ch0 c7).ch0 dQ
   have oC := ((cM.ch cA (Qb om c om e om)).ch0 c7).ch0 dQ
   refine Step.call (Zl (xs := [.tmp 64, .tmp 70]) fk65 rfl) (ih oz oA R (Lo.down u om) oB T (Lo.down y om) ad oC om om ob ⟨by omega, by omega⟩ om) fun dN oD cq => ?_
   obtain ⟨cr, ct, rfl, a6, af, D, p, ag, G, q, J, fY⟩ := cq
   have vR := fY.size
   have E := E.step fY (fun i hm => by rcases List.mem_cons.1 hm with I | hm; (right; exact I ▸ List.mem_cons_self ..); (rcases List.mem_append.1 hm with hm | hm; (exact (az _ hm)); (exact (aA _ hm))))
   obtain ⟨aS, aT, rfl, cu, aO⟩ := af.opn
   have ap : Lo L_p (.slice aS ((bpT tb ((bpT ta a b).L) ((bpT ta a b).F)).L).length aT) := Yz D p om (Ys u y)
   obtain ⟨aU, aV, rfl, cv, aP⟩ := ag.opn
   have aq : Lo L_p (.slice aU ((bpT tb ((bpT ta a b).L) ((bpT ta a b).F)).F).length aV) := Yz G q om (Ys u y)
   have aM := Zv D p (show a3 < _ by omega) (Yk K M)
   have aK := Zv D p (show bH < _ by omega) (Yk (Zs u aD om) (Zs y aE om))
   have aI := Zv D p (show bG < _ by omega) (Yk (Zs u aD om) (Zs y aE om))
   have a4 := Yt E D p om (Ys (fun g hm => (az _ hm)) (fun g hm => (aA _ hm)))
   have aN := Zv G q (show a3 < _ by omega) (Yk K M)
   have aL := Zv G q (show bH < _ by omega) (Yk (Zs u aD om) (Zs y aE om))
   have aJ := Zv G q (show bG < _ by omega) (Yk (Zs u aD om) (Zs y aE om))
   have a5 := Yt E G q om (Ys (fun g hm => (az _ hm)) (fun g hm => (aA _ hm)))
   replace a6 : Blk oD b_p t_p [(.slice aS ((bpT tb ((bpT ta a b).L) ((bpT ta a b).F)).L).length aT), (.int .i64 b0), (.int .i64 b1), (.slice aU ((bpT tb ((bpT ta a b).L) ((bpT ta a b).F)).F).length aV), (.bool b2)] := a6
   have h9 := h8.step fY (all3 (.inr (mAL _ (mAL _ (mSg.2 rfl)))) (Xq Q om (.inr (mAL _ (mAL _ (mSg.2 rfl)))) (fun i hm => .inr (mAL _ (mAR _ hm))) (fun i hm => .inr (mAR _ hm))) (Xq S om (.inr (mAL _ (mAL _ (mSg.2 rfl)))) (fun i hm => .inr (mAL _ (mAR _ hm))) (fun i hm => .inr (mAR _ hm))))
   refine ⟨h9, ?_⟩
   refine dO 18 (Zz rfl rfl rfl ?_)
   have oE := cm.ch fY (Xd om (Yl aD om) (Yl aE om))
   refine Zn (off := 0) 3 oE sz86 rfl (us := [(.int .i64 ((bpT ta a b).f)), (.int .i64 ((bpT ta a b).l)), (.bool ((bpT ta a b).n))]) rfl rfl rfl rfl fun oF fZ ep => ?_
   have vS := ep.size
   have E := E.step ep (Xa om)
   replace fZ : Blk oF bG 86 [(.int .i64 ((bpT ta a b).f)), (.int .i64 ((bpT ta a b).l)), (.bool ((bpT ta a b).n))] := fZ
   have ia := h9.step ep (Xa om)
   refine ⟨ia, ?_⟩
   refine dO 19 (Zz rfl rfl rfl ?_)
   have oG := ((cn.ch0 dQ).ch fY (Xd om (Yl aD om) (Yl aE om))).ch ep (ne1 om)
   refine Zn (off := 0) 3 oG sz86 rfl (us := [(.int .i64 ((bpT tb ((bpT ta a b).L) ((bpT ta a b).F)).f)), (.int .i64 ((bpT tb ((bpT ta a b).L) ((bpT ta a b).F)).l)), (.bool ((bpT tb ((bpT ta a b).L) ((bpT ta a b).F)).n))]) rfl rfl rfl rfl fun oH f0 er => ?_
   have vT := er.size
   have E := E.step er (Xa om)
   replace f0 : Blk oH bH 86 [(.int .i64 ((bpT tb ((bpT ta a b).L) ((bpT ta a b).F)).f)), (.int .i64 ((bpT tb ((bpT ta a b).L) ((bpT ta a b).F)).l)), (.bool ((bpT tb ((bpT ta a b).L) ((bpT ta a b).F)).n))] := f0
   have kn := ia.step er (Xa om)
   refine ⟨kn, ?_⟩
   refine Yc (by kernel_rfl) ?_
   refine Zb ?_
   have oI := (af.ch ep (fun g hg hm => by have I := mSg.1 hm; exact aI (by first | exact hg | exact I ▸ hg))).ch er (fun g hg hm => by have I := mSg.1 hm; exact aK (by first | exact hg | exact I ▸ hg))
   have oJ := (ag.ch ep (fun g hg hm => by have I := mSg.1 hm; exact aJ (by first | exact hg | exact I ▸ hg))).ch er (fun g hg hm => by have I := mSg.1 hm; exact aL (by first | exact hg | exact I ▸ hg))
   have oK := (a6.ch ep (ne1 om)).ch er (ne1 om)
   have oL := fZ.ch er (ne1 om)
   have oM := (((((hf.ch cA (Qb om c om e om)).ch0 c7).ch0 dQ).ch fY (Qb om u om y om)).ch ep (Qm om)).ch er (Qm om)
   have oN := ((((((c1.ch0 c2).ch cA (Xd om (Yl m om) (Yl o om))).ch0 c7).ch0 dQ).ch fY (Xd om K M)).ch ep (ne1 om)).ch er (ne1 om)
   exact cL _ _ _ _ bG bH (sC4 rfl rfl rfl rfl (sC2 rfl rfl (Sub.nil _))) E om oI a4 p oJ a5 q J oK oL om om aI aJ f0 om om aK aL om oM oN aM aN
  ·refine Zz rfl rfl rfl ?_
   refine Yh zr86 fun bG lT cm cB jW => ?_
   have vU := cB.size
   have E := E.trans cB.of_nil
   have jX := cm.lt
   replace cm : Blk lT bG 86 [(.int .i64 0), (.int .i64 0), (.bool false)] := cm
   have f1 : Ch ([b_p] ++ (bl (.slice bi a.length bj)) ++ (bl (.slice bn b.length bp))) lO lT := ((Ch.refl _ _).trans cB.of_nil)
   refine ⟨f1, ?_⟩
   refine Zat 7 17 (by kernel_rfl) ?_ ?_
   ·refine Zz rfl rfl rfl ?_
    have oO := ((m_p.ch0 C2).ch0 c2).ch0 cB
    have oP := ((b8.ch0 C2).ch0 c2).ch0 cB
    have oQ := ((b9.ch0 C2).ch0 c2).ch0 cB
    have oR := d0.ch0 cB
    refine Step.call (Zl (xs := [.tmp 56, .tmp 62]) fk65 rfl) (ih oO oP bh (Lo.down c om) oQ bs (Lo.down e om) aR oR om om oa ⟨by omega, by omega⟩ om) fun js oT d3 => ?_
    obtain ⟨d4, d5, rfl, cc, aZ, Q, R, a0, S, T, ad, dA⟩ := d3
    have vV := dA.size
    have E := E.step dA (fun i hm => by rcases List.mem_cons.1 hm with I | hm; (right; exact I ▸ List.mem_cons_self ..); (rcases List.mem_append.1 hm with hm | hm; (exact (.inr (mCo _ (mAL _ hm)))); (exact (.inr (mCo _ (mAR _ hm))))))
    obtain ⟨bQ, bR, rfl, d6, aD⟩ := aZ.opn
    have u : Lo L_p (.slice bQ ((bpT ta a b).L).length bR) := Yz Q R om (Ys c e)
    obtain ⟨bS, bT, rfl, d7, aE⟩ := a0.opn
    have y : Lo L_p (.slice bS ((bpT ta a b).F).length bT) := Yz S T om (Ys c e)
    have K := Zv Q R (show a3 < _ by omega) (Yk (Zs c m om) (Zs e o om))
    have a7 := Zv Q R (show bG < _ by omega) (Yk (Zs c m om) (Zs e o om))
    have az := Yt E Q R om (Ys (fun g hm => (.inr (mCo _ (mAL _ hm)))) (fun g hm => (.inr (mCo _ (mAR _ hm)))))
    have M := Zv S T (show a3 < _ by omega) (Yk (Zs c m om) (Zs e o om))
    have a8 := Zv S T (show bG < _ by omega) (Yk (Zs c m om) (Zs e o om))
    have aA := Yt E S T om (Ys (fun g hm => (.inr (mCo _ (mAL _ hm)))) (fun g hm => (.inr (mCo _ (mAR _ hm)))))
    replace cc : Blk oT b_p t_p [(.slice bQ ((bpT ta a b).L).length bR), (.int .i64 b0), (.int .i64 b1), (.slice bS ((bpT ta a b).F).length bT), (.bool b2)] := cc
    have f2 := f1.step dA (all3 (.inr (mAL _ (mAL _ (mSg.2 rfl)))) (fun i hm => .inr (mAL _ (mAR _ hm))) (fun i hm => .inr (mAR _ hm)))
    refine ⟨f2, ?_⟩
    refine Zat 15 17 (by kernel_rfl) ?_ ?_
    ·refine Zz rfl rfl rfl ?_
     have oU := (cM.ch0 cB).ch dA (Qb om c om e om)
     refine Step.call (Zl (xs := [.tmp 64, .tmp 70]) fk65 rfl) (ih cc aZ R (Lo.down u om) a0 T (Lo.down y om) ad oU om om ob ⟨by omega, by omega⟩ om) fun dN oV cq => ?_
     obtain ⟨cr, ct, rfl, a6, af, D, p, ag, G, q, J, hp⟩ := cq
     have vW := hp.size
     have E := E.step hp (fun i hm => by rcases List.mem_cons.1 hm with I | hm; (right; exact I ▸ List.mem_cons_self ..); (rcases List.mem_append.1 hm with hm | hm; (exact (az _ hm)); (exact (aA _ hm))))
     obtain ⟨aS, aT, rfl, cu, aO⟩ := af.opn
     have ap : Lo L_p (.slice aS ((bpT tb ((bpT ta a b).L) ((bpT ta a b).F)).L).length aT) := Yz D p om (Ys u y)
     obtain ⟨aU, aV, rfl, cv, aP⟩ := ag.opn
     have aq : Lo L_p (.slice aU ((bpT tb ((bpT ta a b).L) ((bpT ta a b).F)).F).length aV) := Yz G q om (Ys u y)
     have aM := Zv D p (show a3 < _ by omega) (Yk K M)
     have aI := Zv D p (show bG < _ by omega) (Yk a7 a8)
     have a4 := Yt E D p om (Ys (fun g hm => (az _ hm)) (fun g hm => (aA _ hm)))
     have aN := Zv G q (show a3 < _ by omega) (Yk K M)
     have aJ := Zv G q (show bG < _ by omega) (Yk a7 a8)
     have a5 := Yt E G q om (Ys (fun g hm => (az _ hm)) (fun g hm => (aA _ hm)))
     replace a6 : Blk oV b_p t_p [(.slice aS ((bpT tb ((bpT ta a b).L) ((bpT ta a b).F)).L).length aT), (.int .i64 b0), (.int .i64 b1), (.slice aU ((bpT tb ((bpT ta a b).L) ((bpT ta a b).F)).F).length aV), (.bool b2)] := a6
     have ib := f2.step hp (all3 (.inr (mAL _ (mAL _ (mSg.2 rfl)))) (Xq Q om (.inr (mAL _ (mAL _ (mSg.2 rfl)))) (fun i hm => .inr (mAL _ (mAR _ hm))) (fun i hm => .inr (mAR _ hm))) (Xq S om (.inr (mAL _ (mAL _ (mSg.2 rfl)))) (fun i hm => .inr (mAL _ (mAR _ hm))) (fun i hm => .inr (mAR _ hm))))
     refine ⟨ib, ?_⟩
     refine dO 17 (Zz rfl rfl rfl ?_)
     refine Yh zr86 fun bH oW cn es jY => ?_
     have vX := es.size
     have E := E.trans es.of_nil
     have jZ := cn.lt
     replace cn : Blk oW bH 86 [(.int .i64 0), (.int .i64 0), (.bool false)] := cn
     have ic := ib.trans es.of_nil
     refine ⟨ic, ?_⟩
     refine dO 18 (Zz rfl rfl rfl ?_)
     have oX := ((cm.ch dA (Xd om (Yl m om) (Yl o om))).ch hp (Xd om a7 a8)).ch0 es
     refine Zn (off := 0) 3 oX sz86 rfl (us := [(.int .i64 ((bpT ta a b).f)), (.int .i64 ((bpT ta a b).l)), (.bool ((bpT ta a b).n))]) rfl rfl rfl rfl fun oY f3 et => ?_
     have vY := et.size
     have E := E.step et (Xa om)
     replace f3 : Blk oY bG 86 [(.int .i64 ((bpT ta a b).f)), (.int .i64 ((bpT ta a b).l)), (.bool ((bpT ta a b).n))] := f3
     have ie := ic.step et (Xa om)
     refine ⟨ie, ?_⟩
     refine dO 19 (Zz rfl rfl rfl ?_)
     have oZ := cn.ch et (ne1 om)
     refine Zn (off := 0) 3 oZ sz86 rfl (us := [(.int .i64 ((bpT tb ((bpT ta a b).L) ((bpT ta a b).F)).f)), (.int .i64 ((bpT tb ((bpT ta a b).L) ((bpT ta a b).F)).l)), (.bool ((bpT tb ((bpT ta a b).L) ((bpT ta a b).F)).n))]) rfl rfl rfl rfl fun o0 f4 eu => ?_
     have vZ := eu.size
     have E := E.step eu (Xa om)
     replace f4 : Blk o0 bH 86 [(.int .i64 ((bpT tb ((bpT ta a b).L) ((bpT ta a b).F)).f)), (.int .i64 ((bpT tb ((bpT ta a b).L) ((bpT ta a b).F)).l)), (.bool ((bpT tb ((bpT ta a b).L) ((bpT ta a b).F)).n))] := f4
     have ko := ie.step eu (Xa om)
     refine ⟨ko, ?_⟩
     refine Yc (by kernel_rfl) ?_
     refine Zb ?_
     have o1 := ((af.ch0 es).ch et (fun g hg hm => by have I := mSg.1 hm; exact aI (by first | exact hg | exact I ▸ hg))).ch eu (dS ap aO om)
     have o2 := ((ag.ch0 es).ch et (fun g hg hm => by have I := mSg.1 hm; exact aJ (by first | exact hg | exact I ▸ hg))).ch eu (dS aq aP om)
     have o3 := ((a6.ch0 es).ch et (ne1 om)).ch eu (ne1 om)
     have o4 := f3.ch eu (ne1 om)
     have o5 := (((((hf.ch0 cB).ch dA (Qb om c om e om)).ch hp (Qb om u om y om)).ch0 es).ch et (Qm om)).ch eu (Qm om)
     have o6 := ((((((c1.ch0 c2).ch0 cB).ch dA (Xd om (Yl m om) (Yl o om))).ch hp (Xd om K M)).ch0 es).ch et (ne1 om)).ch eu (ne1 om)
     exact cL _ _ _ _ bG bH (sC4 rfl rfl rfl rfl (sC2 rfl rfl (Sub.nil _))) E om o1 a4 p o2 a5 q J o3 o4 om om aI aJ f4 om om (Zs ap aO om) (Zs aq aP om) om o5 o6 aM aN
    refine Zz rfl rfl rfl ?_
    refine Yh zr86 fun bH o7 cn dR jY => ?_
    have v0 := dR.size
    have E := E.trans dR.of_nil
    have jZ := cn.lt
    replace cn : Blk o7 bH 86 [(.int .i64 0), (.int .i64 0), (.bool false)] := cn
    have ig := f2.trans dR.of_nil
    refine ⟨ig, ?_⟩
    refine dO 15 (Zz rfl rfl rfl ?_)
    have o8 := cc.ch0 dR
    have o9 := aZ.ch0 dR
    have pa := a0.ch0 dR
    have pb := ((cM.ch0 cB).ch dA (Qb om c om e om)).ch0 dR
    refine Step.call (Zl (xs := [.tmp 64, .tmp 70]) fk65 rfl) (ih o8 o9 R (Lo.down u om) pa T (Lo.down y om) ad pb om om ob ⟨by omega, by omega⟩ om) fun dN pc cq => ?_
    obtain ⟨cr, ct, rfl, a6, af, D, p, ag, G, q, J, f5⟩ := cq
    have v1 := f5.size
    have E := E.step f5 (fun i hm => by rcases List.mem_cons.1 hm with I | hm; (right; exact I ▸ List.mem_cons_self ..); (rcases List.mem_append.1 hm with hm | hm; (exact (az _ hm)); (exact (aA _ hm))))
    obtain ⟨aS, aT, rfl, cu, aO⟩ := af.opn
    have ap : Lo L_p (.slice aS ((bpT tb ((bpT ta a b).L) ((bpT ta a b).F)).L).length aT) := Yz D p om (Ys u y)
    obtain ⟨aU, aV, rfl, cv, aP⟩ := ag.opn
    have aq : Lo L_p (.slice aU ((bpT tb ((bpT ta a b).L) ((bpT ta a b).F)).F).length aV) := Yz G q om (Ys u y)
    have aM := Zv D p (show a3 < _ by omega) (Yk K M)
    have aI := Zv D p (show bG < _ by omega) (Yk a7 a8)
    have aK := Zv D p (show bH < _ by omega) (Yk (Zs u aD om) (Zs y aE om))
    have a4 := Yt E D p om (Ys (fun g hm => (az _ hm)) (fun g hm => (aA _ hm)))
    have aN := Zv G q (show a3 < _ by omega) (Yk K M)
    have aJ := Zv G q (show bG < _ by omega) (Yk a7 a8)
    have aL := Zv G q (show bH < _ by omega) (Yk (Zs u aD om) (Zs y aE om))
    have a5 := Yt E G q om (Ys (fun g hm => (az _ hm)) (fun g hm => (aA _ hm)))
    replace a6 : Blk pc b_p t_p [(.slice aS ((bpT tb ((bpT ta a b).L) ((bpT ta a b).F)).L).length aT), (.int .i64 b0), (.int .i64 b1), (.slice aU ((bpT tb ((bpT ta a b).L) ((bpT ta a b).F)).F).length aV), (.bool b2)] := a6
    have ii := ig.step f5 (all3 (.inr (mAL _ (mAL _ (mSg.2 rfl)))) (Xq Q om (.inr (mAL _ (mAL _ (mSg.2 rfl)))) (fun i hm => .inr (mAL _ (mAR _ hm))) (fun i hm => .inr (mAR _ hm))) (Xq S om (.inr (mAL _ (mAL _ (mSg.2 rfl)))) (fun i hm => .inr (mAL _ (mAR _ hm))) (fun i hm => .inr (mAR _ hm))))
    refine ⟨ii, ?_⟩
    refine dO 18 (Zz rfl rfl rfl ?_)
    have pd := ((cm.ch dA (Xd om (Yl m om) (Yl o om))).ch0 dR).ch f5 (Xd om a7 a8)
    refine Zn (off := 0) 3 pd sz86 rfl (us := [(.int .i64 ((bpT ta a b).f)), (.int .i64 ((bpT ta a b).l)), (.bool ((bpT ta a b).n))]) rfl rfl rfl rfl fun pe f6 ew => ?_
    have v2 := ew.size
    have E := E.step ew (Xa om)
    replace f6 : Blk pe bG 86 [(.int .i64 ((bpT ta a b).f)), (.int .i64 ((bpT ta a b).l)), (.bool ((bpT ta a b).n))] := f6
    have ij := ii.step ew (Xa om)
    refine ⟨ij, ?_⟩
    refine dO 19 (Zz rfl rfl rfl ?_)
    have pf := (cn.ch f5 (Xd om (Yl aD om) (Yl aE om))).ch ew (ne1 om)
    refine Zn (off := 0) 3 pf sz86 rfl (us := [(.int .i64 ((bpT tb ((bpT ta a b).L) ((bpT ta a b).F)).f)), (.int .i64 ((bpT tb ((bpT ta a b).L) ((bpT ta a b).F)).l)), (.bool ((bpT tb ((bpT ta a b).L) ((bpT ta a b).F)).n))]) rfl rfl rfl rfl fun pg f7 ex => ?_
    have v3 := ex.size
    have E := E.step ex (Xa om)
    replace f7 : Blk pg bH 86 [(.int .i64 ((bpT tb ((bpT ta a b).L) ((bpT ta a b).F)).f)), (.int .i64 ((bpT tb ((bpT ta a b).L) ((bpT ta a b).F)).l)), (.bool ((bpT tb ((bpT ta a b).L) ((bpT ta a b).F)).n))] := f7
    have kp := ij.step ex (Xa om)
    refine ⟨kp, ?_⟩
    refine Yc (by kernel_rfl) ?_
    refine Zb ?_
    have ph := (af.ch ew (fun g hg hm => by have I := mSg.1 hm; exact aI (by first | exact hg | exact I ▸ hg))).ch ex (fun g hg hm => by have I := mSg.1 hm; exact aK (by first | exact hg | exact I ▸ hg))
    have pi := (ag.ch ew (fun g hg hm => by have I := mSg.1 hm; exact aJ (by first | exact hg | exact I ▸ hg))).ch ex (fun g hg hm => by have I := mSg.1 hm; exact aL (by first | exact hg | exact I ▸ hg))
    have pj := (a6.ch ew (ne1 om)).ch ex (ne1 om)
    have pk := f6.ch ex (ne1 om)
    have pl := (((((hf.ch0 cB).ch dA (Qb om c om e om)).ch0 dR).ch f5 (Qb om u om y om)).ch ew (Qm om)).ch ex (Qm om)
    have pm := ((((((c1.ch0 c2).ch0 cB).ch dA (Xd om (Yl m om) (Yl o om))).ch0 dR).ch f5 (Xd om K M)).ch ew (ne1 om)).ch ex (ne1 om)
    exact cL _ _ _ _ bG bH (sC4 rfl rfl rfl rfl (sC2 rfl rfl (Sub.nil _))) E om ph a4 p pi a5 q J pj pk om om aI aJ f7 om om aK aL om pl pm aM aN
   refine Zz rfl rfl rfl ?_
   refine Yh zr86 fun bH pn cn dB jY => ?_
   have v4 := dB.size
   have E := E.trans dB.of_nil
   have jZ := cn.lt
   replace cn : Blk pn bH 86 [(.int .i64 0), (.int .i64 0), (.bool false)] := cn
   have ik := f1.trans dB.of_nil
   refine ⟨ik, ?_⟩
   refine dO 7 (Zz rfl rfl rfl ?_)
   have po := (((m_p.ch0 C2).ch0 c2).ch0 cB).ch0 dB
   have pp := (((b8.ch0 C2).ch0 c2).ch0 cB).ch0 dB
   have pq := (((b9.ch0 C2).ch0 c2).ch0 cB).ch0 dB
   have pr := (d0.ch0 cB).ch0 dB
   refine Step.call (Zl (xs := [.tmp 56, .tmp 62]) fk65 rfl) (ih po pp bh (Lo.down c om) pq bs (Lo.down e om) aR pr om om oa ⟨by omega, by omega⟩ om) fun js ps d3 => ?_
   obtain ⟨d4, d5, rfl, cc, aZ, Q, R, a0, S, T, ad, fp⟩ := d3
   have v5 := fp.size
   have E := E.step fp (fun i hm => by rcases List.mem_cons.1 hm with I | hm; (right; exact I ▸ List.mem_cons_self ..); (rcases List.mem_append.1 hm with hm | hm; (exact (.inr (mCo _ (mAL _ hm)))); (exact (.inr (mCo _ (mAR _ hm))))))
   obtain ⟨bQ, bR, rfl, d6, aD⟩ := aZ.opn
   have u : Lo L_p (.slice bQ ((bpT ta a b).L).length bR) := Yz Q R om (Ys c e)
   obtain ⟨bS, bT, rfl, d7, aE⟩ := a0.opn
   have y : Lo L_p (.slice bS ((bpT ta a b).F).length bT) := Yz S T om (Ys c e)
   have K := Zv Q R (show a3 < _ by omega) (Yk (Zs c m om) (Zs e o om))
   have a7 := Zv Q R (show bG < _ by omega) (Yk (Zs c m om) (Zs e o om))
   have a9 := Zv Q R (show bH < _ by omega) (Yk (Zs c m om) (Zs e o om))
   have az := Yt E Q R om (Ys (fun g hm => (.inr (mCo _ (mAL _ hm)))) (fun g hm => (.inr (mCo _ (mAR _ hm)))))
   have M := Zv S T (show a3 < _ by omega) (Yk (Zs c m om) (Zs e o om))
   have a8 := Zv S T (show bG < _ by omega) (Yk (Zs c m om) (Zs e o om))
   have ba := Zv S T (show bH < _ by omega) (Yk (Zs c m om) (Zs e o om))
   have aA := Yt E S T om (Ys (fun g hm => (.inr (mCo _ (mAL _ hm)))) (fun g hm => (.inr (mCo _ (mAR _ hm)))))
   replace cc : Blk ps b_p t_p [(.slice bQ ((bpT ta a b).L).length bR), (.int .i64 b0), (.int .i64 b1), (.slice bS ((bpT ta a b).F).length bT), (.bool b2)] := cc
   have il := ik.step fp (all3 (.inr (mAL _ (mAL _ (mSg.2 rfl)))) (fun i hm => .inr (mAL _ (mAR _ hm))) (fun i hm => .inr (mAR _ hm)))
   refine ⟨il, ?_⟩
   refine dO 15 (Zz rfl rfl rfl ?_)
   have pt := ((cM.ch0 cB).ch0 dB).ch fp (Qb om c om e om)
   refine Step.call (Zl (xs := [.tmp 64, .tmp 70]) fk65 rfl) (ih cc aZ R (Lo.down u om) a0 T (Lo.down y om) ad pt om om ob ⟨by omega, by omega⟩ om) fun dN pv cq => ?_
   obtain ⟨cr, ct, rfl, a6, af, D, p, ag, G, q, J, f8⟩ := cq
   have v6 := f8.size
   have E := E.step f8 (fun i hm => by rcases List.mem_cons.1 hm with I | hm; (right; exact I ▸ List.mem_cons_self ..); (rcases List.mem_append.1 hm with hm | hm; (exact (az _ hm)); (exact (aA _ hm))))
   obtain ⟨aS, aT, rfl, cu, aO⟩ := af.opn
   have ap : Lo L_p (.slice aS ((bpT tb ((bpT ta a b).L) ((bpT ta a b).F)).L).length aT) := Yz D p om (Ys u y)
   obtain ⟨aU, aV, rfl, cv, aP⟩ := ag.opn
   have aq : Lo L_p (.slice aU ((bpT tb ((bpT ta a b).L) ((bpT ta a b).F)).F).length aV) := Yz G q om (Ys u y)
   have aM := Zv D p (show a3 < _ by omega) (Yk K M)
   have aI := Zv D p (show bG < _ by omega) (Yk a7 a8)
   have aK := Zv D p (show bH < _ by omega) (Yk a9 ba)
   have a4 := Yt E D p om (Ys (fun g hm => (az _ hm)) (fun g hm => (aA _ hm)))
   have aN := Zv G q (show a3 < _ by omega) (Yk K M)
   have aJ := Zv G q (show bG < _ by omega) (Yk a7 a8)
   have aL := Zv G q (show bH < _ by omega) (Yk a9 ba)
   have a5 := Yt E G q om (Ys (fun g hm => (az _ hm)) (fun g hm => (aA _ hm)))
   replace a6 : Blk pv b_p t_p [(.slice aS ((bpT tb ((bpT ta a b).L) ((bpT ta a b).F)).L).length aT), (.int .i64 b0), (.int .i64 b1), (.slice aU ((bpT tb ((bpT ta a b).L) ((bpT ta a b).F)).F).length aV), (.bool b2)] := a6
   have im := il.step f8 (all3 (.inr (mAL _ (mAL _ (mSg.2 rfl)))) (Xq Q om (.inr (mAL _ (mAL _ (mSg.2 rfl)))) (fun i hm => .inr (mAL _ (mAR _ hm))) (fun i hm => .inr (mAR _ hm))) (Xq S om (.inr (mAL _ (mAL _ (mSg.2 rfl)))) (fun i hm => .inr (mAL _ (mAR _ hm))) (fun i hm => .inr (mAR _ hm))))
   refine ⟨im, ?_⟩
   refine dO 18 (Zz rfl rfl rfl ?_)
   have pw := ((cm.ch0 dB).ch fp (Xd om (Yl m om) (Yl o om))).ch f8 (Xd om a7 a8)
   refine Zn (off := 0) 3 pw sz86 rfl (us := [(.int .i64 ((bpT ta a b).f)), (.int .i64 ((bpT ta a b).l)), (.bool ((bpT ta a b).n))]) rfl rfl rfl rfl fun px f9 ey => ?_
   have v7 := ey.size
   have E := E.step ey (Xa om)
   replace f9 : Blk px bG 86 [(.int .i64 ((bpT ta a b).f)), (.int .i64 ((bpT ta a b).l)), (.bool ((bpT ta a b).n))] := f9
   have io := im.step ey (Xa om)
   refine ⟨io, ?_⟩
   refine dO 19 (Zz rfl rfl rfl ?_)
   have py := ((cn.ch fp (Xd om (Yl m om) (Yl o om))).ch f8 (Xd om a9 ba)).ch ey (ne1 om)
   refine Zn (off := 0) 3 py sz86 rfl (us := [(.int .i64 ((bpT tb ((bpT ta a b).L) ((bpT ta a b).F)).f)), (.int .i64 ((bpT tb ((bpT ta a b).L) ((bpT ta a b).F)).l)), (.bool ((bpT tb ((bpT ta a b).L) ((bpT ta a b).F)).n))]) rfl rfl rfl rfl fun pz gc ez => ?_
   have v8 := ez.size
   have E := E.step ez (Xa om)
   replace gc : Blk pz bH 86 [(.int .i64 ((bpT tb ((bpT ta a b).L) ((bpT ta a b).F)).f)), (.int .i64 ((bpT tb ((bpT ta a b).L) ((bpT ta a b).F)).l)), (.bool ((bpT tb ((bpT ta a b).L) ((bpT ta a b).F)).n))] := gc
   have kq := io.step ez (Xa om)
   refine ⟨kq, ?_⟩
   refine Yc (by kernel_rfl) ?_
   refine Zb ?_
   have pA := (af.ch ey (fun g hg hm => by have I := mSg.1 hm; exact aI (by first | exact hg | exact I ▸ hg))).ch ez (fun g hg hm => by have I := mSg.1 hm; exact aK (by first | exact hg | exact I ▸ hg))
   have pB := (ag.ch ey (fun g hg hm => by have I := mSg.1 hm; exact aJ (by first | exact hg | exact I ▸ hg))).ch ez (fun g hg hm => by have I := mSg.1 hm; exact aL (by first | exact hg | exact I ▸ hg))
   have pC := (a6.ch ey (ne1 om)).ch ez (ne1 om)
   have pD := f9.ch ez (ne1 om)
   have pE := (((((hf.ch0 cB).ch0 dB).ch fp (Qb om c om e om)).ch f8 (Qb om u om y om)).ch ey (Qm om)).ch ez (Qm om)
   have pF := ((((((c1.ch0 c2).ch0 cB).ch0 dB).ch fp (Xd om (Yl m om) (Yl o om))).ch f8 (Xd om K M)).ch ey (ne1 om)).ch ez (ne1 om)
   exact cL _ _ _ _ bG bH (sC4 rfl rfl rfl rfl (sC2 rfl rfl (Sub.nil _))) E om pA a4 p pB a5 q J pC pD om om aI aJ gc om om aK aL om pE pF aM aN
  refine Zz rfl rfl rfl ?_
  refine Yh zr86 fun bH lU cn cC jY => ?_
  have v9 := cC.size
  have E := E.trans cC.of_nil
  have jZ := cn.lt
  replace cn : Blk lU bH 86 [(.int .i64 0), (.int .i64 0), (.bool false)] := cn
  have gd : Ch ([b_p] ++ (bl (.slice bi a.length bj)) ++ (bl (.slice bn b.length bp))) lO lU := ((Ch.refl _ _).trans cC.of_nil)
  refine ⟨gd, ?_⟩
  refine Zat 7 16 (by kernel_rfl) ?_ ?_
  ·refine Zz rfl rfl rfl ?_
   have pG := ((m_p.ch0 C2).ch0 c2).ch0 cC
   have pH := ((b8.ch0 C2).ch0 c2).ch0 cC
   have pI := ((b9.ch0 C2).ch0 c2).ch0 cC
   have pJ := d0.ch0 cC
   refine Step.call (Zl (xs := [.tmp 56, .tmp 62]) fk65 rfl) (ih pG pH bh (Lo.down c om) pI bs (Lo.down e om) aR pJ om om oa ⟨by omega, by omega⟩ om) fun js pK d3 => ?_
   obtain ⟨d4, d5, rfl, cc, aZ, Q, R, a0, S, T, ad, dC⟩ := d3
   have wa := dC.size
   have E := E.step dC (fun i hm => by rcases List.mem_cons.1 hm with I | hm; (right; exact I ▸ List.mem_cons_self ..); (rcases List.mem_append.1 hm with hm | hm; (exact (.inr (mCo _ (mAL _ hm)))); (exact (.inr (mCo _ (mAR _ hm))))))
   obtain ⟨bQ, bR, rfl, d6, aD⟩ := aZ.opn
   have u : Lo L_p (.slice bQ ((bpT ta a b).L).length bR) := Yz Q R om (Ys c e)
   obtain ⟨bS, bT, rfl, d7, aE⟩ := a0.opn
   have y : Lo L_p (.slice bS ((bpT ta a b).F).length bT) := Yz S T om (Ys c e)
   have K := Zv Q R (show a3 < _ by omega) (Yk (Zs c m om) (Zs e o om))
   have a9 := Zv Q R (show bH < _ by omega) (Yk (Zs c m om) (Zs e o om))
   have az := Yt E Q R om (Ys (fun g hm => (.inr (mCo _ (mAL _ hm)))) (fun g hm => (.inr (mCo _ (mAR _ hm)))))
   have M := Zv S T (show a3 < _ by omega) (Yk (Zs c m om) (Zs e o om))
   have ba := Zv S T (show bH < _ by omega) (Yk (Zs c m om) (Zs e o om))
   have aA := Yt E S T om (Ys (fun g hm => (.inr (mCo _ (mAL _ hm)))) (fun g hm => (.inr (mCo _ (mAR _ hm)))))
   replace cc : Blk pK b_p t_p [(.slice bQ ((bpT ta a b).L).length bR), (.int .i64 b0), (.int .i64 b1), (.slice bS ((bpT ta a b).F).length bT), (.bool b2)] := cc
   have ge := gd.step dC (all3 (.inr (mAL _ (mAL _ (mSg.2 rfl)))) (fun i hm => .inr (mAL _ (mAR _ hm))) (fun i hm => .inr (mAR _ hm)))
   refine ⟨ge, ?_⟩
   refine Zat 15 16 (by kernel_rfl) ?_ ?_
   ·refine Zz rfl rfl rfl ?_
    have pL := (cM.ch0 cC).ch dC (Qb om c om e om)
    refine Step.call (Zl (xs := [.tmp 64, .tmp 70]) fk65 rfl) (ih cc aZ R (Lo.down u om) a0 T (Lo.down y om) ad pL om om ob ⟨by omega, by omega⟩ om) fun dN pM cq => ?_
    obtain ⟨cr, ct, rfl, a6, af, D, p, ag, G, q, J, hq⟩ := cq
    have wb := hq.size
    have E := E.step hq (fun i hm => by rcases List.mem_cons.1 hm with I | hm; (right; exact I ▸ List.mem_cons_self ..); (rcases List.mem_append.1 hm with hm | hm; (exact (az _ hm)); (exact (aA _ hm))))
    obtain ⟨aS, aT, rfl, cu, aO⟩ := af.opn
    have ap : Lo L_p (.slice aS ((bpT tb ((bpT ta a b).L) ((bpT ta a b).F)).L).length aT) := Yz D p om (Ys u y)
    obtain ⟨aU, aV, rfl, cv, aP⟩ := ag.opn
    have aq : Lo L_p (.slice aU ((bpT tb ((bpT ta a b).L) ((bpT ta a b).F)).F).length aV) := Yz G q om (Ys u y)
    have aM := Zv D p (show a3 < _ by omega) (Yk K M)
    have aK := Zv D p (show bH < _ by omega) (Yk a9 ba)
    have a4 := Yt E D p om (Ys (fun g hm => (az _ hm)) (fun g hm => (aA _ hm)))
    have aN := Zv G q (show a3 < _ by omega) (Yk K M)
    have aL := Zv G q (show bH < _ by omega) (Yk a9 ba)
    have a5 := Yt E G q om (Ys (fun g hm => (az _ hm)) (fun g hm => (aA _ hm)))
    replace a6 : Blk pM b_p t_p [(.slice aS ((bpT tb ((bpT ta a b).L) ((bpT ta a b).F)).L).length aT), (.int .i64 b0), (.int .i64 b1), (.slice aU ((bpT tb ((bpT ta a b).L) ((bpT ta a b).F)).F).length aV), (.bool b2)] := a6
    have ip := ge.step hq (all3 (.inr (mAL _ (mAL _ (mSg.2 rfl)))) (Xq Q om (.inr (mAL _ (mAL _ (mSg.2 rfl)))) (fun i hm => .inr (mAL _ (mAR _ hm))) (fun i hm => .inr (mAR _ hm))) (Xq S om (.inr (mAL _ (mAL _ (mSg.2 rfl)))) (fun i hm => .inr (mAL _ (mAR _ hm))) (fun i hm => .inr (mAR _ hm))))
    refine ⟨ip, ?_⟩
    refine dO 16 (Zz rfl rfl rfl ?_)
    refine Yh zr86 fun bG pN cm eA jW => ?_
    have wc := eA.size
    have E := E.trans eA.of_nil
    have jX := cm.lt
    replace cm : Blk pN bG 86 [(.int .i64 0), (.int .i64 0), (.bool false)] := cm
    have iq := ip.trans eA.of_nil
    refine ⟨iq, ?_⟩
    refine dO 18 (Zz rfl rfl rfl ?_)
    refine Zn (off := 0) 3 cm sz86 rfl (us := [(.int .i64 ((bpT ta a b).f)), (.int .i64 ((bpT ta a b).l)), (.bool ((bpT ta a b).n))]) rfl rfl rfl rfl fun pO gf eB => ?_
    have wd := eB.size
    have E := E.step eB (Xa om)
    replace gf : Blk pO bG 86 [(.int .i64 ((bpT ta a b).f)), (.int .i64 ((bpT ta a b).l)), (.bool ((bpT ta a b).n))] := gf
    have ir := iq.step eB (Xa om)
    refine ⟨ir, ?_⟩
    refine dO 19 (Zz rfl rfl rfl ?_)
    have pP := (((cn.ch dC (Xd om (Yl m om) (Yl o om))).ch hq (Xd om a9 ba)).ch0 eA).ch eB (ne1 om)
    refine Zn (off := 0) 3 pP sz86 rfl (us := [(.int .i64 ((bpT tb ((bpT ta a b).L) ((bpT ta a b).F)).f)), (.int .i64 ((bpT tb ((bpT ta a b).L) ((bpT ta a b).F)).l)), (.bool ((bpT tb ((bpT ta a b).L) ((bpT ta a b).F)).n))]) rfl rfl rfl rfl fun pQ gg eC => ?_
    have we := eC.size
    have E := E.step eC (Xa om)
    replace gg : Blk pQ bH 86 [(.int .i64 ((bpT tb ((bpT ta a b).L) ((bpT ta a b).F)).f)), (.int .i64 ((bpT tb ((bpT ta a b).L) ((bpT ta a b).F)).l)), (.bool ((bpT tb ((bpT ta a b).L) ((bpT ta a b).F)).n))] := gg
    have kr := ir.step eC (Xa om)
    refine ⟨kr, ?_⟩
    refine Yc (by kernel_rfl) ?_
    refine Zb ?_
    have pR := ((af.ch0 eA).ch eB (dS ap aO om)).ch eC (fun g hg hm => by have I := mSg.1 hm; exact aK (by first | exact hg | exact I ▸ hg))
    have pS := ((ag.ch0 eA).ch eB (dS aq aP om)).ch eC (fun g hg hm => by have I := mSg.1 hm; exact aL (by first | exact hg | exact I ▸ hg))
    have pT := ((a6.ch0 eA).ch eB (ne1 om)).ch eC (ne1 om)
    have pU := gf.ch eC (ne1 om)
    have pV := (((((hf.ch0 cC).ch dC (Qb om c om e om)).ch hq (Qb om u om y om)).ch0 eA).ch eB (Qm om)).ch eC (Qm om)
    have pW := ((((((c1.ch0 c2).ch0 cC).ch dC (Xd om (Yl m om) (Yl o om))).ch hq (Xd om K M)).ch0 eA).ch eB (ne1 om)).ch eC (ne1 om)
    exact cL _ _ _ _ bG bH (sC4 rfl rfl rfl rfl (sC2 rfl rfl (Sub.nil _))) E om pR a4 p pS a5 q J pT pU om om (Zs ap aO om) (Zs aq aP om) gg om om aK aL om pV pW aM aN
   refine Zz rfl rfl rfl ?_
   refine Yh zr86 fun bG pX cm dU jW => ?_
   have wf := dU.size
   have E := E.trans dU.of_nil
   have jX := cm.lt
   replace cm : Blk pX bG 86 [(.int .i64 0), (.int .i64 0), (.bool false)] := cm
   have it := ge.trans dU.of_nil
   refine ⟨it, ?_⟩
   refine dO 15 (Zz rfl rfl rfl ?_)
   have pY := cc.ch0 dU
   have pZ := aZ.ch0 dU
   have p0 := a0.ch0 dU
   have p1 := ((cM.ch0 cC).ch dC (Qb om c om e om)).ch0 dU
   refine Step.call (Zl (xs := [.tmp 64, .tmp 70]) fk65 rfl) (ih pY pZ R (Lo.down u om) p0 T (Lo.down y om) ad p1 om om ob ⟨by omega, by omega⟩ om) fun dN p2 cq => ?_
   obtain ⟨cr, ct, rfl, a6, af, D, p, ag, G, q, J, gh⟩ := cq
   have wg := gh.size
   have E := E.step gh (fun i hm => by rcases List.mem_cons.1 hm with I | hm; (right; exact I ▸ List.mem_cons_self ..); (rcases List.mem_append.1 hm with hm | hm; (exact (az _ hm)); (exact (aA _ hm))))
   obtain ⟨aS, aT, rfl, cu, aO⟩ := af.opn
   have ap : Lo L_p (.slice aS ((bpT tb ((bpT ta a b).L) ((bpT ta a b).F)).L).length aT) := Yz D p om (Ys u y)
   obtain ⟨aU, aV, rfl, cv, aP⟩ := ag.opn
   have aq : Lo L_p (.slice aU ((bpT tb ((bpT ta a b).L) ((bpT ta a b).F)).F).length aV) := Yz G q om (Ys u y)
   have aM := Zv D p (show a3 < _ by omega) (Yk K M)
   have aK := Zv D p (show bH < _ by omega) (Yk a9 ba)
   have aI := Zv D p (show bG < _ by omega) (Yk (Zs u aD om) (Zs y aE om))
   have a4 := Yt E D p om (Ys (fun g hm => (az _ hm)) (fun g hm => (aA _ hm)))
   have aN := Zv G q (show a3 < _ by omega) (Yk K M)
   have aL := Zv G q (show bH < _ by omega) (Yk a9 ba)
   have aJ := Zv G q (show bG < _ by omega) (Yk (Zs u aD om) (Zs y aE om))
   have a5 := Yt E G q om (Ys (fun g hm => (az _ hm)) (fun g hm => (aA _ hm)))
   replace a6 : Blk p2 b_p t_p [(.slice aS ((bpT tb ((bpT ta a b).L) ((bpT ta a b).F)).L).length aT), (.int .i64 b0), (.int .i64 b1), (.slice aU ((bpT tb ((bpT ta a b).L) ((bpT ta a b).F)).F).length aV), (.bool b2)] := a6
   have iu := it.step gh (all3 (.inr (mAL _ (mAL _ (mSg.2 rfl)))) (Xq Q om (.inr (mAL _ (mAL _ (mSg.2 rfl)))) (fun i hm => .inr (mAL _ (mAR _ hm))) (fun i hm => .inr (mAR _ hm))) (Xq S om (.inr (mAL _ (mAL _ (mSg.2 rfl)))) (fun i hm => .inr (mAL _ (mAR _ hm))) (fun i hm => .inr (mAR _ hm))))
   refine ⟨iu, ?_⟩
   refine dO 18 (Zz rfl rfl rfl ?_)
   have p3 := cm.ch gh (Xd om (Yl aD om) (Yl aE om))
   refine Zn (off := 0) 3 p3 sz86 rfl (us := [(.int .i64 ((bpT ta a b).f)), (.int .i64 ((bpT ta a b).l)), (.bool ((bpT ta a b).n))]) rfl rfl rfl rfl fun p4 gi eD => ?_
   have wh := eD.size
   have E := E.step eD (Xa om)
   replace gi : Blk p4 bG 86 [(.int .i64 ((bpT ta a b).f)), (.int .i64 ((bpT ta a b).l)), (.bool ((bpT ta a b).n))] := gi
   have iv := iu.step eD (Xa om)
   refine ⟨iv, ?_⟩
   refine dO 19 (Zz rfl rfl rfl ?_)
   have p5 := (((cn.ch dC (Xd om (Yl m om) (Yl o om))).ch0 dU).ch gh (Xd om a9 ba)).ch eD (ne1 om)
   refine Zn (off := 0) 3 p5 sz86 rfl (us := [(.int .i64 ((bpT tb ((bpT ta a b).L) ((bpT ta a b).F)).f)), (.int .i64 ((bpT tb ((bpT ta a b).L) ((bpT ta a b).F)).l)), (.bool ((bpT tb ((bpT ta a b).L) ((bpT ta a b).F)).n))]) rfl rfl rfl rfl fun p6 gj eE => ?_
   have wi := eE.size
   have E := E.step eE (Xa om)
   replace gj : Blk p6 bH 86 [(.int .i64 ((bpT tb ((bpT ta a b).L) ((bpT ta a b).F)).f)), (.int .i64 ((bpT tb ((bpT ta a b).L) ((bpT ta a b).F)).l)), (.bool ((bpT tb ((bpT ta a b).L) ((bpT ta a b).F)).n))] := gj
   have ks := iv.step eE (Xa om)
   refine ⟨ks, ?_⟩
   refine Yc (by kernel_rfl) ?_
   refine Zb ?_
   have p7 := (af.ch eD (fun g hg hm => by have I := mSg.1 hm; exact aI (by first | exact hg | exact I ▸ hg))).ch eE (fun g hg hm => by have I := mSg.1 hm; exact aK (by first | exact hg | exact I ▸ hg))
   have p8 := (ag.ch eD (fun g hg hm => by have I := mSg.1 hm; exact aJ (by first | exact hg | exact I ▸ hg))).ch eE (fun g hg hm => by have I := mSg.1 hm; exact aL (by first | exact hg | exact I ▸ hg))
   have p9 := (a6.ch eD (ne1 om)).ch eE (ne1 om)
   have qa := gi.ch eE (ne1 om)
   have qb := (((((hf.ch0 cC).ch dC (Qb om c om e om)).ch0 dU).ch gh (Qb om u om y om)).ch eD (Qm om)).ch eE (Qm om)
   have qc := ((((((c1.ch0 c2).ch0 cC).ch dC (Xd om (Yl m om) (Yl o om))).ch0 dU).ch gh (Xd om K M)).ch eD (ne1 om)).ch eE (ne1 om)
   exact cL _ _ _ _ bG bH (sC4 rfl rfl rfl rfl (sC2 rfl rfl (Sub.nil _))) E om p7 a4 p p8 a5 q J p9 qa om om aI aJ gj om om aK aL om qb qc aM aN
  refine Zz rfl rfl rfl ?_
  refine Yh zr86 fun bG qd cm dD jW => ?_
  have wj := dD.size
  have E := E.trans dD.of_nil
  have jX := cm.lt
  replace cm : Blk qd bG 86 [(.int .i64 0), (.int .i64 0), (.bool false)] := cm
  have iw := gd.trans dD.of_nil
  refine ⟨iw, ?_⟩
  refine dO 7 (Zz rfl rfl rfl ?_)
  have qe := (((m_p.ch0 C2).ch0 c2).ch0 cC).ch0 dD
  have qf := (((b8.ch0 C2).ch0 c2).ch0 cC).ch0 dD
  have qg := (((b9.ch0 C2).ch0 c2).ch0 cC).ch0 dD
  have qh := (d0.ch0 cC).ch0 dD
  refine Step.call (Zl (xs := [.tmp 56, .tmp 62]) fk65 rfl) (ih qe qf bh (Lo.down c om) qg bs (Lo.down e om) aR qh om om oa ⟨by omega, by omega⟩ om) fun js qi d3 => ?_
  obtain ⟨d4, d5, rfl, cc, aZ, Q, R, a0, S, T, ad, fq⟩ := d3
  have wk := fq.size
  have E := E.step fq (fun i hm => by rcases List.mem_cons.1 hm with I | hm; (right; exact I ▸ List.mem_cons_self ..); (rcases List.mem_append.1 hm with hm | hm; (exact (.inr (mCo _ (mAL _ hm)))); (exact (.inr (mCo _ (mAR _ hm))))))
  obtain ⟨bQ, bR, rfl, d6, aD⟩ := aZ.opn
  have u : Lo L_p (.slice bQ ((bpT ta a b).L).length bR) := Yz Q R om (Ys c e)
  obtain ⟨bS, bT, rfl, d7, aE⟩ := a0.opn
  have y : Lo L_p (.slice bS ((bpT ta a b).F).length bT) := Yz S T om (Ys c e)
  have K := Zv Q R (show a3 < _ by omega) (Yk (Zs c m om) (Zs e o om))
  have a9 := Zv Q R (show bH < _ by omega) (Yk (Zs c m om) (Zs e o om))
  have a7 := Zv Q R (show bG < _ by omega) (Yk (Zs c m om) (Zs e o om))
  have az := Yt E Q R om (Ys (fun g hm => (.inr (mCo _ (mAL _ hm)))) (fun g hm => (.inr (mCo _ (mAR _ hm)))))
  have M := Zv S T (show a3 < _ by omega) (Yk (Zs c m om) (Zs e o om))
  have ba := Zv S T (show bH < _ by omega) (Yk (Zs c m om) (Zs e o om))
  have a8 := Zv S T (show bG < _ by omega) (Yk (Zs c m om) (Zs e o om))
  have aA := Yt E S T om (Ys (fun g hm => (.inr (mCo _ (mAL _ hm)))) (fun g hm => (.inr (mCo _ (mAR _ hm)))))
  replace cc : Blk qi b_p t_p [(.slice bQ ((bpT ta a b).L).length bR), (.int .i64 b0), (.int .i64 b1), (.slice bS ((bpT ta a b).F).length bT), (.bool b2)] := cc
  have ix := iw.step fq (all3 (.inr (mAL _ (mAL _ (mSg.2 rfl)))) (fun i hm => .inr (mAL _ (mAR _ hm))) (fun i hm => .inr (mAR _ hm)))
  refine ⟨ix, ?_⟩
  refine dO 15 (Zz rfl rfl rfl ?_)
  have qj := ((cM.ch0 cC).ch0 dD).ch fq (Qb om c om e om)
  refine Step.call (Zl (xs := [.tmp 64, .tmp 70]) fk65 rfl) (ih cc aZ R (Lo.down u om) a0 T (Lo.down y om) ad qj om om ob ⟨by omega, by omega⟩ om) fun dN qk cq => ?_
  obtain ⟨cr, ct, rfl, a6, af, D, p, ag, G, q, J, gk⟩ := cq
  have wl := gk.size
  have E := E.step gk (fun i hm => by rcases List.mem_cons.1 hm with I | hm; (right; exact I ▸ List.mem_cons_self ..); (rcases List.mem_append.1 hm with hm | hm; (exact (az _ hm)); (exact (aA _ hm))))
  obtain ⟨aS, aT, rfl, cu, aO⟩ := af.opn
  have ap : Lo L_p (.slice aS ((bpT tb ((bpT ta a b).L) ((bpT ta a b).F)).L).length aT) := Yz D p om (Ys u y)
  obtain ⟨aU, aV, rfl, cv, aP⟩ := ag.opn
  have aq : Lo L_p (.slice aU ((bpT tb ((bpT ta a b).L) ((bpT ta a b).F)).F).length aV) := Yz G q om (Ys u y)
  have aM := Zv D p (show a3 < _ by omega) (Yk K M)
  have aK := Zv D p (show bH < _ by omega) (Yk a9 ba)
  have aI := Zv D p (show bG < _ by omega) (Yk a7 a8)
  have a4 := Yt E D p om (Ys (fun g hm => (az _ hm)) (fun g hm => (aA _ hm)))
  have aN := Zv G q (show a3 < _ by omega) (Yk K M)
  have aL := Zv G q (show bH < _ by omega) (Yk a9 ba)
  have aJ := Zv G q (show bG < _ by omega) (Yk a7 a8)
  have a5 := Yt E G q om (Ys (fun g hm => (az _ hm)) (fun g hm => (aA _ hm)))
  replace a6 : Blk qk b_p t_p [(.slice aS ((bpT tb ((bpT ta a b).L) ((bpT ta a b).F)).L).length aT), (.int .i64 b0), (.int .i64 b1), (.slice aU ((bpT tb ((bpT ta a b).L) ((bpT ta a b).F)).F).length aV), (.bool b2)] := a6
  have iy := ix.step gk (all3 (.inr (mAL _ (mAL _ (mSg.2 rfl)))) (Xq Q om (.inr (mAL _ (mAL _ (mSg.2 rfl)))) (fun i hm => .inr (mAL _ (mAR _ hm))) (fun i hm => .inr (mAR _ hm))) (Xq S om (.inr (mAL _ (mAL _ (mSg.2 rfl)))) (fun i hm => .inr (mAL _ (mAR _ hm))) (fun i hm => .inr (mAR _ hm))))
  refine ⟨iy, ?_⟩
  refine dO 18 (Zz rfl rfl rfl ?_)
  have ql := (cm.ch fq (Xd om (Yl m om) (Yl o om))).ch gk (Xd om a7 a8)
  refine Zn (off := 0) 3 ql sz86 rfl (us := [(.int .i64 ((bpT ta a b).f)), (.int .i64 ((bpT ta a b).l)), (.bool ((bpT ta a b).n))]) rfl rfl rfl rfl fun qm gl eF => ?_
  have wm := eF.size
  have E := E.step eF (Xa om)
  replace gl : Blk qm bG 86 [(.int .i64 ((bpT ta a b).f)), (.int .i64 ((bpT ta a b).l)), (.bool ((bpT ta a b).n))] := gl
  have iz := iy.step eF (Xa om)
  refine ⟨iz, ?_⟩
  refine dO 19 (Zz rfl rfl rfl ?_)
  have qn := (((cn.ch0 dD).ch fq (Xd om (Yl m om) (Yl o om))).ch gk (Xd om a9 ba)).ch eF (ne1 om)
  refine Zn (off := 0) 3 qn sz86 rfl (us := [(.int .i64 ((bpT tb ((bpT ta a b).L) ((bpT ta a b).F)).f)), (.int .i64 ((bpT tb ((bpT ta a b).L) ((bpT ta a b).F)).l)), (.bool ((bpT tb ((bpT ta a b).L) ((bpT ta a b).F)).n))]) rfl rfl rfl rfl fun qo gm eG => ?_
  have wn := eG.size
  have E := E.step eG (Xa om)
  replace gm : Blk qo bH 86 [(.int .i64 ((bpT tb ((bpT ta a b).L) ((bpT ta a b).F)).f)), (.int .i64 ((bpT tb ((bpT ta a b).L) ((bpT ta a b).F)).l)), (.bool ((bpT tb ((bpT ta a b).L) ((bpT ta a b).F)).n))] := gm
  have kt := iz.step eG (Xa om)
  refine ⟨kt, ?_⟩
  refine Yc (by kernel_rfl) ?_
  refine Zb ?_
  have qp := (af.ch eF (fun g hg hm => by have I := mSg.1 hm; exact aI (by first | exact hg | exact I ▸ hg))).ch eG (fun g hg hm => by have I := mSg.1 hm; exact aK (by first | exact hg | exact I ▸ hg))
  have qq := (ag.ch eF (fun g hg hm => by have I := mSg.1 hm; exact aJ (by first | exact hg | exact I ▸ hg))).ch eG (fun g hg hm => by have I := mSg.1 hm; exact aL (by first | exact hg | exact I ▸ hg))
  have qr := (a6.ch eF (ne1 om)).ch eG (ne1 om)
  have qs := gl.ch eG (ne1 om)
  have qt := (((((hf.ch0 cC).ch0 dD).ch fq (Qb om c om e om)).ch gk (Qb om u om y om)).ch eF (Qm om)).ch eG (Qm om)
  have qu := ((((((c1.ch0 c2).ch0 cC).ch0 dD).ch fq (Xd om (Yl m om) (Yl o om))).ch gk (Xd om K M)).ch eF (ne1 om)).ch eG (ne1 om)
  exact cL _ _ _ _ bG bH (sC4 rfl rfl rfl rfl (sC2 rfl rfl (Sub.nil _))) E om qp a4 p qq a5 q J qr qs om om aI aJ gm om om aK aL om qt qu aM aN
 have mX := fH
 have fH := Yj fH
 refine Zg fun yT qv => ?_
 refine Zc (Za rfl rfl (Yy rfl rfl) (Za rfl rfl (Zf rfl) (Ze (Zb (qv _ _ ?_)))))
 refine Zp rfl (fun gn => ?_) (fun gn => ?_)
 ·have lV := gn
  have gn := Yi gn
  obtain ⟨ta, tb, dz, fI, oa, ob, sab, ga, gb⟩ := hok.kk2 om
  have za := Zbq ta a b
  have zb := Zbq tb (bpT ta a b).L (bpT ta a b).F
  have eb := bp4 (L := a) (F := b) hok om dz fI
  refine Zg fun qw qx => ?_
  have cd : ∀ (lj : KL) (bz : World) (bk : Value) (bm : Value) (jp : Nat) (jq : Nat), Go.KLib.Sub [(0, (.pointer (some ⟨b_p, 0, none⟩))), (1, (.pointer (some p_x))), (4, (.pointer (some ⟨a3, 0, none⟩))), (8, (.pointer (some ⟨jp, 0, none⟩))), (9, (.pointer (some ⟨jq, 0, none⟩))), (16, (.int .i64 x.tok.kind))] lj → Ch (b_p :: (bl (.slice bi a.length bj) ++ bl (.slice bn b.length bp))) w bz → W2.heap.size ≤ bz.heap.size → Ol ics 3 1 bz bk ((bpT tb ((bpT ta a b).L) ((bpT ta a b).F)).L) → (∀ g ∈ bl bk, w.heap.size ≤ g ∨ g ∈ (b_p :: (bl (.slice bi a.length bj) ++ bl (.slice bn b.length bp)))) → b_p ∉ bl bk → Ol ics 3 1 bz bm ((bpT tb ((bpT ta a b).L) ((bpT ta a b).F)).F) → (∀ g ∈ bl bm, w.heap.size ≤ g ∨ g ∈ (b_p :: (bl (.slice bi a.length bj) ++ bl (.slice bn b.length bp)))) → b_p ∉ bl bm → (∀ g ∈ bl bk, g ∉ bl bm) → Blk bz b_p t_p [bk, (.int .i64 b0), (.int .i64 b1), bm, (.bool b2)] → Blk bz jp 86 [(.int .i64 ((bpT ta a b).f)), (.int .i64 ((bpT ta a b).l)), (.bool ((bpT ta a b).n))] → W2.heap.size ≤ jp → jp < bz.heap.size → jp ∉ bl bk → jp ∉ bl bm → Blk bz jq 86 [(.int .i64 ((bpT tb ((bpT ta a b).L) ((bpT ta a b).F)).f)), (.int .i64 ((bpT tb ((bpT ta a b).L) ((bpT ta a b).F)).l)), (.bool ((bpT tb ((bpT ta a b).L) ((bpT ta a b).F)).n))] → W2.heap.size ≤ jq → jq < bz.heap.size → jq ∉ bl bk → jq ∉ bl bm → jq ≠ jp → At bz LT_x L_p p_x ([.int .i64 x.tok.kind, .int .i64 x.tok.letter, .int .i64 x.tok.low, .int .i64 x.tok.high, (.slice j6 hC.length j7)]) → Blk bz a3 86 [(.int .i64 0), (.int .i64 0), (.bool false)] → a3 ∉ bl bk → a3 ∉ bl bm → qw lj bz := by
   intro lj bz bk bm jp jq fl E lW cg bM b3 ci bE bN bg j8 j0 wo wp cP cQ j1 wq wr cR cS mu jK dc aH ay
   refine qx _ _ (Znx fl ?_)
   have ku := E
   have mv := ku.size
   obtain ⟨bq, br, rfl, ha, cx⟩ := cg.opn
   have cy : Lo L_p (.slice bq ((bpT tb ((bpT ta a b).L) ((bpT ta a b).F)).L).length br) := fun g hm => by have c4 := cx _ hm; rcases bM _ hm with bY | bY; (omega); (rcases List.mem_cons.1 bY with bY | bY; (exact absurd (bY ▸ hm) b3); (replace hm := bY; rcases List.mem_append.1 hm with hm | hm; (have cw := c _ hm; have c5 := m _ hm; omega); (have cw := e _ hm; have c5 := o _ hm; omega)))
   obtain ⟨bO, bP, rfl, hc, cN⟩ := ci.opn
   have cz : Lo L_p (.slice bO ((bpT tb ((bpT ta a b).L) ((bpT ta a b).F)).F).length bP) := fun g hm => by have c4 := cN _ hm; rcases bE _ hm with bY | bY; (omega); (rcases List.mem_cons.1 bY with bY | bY; (exact absurd (bY ▸ hm) bN); (replace hm := bY; rcases List.mem_append.1 hm with hm | hm; (have cw := c _ hm; have c5 := m _ hm; omega); (have cw := e _ hm; have c5 := o _ hm; omega)))
   refine Zg fun yU qy => ?_
   refine Zc (Za rfl rfl (Zd rfl) (Za rfl rfl (Zh fa86_1 rfl) (Za rfl rfl (Zk j0.at_ agg3 rfl rfl) (Za rfl rfl (Zh fa86_0 rfl) (Za rfl rfl (Zk j1.at_ agg3 rfl rfl) (Zm rfl rfl ?_))))))
   refine Step.call (Zl (xs := [.tmp 107, .tmp 109, .tmp 111]) fk103 rfl) (Zbo j8 om cg b3 (Lo.down cy om) ci bN (Lo.down cz om) bg _ _ om (L_p := 0)) fun ws qz lX => ?_
   obtain ⟨mw, mx, rfl, d1, cT, cD, bA, cU, cE, bB, bF, fr⟩ := lX
   have wt := fr.size
   have E := E.step fr (fun i hm => by rcases List.mem_cons.1 hm with I | hm; (right; exact I ▸ List.mem_cons_self ..); (rcases List.mem_append.1 hm with hm | hm; (exact bM _ hm); (exact bE _ hm)))
   obtain ⟨bu, bv, rfl, my, ca⟩ := cT.opn
   have bK : Lo L_p (.slice bu (((bpT tb ((bpT ta a b).L) ((bpT ta a b).F)).L)).length bv) := Yz cD bA om (Ys cy cz)
   obtain ⟨bw, bx, rfl, mz, cb⟩ := cU.opn
   have bL : Lo L_p (.slice bw (lkL ((bpT ta a b).l) ((bpT tb ((bpT ta a b).L) ((bpT ta a b).F)).f) ((bpT tb ((bpT ta a b).L) ((bpT ta a b).F)).F)).length bx) := Yz cE bB om (Ys cy cz)
   have cV := Zv cD bA (show a3 < _ by omega) (Yk aH ay)
   have fB := Zv cD bA (show jp < _ by omega) (Yk cP cQ)
   have fC := Zv cD bA (show jq < _ by omega) (Yk cR cS)
   have dw := Yt E cD bA om (Ys (fun g hm => bM _ hm) (fun g hm => bE _ hm))
   have cW := Zv cE bB (show a3 < _ by omega) (Yk aH ay)
   have fD := Zv cE bB (show jp < _ by omega) (Yk cP cQ)
   have fE := Zv cE bB (show jq < _ by omega) (Yk cR cS)
   have dx := Yt E cE bB om (Ys (fun g hm => bM _ hm) (fun g hm => bE _ hm))
   replace d1 : Blk qz b_p t_p [(.slice bu (((bpT tb ((bpT ta a b).L) ((bpT ta a b).F)).L)).length bv), (.int .i64 b0), (.int .i64 b1), (.slice bw (lkL ((bpT ta a b).l) ((bpT tb ((bpT ta a b).L) ((bpT ta a b).F)).f) ((bpT tb ((bpT ta a b).L) ((bpT ta a b).F)).F)).length bx), (.bool b2)] := d1
   refine Ze (Zb (qy _ _ ?_))
   refine Zg fun yV lY => ?_
   refine Zc (Za rfl rfl (Zh fa86_0 rfl) ?_)
   have jt := j0.ch fr (Xd om cP cQ)
   refine Za rfl rfl (Zk jt.at_ agg3 rfl rfl) (Za rfl rfl (Zh fa86_1 rfl) ?_)
   have ju := j1.ch fr (Xd om cR cS)
   refine Za rfl rfl (Zk ju.at_ agg3 rfl rfl) (Za rfl rfl (Zh fa86_2 rfl) (Za rfl rfl (Zk jt.at_ agg4 rfl rfl) (Za rfl rfl (Zd rfl) ?_)))
   refine Yp (d := 119) rfl (fun C => ?_) (fun C => ?_)
   ·have iA := C
    refine Za rfl rfl (Zh fa86_2 rfl) (Za rfl rfl (Zk ju.at_ agg4 rfl rfl) (Za rfl rfl (Ya rfl rfl) (Za rfl rfl (Yn (parts := [(0, .tmp 114), (1, .tmp 116), (2, .tmp 122)]) (cells := [(.int .i64 ((bpT ta a b).f)), (.int .i64 ((bpT tb ((bpT ta a b).L) ((bpT ta a b).F)).l)), (.bool ((bpT tb ((bpT ta a b).L) ((bpT ta a b).F)).n))]) zr86 pl86 rfl rfl) (Zm rfl rfl ?_))))
    refine Yh zr86 fun fs qA eH dp qB => ?_
    have wu := dp.size
    have E := E.trans dp.of_nil
    have qC := eH.lt
    replace eH : Blk qA fs 86 [(.int .i64 0), (.int .i64 0), (.bool false)] := eH
    refine Zm rfl rfl ?_
    refine Zn (off := 0) 3 eH sz86 rfl (us := [(.int .i64 ((bpT ta a b).f)), (.int .i64 ((bpT tb ((bpT ta a b).L) ((bpT ta a b).F)).l)), (.bool ((bpT tb ((bpT ta a b).L) ((bpT ta a b).F)).n))]) rfl rfl rfl rfl fun qD eI dq => ?_
    have wv := dq.size
    have E := E.step dq (Xa om)
    replace eI : Blk qD fs 86 [(.int .i64 ((bpT ta a b).f)), (.int .i64 ((bpT tb ((bpT ta a b).L) ((bpT ta a b).F)).l)), (.bool ((bpT tb ((bpT ta a b).L) ((bpT ta a b).F)).n))] := eI
    refine Ze (Zb (lY _ _ ?_))
    refine Zg fun yW qE => ?_
    refine Zg fun yX qF => ?_
    refine Zc (Za rfl rfl (Zh fa86_2 rfl) ?_)
    have lZ := (jt.ch0 dp).ch dq (ne1 om)
    refine Za rfl rfl (Zk lZ.at_ agg4 rfl rfl) (Ze (Zb (qF _ _ ?_)))
    refine Zas rfl iA ?_
    refine Zc (Za rfl rfl (Zh fa86_0 rfl) (Za rfl rfl (Zk eI.at_ agg3 rfl rfl) (Za rfl rfl (Zh fa86_0 rfl) ?_)))
    have l0 := (ju.ch0 dp).ch dq (ne1 om)
    refine Za rfl rfl (Zk l0.at_ agg3 rfl rfl) (Za rfl rfl (r_or rfl rfl) (Za rfl rfl (Zh fa86_0 rfl) (Zm rfl rfl ?_)))
    refine Xm (off := 0) eI sz3 rfl rfl rfl rfl fun qG dE dr => ?_
    have ww := dr.size
    have E := E.step dr (Xa om)
    replace dE : Blk qG fs 86 [(.int .i64 (ior ((bpT ta a b).f) ((bpT tb ((bpT ta a b).L) ((bpT ta a b).F)).f))), (.int .i64 ((bpT tb ((bpT ta a b).L) ((bpT ta a b).F)).l)), (.bool ((bpT tb ((bpT ta a b).L) ((bpT ta a b).F)).n))] := dE
    refine Ze (Zb (qE _ _ ?_))
    refine Zg fun yY l1 => ?_
    refine Zg fun yZ qH => ?_
    refine Zc (Za rfl rfl (Zh fa86_2 rfl) ?_)
    have qI := l0.ch dr (ne1 om)
    refine Za rfl rfl (Zk qI.at_ agg4 rfl rfl) (Ze (Zb (qH _ _ ?_)))
    refine Zp rfl (fun B => ?_) (fun B => ?_)
    ·have l2 := B
     refine Zc (Za rfl rfl (Zh fa86_1 rfl) (Za rfl rfl (Zk dE.at_ agg3 rfl rfl) (Za rfl rfl (Zh fa86_1 rfl) ?_)))
     have qJ := lZ.ch dr (ne1 om)
     refine Za rfl rfl (Zk qJ.at_ agg3 rfl rfl) (Za rfl rfl (r_or rfl rfl) (Za rfl rfl (Zh fa86_1 rfl) (Zm rfl rfl ?_)))
     refine Xm (off := 1) dE sz3 rfl rfl rfl rfl fun qK gp hr => ?_
     have wx := hr.size
     have E := E.step hr (Xa om)
     replace gp : Blk qK fs 86 [(.int .i64 (ior ((bpT ta a b).f) ((bpT tb ((bpT ta a b).L) ((bpT ta a b).F)).f))), (.int .i64 (ior ((bpT tb ((bpT ta a b).L) ((bpT ta a b).F)).l) ((bpT ta a b).l))), (.bool ((bpT tb ((bpT ta a b).L) ((bpT ta a b).F)).n))] := gp
     refine Ze (Zb (l1 _ _ ?_))
     refine Zg fun y0 qL => ?_
     refine Zc (Za rfl rfl (Zy gp.at_ agg86 sz86 rfl) (Zm rfl rfl ?_))
     have qM := ((((dc.ch fr (Xd om aH ay)).ch0 dp).ch dq (ne1 om)).ch dr (ne1 om)).ch hr (ne1 om)
     refine Zn (off := 0) 3 qM sz86 rfl (us := [(.int .i64 (ior ((bpT ta a b).f) ((bpT tb ((bpT ta a b).L) ((bpT ta a b).F)).f))), (.int .i64 (ior ((bpT tb ((bpT ta a b).L) ((bpT ta a b).F)).l) ((bpT ta a b).l))), (.bool ((bpT tb ((bpT ta a b).L) ((bpT ta a b).F)).n))]) rfl rfl rfl rfl fun jv gq iB => ?_
     have wy := iB.size
     have E := E.step iB (Xa om)
     replace gq : Blk jv a3 86 [(.int .i64 (ior ((bpT ta a b).f) ((bpT tb ((bpT ta a b).L) ((bpT ta a b).F)).f))), (.int .i64 (ior ((bpT tb ((bpT ta a b).L) ((bpT ta a b).F)).l) ((bpT ta a b).l))), (.bool ((bpT tb ((bpT ta a b).L) ((bpT ta a b).F)).n))] := gq
     refine Ze (Zb (qL _ _ ?_))
     refine Zq (Yd (Zo ?_))
     have qN := ((((d1.ch0 dp).ch dq (ne1 om)).ch dr (ne1 om)).ch hr (ne1 om)).ch iB (ne1 om)
     have qO := ((((cT.ch0 dp).ch dq (dS bK ca om)).ch dr (dS bK ca om)).ch hr (dS bK ca om)).ch iB (fun g hg hm => by have I := mSg.1 hm; exact cV (by first | exact hg | exact I ▸ hg))
     have kv : Ol ics 3 1 jv (.slice bu (((bpT tb ((bpT ta a b).L) ((bpT ta a b).F)).L)).length bv) ((bpT x a b).L) := by
      have hx := qO
      exact hx.eq (by rw [eb] <;> first | rfl | exact rbA C | exact rbB C | exact rbC C | exact rbD C | exact rbE C | (rw [C]; simp; done) | exact rbA B | exact rbB B | exact rbC B | exact rbD B | exact rbE B | (rw [B]; simp; done) | (rw [hte]; done))
     have qP := ((((cU.ch0 dp).ch dq (dS bL cb om)).ch dr (dS bL cb om)).ch hr (dS bL cb om)).ch iB (fun g hg hm => by have I := mSg.1 hm; exact cW (by first | exact hg | exact I ▸ hg))
     have kw : Ol ics 3 1 jv (.slice bw (lkL ((bpT ta a b).l) ((bpT tb ((bpT ta a b).L) ((bpT ta a b).F)).f) ((bpT tb ((bpT ta a b).L) ((bpT ta a b).F)).F)).length bx) ((bpT x a b).F) := by
      have hx := qP
      exact hx.eq (by rw [eb] <;> first | rfl | exact rbA C | exact rbB C | exact rbC C | exact rbD C | exact rbE C | (rw [C]; simp; done) | exact rbA B | exact rbB B | exact rbC B | exact rbD B | exact rbE B | (rw [B]; simp; done) | (rw [hte]; done))
     have kx : Blk jv b_p t_p [(.slice bu (((bpT tb ((bpT ta a b).L) ((bpT ta a b).F)).L)).length bv), .int .i64 b0, .int .i64 b1, (.slice bw (lkL ((bpT ta a b).l) ((bpT tb ((bpT ta a b).L) ((bpT ta a b).F)).f) ((bpT tb ((bpT ta a b).L) ((bpT ta a b).F)).F)).length bx), .bool b2] := by
      have hx := qN
      exact hx
     exact Zi [_] (Zt gq rfl agg86 sz86 trivial) ⟨(.slice bu (((bpT tb ((bpT ta a b).L) ((bpT ta a b).F)).L)).length bv), (.slice bw (lkL ((bpT ta a b).l) ((bpT tb ((bpT ta a b).L) ((bpT ta a b).F)).f) ((bpT tb ((bpT ta a b).L) ((bpT ta a b).F)).F)).length bx), (((congrArg (fun zq => (Value.agg #[.int .i64 zq, .int .i64 (ior ((bpT tb ((bpT ta a b).L) ((bpT ta a b).F)).l) ((bpT ta a b).l)), .bool ((bpT tb ((bpT ta a b).L) ((bpT ta a b).F)).n)])) (by rw [eb] <;> first | rfl | exact rbA C | exact rbB C | exact rbC C | exact rbD C | exact rbE C | (rw [C]; simp; done) | exact rbA B | exact rbB B | exact rbC B | exact rbD B | exact rbE B | (rw [B]; simp; done) | (rw [hte]; done))).trans (congrArg (fun zq => (Value.agg #[.int .i64 ((bpT x a b).f), .int .i64 zq, .bool ((bpT tb ((bpT ta a b).L) ((bpT ta a b).F)).n)])) (by rw [eb] <;> first | rfl | exact rbA C | exact rbB C | exact rbC C | exact rbD C | exact rbE C | (rw [C]; simp; done) | exact rbA B | exact rbB B | exact rbC B | exact rbD B | exact rbE B | (rw [B]; simp; done) | (rw [hte]; done)))).trans (congrArg (fun zq => (Value.agg #[.int .i64 ((bpT x a b).f), .int .i64 ((bpT x a b).l), .bool zq])) (by rw [eb] <;> first | rfl | exact rbA C | exact rbB C | exact rbC C | exact rbD C | exact rbE C | (rw [C]; simp; done) | exact rbA B | exact rbB B | exact rbC B | exact rbD B | exact rbE B | (rw [B]; simp; done) | (rw [hte]; done)))), kx, kv, dw, bA, kw, dx, bB, bF, E⟩
    have l2 := B
    refine Zu ?_
    refine Zb (l1 _ _ ?_)
    refine Zg fun y1 qQ => ?_
    refine Zc (Za rfl rfl (Zy dE.at_ agg86 sz86 rfl) (Zm rfl rfl ?_))
    have qR := (((dc.ch fr (Xd om aH ay)).ch0 dp).ch dq (ne1 om)).ch dr (ne1 om)
    refine Zn (off := 0) 3 qR sz86 rfl (us := [(.int .i64 (ior ((bpT ta a b).f) ((bpT tb ((bpT ta a b).L) ((bpT ta a b).F)).f))), (.int .i64 ((bpT tb ((bpT ta a b).L) ((bpT ta a b).F)).l)), (.bool ((bpT tb ((bpT ta a b).L) ((bpT ta a b).F)).n))]) rfl rfl rfl rfl fun jw gr iC => ?_
    have wz := iC.size
    have E := E.step iC (Xa om)
    replace gr : Blk jw a3 86 [(.int .i64 (ior ((bpT ta a b).f) ((bpT tb ((bpT ta a b).L) ((bpT ta a b).F)).f))), (.int .i64 ((bpT tb ((bpT ta a b).L) ((bpT ta a b).F)).l)), (.bool ((bpT tb ((bpT ta a b).L) ((bpT ta a b).F)).n))] := gr
    refine Ze (Zb (qQ _ _ ?_))
    refine Zq (Yd (Zo ?_))
    have qS := (((d1.ch0 dp).ch dq (ne1 om)).ch dr (ne1 om)).ch iC (ne1 om)
    have qT := (((cT.ch0 dp).ch dq (dS bK ca om)).ch dr (dS bK ca om)).ch iC (fun g hg hm => by have I := mSg.1 hm; exact cV (by first | exact hg | exact I ▸ hg))
    have ky : Ol ics 3 1 jw (.slice bu (((bpT tb ((bpT ta a b).L) ((bpT ta a b).F)).L)).length bv) ((bpT x a b).L) := by
     have hx := qT
     exact hx.eq (by rw [eb] <;> first | rfl | exact rbA C | exact rbB C | exact rbC C | exact rbD C | exact rbE C | (rw [C]; simp; done) | exact rbA B | exact rbB B | exact rbC B | exact rbD B | exact rbE B | (rw [B]; simp; done) | (rw [hte]; done))
    have qU := (((cU.ch0 dp).ch dq (dS bL cb om)).ch dr (dS bL cb om)).ch iC (fun g hg hm => by have I := mSg.1 hm; exact cW (by first | exact hg | exact I ▸ hg))
    have kz : Ol ics 3 1 jw (.slice bw (lkL ((bpT ta a b).l) ((bpT tb ((bpT ta a b).L) ((bpT ta a b).F)).f) ((bpT tb ((bpT ta a b).L) ((bpT ta a b).F)).F)).length bx) ((bpT x a b).F) := by
     have hx := qU
     exact hx.eq (by rw [eb] <;> first | rfl | exact rbA C | exact rbB C | exact rbC C | exact rbD C | exact rbE C | (rw [C]; simp; done) | exact rbA B | exact rbB B | exact rbC B | exact rbD B | exact rbE B | (rw [B]; simp; done) | (rw [hte]; done))
    have kA : Blk jw b_p t_p [(.slice bu (((bpT tb ((bpT ta a b).L) ((bpT ta a b).F)).L)).length bv), .int .i64 b0, .int .i64 b1, (.slice bw (lkL ((bpT ta a b).l) ((bpT tb ((bpT ta a b).L) ((bpT ta a b).F)).f) ((bpT tb ((bpT ta a b).L) ((bpT ta a b).F)).F)).length bx), .bool b2] := by
     have hx := qS
     exact hx
    exact Zi [_] (Zt gr rfl agg86 sz86 trivial) ⟨(.slice bu (((bpT tb ((bpT ta a b).L) ((bpT ta a b).F)).L)).length bv), (.slice bw (lkL ((bpT ta a b).l) ((bpT tb ((bpT ta a b).L) ((bpT ta a b).F)).f) ((bpT tb ((bpT ta a b).L) ((bpT ta a b).F)).F)).length bx), (((congrArg (fun zq => (Value.agg #[.int .i64 zq, .int .i64 ((bpT tb ((bpT ta a b).L) ((bpT ta a b).F)).l), .bool ((bpT tb ((bpT ta a b).L) ((bpT ta a b).F)).n)])) (by rw [eb] <;> first | rfl | exact rbA C | exact rbB C | exact rbC C | exact rbD C | exact rbE C | (rw [C]; simp; done) | exact rbA B | exact rbB B | exact rbC B | exact rbD B | exact rbE B | (rw [B]; simp; done) | (rw [hte]; done))).trans (congrArg (fun zq => (Value.agg #[.int .i64 ((bpT x a b).f), .int .i64 zq, .bool ((bpT tb ((bpT ta a b).L) ((bpT ta a b).F)).n)])) (by rw [eb] <;> first | rfl | exact rbA C | exact rbB C | exact rbC C | exact rbD C | exact rbE C | (rw [C]; simp; done) | exact rbA B | exact rbB B | exact rbC B | exact rbD B | exact rbE B | (rw [B]; simp; done) | (rw [hte]; done)))).trans (congrArg (fun zq => (Value.agg #[.int .i64 ((bpT x a b).f), .int .i64 ((bpT x a b).l), .bool zq])) (by rw [eb] <;> first | rfl | exact rbA C | exact rbB C | exact rbC C | exact rbD C | exact rbE C | (rw [C]; simp; done) | exact rbA B | exact rbB B | exact rbC B | exact rbD B | exact rbE B | (rw [B]; simp; done) | (rw [hte]; done)))), kA, ky, dw, bA, kz, dx, bB, bF, E⟩
   have iA := C
   refine Zj rfl rfl (Zj rfl rfl (Za rfl rfl (Yb rfl rfl) (Za rfl rfl (Yn (parts := [(0, .tmp 114), (1, .tmp 116), (2, .tmp 122)]) (cells := [(.int .i64 ((bpT ta a b).f)), (.int .i64 ((bpT tb ((bpT ta a b).L) ((bpT ta a b).F)).l)), (.bool false)]) zr86 pl86 rfl rfl) (Zm rfl rfl ?_))))
   refine Yh zr86 fun fs qV eH ds qB => ?_
   have wA := ds.size
   have E := E.trans ds.of_nil
   have qC := eH.lt
   replace eH : Blk qV fs 86 [(.int .i64 0), (.int .i64 0), (.bool false)] := eH
   refine Zm rfl rfl ?_
   refine Zn (off := 0) 3 eH sz86 rfl (us := [(.int .i64 ((bpT ta a b).f)), (.int .i64 ((bpT tb ((bpT ta a b).L) ((bpT ta a b).F)).l)), (.bool false)]) rfl rfl rfl rfl fun qW dF dt => ?_
   have wB := dt.size
   have E := E.step dt (Xa om)
   replace dF : Blk qW fs 86 [(.int .i64 ((bpT ta a b).f)), (.int .i64 ((bpT tb ((bpT ta a b).L) ((bpT ta a b).F)).l)), (.bool false)] := dF
   refine Ze (Zb (lY _ _ ?_))
   refine Zg fun y2 qX => ?_
   refine Zg fun y3 qY => ?_
   refine Zc (Za rfl rfl (Zh fa86_2 rfl) ?_)
   have l3 := (jt.ch0 ds).ch dt (ne1 om)
   refine Za rfl rfl (Zk l3.at_ agg4 rfl rfl) (Ze (Zb (qY _ _ ?_)))
   refine Znf rfl iA ?_
   refine Zu ?_
   refine Zb (qX _ _ ?_)
   refine Zg fun y4 l4 => ?_
   refine Zg fun y5 qZ => ?_
   refine Zc (Za rfl rfl (Zh fa86_2 rfl) ?_)
   have q0 := (ju.ch0 ds).ch dt (ne1 om)
   refine Za rfl rfl (Zk q0.at_ agg4 rfl rfl) (Ze (Zb (qZ _ _ ?_)))
   refine Zp rfl (fun B => ?_) (fun B => ?_)
   ·have l5 := B
    refine Zc (Za rfl rfl (Zh fa86_1 rfl) (Za rfl rfl (Zk dF.at_ agg3 rfl rfl) (Za rfl rfl (Zh fa86_1 rfl) (Za rfl rfl (Zk l3.at_ agg3 rfl rfl) (Za rfl rfl (r_or rfl rfl) (Za rfl rfl (Zh fa86_1 rfl) (Zm rfl rfl ?_)))))))
    refine Xm (off := 1) dF sz3 rfl rfl rfl rfl fun q1 gs hs => ?_
    have wC := hs.size
    have E := E.step hs (Xa om)
    replace gs : Blk q1 fs 86 [(.int .i64 ((bpT ta a b).f)), (.int .i64 (ior ((bpT tb ((bpT ta a b).L) ((bpT ta a b).F)).l) ((bpT ta a b).l))), (.bool false)] := gs
    refine Ze (Zb (l4 _ _ ?_))
    refine Zg fun y6 q2 => ?_
    refine Zc (Za rfl rfl (Zy gs.at_ agg86 sz86 rfl) (Zm rfl rfl ?_))
    have q3 := (((dc.ch fr (Xd om aH ay)).ch0 ds).ch dt (ne1 om)).ch hs (ne1 om)
    refine Zn (off := 0) 3 q3 sz86 rfl (us := [(.int .i64 ((bpT ta a b).f)), (.int .i64 (ior ((bpT tb ((bpT ta a b).L) ((bpT ta a b).F)).l) ((bpT ta a b).l))), (.bool false)]) rfl rfl rfl rfl fun jx gt iD => ?_
    have wD := iD.size
    have E := E.step iD (Xa om)
    replace gt : Blk jx a3 86 [(.int .i64 ((bpT ta a b).f)), (.int .i64 (ior ((bpT tb ((bpT ta a b).L) ((bpT ta a b).F)).l) ((bpT ta a b).l))), (.bool false)] := gt
    refine Ze (Zb (q2 _ _ ?_))
    refine Zq (Yd (Zo ?_))
    have q4 := (((d1.ch0 ds).ch dt (ne1 om)).ch hs (ne1 om)).ch iD (ne1 om)
    have q5 := (((cT.ch0 ds).ch dt (dS bK ca om)).ch hs (dS bK ca om)).ch iD (fun g hg hm => by have I := mSg.1 hm; exact cV (by first | exact hg | exact I ▸ hg))
    have kB : Ol ics 3 1 jx (.slice bu (((bpT tb ((bpT ta a b).L) ((bpT ta a b).F)).L)).length bv) ((bpT x a b).L) := by
     have hx := q5
     exact hx.eq (by rw [eb] <;> first | rfl | exact rbA C | exact rbB C | exact rbC C | exact rbD C | exact rbE C | (rw [C]; simp; done) | exact rbA B | exact rbB B | exact rbC B | exact rbD B | exact rbE B | (rw [B]; simp; done) | (rw [hte]; done))
    have q6 := (((cU.ch0 ds).ch dt (dS bL cb om)).ch hs (dS bL cb om)).ch iD (fun g hg hm => by have I := mSg.1 hm; exact cW (by first | exact hg | exact I ▸ hg))
    have kC : Ol ics 3 1 jx (.slice bw (lkL ((bpT ta a b).l) ((bpT tb ((bpT ta a b).L) ((bpT ta a b).F)).f) ((bpT tb ((bpT ta a b).L) ((bpT ta a b).F)).F)).length bx) ((bpT x a b).F) := by
     have hx := q6
     exact hx.eq (by rw [eb] <;> first | rfl | exact rbA C | exact rbB C | exact rbC C | exact rbD C | exact rbE C | (rw [C]; simp; done) | exact rbA B | exact rbB B | exact rbC B | exact rbD B | exact rbE B | (rw [B]; simp; done) | (rw [hte]; done))
    have kD : Blk jx b_p t_p [(.slice bu (((bpT tb ((bpT ta a b).L) ((bpT ta a b).F)).L)).length bv), .int .i64 b0, .int .i64 b1, (.slice bw (lkL ((bpT ta a b).l) ((bpT tb ((bpT ta a b).L) ((bpT ta a b).F)).f) ((bpT tb ((bpT ta a b).L) ((bpT ta a b).F)).F)).length bx), .bool b2] := by
     have hx := q4
     exact hx
    exact Zi [_] (Zt gt rfl agg86 sz86 trivial) ⟨(.slice bu (((bpT tb ((bpT ta a b).L) ((bpT ta a b).F)).L)).length bv), (.slice bw (lkL ((bpT ta a b).l) ((bpT tb ((bpT ta a b).L) ((bpT ta a b).F)).f) ((bpT tb ((bpT ta a b).L) ((bpT ta a b).F)).F)).length bx), (((congrArg (fun zq => (Value.agg #[.int .i64 zq, .int .i64 (ior ((bpT tb ((bpT ta a b).L) ((bpT ta a b).F)).l) ((bpT ta a b).l)), .bool false])) (by rw [eb] <;> first | rfl | exact rbA C | exact rbB C | exact rbC C | exact rbD C | exact rbE C | (rw [C]; simp; done) | exact rbA B | exact rbB B | exact rbC B | exact rbD B | exact rbE B | (rw [B]; simp; done) | (rw [hte]; done))).trans (congrArg (fun zq => (Value.agg #[.int .i64 ((bpT x a b).f), .int .i64 zq, .bool false])) (by rw [eb] <;> first | rfl | exact rbA C | exact rbB C | exact rbC C | exact rbD C | exact rbE C | (rw [C]; simp; done) | exact rbA B | exact rbB B | exact rbC B | exact rbD B | exact rbE B | (rw [B]; simp; done) | (rw [hte]; done)))).trans (congrArg (fun zq => (Value.agg #[.int .i64 ((bpT x a b).f), .int .i64 ((bpT x a b).l), .bool zq])) (by rw [eb] <;> first | rfl | exact rbA C | exact rbB C | exact rbC C | exact rbD C | exact rbE C | (rw [C]; simp; done) | exact rbA B | exact rbB B | exact rbC B | exact rbD B | exact rbE B | (rw [B]; simp; done) | (rw [hte]; done)))), kD, kB, dw, bA, kC, dx, bB, bF, E⟩
   have l5 := B
   refine Zu ?_
   refine Zb (l4 _ _ ?_)
   refine Zg fun y7 q7 => ?_
   refine Zc (Za rfl rfl (Zy dF.at_ agg86 sz86 rfl) (Zm rfl rfl ?_))
   have q8 := ((dc.ch fr (Xd om aH ay)).ch0 ds).ch dt (ne1 om)
   refine Zn (off := 0) 3 q8 sz86 rfl (us := [(.int .i64 ((bpT ta a b).f)), (.int .i64 ((bpT tb ((bpT ta a b).L) ((bpT ta a b).F)).l)), (.bool false)]) rfl rfl rfl rfl fun jy gu iE => ?_
   have wE := iE.size
   have E := E.step iE (Xa om)
   replace gu : Blk jy a3 86 [(.int .i64 ((bpT ta a b).f)), (.int .i64 ((bpT tb ((bpT ta a b).L) ((bpT ta a b).F)).l)), (.bool false)] := gu
   refine Ze (Zb (q7 _ _ ?_))
   refine Zq (Yd (Zo ?_))
   have q9 := ((d1.ch0 ds).ch dt (ne1 om)).ch iE (ne1 om)
   have ra := ((cT.ch0 ds).ch dt (dS bK ca om)).ch iE (fun g hg hm => by have I := mSg.1 hm; exact cV (by first | exact hg | exact I ▸ hg))
   have kE : Ol ics 3 1 jy (.slice bu (((bpT tb ((bpT ta a b).L) ((bpT ta a b).F)).L)).length bv) ((bpT x a b).L) := by
    have hx := ra
    exact hx.eq (by rw [eb] <;> first | rfl | exact rbA C | exact rbB C | exact rbC C | exact rbD C | exact rbE C | (rw [C]; simp; done) | exact rbA B | exact rbB B | exact rbC B | exact rbD B | exact rbE B | (rw [B]; simp; done) | (rw [hte]; done))
   have rb := ((cU.ch0 ds).ch dt (dS bL cb om)).ch iE (fun g hg hm => by have I := mSg.1 hm; exact cW (by first | exact hg | exact I ▸ hg))
   have kF : Ol ics 3 1 jy (.slice bw (lkL ((bpT ta a b).l) ((bpT tb ((bpT ta a b).L) ((bpT ta a b).F)).f) ((bpT tb ((bpT ta a b).L) ((bpT ta a b).F)).F)).length bx) ((bpT x a b).F) := by
    have hx := rb
    exact hx.eq (by rw [eb] <;> first | rfl | exact rbA C | exact rbB C | exact rbC C | exact rbD C | exact rbE C | (rw [C]; simp; done) | exact rbA B | exact rbB B | exact rbC B | exact rbD B | exact rbE B | (rw [B]; simp; done) | (rw [hte]; done))
   have kG : Blk jy b_p t_p [(.slice bu (((bpT tb ((bpT ta a b).L) ((bpT ta a b).F)).L)).length bv), .int .i64 b0, .int .i64 b1, (.slice bw (lkL ((bpT ta a b).l) ((bpT tb ((bpT ta a b).L) ((bpT ta a b).F)).f) ((bpT tb ((bpT ta a b).L) ((bpT ta a b).F)).F)).length bx), .bool b2] := by
    have hx := q9
    exact hx
   exact Zi [_] (Zt gu rfl agg86 sz86 trivial) ⟨(.slice bu (((bpT tb ((bpT ta a b).L) ((bpT ta a b).F)).L)).length bv), (.slice bw (lkL ((bpT ta a b).l) ((bpT tb ((bpT ta a b).L) ((bpT ta a b).F)).f) ((bpT tb ((bpT ta a b).L) ((bpT ta a b).F)).F)).length bx), (((congrArg (fun zq => (Value.agg #[.int .i64 zq, .int .i64 ((bpT tb ((bpT ta a b).L) ((bpT ta a b).F)).l), .bool false])) (by rw [eb] <;> first | rfl | exact rbA C | exact rbB C | exact rbC C | exact rbD C | exact rbE C | (rw [C]; simp; done) | exact rbA B | exact rbB B | exact rbC B | exact rbD B | exact rbE B | (rw [B]; simp; done) | (rw [hte]; done))).trans (congrArg (fun zq => (Value.agg #[.int .i64 ((bpT x a b).f), .int .i64 zq, .bool false])) (by rw [eb] <;> first | rfl | exact rbA C | exact rbB C | exact rbC C | exact rbD C | exact rbE C | (rw [C]; simp; done) | exact rbA B | exact rbB B | exact rbC B | exact rbD B | exact rbE B | (rw [B]; simp; done) | (rw [hte]; done)))).trans (congrArg (fun zq => (Value.agg #[.int .i64 ((bpT x a b).f), .int .i64 ((bpT x a b).l), .bool zq])) (by rw [eb] <;> first | rfl | exact rbA C | exact rbB C | exact rbC C | exact rbD C | exact rbE C | (rw [C]; simp; done) | exact rbA B | exact rbB B | exact rbC B | exact rbD B | exact rbE B | (rw [B]; simp; done) | (rw [hte]; done)))), kG, kE, dw, bA, kF, dx, bB, bF, E⟩
  refine Xb ([b_p] ++ (bl (.slice bi a.length bj)) ++ (bl (.slice bn b.length bp))) 20 mixed rfl fun iF bC => ?_
  have wF := bC.size
  have E := E.trans bC.of_nil
  refine dV 0 rfl rfl rfl (fun _ => Zd rfl) (dV 1 rfl rfl rfl (fun _ => Zd rfl) (dV 2 rfl rfl rfl (fun _ => Yf rfl) (dV 3 rfl rfl rfl (fun _ => Zh fa131_1 rfl) ?_)))
  have dd := F5.ch0 bC
  refine dT 4 rfl rfl rfl (Xh dd (fun i hm => by rcases List.mem_append.1 hm with hm | hm; (rcases List.mem_append.1 hm with hm | hm; (have cw := mSg.1 hm; omega); (have cw := c _ hm; have c5 := m _ hm; omega)); (have cw := e _ hm; have c5 := o _ hm; omega)) agg129 rfl rfl ?_)
  have l6 := (hD.ch0 C2).ch0 bC
  have l7 := (g9.ch0 C2).ch0 bC
  refine dT 5 rfl rfl rfl (Xo (j := 0) l6 Zao el129 sz88 rfl rfl rfl om fun rc re l8 kH => ?_)
  have y8 := dz
  have d2 := l7.2 _ _ _ l8 dz
  obtain ⟨wG, wH, rf, rg, rh, kI⟩ := d2.open
  have ri := kI.1
  replace kH : At iF LT_x L_p rc ([(.pointer (some re))]) := kH
  refine dT 6 rfl rfl rfl (Yx kH (fun i hm => by rcases List.mem_append.1 hm with hm | hm; (rcases List.mem_append.1 hm with hm | hm; (have cw := mSg.1 hm; omega); (have cw := c _ hm; have c5 := m _ hm; omega)); (have cw := e _ hm; have c5 := o _ hm; omega)) agg88 rfl rfl ?_)
  refine dV 8 rfl rfl rfl (fun _ => Zd rfl) (dV 9 rfl rfl rfl (fun _ => Zd rfl) (dV 10 rfl rfl rfl (fun _ => Yf rfl) (dV 11 rfl rfl rfl (fun _ => Zh fa131_1 rfl) ?_)))
  refine dT 12 rfl rfl rfl (Xh dd (fun i hm => by rcases List.mem_append.1 hm with hm | hm; (rcases List.mem_append.1 hm with hm | hm; (have cw := mSg.1 hm; omega); (have cw := c _ hm; have c5 := m _ hm; omega)); (have cw := e _ hm; have c5 := o _ hm; omega)) agg129 rfl rfl ?_)
  refine dT 13 rfl rfl rfl (Xo (j := 1) l6 Zao el129 sz88 rfl rfl rfl om fun l9 ma kJ iG => ?_)
  have wI := fI
  have ce := l7.2 _ _ _ kJ fI
  obtain ⟨rj, rk, mA, mB, mC, jz⟩ := ce.open
  have mD := jz.1
  replace iG : At iF LT_x L_p l9 ([(.pointer (some ma))]) := iG
  refine dT 14 rfl rfl rfl (Yx iG (fun i hm => by rcases List.mem_append.1 hm with hm | hm; (rcases List.mem_append.1 hm with hm | hm; (have cw := mSg.1 hm; omega); (have cw := c _ hm; have c5 := m _ hm; omega)); (have cw := e _ hm; have c5 := o _ hm; omega)) agg88 rfl rfl ?_)
  refine Zhe 7 16 17 (by kernel_rfl) ?_ ?_ ?_
  ·refine Zz rfl rfl rfl ?_
   have rl := (m_p.ch0 C2).ch0 bC
   have rm := (b8.ch0 C2).ch0 bC
   have rn := (b9.ch0 C2).ch0 bC
   refine Step.call (Zl (xs := [.tmp 91, .tmp 97]) fk65 rfl) (ih rl rm bh (Lo.down c om) rn bs (Lo.down e om) aR d2 om om oa ⟨by omega, by omega⟩ om) fun jA mb eJ => ?_
   obtain ⟨eK, eL, rfl, cf, a1, U, V, a2, X, Y, ae, cF⟩ := eJ
   have wJ := cF.size
   have E := E.step cF (fun i hm => by rcases List.mem_cons.1 hm with I | hm; (right; exact I ▸ List.mem_cons_self ..); (rcases List.mem_append.1 hm with hm | hm; (exact (.inr (mCo _ (mAL _ hm)))); (exact (.inr (mCo _ (mAR _ hm))))))
   obtain ⟨bU, bV, rfl, eM, aF⟩ := a1.opn
   have z : Lo L_p (.slice bU ((bpT ta a b).L).length bV) := Yz U V om (Ys c e)
   obtain ⟨bW, bX, rfl, eN, aG⟩ := a2.opn
   have A : Lo L_p (.slice bW ((bpT ta a b).F).length bX) := Yz X Y om (Ys c e)
   have O := Zv U V (show a3 < _ by omega) (Yk (Zs c m om) (Zs e o om))
   have aB := Yt E U V om (Ys (fun g hm => (.inr (mCo _ (mAL _ hm)))) (fun g hm => (.inr (mCo _ (mAR _ hm)))))
   have P := Zv X Y (show a3 < _ by omega) (Yk (Zs c m om) (Zs e o om))
   have aC := Yt E X Y om (Ys (fun g hm => (.inr (mCo _ (mAL _ hm)))) (fun g hm => (.inr (mCo _ (mAR _ hm)))))
   replace cf : Blk mb b_p t_p [(.slice bU ((bpT ta a b).L).length bV), (.int .i64 b0), (.int .i64 b1), (.slice bW ((bpT ta a b).F).length bX), (.bool b2)] := cf
   have eO : Ch ([b_p] ++ (bl (.slice bi a.length bj)) ++ (bl (.slice bn b.length bp))) iF mb := ((Ch.refl _ _).step cF (all3 (.inr (mAL _ (mAL _ (mSg.2 rfl)))) (fun i hm => .inr (mAL _ (mAR _ hm))) (fun i hm => .inr (mAR _ hm))))
   refine ⟨eO, ?_⟩
   refine Zhe 15 16 17 (by kernel_rfl) ?_ ?_ ?_
   ·refine Zz rfl rfl rfl ?_
    have ro := ce.ch cF (Qb om c om e om)
    refine Step.call (Zl (xs := [.tmp 99, .tmp 105]) fk65 rfl) (ih cf a1 V (Lo.down z om) a2 Y (Lo.down A om) ae ro om om ob ⟨by omega, by omega⟩ om) fun c3 rp bD => ?_
    obtain ⟨b4, b5, rfl, aQ, Z, r, h, aa, s, k, H, gv⟩ := bD
    have wK := gv.size
    have E := E.step gv (fun i hm => by rcases List.mem_cons.1 hm with I | hm; (right; exact I ▸ List.mem_cons_self ..); (rcases List.mem_append.1 hm with hm | hm; (exact (aB _ hm)); (exact (aC _ hm))))
    obtain ⟨al, am, rfl, b6, au⟩ := Z.opn
    have ab : Lo L_p (.slice al ((bpT tb ((bpT ta a b).L) ((bpT ta a b).F)).L).length am) := Yz r h om (Ys z A)
    obtain ⟨an, ao, rfl, b7, av⟩ := aa.opn
    have ac : Lo L_p (.slice an ((bpT tb ((bpT ta a b).L) ((bpT ta a b).F)).F).length ao) := Yz s k om (Ys z A)
    have aw := Zv r h (show a3 < _ by omega) (Yk O P)
    have aX := Yt E r h om (Ys (fun g hm => (aB _ hm)) (fun g hm => (aC _ hm)))
    have ax := Zv s k (show a3 < _ by omega) (Yk O P)
    have aY := Yt E s k om (Ys (fun g hm => (aB _ hm)) (fun g hm => (aC _ hm)))
    replace aQ : Blk rp b_p t_p [(.slice al ((bpT tb ((bpT ta a b).L) ((bpT ta a b).F)).L).length am), (.int .i64 b0), (.int .i64 b1), (.slice an ((bpT tb ((bpT ta a b).L) ((bpT ta a b).F)).F).length ao), (.bool b2)] := aQ
    have gw := eO.step gv (all3 (.inr (mAL _ (mAL _ (mSg.2 rfl)))) (Xq U om (.inr (mAL _ (mAL _ (mSg.2 rfl)))) (fun i hm => .inr (mAL _ (mAR _ hm))) (fun i hm => .inr (mAR _ hm))) (Xq X om (.inr (mAL _ (mAL _ (mSg.2 rfl)))) (fun i hm => .inr (mAL _ (mAR _ hm))) (fun i hm => .inr (mAR _ hm))))
    refine ⟨gw, ?_⟩
    refine Zat 16 17 (by kernel_rfl) ?_ ?_
    ·refine Zz rfl rfl rfl ?_
     refine Yh zr86 fun bI rq co ft j2 => ?_
     have wL := ft.size
     have E := E.trans ft.of_nil
     have j3 := co.lt
     replace co : Blk rq bI 86 [(.int .i64 0), (.int .i64 0), (.bool false)] := co
     have iH := gw.trans ft.of_nil
     refine ⟨iH, ?_⟩
     refine dO 17 (Zz rfl rfl rfl ?_)
     refine Yh zr86 fun bJ rr cp eP j4 => ?_
     have wM := eP.size
     have E := E.trans eP.of_nil
     have j5 := cp.lt
     replace cp : Blk rr bJ 86 [(.int .i64 0), (.int .i64 0), (.bool false)] := cp
     have iI := iH.trans eP.of_nil
     refine ⟨iI, ?_⟩
     refine dO 18 (Zz rfl rfl rfl ?_)
     have rs := co.ch0 eP
     refine Zn (off := 0) 3 rs sz86 rfl (us := [(.int .i64 ((bpT ta a b).f)), (.int .i64 ((bpT ta a b).l)), (.bool ((bpT ta a b).n))]) rfl rfl rfl rfl fun rt gx eQ => ?_
     have wN := eQ.size
     have E := E.step eQ (Xa om)
     replace gx : Blk rt bI 86 [(.int .i64 ((bpT ta a b).f)), (.int .i64 ((bpT ta a b).l)), (.bool ((bpT ta a b).n))] := gx
     have iJ := iI.step eQ (Xa om)
     refine ⟨iJ, ?_⟩
     refine dO 19 (Zz rfl rfl rfl ?_)
     have ru := cp.ch eQ (ne1 om)
     refine Zn (off := 0) 3 ru sz86 rfl (us := [(.int .i64 ((bpT tb ((bpT ta a b).L) ((bpT ta a b).F)).f)), (.int .i64 ((bpT tb ((bpT ta a b).L) ((bpT ta a b).F)).l)), (.bool ((bpT tb ((bpT ta a b).L) ((bpT ta a b).F)).n))]) rfl rfl rfl rfl fun rv gy eR => ?_
     have wO := eR.size
     have E := E.step eR (Xa om)
     replace gy : Blk rv bJ 86 [(.int .i64 ((bpT tb ((bpT ta a b).L) ((bpT ta a b).F)).f)), (.int .i64 ((bpT tb ((bpT ta a b).L) ((bpT ta a b).F)).l)), (.bool ((bpT tb ((bpT ta a b).L) ((bpT ta a b).F)).n))] := gy
     have kK := iJ.step eR (Xa om)
     refine ⟨kK, ?_⟩
     refine Yc (by kernel_rfl) ?_
     refine Zb ?_
     have rx := (((Z.ch0 ft).ch0 eP).ch eQ (dS ab au om)).ch eR (dS ab au om)
     have ry := (((aa.ch0 ft).ch0 eP).ch eQ (dS ac av om)).ch eR (dS ac av om)
     have rz := (((aQ.ch0 ft).ch0 eP).ch eQ (ne1 om)).ch eR (ne1 om)
     have rA := gx.ch eR (ne1 om)
     have rB := (((((dd.ch cF (Qb om c om e om)).ch gv (Qb om z om A om)).ch0 ft).ch0 eP).ch eQ (Qm om)).ch eR (Qm om)
     have rC := ((((((c1.ch0 bC).ch cF (Xd om (Yl m om) (Yl o om))).ch gv (Xd om O P)).ch0 ft).ch0 eP).ch eQ (ne1 om)).ch eR (ne1 om)
     exact cd _ _ _ _ bI bJ (sC4 rfl rfl rfl rfl (sC2 rfl rfl (Sub.nil _))) E om rx aX h ry aY k H rz rA om om (Zs ab au om) (Zs ac av om) gy om om (Zs ab au om) (Zs ac av om) om rB rC aw ax
    refine Zz rfl rfl rfl ?_
    refine Yh zr86 fun bJ rD cp fu j4 => ?_
    have wP := fu.size
    have E := E.trans fu.of_nil
    have j5 := cp.lt
    replace cp : Blk rD bJ 86 [(.int .i64 0), (.int .i64 0), (.bool false)] := cp
    have iK := gw.trans fu.of_nil
    refine ⟨iK, ?_⟩
    refine dO 16 (Zz rfl rfl rfl ?_)
    refine Yh zr86 fun bI rE co eS j2 => ?_
    have wQ := eS.size
    have E := E.trans eS.of_nil
    have j3 := co.lt
    replace co : Blk rE bI 86 [(.int .i64 0), (.int .i64 0), (.bool false)] := co
    have iL := iK.trans eS.of_nil
    refine ⟨iL, ?_⟩
    refine dO 18 (Zz rfl rfl rfl ?_)
    refine Zn (off := 0) 3 co sz86 rfl (us := [(.int .i64 ((bpT ta a b).f)), (.int .i64 ((bpT ta a b).l)), (.bool ((bpT ta a b).n))]) rfl rfl rfl rfl fun rF gz eT => ?_
    have wR := eT.size
    have E := E.step eT (Xa om)
    replace gz : Blk rF bI 86 [(.int .i64 ((bpT ta a b).f)), (.int .i64 ((bpT ta a b).l)), (.bool ((bpT ta a b).n))] := gz
    have iM := iL.step eT (Xa om)
    refine ⟨iM, ?_⟩
    refine dO 19 (Zz rfl rfl rfl ?_)
    have rG := (cp.ch0 eS).ch eT (ne1 om)
    refine Zn (off := 0) 3 rG sz86 rfl (us := [(.int .i64 ((bpT tb ((bpT ta a b).L) ((bpT ta a b).F)).f)), (.int .i64 ((bpT tb ((bpT ta a b).L) ((bpT ta a b).F)).l)), (.bool ((bpT tb ((bpT ta a b).L) ((bpT ta a b).F)).n))]) rfl rfl rfl rfl fun rH gA eU => ?_
    have wS := eU.size
    have E := E.step eU (Xa om)
    replace gA : Blk rH bJ 86 [(.int .i64 ((bpT tb ((bpT ta a b).L) ((bpT ta a b).F)).f)), (.int .i64 ((bpT tb ((bpT ta a b).L) ((bpT ta a b).F)).l)), (.bool ((bpT tb ((bpT ta a b).L) ((bpT ta a b).F)).n))] := gA
    have kL := iM.step eU (Xa om)
    refine ⟨kL, ?_⟩
    refine Yc (by kernel_rfl) ?_
    refine Zb ?_
    have rI := (((Z.ch0 fu).ch0 eS).ch eT (dS ab au om)).ch eU (dS ab au om)
    have rJ := (((aa.ch0 fu).ch0 eS).ch eT (dS ac av om)).ch eU (dS ac av om)
    have rK := (((aQ.ch0 fu).ch0 eS).ch eT (ne1 om)).ch eU (ne1 om)
    have rL := gz.ch eU (ne1 om)
    have rM := (((((dd.ch cF (Qb om c om e om)).ch gv (Qb om z om A om)).ch0 fu).ch0 eS).ch eT (Qm om)).ch eU (Qm om)
    have rN := ((((((c1.ch0 bC).ch cF (Xd om (Yl m om) (Yl o om))).ch gv (Xd om O P)).ch0 fu).ch0 eS).ch eT (ne1 om)).ch eU (ne1 om)
    exact cd _ _ _ _ bI bJ (sC4 rfl rfl rfl rfl (sC2 rfl rfl (Sub.nil _))) E om rI aX h rJ aY k H rK rL om om (Zs ab au om) (Zs ac av om) gA om om (Zs ab au om) (Zs ac av om) om rM rN aw ax
   ·refine Zz rfl rfl rfl ?_
    refine Yh zr86 fun bI rO co c8 j2 => ?_
    have wT := c8.size
    have E := E.trans c8.of_nil
    have j3 := co.lt
    replace co : Blk rO bI 86 [(.int .i64 0), (.int .i64 0), (.bool false)] := co
    have gB := eO.trans c8.of_nil
    refine ⟨gB, ?_⟩
    refine Zat 15 17 (by kernel_rfl) ?_ ?_
    ·refine Zz rfl rfl rfl ?_
     have rP := cf.ch0 c8
     have rQ := a1.ch0 c8
     have rR := a2.ch0 c8
     have rS := (ce.ch cF (Qb om c om e om)).ch0 c8
     refine Step.call (Zl (xs := [.tmp 99, .tmp 105]) fk65 rfl) (ih rP rQ V (Lo.down z om) rR Y (Lo.down A om) ae rS om om ob ⟨by omega, by omega⟩ om) fun c3 rT bD => ?_
     obtain ⟨b4, b5, rfl, aQ, Z, r, h, aa, s, k, H, ht⟩ := bD
     have wU := ht.size
     have E := E.step ht (fun i hm => by rcases List.mem_cons.1 hm with I | hm; (right; exact I ▸ List.mem_cons_self ..); (rcases List.mem_append.1 hm with hm | hm; (exact (aB _ hm)); (exact (aC _ hm))))
     obtain ⟨al, am, rfl, b6, au⟩ := Z.opn
     have ab : Lo L_p (.slice al ((bpT tb ((bpT ta a b).L) ((bpT ta a b).F)).L).length am) := Yz r h om (Ys z A)
     obtain ⟨an, ao, rfl, b7, av⟩ := aa.opn
     have ac : Lo L_p (.slice an ((bpT tb ((bpT ta a b).L) ((bpT ta a b).F)).F).length ao) := Yz s k om (Ys z A)
     have aw := Zv r h (show a3 < _ by omega) (Yk O P)
     have ah := Zv r h (show bI < _ by omega) (Yk (Zs z aF om) (Zs A aG om))
     have aX := Yt E r h om (Ys (fun g hm => (aB _ hm)) (fun g hm => (aC _ hm)))
     have ax := Zv s k (show a3 < _ by omega) (Yk O P)
     have ai := Zv s k (show bI < _ by omega) (Yk (Zs z aF om) (Zs A aG om))
     have aY := Yt E s k om (Ys (fun g hm => (aB _ hm)) (fun g hm => (aC _ hm)))
     replace aQ : Blk rT b_p t_p [(.slice al ((bpT tb ((bpT ta a b).L) ((bpT ta a b).F)).L).length am), (.int .i64 b0), (.int .i64 b1), (.slice an ((bpT tb ((bpT ta a b).L) ((bpT ta a b).F)).F).length ao), (.bool b2)] := aQ
     have iN := gB.step ht (all3 (.inr (mAL _ (mAL _ (mSg.2 rfl)))) (Xq U om (.inr (mAL _ (mAL _ (mSg.2 rfl)))) (fun i hm => .inr (mAL _ (mAR _ hm))) (fun i hm => .inr (mAR _ hm))) (Xq X om (.inr (mAL _ (mAL _ (mSg.2 rfl)))) (fun i hm => .inr (mAL _ (mAR _ hm))) (fun i hm => .inr (mAR _ hm))))
     refine ⟨iN, ?_⟩
     refine dO 17 (Zz rfl rfl rfl ?_)
     refine Yh zr86 fun bJ rU cp eV j4 => ?_
     have wV := eV.size
     have E := E.trans eV.of_nil
     have j5 := cp.lt
     replace cp : Blk rU bJ 86 [(.int .i64 0), (.int .i64 0), (.bool false)] := cp
     have iO := iN.trans eV.of_nil
     refine ⟨iO, ?_⟩
     refine dO 18 (Zz rfl rfl rfl ?_)
     have rV := (co.ch ht (Xd om (Yl aF om) (Yl aG om))).ch0 eV
     refine Zn (off := 0) 3 rV sz86 rfl (us := [(.int .i64 ((bpT ta a b).f)), (.int .i64 ((bpT ta a b).l)), (.bool ((bpT ta a b).n))]) rfl rfl rfl rfl fun rW gC eW => ?_
     have wW := eW.size
     have E := E.step eW (Xa om)
     replace gC : Blk rW bI 86 [(.int .i64 ((bpT ta a b).f)), (.int .i64 ((bpT ta a b).l)), (.bool ((bpT ta a b).n))] := gC
     have iP := iO.step eW (Xa om)
     refine ⟨iP, ?_⟩
     refine dO 19 (Zz rfl rfl rfl ?_)
     have rX := cp.ch eW (ne1 om)
     refine Zn (off := 0) 3 rX sz86 rfl (us := [(.int .i64 ((bpT tb ((bpT ta a b).L) ((bpT ta a b).F)).f)), (.int .i64 ((bpT tb ((bpT ta a b).L) ((bpT ta a b).F)).l)), (.bool ((bpT tb ((bpT ta a b).L) ((bpT ta a b).F)).n))]) rfl rfl rfl rfl fun rY gD eX => ?_
     have wX := eX.size
     have E := E.step eX (Xa om)
     replace gD : Blk rY bJ 86 [(.int .i64 ((bpT tb ((bpT ta a b).L) ((bpT ta a b).F)).f)), (.int .i64 ((bpT tb ((bpT ta a b).L) ((bpT ta a b).F)).l)), (.bool ((bpT tb ((bpT ta a b).L) ((bpT ta a b).F)).n))] := gD
     have kM := iP.step eX (Xa om)
     refine ⟨kM, ?_⟩
     refine Yc (by kernel_rfl) ?_
     refine Zb ?_
     have rZ := ((Z.ch0 eV).ch eW (fun g hg hm => by have I := mSg.1 hm; exact ah (by first | exact hg | exact I ▸ hg))).ch eX (dS ab au om)
     have r0 := ((aa.ch0 eV).ch eW (fun g hg hm => by have I := mSg.1 hm; exact ai (by first | exact hg | exact I ▸ hg))).ch eX (dS ac av om)
     have r1 := ((aQ.ch0 eV).ch eW (ne1 om)).ch eX (ne1 om)
     have r2 := gC.ch eX (ne1 om)
     have r3 := (((((dd.ch cF (Qb om c om e om)).ch0 c8).ch ht (Qb om z om A om)).ch0 eV).ch eW (Qm om)).ch eX (Qm om)
     have r4 := ((((((c1.ch0 bC).ch cF (Xd om (Yl m om) (Yl o om))).ch0 c8).ch ht (Xd om O P)).ch0 eV).ch eW (ne1 om)).ch eX (ne1 om)
     exact cd _ _ _ _ bI bJ (sC4 rfl rfl rfl rfl (sC2 rfl rfl (Sub.nil _))) E om rZ aX h r0 aY k H r1 r2 om om ah ai gD om om (Zs ab au om) (Zs ac av om) om r3 r4 aw ax
    refine Zz rfl rfl rfl ?_
    refine Yh zr86 fun bJ r5 cp dW j4 => ?_
    have wY := dW.size
    have E := E.trans dW.of_nil
    have j5 := cp.lt
    replace cp : Blk r5 bJ 86 [(.int .i64 0), (.int .i64 0), (.bool false)] := cp
    have iQ := gB.trans dW.of_nil
    refine ⟨iQ, ?_⟩
    refine dO 15 (Zz rfl rfl rfl ?_)
    have r6 := (cf.ch0 c8).ch0 dW
    have r8 := (a1.ch0 c8).ch0 dW
    have r9 := (a2.ch0 c8).ch0 dW
    have sa := ((ce.ch cF (Qb om c om e om)).ch0 c8).ch0 dW
    refine Step.call (Zl (xs := [.tmp 99, .tmp 105]) fk65 rfl) (ih r6 r8 V (Lo.down z om) r9 Y (Lo.down A om) ae sa om om ob ⟨by omega, by omega⟩ om) fun c3 sb bD => ?_
    obtain ⟨b4, b5, rfl, aQ, Z, r, h, aa, s, k, H, gE⟩ := bD
    have wZ := gE.size
    have E := E.step gE (fun i hm => by rcases List.mem_cons.1 hm with I | hm; (right; exact I ▸ List.mem_cons_self ..); (rcases List.mem_append.1 hm with hm | hm; (exact (aB _ hm)); (exact (aC _ hm))))
    obtain ⟨al, am, rfl, b6, au⟩ := Z.opn
    have ab : Lo L_p (.slice al ((bpT tb ((bpT ta a b).L) ((bpT ta a b).F)).L).length am) := Yz r h om (Ys z A)
    obtain ⟨an, ao, rfl, b7, av⟩ := aa.opn
    have ac : Lo L_p (.slice an ((bpT tb ((bpT ta a b).L) ((bpT ta a b).F)).F).length ao) := Yz s k om (Ys z A)
    have aw := Zv r h (show a3 < _ by omega) (Yk O P)
    have ah := Zv r h (show bI < _ by omega) (Yk (Zs z aF om) (Zs A aG om))
    have aj := Zv r h (show bJ < _ by omega) (Yk (Zs z aF om) (Zs A aG om))
    have aX := Yt E r h om (Ys (fun g hm => (aB _ hm)) (fun g hm => (aC _ hm)))
    have ax := Zv s k (show a3 < _ by omega) (Yk O P)
    have ai := Zv s k (show bI < _ by omega) (Yk (Zs z aF om) (Zs A aG om))
    have ak := Zv s k (show bJ < _ by omega) (Yk (Zs z aF om) (Zs A aG om))
    have aY := Yt E s k om (Ys (fun g hm => (aB _ hm)) (fun g hm => (aC _ hm)))
    replace aQ : Blk sb b_p t_p [(.slice al ((bpT tb ((bpT ta a b).L) ((bpT ta a b).F)).L).length am), (.int .i64 b0), (.int .i64 b1), (.slice an ((bpT tb ((bpT ta a b).L) ((bpT ta a b).F)).F).length ao), (.bool b2)] := aQ
    have iR := iQ.step gE (all3 (.inr (mAL _ (mAL _ (mSg.2 rfl)))) (Xq U om (.inr (mAL _ (mAL _ (mSg.2 rfl)))) (fun i hm => .inr (mAL _ (mAR _ hm))) (fun i hm => .inr (mAR _ hm))) (Xq X om (.inr (mAL _ (mAL _ (mSg.2 rfl)))) (fun i hm => .inr (mAL _ (mAR _ hm))) (fun i hm => .inr (mAR _ hm))))
    refine ⟨iR, ?_⟩
    refine dO 18 (Zz rfl rfl rfl ?_)
    have sc := (co.ch0 dW).ch gE (Xd om (Yl aF om) (Yl aG om))
    refine Zn (off := 0) 3 sc sz86 rfl (us := [(.int .i64 ((bpT ta a b).f)), (.int .i64 ((bpT ta a b).l)), (.bool ((bpT ta a b).n))]) rfl rfl rfl rfl fun sd gF eY => ?_
    have w0 := eY.size
    have E := E.step eY (Xa om)
    replace gF : Blk sd bI 86 [(.int .i64 ((bpT ta a b).f)), (.int .i64 ((bpT ta a b).l)), (.bool ((bpT ta a b).n))] := gF
    have iS := iR.step eY (Xa om)
    refine ⟨iS, ?_⟩
    refine dO 19 (Zz rfl rfl rfl ?_)
    have se := (cp.ch gE (Xd om (Yl aF om) (Yl aG om))).ch eY (ne1 om)
    refine Zn (off := 0) 3 se sz86 rfl (us := [(.int .i64 ((bpT tb ((bpT ta a b).L) ((bpT ta a b).F)).f)), (.int .i64 ((bpT tb ((bpT ta a b).L) ((bpT ta a b).F)).l)), (.bool ((bpT tb ((bpT ta a b).L) ((bpT ta a b).F)).n))]) rfl rfl rfl rfl fun sf gG eZ => ?_
    have w1 := eZ.size
    have E := E.step eZ (Xa om)
    replace gG : Blk sf bJ 86 [(.int .i64 ((bpT tb ((bpT ta a b).L) ((bpT ta a b).F)).f)), (.int .i64 ((bpT tb ((bpT ta a b).L) ((bpT ta a b).F)).l)), (.bool ((bpT tb ((bpT ta a b).L) ((bpT ta a b).F)).n))] := gG
    have kN := iS.step eZ (Xa om)
    refine ⟨kN, ?_⟩
    refine Yc (by kernel_rfl) ?_
    refine Zb ?_
    have sg := (Z.ch eY (fun g hg hm => by have I := mSg.1 hm; exact ah (by first | exact hg | exact I ▸ hg))).ch eZ (fun g hg hm => by have I := mSg.1 hm; exact aj (by first | exact hg | exact I ▸ hg))
    have sh := (aa.ch eY (fun g hg hm => by have I := mSg.1 hm; exact ai (by first | exact hg | exact I ▸ hg))).ch eZ (fun g hg hm => by have I := mSg.1 hm; exact ak (by first | exact hg | exact I ▸ hg))
    have si := (aQ.ch eY (ne1 om)).ch eZ (ne1 om)
    have sj := gF.ch eZ (ne1 om)
    have sk := (((((dd.ch cF (Qb om c om e om)).ch0 c8).ch0 dW).ch gE (Qb om z om A om)).ch eY (Qm om)).ch eZ (Qm om)
    have sm := ((((((c1.ch0 bC).ch cF (Xd om (Yl m om) (Yl o om))).ch0 c8).ch0 dW).ch gE (Xd om O P)).ch eY (ne1 om)).ch eZ (ne1 om)
    exact cd _ _ _ _ bI bJ (sC4 rfl rfl rfl rfl (sC2 rfl rfl (Sub.nil _))) E om sg aX h sh aY k H si sj om om ah ai gG om om aj ak om sk sm aw ax
   refine Zz rfl rfl rfl ?_
   refine Yh zr86 fun bJ sn cp c9 j4 => ?_
   have w2 := c9.size
   have E := E.trans c9.of_nil
   have j5 := cp.lt
   replace cp : Blk sn bJ 86 [(.int .i64 0), (.int .i64 0), (.bool false)] := cp
   have gH := eO.trans c9.of_nil
   refine ⟨gH, ?_⟩
   refine Zat 15 16 (by kernel_rfl) ?_ ?_
   ·refine Zz rfl rfl rfl ?_
    have so := cf.ch0 c9
    have sp := a1.ch0 c9
    have sq := a2.ch0 c9
    have sr := (ce.ch cF (Qb om c om e om)).ch0 c9
    refine Step.call (Zl (xs := [.tmp 99, .tmp 105]) fk65 rfl) (ih so sp V (Lo.down z om) sq Y (Lo.down A om) ae sr om om ob ⟨by omega, by omega⟩ om) fun c3 ss bD => ?_
    obtain ⟨b4, b5, rfl, aQ, Z, r, h, aa, s, k, H, hu⟩ := bD
    have w3 := hu.size
    have E := E.step hu (fun i hm => by rcases List.mem_cons.1 hm with I | hm; (right; exact I ▸ List.mem_cons_self ..); (rcases List.mem_append.1 hm with hm | hm; (exact (aB _ hm)); (exact (aC _ hm))))
    obtain ⟨al, am, rfl, b6, au⟩ := Z.opn
    have ab : Lo L_p (.slice al ((bpT tb ((bpT ta a b).L) ((bpT ta a b).F)).L).length am) := Yz r h om (Ys z A)
    obtain ⟨an, ao, rfl, b7, av⟩ := aa.opn
    have ac : Lo L_p (.slice an ((bpT tb ((bpT ta a b).L) ((bpT ta a b).F)).F).length ao) := Yz s k om (Ys z A)
    have aw := Zv r h (show a3 < _ by omega) (Yk O P)
    have aj := Zv r h (show bJ < _ by omega) (Yk (Zs z aF om) (Zs A aG om))
    have aX := Yt E r h om (Ys (fun g hm => (aB _ hm)) (fun g hm => (aC _ hm)))
    have ax := Zv s k (show a3 < _ by omega) (Yk O P)
    have ak := Zv s k (show bJ < _ by omega) (Yk (Zs z aF om) (Zs A aG om))
    have aY := Yt E s k om (Ys (fun g hm => (aB _ hm)) (fun g hm => (aC _ hm)))
    replace aQ : Blk ss b_p t_p [(.slice al ((bpT tb ((bpT ta a b).L) ((bpT ta a b).F)).L).length am), (.int .i64 b0), (.int .i64 b1), (.slice an ((bpT tb ((bpT ta a b).L) ((bpT ta a b).F)).F).length ao), (.bool b2)] := aQ
    have iT := gH.step hu (all3 (.inr (mAL _ (mAL _ (mSg.2 rfl)))) (Xq U om (.inr (mAL _ (mAL _ (mSg.2 rfl)))) (fun i hm => .inr (mAL _ (mAR _ hm))) (fun i hm => .inr (mAR _ hm))) (Xq X om (.inr (mAL _ (mAL _ (mSg.2 rfl)))) (fun i hm => .inr (mAL _ (mAR _ hm))) (fun i hm => .inr (mAR _ hm))))
    refine ⟨iT, ?_⟩
    refine dO 16 (Zz rfl rfl rfl ?_)
    refine Yh zr86 fun bI st co e0 j2 => ?_
    have w4 := e0.size
    have E := E.trans e0.of_nil
    have j3 := co.lt
    replace co : Blk st bI 86 [(.int .i64 0), (.int .i64 0), (.bool false)] := co
    have iU := iT.trans e0.of_nil
    refine ⟨iU, ?_⟩
    refine dO 18 (Zz rfl rfl rfl ?_)
    refine Zn (off := 0) 3 co sz86 rfl (us := [(.int .i64 ((bpT ta a b).f)), (.int .i64 ((bpT ta a b).l)), (.bool ((bpT ta a b).n))]) rfl rfl rfl rfl fun su gI e1 => ?_
    have w5 := e1.size
    have E := E.step e1 (Xa om)
    replace gI : Blk su bI 86 [(.int .i64 ((bpT ta a b).f)), (.int .i64 ((bpT ta a b).l)), (.bool ((bpT ta a b).n))] := gI
    have iV := iU.step e1 (Xa om)
    refine ⟨iV, ?_⟩
    refine dO 19 (Zz rfl rfl rfl ?_)
    have sv := ((cp.ch hu (Xd om (Yl aF om) (Yl aG om))).ch0 e0).ch e1 (ne1 om)
    refine Zn (off := 0) 3 sv sz86 rfl (us := [(.int .i64 ((bpT tb ((bpT ta a b).L) ((bpT ta a b).F)).f)), (.int .i64 ((bpT tb ((bpT ta a b).L) ((bpT ta a b).F)).l)), (.bool ((bpT tb ((bpT ta a b).L) ((bpT ta a b).F)).n))]) rfl rfl rfl rfl fun sw gJ e2 => ?_
    have w6 := e2.size
    have E := E.step e2 (Xa om)
    replace gJ : Blk sw bJ 86 [(.int .i64 ((bpT tb ((bpT ta a b).L) ((bpT ta a b).F)).f)), (.int .i64 ((bpT tb ((bpT ta a b).L) ((bpT ta a b).F)).l)), (.bool ((bpT tb ((bpT ta a b).L) ((bpT ta a b).F)).n))] := gJ
    have kO := iV.step e2 (Xa om)
    refine ⟨kO, ?_⟩
    refine Yc (by kernel_rfl) ?_
    refine Zb ?_
    have sx := ((Z.ch0 e0).ch e1 (dS ab au om)).ch e2 (fun g hg hm => by have I := mSg.1 hm; exact aj (by first | exact hg | exact I ▸ hg))
    have sy := ((aa.ch0 e0).ch e1 (dS ac av om)).ch e2 (fun g hg hm => by have I := mSg.1 hm; exact ak (by first | exact hg | exact I ▸ hg))
    have sA := ((aQ.ch0 e0).ch e1 (ne1 om)).ch e2 (ne1 om)
    have sB := gI.ch e2 (ne1 om)
    have sC := (((((dd.ch cF (Qb om c om e om)).ch0 c9).ch hu (Qb om z om A om)).ch0 e0).ch e1 (Qm om)).ch e2 (Qm om)
    have sD := ((((((c1.ch0 bC).ch cF (Xd om (Yl m om) (Yl o om))).ch0 c9).ch hu (Xd om O P)).ch0 e0).ch e1 (ne1 om)).ch e2 (ne1 om)
    exact cd _ _ _ _ bI bJ (sC4 rfl rfl rfl rfl (sC2 rfl rfl (Sub.nil _))) E om sx aX h sy aY k H sA sB om om (Zs ab au om) (Zs ac av om) gJ om om aj ak om sC sD aw ax
   refine Zz rfl rfl rfl ?_
   refine Yh zr86 fun bI sE co dX j2 => ?_
   have w7 := dX.size
   have E := E.trans dX.of_nil
   have j3 := co.lt
   replace co : Blk sE bI 86 [(.int .i64 0), (.int .i64 0), (.bool false)] := co
   have iW := gH.trans dX.of_nil
   refine ⟨iW, ?_⟩
   refine dO 15 (Zz rfl rfl rfl ?_)
   have sF := (cf.ch0 c9).ch0 dX
   have sG := (a1.ch0 c9).ch0 dX
   have sH := (a2.ch0 c9).ch0 dX
   have sI := ((ce.ch cF (Qb om c om e om)).ch0 c9).ch0 dX
   refine Step.call (Zl (xs := [.tmp 99, .tmp 105]) fk65 rfl) (ih sF sG V (Lo.down z om) sH Y (Lo.down A om) ae sI om om ob ⟨by omega, by omega⟩ om) fun c3 sJ bD => ?_
   obtain ⟨b4, b5, rfl, aQ, Z, r, h, aa, s, k, H, gK⟩ := bD
   have w9 := gK.size
   have E := E.step gK (fun i hm => by rcases List.mem_cons.1 hm with I | hm; (right; exact I ▸ List.mem_cons_self ..); (rcases List.mem_append.1 hm with hm | hm; (exact (aB _ hm)); (exact (aC _ hm))))
   obtain ⟨al, am, rfl, b6, au⟩ := Z.opn
   have ab : Lo L_p (.slice al ((bpT tb ((bpT ta a b).L) ((bpT ta a b).F)).L).length am) := Yz r h om (Ys z A)
   obtain ⟨an, ao, rfl, b7, av⟩ := aa.opn
   have ac : Lo L_p (.slice an ((bpT tb ((bpT ta a b).L) ((bpT ta a b).F)).F).length ao) := Yz s k om (Ys z A)
   have aw := Zv r h (show a3 < _ by omega) (Yk O P)
   have aj := Zv r h (show bJ < _ by omega) (Yk (Zs z aF om) (Zs A aG om))
   have ah := Zv r h (show bI < _ by omega) (Yk (Zs z aF om) (Zs A aG om))
   have aX := Yt E r h om (Ys (fun g hm => (aB _ hm)) (fun g hm => (aC _ hm)))
   have ax := Zv s k (show a3 < _ by omega) (Yk O P)
   have ak := Zv s k (show bJ < _ by omega) (Yk (Zs z aF om) (Zs A aG om))
   have ai := Zv s k (show bI < _ by omega) (Yk (Zs z aF om) (Zs A aG om))
   have aY := Yt E s k om (Ys (fun g hm => (aB _ hm)) (fun g hm => (aC _ hm)))
   replace aQ : Blk sJ b_p t_p [(.slice al ((bpT tb ((bpT ta a b).L) ((bpT ta a b).F)).L).length am), (.int .i64 b0), (.int .i64 b1), (.slice an ((bpT tb ((bpT ta a b).L) ((bpT ta a b).F)).F).length ao), (.bool b2)] := aQ
   have iX := iW.step gK (all3 (.inr (mAL _ (mAL _ (mSg.2 rfl)))) (Xq U om (.inr (mAL _ (mAL _ (mSg.2 rfl)))) (fun i hm => .inr (mAL _ (mAR _ hm))) (fun i hm => .inr (mAR _ hm))) (Xq X om (.inr (mAL _ (mAL _ (mSg.2 rfl)))) (fun i hm => .inr (mAL _ (mAR _ hm))) (fun i hm => .inr (mAR _ hm))))
   refine ⟨iX, ?_⟩
   refine dO 18 (Zz rfl rfl rfl ?_)
   have sK := co.ch gK (Xd om (Yl aF om) (Yl aG om))
   refine Zn (off := 0) 3 sK sz86 rfl (us := [(.int .i64 ((bpT ta a b).f)), (.int .i64 ((bpT ta a b).l)), (.bool ((bpT ta a b).n))]) rfl rfl rfl rfl fun sL gL e3 => ?_
   have xa := e3.size
   have E := E.step e3 (Xa om)
   replace gL : Blk sL bI 86 [(.int .i64 ((bpT ta a b).f)), (.int .i64 ((bpT ta a b).l)), (.bool ((bpT ta a b).n))] := gL
   have iY := iX.step e3 (Xa om)
   refine ⟨iY, ?_⟩
   refine dO 19 (Zz rfl rfl rfl ?_)
   have sM := ((cp.ch0 dX).ch gK (Xd om (Yl aF om) (Yl aG om))).ch e3 (ne1 om)
   refine Zn (off := 0) 3 sM sz86 rfl (us := [(.int .i64 ((bpT tb ((bpT ta a b).L) ((bpT ta a b).F)).f)), (.int .i64 ((bpT tb ((bpT ta a b).L) ((bpT ta a b).F)).l)), (.bool ((bpT tb ((bpT ta a b).L) ((bpT ta a b).F)).n))]) rfl rfl rfl rfl fun sN gM e4 => ?_
   have xb := e4.size
   have E := E.step e4 (Xa om)
   replace gM : Blk sN bJ 86 [(.int .i64 ((bpT tb ((bpT ta a b).L) ((bpT ta a b).F)).f)), (.int .i64 ((bpT tb ((bpT ta a b).L) ((bpT ta a b).F)).l)), (.bool ((bpT tb ((bpT ta a b).L) ((bpT ta a b).F)).n))] := gM
   have kP := iY.step e4 (Xa om)
   refine ⟨kP, ?_⟩
   refine Yc (by kernel_rfl) ?_
   refine Zb ?_
   have sO := (Z.ch e3 (fun g hg hm => by have I := mSg.1 hm; exact ah (by first | exact hg | exact I ▸ hg))).ch e4 (fun g hg hm => by have I := mSg.1 hm; exact aj (by first | exact hg | exact I ▸ hg))
   have sP := (aa.ch e3 (fun g hg hm => by have I := mSg.1 hm; exact ai (by first | exact hg | exact I ▸ hg))).ch e4 (fun g hg hm => by have I := mSg.1 hm; exact ak (by first | exact hg | exact I ▸ hg))
   have sQ := (aQ.ch e3 (ne1 om)).ch e4 (ne1 om)
   have sR := gL.ch e4 (ne1 om)
   have sS := (((((dd.ch cF (Qb om c om e om)).ch0 c9).ch0 dX).ch gK (Qb om z om A om)).ch e3 (Qm om)).ch e4 (Qm om)
   have sT := ((((((c1.ch0 bC).ch cF (Xd om (Yl m om) (Yl o om))).ch0 c9).ch0 dX).ch gK (Xd om O P)).ch e3 (ne1 om)).ch e4 (ne1 om)
   exact cd _ _ _ _ bI bJ (sC4 rfl rfl rfl rfl (sC2 rfl rfl (Sub.nil _))) E om sO aX h sP aY k H sQ sR om om ah ai gM om om aj ak om sS sT aw ax
  ·refine Zz rfl rfl rfl ?_
   refine Yh zr86 fun bI mc co cG j2 => ?_
   have xc := cG.size
   have E := E.trans cG.of_nil
   have j3 := co.lt
   replace co : Blk mc bI 86 [(.int .i64 0), (.int .i64 0), (.bool false)] := co
   have gN : Ch ([b_p] ++ (bl (.slice bi a.length bj)) ++ (bl (.slice bn b.length bp))) iF mc := ((Ch.refl _ _).trans cG.of_nil)
   refine ⟨gN, ?_⟩
   refine Zat 7 17 (by kernel_rfl) ?_ ?_
   ·refine Zz rfl rfl rfl ?_
    have sU := ((m_p.ch0 C2).ch0 bC).ch0 cG
    have sV := ((b8.ch0 C2).ch0 bC).ch0 cG
    have sW := ((b9.ch0 C2).ch0 bC).ch0 cG
    have sX := d2.ch0 cG
    refine Step.call (Zl (xs := [.tmp 91, .tmp 97]) fk65 rfl) (ih sU sV bh (Lo.down c om) sW bs (Lo.down e om) aR sX om om oa ⟨by omega, by omega⟩ om) fun jA sY eJ => ?_
    obtain ⟨eK, eL, rfl, cf, a1, U, V, a2, X, Y, ae, dG⟩ := eJ
    have xd := dG.size
    have E := E.step dG (fun i hm => by rcases List.mem_cons.1 hm with I | hm; (right; exact I ▸ List.mem_cons_self ..); (rcases List.mem_append.1 hm with hm | hm; (exact (.inr (mCo _ (mAL _ hm)))); (exact (.inr (mCo _ (mAR _ hm))))))
    obtain ⟨bU, bV, rfl, eM, aF⟩ := a1.opn
    have z : Lo L_p (.slice bU ((bpT ta a b).L).length bV) := Yz U V om (Ys c e)
    obtain ⟨bW, bX, rfl, eN, aG⟩ := a2.opn
    have A : Lo L_p (.slice bW ((bpT ta a b).F).length bX) := Yz X Y om (Ys c e)
    have O := Zv U V (show a3 < _ by omega) (Yk (Zs c m om) (Zs e o om))
    have bb := Zv U V (show bI < _ by omega) (Yk (Zs c m om) (Zs e o om))
    have aB := Yt E U V om (Ys (fun g hm => (.inr (mCo _ (mAL _ hm)))) (fun g hm => (.inr (mCo _ (mAR _ hm)))))
    have P := Zv X Y (show a3 < _ by omega) (Yk (Zs c m om) (Zs e o om))
    have bc := Zv X Y (show bI < _ by omega) (Yk (Zs c m om) (Zs e o om))
    have aC := Yt E X Y om (Ys (fun g hm => (.inr (mCo _ (mAL _ hm)))) (fun g hm => (.inr (mCo _ (mAR _ hm)))))
    replace cf : Blk sY b_p t_p [(.slice bU ((bpT ta a b).L).length bV), (.int .i64 b0), (.int .i64 b1), (.slice bW ((bpT ta a b).F).length bX), (.bool b2)] := cf
    have gO := gN.step dG (all3 (.inr (mAL _ (mAL _ (mSg.2 rfl)))) (fun i hm => .inr (mAL _ (mAR _ hm))) (fun i hm => .inr (mAR _ hm)))
    refine ⟨gO, ?_⟩
    refine Zat 15 17 (by kernel_rfl) ?_ ?_
    ·refine Zz rfl rfl rfl ?_
     have sZ := (ce.ch0 cG).ch dG (Qb om c om e om)
     refine Step.call (Zl (xs := [.tmp 99, .tmp 105]) fk65 rfl) (ih cf a1 V (Lo.down z om) a2 Y (Lo.down A om) ae sZ om om ob ⟨by omega, by omega⟩ om) fun c3 s0 bD => ?_
     obtain ⟨b4, b5, rfl, aQ, Z, r, h, aa, s, k, H, hv⟩ := bD
     have xe := hv.size
     have E := E.step hv (fun i hm => by rcases List.mem_cons.1 hm with I | hm; (right; exact I ▸ List.mem_cons_self ..); (rcases List.mem_append.1 hm with hm | hm; (exact (aB _ hm)); (exact (aC _ hm))))
     obtain ⟨al, am, rfl, b6, au⟩ := Z.opn
     have ab : Lo L_p (.slice al ((bpT tb ((bpT ta a b).L) ((bpT ta a b).F)).L).length am) := Yz r h om (Ys z A)
     obtain ⟨an, ao, rfl, b7, av⟩ := aa.opn
     have ac : Lo L_p (.slice an ((bpT tb ((bpT ta a b).L) ((bpT ta a b).F)).F).length ao) := Yz s k om (Ys z A)
     have aw := Zv r h (show a3 < _ by omega) (Yk O P)
     have ah := Zv r h (show bI < _ by omega) (Yk bb bc)
     have aX := Yt E r h om (Ys (fun g hm => (aB _ hm)) (fun g hm => (aC _ hm)))
     have ax := Zv s k (show a3 < _ by omega) (Yk O P)
     have ai := Zv s k (show bI < _ by omega) (Yk bb bc)
     have aY := Yt E s k om (Ys (fun g hm => (aB _ hm)) (fun g hm => (aC _ hm)))
     replace aQ : Blk s0 b_p t_p [(.slice al ((bpT tb ((bpT ta a b).L) ((bpT ta a b).F)).L).length am), (.int .i64 b0), (.int .i64 b1), (.slice an ((bpT tb ((bpT ta a b).L) ((bpT ta a b).F)).F).length ao), (.bool b2)] := aQ
     have iZ := gO.step hv (all3 (.inr (mAL _ (mAL _ (mSg.2 rfl)))) (Xq U om (.inr (mAL _ (mAL _ (mSg.2 rfl)))) (fun i hm => .inr (mAL _ (mAR _ hm))) (fun i hm => .inr (mAR _ hm))) (Xq X om (.inr (mAL _ (mAL _ (mSg.2 rfl)))) (fun i hm => .inr (mAL _ (mAR _ hm))) (fun i hm => .inr (mAR _ hm))))
     refine ⟨iZ, ?_⟩
     refine dO 17 (Zz rfl rfl rfl ?_)
     refine Yh zr86 fun bJ s1 cp e5 j4 => ?_
     have xf := e5.size
     have E := E.trans e5.of_nil
     have j5 := cp.lt
     replace cp : Blk s1 bJ 86 [(.int .i64 0), (.int .i64 0), (.bool false)] := cp
     have i0 := iZ.trans e5.of_nil
     refine ⟨i0, ?_⟩
     refine dO 18 (Zz rfl rfl rfl ?_)
     have s2 := ((co.ch dG (Xd om (Yl m om) (Yl o om))).ch hv (Xd om bb bc)).ch0 e5
     refine Zn (off := 0) 3 s2 sz86 rfl (us := [(.int .i64 ((bpT ta a b).f)), (.int .i64 ((bpT ta a b).l)), (.bool ((bpT ta a b).n))]) rfl rfl rfl rfl fun s3 gP e6 => ?_
     have xg := e6.size
     have E := E.step e6 (Xa om)
     replace gP : Blk s3 bI 86 [(.int .i64 ((bpT ta a b).f)), (.int .i64 ((bpT ta a b).l)), (.bool ((bpT ta a b).n))] := gP
     have i1 := i0.step e6 (Xa om)
     refine ⟨i1, ?_⟩
     refine dO 19 (Zz rfl rfl rfl ?_)
     have s4 := cp.ch e6 (ne1 om)
     refine Zn (off := 0) 3 s4 sz86 rfl (us := [(.int .i64 ((bpT tb ((bpT ta a b).L) ((bpT ta a b).F)).f)), (.int .i64 ((bpT tb ((bpT ta a b).L) ((bpT ta a b).F)).l)), (.bool ((bpT tb ((bpT ta a b).L) ((bpT ta a b).F)).n))]) rfl rfl rfl rfl fun s5 gQ e7 => ?_
     have xh := e7.size
     have E := E.step e7 (Xa om)
     replace gQ : Blk s5 bJ 86 [(.int .i64 ((bpT tb ((bpT ta a b).L) ((bpT ta a b).F)).f)), (.int .i64 ((bpT tb ((bpT ta a b).L) ((bpT ta a b).F)).l)), (.bool ((bpT tb ((bpT ta a b).L) ((bpT ta a b).F)).n))] := gQ
     have kQ := i1.step e7 (Xa om)
     refine ⟨kQ, ?_⟩
     refine Yc (by kernel_rfl) ?_
     refine Zb ?_
     have s6 := ((Z.ch0 e5).ch e6 (fun g hg hm => by have I := mSg.1 hm; exact ah (by first | exact hg | exact I ▸ hg))).ch e7 (dS ab au om)
     have s7 := ((aa.ch0 e5).ch e6 (fun g hg hm => by have I := mSg.1 hm; exact ai (by first | exact hg | exact I ▸ hg))).ch e7 (dS ac av om)
     have s8 := ((aQ.ch0 e5).ch e6 (ne1 om)).ch e7 (ne1 om)
     have s9 := gP.ch e7 (ne1 om)
     have tc := (((((dd.ch0 cG).ch dG (Qb om c om e om)).ch hv (Qb om z om A om)).ch0 e5).ch e6 (Qm om)).ch e7 (Qm om)
     have td := ((((((c1.ch0 bC).ch0 cG).ch dG (Xd om (Yl m om) (Yl o om))).ch hv (Xd om O P)).ch0 e5).ch e6 (ne1 om)).ch e7 (ne1 om)
     exact cd _ _ _ _ bI bJ (sC4 rfl rfl rfl rfl (sC2 rfl rfl (Sub.nil _))) E om s6 aX h s7 aY k H s8 s9 om om ah ai gQ om om (Zs ab au om) (Zs ac av om) om tc td aw ax
    refine Zz rfl rfl rfl ?_
    refine Yh zr86 fun bJ te cp dY j4 => ?_
    have xi := dY.size
    have E := E.trans dY.of_nil
    have j5 := cp.lt
    replace cp : Blk te bJ 86 [(.int .i64 0), (.int .i64 0), (.bool false)] := cp
    have i2 := gO.trans dY.of_nil
    refine ⟨i2, ?_⟩
    refine dO 15 (Zz rfl rfl rfl ?_)
    have tf := cf.ch0 dY
    have tg := a1.ch0 dY
    have th := a2.ch0 dY
    have ti := ((ce.ch0 cG).ch dG (Qb om c om e om)).ch0 dY
    refine Step.call (Zl (xs := [.tmp 99, .tmp 105]) fk65 rfl) (ih tf tg V (Lo.down z om) th Y (Lo.down A om) ae ti om om ob ⟨by omega, by omega⟩ om) fun c3 tj bD => ?_
    obtain ⟨b4, b5, rfl, aQ, Z, r, h, aa, s, k, H, gR⟩ := bD
    have xj := gR.size
    have E := E.step gR (fun i hm => by rcases List.mem_cons.1 hm with I | hm; (right; exact I ▸ List.mem_cons_self ..); (rcases List.mem_append.1 hm with hm | hm; (exact (aB _ hm)); (exact (aC _ hm))))
    obtain ⟨al, am, rfl, b6, au⟩ := Z.opn
    have ab : Lo L_p (.slice al ((bpT tb ((bpT ta a b).L) ((bpT ta a b).F)).L).length am) := Yz r h om (Ys z A)
    obtain ⟨an, ao, rfl, b7, av⟩ := aa.opn
    have ac : Lo L_p (.slice an ((bpT tb ((bpT ta a b).L) ((bpT ta a b).F)).F).length ao) := Yz s k om (Ys z A)
    have aw := Zv r h (show a3 < _ by omega) (Yk O P)
    have ah := Zv r h (show bI < _ by omega) (Yk bb bc)
    have aj := Zv r h (show bJ < _ by omega) (Yk (Zs z aF om) (Zs A aG om))
    have aX := Yt E r h om (Ys (fun g hm => (aB _ hm)) (fun g hm => (aC _ hm)))
    have ax := Zv s k (show a3 < _ by omega) (Yk O P)
    have ai := Zv s k (show bI < _ by omega) (Yk bb bc)
    have ak := Zv s k (show bJ < _ by omega) (Yk (Zs z aF om) (Zs A aG om))
    have aY := Yt E s k om (Ys (fun g hm => (aB _ hm)) (fun g hm => (aC _ hm)))
    replace aQ : Blk tj b_p t_p [(.slice al ((bpT tb ((bpT ta a b).L) ((bpT ta a b).F)).L).length am), (.int .i64 b0), (.int .i64 b1), (.slice an ((bpT tb ((bpT ta a b).L) ((bpT ta a b).F)).F).length ao), (.bool b2)] := aQ
    have i3 := i2.step gR (all3 (.inr (mAL _ (mAL _ (mSg.2 rfl)))) (Xq U om (.inr (mAL _ (mAL _ (mSg.2 rfl)))) (fun i hm => .inr (mAL _ (mAR _ hm))) (fun i hm => .inr (mAR _ hm))) (Xq X om (.inr (mAL _ (mAL _ (mSg.2 rfl)))) (fun i hm => .inr (mAL _ (mAR _ hm))) (fun i hm => .inr (mAR _ hm))))
    refine ⟨i3, ?_⟩
    refine dO 18 (Zz rfl rfl rfl ?_)
    have tk := ((co.ch dG (Xd om (Yl m om) (Yl o om))).ch0 dY).ch gR (Xd om bb bc)
    refine Zn (off := 0) 3 tk sz86 rfl (us := [(.int .i64 ((bpT ta a b).f)), (.int .i64 ((bpT ta a b).l)), (.bool ((bpT ta a b).n))]) rfl rfl rfl rfl fun tl gS e8 => ?_
    have xk := e8.size
    have E := E.step e8 (Xa om)
    replace gS : Blk tl bI 86 [(.int .i64 ((bpT ta a b).f)), (.int .i64 ((bpT ta a b).l)), (.bool ((bpT ta a b).n))] := gS
    have i4 := i3.step e8 (Xa om)
    refine ⟨i4, ?_⟩
    refine dO 19 (Zz rfl rfl rfl ?_)
    have tm := (cp.ch gR (Xd om (Yl aF om) (Yl aG om))).ch e8 (ne1 om)
    refine Zn (off := 0) 3 tm sz86 rfl (us := [(.int .i64 ((bpT tb ((bpT ta a b).L) ((bpT ta a b).F)).f)), (.int .i64 ((bpT tb ((bpT ta a b).L) ((bpT ta a b).F)).l)), (.bool ((bpT tb ((bpT ta a b).L) ((bpT ta a b).F)).n))]) rfl rfl rfl rfl fun tn gT e9 => ?_
    have xl := e9.size
    have E := E.step e9 (Xa om)
    replace gT : Blk tn bJ 86 [(.int .i64 ((bpT tb ((bpT ta a b).L) ((bpT ta a b).F)).f)), (.int .i64 ((bpT tb ((bpT ta a b).L) ((bpT ta a b).F)).l)), (.bool ((bpT tb ((bpT ta a b).L) ((bpT ta a b).F)).n))] := gT
    have kR := i4.step e9 (Xa om)
    refine ⟨kR, ?_⟩
    refine Yc (by kernel_rfl) ?_
    refine Zb ?_
    have to := (Z.ch e8 (fun g hg hm => by have I := mSg.1 hm; exact ah (by first | exact hg | exact I ▸ hg))).ch e9 (fun g hg hm => by have I := mSg.1 hm; exact aj (by first | exact hg | exact I ▸ hg))
    have tp := (aa.ch e8 (fun g hg hm => by have I := mSg.1 hm; exact ai (by first | exact hg | exact I ▸ hg))).ch e9 (fun g hg hm => by have I := mSg.1 hm; exact ak (by first | exact hg | exact I ▸ hg))
    have tq := (aQ.ch e8 (ne1 om)).ch e9 (ne1 om)
    have tr := gS.ch e9 (ne1 om)
    have ts := (((((dd.ch0 cG).ch dG (Qb om c om e om)).ch0 dY).ch gR (Qb om z om A om)).ch e8 (Qm om)).ch e9 (Qm om)
    have tu := ((((((c1.ch0 bC).ch0 cG).ch dG (Xd om (Yl m om) (Yl o om))).ch0 dY).ch gR (Xd om O P)).ch e8 (ne1 om)).ch e9 (ne1 om)
    exact cd _ _ _ _ bI bJ (sC4 rfl rfl rfl rfl (sC2 rfl rfl (Sub.nil _))) E om to aX h tp aY k H tq tr om om ah ai gT om om aj ak om ts tu aw ax
   refine Zz rfl rfl rfl ?_
   refine Yh zr86 fun bJ tv cp dH j4 => ?_
   have xm := dH.size
   have E := E.trans dH.of_nil
   have j5 := cp.lt
   replace cp : Blk tv bJ 86 [(.int .i64 0), (.int .i64 0), (.bool false)] := cp
   have i5 := gN.trans dH.of_nil
   refine ⟨i5, ?_⟩
   refine dO 7 (Zz rfl rfl rfl ?_)
   have tw := (((m_p.ch0 C2).ch0 bC).ch0 cG).ch0 dH
   have tx := (((b8.ch0 C2).ch0 bC).ch0 cG).ch0 dH
   have ty := (((b9.ch0 C2).ch0 bC).ch0 cG).ch0 dH
   have tz := (d2.ch0 cG).ch0 dH
   refine Step.call (Zl (xs := [.tmp 91, .tmp 97]) fk65 rfl) (ih tw tx bh (Lo.down c om) ty bs (Lo.down e om) aR tz om om oa ⟨by omega, by omega⟩ om) fun jA tA eJ => ?_
   obtain ⟨eK, eL, rfl, cf, a1, U, V, a2, X, Y, ae, fv⟩ := eJ
   have xn := fv.size
   have E := E.step fv (fun i hm => by rcases List.mem_cons.1 hm with I | hm; (right; exact I ▸ List.mem_cons_self ..); (rcases List.mem_append.1 hm with hm | hm; (exact (.inr (mCo _ (mAL _ hm)))); (exact (.inr (mCo _ (mAR _ hm))))))
   obtain ⟨bU, bV, rfl, eM, aF⟩ := a1.opn
   have z : Lo L_p (.slice bU ((bpT ta a b).L).length bV) := Yz U V om (Ys c e)
   obtain ⟨bW, bX, rfl, eN, aG⟩ := a2.opn
   have A : Lo L_p (.slice bW ((bpT ta a b).F).length bX) := Yz X Y om (Ys c e)
   have O := Zv U V (show a3 < _ by omega) (Yk (Zs c m om) (Zs e o om))
   have bb := Zv U V (show bI < _ by omega) (Yk (Zs c m om) (Zs e o om))
   have be := Zv U V (show bJ < _ by omega) (Yk (Zs c m om) (Zs e o om))
   have aB := Yt E U V om (Ys (fun g hm => (.inr (mCo _ (mAL _ hm)))) (fun g hm => (.inr (mCo _ (mAR _ hm)))))
   have P := Zv X Y (show a3 < _ by omega) (Yk (Zs c m om) (Zs e o om))
   have bc := Zv X Y (show bI < _ by omega) (Yk (Zs c m om) (Zs e o om))
   have bf := Zv X Y (show bJ < _ by omega) (Yk (Zs c m om) (Zs e o om))
   have aC := Yt E X Y om (Ys (fun g hm => (.inr (mCo _ (mAL _ hm)))) (fun g hm => (.inr (mCo _ (mAR _ hm)))))
   replace cf : Blk tA b_p t_p [(.slice bU ((bpT ta a b).L).length bV), (.int .i64 b0), (.int .i64 b1), (.slice bW ((bpT ta a b).F).length bX), (.bool b2)] := cf
   have i6 := i5.step fv (all3 (.inr (mAL _ (mAL _ (mSg.2 rfl)))) (fun i hm => .inr (mAL _ (mAR _ hm))) (fun i hm => .inr (mAR _ hm)))
   refine ⟨i6, ?_⟩
   refine dO 15 (Zz rfl rfl rfl ?_)
   have tB := ((ce.ch0 cG).ch0 dH).ch fv (Qb om c om e om)
   refine Step.call (Zl (xs := [.tmp 99, .tmp 105]) fk65 rfl) (ih cf a1 V (Lo.down z om) a2 Y (Lo.down A om) ae tB om om ob ⟨by omega, by omega⟩ om) fun c3 tC bD => ?_
   obtain ⟨b4, b5, rfl, aQ, Z, r, h, aa, s, k, H, gU⟩ := bD
   have xo := gU.size
   have E := E.step gU (fun i hm => by rcases List.mem_cons.1 hm with I | hm; (right; exact I ▸ List.mem_cons_self ..); (rcases List.mem_append.1 hm with hm | hm; (exact (aB _ hm)); (exact (aC _ hm))))
   obtain ⟨al, am, rfl, b6, au⟩ := Z.opn
   have ab : Lo L_p (.slice al ((bpT tb ((bpT ta a b).L) ((bpT ta a b).F)).L).length am) := Yz r h om (Ys z A)
   obtain ⟨an, ao, rfl, b7, av⟩ := aa.opn
   have ac : Lo L_p (.slice an ((bpT tb ((bpT ta a b).L) ((bpT ta a b).F)).F).length ao) := Yz s k om (Ys z A)
   have aw := Zv r h (show a3 < _ by omega) (Yk O P)
   have ah := Zv r h (show bI < _ by omega) (Yk bb bc)
   have aj := Zv r h (show bJ < _ by omega) (Yk be bf)
   have aX := Yt E r h om (Ys (fun g hm => (aB _ hm)) (fun g hm => (aC _ hm)))
   have ax := Zv s k (show a3 < _ by omega) (Yk O P)
   have ai := Zv s k (show bI < _ by omega) (Yk bb bc)
   have ak := Zv s k (show bJ < _ by omega) (Yk be bf)
   have aY := Yt E s k om (Ys (fun g hm => (aB _ hm)) (fun g hm => (aC _ hm)))
   replace aQ : Blk tC b_p t_p [(.slice al ((bpT tb ((bpT ta a b).L) ((bpT ta a b).F)).L).length am), (.int .i64 b0), (.int .i64 b1), (.slice an ((bpT tb ((bpT ta a b).L) ((bpT ta a b).F)).F).length ao), (.bool b2)] := aQ
   have i7 := i6.step gU (all3 (.inr (mAL _ (mAL _ (mSg.2 rfl)))) (Xq U om (.inr (mAL _ (mAL _ (mSg.2 rfl)))) (fun i hm => .inr (mAL _ (mAR _ hm))) (fun i hm => .inr (mAR _ hm))) (Xq X om (.inr (mAL _ (mAL _ (mSg.2 rfl)))) (fun i hm => .inr (mAL _ (mAR _ hm))) (fun i hm => .inr (mAR _ hm))))
   refine ⟨i7, ?_⟩
   refine dO 18 (Zz rfl rfl rfl ?_)
   have tD := ((co.ch0 dH).ch fv (Xd om (Yl m om) (Yl o om))).ch gU (Xd om bb bc)
   refine Zn (off := 0) 3 tD sz86 rfl (us := [(.int .i64 ((bpT ta a b).f)), (.int .i64 ((bpT ta a b).l)), (.bool ((bpT ta a b).n))]) rfl rfl rfl rfl fun tE gV fa => ?_
   have xp := fa.size
   have E := E.step fa (Xa om)
   replace gV : Blk tE bI 86 [(.int .i64 ((bpT ta a b).f)), (.int .i64 ((bpT ta a b).l)), (.bool ((bpT ta a b).n))] := gV
   have i8 := i7.step fa (Xa om)
   refine ⟨i8, ?_⟩
   refine dO 19 (Zz rfl rfl rfl ?_)
   have tF := ((cp.ch fv (Xd om (Yl m om) (Yl o om))).ch gU (Xd om be bf)).ch fa (ne1 om)
   refine Zn (off := 0) 3 tF sz86 rfl (us := [(.int .i64 ((bpT tb ((bpT ta a b).L) ((bpT ta a b).F)).f)), (.int .i64 ((bpT tb ((bpT ta a b).L) ((bpT ta a b).F)).l)), (.bool ((bpT tb ((bpT ta a b).L) ((bpT ta a b).F)).n))]) rfl rfl rfl rfl fun tG gW fb => ?_
   have xq := fb.size
   have E := E.step fb (Xa om)
   replace gW : Blk tG bJ 86 [(.int .i64 ((bpT tb ((bpT ta a b).L) ((bpT ta a b).F)).f)), (.int .i64 ((bpT tb ((bpT ta a b).L) ((bpT ta a b).F)).l)), (.bool ((bpT tb ((bpT ta a b).L) ((bpT ta a b).F)).n))] := gW
   have kS := i8.step fb (Xa om)
   refine ⟨kS, ?_⟩
   refine Yc (by kernel_rfl) ?_
   refine Zb ?_
   have tH := (Z.ch fa (fun g hg hm => by have I := mSg.1 hm; exact ah (by first | exact hg | exact I ▸ hg))).ch fb (fun g hg hm => by have I := mSg.1 hm; exact aj (by first | exact hg | exact I ▸ hg))
   have tI := (aa.ch fa (fun g hg hm => by have I := mSg.1 hm; exact ai (by first | exact hg | exact I ▸ hg))).ch fb (fun g hg hm => by have I := mSg.1 hm; exact ak (by first | exact hg | exact I ▸ hg))
   have tJ := (aQ.ch fa (ne1 om)).ch fb (ne1 om)
   have tK := gV.ch fb (ne1 om)
   have tL := (((((dd.ch0 cG).ch0 dH).ch fv (Qb om c om e om)).ch gU (Qb om z om A om)).ch fa (Qm om)).ch fb (Qm om)
   have tM := ((((((c1.ch0 bC).ch0 cG).ch0 dH).ch fv (Xd om (Yl m om) (Yl o om))).ch gU (Xd om O P)).ch fa (ne1 om)).ch fb (ne1 om)
   exact cd _ _ _ _ bI bJ (sC4 rfl rfl rfl rfl (sC2 rfl rfl (Sub.nil _))) E om tH aX h tI aY k H tJ tK om om ah ai gW om om aj ak om tL tM aw ax
  refine Zz rfl rfl rfl ?_
  refine Yh zr86 fun bJ md cp cH j4 => ?_
  have xr := cH.size
  have E := E.trans cH.of_nil
  have j5 := cp.lt
  replace cp : Blk md bJ 86 [(.int .i64 0), (.int .i64 0), (.bool false)] := cp
  have gX : Ch ([b_p] ++ (bl (.slice bi a.length bj)) ++ (bl (.slice bn b.length bp))) iF md := ((Ch.refl _ _).trans cH.of_nil)
  refine ⟨gX, ?_⟩
  refine Zat 7 16 (by kernel_rfl) ?_ ?_
  ·refine Zz rfl rfl rfl ?_
   have tN := ((m_p.ch0 C2).ch0 bC).ch0 cH
   have tO := ((b8.ch0 C2).ch0 bC).ch0 cH
   have tP := ((b9.ch0 C2).ch0 bC).ch0 cH
   have tQ := d2.ch0 cH
   refine Step.call (Zl (xs := [.tmp 91, .tmp 97]) fk65 rfl) (ih tN tO bh (Lo.down c om) tP bs (Lo.down e om) aR tQ om om oa ⟨by omega, by omega⟩ om) fun jA tR eJ => ?_
   obtain ⟨eK, eL, rfl, cf, a1, U, V, a2, X, Y, ae, dI⟩ := eJ
   have xt := dI.size
   have E := E.step dI (fun i hm => by rcases List.mem_cons.1 hm with I | hm; (right; exact I ▸ List.mem_cons_self ..); (rcases List.mem_append.1 hm with hm | hm; (exact (.inr (mCo _ (mAL _ hm)))); (exact (.inr (mCo _ (mAR _ hm))))))
   obtain ⟨bU, bV, rfl, eM, aF⟩ := a1.opn
   have z : Lo L_p (.slice bU ((bpT ta a b).L).length bV) := Yz U V om (Ys c e)
   obtain ⟨bW, bX, rfl, eN, aG⟩ := a2.opn
   have A : Lo L_p (.slice bW ((bpT ta a b).F).length bX) := Yz X Y om (Ys c e)
   have O := Zv U V (show a3 < _ by omega) (Yk (Zs c m om) (Zs e o om))
   have be := Zv U V (show bJ < _ by omega) (Yk (Zs c m om) (Zs e o om))
   have aB := Yt E U V om (Ys (fun g hm => (.inr (mCo _ (mAL _ hm)))) (fun g hm => (.inr (mCo _ (mAR _ hm)))))
   have P := Zv X Y (show a3 < _ by omega) (Yk (Zs c m om) (Zs e o om))
   have bf := Zv X Y (show bJ < _ by omega) (Yk (Zs c m om) (Zs e o om))
   have aC := Yt E X Y om (Ys (fun g hm => (.inr (mCo _ (mAL _ hm)))) (fun g hm => (.inr (mCo _ (mAR _ hm)))))
   replace cf : Blk tR b_p t_p [(.slice bU ((bpT ta a b).L).length bV), (.int .i64 b0), (.int .i64 b1), (.slice bW ((bpT ta a b).F).length bX), (.bool b2)] := cf
   have gY := gX.step dI (all3 (.inr (mAL _ (mAL _ (mSg.2 rfl)))) (fun i hm => .inr (mAL _ (mAR _ hm))) (fun i hm => .inr (mAR _ hm)))
   refine ⟨gY, ?_⟩
   refine Zat 15 16 (by kernel_rfl) ?_ ?_
   ·refine Zz rfl rfl rfl ?_
    have tS := (ce.ch0 cH).ch dI (Qb om c om e om)
    refine Step.call (Zl (xs := [.tmp 99, .tmp 105]) fk65 rfl) (ih cf a1 V (Lo.down z om) a2 Y (Lo.down A om) ae tS om om ob ⟨by omega, by omega⟩ om) fun c3 tT bD => ?_
    obtain ⟨b4, b5, rfl, aQ, Z, r, h, aa, s, k, H, hw⟩ := bD
    have xu := hw.size
    have E := E.step hw (fun i hm => by rcases List.mem_cons.1 hm with I | hm; (right; exact I ▸ List.mem_cons_self ..); (rcases List.mem_append.1 hm with hm | hm; (exact (aB _ hm)); (exact (aC _ hm))))
    obtain ⟨al, am, rfl, b6, au⟩ := Z.opn
    have ab : Lo L_p (.slice al ((bpT tb ((bpT ta a b).L) ((bpT ta a b).F)).L).length am) := Yz r h om (Ys z A)
    obtain ⟨an, ao, rfl, b7, av⟩ := aa.opn
    have ac : Lo L_p (.slice an ((bpT tb ((bpT ta a b).L) ((bpT ta a b).F)).F).length ao) := Yz s k om (Ys z A)
    have aw := Zv r h (show a3 < _ by omega) (Yk O P)
    have aj := Zv r h (show bJ < _ by omega) (Yk be bf)
    have aX := Yt E r h om (Ys (fun g hm => (aB _ hm)) (fun g hm => (aC _ hm)))
    have ax := Zv s k (show a3 < _ by omega) (Yk O P)
    have ak := Zv s k (show bJ < _ by omega) (Yk be bf)
    have aY := Yt E s k om (Ys (fun g hm => (aB _ hm)) (fun g hm => (aC _ hm)))
    replace aQ : Blk tT b_p t_p [(.slice al ((bpT tb ((bpT ta a b).L) ((bpT ta a b).F)).L).length am), (.int .i64 b0), (.int .i64 b1), (.slice an ((bpT tb ((bpT ta a b).L) ((bpT ta a b).F)).F).length ao), (.bool b2)] := aQ
    have i9 := gY.step hw (all3 (.inr (mAL _ (mAL _ (mSg.2 rfl)))) (Xq U om (.inr (mAL _ (mAL _ (mSg.2 rfl)))) (fun i hm => .inr (mAL _ (mAR _ hm))) (fun i hm => .inr (mAR _ hm))) (Xq X om (.inr (mAL _ (mAL _ (mSg.2 rfl)))) (fun i hm => .inr (mAL _ (mAR _ hm))) (fun i hm => .inr (mAR _ hm))))
    refine ⟨i9, ?_⟩
    refine dO 16 (Zz rfl rfl rfl ?_)
    refine Yh zr86 fun bI tU co fc j2 => ?_
    have xv := fc.size
    have E := E.trans fc.of_nil
    have j3 := co.lt
    replace co : Blk tU bI 86 [(.int .i64 0), (.int .i64 0), (.bool false)] := co
    have ja := i9.trans fc.of_nil
    refine ⟨ja, ?_⟩
    refine dO 18 (Zz rfl rfl rfl ?_)
    refine Zn (off := 0) 3 co sz86 rfl (us := [(.int .i64 ((bpT ta a b).f)), (.int .i64 ((bpT ta a b).l)), (.bool ((bpT ta a b).n))]) rfl rfl rfl rfl fun tV gZ fd => ?_
    have xw := fd.size
    have E := E.step fd (Xa om)
    replace gZ : Blk tV bI 86 [(.int .i64 ((bpT ta a b).f)), (.int .i64 ((bpT ta a b).l)), (.bool ((bpT ta a b).n))] := gZ
    have jb := ja.step fd (Xa om)
    refine ⟨jb, ?_⟩
    refine dO 19 (Zz rfl rfl rfl ?_)
    have tW := (((cp.ch dI (Xd om (Yl m om) (Yl o om))).ch hw (Xd om be bf)).ch0 fc).ch fd (ne1 om)
    refine Zn (off := 0) 3 tW sz86 rfl (us := [(.int .i64 ((bpT tb ((bpT ta a b).L) ((bpT ta a b).F)).f)), (.int .i64 ((bpT tb ((bpT ta a b).L) ((bpT ta a b).F)).l)), (.bool ((bpT tb ((bpT ta a b).L) ((bpT ta a b).F)).n))]) rfl rfl rfl rfl fun tX g0 fe => ?_
    have xx := fe.size
    have E := E.step fe (Xa om)
    replace g0 : Blk tX bJ 86 [(.int .i64 ((bpT tb ((bpT ta a b).L) ((bpT ta a b).F)).f)), (.int .i64 ((bpT tb ((bpT ta a b).L) ((bpT ta a b).F)).l)), (.bool ((bpT tb ((bpT ta a b).L) ((bpT ta a b).F)).n))] := g0
    have kT := jb.step fe (Xa om)
    refine ⟨kT, ?_⟩
    refine Yc (by kernel_rfl) ?_
    refine Zb ?_
    have tY := ((Z.ch0 fc).ch fd (dS ab au om)).ch fe (fun g hg hm => by have I := mSg.1 hm; exact aj (by first | exact hg | exact I ▸ hg))
    have tZ := ((aa.ch0 fc).ch fd (dS ac av om)).ch fe (fun g hg hm => by have I := mSg.1 hm; exact ak (by first | exact hg | exact I ▸ hg))
    have t0 := ((aQ.ch0 fc).ch fd (ne1 om)).ch fe (ne1 om)
    have t1 := gZ.ch fe (ne1 om)
    have t2 := (((((dd.ch0 cH).ch dI (Qb om c om e om)).ch hw (Qb om z om A om)).ch0 fc).ch fd (Qm om)).ch fe (Qm om)
    have t3 := ((((((c1.ch0 bC).ch0 cH).ch dI (Xd om (Yl m om) (Yl o om))).ch hw (Xd om O P)).ch0 fc).ch fd (ne1 om)).ch fe (ne1 om)
    exact cd _ _ _ _ bI bJ (sC4 rfl rfl rfl rfl (sC2 rfl rfl (Sub.nil _))) E om tY aX h tZ aY k H t0 t1 om om (Zs ab au om) (Zs ac av om) g0 om om aj ak om t2 t3 aw ax
   refine Zz rfl rfl rfl ?_
   refine Yh zr86 fun bI t4 co dZ j2 => ?_
   have xy := dZ.size
   have E := E.trans dZ.of_nil
   have j3 := co.lt
   replace co : Blk t4 bI 86 [(.int .i64 0), (.int .i64 0), (.bool false)] := co
   have jc := gY.trans dZ.of_nil
   refine ⟨jc, ?_⟩
   refine dO 15 (Zz rfl rfl rfl ?_)
   have t5 := cf.ch0 dZ
   have t6 := a1.ch0 dZ
   have t7 := a2.ch0 dZ
   have t8 := ((ce.ch0 cH).ch dI (Qb om c om e om)).ch0 dZ
   refine Step.call (Zl (xs := [.tmp 99, .tmp 105]) fk65 rfl) (ih t5 t6 V (Lo.down z om) t7 Y (Lo.down A om) ae t8 om om ob ⟨by omega, by omega⟩ om) fun c3 t9 bD => ?_
   obtain ⟨b4, b5, rfl, aQ, Z, r, h, aa, s, k, H, g1⟩ := bD
   have xz := g1.size
   have E := E.step g1 (fun i hm => by rcases List.mem_cons.1 hm with I | hm; (right; exact I ▸ List.mem_cons_self ..); (rcases List.mem_append.1 hm with hm | hm; (exact (aB _ hm)); (exact (aC _ hm))))
   obtain ⟨al, am, rfl, b6, au⟩ := Z.opn
   have ab : Lo L_p (.slice al ((bpT tb ((bpT ta a b).L) ((bpT ta a b).F)).L).length am) := Yz r h om (Ys z A)
   obtain ⟨an, ao, rfl, b7, av⟩ := aa.opn
   have ac : Lo L_p (.slice an ((bpT tb ((bpT ta a b).L) ((bpT ta a b).F)).F).length ao) := Yz s k om (Ys z A)
   have aw := Zv r h (show a3 < _ by omega) (Yk O P)
   have aj := Zv r h (show bJ < _ by omega) (Yk be bf)
   have ah := Zv r h (show bI < _ by omega) (Yk (Zs z aF om) (Zs A aG om))
   have aX := Yt E r h om (Ys (fun g hm => (aB _ hm)) (fun g hm => (aC _ hm)))
   have ax := Zv s k (show a3 < _ by omega) (Yk O P)
   have ak := Zv s k (show bJ < _ by omega) (Yk be bf)
   have ai := Zv s k (show bI < _ by omega) (Yk (Zs z aF om) (Zs A aG om))
   have aY := Yt E s k om (Ys (fun g hm => (aB _ hm)) (fun g hm => (aC _ hm)))
   replace aQ : Blk t9 b_p t_p [(.slice al ((bpT tb ((bpT ta a b).L) ((bpT ta a b).F)).L).length am), (.int .i64 b0), (.int .i64 b1), (.slice an ((bpT tb ((bpT ta a b).L) ((bpT ta a b).F)).F).length ao), (.bool b2)] := aQ
   have jd := jc.step g1 (all3 (.inr (mAL _ (mAL _ (mSg.2 rfl)))) (Xq U om (.inr (mAL _ (mAL _ (mSg.2 rfl)))) (fun i hm => .inr (mAL _ (mAR _ hm))) (fun i hm => .inr (mAR _ hm))) (Xq X om (.inr (mAL _ (mAL _ (mSg.2 rfl)))) (fun i hm => .inr (mAL _ (mAR _ hm))) (fun i hm => .inr (mAR _ hm))))
   refine ⟨jd, ?_⟩
   refine dO 18 (Zz rfl rfl rfl ?_)
   have ua := co.ch g1 (Xd om (Yl aF om) (Yl aG om))
   refine Zn (off := 0) 3 ua sz86 rfl (us := [(.int .i64 ((bpT ta a b).f)), (.int .i64 ((bpT ta a b).l)), (.bool ((bpT ta a b).n))]) rfl rfl rfl rfl fun ub g2 ff => ?_
   have xA := ff.size
   have E := E.step ff (Xa om)
   replace g2 : Blk ub bI 86 [(.int .i64 ((bpT ta a b).f)), (.int .i64 ((bpT ta a b).l)), (.bool ((bpT ta a b).n))] := g2
   have je := jd.step ff (Xa om)
   refine ⟨je, ?_⟩
   refine dO 19 (Zz rfl rfl rfl ?_)
   have uc := (((cp.ch dI (Xd om (Yl m om) (Yl o om))).ch0 dZ).ch g1 (Xd om be bf)).ch ff (ne1 om)
   refine Zn (off := 0) 3 uc sz86 rfl (us := [(.int .i64 ((bpT tb ((bpT ta a b).L) ((bpT ta a b).F)).f)), (.int .i64 ((bpT tb ((bpT ta a b).L) ((bpT ta a b).F)).l)), (.bool ((bpT tb ((bpT ta a b).L) ((bpT ta a b).F)).n))]) rfl rfl rfl rfl fun ud g3 fg => ?_
   have xB := fg.size
   have E := E.step fg (Xa om)
   replace g3 : Blk ud bJ 86 [(.int .i64 ((bpT tb ((bpT ta a b).L) ((bpT ta a b).F)).f)), (.int .i64 ((bpT tb ((bpT ta a b).L) ((bpT ta a b).F)).l)), (.bool ((bpT tb ((bpT ta a b).L) ((bpT ta a b).F)).n))] := g3
   have kU := je.step fg (Xa om)
   refine ⟨kU, ?_⟩
   refine Yc (by kernel_rfl) ?_
   refine Zb ?_
   have ue := (Z.ch ff (fun g hg hm => by have I := mSg.1 hm; exact ah (by first | exact hg | exact I ▸ hg))).ch fg (fun g hg hm => by have I := mSg.1 hm; exact aj (by first | exact hg | exact I ▸ hg))
   have uf := (aa.ch ff (fun g hg hm => by have I := mSg.1 hm; exact ai (by first | exact hg | exact I ▸ hg))).ch fg (fun g hg hm => by have I := mSg.1 hm; exact ak (by first | exact hg | exact I ▸ hg))
   have ug := (aQ.ch ff (ne1 om)).ch fg (ne1 om)
   have uh := g2.ch fg (ne1 om)
   have ui := (((((dd.ch0 cH).ch dI (Qb om c om e om)).ch0 dZ).ch g1 (Qb om z om A om)).ch ff (Qm om)).ch fg (Qm om)
   have uj := ((((((c1.ch0 bC).ch0 cH).ch dI (Xd om (Yl m om) (Yl o om))).ch0 dZ).ch g1 (Xd om O P)).ch ff (ne1 om)).ch fg (ne1 om)
   exact cd _ _ _ _ bI bJ (sC4 rfl rfl rfl rfl (sC2 rfl rfl (Sub.nil _))) E om ue aX h uf aY k H ug uh om om ah ai g3 om om aj ak om ui uj aw ax
  refine Zz rfl rfl rfl ?_
  refine Yh zr86 fun bI uk co dJ j2 => ?_
  have xC := dJ.size
  have E := E.trans dJ.of_nil
  have j3 := co.lt
  replace co : Blk uk bI 86 [(.int .i64 0), (.int .i64 0), (.bool false)] := co
  have jf := gX.trans dJ.of_nil
  refine ⟨jf, ?_⟩
  refine dO 7 (Zz rfl rfl rfl ?_)
  have ul := (((m_p.ch0 C2).ch0 bC).ch0 cH).ch0 dJ
  have um := (((b8.ch0 C2).ch0 bC).ch0 cH).ch0 dJ
  have un := (((b9.ch0 C2).ch0 bC).ch0 cH).ch0 dJ
  have uo := (d2.ch0 cH).ch0 dJ
  refine Step.call (Zl (xs := [.tmp 91, .tmp 97]) fk65 rfl) (ih ul um bh (Lo.down c om) un bs (Lo.down e om) aR uo om om oa ⟨by omega, by omega⟩ om) fun jA uq eJ => ?_
  obtain ⟨eK, eL, rfl, cf, a1, U, V, a2, X, Y, ae, fw⟩ := eJ
  have xD := fw.size
  have E := E.step fw (fun i hm => by rcases List.mem_cons.1 hm with I | hm; (right; exact I ▸ List.mem_cons_self ..); (rcases List.mem_append.1 hm with hm | hm; (exact (.inr (mCo _ (mAL _ hm)))); (exact (.inr (mCo _ (mAR _ hm))))))
  obtain ⟨bU, bV, rfl, eM, aF⟩ := a1.opn
  have z : Lo L_p (.slice bU ((bpT ta a b).L).length bV) := Yz U V om (Ys c e)
  obtain ⟨bW, bX, rfl, eN, aG⟩ := a2.opn
  have A : Lo L_p (.slice bW ((bpT ta a b).F).length bX) := Yz X Y om (Ys c e)
  have O := Zv U V (show a3 < _ by omega) (Yk (Zs c m om) (Zs e o om))
  have be := Zv U V (show bJ < _ by omega) (Yk (Zs c m om) (Zs e o om))
  have bb := Zv U V (show bI < _ by omega) (Yk (Zs c m om) (Zs e o om))
  have aB := Yt E U V om (Ys (fun g hm => (.inr (mCo _ (mAL _ hm)))) (fun g hm => (.inr (mCo _ (mAR _ hm)))))
  have P := Zv X Y (show a3 < _ by omega) (Yk (Zs c m om) (Zs e o om))
  have bf := Zv X Y (show bJ < _ by omega) (Yk (Zs c m om) (Zs e o om))
  have bc := Zv X Y (show bI < _ by omega) (Yk (Zs c m om) (Zs e o om))
  have aC := Yt E X Y om (Ys (fun g hm => (.inr (mCo _ (mAL _ hm)))) (fun g hm => (.inr (mCo _ (mAR _ hm)))))
  replace cf : Blk uq b_p t_p [(.slice bU ((bpT ta a b).L).length bV), (.int .i64 b0), (.int .i64 b1), (.slice bW ((bpT ta a b).F).length bX), (.bool b2)] := cf
  have jg := jf.step fw (all3 (.inr (mAL _ (mAL _ (mSg.2 rfl)))) (fun i hm => .inr (mAL _ (mAR _ hm))) (fun i hm => .inr (mAR _ hm)))
  refine ⟨jg, ?_⟩
  refine dO 15 (Zz rfl rfl rfl ?_)
  have ur := ((ce.ch0 cH).ch0 dJ).ch fw (Qb om c om e om)
  refine Step.call (Zl (xs := [.tmp 99, .tmp 105]) fk65 rfl) (ih cf a1 V (Lo.down z om) a2 Y (Lo.down A om) ae ur om om ob ⟨by omega, by omega⟩ om) fun c3 ut bD => ?_
  obtain ⟨b4, b5, rfl, aQ, Z, r, h, aa, s, k, H, g4⟩ := bD
  have xE := g4.size
  have E := E.step g4 (fun i hm => by rcases List.mem_cons.1 hm with I | hm; (right; exact I ▸ List.mem_cons_self ..); (rcases List.mem_append.1 hm with hm | hm; (exact (aB _ hm)); (exact (aC _ hm))))
  obtain ⟨al, am, rfl, b6, au⟩ := Z.opn
  have ab : Lo L_p (.slice al ((bpT tb ((bpT ta a b).L) ((bpT ta a b).F)).L).length am) := Yz r h om (Ys z A)
  obtain ⟨an, ao, rfl, b7, av⟩ := aa.opn
  have ac : Lo L_p (.slice an ((bpT tb ((bpT ta a b).L) ((bpT ta a b).F)).F).length ao) := Yz s k om (Ys z A)
  have aw := Zv r h (show a3 < _ by omega) (Yk O P)
  have aj := Zv r h (show bJ < _ by omega) (Yk be bf)
  have ah := Zv r h (show bI < _ by omega) (Yk bb bc)
  have aX := Yt E r h om (Ys (fun g hm => (aB _ hm)) (fun g hm => (aC _ hm)))
  have ax := Zv s k (show a3 < _ by omega) (Yk O P)
  have ak := Zv s k (show bJ < _ by omega) (Yk be bf)
  have ai := Zv s k (show bI < _ by omega) (Yk bb bc)
  have aY := Yt E s k om (Ys (fun g hm => (aB _ hm)) (fun g hm => (aC _ hm)))
  replace aQ : Blk ut b_p t_p [(.slice al ((bpT tb ((bpT ta a b).L) ((bpT ta a b).F)).L).length am), (.int .i64 b0), (.int .i64 b1), (.slice an ((bpT tb ((bpT ta a b).L) ((bpT ta a b).F)).F).length ao), (.bool b2)] := aQ
  have jh := jg.step g4 (all3 (.inr (mAL _ (mAL _ (mSg.2 rfl)))) (Xq U om (.inr (mAL _ (mAL _ (mSg.2 rfl)))) (fun i hm => .inr (mAL _ (mAR _ hm))) (fun i hm => .inr (mAR _ hm))) (Xq X om (.inr (mAL _ (mAL _ (mSg.2 rfl)))) (fun i hm => .inr (mAL _ (mAR _ hm))) (fun i hm => .inr (mAR _ hm))))
  refine ⟨jh, ?_⟩
  refine dO 18 (Zz rfl rfl rfl ?_)
  have uu := (co.ch fw (Xd om (Yl m om) (Yl o om))).ch g4 (Xd om bb bc)
  refine Zn (off := 0) 3 uu sz86 rfl (us := [(.int .i64 ((bpT ta a b).f)), (.int .i64 ((bpT ta a b).l)), (.bool ((bpT ta a b).n))]) rfl rfl rfl rfl fun uv g5 fh => ?_
  have xF := fh.size
  have E := E.step fh (Xa om)
  replace g5 : Blk uv bI 86 [(.int .i64 ((bpT ta a b).f)), (.int .i64 ((bpT ta a b).l)), (.bool ((bpT ta a b).n))] := g5
  have ji := jh.step fh (Xa om)
  refine ⟨ji, ?_⟩
  refine dO 19 (Zz rfl rfl rfl ?_)
  have uw := (((cp.ch0 dJ).ch fw (Xd om (Yl m om) (Yl o om))).ch g4 (Xd om be bf)).ch fh (ne1 om)
  refine Zn (off := 0) 3 uw sz86 rfl (us := [(.int .i64 ((bpT tb ((bpT ta a b).L) ((bpT ta a b).F)).f)), (.int .i64 ((bpT tb ((bpT ta a b).L) ((bpT ta a b).F)).l)), (.bool ((bpT tb ((bpT ta a b).L) ((bpT ta a b).F)).n))]) rfl rfl rfl rfl fun ux g6 fi => ?_
  have xG := fi.size
  have E := E.step fi (Xa om)
  replace g6 : Blk ux bJ 86 [(.int .i64 ((bpT tb ((bpT ta a b).L) ((bpT ta a b).F)).f)), (.int .i64 ((bpT tb ((bpT ta a b).L) ((bpT ta a b).F)).l)), (.bool ((bpT tb ((bpT ta a b).L) ((bpT ta a b).F)).n))] := g6
  have kV := ji.step fi (Xa om)
  refine ⟨kV, ?_⟩
  refine Yc (by kernel_rfl) ?_
  refine Zb ?_
  have uy := (Z.ch fh (fun g hg hm => by have I := mSg.1 hm; exact ah (by first | exact hg | exact I ▸ hg))).ch fi (fun g hg hm => by have I := mSg.1 hm; exact aj (by first | exact hg | exact I ▸ hg))
  have uz := (aa.ch fh (fun g hg hm => by have I := mSg.1 hm; exact ai (by first | exact hg | exact I ▸ hg))).ch fi (fun g hg hm => by have I := mSg.1 hm; exact ak (by first | exact hg | exact I ▸ hg))
  have uA := (aQ.ch fh (ne1 om)).ch fi (ne1 om)
  have uB := g5.ch fi (ne1 om)
  have uC := (((((dd.ch0 cH).ch0 dJ).ch fw (Qb om c om e om)).ch g4 (Qb om z om A om)).ch fh (Qm om)).ch fi (Qm om)
  have uD := ((((((c1.ch0 bC).ch0 cH).ch0 dJ).ch fw (Xd om (Yl m om) (Yl o om))).ch g4 (Xd om O P)).ch fh (ne1 om)).ch fi (ne1 om)
  exact cd _ _ _ _ bI bJ (sC4 rfl rfl rfl rfl (sC2 rfl rfl (Sub.nil _))) E om uy aX h uz aY k H uA uB om om ah ai g6 om om aj ak om uC uD aw ax
 have lV := gn
 have gn := Yj gn
 refine Zg fun y9 uE => ?_
 refine Zc (Za rfl rfl (Yy rfl rfl) (Za rfl rfl (Zf rfl) (Ze (Zb (uE _ _ ?_)))))
 refine Zp rfl (fun dL => ?_) (fun dL => ?_)
 ·have me := dL
  have dL := Yi dL
  obtain ⟨ta, dz, oa, sab, ga⟩ := hok.kk1 om
  have za := Zbq ta a b
  have eb := bp6 (L := a) (F := b) hok om dz
  refine Zg fun zc uF => ?_
  refine Zc (Za rfl rfl (Zd rfl) (Za rfl rfl (Zd rfl) (Za rfl rfl (Yf rfl) (Za rfl rfl (Zh fa131_1 rfl) (Za rfl rfl (Zk F5 agg129 rfl rfl) (Zm rfl rfl ?_))))))
  have uG := hD.ch0 C2
  refine (Yw (j := 0) uG Zao el129 sz88 rfl rfl rfl om fun mf mg kW jj => ?_)
  have uH := g9.ch0 C2
  have xH := dz
  have jk := uH.2 _ _ _ kW dz
  obtain ⟨uI, uJ, mE, mF, mG, jB⟩ := jk.open
  have mH := jB.1
  replace jj : At W2 LT_x L_p mf ([(.pointer (some mg))]) := jj
  refine Za rfl rfl (Yr jj agg88 rfl rfl) (Zm rfl rfl ?_)
  have uK := m_p.ch0 C2
  have uL := b8.ch0 C2
  have uM := b9.ch0 C2
  refine Step.call (Zl (xs := [.tmp 143, .tmp 149]) fk65 rfl) (ih uK uL bh (Lo.down c om) uM bs (Lo.down e om) aR jk om om oa ⟨by omega, by omega⟩ om) fun xI uN mh => ?_
  obtain ⟨mI, mJ, rfl, jl, fx, dk, cX, fy, dl, cY, du, kX⟩ := mh
  have xJ := kX.size
  have E := E.step kX (fun i hm => by rcases List.mem_cons.1 hm with I | hm; (right; exact I ▸ List.mem_cons_self ..); (rcases List.mem_append.1 hm with hm | hm; (exact (.inr (mCo _ (mAL _ hm)))); (exact (.inr (mCo _ (mAR _ hm))))))
  obtain ⟨hh, hj, rfl, mK, de⟩ := fx.opn
  have cj : Lo L_p (.slice hh ((bpT ta a b).L).length hj) := Yz dk cX om (Ys c e)
  obtain ⟨hk, hl, rfl, mL, df⟩ := fy.opn
  have ck : Lo L_p (.slice hk ((bpT ta a b).F).length hl) := Yz dl cY om (Ys c e)
  have dm := Zv dk cX (show a3 < _ by omega) (Yk (Zs c m om) (Zs e o om))
  have fj := Yt E dk cX om (Ys (fun g hm => (.inr (mCo _ (mAL _ hm)))) (fun g hm => (.inr (mCo _ (mAR _ hm)))))
  have dn := Zv dl cY (show a3 < _ by omega) (Yk (Zs c m om) (Zs e o om))
  have fk := Yt E dl cY om (Ys (fun g hm => (.inr (mCo _ (mAL _ hm)))) (fun g hm => (.inr (mCo _ (mAR _ hm)))))
  replace jl : Blk uN b_p t_p [(.slice hh ((bpT ta a b).L).length hj), (.int .i64 b0), (.int .i64 b1), (.slice hk ((bpT ta a b).F).length hl), (.bool b2)] := jl
  refine Zm rfl rfl ?_
  refine Yh zr86 fun jC uO jD hy zd => ?_
  have xK := hy.size
  have E := E.trans hy.of_nil
  have ze := jD.lt
  replace jD : Blk uO jC 86 [(.int .i64 0), (.int .i64 0), (.bool false)] := jD
  refine Zm rfl rfl ?_
  refine Zn (off := 0) 3 jD sz86 rfl (us := [(.int .i64 ((bpT ta a b).f)), (.int .i64 ((bpT ta a b).l)), (.bool ((bpT ta a b).n))]) rfl rfl rfl rfl fun uP dM hz => ?_
  have xL := hz.size
  have E := E.step hz (Xa om)
  replace dM : Blk uP jC 86 [(.int .i64 ((bpT ta a b).f)), (.int .i64 ((bpT ta a b).l)), (.bool ((bpT ta a b).n))] := dM
  refine Ze (Zb (uF _ _ ?_))
  refine Zg fun zf uQ => ?_
  refine Zc (Za rfl rfl (Zd rfl) (Za rfl rfl (Zh fa86_1 rfl) (Za rfl rfl (Zk dM.at_ agg3 rfl rfl) (Za rfl rfl (Zh fa86_0 rfl) (Za rfl rfl (Zk dM.at_ agg3 rfl rfl) (Zm rfl rfl ?_))))))
  have uR := (jl.ch0 hy).ch hz (ne1 om)
  have uS := (fx.ch0 hy).ch hz (dS cj de om)
  have uT := (fy.ch0 hy).ch hz (dS ck df om)
  refine Step.call (Zl (xs := [.tmp 151, .tmp 153, .tmp 155]) fk103 rfl) (Zbo uR om uS cX (Lo.down cj om) uT cY (Lo.down ck om) du _ _ om (L_p := 0)) fun xM uU mi => ?_
  obtain ⟨mM, mN, rfl, jm, fz, cZ, cI, fA, c0, cJ, dv, jE⟩ := mi
  have xN := jE.size
  have E := E.step jE (fun i hm => by rcases List.mem_cons.1 hm with I | hm; (right; exact I ▸ List.mem_cons_self ..); (rcases List.mem_append.1 hm with hm | hm; (exact (fj _ hm)); (exact (fk _ hm))))
  obtain ⟨dg, dh, rfl, mO, mj⟩ := fz.opn
  have la : Lo L_p (.slice dg (((bpT ta a b).L)).length dh) := Yz cZ cI om (Ys cj ck)
  obtain ⟨di, dj, rfl, mP, ml⟩ := fA.opn
  have lc : Lo L_p (.slice di (lkL ((bpT ta a b).l) ((bpT ta a b).f) ((bpT ta a b).F)).length dj) := Yz c0 cJ om (Ys cj ck)
  have hA := Zv cZ cI (show a3 < _ by omega) (Yk dm dn)
  have kY := Zv cZ cI (show jC < _ by omega) (Yk (Zs cj de om) (Zs ck df om))
  have jF := Yt E cZ cI om (Ys (fun g hm => (fj _ hm)) (fun g hm => (fk _ hm)))
  have hB := Zv c0 cJ (show a3 < _ by omega) (Yk dm dn)
  have kZ := Zv c0 cJ (show jC < _ by omega) (Yk (Zs cj de om) (Zs ck df om))
  have jG := Yt E c0 cJ om (Ys (fun g hm => (fj _ hm)) (fun g hm => (fk _ hm)))
  replace jm : Blk uU b_p t_p [(.slice dg (((bpT ta a b).L)).length dh), (.int .i64 b0), (.int .i64 b1), (.slice di (lkL ((bpT ta a b).l) ((bpT ta a b).f) ((bpT ta a b).F)).length dj), (.bool b2)] := jm
  refine Ze (Zb (uQ _ _ ?_))
  refine Zg fun zg uV => ?_
  refine Zc (Za rfl rfl (Zh fa86_0 rfl) ?_)
  have mm := dM.ch jE (Xd om (Yl de om) (Yl df om))
  refine Za rfl rfl (Zk mm.at_ agg3 rfl rfl) (Za rfl rfl (Zh fa86_1 rfl) (Za rfl rfl (Zk mm.at_ agg3 rfl rfl) (Za rfl rfl (Yn (parts := [(0, .tmp 158), (1, .tmp 160), (2, .const (Go.Value.bool true))]) (cells := [(.int .i64 ((bpT ta a b).f)), (.int .i64 ((bpT ta a b).l)), (.bool true)]) zr86 pl86 rfl rfl) (Zm rfl rfl ?_))))
  have uW := (((c1.ch kX (Xd om (Yl m om) (Yl o om))).ch0 hy).ch hz (ne1 om)).ch jE (Xd om dm dn)
  refine Zn (off := 0) 3 uW sz86 rfl (us := [(.int .i64 ((bpT ta a b).f)), (.int .i64 ((bpT ta a b).l)), (.bool true)]) rfl rfl rfl rfl fun jH g7 jn => ?_
  have xO := jn.size
  have E := E.step jn (Xa om)
  replace g7 : Blk jH a3 86 [(.int .i64 ((bpT ta a b).f)), (.int .i64 ((bpT ta a b).l)), (.bool true)] := g7
  refine Ze (Zb (uV _ _ ?_))
  refine Zq (Yd (Zo ?_))
  have uX := jm.ch jn (ne1 om)
  have uY := fz.ch jn (fun g hg hm => by have I := mSg.1 hm; exact hA (by first | exact hg | exact I ▸ hg))
  have k3 : Ol ics 3 1 jH (.slice dg (((bpT ta a b).L)).length dh) ((bpT x a b).L) := by
   have hx := uY
   exact hx.eq (by rw [eb] <;> first | rfl | (rw [hte]; done))
  have uZ := fA.ch jn (fun g hg hm => by have I := mSg.1 hm; exact hB (by first | exact hg | exact I ▸ hg))
  have k4 : Ol ics 3 1 jH (.slice di (lkL ((bpT ta a b).l) ((bpT ta a b).f) ((bpT ta a b).F)).length dj) ((bpT x a b).F) := by
   have hx := uZ
   exact hx.eq (by rw [eb] <;> first | rfl | (rw [hte]; done))
  have k5 : Blk jH b_p t_p [(.slice dg (((bpT ta a b).L)).length dh), .int .i64 b0, .int .i64 b1, (.slice di (lkL ((bpT ta a b).l) ((bpT ta a b).f) ((bpT ta a b).F)).length dj), .bool b2] := by
   have hx := uX
   exact hx
  exact Zi [_] (Zt g7 rfl agg86 sz86 trivial) ⟨(.slice dg (((bpT ta a b).L)).length dh), (.slice di (lkL ((bpT ta a b).l) ((bpT ta a b).f) ((bpT ta a b).F)).length dj), (((congrArg (fun zq => (Value.agg #[.int .i64 zq, .int .i64 ((bpT ta a b).l), .bool true])) (by rw [eb] <;> first | rfl | (rw [hte]; done))).trans (congrArg (fun zq => (Value.agg #[.int .i64 ((bpT x a b).f), .int .i64 zq, .bool true])) (by rw [eb] <;> first | rfl | (rw [hte]; done)))).trans (congrArg (fun zq => (Value.agg #[.int .i64 ((bpT x a b).f), .int .i64 ((bpT x a b).l), .bool zq])) (by rw [eb] <;> first | rfl | (rw [hte]; done)))), k5, k3, jF, cI, k4, jG, cJ, dv, E⟩
 have me := dL
 have dL := Yj dL
 have eb := bp0 (t := x) (L := a) (F := b) ⟨by omega, by omega, by omega, by omega, by omega⟩
 refine Zu ?_
 refine Zw (Zb (H3 _ _ ?_))
 refine Zg fun zh u0 => ?_
 refine Zc (Za rfl rfl (Yn (parts := []) (cells := [(.int .i64 0), (.int .i64 0), (.bool false)]) zr86 pl86 rfl rfl) (Zm rfl rfl ?_))
 refine Zn (off := 0) 3 c1 sz86 rfl (us := [(.int .i64 0), (.int .i64 0), (.bool false)]) rfl rfl rfl rfl fun jI g8 jo => ?_
 have xP := jo.size
 have E := E.step jo (Xa om)
 replace g8 : Blk jI a3 86 [(.int .i64 0), (.int .i64 0), (.bool false)] := g8
 refine Ze (Zb (u0 _ _ ?_))
 refine Zq ?_
 have u1 := (m_p.ch0 C2).ch jo (ne1 om)
 have u2 := (b8.ch0 C2).ch jo (dS c m om)
 have k6 : Ol ics 3 1 jI (.slice bi a.length bj) ((bpT x a b).L) := by
  have hx := u2
  exact hx.eq (by rw [eb] <;> first | rfl | (rw [hte]; done))
 have u3 := (b9.ch0 C2).ch jo (dS e o om)
 have k7 : Ol ics 3 1 jI (.slice bn b.length bp) ((bpT x a b).F) := by
  have hx := u3
  exact hx.eq (by rw [eb] <;> first | rfl | (rw [hte]; done))
 have k8 : Blk jI b_p t_p [(.slice bi a.length bj), .int .i64 b0, .int .i64 b1, (.slice bn b.length bp), .bool b2] := by
  have hx := u1
  exact hx
 exact Zi [_] (Zt g8 rfl agg86 sz86 trivial) ⟨(.slice bi a.length bj), (.slice bn b.length bp), (((congrArg (fun zq => (Value.agg #[.int .i64 zq, .int .i64 0, .bool false])) (by rw [eb] <;> first | rfl | (rw [hte]; done))).trans (congrArg (fun zq => (Value.agg #[.int .i64 ((bpT x a b).f), .int .i64 zq, .bool false])) (by rw [eb] <;> first | rfl | (rw [hte]; done)))).trans (congrArg (fun zq => (Value.agg #[.int .i64 ((bpT x a b).f), .int .i64 ((bpT x a b).l), .bool zq])) (by rw [eb] <;> first | rfl | (rw [hte]; done)))), k8, k6, (fun g hm => by exact (.inr (mCo _ (mAL _ hm)))), bh, k7, (fun g hm => by exact (.inr (mCo _ (mAR _ hm)))), bs, aR, E⟩
theorem Zdk {w : World} {b_p t_p L_p : Nat} {a : Value} {d : List Int} {s : Int} {t : Int} {b : Value} {e : List Int} {u : Bool} (m_p : Blk w b_p t_p [a, (.int .i64 s), (.int .i64 t), b, (.bool u)])  (m : Ol ics 3 1 w a d) (h : b_p ∉ bl a) (i : Lo L_p a) (o : Ol ics 3 1 w b e) (j : b_p ∉ bl b) (k : Lo L_p b) (c : ∀ g ∈ bl a, g ∉ bl b) {LT_x : Nat} {p_x : Addr} {x : Tr} (r : TrAt w LT_x L_p p_x x) (y : b_p < LT_x ∨ L_p ≤ b_p) (z : L_p ≤ w.heap.size) (hok : Okd x) (hb : d.length + x.sz ≤ 100000 ∧ e.length + x.sz ≤ 100000) :
 Ctr Try.prog 65 #[(.pointer (some ⟨b_p, 0, none⟩)), (.pointer (some p_x))] w (fun v w' => ∃ (p q : Value), v = .agg #[.int .i64 ((bpT x d e).f), .int .i64 ((bpT x d e).l), .bool ((bpT x d e).n)] ∧ Blk w' b_p t_p [p, .int .i64 s, .int .i64 t, q, .bool u] ∧ Ol ics 3 1 w' p ((bpT x d e).L) ∧ (∀ g ∈ bl p, w.heap.size ≤ g ∨ g ∈ (b_p :: (bl a ++ bl b))) ∧ b_p ∉ bl p ∧ Ol ics 3 1 w' q ((bpT x d e).F) ∧ (∀ g ∈ bl q, w.heap.size ≤ g ∨ g ∈ (b_p :: (bl a ++ bl b))) ∧ b_p ∉ bl q ∧ (∀ g ∈ bl p, g ∉ bl q) ∧ Ch (b_p :: (bl a ++ bl b)) w w') := Zcx _ m_p m h i o j k c r y z hok hb (Nat.lt_succ_self _)

/-- impl.BuildPositions -/
theorem Zdu {w : World} {LL_e ba : Nat} {aI : Value} {e : List Token} (X : Ls Token.cs 4 w LL_e ba aI e) (hb : e.length ≤ 1048576) :
 Ctr Try.prog 26 #[(.agg #[aI])] w (fun v w' => ∃ (aj : Value) (ak : Value), v = .tuple #[.agg #[aj, .int .i64 ((bpE e).1.f), .int .i64 ((bpE e).1.l), ak, .bool ((bpE e).1.n)], .bool ((bpE e).2)] ∧ Ol ics 3 1 w' aj ((bpE e).1.L) ∧ Lo w.heap.size aj ∧ Ol ics 3 1 w' ak ((bpE e).1.F) ∧ Lo w.heap.size ak ∧ (∀ g ∈ bl aj, g ∉ bl ak) ∧ Ch [] w w') := by
 obtain ⟨aJ, aK, aL⟩ := X.val
 subst aL
 have bP := X.len
 have X := X.here (by decide)
 have E := Ch.refl [] w
 have sl := Zhc e
 refine Ye (N := 49) (vs0 := [(.agg #[(.slice aJ e.length aK)])]) Try.func26 rfl rfl rfl ?_
 refine Zg fun K1 H1 => ?_
 refine Zc (Zm rfl rfl ?_)
 refine Qw rfl fun bQ W2 a2 C2 cX => ?_
 have cY := C2.size
 have E := E.trans C2
 have cZ := a2.lt
 replace a2 : Blk W2 bQ 44 [(.slice aJ e.length aK)] := a2
 refine Zm rfl rfl ?_
 refine Yh zr48 fun ao W3 aM C3 c0 => ?_
 have c1 := C3.size
 have E := E.trans C3
 have c2 := aM.lt
 replace aM : Blk W3 ao 48 [(.slice none 0 0), (.int .i64 0), (.int .i64 0), (.slice none 0 0), (.bool false)] := aM
 refine Za rfl rfl (Zf rfl) (Ze (Zb (H1 _ _ ?_)))
 refine Zg fun K4 H4 => ?_
 refine Zc ?_
 have F5 := a2.ch0 C3
 refine Za rfl rfl (Zy F5.at_ agg44 sz44 rfl) (Zm rfl rfl ?_)
 have F6 := (X.ch0 C2).ch0 C3
 refine Step.call (Zl (xs := [.tmp 12]) fk28 rfl) (Zct F6 om) fun bR W7 bb => ?_
 obtain ⟨a3, rfl, y, p, C7⟩ := bb
 have c3 := C7.size
 have E := E.trans C7
 obtain ⟨u, x, rfl, aN, t⟩ := y.opn
 refine Za rfl rfl (Zd rfl) (Za rfl rfl (Qh rfl rfl) (Za rfl rfl (Qh rfl rfl) (Zm rfl rfl ?_)))
 refine Yh zr44 fun aB W8 a4 C8 c4 => ?_
 have c5 := C8.size
 have E := E.trans C8
 have c6 := a4.lt
 replace a4 : Blk W8 aB 44 [(.slice none 0 0)] := a4
 refine Zm rfl rfl ?_
 refine Zn (off := 0) 1 a4 sz44 rfl (us := [(.slice u ((Qc e).1).length x)]) rfl rfl rfl rfl fun W9 P C9 => ?_
 have c7 := C9.size
 have E := E.step C9 (lS om)
 replace P : Blk W9 aB 44 [(.slice u ((Qc e).1).length x)] := P
 refine Za rfl rfl (Zf rfl) (Ze (Zb (H4 _ _ ?_)))
 refine Zg fun c8 bS => ?_
 refine Zg fun c9 bT => ?_
 refine Zc (Za rfl rfl (Zd rfl) (Za rfl rfl (Zbh rfl) (Ze (Zb (bT _ _ ?_)))))
 refine Zp rfl (fun b => ?_) (fun b => ?_)
 ·have bc := b
  have b := Qu b
  refine Zg fun da bU => ?_
  refine Zc (Za rfl rfl (Yn (parts := []) (cells := [(.slice none 0 0), (.int .i64 0), (.int .i64 0), (.slice none 0 0), (.bool false)]) zr48 pl48 rfl rfl) (Zm rfl rfl ?_))
  have bV := ((aM.ch0 C7).ch0 C8).ch C9 (ne1 om)
  refine Zn (off := 0) 5 bV sz48 rfl (us := [(.slice none 0 0), (.int .i64 0), (.int .i64 0), (.slice none 0 0), (.bool false)]) rfl rfl rfl rfl fun aO Y bC => ?_
  have bW := bC.size
  have E := E.step bC (lS om)
  replace Y : Blk aO ao 48 [(.slice none 0 0), (.int .i64 0), (.int .i64 0), (.slice none 0 0), (.bool false)] := Y
  refine Za rfl rfl (Zf rfl) (Ze (Zb (bU _ _ ?_)))
  refine Zq (Zo ?_)
  have aP : Ol ics 3 1 aO (.slice none 0 0) ((bpE e).1.L) := by
   have hx := Ol.nil (cs := ics) (e := 3) (k := 1) aO
   first | (rw [Qq b om c]; exact hx) | (rw [Xj (fun q => by rw [b] at q; exact Bool.false_ne_true q.1)]; exact hx) | (rw [Xj (fun q => by have G := q.2; omega)]; exact hx)
  have aQ : Ol ics 3 1 aO (.slice none 0 0) ((bpE e).1.F) := by
   have hx := Ol.nil (cs := ics) (e := 3) (k := 1) aO
   first | (rw [Qq b om c]; exact hx) | (rw [Xj (fun q => by rw [b] at q; exact Bool.false_ne_true q.1)]; exact hx) | (rw [Xj (fun q => by have G := q.2; omega)]; exact hx)
  exact Zi [_, _] (Zt Y rfl agg48 sz48 ⟨rfl, trivial⟩) ⟨(.slice none 0 0), (.slice none 0 0), ((((congrArg (fun zq => (Value.tuple #[.agg #[(.slice none 0 0), .int .i64 zq, .int .i64 0, (.slice none 0 0), .bool false], .bool false])) (by first | (rw [Qq b om c]; done) | (rw [Xj (fun q => by rw [b] at q; exact Bool.false_ne_true q.1)]; done) | (rw [Xj (fun q => by have G := q.2; omega)]; done))).trans (congrArg (fun zq => (Value.tuple #[.agg #[(.slice none 0 0), .int .i64 ((bpE e).1.f), .int .i64 zq, (.slice none 0 0), .bool false], .bool false])) (by first | (rw [Qq b om c]; done) | (rw [Xj (fun q => by rw [b] at q; exact Bool.false_ne_true q.1)]; done) | (rw [Xj (fun q => by have G := q.2; omega)]; done)))).trans (congrArg (fun zq => (Value.tuple #[.agg #[(.slice none 0 0), .int .i64 ((bpE e).1.f), .int .i64 ((bpE e).1.l), (.slice none 0 0), .bool zq], .bool false])) (by first | (rw [Qq b om c]; done) | (rw [Xj (fun q => by rw [b] at q; exact Bool.false_ne_true q.1)]; done) | (rw [Xj (fun q => by have G := q.2; omega)]; done)))).trans (congrArg (fun zq => (Value.tuple #[.agg #[(.slice none 0 0), .int .i64 ((bpE e).1.f), .int .i64 ((bpE e).1.l), (.slice none 0 0), .bool ((bpE e).1.n)], .bool zq])) (by first | (rw [Qq b om c]; done) | (rw [Xj (fun q => by rw [b] at q; exact Bool.false_ne_true q.1)]; done) | (rw [Xj (fun q => by have G := q.2; omega)]; done)))), aP, (Lo.nil _), aQ, (Lo.nil _), (fun g hm hg => by cases hm), E⟩
 have bc := b
 have b := Qv b
 obtain ⟨bD, a5, bX, f5, bE⟩ := Zia b
 refine Zu ?_
 refine Zb (bS _ _ ?_)
 refine Zg fun db bY => ?_
 refine Zc (Za rfl rfl (Zf rfl) (Ze (Zb (bY _ _ ?_))))
 refine Zg fun dc bZ => ?_
 refine Zg fun dd b0 => ?_
 refine Zc (Za rfl rfl (Zh fa44_0 rfl) (Za rfl rfl (Zk P.at_ agg42 rfl rfl) (Za rfl rfl (Xc (by rw [el42]; rfl) rfl) (Za rfl rfl (Zd rfl) (Ze (Zb (b0 _ _ ?_)))))))
 refine Zx ?_
 have b1 := ((aM.ch0 C7).ch0 C8).ch C9 (ne1 om)
 have b2 := (y.ch0 C8).ch C9 (dS p t om)
 refine Xi (σ := Nat × Int) (fun ⟨k, m⟩ => [(2, (.pointer (some ⟨ao, 0, none⟩))), (3, (.bool false)), (4, (.pointer (some ⟨aB, 0, none⟩))), (6, (.int .i64 m)), (20, (.slice u ((Qc e).1).length x)), (21, (.int .i64 ((((Qc e).1).length : Nat) : Int))), (22, (.int .i64 ((k : Nat) : Int)))]) (fun ⟨k, m⟩ wx => Ch [] w wx ∧ W9.heap.size ≤ wx.heap.size ∧ (k ≤ (Qc e).1.length) ∧ (m = cntL ((Qc e).1.take k)) ∧ Blk wx ao 48 [(.slice none 0 0), (.int .i64 0), (.int .i64 0), (.slice none 0 0), (.bool false)] ∧ Blk wx aB 44 [(.slice u ((Qc e).1).length x)] ∧ Ol Token.cs 84 4 wx (.slice u ((Qc e).1).length x) ((Qc e).1)) (fun ⟨k, m⟩ => (Qc e).1.length - k) (0, 0) (sC4 rfl rfl rfl rfl (sC2 rfl rfl (sC1 rfl (Sub.nil _)))) ⟨E, (Nat.le_refl _), om, (by simp [cntL]), b1, P, b2⟩ ?_
 rintro ⟨k, m⟩ de ⟨E, b3, df, hm, H, Q, R⟩
 have be := E
 have bF := be.size
 have bf := H.lt
 have bg := Q.lt
 have b4 := Zpw ((Qc e).1.take k)
 have b5 : ((Qc e).1.take k).length ≤ k := List.length_take_le ..
 refine Zg fun dg b6 => ?_
 refine Zc (Za rfl rfl (Xs rfl rfl) (Ze (Zb (b6 _ _ ?_))))
 refine Zg fun dh bG => ?_
 refine Zp rfl (fun M => ?_) (fun M => ?_)
 ·have bh := M
  have M := Yi M
  refine Zu ?_
  refine Zb (bG _ _ ?_)
  refine Zg fun di bH => ?_
  refine Zx ?_
  refine Zg fun dj b7 => ?_
  refine Zc (Zm rfl rfl ?_)
  refine (Yw R.ls Token.len el42 sz84 rfl rfl rfl om fun b8 I S bi => ?_)
  refine Za rfl rfl (Zy bi agg84 sz84 rfl) (Zm rfl rfl ?_)
  refine Yh zr84 fun bI b9 a6 ap dk => ?_
  have ca := ap.size
  have E := E.trans ap
  have b5 := a6.lt
  replace a6 : Blk b9 bI 84 [(.int .i64 0), (.int .i64 0), (.int .i64 0), (.int .i64 0)] := a6
  refine Zm rfl rfl ?_
  refine Zn (off := 0) 4 a6 sz84 rfl (us := [(.int .i64 I.kind), (.int .i64 I.letter), (.int .i64 I.low), (.int .i64 I.high)]) rfl rfl rfl rfl fun cb Z aq => ?_
  have cc := aq.size
  have E := E.step aq (lS om)
  replace Z : Blk cb bI 84 [(.int .i64 I.kind), (.int .i64 I.letter), (.int .i64 I.low), (.int .i64 I.high)] := Z
  refine Ze (Zb (b7 _ _ ?_))
  refine Zg fun dl cd => ?_
  refine Zc (Za rfl rfl (Zh fa84_0 rfl) (Za rfl rfl (Zk Z.at_ agg3 rfl rfl) (Za rfl rfl (Yy rfl rfl) (Ze (Zb (cd _ _ ?_))))))
  refine Zp rfl (fun z => ?_) (fun z => ?_)
  ·have bj := z
   have z := Yi z
   refine Zc (Za rfl rfl (Zd rfl) (Za rfl rfl (Yo om rfl rfl) (Za rfl rfl (Zf rfl) (Ze (Zw (Zb (bH _ _ (Zc ?_))))))))
   refine Za rfl rfl (Yo om rfl rfl) (Za rfl rfl (Zd rfl) (Ze ?_))
   have ce := (H.ch0 ap).ch aq (ne1 om)
   have cf := (Q.ch0 ap).ch aq (ne1 om)
   have cg := (R.ch0 ap).ch aq (dS p t om)
   exact Zb (Exists.intro ((k + 1), (m + 1)) ⟨⟨E, om, om, (by first | (rw [Zmr S z]; omega) | (rw [Zmw S z]; omega)), ce, cf, cg⟩, sC4 rfl rfl rfl rfl (sC2 rfl rfl (sC1 rfl (Sub.nil _))), (by first | omega | (dsimp only; omega))⟩)
  have bj := z
  have z := Yj z
  refine Zu ?_
  refine Zw (Zb (bH _ _ (Zc (Za rfl rfl (Yo om rfl rfl) (Za rfl rfl (Zd rfl) (Ze ?_))))))
  have ci := (H.ch0 ap).ch aq (ne1 om)
  have cj := (Q.ch0 ap).ch aq (ne1 om)
  have ck := (R.ch0 ap).ch aq (dS p t om)
  exact Zb (Exists.intro ((k + 1), m) ⟨⟨E, om, om, (by first | (rw [Zmr S z]; omega) | (rw [Zmw S z]; omega)), ci, cj, ck⟩, sC4 rfl rfl rfl rfl (sC2 rfl rfl (sC1 rfl (Sub.nil _))), (by first | omega | (dsimp only; omega))⟩)
 have bh := M
 have M := Yj M
 have dm : cntL ((Qc e).1.take k) = cntL (Qc e).1 := by rw [List.take_of_length_le om]
 refine Xe (Zr (Zr (Yu ?_)))
 refine Zb (bZ _ _ ?_)
 refine Zg fun dn bJ => ?_
 refine Zg fun dp cl => ?_
 refine Zc (Za rfl rfl (Zd rfl) (Za rfl rfl (Zcp rfl rfl) (Ze (Zb (cl _ _ ?_)))))
 refine Zp rfl (fun O => ?_) (fun O => ?_)
 ·have bk := O
  have O := Yi O
  refine Zg fun dq cm => ?_
  refine Zc (Za rfl rfl (Yn (parts := []) (cells := [(.slice none 0 0), (.int .i64 0), (.int .i64 0), (.slice none 0 0), (.bool false)]) zr48 pl48 rfl rfl) (Zm rfl rfl ?_))
  refine Zn (off := 0) 5 H sz48 rfl (us := [(.slice none 0 0), (.int .i64 0), (.int .i64 0), (.slice none 0 0), (.bool false)]) rfl rfl rfl rfl fun aR aa bK => ?_
  have cn := bK.size
  have E := E.step bK (lS om)
  replace aa : Blk aR ao 48 [(.slice none 0 0), (.int .i64 0), (.int .i64 0), (.slice none 0 0), (.bool false)] := aa
  refine Za rfl rfl (Zf rfl) (Ze (Zb (cm _ _ ?_)))
  refine Zq (Zo ?_)
  clear bG bJ
  have aS : Ol ics 3 1 aR (.slice none 0 0) ((bpE e).1.L) := by
   have hx := Ol.nil (cs := ics) (e := 3) (k := 1) aR
   first | (rw [Qq b om c]; exact hx) | (rw [Xj (fun q => by rw [b] at q; exact Bool.false_ne_true q.1)]; exact hx) | (rw [Xj (fun q => by have G := q.2; omega)]; exact hx)
  have aT : Ol ics 3 1 aR (.slice none 0 0) ((bpE e).1.F) := by
   have hx := Ol.nil (cs := ics) (e := 3) (k := 1) aR
   first | (rw [Qq b om c]; exact hx) | (rw [Xj (fun q => by rw [b] at q; exact Bool.false_ne_true q.1)]; exact hx) | (rw [Xj (fun q => by have G := q.2; omega)]; exact hx)
  exact Zi [_, _] (Zt aa rfl agg48 sz48 ⟨rfl, trivial⟩) ⟨(.slice none 0 0), (.slice none 0 0), ((((congrArg (fun zq => (Value.tuple #[.agg #[(.slice none 0 0), .int .i64 zq, .int .i64 0, (.slice none 0 0), .bool false], .bool false])) (by first | (rw [Qq b om c]; done) | (rw [Xj (fun q => by rw [b] at q; exact Bool.false_ne_true q.1)]; done) | (rw [Xj (fun q => by have G := q.2; omega)]; done))).trans (congrArg (fun zq => (Value.tuple #[.agg #[(.slice none 0 0), .int .i64 ((bpE e).1.f), .int .i64 zq, (.slice none 0 0), .bool false], .bool false])) (by first | (rw [Qq b om c]; done) | (rw [Xj (fun q => by rw [b] at q; exact Bool.false_ne_true q.1)]; done) | (rw [Xj (fun q => by have G := q.2; omega)]; done)))).trans (congrArg (fun zq => (Value.tuple #[.agg #[(.slice none 0 0), .int .i64 ((bpE e).1.f), .int .i64 ((bpE e).1.l), (.slice none 0 0), .bool zq], .bool false])) (by first | (rw [Qq b om c]; done) | (rw [Xj (fun q => by rw [b] at q; exact Bool.false_ne_true q.1)]; done) | (rw [Xj (fun q => by have G := q.2; omega)]; done)))).trans (congrArg (fun zq => (Value.tuple #[.agg #[(.slice none 0 0), .int .i64 ((bpE e).1.f), .int .i64 ((bpE e).1.l), (.slice none 0 0), .bool ((bpE e).1.n)], .bool zq])) (by first | (rw [Qq b om c]; done) | (rw [Xj (fun q => by rw [b] at q; exact Bool.false_ne_true q.1)]; done) | (rw [Xj (fun q => by have G := q.2; omega)]; done)))), aS, (Lo.nil _), aT, (Lo.nil _), (fun g hm hg => by cases hm), E⟩
 have bk := O
 have O := Yj O
 refine Zu ?_
 refine Zb (bJ _ _ ?_)
 refine Zg fun dr co => ?_
 refine Zc (Za rfl rfl (Yn (parts := []) (cells := [(.slice none 0 0), (.int .i64 0), (.int .i64 0), (.slice none 0 0), (.bool false)]) zr48 pl48 rfl rfl) (Zm rfl rfl ?_))
 refine Yh zr48 fun au cp a7 aU ds => ?_
 have cq := aU.size
 have E := E.trans aU
 have b4 := a7.lt
 replace a7 : Blk cp au 48 [(.slice none 0 0), (.int .i64 0), (.int .i64 0), (.slice none 0 0), (.bool false)] := a7
 refine Zm rfl rfl ?_
 refine Zn (off := 0) 5 a7 sz48 rfl (us := [(.slice none 0 0), (.int .i64 0), (.int .i64 0), (.slice none 0 0), (.bool false)]) rfl rfl rfl rfl fun bL ab aV => ?_
 have cr := aV.size
 have E := E.step aV (lS om)
 replace ab : Blk bL au 48 [(.slice none 0 0), (.int .i64 0), (.int .i64 0), (.slice none 0 0), (.bool false)] := ab
 refine Ze (Zb (co _ _ ?_))
 refine Zg fun dt ct => ?_
 refine Zc ?_
 have cu := (Q.ch0 aU).ch aV (ne1 om)
 refine Za rfl rfl (Zy cu.at_ agg44 sz44 rfl) (Zm rfl rfl ?_)
 have cv := (R.ch0 aU).ch aV (dS p t om)
 refine Step.call (Zl (xs := [.tmp 36]) fk66 rfl) (Zca cv.ls om) fun cw aC ax => ?_
 obtain ⟨ax, a8⟩ := ax
 have cx := a8.size
 have E := E.trans a8
 rcases ax with ⟨c, rfl⟩ | ⟨a, bm, c, rfl, T⟩
 ·rw [a5] at c; cases c
 replace T : TrAt aC bL.heap.size aC.heap.size bm a := T
 obtain ⟨bM, bN, bn, bp, bq, ay⟩ := T.open
 have br := ay.1
 refine Zm rfl rfl ?_
 have cy := ab.ch0 a8
 refine Step.call (Zl (xs := [.tmp 9, .tmp 37]) fk65 rfl) (Zdk cy (Ol.nil (cs := ics) (e := 3) (k := 1) aC) (fun hm => by cases hm) (Lo.nil _) (Ol.nil (cs := ics) (e := 3) (k := 1) aC) (fun hm => by cases hm) (Lo.nil _) (fun g hm hg => by cases hm) T om om (show Okd a from by rw [a5] at c; cases c; exact bX) ⟨by rw [a5] at c; cases c; have cz := bD.flat_len; rw [f5] at bE; simp; omega, by rw [a5] at c; cases c; have cz := bD.flat_len; rw [f5] at bE; simp; omega⟩) fun cA cB bs => ?_
 obtain ⟨bu, bv, rfl, az, U, A, r, V, B, s, D, bw⟩ := bs
 have cC := bw.size
 have E := E.step bw (fun i hm => .inl (by rcases List.mem_cons.1 hm with C | hm; (omega); (rcases List.mem_append.1 hm with hm | hm; (cases hm); (cases hm))))
 obtain ⟨d, h, rfl, bx, al⟩ := U.opn
 have J : Lo aC.heap.size (.slice d ((bpT a [] []).L).length h) := Yz A r om (Ys (fun g hm => by cases hm) (fun g hm => by cases hm))
 obtain ⟨j, o, rfl, bz, am⟩ := V.opn
 have K : Lo aC.heap.size (.slice j ((bpT a [] []).F).length o) := Yz B s om (Ys (fun g hm => by cases hm) (fun g hm => by cases hm))
 have ac := Zv A r (show ao < _ by omega) (Yk (fun hm => by cases hm) (fun hm => by cases hm))
 have aW := Zv A r (show aB < _ by omega) (Yk (fun hm => by cases hm) (fun hm => by cases hm))
 have ad := Zv B s (show ao < _ by omega) (Yk (fun hm => by cases hm) (fun hm => by cases hm))
 have aX := Zv B s (show aB < _ by omega) (Yk (fun hm => by cases hm) (fun hm => by cases hm))
 replace az : Blk cB au 48 [(.slice d ((bpT a [] []).L).length h), (.int .i64 0), (.int .i64 0), (.slice j ((bpT a [] []).F).length o), (.bool false)] := az
 refine Zm rfl rfl ?_
 refine Yh zr86 fun aY cD an aD cE => ?_
 have cF := aD.size
 have E := E.trans aD
 have cG := an.lt
 replace an : Blk cD aY 86 [(.int .i64 0), (.int .i64 0), (.bool false)] := an
 refine Zm rfl rfl ?_
 refine Zn (off := 0) 3 an sz86 rfl (us := [(.int .i64 ((bpT a [] []).f)), (.int .i64 ((bpT a [] []).l)), (.bool ((bpT a [] []).n))]) rfl rfl rfl rfl fun cH ae aE => ?_
 have cI := aE.size
 have E := E.step aE (lS om)
 replace ae : Blk cH aY 86 [(.int .i64 ((bpT a [] []).f)), (.int .i64 ((bpT a [] []).l)), (.bool ((bpT a [] []).n))] := ae
 refine Ze (Zb (ct _ _ ?_))
 refine Zg fun du cJ => ?_
 refine Xb [au] 12 mixed rfl fun cK aA => ?_
 have cL := aA.size
 have E := E.trans aA
 refine dV 0 rfl rfl rfl (fun _ => Zh fa86_0 rfl) ?_
 have bA := ae.ch0 aA
 refine dT 1 rfl rfl rfl (Xh bA.at_ (oS om) agg3 rfl rfl ?_)
 refine dV 2 rfl rfl rfl (fun _ => Zh fa86_1 rfl) ?_
 refine dT 3 rfl rfl rfl (Xh bA.at_ (oS om) agg3 rfl rfl ?_)
 refine dV 4 rfl rfl rfl (fun _ => Zh fa86_2 rfl) ?_
 refine dT 5 rfl rfl rfl (Xh bA.at_ (oS om) agg4 rfl rfl ?_)
 refine dV 6 rfl rfl rfl (fun _ => Zh fa48_1 rfl) (dO 7 (Zz rfl rfl rfl ?_))
 have cM := ((az.ch0 aD).ch aE (ne1 om)).ch0 aA
 refine Xm (off := 1) cM sz3 rfl rfl rfl rfl fun bO af aF => ?_
 have cN := aF.size
 have E := E.step aF (lS om)
 replace af : Blk bO au 48 [(.slice d ((bpT a [] []).L).length h), (.int .i64 ((bpT a [] []).f)), (.int .i64 0), (.slice j ((bpT a [] []).F).length o), (.bool false)] := af
 have av : Ch [au] cK bO := ((Ch.refl _ _).step aF (fun i hm => by have C := mSg.1 hm; exact .inr (by rw [C]; exact (mSg.2 rfl))))
 refine ⟨av, ?_⟩
 refine dV 8 rfl rfl rfl (fun _ => Zh fa48_2 rfl) (dO 9 (Zz rfl rfl rfl ?_))
 refine Xm (off := 2) af sz3 rfl rfl rfl rfl fun cO ag aG => ?_
 have cP := aG.size
 have E := E.step aG (lS om)
 replace ag : Blk cO au 48 [(.slice d ((bpT a [] []).L).length h), (.int .i64 ((bpT a [] []).f)), (.int .i64 ((bpT a [] []).l)), (.slice j ((bpT a [] []).F).length o), (.bool false)] := ag
 have aw := av.step aG (fun i hm => by have C := mSg.1 hm; exact .inr (by rw [C]; exact (mSg.2 rfl)))
 refine ⟨aw, ?_⟩
 refine dV 10 rfl rfl rfl (fun _ => Zh fa48_4 rfl) (dO 11 (Zz rfl rfl rfl ?_))
 refine Xm (off := 4) ag sz4 rfl rfl rfl rfl fun cQ ah aH => ?_
 have cR := aH.size
 have E := E.step aH (lS om)
 replace ah : Blk cQ au 48 [(.slice d ((bpT a [] []).L).length h), (.int .i64 ((bpT a [] []).f)), (.int .i64 ((bpT a [] []).l)), (.slice j ((bpT a [] []).F).length o), (.bool ((bpT a [] []).n))] := ah
 have aZ := aw.step aH (fun i hm => by have C := mSg.1 hm; exact .inr (by rw [C]; exact (mSg.2 rfl)))
 refine ⟨aZ, ?_⟩
 refine Yc (by kernel_rfl) ?_
 refine Zb (cJ _ _ ?_)
 refine Zg fun dv cS => ?_
 refine Zc (Za rfl rfl (Zy ah.at_ agg48 sz48 rfl) (Zm rfl rfl ?_))
 have cT := (((((((((H.ch0 aU).ch aV (ne1 om)).ch0 a8).ch bw (fun hm => by rcases List.mem_cons.1 hm with C | hm; (omega); (rcases List.mem_append.1 hm with hm | hm; (cases hm); (cases hm)))).ch0 aD).ch aE (ne1 om)).ch0 aA).ch aF (ne1 om)).ch aG (ne1 om)).ch aH (ne1 om)
 refine Zn (off := 0) 5 cT sz48 rfl (us := [(.slice d ((bpT a [] []).L).length h), (.int .i64 ((bpT a [] []).f)), (.int .i64 ((bpT a [] []).l)), (.slice j ((bpT a [] []).F).length o), (.bool ((bpT a [] []).n))]) rfl rfl rfl rfl fun bB ai a9 => ?_
 have cU := a9.size
 have E := E.step a9 (lS om)
 replace ai : Blk bB ao 48 [(.slice d ((bpT a [] []).L).length h), (.int .i64 ((bpT a [] []).f)), (.int .i64 ((bpT a [] []).l)), (.slice j ((bpT a [] []).F).length o), (.bool ((bpT a [] []).n))] := ai
 refine Za rfl rfl (Zf rfl) (Ze (Zb (cS _ _ ?_)))
 refine Zq ?_
 have cV := ((((((U.ch0 aD).ch aE (dS J al om)).ch0 aA).ch aF (fun g hg hm => by have C := mSg.1 hm; exact r (by first | exact hg | exact C ▸ hg))).ch aG (fun g hg hm => by have C := mSg.1 hm; exact r (by first | exact hg | exact C ▸ hg))).ch aH (fun g hg hm => by have C := mSg.1 hm; exact r (by first | exact hg | exact C ▸ hg))).ch a9 (fun g hg hm => by have C := mSg.1 hm; exact ac (by first | exact hg | exact C ▸ hg))
 have a0 : Ol ics 3 1 bB (.slice d ((bpT a [] []).L).length h) ((bpE e).1.L) := by
  have hx := cV
  first | (rw [Qq b om c]; exact hx) | (rw [Xj (fun q => by rw [b] at q; exact Bool.false_ne_true q.1)]; exact hx) | (rw [Xj (fun q => by have G := q.2; omega)]; exact hx)
 have cW := ((((((V.ch0 aD).ch aE (dS K am om)).ch0 aA).ch aF (fun g hg hm => by have C := mSg.1 hm; exact s (by first | exact hg | exact C ▸ hg))).ch aG (fun g hg hm => by have C := mSg.1 hm; exact s (by first | exact hg | exact C ▸ hg))).ch aH (fun g hg hm => by have C := mSg.1 hm; exact s (by first | exact hg | exact C ▸ hg))).ch a9 (fun g hg hm => by have C := mSg.1 hm; exact ad (by first | exact hg | exact C ▸ hg))
 have a1 : Ol ics 3 1 bB (.slice j ((bpT a [] []).F).length o) ((bpE e).1.F) := by
  have hx := cW
  first | (rw [Qq b om c]; exact hx) | (rw [Xj (fun q => by rw [b] at q; exact Bool.false_ne_true q.1)]; exact hx) | (rw [Xj (fun q => by have G := q.2; omega)]; exact hx)
 exact Zi [_, _] (Zt ai rfl agg48 sz48 ⟨rfl, trivial⟩) ⟨(.slice d ((bpT a [] []).L).length h), (.slice j ((bpT a [] []).F).length o), ((((congrArg (fun zq => (Value.tuple #[.agg #[(.slice d ((bpT a [] []).L).length h), .int .i64 zq, .int .i64 ((bpT a [] []).l), (.slice j ((bpT a [] []).F).length o), .bool ((bpT a [] []).n)], .bool true])) (by first | (rw [Qq b om c]; done) | (rw [Xj (fun q => by rw [b] at q; exact Bool.false_ne_true q.1)]; done) | (rw [Xj (fun q => by have G := q.2; omega)]; done))).trans (congrArg (fun zq => (Value.tuple #[.agg #[(.slice d ((bpT a [] []).L).length h), .int .i64 ((bpE e).1.f), .int .i64 zq, (.slice j ((bpT a [] []).F).length o), .bool ((bpT a [] []).n)], .bool true])) (by first | (rw [Qq b om c]; done) | (rw [Xj (fun q => by rw [b] at q; exact Bool.false_ne_true q.1)]; done) | (rw [Xj (fun q => by have G := q.2; omega)]; done)))).trans (congrArg (fun zq => (Value.tuple #[.agg #[(.slice d ((bpT a [] []).L).length h), .int .i64 ((bpE e).1.f), .int .i64 ((bpE e).1.l), (.slice j ((bpT a [] []).F).length o), .bool zq], .bool true])) (by first | (rw [Qq b om c]; done) | (rw [Xj (fun q => by rw [b] at q; exact Bool.false_ne_true q.1)]; done) | (rw [Xj (fun q => by have G := q.2; omega)]; done)))).trans (congrArg (fun zq => (Value.tuple #[.agg #[(.slice d ((bpT a [] []).L).length h), .int .i64 ((bpE e).1.f), .int .i64 ((bpE e).1.l), (.slice j ((bpT a [] []).F).length o), .bool ((bpE e).1.n)], .bool zq])) (by first | (rw [Qq b om c]; done) | (rw [Xj (fun q => by rw [b] at q; exact Bool.false_ne_true q.1)]; done) | (rw [Xj (fun q => by have G := q.2; omega)]; done)))), a0, (Lo.down J om), a1, (Lo.down K om), D, E⟩

/-- impl.IsWord -/
theorem Zde {w : World} {LL_wd j : Nat} {f : Value} {wd : List Int} (b : Ls ics 1 w LL_wd j f wd) :
 Ctr Try.prog 76 #[f] w (fun v w' => v = .bool (tt (IsWd wd)) ∧ Ch [] w w') := by
 obtain ⟨c, d, g⟩ := b.val
 subst g
 have p := b.len
 have b := b.here (by decide)
 have E := Ch.refl [] w
 refine Ye (N := 18) (vs0 := [(.slice c wd.length d)]) Try.func76 rfl rfl rfl ?_
 refine Zg fun K1 H1 => ?_
 refine Zc (Za rfl rfl (Zf rfl) (Ze (Zb (H1 _ _ ?_))))
 refine Zg fun K2 H2 => ?_
 refine Zg fun K3 H3 => ?_
 refine Zc (Za rfl rfl (Zd rfl) (Za rfl rfl (Xc (by rw [el30]; rfl) rfl) (Za rfl rfl (Zd rfl) (Ze (Zb (H3 _ _ ?_))))))
 refine Zx ?_
 refine Xi (σ := Nat) (fun (k : Nat) => [(0, (.slice c wd.length d)), (5, (.slice c wd.length d)), (6, (.int .i64 ((wd.length : Nat) : Int))), (7, (.int .i64 ((k : Nat) : Int)))]) (fun (k : Nat) wx => Ch [] w wx ∧ w.heap.size ≤ wx.heap.size ∧ (k ≤ wd.length) ∧ (WdP wd k)) (fun (k : Nat) => wd.length - k) 0 (sC4 rfl rfl rfl rfl (Sub.nil _)) ⟨E, (Nat.le_refl _), om, (Zoy _)⟩ ?_
 rintro k R4 ⟨E, s, D, m⟩
 have l := E
 have q := l.size
 refine Zg fun K5 H5 => ?_
 refine Zc (Za rfl rfl (Xs rfl rfl) (Ze (Zb (H5 _ _ ?_))))
 refine Zg fun K6 H6 => ?_
 refine Zp rfl (fun h => ?_) (fun h => ?_)
 ·have t := h
  have h := Yi h
  refine Zu ?_
  refine Zb (H6 _ _ ?_)
  refine Zg fun K8 H8 => ?_
  refine Zx ?_
  refine Zg fun K9 H9 => ?_
  refine Zc (Zm rfl rfl ?_)
  have u := b.ch0 l
  refine (Yw u Xg el30 sz3 rfl rfl rfl om fun F G i x => ?_)
  refine Za rfl rfl (Yr x agg3 rfl rfl) (Za rfl rfl (Zf rfl) (Ze (Zb (H9 _ _ ?_))))
  refine Zg fun H y => ?_
  refine Zc (Za rfl rfl (Zd rfl) (Zm rfl rfl ?_))
  refine Step.call (Zl (xs := [.tmp 11]) fk83 rfl) (Zcj _ ) fun z I n => ?_
  obtain ⟨rfl, r⟩ := n
  have A := r.size
  have E := E.trans r
  refine Za rfl rfl (Zbh rfl) (Ze (Zb (y _ _ ?_)))
  refine Zp rfl (fun a => ?_) (fun a => ?_)
  ·have o := a
   have a := Yj (Qu a)
   refine Zg fun J B => ?_
   refine Zc (Za rfl rfl (Zf rfl) (Ze (Zb (B _ _ ?_))))
   refine Zq (Yd (Zo (Zo (Yd (Zo ?_)))))
   clear H2 H8
   exact Zi [_] ⟨rfl, trivial⟩ ⟨congrArg Value.bool (by first | exact Xp (fun e => a (Zmt e i)) | (rw [Zhl]; exact Zgn ⟨fun e => ⟨Zmv m om, by omega⟩, fun e => by have := e.2; omega⟩)), E⟩
  have o := a
  have a := Yi (Qv a)
  refine Zu ?_
  refine Zw (Zb (H8 _ _ (Zc (Za rfl rfl (Yo om rfl rfl) (Za rfl rfl (Zd rfl) (Ze ?_))))))
  exact Zb (Exists.intro (k + 1) ⟨⟨E, om, om, (Zpe m i a)⟩, sC4 rfl rfl rfl rfl (Sub.nil _), (by first | omega | (dsimp only; omega))⟩)
 have t := h
 have h := Yj h
 refine Xe (Zr (Zr (Yu ?_)))
 refine Zb (H2 _ _ ?_)
 refine Zg fun K C => ?_
 refine Zc (Za rfl rfl (Zd rfl) (Za rfl rfl (Xc (by rw [el30]; rfl) rfl) (Za rfl rfl (Zgl rfl rfl) (Za rfl rfl (Zf rfl) (Ze (Zb (C _ _ ?_)))))))
 refine Zq ?_
 exact Zi [_] ⟨rfl, trivial⟩ ⟨congrArg Value.bool (by first | exact Xp (fun e => a (Zmt e i)) | (rw [Zhl]; exact Zgn ⟨fun e => ⟨Zmv m om, by omega⟩, fun e => by have := e.2; omega⟩)), E⟩

/-- impl.Positions).after -/
theorem Zaq {w : World} {LL_pL J : Nat} {z : Value} {pL : List Int} (j : Ls ics 1 w LL_pL J z pL) (pfirst : Int) (plast : Int) {LL_pF K : Nat} {A : Value} {pF : List Int} (l : Ls ics 1 w LL_pF K A pF) (pnull : Bool) (set : Int) (letter : Int) (hF : pF.length = pL.length) (hn : pL.length ≤ 20) :
 Ctr Try.prog 79 #[(.agg #[z, (.int .i64 pfirst), (.int .i64 plast), A, (.bool pnull)]), (.int .i64 set), (.int .i64 letter)] w (fun v w' => v = .int .i64 (Zbx pL pfirst pF set letter) ∧ Ch [] w w') := by
 obtain ⟨n, p, C⟩ := j.val
 subst C
 have ah := j.len
 have j := j.here (by decide)
 obtain ⟨r, s, D⟩ := l.val
 subst D
 have ai := l.len
 have l := l.here (by decide)
 have E := Ch.refl [] w
 refine Ye (N := 61) (vs0 := [(.agg #[(.slice n pL.length p), (.int .i64 pfirst), (.int .i64 plast), (.slice r pF.length s), (.bool pnull)]), (.int .i64 set), (.int .i64 letter)]) Try.func79 rfl rfl rfl ?_
 refine Zg fun K1 H1 => ?_
 refine Zc (Zm rfl rfl ?_)
 refine Qw rfl fun L W2 B C2 aV => ?_
 have aW := C2.size
 have E := E.trans C2
 have aX := B.lt
 replace B : Blk W2 L 48 [(.slice n pL.length p), (.int .i64 pfirst), (.int .i64 plast), (.slice r pF.length s), (.bool pnull)] := B
 refine Za rfl rfl (Zf rfl) (Ze (Zb (H1 _ _ ?_)))
 refine Zg fun K3 H3 => ?_
 refine Zc (Za rfl rfl (Zf rfl) (Ze (Zb (H3 _ _ ?_))))
 refine Zg fun K4 H4 => ?_
 refine Zg fun K5 H5 => ?_
 refine Zc (Za rfl rfl (Zd rfl) (Za rfl rfl (Zeg rfl rfl) (Za rfl rfl (Yy rfl rfl) (Ze (Zb (H5 _ _ ?_))))))
 refine Zp rfl (fun i => ?_) (fun i => ?_)
 ·have au := i
  have i := Yi i
  refine Zc (Za rfl rfl (Zh fa48_1 rfl) (Za rfl rfl (Zk B.at_ agg3 rfl rfl) (Za rfl rfl (Zf rfl) (Ze (Zb (H4 _ _ ?_))))))
  refine Zg fun K7 H7 => ?_
  refine Zg fun K8 H8 => ?_
  refine Zc (Za rfl rfl (Zh fa48_3 rfl) (Za rfl rfl (Zk B.at_ agg30 rfl rfl) (Za rfl rfl (Xc (by rw [el30]; rfl) rfl) (Za rfl rfl (Zd rfl) (Ze (Zb (H8 _ _ ?_)))))))
  refine Zx ?_
  refine Xi (σ := Nat × Int) (fun ⟨k, m⟩ => [(1, (.int .i64 set)), (2, (.int .i64 letter)), (3, (.pointer (some ⟨L, 0, none⟩))), (6, (.int .i64 0)), (7, (.int .i64 m)), (19, (.slice r pF.length s)), (20, (.int .i64 ((pF.length : Nat) : Int))), (21, (.int .i64 ((k : Nat) : Int)))]) (fun ⟨k, m⟩ wx => Ch [] w wx ∧ W2.heap.size ≤ wx.heap.size ∧ (k ≤ pL.length) ∧ (m = nxt pF set (if iand set 1 = 1 then pfirst else 0) k) ∧ Blk wx L 48 [(.slice n pL.length p), (.int .i64 pfirst), (.int .i64 plast), (.slice r pF.length s), (.bool pnull)]) (fun ⟨k, m⟩ => pL.length - k) (0, pfirst) (sC8 rfl rfl rfl rfl rfl rfl rfl rfl (Sub.nil _)) ⟨E, (Nat.le_refl _), om, (by first | exact (if_pos i).symm | exact (if_neg i).symm), B⟩ ?_
  rintro ⟨k, m⟩ R9 ⟨E, P, av, hm, h⟩
  have x := E
  have M := x.size
  have F := h.lt
  refine Zg fun aY aw => ?_
  refine Zc (Za rfl rfl (Xs rfl rfl) (Ze (Zb (aw _ _ ?_))))
  refine Zg fun aZ aj => ?_
  refine Zp rfl (fun f => ?_) (fun f => ?_)
  ·have Q := f
   have f := Yi f
   refine Zu ?_
   refine Zb (aj _ _ ?_)
   refine Zg fun a0 ak => ?_
   refine Zx ?_
   refine Zg fun a1 ax => ?_
   refine Zc (Za rfl rfl (Zd rfl) (Zm rfl rfl ?_))
   have ay := l.ch0 x
   refine (Yw ay Xg el30 sz3 rfl rfl rfl om fun R G t H => ?_)
   refine Za rfl rfl (Yr H agg3 rfl rfl) (Za rfl rfl (Zf rfl) (Za rfl rfl (Zf rfl) (Ze (Zb (ax _ _ ?_)))))
   refine Zg fun a2 az => ?_
   refine Zc (Za rfl rfl (Zd rfl) (Za rfl rfl (Zd rfl) (Za rfl rfl (Yo om rfl rfl) (Za rfl rfl (Zgp om rfl rfl) (Za rfl rfl (Zeg rfl rfl) (Za rfl rfl (Yy rfl rfl) (Ze ?_)))))))
   refine Zb (az _ _ ?_)
   refine Zp rfl (fun c => ?_) (fun c => ?_)
   ·have S := c
    have c := Yi c
    refine Zc (Za rfl rfl (Zd rfl) (Za rfl rfl (Zd rfl) (Za rfl rfl (r_or rfl rfl) (Za rfl rfl (Zf rfl) (Ze (Zw (Zb (ak _ _ ?_))))))))
    refine Zc (Za rfl rfl (Yo om rfl rfl) (Za rfl rfl (Zd rfl) (Ze ?_)))
    exact Zb (Exists.intro ((k + 1), (ior m G)) ⟨⟨E, om, om, (by first | exact Zqw c hm t | exact Zre c hm), h⟩, sC8 rfl rfl rfl rfl rfl rfl rfl rfl (Sub.nil _), (by first | omega | (dsimp only; omega))⟩)
   have S := c
   have c := Yj c
   refine Zu ?_
   refine Zw (Zb (ak _ _ (Zc (Za rfl rfl (Yo om rfl rfl) (Za rfl rfl (Zd rfl) (Ze ?_))))))
   exact Zb (Exists.intro ((k + 1), m) ⟨⟨E, om, om, (by first | exact Zqw c hm t | exact Zre c hm), h⟩, sC8 rfl rfl rfl rfl rfl rfl rfl rfl (Sub.nil _), (by first | omega | (dsimp only; omega))⟩)
  have Q := f
  have f := Yj f
  refine Xe (Zr (Zr (Yu ?_)))
  refine Zb (H7 _ _ ?_)
  refine Zg fun a3 aA => ?_
  refine Zc (Za rfl rfl (Zf rfl) (Ze (Zb (aA _ _ ?_))))
  refine Zg fun a4 aB => ?_
  refine Zg fun a5 aC => ?_
  refine Zc (Za rfl rfl (Zh fa48_0 rfl) (Za rfl rfl (Zk h.at_ agg30 rfl rfl) (Za rfl rfl (Xc (by rw [el30]; rfl) rfl) (Za rfl rfl (Zd rfl) (Ze (Zb (aC _ _ ?_)))))))
  refine Zx ?_
  refine Xi (σ := Nat × Int) (fun ⟨q, o⟩ => [(2, (.int .i64 letter)), (6, (.int .i64 0)), (7, (.int .i64 m)), (10, (.int .i64 o)), (37, (.slice n pL.length p)), (38, (.int .i64 ((pL.length : Nat) : Int))), (39, (.int .i64 ((q : Nat) : Int)))]) (fun ⟨q, o⟩ wx => Ch [] w wx ∧ R9.heap.size ≤ wx.heap.size ∧ (q ≤ pL.length) ∧ (o = outP pL (nxt pF set (if iand set 1 = 1 then pfirst else 0) pL.length) letter q)) (fun ⟨q, o⟩ => pL.length - q) (0, 0) (sC4 rfl rfl rfl rfl (sC2 rfl rfl (sC1 rfl (Sub.nil _)))) ⟨E, (Nat.le_refl _), om, rfl⟩ ?_
  rintro ⟨q, o⟩ a6 ⟨E, T, hq, ho⟩
  have y := E
  have O := y.size
  have u : m = nxt pF set (if iand set 1 = 1 then pfirst else 0) pL.length := by rw [hm, show k = pL.length by omega]
  refine Zg fun a7 aD => ?_
  refine Zc (Za rfl rfl (Xs rfl rfl) (Ze (Zb (aD _ _ ?_))))
  refine Zg fun a8 al => ?_
  refine Zp rfl (fun g => ?_) (fun g => ?_)
  ·have U := g
   have g := Yi g
   refine Zu ?_
   refine Zb (al _ _ ?_)
   refine Zg fun a9 V => ?_
   refine Zx ?_
   refine Zg fun ba aE => ?_
   refine Zc (Za rfl rfl (Zd rfl) (Zm rfl rfl ?_))
   have aF := j.ch0 y
   refine (Yw aF Xg el30 sz3 rfl rfl rfl om fun X Y e I => ?_)
   refine Za rfl rfl (Yr I agg3 rfl rfl) (Za rfl rfl (Zf rfl) (Za rfl rfl (Zf rfl) (Ze (Zb (aE _ _ ?_)))))
   refine Zg fun bb am => ?_
   refine Zc (Za rfl rfl (Zd rfl) (Za rfl rfl (Zd rfl) (Za rfl rfl (Yy rfl rfl) (Za rfl rfl (Zd rfl) ?_))))
   refine Yp (d := 47) rfl (fun a => ?_) (fun a => ?_)
   ·have Z := a
    have a := Yi a
    refine Za rfl rfl (Zd rfl) (Za rfl rfl (Zd rfl) (Za rfl rfl (Zgp om rfl rfl) (Za rfl rfl (Zeg rfl rfl) (Za rfl rfl (Yy rfl rfl) (Za rfl rfl (Ya rfl rfl) (Ze (Zb (am _ _ ?_))))))))
    refine Zp rfl (fun b => ?_) (fun b => ?_)
    ·have aa := b
     have b := Yi b
     refine Zc (Za rfl rfl (Zd rfl) (Za rfl rfl (Zd rfl) (Za rfl rfl (Yo om rfl rfl) (Za rfl rfl (Zjf om rfl rfl) (Za rfl rfl (r_or rfl rfl) (Za rfl rfl (Zf rfl) (Ze ?_)))))))
     refine Zw (Zb (V _ _ (Zc (Za rfl rfl (Yo om rfl rfl) (Za rfl rfl (Zd rfl) (Ze ?_))))))
     exact Zb (Exists.intro ((q + 1), (ior o (ishl 1 (((q : Nat) : Int) + 1)))) ⟨⟨E, om, om, (by first | exact Zoa e a (by rw [← u]; exact b) ho | exact Zix e a ho | exact Ziw (by rw [← u]; exact b) ho)⟩, sC4 rfl rfl rfl rfl (sC2 rfl rfl (sC1 rfl (Sub.nil _))), (by first | omega | (dsimp only; omega))⟩)
    have aa := b
    have b := Yj b
    refine Zu ?_
    refine Zw (Zb (V _ _ (Zc (Za rfl rfl (Yo om rfl rfl) (Za rfl rfl (Zd rfl) (Ze ?_))))))
    exact Zb (Exists.intro ((q + 1), o) ⟨⟨E, om, om, (by first | exact Zoa e a (by rw [← u]; exact b) ho | exact Zix e a ho | exact Ziw (by rw [← u]; exact b) ho)⟩, sC4 rfl rfl rfl rfl (sC2 rfl rfl (sC1 rfl (Sub.nil _))), (by first | omega | (dsimp only; omega))⟩)
   have Z := a
   have a := Yj a
   refine Zj rfl rfl (Zj rfl rfl (Zj rfl rfl (Zj rfl rfl (Zj rfl rfl (Za rfl rfl (Yb rfl rfl) (Ze (Zb (am _ _ ?_))))))))
   refine Zap rfl ?_
   refine Zu ?_
   refine Zw (Zb (V _ _ (Zc (Za rfl rfl (Yo om rfl rfl) (Za rfl rfl (Zd rfl) (Ze ?_))))))
   exact Zb (Exists.intro ((q + 1), o) ⟨⟨E, om, om, (by first | exact Zoa e a (by rw [← u]; exact b) ho | exact Zix e a ho | exact Ziw (by rw [← u]; exact b) ho)⟩, sC4 rfl rfl rfl rfl (sC2 rfl rfl (sC1 rfl (Sub.nil _))), (by first | omega | (dsimp only; omega))⟩)
  have U := g
  have g := Yj g
  refine Xe (Zr (Zr (Yu ?_)))
  refine Zb (aB _ _ ?_)
  refine Zg fun bc aG => ?_
  refine Zc (Za rfl rfl (Zd rfl) (Za rfl rfl (Zf rfl) (Ze (Zb (aG _ _ ?_)))))
  refine Zq ?_
  clear aj al
  exact Zi [_] ⟨rfl, trivial⟩ ⟨congrArg (Value.int .i64) (by unfold Zbx; rw [ho, show q = pL.length by omega]), E⟩
 have au := i
 have i := Yj i
 refine Zu ?_
 refine Zb (H4 _ _ ?_)
 refine Zg fun be aH => ?_
 refine Zg fun bf aI => ?_
 refine Zc (Za rfl rfl (Zh fa48_3 rfl) (Za rfl rfl (Zk B.at_ agg30 rfl rfl) (Za rfl rfl (Xc (by rw [el30]; rfl) rfl) (Za rfl rfl (Zd rfl) (Ze (Zb (aI _ _ ?_)))))))
 refine Zx ?_
 refine Xi (σ := Nat × Int) (fun ⟨k, m⟩ => [(1, (.int .i64 set)), (2, (.int .i64 letter)), (3, (.pointer (some ⟨L, 0, none⟩))), (6, (.int .i64 0)), (7, (.int .i64 m)), (19, (.slice r pF.length s)), (20, (.int .i64 ((pF.length : Nat) : Int))), (21, (.int .i64 ((k : Nat) : Int)))]) (fun ⟨k, m⟩ wx => Ch [] w wx ∧ W2.heap.size ≤ wx.heap.size ∧ (k ≤ pL.length) ∧ (m = nxt pF set (if iand set 1 = 1 then pfirst else 0) k) ∧ Blk wx L 48 [(.slice n pL.length p), (.int .i64 pfirst), (.int .i64 plast), (.slice r pF.length s), (.bool pnull)]) (fun ⟨k, m⟩ => pL.length - k) (0, 0) (sC8 rfl rfl rfl rfl rfl rfl rfl rfl (Sub.nil _)) ⟨E, (Nat.le_refl _), om, (by first | exact (if_pos i).symm | exact (if_neg i).symm), B⟩ ?_
 rintro ⟨k, m⟩ aJ ⟨E, P, av, hm, h⟩
 have x := E
 have M := x.size
 have F := h.lt
 refine Zg fun bg aK => ?_
 refine Zc (Za rfl rfl (Xs rfl rfl) (Ze (Zb (aK _ _ ?_))))
 refine Zg fun bh an => ?_
 refine Zp rfl (fun f => ?_) (fun f => ?_)
 ·have ab := f
  have f := Yi f
  refine Zu ?_
  refine Zb (an _ _ ?_)
  refine Zg fun bi ao => ?_
  refine Zx ?_
  refine Zg fun bj aL => ?_
  refine Zc (Za rfl rfl (Zd rfl) (Zm rfl rfl ?_))
  have aM := l.ch0 x
  refine (Yw aM Xg el30 sz3 rfl rfl rfl om fun R G t H => ?_)
  refine Za rfl rfl (Yr H agg3 rfl rfl) (Za rfl rfl (Zf rfl) (Za rfl rfl (Zf rfl) (Ze (Zb (aL _ _ ?_)))))
  refine Zg fun bk aN => ?_
  refine Zc (Za rfl rfl (Zd rfl) (Za rfl rfl (Zd rfl) (Za rfl rfl (Yo om rfl rfl) (Za rfl rfl (Zgp om rfl rfl) (Za rfl rfl (Zeg rfl rfl) (Za rfl rfl (Yy rfl rfl) (Ze ?_)))))))
  refine Zb (aN _ _ ?_)
  refine Zp rfl (fun c => ?_) (fun c => ?_)
  ·have ac := c
   have c := Yi c
   refine Zc (Za rfl rfl (Zd rfl) (Za rfl rfl (Zd rfl) (Za rfl rfl (r_or rfl rfl) (Za rfl rfl (Zf rfl) (Ze (Zw (Zb (ao _ _ ?_))))))))
   refine Zc (Za rfl rfl (Yo om rfl rfl) (Za rfl rfl (Zd rfl) (Ze ?_)))
   exact Zb (Exists.intro ((k + 1), (ior m G)) ⟨⟨E, om, om, (by first | exact Zqw c hm t | exact Zre c hm), h⟩, sC8 rfl rfl rfl rfl rfl rfl rfl rfl (Sub.nil _), (by first | omega | (dsimp only; omega))⟩)
  have ac := c
  have c := Yj c
  refine Zu ?_
  refine Zw (Zb (ao _ _ (Zc (Za rfl rfl (Yo om rfl rfl) (Za rfl rfl (Zd rfl) (Ze ?_))))))
  exact Zb (Exists.intro ((k + 1), m) ⟨⟨E, om, om, (by first | exact Zqw c hm t | exact Zre c hm), h⟩, sC8 rfl rfl rfl rfl rfl rfl rfl rfl (Sub.nil _), (by first | omega | (dsimp only; omega))⟩)
 have ab := f
 have f := Yj f
 refine Xe (Zr (Zr (Yu ?_)))
 refine Zb (aH _ _ ?_)
 refine Zg fun bm aO => ?_
 refine Zc (Za rfl rfl (Zf rfl) (Ze (Zb (aO _ _ ?_))))
 refine Zg fun bn aP => ?_
 refine Zg fun bp aQ => ?_
 refine Zc (Za rfl rfl (Zh fa48_0 rfl) (Za rfl rfl (Zk h.at_ agg30 rfl rfl) (Za rfl rfl (Xc (by rw [el30]; rfl) rfl) (Za rfl rfl (Zd rfl) (Ze (Zb (aQ _ _ ?_)))))))
 refine Zx ?_
 refine Xi (σ := Nat × Int) (fun ⟨q, o⟩ => [(2, (.int .i64 letter)), (6, (.int .i64 0)), (7, (.int .i64 m)), (10, (.int .i64 o)), (37, (.slice n pL.length p)), (38, (.int .i64 ((pL.length : Nat) : Int))), (39, (.int .i64 ((q : Nat) : Int)))]) (fun ⟨q, o⟩ wx => Ch [] w wx ∧ aJ.heap.size ≤ wx.heap.size ∧ (q ≤ pL.length) ∧ (o = outP pL (nxt pF set (if iand set 1 = 1 then pfirst else 0) pL.length) letter q)) (fun ⟨q, o⟩ => pL.length - q) (0, 0) (sC4 rfl rfl rfl rfl (sC2 rfl rfl (sC1 rfl (Sub.nil _)))) ⟨E, (Nat.le_refl _), om, rfl⟩ ?_
 rintro ⟨q, o⟩ bq ⟨E, T, hq, ho⟩
 have y := E
 have O := y.size
 have u : m = nxt pF set (if iand set 1 = 1 then pfirst else 0) pL.length := by rw [hm, show k = pL.length by omega]
 refine Zg fun br aR => ?_
 refine Zc (Za rfl rfl (Xs rfl rfl) (Ze (Zb (aR _ _ ?_))))
 refine Zg fun bs ap => ?_
 refine Zp rfl (fun g => ?_) (fun g => ?_)
 ·have ad := g
  have g := Yi g
  refine Zu ?_
  refine Zb (ap _ _ ?_)
  refine Zg fun bu ae => ?_
  refine Zx ?_
  refine Zg fun bv aS => ?_
  refine Zc (Za rfl rfl (Zd rfl) (Zm rfl rfl ?_))
  have aT := j.ch0 y
  refine (Yw aT Xg el30 sz3 rfl rfl rfl om fun X Y e I => ?_)
  refine Za rfl rfl (Yr I agg3 rfl rfl) (Za rfl rfl (Zf rfl) (Za rfl rfl (Zf rfl) (Ze (Zb (aS _ _ ?_)))))
  refine Zg fun bw aq => ?_
  refine Zc (Za rfl rfl (Zd rfl) (Za rfl rfl (Zd rfl) (Za rfl rfl (Yy rfl rfl) (Za rfl rfl (Zd rfl) ?_))))
  refine Yp (d := 47) rfl (fun a => ?_) (fun a => ?_)
  ·have af := a
   have a := Yi a
   refine Za rfl rfl (Zd rfl) (Za rfl rfl (Zd rfl) (Za rfl rfl (Zgp om rfl rfl) (Za rfl rfl (Zeg rfl rfl) (Za rfl rfl (Yy rfl rfl) (Za rfl rfl (Ya rfl rfl) (Ze (Zb (aq _ _ ?_))))))))
   refine Zp rfl (fun b => ?_) (fun b => ?_)
   ·have ag := b
    have b := Yi b
    refine Zc (Za rfl rfl (Zd rfl) (Za rfl rfl (Zd rfl) (Za rfl rfl (Yo om rfl rfl) (Za rfl rfl (Zjf om rfl rfl) (Za rfl rfl (r_or rfl rfl) (Za rfl rfl (Zf rfl) (Ze ?_)))))))
    refine Zw (Zb (ae _ _ (Zc (Za rfl rfl (Yo om rfl rfl) (Za rfl rfl (Zd rfl) (Ze ?_))))))
    exact Zb (Exists.intro ((q + 1), (ior o (ishl 1 (((q : Nat) : Int) + 1)))) ⟨⟨E, om, om, (by first | exact Zoa e a (by rw [← u]; exact b) ho | exact Zix e a ho | exact Ziw (by rw [← u]; exact b) ho)⟩, sC4 rfl rfl rfl rfl (sC2 rfl rfl (sC1 rfl (Sub.nil _))), (by first | omega | (dsimp only; omega))⟩)
   have ag := b
   have b := Yj b
   refine Zu ?_
   refine Zw (Zb (ae _ _ (Zc (Za rfl rfl (Yo om rfl rfl) (Za rfl rfl (Zd rfl) (Ze ?_))))))
   exact Zb (Exists.intro ((q + 1), o) ⟨⟨E, om, om, (by first | exact Zoa e a (by rw [← u]; exact b) ho | exact Zix e a ho | exact Ziw (by rw [← u]; exact b) ho)⟩, sC4 rfl rfl rfl rfl (sC2 rfl rfl (sC1 rfl (Sub.nil _))), (by first | omega | (dsimp only; omega))⟩)
  have af := a
  have a := Yj a
  refine Zj rfl rfl (Zj rfl rfl (Zj rfl rfl (Zj rfl rfl (Zj rfl rfl (Za rfl rfl (Yb rfl rfl) (Ze (Zb (aq _ _ ?_))))))))
  refine Zap rfl ?_
  refine Zu ?_
  refine Zw (Zb (ae _ _ (Zc (Za rfl rfl (Yo om rfl rfl) (Za rfl rfl (Zd rfl) (Ze ?_))))))
  exact Zb (Exists.intro ((q + 1), o) ⟨⟨E, om, om, (by first | exact Zoa e a (by rw [← u]; exact b) ho | exact Zix e a ho | exact Ziw (by rw [← u]; exact b) ho)⟩, sC4 rfl rfl rfl rfl (sC2 rfl rfl (sC1 rfl (Sub.nil _))), (by first | omega | (dsimp only; omega))⟩)
 have ad := g
 have g := Yj g
 refine Xe (Zr (Zr (Yu ?_)))
 refine Zb (aP _ _ ?_)
 refine Zg fun bx aU => ?_
 refine Zc (Za rfl rfl (Zd rfl) (Za rfl rfl (Zf rfl) (Ze (Zb (aU _ _ ?_)))))
 refine Zq ?_
 clear an ap
 exact Zi [_] ⟨rfl, trivial⟩ ⟨congrArg (Value.int .i64) (by unfold Zbx; rw [ho, show q = pL.length by omega]), E⟩

end Go.Proofs.Ytgnlfnkgkcmdjaa
