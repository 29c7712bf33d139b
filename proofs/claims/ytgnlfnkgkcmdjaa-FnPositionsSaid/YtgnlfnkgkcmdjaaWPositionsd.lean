/- Walks of functions that FnPositions reaches: what each returns, and that it leaves the memory that was there alone. -/
import Derived.Test.YtgnlfnkgkcmdjaaLibA
import Derived.Test.YtgnlfnkgkcmdjaaLibB
import Derived.Test.YtgnlfnkgkcmdjaaWPositions
import Derived.Test.YtgnlfnkgkcmdjaaWPositionsb
import Derived.Test.YtgnlfnkgkcmdjaaWPositionsc
import Derived.Test.YtgnlfnkgkcmdjaaProg
namespace Go.Proofs.Ytgnlfnkgkcmdjaa
open Go.KLib Go.Shelf
set_option maxHeartbeats 1000000
set_option maxRecDepth 20000
set_option linter.unusedVariables false
set_option linter.unusedSimpArgs false
namespace TPositionsd
theorem agg22 : Yv Try.prog 22 = some false := by kernel_rfl
theorem agg3 : Yv Try.prog 3 = some false := by kernel_rfl
theorem agg30 : Yv Try.prog 30 = some false := by kernel_rfl
theorem agg4 : Yv Try.prog 4 = some false := by kernel_rfl
theorem agg42 : Yv Try.prog 42 = some false := by kernel_rfl
theorem agg44 : Yv Try.prog 44 = some true := by kernel_rfl
theorem agg48 : Yv Try.prog 48 = some true := by kernel_rfl
theorem agg5 : Yv Try.prog 5 = some false := by kernel_rfl
theorem agg84 : Yv Try.prog 84 = some true := by kernel_rfl
theorem agg9 : Yv Try.prog 9 = some false := by kernel_rfl
theorem agg91 : Yv Try.prog 91 = some true := by kernel_rfl
theorem by3 : Zar Try.prog 3 = some 8 := by kernel_rfl
theorem by84 : Zar Try.prog 84 = some 32 := by kernel_rfl
theorem by9 : Zar Try.prog 9 = some 16 := by kernel_rfl
theorem el160 : elB Try.prog 160 = some 9 := by kernel_rfl
theorem el22 : elB Try.prog 22 = some 5 := by kernel_rfl
theorem el30 : elB Try.prog 30 = some 3 := by kernel_rfl
theorem el42 : elB Try.prog 42 = some 84 := by kernel_rfl
theorem fa101_0 : faB Try.prog 101 0 = some 0 := by kernel_rfl
theorem fa101_1 : faB Try.prog 101 1 = some 1 := by kernel_rfl
theorem fa101_2 : faB Try.prog 101 2 = some 2 := by kernel_rfl
theorem fa44_0 : faB Try.prog 44 0 = some 0 := by kernel_rfl
theorem fa48_0 : faB Try.prog 48 0 = some 0 := by kernel_rfl
theorem fa48_1 : faB Try.prog 48 1 = some 1 := by kernel_rfl
theorem fa48_2 : faB Try.prog 48 2 = some 2 := by kernel_rfl
theorem fa48_3 : faB Try.prog 48 3 = some 3 := by kernel_rfl
theorem fa48_4 : faB Try.prog 48 4 = some 4 := by kernel_rfl
theorem fa84_0 : faB Try.prog 84 0 = some 0 := by kernel_rfl
theorem fa84_1 : faB Try.prog 84 1 = some 1 := by kernel_rfl
theorem fa84_2 : faB Try.prog 84 2 = some 2 := by kernel_rfl
theorem fa84_3 : faB Try.prog 84 3 = some 3 := by kernel_rfl
theorem fa91_0 : faB Try.prog 91 0 = some 0 := by kernel_rfl
theorem fa91_1 : faB Try.prog 91 1 = some 1 := by kernel_rfl
theorem fa91_2 : faB Try.prog 91 2 = some 2 := by kernel_rfl
theorem fk100 : fnB Try.prog 100 = true := by kernel_rfl
theorem fk106 : fnB Try.prog 106 = true := by kernel_rfl
theorem fk107 : fnB Try.prog 107 = true := by kernel_rfl
theorem fk111 : fnB Try.prog 111 = true := by kernel_rfl
theorem fk125 : fnB Try.prog 125 = true := by kernel_rfl
theorem fk126 : fnB Try.prog 126 = true := by kernel_rfl
theorem fk130 : fnB Try.prog 130 = true := by kernel_rfl
theorem fk138 : fnB Try.prog 138 = true := by kernel_rfl
theorem fk139 : fnB Try.prog 139 = true := by kernel_rfl
theorem fk140 : fnB Try.prog 140 = true := by kernel_rfl
theorem fk142 : fnB Try.prog 142 = true := by kernel_rfl
theorem fk143 : fnB Try.prog 143 = true := by kernel_rfl
theorem fk144 : fnB Try.prog 144 = true := by kernel_rfl
theorem fk145 : fnB Try.prog 145 = true := by kernel_rfl
theorem fk146 : fnB Try.prog 146 = true := by kernel_rfl
theorem fk147 : fnB Try.prog 147 = true := by kernel_rfl
theorem fk29 : fnB Try.prog 29 = true := by kernel_rfl
theorem fk31 : fnB Try.prog 31 = true := by kernel_rfl
theorem fk42 : fnB Try.prog 42 = true := by kernel_rfl
theorem fk67 : fnB Try.prog 67 = true := by kernel_rfl
theorem fk75 : fnB Try.prog 75 = true := by kernel_rfl
theorem fk85 : fnB Try.prog 85 = true := by kernel_rfl
theorem fk86 : fnB Try.prog 86 = true := by kernel_rfl
theorem fk96 : fnB Try.prog 96 = true := by kernel_rfl
theorem mixed : Try.prog.follows .mixedOrders = true := by kernel_rfl
theorem pl101 : Xz Try.prog 101 = some [(0, 1), (1, 1), (2, 1)] := by kernel_rfl
theorem pl44 : Xz Try.prog 44 = some [(0, 1)] := by kernel_rfl
theorem pl48 : Xz Try.prog 48 = some [(0, 1), (1, 1), (2, 1), (3, 1), (4, 1)] := by kernel_rfl
theorem pl84 : Xz Try.prog 84 = some [(0, 1), (1, 1), (2, 1), (3, 1)] := by kernel_rfl
theorem pl91 : Xz Try.prog 91 = some [(0, 1), (1, 1), (2, 1)] := by kernel_rfl
theorem sz3 : Yg Try.prog 3 = some 1 := by kernel_rfl
theorem sz30 : Yg Try.prog 30 = some 1 := by kernel_rfl
theorem sz4 : Yg Try.prog 4 = some 1 := by kernel_rfl
theorem sz42 : Yg Try.prog 42 = some 1 := by kernel_rfl
theorem sz44 : Yg Try.prog 44 = some 1 := by kernel_rfl
theorem sz48 : Yg Try.prog 48 = some 5 := by kernel_rfl
theorem sz5 : Yg Try.prog 5 = some 1 := by kernel_rfl
theorem sz84 : Yg Try.prog 84 = some 4 := by kernel_rfl
theorem sz9 : Yg Try.prog 9 = some 1 := by kernel_rfl
theorem sz91 : Yg Try.prog 91 = some 3 := by kernel_rfl
theorem un3 : Try.prog.underlying 3 = some (.int .i64) := by kernel_rfl
theorem un5 : Try.prog.underlying 5 = some (.int .u8) := by kernel_rfl
theorem un9 : Try.prog.underlying 9 = some (.string) := by kernel_rfl
theorem zr101 : Xf Try.prog 101 = some (.agg #[.slice none 0 0, .int .i64 0, .int .i64 0]) := by kernel_rfl
theorem zr3 : Xf Try.prog 3 = some (.int .i64 0) := by kernel_rfl
theorem zr44 : Xf Try.prog 44 = some (.agg #[.slice none 0 0]) := by kernel_rfl
theorem zr48 : Xf Try.prog 48 = some (.agg #[.slice none 0 0, .int .i64 0, .int .i64 0, .slice none 0 0, .bool false]) := by kernel_rfl
theorem zr5 : Xf Try.prog 5 = some (.int .u8 0) := by kernel_rfl
theorem zr84 : Xf Try.prog 84 = some (.agg #[.int .i64 0, .int .i64 0, .int .i64 0, .int .i64 0]) := by kernel_rfl
theorem zr9 : Xf Try.prog 9 = some (.string ⟨#[]⟩) := by kernel_rfl
theorem zr91 : Xf Try.prog 91 = some (.agg #[.bool false, .int .i64 0, .int .i64 0]) := by kernel_rfl
end TPositionsd
open TPositionsd

/-- spec.l10Build -/
theorem Zft : ∀ (n : Nat) {w : World} {b_p t_p L_p : Nat} {aS : Value} {a : List Int} {bu : Int} {bv : Int} {aT : Value} {b : List Int} {bw : Bool} (m_p : Blk w b_p t_p [aS, (.int .i64 bu), (.int .i64 bv), aT, (.bool bw)]) (fI : L_p ≤ b_p) (aU : Ol ics 3 1 w aS a) (I : b_p ∉ bl aS) (k : Lo L_p aS) (aV : Ol ics 3 1 w aT b) (Z : b_p ∉ bl aT) (m : Lo L_p aT) (q : ∀ g ∈ bl aS, g ∉ bl aT) {LL_l ee : Nat} {eL : Value} {l : List Token} (ef : Ls Token.cs 4 w LL_l ee eL l) (t : Tr) (hok : Okd t) (hl : l = t.flat) (hbl : ee ≤ L_p) (hb : a.length + l.length ≤ 100000 ∧ b.length + l.length ≤ 100000) (hsz : l.length < n),
 Ctr Try.prog 67 #[(.pointer (some ⟨b_p, 0, none⟩)), eL] w (fun v w' => ∃ (fJ fK : Value), v = .agg #[.bool ((bpT t a b).n), .int .i64 ((bpT t a b).f), .int .i64 ((bpT t a b).l)] ∧ Blk w' b_p t_p [fJ, .int .i64 bu, .int .i64 bv, fK, .bool bw] ∧ Ol ics 3 1 w' fJ ((bpT t a b).L) ∧ (∀ g ∈ bl fJ, w.heap.size ≤ g ∨ g ∈ (b_p :: (bl aS ++ bl aT))) ∧ b_p ∉ bl fJ ∧ Ol ics 3 1 w' fK ((bpT t a b).F) ∧ (∀ g ∈ bl fK, w.heap.size ≤ g ∨ g ∈ (b_p :: (bl aS ++ bl aT))) ∧ b_p ∉ bl fK ∧ (∀ g ∈ bl fJ, g ∉ bl fK) ∧ Ch (b_p :: (bl aS ++ bl aT)) w w') := by
  intro n
  induction n with
  | zero => intros; omega
  | succ n ih =>
 intro w b_p t_p L_p aS a bu bv aT b bw m_p fI aU I k aV Z m q LL_l ee eL l ef t hok hl hbl hb hsz
 obtain ⟨aa, ab, rfl, jl, o⟩ := aU.opn
 obtain ⟨aB, aC, rfl, jm, p⟩ := aV.opn
 have jn := m_p.lt
 obtain ⟨eM, eN, fL⟩ := ef.val
 subst fL
 have ku := ef.len
 have E := Ch.refl (b_p :: (bl (.slice aa a.length ab) ++ bl (.slice aB b.length aC))) w
 have kv := t.flat_pos; rw [← hl] at kv; have k2 := hok.len
 refine Ye (N := 163) (vs0 := [(.pointer (some ⟨b_p, 0, none⟩)), (.slice eM l.length eN)]) Try.func67 rfl rfl rfl ?_
 refine Zg fun K1 H1 => ?_
 refine Zc (Zm rfl rfl ?_)
 refine Yh zr91 fun aW W2 cQ C2 mK => ?_
 have mL := C2.size
 have E := E.trans C2.of_nil
 have mM := cQ.lt
 replace cQ : Blk W2 aW 91 [(.bool false), (.int .i64 0), (.int .i64 0)] := cQ
 refine Ze (Zb (H1 _ _ ?_))
 refine Zg fun K3 H3 => ?_
 refine Zc (Za rfl rfl (Zd rfl) (Za rfl rfl (Xc (by rw [el42]; rfl) rfl) (Za rfl rfl (Zav om rfl rfl) (Za rfl rfl (Zf rfl) (Ze (Zb (H3 _ _ ?_)))))))
 refine Zg fun K4 H4 => ?_
 refine Zc (Za rfl rfl (Zd rfl) (Za rfl rfl (Zd rfl) (Zm rfl rfl ?_)))
 have F5 := ef.ch0 C2
 refine (Yw (j := (((l.length : Nat) : Int) - 1).toNat) F5 Token.len el42 sz84 rfl rfl om om fun kw az fM g8 => ?_)
 have eO := Zka hl om fM
 have htk := congrArg Token.kind eO
 have hte := congrArg Token.letter eO
 have htl := congrArg Token.low eO
 have hth := congrArg Token.high eO
 refine Za rfl rfl (Zy g8 agg84 sz84 rfl) (Zm rfl rfl ?_)
 refine Yh zr84 fun cw W6 gL C6 mN => ?_
 have mO := C6.size
 have E := E.trans C6.of_nil
 have mP := gL.lt
 replace gL : Blk W6 cw 84 [(.int .i64 0), (.int .i64 0), (.int .i64 0), (.int .i64 0)] := gL
 refine Zm rfl rfl ?_
 refine Zn (off := 0) 4 gL sz84 rfl (us := [(.int .i64 az.kind), (.int .i64 az.letter), (.int .i64 az.low), (.int .i64 az.high)]) rfl rfl rfl rfl fun W7 eg C7 => ?_
 have mQ := C7.size
 have E := E.step C7 (Xa om)
 replace eg : Blk W7 cw 84 [(.int .i64 az.kind), (.int .i64 az.letter), (.int .i64 az.low), (.int .i64 az.high)] := eg
 refine Ze (Zb (H4 _ _ ?_))
 refine Zg fun K9 H9 => ?_
 refine Zg fun mR kx => ?_
 refine Zc (Za rfl rfl (Zh fa84_0 rfl) (Za rfl rfl (Zk eg.at_ agg3 rfl rfl) (Ze (Zb (kx _ _ ?_)))))
 refine Zx ?_
 refine Zg fun mS ky => ?_
 refine Zc (Za rfl rfl (Yy rfl rfl) (Za rfl rfl (Zf rfl) (Ze (Zb (ky _ _ ?_)))))
 refine Zp rfl (fun cx => ?_) (fun cx => ?_)
 ·have g9 := cx
  have cx := Yi cx
  have eb := bp2 (L := a) (F := b) hok om
  refine Zg fun mT kz => ?_
  refine Zc (Za rfl rfl (Yn (parts := [(0, .const (Go.Value.bool true))]) (cells := [(.bool true), (.int .i64 0), (.int .i64 0)]) zr91 pl91 rfl rfl) (Zm rfl rfl ?_))
  have kA := (cQ.ch0 C6).ch C7 (ne1 om)
  refine Zn (off := 0) 3 kA sz91 rfl (us := [(.bool true), (.int .i64 0), (.int .i64 0)]) rfl rfl rfl rfl fun gM dj fN => ?_
  have kB := fN.size
  have E := E.step fN (Xa om)
  replace dj : Blk gM aW 91 [(.bool true), (.int .i64 0), (.int .i64 0)] := dj
  refine Ze (Zb (kz _ _ ?_))
  refine Zq (Yd (Zo ?_))
  have kC := (((m_p.ch0 C2).ch0 C6).ch C7 (ne1 om)).ch fN (ne1 om)
  have kD := (((aU.ch0 C2).ch0 C6).ch C7 (dS k o om)).ch fN (dS k o om)
  have fO : Ol ics 3 1 gM (.slice aa a.length ab) ((bpT t a b).L) := by
   have hx := kD
   exact hx.eq (by rw [eb] <;> first | rfl | (rw [hte]; done))
  have kE := (((aV.ch0 C2).ch0 C6).ch C7 (dS m p om)).ch fN (dS m p om)
  have fP : Ol ics 3 1 gM (.slice aB b.length aC) ((bpT t a b).F) := by
   have hx := kE
   exact hx.eq (by rw [eb] <;> first | rfl | (rw [hte]; done))
  have fQ : Blk gM b_p t_p [(.slice aa a.length ab), .int .i64 bu, .int .i64 bv, (.slice aB b.length aC), .bool bw] := by
   have hx := kC
   exact hx
  exact Zi [_] (Zt dj rfl agg91 sz91 trivial) ⟨(.slice aa a.length ab), (.slice aB b.length aC), (((congrArg (fun zq => (Value.agg #[.bool zq, .int .i64 0, .int .i64 0])) (by rw [eb] <;> first | rfl | (rw [hte]; done))).trans (congrArg (fun zq => (Value.agg #[.bool ((bpT t a b).n), .int .i64 zq, .int .i64 0])) (by rw [eb] <;> first | rfl | (rw [hte]; done)))).trans (congrArg (fun zq => (Value.agg #[.bool ((bpT t a b).n), .int .i64 ((bpT t a b).f), .int .i64 zq])) (by rw [eb] <;> first | rfl | (rw [hte]; done)))), fQ, fO, (fun g hm => by exact (.inr (mCo _ (mAL _ hm)))), I, fP, (fun g hm => by exact (.inr (mCo _ (mAR _ hm)))), Z, q, E⟩
 have g9 := cx
 have cx := Yj cx
 refine Zg fun mU kF => ?_
 refine Zc (Za rfl rfl (Yy rfl rfl) (Za rfl rfl (Zf rfl) (Ze (Zb (kF _ _ ?_)))))
 refine Zp rfl (fun cy => ?_) (fun cy => ?_)
 ·have ha := cy
  have cy := Yi cy
  have eb := bp3 (L := a) (F := b) hok om
  refine Zg fun mV kG => ?_
  refine Zc (Za rfl rfl (Zd rfl) (Za rfl rfl (Yf rfl) (Za rfl rfl (Zh fa48_0 rfl) ?_)))
  have hc := ((m_p.ch0 C2).ch0 C6).ch C7 (ne1 om)
  refine Za rfl rfl (Zk hc.at_ agg30 rfl rfl) (Za rfl rfl (Xc (by rw [el30]; rfl) rfl) (Za rfl rfl (Zjf om rfl rfl) (Za rfl rfl (Zf rfl) (Ze (Zb (kG _ _ ?_))))))
  refine Zg fun kH kI => ?_
  have eF : ∀ (lj : KL) (aA : World) (bB : Value) (bC : Value), Go.KLib.Sub [(0, (.pointer (some ⟨b_p, 0, none⟩))), (1, (.slice eM l.length eN)), (4, (.pointer (some ⟨aW, 0, none⟩))), (5, (.int .i64 (((l.length : Nat) : Int) - 1))), (7, (.int .i64 (ishl 1 ((a.length : Nat) : Int)))), (24, (.int .i64 az.kind))] lj → Ch (b_p :: (bl (.slice aa a.length ab) ++ bl (.slice aB b.length aC))) w aA → W7.heap.size ≤ aA.heap.size → Ol ics 3 1 aA bB (a ++ [az.letter]) → (∀ g ∈ bl bB, w.heap.size ≤ g ∨ g ∈ (b_p :: (bl (.slice aa a.length ab) ++ bl (.slice aB b.length aC)))) → b_p ∉ bl bB → Ol ics 3 1 aA bC b → (∀ g ∈ bl bC, w.heap.size ≤ g ∨ g ∈ (b_p :: (bl (.slice aa a.length ab) ++ bl (.slice aB b.length aC)))) → b_p ∉ bl bC → (∀ g ∈ bl bB, g ∉ bl bC) → Blk aA b_p t_p [bB, (.int .i64 bu), (.int .i64 bv), bC, (.bool bw)] → Ls Token.cs 4 aA LL_l ee (.slice eM l.length eN) l → Blk aA aW 91 [(.bool false), (.int .i64 0), (.int .i64 0)] → aW ∉ bl bB → aW ∉ bl bC → kH lj aA := by
   intro lj aA bB bC fR E gN cR cS b0 cT b1 bx aQ jo jp fS bD aE
   refine kI _ _ (Znx fR ?_)
   have fT := E
   have hd := fT.size
   obtain ⟨aX, aY, rfl, gO, cc⟩ := cR.opn
   have dk : Lo L_p (.slice aX ((a ++ [az.letter])).length aY) := fun g hm => by have bE := cc _ hm; rcases cS _ hm with bg | bg; (omega); (rcases List.mem_cons.1 bg with bg | bg; (exact absurd (bg ▸ hm) b0); (replace hm := bg; rcases List.mem_append.1 hm with hm | hm; (have d6 := k _ hm; have eP := o _ hm; omega); (have d6 := m _ hm; have eP := p _ hm; omega)))
   obtain ⟨eh, ei, rfl, gP, dl⟩ := cT.opn
   have dm : Lo L_p (.slice eh (b).length ei) := fun g hm => by have bE := dl _ hm; rcases b1 _ hm with bg | bg; (omega); (rcases List.mem_cons.1 bg with bg | bg; (exact absurd (bg ▸ hm) bx); (replace hm := bg; rcases List.mem_append.1 hm with hm | hm; (have d6 := k _ hm; have eP := o _ hm; omega); (have d6 := m _ hm; have eP := p _ hm; omega)))
   refine Zg fun mW kJ => ?_
   refine Zc (Za rfl rfl (Zd rfl) (Za rfl rfl (Zd rfl) (Za rfl rfl (Yf rfl) (Za rfl rfl (Zh fa48_3 rfl) (Za rfl rfl (Zk jo.at_ agg30 rfl rfl) (Zm rfl rfl ?_))))))
   refine Ym (cs := ics) (parts := [(0, .const (Go.Value.int Go.IntKind.i64 0))]) (0 : Int) [0] el30 sz3 zr3 Xg (by decide) rfl rfl rfl (by decide) (by decide) rfl fun kK mX fU jq fy => ?_
   have kL := fy.size
   have E := E.trans fy.of_nil
   obtain ⟨jr, js, rfl, jt, he⟩ := fU.opn
   refine Zm rfl rfl ?_
   have kM := cT.ch0 fy
   refine Xn (cs := ics) el30 sz3 by3 zr3 rfl (by decide) Zco kM fU.ls rfl rfl bd bd dm om fun kN mY fV ju cd fW => ?_
   have kO := fW.size
   have E := E.step fW (fun i hm => by exact b1 _ hm)
   obtain ⟨cU, cV, rfl, jv, bF⟩ := fV.opn
   refine Za rfl rfl (Yf rfl) (Za rfl rfl (Zh fa48_3 rfl) (Zm rfl rfl ?_))
   have kP := (jo.ch0 fy).ch fW bx
   refine Xm (off := 3) kP sz30 rfl rfl rfl rfl fun kQ dn fX => ?_
   have kR := fX.size
   have E := E.step fX (fun i hm => by have r := mSg.1 hm; right; exact r ▸ List.mem_cons_self ..)
   replace dn : Blk kQ b_p t_p [(.slice aX ((a ++ [az.letter])).length aY), (.int .i64 bu), (.int .i64 bv), (.slice cU ((b ++ [0])).length cV), (.bool bw)] := dn
   refine Ze (Zb (kJ _ _ ?_))
   refine Zg fun mZ kS => ?_
   refine Zc (Za rfl rfl (Zd rfl) (Za rfl rfl (Zd rfl) (Za rfl rfl (Yn (parts := [(1, .tmp 56), (2, .tmp 57)]) (cells := [(.bool false), (.int .i64 (ishl 1 ((a.length : Nat) : Int))), (.int .i64 (ishl 1 ((a.length : Nat) : Int)))]) zr91 pl91 rfl rfl) (Zm rfl rfl ?_))))
   have kT := ((fS.ch0 fy).ch fW aE).ch fX (ne1 om)
   refine Zn (off := 0) 3 kT sz91 rfl (us := [(.bool false), (.int .i64 (ishl 1 ((a.length : Nat) : Int))), (.int .i64 (ishl 1 ((a.length : Nat) : Int)))]) rfl rfl rfl rfl fun gQ dp fY => ?_
   have kU := fY.size
   have E := E.step fY (Xa om)
   replace dp : Blk gQ aW 91 [(.bool false), (.int .i64 (ishl 1 ((a.length : Nat) : Int))), (.int .i64 (ishl 1 ((a.length : Nat) : Int)))] := dp
   refine Ze (Zb (kS _ _ ?_))
   refine Zq (Yd (Zo ?_))
   have kV := dn.ch fY (ne1 om)
   have kW := (((cR.ch0 fy).ch fW (fun g hg hm => by exact aQ _ hg hm)).ch fX (fun g hg hm => by have r := mSg.1 hm; exact b0 (by first | exact hg | exact r ▸ hg))).ch fY (fun g hg hm => by have r := mSg.1 hm; exact bD (by first | exact hg | exact r ▸ hg))
   have fZ : Ol ics 3 1 gQ (.slice aX ((a ++ [az.letter])).length aY) ((bpT t a b).L) := by
    have hx := kW
    exact hx.eq (by rw [eb] <;> first | rfl | (rw [hte]; done))
   have kX := (fV.ch fX (fun g hg hm => by have r := mSg.1 hm; rcases cd with ea | ea; (rw [ea] at hg; exact bx (by first | exact hg | exact r ▸ hg)); (have ej := bF _ hg; rw [ea] at hg; have bg := mSg.1 hg; omega))).ch fY (fun g hg hm => by have r := mSg.1 hm; rcases cd with ea | ea; (rw [ea] at hg; exact aE (by first | exact hg | exact r ▸ hg)); (have ej := bF _ hg; rw [ea] at hg; have bg := mSg.1 hg; omega))
   have f0 : Ol ics 3 1 gQ (.slice cU ((b ++ [0])).length cV) ((bpT t a b).F) := by
    have hx := kX
    exact hx.eq (by rw [eb] <;> first | rfl | (rw [hte]; done))
   have f1 : Blk gQ b_p t_p [(.slice aX ((a ++ [az.letter])).length aY), .int .i64 bu, .int .i64 bv, (.slice cU ((b ++ [0])).length cV), .bool bw] := by
    have hx := kV
    exact hx
   exact Zi [_] (Zt dp rfl agg91 sz91 trivial) ⟨(.slice aX ((a ++ [az.letter])).length aY), (.slice cU ((b ++ [0])).length cV), (((congrArg (fun zq => (Value.agg #[.bool zq, .int .i64 (ishl 1 ((a.length : Nat) : Int)), .int .i64 (ishl 1 ((a.length : Nat) : Int))])) (by rw [eb] <;> first | rfl | (rw [hte]; done))).trans (congrArg (fun zq => (Value.agg #[.bool ((bpT t a b).n), .int .i64 zq, .int .i64 (ishl 1 ((a.length : Nat) : Int))])) (by rw [eb] <;> first | rfl | (rw [hte]; done)))).trans (congrArg (fun zq => (Value.agg #[.bool ((bpT t a b).n), .int .i64 ((bpT t a b).f), .int .i64 zq])) (by rw [eb] <;> first | rfl | (rw [hte]; done)))), f1, fZ, (fun g hm => by exact cS _ hm), b0, f0, (fun g hm => by rcases cd with ea | ea; (rw [ea] at hm; exact b1 _ hm); (have bE := bF _ hm; rw [ea] at hm; have bg := mSg.1 hm; left; omega)), (fun hm => by rcases cd with ea | ea; (rw [ea] at hm; exact bx (by first | exact hm | exact r ▸ hm)); (have bE := bF _ hm; rw [ea] at hm; have bg := mSg.1 hm; omega)), (fun g hm hg => by rcases cd with ea | ea; (rw [ea] at hg; exact aQ _ hm hg); (have ej := bF _ hg; rw [ea] at hg; have bg := mSg.1 hg; have d6 := dk _ hm; have eP := cc _ hm; omega)), E⟩
  refine Xb ((bl (.slice aa a.length ab)) ++ [b_p]) 12 mixed rfl fun jw db => ?_
  have kY := db.size
  have E := E.trans db.of_nil
  refine dV 0 rfl rfl rfl (fun _ => Zd rfl) (dV 1 rfl rfl rfl (fun _ => Zd rfl) (dV 2 rfl rfl rfl (fun _ => Yf rfl) (dV 3 rfl rfl rfl (fun _ => Zh fa48_0 rfl) (dV 5 rfl rfl rfl (fun _ => Zh fa84_1 rfl) ?_))))
  have kZ := eg.ch0 db
  refine dT 6 rfl rfl rfl (Xh kZ.at_ (fun i hm => by rcases List.mem_append.1 hm with hm | hm; (have d6 := k _ hm; have eP := o _ hm; omega); (have d6 := mSg.1 hm; omega)) agg3 rfl rfl ?_)
  refine Zat 4 7 (by kernel_rfl) ?_ ?_
  ·refine Zz rfl rfl rfl ?_
   have jx := hc.ch0 db
   refine s_v (Zk jx.at_ agg30 rfl rfl) ?_
   refine ⟨(Ch.refl _ _), ?_⟩
   refine dO 7 (Zz rfl rfl rfl ?_)
   refine Ym (cs := ics) (parts := [(0, .tmp 42)]) (0 : Int) [az.letter] el30 sz3 zr3 Xg (by decide) rfl rfl rfl (by decide) (by decide) rfl fun hf k3 dq f2 eG => ?_
   have k4 := eG.size
   have E := E.trans eG.of_nil
   obtain ⟨f3, f4, rfl, f5, eQ⟩ := dq.opn
   have eH : Ch ((bl (.slice aa a.length ab)) ++ [b_p]) jw k3 := ((Ch.refl _ _).trans eG.of_nil)
   refine ⟨eH, ?_⟩
   refine dO 8 (Zz rfl rfl rfl ?_)
   have k5 := ((((aU.ch0 C2).ch0 C6).ch C7 (dS k o om)).ch0 db).ch0 eG
   refine Xn (cs := ics) el30 sz3 by3 zr3 rfl (by decide) Zco k5 dq.ls rfl rfl bd bd k om fun hh m0 dr f6 aF eR => ?_
   have k6 := eR.size
   have E := E.step eR (fun i hm => by exact (.inr (mCo _ (mAL _ hm))))
   obtain ⟨ds, dt, rfl, f7, R⟩ := dr.opn
   have eI := eH.step eR (fun i hm => by exact .inr (mAL _ hm))
   refine ⟨eI, ?_⟩
   refine dV 9 rfl rfl rfl (fun _ => Yf rfl) (dV 10 rfl rfl rfl (fun _ => Zh fa48_0 rfl) (dO 11 (Zz rfl rfl rfl ?_)))
   have k7 := (jx.ch0 eG).ch eR I
   refine Xm (off := 0) k7 sz30 rfl rfl rfl rfl fun k8 du eS => ?_
   have k9 := eS.size
   have E := E.step eS (fun i hm => by have r := mSg.1 hm; right; exact r ▸ List.mem_cons_self ..)
   replace du : Blk k8 b_p t_p [(.slice ds ((a ++ [az.letter])).length dt), (.int .i64 bu), (.int .i64 bv), (.slice aB b.length aC), (.bool bw)] := du
   have f8 := eI.step eS (fun i hm => by have r := mSg.1 hm; exact .inr (by rw [r]; exact (mAR _ (mSg.2 rfl))))
   refine ⟨f8, ?_⟩
   refine Yc (by kernel_rfl) ?_
   refine Zb ?_
   have la := dr.ch eS (fun g hg hm => by have r := mSg.1 hm; rcases aF with ea | ea; (rw [ea] at hg; exact I (by first | exact hg | exact r ▸ hg)); (have ej := R _ hg; rw [ea] at hg; have bg := mSg.1 hg; omega))
   have lc := ((((((aV.ch0 C2).ch0 C6).ch C7 (dS m p om)).ch0 db).ch0 eG).ch eR (fun g hg hm => by exact q _ hm hg)).ch eS (fun g hg hm => by have r := mSg.1 hm; exact Z (by first | exact hg | exact r ▸ hg))
   have ld := (((((F5.ch0 C6).ch C7 (Qm om)).ch0 db).ch0 eG).ch eR (fun i hi => by have d6 := k _ hi; omega)).ch eS (Qm om)
   have lf := (((((cQ.ch0 C6).ch C7 (ne1 om)).ch0 db).ch0 eG).ch eR (Zs k o om)).ch eS (ne1 om)
   exact eF _ _ _ _ (sC4 rfl rfl rfl rfl (sC2 rfl rfl (Sub.nil _))) E om la (fun g hm => by rcases aF with ea | ea; (rw [ea] at hm; exact (.inr (mCo _ (mAL _ hm)))); (have bE := R _ hm; rw [ea] at hm; have bg := mSg.1 hm; left; omega)) (fun hm => by rcases aF with ea | ea; (rw [ea] at hm; exact I (by first | exact hm | exact r ▸ hm)); (have bE := R _ hm; rw [ea] at hm; have bg := mSg.1 hm; omega)) lc (fun g hm => by exact (.inr (mCo _ (mAR _ hm)))) Z (fun g hm hg => by rcases aF with ea | ea; (rw [ea] at hm; exact q _ hm hg); (have bE := R _ hm; rw [ea] at hm; have bg := mSg.1 hm; have lg := m _ hg; have lh := p _ hg; omega)) du ld lf (fun hm => by rcases aF with ea | ea; (rw [ea] at hm; have d6 := k _ hm; have eP := o _ hm; omega); (have bE := R _ hm; rw [ea] at hm; have bg := mSg.1 hm; omega)) (Zs m p om)
  refine Zz rfl rfl rfl ?_
  refine Ym (cs := ics) (parts := [(0, .tmp 42)]) (0 : Int) [az.letter] el30 sz3 zr3 Xg (by decide) rfl rfl rfl (by decide) (by decide) rfl fun hf li dq f2 eJ => ?_
  have lk := eJ.size
  have E := E.trans eJ.of_nil
  obtain ⟨f3, f4, rfl, f5, eQ⟩ := dq.opn
  have dv : Ch ((bl (.slice aa a.length ab)) ++ [b_p]) jw li := ((Ch.refl _ _).trans eJ.of_nil)
  refine ⟨dv, ?_⟩
  refine dO 4 (Zz rfl rfl rfl ?_)
  have jy := (hc.ch0 db).ch0 eJ
  refine s_v (Zk jy.at_ agg30 rfl rfl) ?_
  refine ⟨dv, ?_⟩
  refine dO 8 (Zz rfl rfl rfl ?_)
  have ll := ((((aU.ch0 C2).ch0 C6).ch C7 (dS k o om)).ch0 db).ch0 eJ
  refine Xn (cs := ics) el30 sz3 by3 zr3 rfl (by decide) Zco ll dq.ls rfl rfl bd bd k om fun hh m1 dr f6 aF eT => ?_
  have lm := eT.size
  have E := E.step eT (fun i hm => by exact (.inr (mCo _ (mAL _ hm))))
  obtain ⟨ds, dt, rfl, f7, R⟩ := dr.opn
  have eK := dv.step eT (fun i hm => by exact .inr (mAL _ hm))
  refine ⟨eK, ?_⟩
  refine dV 9 rfl rfl rfl (fun _ => Yf rfl) (dV 10 rfl rfl rfl (fun _ => Zh fa48_0 rfl) (dO 11 (Zz rfl rfl rfl ?_)))
  have ln := jy.ch eT I
  refine Xm (off := 0) ln sz30 rfl rfl rfl rfl fun lo dw eU => ?_
  have lp := eU.size
  have E := E.step eU (fun i hm => by have r := mSg.1 hm; right; exact r ▸ List.mem_cons_self ..)
  replace dw : Blk lo b_p t_p [(.slice ds ((a ++ [az.letter])).length dt), (.int .i64 bu), (.int .i64 bv), (.slice aB b.length aC), (.bool bw)] := dw
  have f9 := eK.step eU (fun i hm => by have r := mSg.1 hm; exact .inr (by rw [r]; exact (mAR _ (mSg.2 rfl))))
  refine ⟨f9, ?_⟩
  refine Yc (by kernel_rfl) ?_
  refine Zb ?_
  have lq := dr.ch eU (fun g hg hm => by have r := mSg.1 hm; rcases aF with ea | ea; (rw [ea] at hg; exact I (by first | exact hg | exact r ▸ hg)); (have ej := R _ hg; rw [ea] at hg; have bg := mSg.1 hg; omega))
  have lr := ((((((aV.ch0 C2).ch0 C6).ch C7 (dS m p om)).ch0 db).ch0 eJ).ch eT (fun g hg hm => by exact q _ hm hg)).ch eU (fun g hg hm => by have r := mSg.1 hm; exact Z (by first | exact hg | exact r ▸ hg))
  have lu := (((((F5.ch0 C6).ch C7 (Qm om)).ch0 db).ch0 eJ).ch eT (fun i hi => by have d6 := k _ hi; omega)).ch eU (Qm om)
  have lv := (((((cQ.ch0 C6).ch C7 (ne1 om)).ch0 db).ch0 eJ).ch eT (Zs k o om)).ch eU (ne1 om)
  exact eF _ _ _ _ (sC4 rfl rfl rfl rfl (sC2 rfl rfl (Sub.nil _))) E om lq (fun g hm => by rcases aF with ea | ea; (rw [ea] at hm; exact (.inr (mCo _ (mAL _ hm)))); (have bE := R _ hm; rw [ea] at hm; have bg := mSg.1 hm; left; omega)) (fun hm => by rcases aF with ea | ea; (rw [ea] at hm; exact I (by first | exact hm | exact r ▸ hm)); (have bE := R _ hm; rw [ea] at hm; have bg := mSg.1 hm; omega)) lr (fun g hm => by exact (.inr (mCo _ (mAR _ hm)))) Z (fun g hm hg => by rcases aF with ea | ea; (rw [ea] at hm; exact q _ hm hg); (have bE := R _ hm; rw [ea] at hm; have bg := mSg.1 hm; have lg := m _ hg; have lh := p _ hg; omega)) dw lu lv (fun hm => by rcases aF with ea | ea; (rw [ea] at hm; have d6 := k _ hm; have eP := o _ hm; omega); (have bE := R _ hm; rw [ea] at hm; have bg := mSg.1 hm; omega)) (Zs m p om)
 have ha := cy
 have cy := Yj cy
 refine Zg fun m2 lw => ?_
 refine Zc (Za rfl rfl (Yy rfl rfl) (Za rfl rfl (Zf rfl) (Ze (Zb (lw _ _ ?_)))))
 refine Zp rfl (fun cz => ?_) (fun cz => ?_)
 ·have hj := cz
  have cz := Yi cz
  obtain ⟨ta, tb, et, oa, ob, hla, jz⟩ := hok.k2 om eO hl
  have dx : t.kids[0]? = some ta := by rw [et]; rfl
  have eV : t.kids[1]? = some tb := by rw [et]; rfl
  have ga := ta.flat_len
  have gb := tb.flat_len
  have za := Zbq ta a b
  have zb := Zbq tb (bpT ta a b).L (bpT ta a b).F
  have eb := bp4 (L := a) (F := b) hok om dx eV
  refine Zg fun m3 lx => ?_
  refine Zc (Za rfl rfl (Zd rfl) (Za rfl rfl (Zd rfl) (Zm rfl rfl ?_)))
  have jA := (F5.ch0 C6).ch C7 (Qm om)
  refine (Zgo (ys := (ta.flat ++ tb.flat)) 0 ((((l.length : Nat) : Int) - 1).toNat) jA Token.len el42 sz84 rfl rfl ⟨_, _, rfl, by omega⟩ om om (show l.take _ = _ from Ziv hla om) fun ly eW jB jC => ?_)
  obtain ⟨lz, lA, hk⟩ := eW.val
  subst hk
  have lB := eW.len
  refine Zm rfl rfl ?_
  refine Step.call (Zl (xs := [.tmp 63]) fk106 rfl) (Zan eW ta.flat tb ob rfl) fun lC m4 hn => ?_
  obtain ⟨rfl, d7⟩ := hn
  have lD := d7.size
  have E := E.trans d7.of_nil
  refine Za rfl rfl (Zf rfl) (Ze (Zb (lx _ _ ?_)))
  refine Zg fun m5 lE => ?_
  refine Zc (Za rfl rfl (Zd rfl) (Za rfl rfl (Zd rfl) (Za rfl rfl (Zd rfl) (Zm rfl rfl ?_))))
  have jD := jA.ch0 d7
  refine (Zgo (ys := ta.flat) 0 ta.flat.length jD Token.len el42 sz84 rfl rfl ⟨_, _, rfl, by omega⟩ om om (show l.take _ = _ from Zny hla om) fun lF eX jE jF => ?_)
  obtain ⟨lG, lH, ho⟩ := eX.val
  subst ho
  have lI := eX.len
  refine Zm rfl rfl ?_
  have lJ := (((m_p.ch0 C2).ch0 C6).ch C7 (ne1 om)).ch0 d7
  have lK := (((aU.ch0 C2).ch0 C6).ch C7 (dS k o om)).ch0 d7
  have lL := (((aV.ch0 C2).ch0 C6).ch C7 (dS m p om)).ch0 d7
  refine Step.call (Zl (xs := [.tmp 65, .tmp 68]) fk67 rfl) (ih lJ om lK I (Lo.down k om) lL Z (Lo.down m om) q eX ta oa rfl om ⟨by omega, by omega⟩ (L_p := L_p) om) fun lM lN hp => ?_
  obtain ⟨hq, hr, rfl, eY, cW, aZ, aG, cX, a0, aH, bQ, eZ⟩ := hp
  have lO := eZ.size
  have E := E.step eZ (fun i hm => by rcases List.mem_cons.1 hm with r | hm; (right; exact r ▸ List.mem_cons_self ..); (rcases List.mem_append.1 hm with hm | hm; (exact (.inr (mCo _ (mAL _ hm)))); (exact (.inr (mCo _ (mAR _ hm))))))
  obtain ⟨dy, dz, rfl, hs, bz⟩ := cW.opn
  have ac : Lo L_p (.slice dy ((bpT ta a b).L).length dz) := Yz aZ aG om (Ys k m)
  obtain ⟨dA, dB, rfl, ht, bA⟩ := cX.opn
  have ad : Lo L_p (.slice dA ((bpT ta a b).F).length dB) := Yz a0 aH om (Ys k m)
  have ae := Zv aZ aG (show aW < _ by omega) (Yk (Zs k o om) (Zs m p om))
  have ce := Zv aZ aG (show cw < _ by omega) (Yk (Zs k o om) (Zs m p om))
  have cA := Yt E aZ aG om (Ys (fun g hm => (.inr (mCo _ (mAL _ hm)))) (fun g hm => (.inr (mCo _ (mAR _ hm)))))
  have af := Zv a0 aH (show aW < _ by omega) (Yk (Zs k o om) (Zs m p om))
  have cf := Zv a0 aH (show cw < _ by omega) (Yk (Zs k o om) (Zs m p om))
  have cB := Yt E a0 aH om (Ys (fun g hm => (.inr (mCo _ (mAL _ hm)))) (fun g hm => (.inr (mCo _ (mAR _ hm)))))
  replace eY : Blk lN b_p t_p [(.slice dy ((bpT ta a b).L).length dz), (.int .i64 bu), (.int .i64 bv), (.slice dA ((bpT ta a b).F).length dB), (.bool bw)] := eY
  refine Zm rfl rfl ?_
  refine Yh zr91 fun fz lP gR d8 m6 => ?_
  have lQ := d8.size
  have E := E.trans d8.of_nil
  have m7 := gR.lt
  replace gR : Blk lP fz 91 [(.bool false), (.int .i64 0), (.int .i64 0)] := gR
  refine Zm rfl rfl ?_
  refine Zn (off := 0) 3 gR sz91 rfl (us := [(.bool ((bpT ta a b).n)), (.int .i64 ((bpT ta a b).f)), (.int .i64 ((bpT ta a b).l))]) rfl rfl rfl rfl fun lR dC d9 => ?_
  have lT := d9.size
  have E := E.step d9 (Xa om)
  replace dC : Blk lR fz 91 [(.bool ((bpT ta a b).n)), (.int .i64 ((bpT ta a b).f)), (.int .i64 ((bpT ta a b).l))] := dC
  refine Ze (Zb (lE _ _ ?_))
  refine Zg fun m8 lU => ?_
  refine Zc (Za rfl rfl (Zd rfl) (Za rfl rfl (Zd rfl) (Za rfl rfl (Zd rfl) (Za rfl rfl (Zd rfl) (Zm rfl rfl ?_)))))
  have lV := ((jD.ch eZ (Qb om k om m om)).ch0 d8).ch d9 (Qm om)
  refine (Zgo (ys := tb.flat) ta.flat.length ((((l.length : Nat) : Int) - 1).toNat) lV Token.len el42 sz84 rfl ⟨_, _, rfl, by omega⟩ ⟨_, _, rfl, by omega⟩ om om (Znu hla om om) fun lW e0 jG jH => ?_)
  obtain ⟨lX, lY, hu⟩ := e0.val
  subst hu
  have lZ := e0.len
  refine Zm rfl rfl ?_
  have l0 := (eY.ch0 d8).ch d9 (ne1 om)
  have l1 := (cW.ch0 d8).ch d9 (dS ac bz om)
  have l2 := (cX.ch0 d8).ch d9 (dS ad bA om)
  refine Step.call (Zl (xs := [.tmp 70, .tmp 74]) fk67 rfl) (ih l0 om l1 aG (Lo.down ac om) l2 aH (Lo.down ad om) bQ e0 tb ob rfl om ⟨by omega, by omega⟩ (L_p := L_p) om) fun l3 l4 hv => ?_
  obtain ⟨hw, hy, rfl, e1, cY, aI, ag, cZ, aJ, ah, bR, e2⟩ := hv
  have l5 := e2.size
  have E := E.step e2 (fun i hm => by rcases List.mem_cons.1 hm with r | hm; (right; exact r ▸ List.mem_cons_self ..); (rcases List.mem_append.1 hm with hm | hm; (exact (cA _ hm)); (exact (cB _ hm))))
  obtain ⟨dD, dE, rfl, hz, a1⟩ := cY.opn
  have ai : Lo L_p (.slice dD ((bpT tb ((bpT ta a b).L) ((bpT ta a b).F)).L).length dE) := Yz aI ag om (Ys ac ad)
  obtain ⟨dF, dG, rfl, hA, a2⟩ := cZ.opn
  have aj : Lo L_p (.slice dF ((bpT tb ((bpT ta a b).L) ((bpT ta a b).F)).F).length dG) := Yz aJ ah om (Ys ac ad)
  have ak := Zv aI ag (show aW < _ by omega) (Yk ae af)
  have cg := Zv aI ag (show cw < _ by omega) (Yk ce cf)
  have bG := Zv aI ag (show fz < _ by omega) (Yk (Zs ac bz om) (Zs ad bA om))
  have cC := Yt E aI ag om (Ys (fun g hm => (cA _ hm)) (fun g hm => (cB _ hm)))
  have al := Zv aJ ah (show aW < _ by omega) (Yk ae af)
  have ci := Zv aJ ah (show cw < _ by omega) (Yk ce cf)
  have bH := Zv aJ ah (show fz < _ by omega) (Yk (Zs ac bz om) (Zs ad bA om))
  have cD := Yt E aJ ah om (Ys (fun g hm => (cA _ hm)) (fun g hm => (cB _ hm)))
  replace e1 : Blk l4 b_p t_p [(.slice dD ((bpT tb ((bpT ta a b).L) ((bpT ta a b).F)).L).length dE), (.int .i64 bu), (.int .i64 bv), (.slice dF ((bpT tb ((bpT ta a b).L) ((bpT ta a b).F)).F).length dG), (.bool bw)] := e1
  refine Zm rfl rfl ?_
  refine Yh zr91 fun ek l6 el ec l7 => ?_
  have l8 := ec.size
  have E := E.trans ec.of_nil
  have l9 := el.lt
  replace el : Blk l6 ek 91 [(.bool false), (.int .i64 0), (.int .i64 0)] := el
  refine Zm rfl rfl ?_
  refine Zn (off := 0) 3 el sz91 rfl (us := [(.bool ((bpT tb ((bpT ta a b).L) ((bpT ta a b).F)).n)), (.int .i64 ((bpT tb ((bpT ta a b).L) ((bpT ta a b).F)).f)), (.int .i64 ((bpT tb ((bpT ta a b).L) ((bpT ta a b).F)).l))]) rfl rfl rfl rfl fun ma bI ed => ?_
  have mb := ed.size
  have E := E.step ed (Xa om)
  replace bI : Blk ma ek 91 [(.bool ((bpT tb ((bpT ta a b).L) ((bpT ta a b).F)).n)), (.int .i64 ((bpT tb ((bpT ta a b).L) ((bpT ta a b).F)).f)), (.int .i64 ((bpT tb ((bpT ta a b).L) ((bpT ta a b).F)).l))] := bI
  refine Ze (Zb (lU _ _ ?_))
  refine Zg fun mc hB => ?_
  refine Zc (Za rfl rfl (Zd rfl) (Za rfl rfl (Zh fa91_2 rfl) ?_))
  have gc := ((dC.ch e2 (Xd om (Yl bz om) (Yl bA om))).ch0 ec).ch ed (ne1 om)
  refine Za rfl rfl (Zk gc.at_ agg3 rfl rfl) (Za rfl rfl (Zh fa91_1 rfl) (Za rfl rfl (Zk bI.at_ agg3 rfl rfl) (Zm rfl rfl ?_)))
  have hC := (e1.ch0 ec).ch ed (ne1 om)
  have hD := (cY.ch0 ec).ch ed (dS ai a1 om)
  have hE := (cZ.ch0 ec).ch ed (dS aj a2 om)
  refine Step.call (Zl (xs := [.tmp 76, .tmp 78, .tmp 80]) fk107 rfl) (Zee hC om hD ag (Lo.down ai om) hE ah (Lo.down aj om) bR _ _ om (L_p := L_p)) fun md hF hG => ?_
  obtain ⟨hH, hI, rfl, dc, a3, am, s, a4, an, u, D, b2⟩ := hG
  have jI := b2.size
  have E := E.step b2 (fun i hm => by rcases List.mem_cons.1 hm with r | hm; (right; exact r ▸ List.mem_cons_self ..); (rcases List.mem_append.1 hm with hm | hm; (exact (cC _ hm)); (exact (cD _ hm))))
  obtain ⟨x, y, rfl, hJ, S⟩ := a3.opn
  have G : Lo L_p (.slice x (((bpT tb ((bpT ta a b).L) ((bpT ta a b).F)).L)).length y) := Yz am s om (Ys ai aj)
  obtain ⟨z, A, rfl, hK, T⟩ := a4.opn
  have H : Lo L_p (.slice z (lkL ((bpT ta a b).l) ((bpT tb ((bpT ta a b).L) ((bpT ta a b).F)).f) ((bpT tb ((bpT ta a b).L) ((bpT ta a b).F)).F)).length A) := Yz an u om (Ys ai aj)
  have a5 := Zv am s (show aW < _ by omega) (Yk ak al)
  have gd := Zv am s (show cw < _ by omega) (Yk cg ci)
  have ge := Zv am s (show fz < _ by omega) (Yk bG bH)
  have fA := Zv am s (show ek < _ by omega) (Yk (Zs ai a1 om) (Zs aj a2 om))
  have b3 := Yt E am s om (Ys (fun g hm => (cC _ hm)) (fun g hm => (cD _ hm)))
  have a6 := Zv an u (show aW < _ by omega) (Yk ak al)
  have gf := Zv an u (show cw < _ by omega) (Yk cg ci)
  have gg := Zv an u (show fz < _ by omega) (Yk bG bH)
  have fB := Zv an u (show ek < _ by omega) (Yk (Zs ai a1 om) (Zs aj a2 om))
  have b4 := Yt E an u om (Ys (fun g hm => (cC _ hm)) (fun g hm => (cD _ hm)))
  replace dc : Blk hF b_p t_p [(.slice x (((bpT tb ((bpT ta a b).L) ((bpT ta a b).F)).L)).length y), (.int .i64 bu), (.int .i64 bv), (.slice z (lkL ((bpT ta a b).l) ((bpT tb ((bpT ta a b).L) ((bpT ta a b).F)).f) ((bpT tb ((bpT ta a b).L) ((bpT ta a b).F)).F)).length A), (.bool bw)] := dc
  refine Ze (Zb (hB _ _ ?_))
  refine Zg fun me gh => ?_
  refine Zc (Za rfl rfl (Zh fa91_0 rfl) ?_)
  have dH := gc.ch b2 (Xd om bG bH)
  refine Za rfl rfl (Zk dH.at_ agg4 rfl rfl) (Za rfl rfl (Zd rfl) ?_)
  refine Yp (d := 84) rfl (fun e => ?_) (fun e => ?_)
  ·have dI := e
   refine Za rfl rfl (Zh fa91_0 rfl) ?_
   have e3 := bI.ch b2 (Xd om (Yl a1 om) (Yl a2 om))
   refine Za rfl rfl (Zk e3.at_ agg4 rfl rfl) (Za rfl rfl (Ya rfl rfl) (Za rfl rfl (Zh fa91_1 rfl) (Za rfl rfl (Zk dH.at_ agg3 rfl rfl) (Za rfl rfl (Zh fa91_2 rfl) (Za rfl rfl (Zk e3.at_ agg3 rfl rfl) (Za rfl rfl (Yn (parts := [(0, .tmp 87), (1, .tmp 89), (2, .tmp 91)]) (cells := [(.bool ((bpT tb ((bpT ta a b).L) ((bpT ta a b).F)).n)), (.int .i64 ((bpT ta a b).f)), (.int .i64 ((bpT tb ((bpT ta a b).L) ((bpT ta a b).F)).l))]) zr91 pl91 rfl rfl) (Zm rfl rfl ?_)))))))
   refine Yh zr91 fun cj hL b5 bj hM => ?_
   have jJ := bj.size
   have E := E.trans bj.of_nil
   have hN := b5.lt
   replace b5 : Blk hL cj 91 [(.bool false), (.int .i64 0), (.int .i64 0)] := b5
   refine Zm rfl rfl ?_
   refine Zn (off := 0) 3 b5 sz91 rfl (us := [(.bool ((bpT tb ((bpT ta a b).L) ((bpT ta a b).F)).n)), (.int .i64 ((bpT ta a b).f)), (.int .i64 ((bpT tb ((bpT ta a b).L) ((bpT ta a b).F)).l))]) rfl rfl rfl rfl fun hO cE bk => ?_
   have jK := bk.size
   have E := E.step bk (Xa om)
   replace cE : Blk hO cj 91 [(.bool ((bpT tb ((bpT ta a b).L) ((bpT ta a b).F)).n)), (.int .i64 ((bpT ta a b).f)), (.int .i64 ((bpT tb ((bpT ta a b).L) ((bpT ta a b).F)).l))] := cE
   refine Ze (Zb (gh _ _ ?_))
   refine Zg fun mf hP => ?_
   refine Zg fun mg hQ => ?_
   refine Zc (Za rfl rfl (Zh fa91_0 rfl) ?_)
   have e4 := (dH.ch0 bj).ch bk (ne1 om)
   refine Za rfl rfl (Zk e4.at_ agg4 rfl rfl) (Ze (Zb (hQ _ _ ?_)))
   refine Zas rfl dI ?_
   refine Zc (Za rfl rfl (Zh fa91_1 rfl) (Za rfl rfl (Zk e4.at_ agg3 rfl rfl) (Za rfl rfl (Zh fa91_1 rfl) ?_)))
   have gi := (e3.ch0 bj).ch bk (ne1 om)
   refine Za rfl rfl (Zk gi.at_ agg3 rfl rfl) (Za rfl rfl (r_or rfl rfl) (Za rfl rfl (Zh fa91_1 rfl) (Zm rfl rfl ?_)))
   refine Xm (off := 1) cE sz3 rfl rfl rfl rfl fun hR b6 bm => ?_
   have jL := bm.size
   have E := E.step bm (Xa om)
   replace b6 : Blk hR cj 91 [(.bool ((bpT tb ((bpT ta a b).L) ((bpT ta a b).F)).n)), (.int .i64 (ior ((bpT ta a b).f) ((bpT tb ((bpT ta a b).L) ((bpT ta a b).F)).f))), (.int .i64 ((bpT tb ((bpT ta a b).L) ((bpT ta a b).F)).l))] := b6
   refine Ze (Zb (hP _ _ ?_))
   refine Zg fun mh gj => ?_
   refine Zg fun mi hS => ?_
   refine Zc (Za rfl rfl (Zh fa91_0 rfl) ?_)
   have gk := gi.ch bm (ne1 om)
   refine Za rfl rfl (Zk gk.at_ agg4 rfl rfl) (Ze (Zb (hS _ _ ?_)))
   refine Zp rfl (fun c => ?_) (fun c => ?_)
   ·have gl := c
    refine Zc (Za rfl rfl (Zh fa91_2 rfl) ?_)
    have hT := e4.ch bm (ne1 om)
    refine Za rfl rfl (Zk hT.at_ agg3 rfl rfl) (Za rfl rfl (Zh fa91_2 rfl) (Za rfl rfl (Zk gk.at_ agg3 rfl rfl) (Za rfl rfl (r_or rfl rfl) (Za rfl rfl (Zh fa91_2 rfl) (Zm rfl rfl ?_)))))
    refine Xm (off := 2) b6 sz3 rfl rfl rfl rfl fun hU cF dd => ?_
    have jM := dd.size
    have E := E.step dd (Xa om)
    replace cF : Blk hU cj 91 [(.bool ((bpT tb ((bpT ta a b).L) ((bpT ta a b).F)).n)), (.int .i64 (ior ((bpT ta a b).f) ((bpT tb ((bpT ta a b).L) ((bpT ta a b).F)).f))), (.int .i64 (ior ((bpT ta a b).l) ((bpT tb ((bpT ta a b).L) ((bpT ta a b).F)).l)))] := cF
    refine Ze (Zb (gj _ _ ?_))
    refine Zg fun mj hV => ?_
    refine Zc (Za rfl rfl (Zy cF.at_ agg91 sz91 rfl) (Zm rfl rfl ?_))
    have hW := (((((((((((((cQ.ch0 C6).ch C7 (ne1 om)).ch0 d7).ch eZ (Xd om (Yl o om) (Yl p om))).ch0 d8).ch d9 (ne1 om)).ch e2 (Xd om ae af)).ch0 ec).ch ed (ne1 om)).ch b2 (Xd om ak al)).ch0 bj).ch bk (ne1 om)).ch bm (ne1 om)).ch dd (ne1 om)
    refine Zn (off := 0) 3 hW sz91 rfl (us := [(.bool ((bpT tb ((bpT ta a b).L) ((bpT ta a b).F)).n)), (.int .i64 (ior ((bpT ta a b).f) ((bpT tb ((bpT ta a b).L) ((bpT ta a b).F)).f))), (.int .i64 (ior ((bpT ta a b).l) ((bpT tb ((bpT ta a b).L) ((bpT ta a b).F)).l)))]) rfl rfl rfl rfl fun em cG dJ => ?_
    have jN := dJ.size
    have E := E.step dJ (Xa om)
    replace cG : Blk em aW 91 [(.bool ((bpT tb ((bpT ta a b).L) ((bpT ta a b).F)).n)), (.int .i64 (ior ((bpT ta a b).f) ((bpT tb ((bpT ta a b).L) ((bpT ta a b).F)).f))), (.int .i64 (ior ((bpT ta a b).l) ((bpT tb ((bpT ta a b).L) ((bpT ta a b).F)).l)))] := cG
    refine Ze (Zb (hV _ _ ?_))
    refine Zq (Yd (Zo ?_))
    have hX := ((((dc.ch0 bj).ch bk (ne1 om)).ch bm (ne1 om)).ch dd (ne1 om)).ch dJ (ne1 om)
    have hY := ((((a3.ch0 bj).ch bk (dS G S om)).ch bm (dS G S om)).ch dd (dS G S om)).ch dJ (fun g hg hm => by have r := mSg.1 hm; exact a5 (by first | exact hg | exact r ▸ hg))
    have e5 : Ol ics 3 1 em (.slice x (((bpT tb ((bpT ta a b).L) ((bpT ta a b).F)).L)).length y) ((bpT t a b).L) := by
     have hx := hY
     exact hx.eq (by rw [eb] <;> first | rfl | exact rbA e | exact rbB e | exact rbC e | exact rbD e | exact rbE e | (rw [e]; simp; done) | exact rbA c | exact rbB c | exact rbC c | exact rbD c | exact rbE c | (rw [c]; simp; done) | (rw [hte]; done))
    have hZ := ((((a4.ch0 bj).ch bk (dS H T om)).ch bm (dS H T om)).ch dd (dS H T om)).ch dJ (fun g hg hm => by have r := mSg.1 hm; exact a6 (by first | exact hg | exact r ▸ hg))
    have e6 : Ol ics 3 1 em (.slice z (lkL ((bpT ta a b).l) ((bpT tb ((bpT ta a b).L) ((bpT ta a b).F)).f) ((bpT tb ((bpT ta a b).L) ((bpT ta a b).F)).F)).length A) ((bpT t a b).F) := by
     have hx := hZ
     exact hx.eq (by rw [eb] <;> first | rfl | exact rbA e | exact rbB e | exact rbC e | exact rbD e | exact rbE e | (rw [e]; simp; done) | exact rbA c | exact rbB c | exact rbC c | exact rbD c | exact rbE c | (rw [c]; simp; done) | (rw [hte]; done))
    have e7 : Blk em b_p t_p [(.slice x (((bpT tb ((bpT ta a b).L) ((bpT ta a b).F)).L)).length y), .int .i64 bu, .int .i64 bv, (.slice z (lkL ((bpT ta a b).l) ((bpT tb ((bpT ta a b).L) ((bpT ta a b).F)).f) ((bpT tb ((bpT ta a b).L) ((bpT ta a b).F)).F)).length A), .bool bw] := by
     have hx := hX
     exact hx
    exact Zi [_] (Zt cG rfl agg91 sz91 trivial) ⟨(.slice x (((bpT tb ((bpT ta a b).L) ((bpT ta a b).F)).L)).length y), (.slice z (lkL ((bpT ta a b).l) ((bpT tb ((bpT ta a b).L) ((bpT ta a b).F)).f) ((bpT tb ((bpT ta a b).L) ((bpT ta a b).F)).F)).length A), (((congrArg (fun zq => (Value.agg #[.bool zq, .int .i64 (ior ((bpT ta a b).f) ((bpT tb ((bpT ta a b).L) ((bpT ta a b).F)).f)), .int .i64 (ior ((bpT ta a b).l) ((bpT tb ((bpT ta a b).L) ((bpT ta a b).F)).l))])) (by rw [eb] <;> first | rfl | exact rbA e | exact rbB e | exact rbC e | exact rbD e | exact rbE e | (rw [e]; simp; done) | exact rbA c | exact rbB c | exact rbC c | exact rbD c | exact rbE c | (rw [c]; simp; done) | (rw [hte]; done))).trans (congrArg (fun zq => (Value.agg #[.bool ((bpT t a b).n), .int .i64 zq, .int .i64 (ior ((bpT ta a b).l) ((bpT tb ((bpT ta a b).L) ((bpT ta a b).F)).l))])) (by rw [eb] <;> first | rfl | exact rbA e | exact rbB e | exact rbC e | exact rbD e | exact rbE e | (rw [e]; simp; done) | exact rbA c | exact rbB c | exact rbC c | exact rbD c | exact rbE c | (rw [c]; simp; done) | (rw [hte]; done)))).trans (congrArg (fun zq => (Value.agg #[.bool ((bpT t a b).n), .int .i64 ((bpT t a b).f), .int .i64 zq])) (by rw [eb] <;> first | rfl | exact rbA e | exact rbB e | exact rbC e | exact rbD e | exact rbE e | (rw [e]; simp; done) | exact rbA c | exact rbB c | exact rbC c | exact rbD c | exact rbE c | (rw [c]; simp; done) | (rw [hte]; done)))), e7, e5, b3, s, e6, b4, u, D, E⟩
   have gl := c
   refine Zu ?_
   refine Zb (gj _ _ ?_)
   refine Zg fun ml h0 => ?_
   refine Zc (Za rfl rfl (Zy b6.at_ agg91 sz91 rfl) (Zm rfl rfl ?_))
   have h1 := ((((((((((((cQ.ch0 C6).ch C7 (ne1 om)).ch0 d7).ch eZ (Xd om (Yl o om) (Yl p om))).ch0 d8).ch d9 (ne1 om)).ch e2 (Xd om ae af)).ch0 ec).ch ed (ne1 om)).ch b2 (Xd om ak al)).ch0 bj).ch bk (ne1 om)).ch bm (ne1 om)
   refine Zn (off := 0) 3 h1 sz91 rfl (us := [(.bool ((bpT tb ((bpT ta a b).L) ((bpT ta a b).F)).n)), (.int .i64 (ior ((bpT ta a b).f) ((bpT tb ((bpT ta a b).L) ((bpT ta a b).F)).f))), (.int .i64 ((bpT tb ((bpT ta a b).L) ((bpT ta a b).F)).l))]) rfl rfl rfl rfl fun en cH dL => ?_
   have jO := dL.size
   have E := E.step dL (Xa om)
   replace cH : Blk en aW 91 [(.bool ((bpT tb ((bpT ta a b).L) ((bpT ta a b).F)).n)), (.int .i64 (ior ((bpT ta a b).f) ((bpT tb ((bpT ta a b).L) ((bpT ta a b).F)).f))), (.int .i64 ((bpT tb ((bpT ta a b).L) ((bpT ta a b).F)).l))] := cH
   refine Ze (Zb (h0 _ _ ?_))
   refine Zq (Yd (Zo ?_))
   have h2 := (((dc.ch0 bj).ch bk (ne1 om)).ch bm (ne1 om)).ch dL (ne1 om)
   have h3 := (((a3.ch0 bj).ch bk (dS G S om)).ch bm (dS G S om)).ch dL (fun g hg hm => by have r := mSg.1 hm; exact a5 (by first | exact hg | exact r ▸ hg))
   have e8 : Ol ics 3 1 en (.slice x (((bpT tb ((bpT ta a b).L) ((bpT ta a b).F)).L)).length y) ((bpT t a b).L) := by
    have hx := h3
    exact hx.eq (by rw [eb] <;> first | rfl | exact rbA e | exact rbB e | exact rbC e | exact rbD e | exact rbE e | (rw [e]; simp; done) | exact rbA c | exact rbB c | exact rbC c | exact rbD c | exact rbE c | (rw [c]; simp; done) | (rw [hte]; done))
   have h4 := (((a4.ch0 bj).ch bk (dS H T om)).ch bm (dS H T om)).ch dL (fun g hg hm => by have r := mSg.1 hm; exact a6 (by first | exact hg | exact r ▸ hg))
   have e9 : Ol ics 3 1 en (.slice z (lkL ((bpT ta a b).l) ((bpT tb ((bpT ta a b).L) ((bpT ta a b).F)).f) ((bpT tb ((bpT ta a b).L) ((bpT ta a b).F)).F)).length A) ((bpT t a b).F) := by
    have hx := h4
    exact hx.eq (by rw [eb] <;> first | rfl | exact rbA e | exact rbB e | exact rbC e | exact rbD e | exact rbE e | (rw [e]; simp; done) | exact rbA c | exact rbB c | exact rbC c | exact rbD c | exact rbE c | (rw [c]; simp; done) | (rw [hte]; done))
   have fa : Blk en b_p t_p [(.slice x (((bpT tb ((bpT ta a b).L) ((bpT ta a b).F)).L)).length y), .int .i64 bu, .int .i64 bv, (.slice z (lkL ((bpT ta a b).l) ((bpT tb ((bpT ta a b).L) ((bpT ta a b).F)).f) ((bpT tb ((bpT ta a b).L) ((bpT ta a b).F)).F)).length A), .bool bw] := by
    have hx := h2
    exact hx
   exact Zi [_] (Zt cH rfl agg91 sz91 trivial) ⟨(.slice x (((bpT tb ((bpT ta a b).L) ((bpT ta a b).F)).L)).length y), (.slice z (lkL ((bpT ta a b).l) ((bpT tb ((bpT ta a b).L) ((bpT ta a b).F)).f) ((bpT tb ((bpT ta a b).L) ((bpT ta a b).F)).F)).length A), (((congrArg (fun zq => (Value.agg #[.bool zq, .int .i64 (ior ((bpT ta a b).f) ((bpT tb ((bpT ta a b).L) ((bpT ta a b).F)).f)), .int .i64 ((bpT tb ((bpT ta a b).L) ((bpT ta a b).F)).l)])) (by rw [eb] <;> first | rfl | exact rbA e | exact rbB e | exact rbC e | exact rbD e | exact rbE e | (rw [e]; simp; done) | exact rbA c | exact rbB c | exact rbC c | exact rbD c | exact rbE c | (rw [c]; simp; done) | (rw [hte]; done))).trans (congrArg (fun zq => (Value.agg #[.bool ((bpT t a b).n), .int .i64 zq, .int .i64 ((bpT tb ((bpT ta a b).L) ((bpT ta a b).F)).l)])) (by rw [eb] <;> first | rfl | exact rbA e | exact rbB e | exact rbC e | exact rbD e | exact rbE e | (rw [e]; simp; done) | exact rbA c | exact rbB c | exact rbC c | exact rbD c | exact rbE c | (rw [c]; simp; done) | (rw [hte]; done)))).trans (congrArg (fun zq => (Value.agg #[.bool ((bpT t a b).n), .int .i64 ((bpT t a b).f), .int .i64 zq])) (by rw [eb] <;> first | rfl | exact rbA e | exact rbB e | exact rbC e | exact rbD e | exact rbE e | (rw [e]; simp; done) | exact rbA c | exact rbB c | exact rbC c | exact rbD c | exact rbE c | (rw [c]; simp; done) | (rw [hte]; done)))), fa, e8, b3, s, e9, b4, u, D, E⟩
  have dI := e
  refine Zj rfl rfl (Zj rfl rfl (Za rfl rfl (Yb rfl rfl) (Za rfl rfl (Zh fa91_1 rfl) (Za rfl rfl (Zk dH.at_ agg3 rfl rfl) (Za rfl rfl (Zh fa91_2 rfl) ?_)))))
  have gm := bI.ch b2 (Xd om (Yl a1 om) (Yl a2 om))
  refine Za rfl rfl (Zk gm.at_ agg3 rfl rfl) (Za rfl rfl (Yn (parts := [(0, .tmp 87), (1, .tmp 89), (2, .tmp 91)]) (cells := [(.bool false), (.int .i64 ((bpT ta a b).f)), (.int .i64 ((bpT tb ((bpT ta a b).L) ((bpT ta a b).F)).l))]) zr91 pl91 rfl rfl) (Zm rfl rfl ?_))
  refine Yh zr91 fun cj h5 b5 bn hM => ?_
  have jP := bn.size
  have E := E.trans bn.of_nil
  have hN := b5.lt
  replace b5 : Blk h5 cj 91 [(.bool false), (.int .i64 0), (.int .i64 0)] := b5
  refine Zm rfl rfl ?_
  refine Zn (off := 0) 3 b5 sz91 rfl (us := [(.bool false), (.int .i64 ((bpT ta a b).f)), (.int .i64 ((bpT tb ((bpT ta a b).L) ((bpT ta a b).F)).l))]) rfl rfl rfl rfl fun h6 b7 bp => ?_
  have jQ := bp.size
  have E := E.step bp (Xa om)
  replace b7 : Blk h6 cj 91 [(.bool false), (.int .i64 ((bpT ta a b).f)), (.int .i64 ((bpT tb ((bpT ta a b).L) ((bpT ta a b).F)).l))] := b7
  refine Ze (Zb (gh _ _ ?_))
  refine Zg fun mm h7 => ?_
  refine Zg fun mo h8 => ?_
  refine Zc (Za rfl rfl (Zh fa91_0 rfl) ?_)
  have gn := (dH.ch0 bn).ch bp (ne1 om)
  refine Za rfl rfl (Zk gn.at_ agg4 rfl rfl) (Ze (Zb (h8 _ _ ?_)))
  refine Znf rfl dI ?_
  refine Zu ?_
  refine Zb (h7 _ _ ?_)
  refine Zg fun mp gp => ?_
  refine Zg fun mq h9 => ?_
  refine Zc (Za rfl rfl (Zh fa91_0 rfl) ?_)
  have gq := (gm.ch0 bn).ch bp (ne1 om)
  refine Za rfl rfl (Zk gq.at_ agg4 rfl rfl) (Ze (Zb (h9 _ _ ?_)))
  refine Zp rfl (fun c => ?_) (fun c => ?_)
  ·have gr := c
   refine Zc (Za rfl rfl (Zh fa91_2 rfl) (Za rfl rfl (Zk gn.at_ agg3 rfl rfl) (Za rfl rfl (Zh fa91_2 rfl) (Za rfl rfl (Zk gq.at_ agg3 rfl rfl) (Za rfl rfl (r_or rfl rfl) (Za rfl rfl (Zh fa91_2 rfl) (Zm rfl rfl ?_)))))))
   refine Xm (off := 2) b7 sz3 rfl rfl rfl rfl fun ia cI de => ?_
   have jR := de.size
   have E := E.step de (Xa om)
   replace cI : Blk ia cj 91 [(.bool false), (.int .i64 ((bpT ta a b).f)), (.int .i64 (ior ((bpT ta a b).l) ((bpT tb ((bpT ta a b).L) ((bpT ta a b).F)).l)))] := cI
   refine Ze (Zb (gp _ _ ?_))
   refine Zg fun mr ib => ?_
   refine Zc (Za rfl rfl (Zy cI.at_ agg91 sz91 rfl) (Zm rfl rfl ?_))
   have ic := ((((((((((((cQ.ch0 C6).ch C7 (ne1 om)).ch0 d7).ch eZ (Xd om (Yl o om) (Yl p om))).ch0 d8).ch d9 (ne1 om)).ch e2 (Xd om ae af)).ch0 ec).ch ed (ne1 om)).ch b2 (Xd om ak al)).ch0 bn).ch bp (ne1 om)).ch de (ne1 om)
   refine Zn (off := 0) 3 ic sz91 rfl (us := [(.bool false), (.int .i64 ((bpT ta a b).f)), (.int .i64 (ior ((bpT ta a b).l) ((bpT tb ((bpT ta a b).L) ((bpT ta a b).F)).l)))]) rfl rfl rfl rfl fun eo cJ dM => ?_
   have jS := dM.size
   have E := E.step dM (Xa om)
   replace cJ : Blk eo aW 91 [(.bool false), (.int .i64 ((bpT ta a b).f)), (.int .i64 (ior ((bpT ta a b).l) ((bpT tb ((bpT ta a b).L) ((bpT ta a b).F)).l)))] := cJ
   refine Ze (Zb (ib _ _ ?_))
   refine Zq (Yd (Zo ?_))
   have ie := (((dc.ch0 bn).ch bp (ne1 om)).ch de (ne1 om)).ch dM (ne1 om)
   have ig := (((a3.ch0 bn).ch bp (dS G S om)).ch de (dS G S om)).ch dM (fun g hg hm => by have r := mSg.1 hm; exact a5 (by first | exact hg | exact r ▸ hg))
   have fb : Ol ics 3 1 eo (.slice x (((bpT tb ((bpT ta a b).L) ((bpT ta a b).F)).L)).length y) ((bpT t a b).L) := by
    have hx := ig
    exact hx.eq (by rw [eb] <;> first | rfl | exact rbA e | exact rbB e | exact rbC e | exact rbD e | exact rbE e | (rw [e]; simp; done) | exact rbA c | exact rbB c | exact rbC c | exact rbD c | exact rbE c | (rw [c]; simp; done) | (rw [hte]; done))
   have ii := (((a4.ch0 bn).ch bp (dS H T om)).ch de (dS H T om)).ch dM (fun g hg hm => by have r := mSg.1 hm; exact a6 (by first | exact hg | exact r ▸ hg))
   have fc : Ol ics 3 1 eo (.slice z (lkL ((bpT ta a b).l) ((bpT tb ((bpT ta a b).L) ((bpT ta a b).F)).f) ((bpT tb ((bpT ta a b).L) ((bpT ta a b).F)).F)).length A) ((bpT t a b).F) := by
    have hx := ii
    exact hx.eq (by rw [eb] <;> first | rfl | exact rbA e | exact rbB e | exact rbC e | exact rbD e | exact rbE e | (rw [e]; simp; done) | exact rbA c | exact rbB c | exact rbC c | exact rbD c | exact rbE c | (rw [c]; simp; done) | (rw [hte]; done))
   have fd : Blk eo b_p t_p [(.slice x (((bpT tb ((bpT ta a b).L) ((bpT ta a b).F)).L)).length y), .int .i64 bu, .int .i64 bv, (.slice z (lkL ((bpT ta a b).l) ((bpT tb ((bpT ta a b).L) ((bpT ta a b).F)).f) ((bpT tb ((bpT ta a b).L) ((bpT ta a b).F)).F)).length A), .bool bw] := by
    have hx := ie
    exact hx
   exact Zi [_] (Zt cJ rfl agg91 sz91 trivial) ⟨(.slice x (((bpT tb ((bpT ta a b).L) ((bpT ta a b).F)).L)).length y), (.slice z (lkL ((bpT ta a b).l) ((bpT tb ((bpT ta a b).L) ((bpT ta a b).F)).f) ((bpT tb ((bpT ta a b).L) ((bpT ta a b).F)).F)).length A), (((congrArg (fun zq => (Value.agg #[.bool zq, .int .i64 ((bpT ta a b).f), .int .i64 (ior ((bpT ta a b).l) ((bpT tb ((bpT ta a b).L) ((bpT ta a b).F)).l))])) (by rw [eb] <;> first | rfl | exact rbA e | exact rbB e | exact rbC e | exact rbD e | exact rbE e | (rw [e]; simp; done) | exact rbA c | exact rbB c | exact rbC c | exact rbD c | exact rbE c | (rw [c]; simp; done) | (rw [hte]; done))).trans (congrArg (fun zq => (Value.agg #[.bool ((bpT t a b).n), .int .i64 zq, .int .i64 (ior ((bpT ta a b).l) ((bpT tb ((bpT ta a b).L) ((bpT ta a b).F)).l))])) (by rw [eb] <;> first | rfl | exact rbA e | exact rbB e | exact rbC e | exact rbD e | exact rbE e | (rw [e]; simp; done) | exact rbA c | exact rbB c | exact rbC c | exact rbD c | exact rbE c | (rw [c]; simp; done) | (rw [hte]; done)))).trans (congrArg (fun zq => (Value.agg #[.bool ((bpT t a b).n), .int .i64 ((bpT t a b).f), .int .i64 zq])) (by rw [eb] <;> first | rfl | exact rbA e | exact rbB e | exact rbC e | exact rbD e | exact rbE e | (rw [e]; simp; done) | exact rbA c | exact rbB c | exact rbC c | exact rbD c | exact rbE c | (rw [c]; simp; done) | (rw [hte]; done)))), fd, fb, b3, s, fc, b4, u, D, E⟩
  have gr := c
  refine Zu ?_
  refine Zb (gp _ _ ?_)
  refine Zg fun ms ij => ?_
  refine Zc (Za rfl rfl (Zy b7.at_ agg91 sz91 rfl) (Zm rfl rfl ?_))
  have ik := (((((((((((cQ.ch0 C6).ch C7 (ne1 om)).ch0 d7).ch eZ (Xd om (Yl o om) (Yl p om))).ch0 d8).ch d9 (ne1 om)).ch e2 (Xd om ae af)).ch0 ec).ch ed (ne1 om)).ch b2 (Xd om ak al)).ch0 bn).ch bp (ne1 om)
  refine Zn (off := 0) 3 ik sz91 rfl (us := [(.bool false), (.int .i64 ((bpT ta a b).f)), (.int .i64 ((bpT tb ((bpT ta a b).L) ((bpT ta a b).F)).l))]) rfl rfl rfl rfl fun ep cK dN => ?_
  have jT := dN.size
  have E := E.step dN (Xa om)
  replace cK : Blk ep aW 91 [(.bool false), (.int .i64 ((bpT ta a b).f)), (.int .i64 ((bpT tb ((bpT ta a b).L) ((bpT ta a b).F)).l))] := cK
  refine Ze (Zb (ij _ _ ?_))
  refine Zq (Yd (Zo ?_))
  have il := ((dc.ch0 bn).ch bp (ne1 om)).ch dN (ne1 om)
  have im := ((a3.ch0 bn).ch bp (dS G S om)).ch dN (fun g hg hm => by have r := mSg.1 hm; exact a5 (by first | exact hg | exact r ▸ hg))
  have fe : Ol ics 3 1 ep (.slice x (((bpT tb ((bpT ta a b).L) ((bpT ta a b).F)).L)).length y) ((bpT t a b).L) := by
   have hx := im
   exact hx.eq (by rw [eb] <;> first | rfl | exact rbA e | exact rbB e | exact rbC e | exact rbD e | exact rbE e | (rw [e]; simp; done) | exact rbA c | exact rbB c | exact rbC c | exact rbD c | exact rbE c | (rw [c]; simp; done) | (rw [hte]; done))
  have io := ((a4.ch0 bn).ch bp (dS H T om)).ch dN (fun g hg hm => by have r := mSg.1 hm; exact a6 (by first | exact hg | exact r ▸ hg))
  have ff : Ol ics 3 1 ep (.slice z (lkL ((bpT ta a b).l) ((bpT tb ((bpT ta a b).L) ((bpT ta a b).F)).f) ((bpT tb ((bpT ta a b).L) ((bpT ta a b).F)).F)).length A) ((bpT t a b).F) := by
   have hx := io
   exact hx.eq (by rw [eb] <;> first | rfl | exact rbA e | exact rbB e | exact rbC e | exact rbD e | exact rbE e | (rw [e]; simp; done) | exact rbA c | exact rbB c | exact rbC c | exact rbD c | exact rbE c | (rw [c]; simp; done) | (rw [hte]; done))
  have fg : Blk ep b_p t_p [(.slice x (((bpT tb ((bpT ta a b).L) ((bpT ta a b).F)).L)).length y), .int .i64 bu, .int .i64 bv, (.slice z (lkL ((bpT ta a b).l) ((bpT tb ((bpT ta a b).L) ((bpT ta a b).F)).f) ((bpT tb ((bpT ta a b).L) ((bpT ta a b).F)).F)).length A), .bool bw] := by
   have hx := il
   exact hx
  exact Zi [_] (Zt cK rfl agg91 sz91 trivial) ⟨(.slice x (((bpT tb ((bpT ta a b).L) ((bpT ta a b).F)).L)).length y), (.slice z (lkL ((bpT ta a b).l) ((bpT tb ((bpT ta a b).L) ((bpT ta a b).F)).f) ((bpT tb ((bpT ta a b).L) ((bpT ta a b).F)).F)).length A), (((congrArg (fun zq => (Value.agg #[.bool zq, .int .i64 ((bpT ta a b).f), .int .i64 ((bpT tb ((bpT ta a b).L) ((bpT ta a b).F)).l)])) (by rw [eb] <;> first | rfl | exact rbA e | exact rbB e | exact rbC e | exact rbD e | exact rbE e | (rw [e]; simp; done) | exact rbA c | exact rbB c | exact rbC c | exact rbD c | exact rbE c | (rw [c]; simp; done) | (rw [hte]; done))).trans (congrArg (fun zq => (Value.agg #[.bool ((bpT t a b).n), .int .i64 zq, .int .i64 ((bpT tb ((bpT ta a b).L) ((bpT ta a b).F)).l)])) (by rw [eb] <;> first | rfl | exact rbA e | exact rbB e | exact rbC e | exact rbD e | exact rbE e | (rw [e]; simp; done) | exact rbA c | exact rbB c | exact rbC c | exact rbD c | exact rbE c | (rw [c]; simp; done) | (rw [hte]; done)))).trans (congrArg (fun zq => (Value.agg #[.bool ((bpT t a b).n), .int .i64 ((bpT t a b).f), .int .i64 zq])) (by rw [eb] <;> first | rfl | exact rbA e | exact rbB e | exact rbC e | exact rbD e | exact rbE e | (rw [e]; simp; done) | exact rbA c | exact rbB c | exact rbC c | exact rbD c | exact rbE c | (rw [c]; simp; done) | (rw [hte]; done)))), fg, fe, b3, s, ff, b4, u, D, E⟩
 have hj := cz
 have cz := Yj cz
 refine Zg fun mt ip => ?_
 refine Zc (Za rfl rfl (Yy rfl rfl) (Za rfl rfl (Zf rfl) (Ze (Zb (ip _ _ ?_)))))
 refine Zp rfl (fun bJ => ?_) (fun bJ => ?_)
 ·have gs := bJ
  have bJ := Yi bJ
  obtain ⟨ta, tb, et, oa, ob, hla, jz⟩ := hok.k2 om eO hl
  have dx : t.kids[0]? = some ta := by rw [et]; rfl
  have eV : t.kids[1]? = some tb := by rw [et]; rfl
  have ga := ta.flat_len
  have gb := tb.flat_len
  have za := Zbq ta a b
  have zb := Zbq tb (bpT ta a b).L (bpT ta a b).F
  have eb := bp5 (L := a) (F := b) hok om dx eV
  refine Zg fun mu iq => ?_
  refine Zc (Za rfl rfl (Zd rfl) (Za rfl rfl (Zd rfl) (Zm rfl rfl ?_)))
  have gt := (F5.ch0 C6).ch C7 (Qm om)
  refine (Zgo (ys := (ta.flat ++ tb.flat)) 0 ((((l.length : Nat) : Int) - 1).toNat) gt Token.len el42 sz84 rfl rfl ⟨_, _, rfl, by omega⟩ om om (show l.take _ = _ from Ziv hla om) fun jU dP ir it => ?_)
  obtain ⟨jV, jW, gu⟩ := dP.val
  subst gu
  have jX := dP.len
  refine Zm rfl rfl ?_
  refine Step.call (Zl (xs := [.tmp 114]) fk106 rfl) (Zan dP ta.flat tb ob rfl) fun jY mv gv => ?_
  obtain ⟨rfl, ck⟩ := gv
  have jZ := ck.size
  have E := E.trans ck.of_nil
  refine Za rfl rfl (Zf rfl) (Ze (Zb (iq _ _ ?_)))
  refine Zg fun mw iu => ?_
  refine Zc (Za rfl rfl (Zd rfl) (Za rfl rfl (Zd rfl) (Za rfl rfl (Zd rfl) (Zm rfl rfl ?_))))
  have gw := gt.ch0 ck
  refine (Zgo (ys := ta.flat) 0 ta.flat.length gw Token.len el42 sz84 rfl rfl ⟨_, _, rfl, by omega⟩ om om (show l.take _ = _ from Zny hla om) fun j0 dQ iv iw => ?_)
  obtain ⟨j1, j2, gx⟩ := dQ.val
  subst gx
  have j3 := dQ.len
  refine Zm rfl rfl ?_
  have ix := (((m_p.ch0 C2).ch0 C6).ch C7 (ne1 om)).ch0 ck
  have iy := (((aU.ch0 C2).ch0 C6).ch C7 (dS k o om)).ch0 ck
  have iz := (((aV.ch0 C2).ch0 C6).ch C7 (dS m p om)).ch0 ck
  refine Step.call (Zl (xs := [.tmp 116, .tmp 119]) fk67 rfl) (ih ix om iy I (Lo.down k om) iz Z (Lo.down m om) q dQ ta oa rfl om ⟨by omega, by omega⟩ (L_p := L_p) om) fun j4 iA gy => ?_
  obtain ⟨gS, gT, rfl, dR, cl, aK, ao, cm, aL, ap, bq, dU⟩ := gy
  have j5 := dU.size
  have E := E.step dU (fun i hm => by rcases List.mem_cons.1 hm with r | hm; (right; exact r ▸ List.mem_cons_self ..); (rcases List.mem_append.1 hm with hm | hm; (exact (.inr (mCo _ (mAL _ hm)))); (exact (.inr (mCo _ (mAR _ hm))))))
  obtain ⟨c0, c1, rfl, gU, a7⟩ := cl.opn
  have J : Lo L_p (.slice c0 ((bpT ta a b).L).length c1) := Yz aK ao om (Ys k m)
  obtain ⟨c2, c3, rfl, gV, a8⟩ := cm.opn
  have K : Lo L_p (.slice c2 ((bpT ta a b).F).length c3) := Yz aL ap om (Ys k m)
  have aM := Zv aK ao (show aW < _ by omega) (Yk (Zs k o om) (Zs m p om))
  have bS := Zv aK ao (show cw < _ by omega) (Yk (Zs k o om) (Zs m p om))
  have b8 := Yt E aK ao om (Ys (fun g hm => (.inr (mCo _ (mAL _ hm)))) (fun g hm => (.inr (mCo _ (mAR _ hm)))))
  have aN := Zv aL ap (show aW < _ by omega) (Yk (Zs k o om) (Zs m p om))
  have bT := Zv aL ap (show cw < _ by omega) (Yk (Zs k o om) (Zs m p om))
  have b9 := Yt E aL ap om (Ys (fun g hm => (.inr (mCo _ (mAL _ hm)))) (fun g hm => (.inr (mCo _ (mAR _ hm)))))
  replace dR : Blk iA b_p t_p [(.slice c0 ((bpT ta a b).L).length c1), (.int .i64 bu), (.int .i64 bv), (.slice c2 ((bpT ta a b).F).length c3), (.bool bw)] := dR
  refine Zm rfl rfl ?_
  refine Yh zr91 fun er iB es cn mx => ?_
  have j6 := cn.size
  have E := E.trans cn.of_nil
  have my := es.lt
  replace es : Blk iB er 91 [(.bool false), (.int .i64 0), (.int .i64 0)] := es
  refine Zm rfl rfl ?_
  refine Zn (off := 0) 3 es sz91 rfl (us := [(.bool ((bpT ta a b).n)), (.int .i64 ((bpT ta a b).f)), (.int .i64 ((bpT ta a b).l))]) rfl rfl rfl rfl fun iC cL co => ?_
  have j7 := co.size
  have E := E.step co (Xa om)
  replace cL : Blk iC er 91 [(.bool ((bpT ta a b).n)), (.int .i64 ((bpT ta a b).f)), (.int .i64 ((bpT ta a b).l))] := cL
  refine Ze (Zb (iu _ _ ?_))
  refine Zg fun mz iD => ?_
  refine Zc (Za rfl rfl (Zd rfl) (Za rfl rfl (Zd rfl) (Za rfl rfl (Zd rfl) (Za rfl rfl (Zd rfl) (Zm rfl rfl ?_)))))
  have iE := ((gw.ch dU (Qb om k om m om)).ch0 cn).ch co (Qm om)
  refine (Zgo (ys := tb.flat) ta.flat.length ((((l.length : Nat) : Int) - 1).toNat) iE Token.len el42 sz84 rfl ⟨_, _, rfl, by omega⟩ ⟨_, _, rfl, by omega⟩ om om (Znu hla om om) fun j8 dW iF iG => ?_)
  obtain ⟨j9, ka, gz⟩ := dW.val
  subst gz
  have kb := dW.len
  refine Zm rfl rfl ?_
  have iH := (dR.ch0 cn).ch co (ne1 om)
  have iI := (cl.ch0 cn).ch co (dS J a7 om)
  have iJ := (cm.ch0 cn).ch co (dS K a8 om)
  refine Step.call (Zl (xs := [.tmp 121, .tmp 125]) fk67 rfl) (ih iH om iI ao (Lo.down J om) iJ ap (Lo.down K om) bq dW tb ob rfl om ⟨by omega, by omega⟩ (L_p := L_p) om) fun kc iK gA => ?_
  obtain ⟨gW, gX, rfl, c4, bK, aq, B, bL, au, C, aD, dX⟩ := gA
  have kd := dX.size
  have E := E.step dX (fun i hm => by rcases List.mem_cons.1 hm with r | hm; (right; exact r ▸ List.mem_cons_self ..); (rcases List.mem_append.1 hm with hm | hm; (exact (b8 _ hm)); (exact (b9 _ hm))))
  obtain ⟨U, V, rfl, gY, cp⟩ := bK.opn
  have bU : Lo L_p (.slice U ((bpT tb ((bpT ta a b).L) ((bpT ta a b).F)).L).length V) := Yz aq B om (Ys J K)
  obtain ⟨X, Y, rfl, gZ, cq⟩ := bL.opn
  have bV : Lo L_p (.slice X ((bpT tb ((bpT ta a b).L) ((bpT ta a b).F)).F).length Y) := Yz au C om (Ys J K)
  have bW := Zv aq B (show aW < _ by omega) (Yk aM aN)
  have fC := Zv aq B (show cw < _ by omega) (Yk bS bT)
  have fh := Zv aq B (show er < _ by omega) (Yk (Zs J a7 om) (Zs K a8 om))
  have c5 := Yt E aq B om (Ys (fun g hm => (b8 _ hm)) (fun g hm => (b9 _ hm)))
  have bX := Zv au C (show aW < _ by omega) (Yk aM aN)
  have fD := Zv au C (show cw < _ by omega) (Yk bS bT)
  have fi := Zv au C (show er < _ by omega) (Yk (Zs J a7 om) (Zs K a8 om))
  have c6 := Yt E au C om (Ys (fun g hm => (b8 _ hm)) (fun g hm => (b9 _ hm)))
  replace c4 : Blk iK b_p t_p [(.slice U ((bpT tb ((bpT ta a b).L) ((bpT ta a b).F)).L).length V), (.int .i64 bu), (.int .i64 bv), (.slice X ((bpT tb ((bpT ta a b).L) ((bpT ta a b).F)).F).length Y), (.bool bw)] := c4
  refine Zm rfl rfl ?_
  refine Yh zr91 fun gB iL eu bM mA => ?_
  have ke := bM.size
  have E := E.trans bM.of_nil
  have mB := eu.lt
  replace eu : Blk iL gB 91 [(.bool false), (.int .i64 0), (.int .i64 0)] := eu
  refine Zm rfl rfl ?_
  refine Zn (off := 0) 3 eu sz91 rfl (us := [(.bool ((bpT tb ((bpT ta a b).L) ((bpT ta a b).F)).n)), (.int .i64 ((bpT tb ((bpT ta a b).L) ((bpT ta a b).F)).f)), (.int .i64 ((bpT tb ((bpT ta a b).L) ((bpT ta a b).F)).l))]) rfl rfl rfl rfl fun iM aR bN => ?_
  have kf := bN.size
  have E := E.step bN (Xa om)
  replace aR : Blk iM gB 91 [(.bool ((bpT tb ((bpT ta a b).L) ((bpT ta a b).F)).n)), (.int .i64 ((bpT tb ((bpT ta a b).L) ((bpT ta a b).F)).f)), (.int .i64 ((bpT tb ((bpT ta a b).L) ((bpT ta a b).F)).l))] := aR
  refine Ze (Zb (iD _ _ ?_))
  refine Zg fun mC gC => ?_
  refine Zc (Za rfl rfl (Zh fa91_0 rfl) ?_)
  have dY := ((cL.ch dX (Xd om (Yl a7 om) (Yl a8 om))).ch0 bM).ch bN (ne1 om)
  refine Za rfl rfl (Zk dY.at_ agg4 rfl rfl) (Za rfl rfl (Zd rfl) ?_)
  refine Yp (d := 129) rfl (fun h => ?_) (fun h => ?_)
  ·have gD := h
   refine Zj rfl rfl (Zj rfl rfl (Za rfl rfl (Ya rfl rfl) (Za rfl rfl (Zh fa91_1 rfl) (Za rfl rfl (Zk dY.at_ agg3 rfl rfl) (Za rfl rfl (Zh fa91_1 rfl) (Za rfl rfl (Zk aR.at_ agg3 rfl rfl) (Za rfl rfl (r_or rfl rfl) ?_)))))))
   refine Za rfl rfl (Zh fa91_2 rfl) (Za rfl rfl (Zk dY.at_ agg3 rfl rfl) (Za rfl rfl (Zh fa91_2 rfl) (Za rfl rfl (Zk aR.at_ agg3 rfl rfl) (Za rfl rfl (r_or rfl rfl) (Za rfl rfl (Yn (parts := [(0, .tmp 132), (1, .tmp 137), (2, .tmp 142)]) (cells := [(.bool true), (.int .i64 (ior ((bpT ta a b).f) ((bpT tb ((bpT ta a b).L) ((bpT ta a b).F)).f))), (.int .i64 (ior ((bpT ta a b).l) ((bpT tb ((bpT ta a b).L) ((bpT ta a b).F)).l)))]) zr91 pl91 rfl rfl) (Zm rfl rfl ?_))))))
   have iN := ((((((((cQ.ch0 C6).ch C7 (ne1 om)).ch0 ck).ch dU (Xd om (Yl o om) (Yl p om))).ch0 cn).ch co (ne1 om)).ch dX (Xd om aM aN)).ch0 bM).ch bN (ne1 om)
   refine Zn (off := 0) 3 iN sz91 rfl (us := [(.bool true), (.int .i64 (ior ((bpT ta a b).f) ((bpT tb ((bpT ta a b).L) ((bpT ta a b).F)).f))), (.int .i64 (ior ((bpT ta a b).l) ((bpT tb ((bpT ta a b).L) ((bpT ta a b).F)).l)))]) rfl rfl rfl rfl fun ew cM dZ => ?_
   have kg := dZ.size
   have E := E.step dZ (Xa om)
   replace cM : Blk ew aW 91 [(.bool true), (.int .i64 (ior ((bpT ta a b).f) ((bpT tb ((bpT ta a b).L) ((bpT ta a b).F)).f))), (.int .i64 (ior ((bpT ta a b).l) ((bpT tb ((bpT ta a b).L) ((bpT ta a b).F)).l)))] := cM
   refine Ze (Zb (gC _ _ ?_))
   refine Zq (Yd (Zo ?_))
   have iO := ((c4.ch0 bM).ch bN (ne1 om)).ch dZ (ne1 om)
   have iP := ((bK.ch0 bM).ch bN (dS bU cp om)).ch dZ (fun g hg hm => by have r := mSg.1 hm; exact bW (by first | exact hg | exact r ▸ hg))
   have fj : Ol ics 3 1 ew (.slice U ((bpT tb ((bpT ta a b).L) ((bpT ta a b).F)).L).length V) ((bpT t a b).L) := by
    have hx := iP
    exact hx.eq (by rw [eb] <;> first | rfl | exact rbA h | exact rbB h | exact rbC h | exact rbD h | exact rbE h | (rw [h]; simp; done) | (rw [hte]; done))
   have iQ := ((bL.ch0 bM).ch bN (dS bV cq om)).ch dZ (fun g hg hm => by have r := mSg.1 hm; exact bX (by first | exact hg | exact r ▸ hg))
   have fk : Ol ics 3 1 ew (.slice X ((bpT tb ((bpT ta a b).L) ((bpT ta a b).F)).F).length Y) ((bpT t a b).F) := by
    have hx := iQ
    exact hx.eq (by rw [eb] <;> first | rfl | exact rbA h | exact rbB h | exact rbC h | exact rbD h | exact rbE h | (rw [h]; simp; done) | (rw [hte]; done))
   have fl : Blk ew b_p t_p [(.slice U ((bpT tb ((bpT ta a b).L) ((bpT ta a b).F)).L).length V), .int .i64 bu, .int .i64 bv, (.slice X ((bpT tb ((bpT ta a b).L) ((bpT ta a b).F)).F).length Y), .bool bw] := by
    have hx := iO
    exact hx
   exact Zi [_] (Zt cM rfl agg91 sz91 trivial) ⟨(.slice U ((bpT tb ((bpT ta a b).L) ((bpT ta a b).F)).L).length V), (.slice X ((bpT tb ((bpT ta a b).L) ((bpT ta a b).F)).F).length Y), (((congrArg (fun zq => (Value.agg #[.bool zq, .int .i64 (ior ((bpT ta a b).f) ((bpT tb ((bpT ta a b).L) ((bpT ta a b).F)).f)), .int .i64 (ior ((bpT ta a b).l) ((bpT tb ((bpT ta a b).L) ((bpT ta a b).F)).l))])) (by rw [eb] <;> first | rfl | exact rbA h | exact rbB h | exact rbC h | exact rbD h | exact rbE h | (rw [h]; simp; done) | (rw [hte]; done))).trans (congrArg (fun zq => (Value.agg #[.bool ((bpT t a b).n), .int .i64 zq, .int .i64 (ior ((bpT ta a b).l) ((bpT tb ((bpT ta a b).L) ((bpT ta a b).F)).l))])) (by rw [eb] <;> first | rfl | exact rbA h | exact rbB h | exact rbC h | exact rbD h | exact rbE h | (rw [h]; simp; done) | (rw [hte]; done)))).trans (congrArg (fun zq => (Value.agg #[.bool ((bpT t a b).n), .int .i64 ((bpT t a b).f), .int .i64 zq])) (by rw [eb] <;> first | rfl | exact rbA h | exact rbB h | exact rbC h | exact rbD h | exact rbE h | (rw [h]; simp; done) | (rw [hte]; done)))), fl, fj, c5, B, fk, c6, C, aD, E⟩
  have gD := h
  refine Za rfl rfl (Zh fa91_0 rfl) (Za rfl rfl (Zk aR.at_ agg4 rfl rfl) (Za rfl rfl (Yb rfl rfl) (Za rfl rfl (Zh fa91_1 rfl) (Za rfl rfl (Zk dY.at_ agg3 rfl rfl) (Za rfl rfl (Zh fa91_1 rfl) (Za rfl rfl (Zk aR.at_ agg3 rfl rfl) (Za rfl rfl (r_or rfl rfl) ?_)))))))
  refine Za rfl rfl (Zh fa91_2 rfl) (Za rfl rfl (Zk dY.at_ agg3 rfl rfl) (Za rfl rfl (Zh fa91_2 rfl) (Za rfl rfl (Zk aR.at_ agg3 rfl rfl) (Za rfl rfl (r_or rfl rfl) (Za rfl rfl (Yn (parts := [(0, .tmp 132), (1, .tmp 137), (2, .tmp 142)]) (cells := [(.bool ((bpT tb ((bpT ta a b).L) ((bpT ta a b).F)).n)), (.int .i64 (ior ((bpT ta a b).f) ((bpT tb ((bpT ta a b).L) ((bpT ta a b).F)).f))), (.int .i64 (ior ((bpT ta a b).l) ((bpT tb ((bpT ta a b).L) ((bpT ta a b).F)).l)))]) zr91 pl91 rfl rfl) (Zm rfl rfl ?_))))))
  have iR := ((((((((cQ.ch0 C6).ch C7 (ne1 om)).ch0 ck).ch dU (Xd om (Yl o om) (Yl p om))).ch0 cn).ch co (ne1 om)).ch dX (Xd om aM aN)).ch0 bM).ch bN (ne1 om)
  refine Zn (off := 0) 3 iR sz91 rfl (us := [(.bool ((bpT tb ((bpT ta a b).L) ((bpT ta a b).F)).n)), (.int .i64 (ior ((bpT ta a b).f) ((bpT tb ((bpT ta a b).L) ((bpT ta a b).F)).f))), (.int .i64 (ior ((bpT ta a b).l) ((bpT tb ((bpT ta a b).L) ((bpT ta a b).F)).l)))]) rfl rfl rfl rfl fun ex cN d0 => ?_
  have kh := d0.size
  have E := E.step d0 (Xa om)
  replace cN : Blk ex aW 91 [(.bool ((bpT tb ((bpT ta a b).L) ((bpT ta a b).F)).n)), (.int .i64 (ior ((bpT ta a b).f) ((bpT tb ((bpT ta a b).L) ((bpT ta a b).F)).f))), (.int .i64 (ior ((bpT ta a b).l) ((bpT tb ((bpT ta a b).L) ((bpT ta a b).F)).l)))] := cN
  refine Ze (Zb (gC _ _ ?_))
  refine Zq (Yd (Zo ?_))
  have iS := ((c4.ch0 bM).ch bN (ne1 om)).ch d0 (ne1 om)
  have iT := ((bK.ch0 bM).ch bN (dS bU cp om)).ch d0 (fun g hg hm => by have r := mSg.1 hm; exact bW (by first | exact hg | exact r ▸ hg))
  have fm : Ol ics 3 1 ex (.slice U ((bpT tb ((bpT ta a b).L) ((bpT ta a b).F)).L).length V) ((bpT t a b).L) := by
   have hx := iT
   exact hx.eq (by rw [eb] <;> first | rfl | exact rbA h | exact rbB h | exact rbC h | exact rbD h | exact rbE h | (rw [h]; simp; done) | (rw [hte]; done))
  have iU := ((bL.ch0 bM).ch bN (dS bV cq om)).ch d0 (fun g hg hm => by have r := mSg.1 hm; exact bX (by first | exact hg | exact r ▸ hg))
  have fn : Ol ics 3 1 ex (.slice X ((bpT tb ((bpT ta a b).L) ((bpT ta a b).F)).F).length Y) ((bpT t a b).F) := by
   have hx := iU
   exact hx.eq (by rw [eb] <;> first | rfl | exact rbA h | exact rbB h | exact rbC h | exact rbD h | exact rbE h | (rw [h]; simp; done) | (rw [hte]; done))
  have fo : Blk ex b_p t_p [(.slice U ((bpT tb ((bpT ta a b).L) ((bpT ta a b).F)).L).length V), .int .i64 bu, .int .i64 bv, (.slice X ((bpT tb ((bpT ta a b).L) ((bpT ta a b).F)).F).length Y), .bool bw] := by
   have hx := iS
   exact hx
  exact Zi [_] (Zt cN rfl agg91 sz91 trivial) ⟨(.slice U ((bpT tb ((bpT ta a b).L) ((bpT ta a b).F)).L).length V), (.slice X ((bpT tb ((bpT ta a b).L) ((bpT ta a b).F)).F).length Y), (((congrArg (fun zq => (Value.agg #[.bool zq, .int .i64 (ior ((bpT ta a b).f) ((bpT tb ((bpT ta a b).L) ((bpT ta a b).F)).f)), .int .i64 (ior ((bpT ta a b).l) ((bpT tb ((bpT ta a b).L) ((bpT ta a b).F)).l))])) (by rw [eb] <;> first | rfl | exact rbA h | exact rbB h | exact rbC h | exact rbD h | exact rbE h | (rw [h]; simp; done) | (rw [hte]; done))).trans (congrArg (fun zq => (Value.agg #[.bool ((bpT t a b).n), .int .i64 zq, .int .i64 (ior ((bpT ta a b).l) ((bpT tb ((bpT ta a b).L) ((bpT ta a b).F)).l))])) (by rw [eb] <;> first | rfl | exact rbA h | exact rbB h | exact rbC h | exact rbD h | exact rbE h | (rw [h]; simp; done) | (rw [hte]; done)))).trans (congrArg (fun zq => (Value.agg #[.bool ((bpT t a b).n), .int .i64 ((bpT t a b).f), .int .i64 zq])) (by rw [eb] <;> first | rfl | exact rbA h | exact rbB h | exact rbC h | exact rbD h | exact rbE h | (rw [h]; simp; done) | (rw [hte]; done)))), fo, fm, c5, B, fn, c6, C, aD, E⟩
 have gs := bJ
 have bJ := Yj bJ
 refine Zg fun mD iV => ?_
 refine Zc (Za rfl rfl (Yy rfl rfl) (Za rfl rfl (Zf rfl) (Ze (Zb (iV _ _ ?_)))))
 refine Zp rfl (fun bO => ?_) (fun bO => ?_)
 ·have gE := bO
  have bO := Yi bO
  obtain ⟨ta, et, oa, hla, jz⟩ := hok.k1 om eO hl
  have dx : t.kids[0]? = some ta := by rw [et]; rfl
  have ga := ta.flat_len
  have za := Zbq ta a b
  have eb := bp6 (L := a) (F := b) hok om dx
  refine Zg fun mE iW => ?_
  refine Zc (Za rfl rfl (Zd rfl) (Za rfl rfl (Zd rfl) (Za rfl rfl (Zd rfl) (Zm rfl rfl ?_))))
  have iX := (F5.ch0 C6).ch C7 (Qm om)
  refine (Zgo (ys := ta.flat) 0 ((((l.length : Nat) : Int) - 1).toNat) iX Token.len el42 sz84 rfl rfl ⟨_, _, rfl, by omega⟩ om om (show l.take _ = _ from Zol hla om) fun ki d1 iY iZ => ?_)
  obtain ⟨kj, kk, gF⟩ := d1.val
  subst gF
  have kl := d1.len
  refine Zm rfl rfl ?_
  have i0 := ((m_p.ch0 C2).ch0 C6).ch C7 (ne1 om)
  have i1 := ((aU.ch0 C2).ch0 C6).ch C7 (dS k o om)
  have i2 := ((aV.ch0 C2).ch0 C6).ch C7 (dS m p om)
  refine Step.call (Zl (xs := [.tmp 146, .tmp 149]) fk67 rfl) (ih i0 om i1 I (Lo.down k om) i2 Z (Lo.down m om) q d1 ta oa rfl om ⟨by omega, by omega⟩ (L_p := L_p) om) fun km i3 gG => ?_
  obtain ⟨g0, g1, rfl, d2, cr, aO, av, ct, aP, aw, br, fp⟩ := gG
  have kn := fp.size
  have E := E.step fp (fun i hm => by rcases List.mem_cons.1 hm with r | hm; (right; exact r ▸ List.mem_cons_self ..); (rcases List.mem_append.1 hm with hm | hm; (exact (.inr (mCo _ (mAL _ hm)))); (exact (.inr (mCo _ (mAR _ hm))))))
  obtain ⟨c7, c8, rfl, g2, a9⟩ := cr.opn
  have M : Lo L_p (.slice c7 ((bpT ta a b).L).length c8) := Yz aO av om (Ys k m)
  obtain ⟨c9, da, rfl, g3, ba⟩ := ct.opn
  have O : Lo L_p (.slice c9 ((bpT ta a b).F).length da) := Yz aP aw om (Ys k m)
  have bh := Zv aO av (show aW < _ by omega) (Yk (Zs k o om) (Zs m p om))
  have bY := Zv aO av (show cw < _ by omega) (Yk (Zs k o om) (Zs m p om))
  have ca := Yt E aO av om (Ys (fun g hm => (.inr (mCo _ (mAL _ hm)))) (fun g hm => (.inr (mCo _ (mAR _ hm)))))
  have bi := Zv aP aw (show aW < _ by omega) (Yk (Zs k o om) (Zs m p om))
  have bZ := Zv aP aw (show cw < _ by omega) (Yk (Zs k o om) (Zs m p om))
  have cb := Yt E aP aw om (Ys (fun g hm => (.inr (mCo _ (mAL _ hm)))) (fun g hm => (.inr (mCo _ (mAR _ hm)))))
  replace d2 : Blk i3 b_p t_p [(.slice c7 ((bpT ta a b).L).length c8), (.int .i64 bu), (.int .i64 bv), (.slice c9 ((bpT ta a b).F).length da), (.bool bw)] := d2
  refine Zm rfl rfl ?_
  refine Yh zr91 fun ey i4 ez df mF => ?_
  have ko := df.size
  have E := E.trans df.of_nil
  have mG := ez.lt
  replace ez : Blk i4 ey 91 [(.bool false), (.int .i64 0), (.int .i64 0)] := ez
  refine Zm rfl rfl ?_
  refine Zn (off := 0) 3 ez sz91 rfl (us := [(.bool ((bpT ta a b).n)), (.int .i64 ((bpT ta a b).f)), (.int .i64 ((bpT ta a b).l))]) rfl rfl rfl rfl fun i5 bP dg => ?_
  have kp := dg.size
  have E := E.step dg (Xa om)
  replace bP : Blk i5 ey 91 [(.bool ((bpT ta a b).n)), (.int .i64 ((bpT ta a b).f)), (.int .i64 ((bpT ta a b).l))] := bP
  refine Ze (Zb (iW _ _ ?_))
  refine Zg fun mH i6 => ?_
  refine Zc (Za rfl rfl (Zd rfl) (Za rfl rfl (Zh fa91_2 rfl) (Za rfl rfl (Zk bP.at_ agg3 rfl rfl) (Za rfl rfl (Zh fa91_1 rfl) (Za rfl rfl (Zk bP.at_ agg3 rfl rfl) (Zm rfl rfl ?_))))))
  have i7 := (d2.ch0 df).ch dg (ne1 om)
  have i8 := (cr.ch0 df).ch dg (dS M a9 om)
  have i9 := (ct.ch0 df).ch dg (dS O ba om)
  refine Step.call (Zl (xs := [.tmp 151, .tmp 153, .tmp 155]) fk107 rfl) (Zee i7 om i8 av (Lo.down M om) i9 aw (Lo.down O om) br _ _ om (L_p := L_p)) fun kq ja gH => ?_
  obtain ⟨g4, g5, rfl, d3, cu, ax, P, cv, ay, Q, bs, eA⟩ := gH
  have kr := eA.size
  have E := E.step eA (fun i hm => by rcases List.mem_cons.1 hm with r | hm; (right; exact r ▸ List.mem_cons_self ..); (rcases List.mem_append.1 hm with hm | hm; (exact (ca _ hm)); (exact (cb _ hm))))
  obtain ⟨bb, bc, rfl, g6, gI⟩ := cu.opn
  have fE : Lo L_p (.slice bb (((bpT ta a b).L)).length bc) := Yz ax P om (Ys M O)
  obtain ⟨be, bf, rfl, g7, gJ⟩ := cv.opn
  have fF : Lo L_p (.slice be (lkL ((bpT ta a b).l) ((bpT ta a b).f) ((bpT ta a b).F)).length bf) := Yz ay Q om (Ys M O)
  have dh := Zv ax P (show aW < _ by omega) (Yk bh bi)
  have fG := Zv ax P (show cw < _ by omega) (Yk bY bZ)
  have fq := Zv ax P (show ey < _ by omega) (Yk (Zs M a9 om) (Zs O ba om))
  have eB := Yt E ax P om (Ys (fun g hm => (ca _ hm)) (fun g hm => (cb _ hm)))
  have di := Zv ay Q (show aW < _ by omega) (Yk bh bi)
  have fH := Zv ay Q (show cw < _ by omega) (Yk bY bZ)
  have fr := Zv ay Q (show ey < _ by omega) (Yk (Zs M a9 om) (Zs O ba om))
  have eC := Yt E ay Q om (Ys (fun g hm => (ca _ hm)) (fun g hm => (cb _ hm)))
  replace d3 : Blk ja b_p t_p [(.slice bb (((bpT ta a b).L)).length bc), (.int .i64 bu), (.int .i64 bv), (.slice be (lkL ((bpT ta a b).l) ((bpT ta a b).f) ((bpT ta a b).F)).length bf), (.bool bw)] := d3
  refine Ze (Zb (i6 _ _ ?_))
  refine Zg fun mI jb => ?_
  refine Zc (Za rfl rfl (Zh fa91_1 rfl) ?_)
  have gK := bP.ch eA (Xd om (Yl a9 om) (Yl ba om))
  refine Za rfl rfl (Zk gK.at_ agg3 rfl rfl) (Za rfl rfl (Zh fa91_2 rfl) (Za rfl rfl (Zk gK.at_ agg3 rfl rfl) (Za rfl rfl (Yn (parts := [(0, .const (Go.Value.bool true)), (1, .tmp 158), (2, .tmp 160)]) (cells := [(.bool true), (.int .i64 ((bpT ta a b).f)), (.int .i64 ((bpT ta a b).l))]) zr91 pl91 rfl rfl) (Zm rfl rfl ?_))))
  have jc := (((((cQ.ch0 C6).ch C7 (ne1 om)).ch fp (Xd om (Yl o om) (Yl p om))).ch0 df).ch dg (ne1 om)).ch eA (Xd om bh bi)
  refine Zn (off := 0) 3 jc sz91 rfl (us := [(.bool true), (.int .i64 ((bpT ta a b).f)), (.int .i64 ((bpT ta a b).l))]) rfl rfl rfl rfl fun eD cO d4 => ?_
  have ks := d4.size
  have E := E.step d4 (Xa om)
  replace cO : Blk eD aW 91 [(.bool true), (.int .i64 ((bpT ta a b).f)), (.int .i64 ((bpT ta a b).l))] := cO
  refine Ze (Zb (jb _ _ ?_))
  refine Zq (Yd (Zo ?_))
  have jd := d3.ch d4 (ne1 om)
  have je := cu.ch d4 (fun g hg hm => by have r := mSg.1 hm; exact dh (by first | exact hg | exact r ▸ hg))
  have fs : Ol ics 3 1 eD (.slice bb (((bpT ta a b).L)).length bc) ((bpT t a b).L) := by
   have hx := je
   exact hx.eq (by rw [eb] <;> first | rfl | (rw [hte]; done))
  have jf := cv.ch d4 (fun g hg hm => by have r := mSg.1 hm; exact di (by first | exact hg | exact r ▸ hg))
  have ft : Ol ics 3 1 eD (.slice be (lkL ((bpT ta a b).l) ((bpT ta a b).f) ((bpT ta a b).F)).length bf) ((bpT t a b).F) := by
   have hx := jf
   exact hx.eq (by rw [eb] <;> first | rfl | (rw [hte]; done))
  have fu : Blk eD b_p t_p [(.slice bb (((bpT ta a b).L)).length bc), .int .i64 bu, .int .i64 bv, (.slice be (lkL ((bpT ta a b).l) ((bpT ta a b).f) ((bpT ta a b).F)).length bf), .bool bw] := by
   have hx := jd
   exact hx
  exact Zi [_] (Zt cO rfl agg91 sz91 trivial) ⟨(.slice bb (((bpT ta a b).L)).length bc), (.slice be (lkL ((bpT ta a b).l) ((bpT ta a b).f) ((bpT ta a b).F)).length bf), (((congrArg (fun zq => (Value.agg #[.bool zq, .int .i64 ((bpT ta a b).f), .int .i64 ((bpT ta a b).l)])) (by rw [eb] <;> first | rfl | (rw [hte]; done))).trans (congrArg (fun zq => (Value.agg #[.bool ((bpT t a b).n), .int .i64 zq, .int .i64 ((bpT ta a b).l)])) (by rw [eb] <;> first | rfl | (rw [hte]; done)))).trans (congrArg (fun zq => (Value.agg #[.bool ((bpT t a b).n), .int .i64 ((bpT t a b).f), .int .i64 zq])) (by rw [eb] <;> first | rfl | (rw [hte]; done)))), fu, fs, eB, P, ft, eC, Q, bs, E⟩
 have gE := bO
 have bO := Yj bO
 have eb := bp0 (t := t) (L := a) (F := b) ⟨by omega, by omega, by omega, by omega, by omega⟩
 refine Zu ?_
 refine Zw (Zb (H9 _ _ ?_))
 refine Zg fun mJ jg => ?_
 refine Zc (Za rfl rfl (Yn (parts := []) (cells := [(.bool false), (.int .i64 0), (.int .i64 0)]) zr91 pl91 rfl rfl) (Zm rfl rfl ?_))
 have jh := (cQ.ch0 C6).ch C7 (ne1 om)
 refine Zn (off := 0) 3 jh sz91 rfl (us := [(.bool false), (.int .i64 0), (.int .i64 0)]) rfl rfl rfl rfl fun eE cP d5 => ?_
 have kt := d5.size
 have E := E.step d5 (Xa om)
 replace cP : Blk eE aW 91 [(.bool false), (.int .i64 0), (.int .i64 0)] := cP
 refine Ze (Zb (jg _ _ ?_))
 refine Zq ?_
 have ji := (((m_p.ch0 C2).ch0 C6).ch C7 (ne1 om)).ch d5 (ne1 om)
 have jj := (((aU.ch0 C2).ch0 C6).ch C7 (dS k o om)).ch d5 (dS k o om)
 have fv : Ol ics 3 1 eE (.slice aa a.length ab) ((bpT t a b).L) := by
  have hx := jj
  exact hx.eq (by rw [eb] <;> first | rfl | (rw [hte]; done))
 have jk := (((aV.ch0 C2).ch0 C6).ch C7 (dS m p om)).ch d5 (dS m p om)
 have fw : Ol ics 3 1 eE (.slice aB b.length aC) ((bpT t a b).F) := by
  have hx := jk
  exact hx.eq (by rw [eb] <;> first | rfl | (rw [hte]; done))
 have fx : Blk eE b_p t_p [(.slice aa a.length ab), .int .i64 bu, .int .i64 bv, (.slice aB b.length aC), .bool bw] := by
  have hx := ji
  exact hx
 exact Zi [_] (Zt cP rfl agg91 sz91 trivial) ⟨(.slice aa a.length ab), (.slice aB b.length aC), (((congrArg (fun zq => (Value.agg #[.bool zq, .int .i64 0, .int .i64 0])) (by rw [eb] <;> first | rfl | (rw [hte]; done))).trans (congrArg (fun zq => (Value.agg #[.bool ((bpT t a b).n), .int .i64 zq, .int .i64 0])) (by rw [eb] <;> first | rfl | (rw [hte]; done)))).trans (congrArg (fun zq => (Value.agg #[.bool ((bpT t a b).n), .int .i64 ((bpT t a b).f), .int .i64 zq])) (by rw [eb] <;> first | rfl | (rw [hte]; done)))), fx, fv, (fun g hm => by exact (.inr (mCo _ (mAL _ hm)))), I, fw, (fun g hm => by exact (.inr (mCo _ (mAR _ hm)))), Z, q, E⟩
theorem Zif {w : World} {b_p t_p L_p : Nat} {a : Value} {d : List Int} {y : Int} {z : Int} {b : Value} {e : List Int} {A : Bool} (m_p : Blk w b_p t_p [a, (.int .i64 y), (.int .i64 z), b, (.bool A)]) (m : L_p ≤ b_p) (o : Ol ics 3 1 w a d) (h : b_p ∉ bl a) (i : Lo L_p a) (p : Ol ics 3 1 w b e) (j : b_p ∉ bl b) (k : Lo L_p b) (c : ∀ g ∈ bl a, g ∉ bl b) {LL_l q : Nat} {r : Value} {l : List Token} (x : Ls Token.cs 4 w LL_l q r l) (t : Tr) (hok : Okd t) (hl : l = t.flat) (hbl : q ≤ L_p) (hb : d.length + l.length ≤ 100000 ∧ e.length + l.length ≤ 100000) :
 Ctr Try.prog 67 #[(.pointer (some ⟨b_p, 0, none⟩)), r] w (fun v w' => ∃ (s u : Value), v = .agg #[.bool ((bpT t d e).n), .int .i64 ((bpT t d e).f), .int .i64 ((bpT t d e).l)] ∧ Blk w' b_p t_p [s, .int .i64 y, .int .i64 z, u, .bool A] ∧ Ol ics 3 1 w' s ((bpT t d e).L) ∧ (∀ g ∈ bl s, w.heap.size ≤ g ∨ g ∈ (b_p :: (bl a ++ bl b))) ∧ b_p ∉ bl s ∧ Ol ics 3 1 w' u ((bpT t d e).F) ∧ (∀ g ∈ bl u, w.heap.size ≤ g ∨ g ∈ (b_p :: (bl a ++ bl b))) ∧ b_p ∉ bl u ∧ (∀ g ∈ bl s, g ∉ bl u) ∧ Ch (b_p :: (bl a ++ bl b)) w w') := Zft _ m_p m o h i p j k c x t hok hl hbl hb (Nat.lt_succ_self _)

/-- spec.BuildPositions -/
theorem Zds {w : World} {LL_e aV : Nat} {av : Value} {e : List Token} (U : Ls Token.cs 4 w LL_e aV av e) (hb : e.length ≤ 1048576) :
 Ctr Try.prog 27 #[(.agg #[av])] w (fun v w' => ∃ (ag : Value) (ah : Value), v = .tuple #[.agg #[ag, .int .i64 ((bpE e).1.f), .int .i64 ((bpE e).1.l), ah, .bool ((bpE e).1.n)], .bool ((bpE e).2)] ∧ Ol ics 3 1 w' ag ((bpE e).1.L) ∧ Lo w.heap.size ag ∧ Ol ics 3 1 w' ah ((bpE e).1.F) ∧ Lo w.heap.size ah ∧ (∀ g ∈ bl ag, g ∉ bl ah) ∧ Ch [] w w') := by
 obtain ⟨aw, ax, ay⟩ := U.val
 subst ay
 have bm := U.len
 have U := U.here (by decide)
 have E := Ch.refl [] w
 have sl := Zhc e
 refine Ye (N := 51) (vs0 := [(.agg #[(.slice aw e.length ax)])]) Try.func27 rfl rfl rfl ?_
 refine Zg fun K1 H1 => ?_
 refine Zc (Zm rfl rfl ?_)
 refine Qw rfl fun bn W2 aP C2 ci => ?_
 have cj := C2.size
 have E := E.trans C2
 have ck := aP.lt
 replace aP : Blk W2 bn 44 [(.slice aw e.length ax)] := aP
 refine Zm rfl rfl ?_
 refine Yh zr48 fun ak W3 az C3 cl => ?_
 have cm := C3.size
 have E := E.trans C3
 have cn := az.lt
 replace az : Blk W3 ak 48 [(.slice none 0 0), (.int .i64 0), (.int .i64 0), (.slice none 0 0), (.bool false)] := az
 refine Za rfl rfl (Zf rfl) (Ze (Zb (H1 _ _ ?_)))
 refine Zg fun K4 H4 => ?_
 refine Zc ?_
 have F5 := aP.ch0 C3
 refine Za rfl rfl (Zy F5.at_ agg44 sz44 rfl) (Zm rfl rfl ?_)
 have F6 := (U.ch0 C2).ch0 C3
 refine Step.call (Zl (xs := [.tmp 11]) fk29 rfl) (Zcv F6 om) fun bp W7 aW => ?_
 obtain ⟨aQ, rfl, x, u, C7⟩ := aW
 have co := C7.size
 have E := E.trans C7
 obtain ⟨s, t, rfl, aA, r⟩ := x.opn
 refine Za rfl rfl (Zd rfl) (Za rfl rfl (Qh rfl rfl) (Za rfl rfl (Qh rfl rfl) (Zm rfl rfl ?_)))
 refine Yh zr44 fun an W8 aR C8 cp => ?_
 have cq := C8.size
 have E := E.trans C8
 have cr := aR.lt
 replace aR : Blk W8 an 44 [(.slice none 0 0)] := aR
 refine Zm rfl rfl ?_
 refine Zn (off := 0) 1 aR sz44 rfl (us := [(.slice s ((Qc e).1).length t)]) rfl rfl rfl rfl fun W9 V C9 => ?_
 have ct := C9.size
 have E := E.step C9 (lS om)
 replace V : Blk W9 an 44 [(.slice s ((Qc e).1).length t)] := V
 refine Za rfl rfl (Zf rfl) (Ze (Zb (H4 _ _ ?_)))
 refine Zg fun cu bq => ?_
 refine Zg fun cv br => ?_
 refine Zc (Za rfl rfl (Zd rfl) (Za rfl rfl (Zbh rfl) (Ze (Zb (br _ _ ?_)))))
 refine Zp rfl (fun a => ?_) (fun a => ?_)
 ·have aX := a
  have a := Qu a
  refine Zg fun cw bs => ?_
  refine Zc (Za rfl rfl (Yn (parts := []) (cells := [(.slice none 0 0), (.int .i64 0), (.int .i64 0), (.slice none 0 0), (.bool false)]) zr48 pl48 rfl rfl) (Zm rfl rfl ?_))
  have bu := ((az.ch0 C7).ch0 C8).ch C9 (ne1 om)
  refine Zn (off := 0) 5 bu sz48 rfl (us := [(.slice none 0 0), (.int .i64 0), (.int .i64 0), (.slice none 0 0), (.bool false)]) rfl rfl rfl rfl fun aB X bc => ?_
  have bv := bc.size
  have E := E.step bc (lS om)
  replace X : Blk aB ak 48 [(.slice none 0 0), (.int .i64 0), (.int .i64 0), (.slice none 0 0), (.bool false)] := X
  refine Za rfl rfl (Zf rfl) (Ze (Zb (bs _ _ ?_)))
  refine Zq (Zo ?_)
  have aC : Ol ics 3 1 aB (.slice none 0 0) ((bpE e).1.L) := by
   have hx := Ol.nil (cs := ics) (e := 3) (k := 1) aB
   first | (rw [Qq a om D]; exact hx) | (rw [Xj (fun q => by rw [a] at q; exact Bool.false_ne_true q.1)]; exact hx) | (rw [Xj (fun q => by have G := q.2; omega)]; exact hx)
  have aD : Ol ics 3 1 aB (.slice none 0 0) ((bpE e).1.F) := by
   have hx := Ol.nil (cs := ics) (e := 3) (k := 1) aB
   first | (rw [Qq a om D]; exact hx) | (rw [Xj (fun q => by rw [a] at q; exact Bool.false_ne_true q.1)]; exact hx) | (rw [Xj (fun q => by have G := q.2; omega)]; exact hx)
  exact Zi [_, _] (Zt X rfl agg48 sz48 ⟨rfl, trivial⟩) ⟨(.slice none 0 0), (.slice none 0 0), ((((congrArg (fun zq => (Value.tuple #[.agg #[(.slice none 0 0), .int .i64 zq, .int .i64 0, (.slice none 0 0), .bool false], .bool false])) (by first | (rw [Qq a om D]; done) | (rw [Xj (fun q => by rw [a] at q; exact Bool.false_ne_true q.1)]; done) | (rw [Xj (fun q => by have G := q.2; omega)]; done))).trans (congrArg (fun zq => (Value.tuple #[.agg #[(.slice none 0 0), .int .i64 ((bpE e).1.f), .int .i64 zq, (.slice none 0 0), .bool false], .bool false])) (by first | (rw [Qq a om D]; done) | (rw [Xj (fun q => by rw [a] at q; exact Bool.false_ne_true q.1)]; done) | (rw [Xj (fun q => by have G := q.2; omega)]; done)))).trans (congrArg (fun zq => (Value.tuple #[.agg #[(.slice none 0 0), .int .i64 ((bpE e).1.f), .int .i64 ((bpE e).1.l), (.slice none 0 0), .bool zq], .bool false])) (by first | (rw [Qq a om D]; done) | (rw [Xj (fun q => by rw [a] at q; exact Bool.false_ne_true q.1)]; done) | (rw [Xj (fun q => by have G := q.2; omega)]; done)))).trans (congrArg (fun zq => (Value.tuple #[.agg #[(.slice none 0 0), .int .i64 ((bpE e).1.f), .int .i64 ((bpE e).1.l), (.slice none 0 0), .bool ((bpE e).1.n)], .bool zq])) (by first | (rw [Qq a om D]; done) | (rw [Xj (fun q => by rw [a] at q; exact Bool.false_ne_true q.1)]; done) | (rw [Xj (fun q => by have G := q.2; omega)]; done)))), aC, (Lo.nil _), aD, (Lo.nil _), (fun g hm hg => by cases hm), E⟩
 have aX := a
 have a := Qv a
 obtain ⟨j, D, bw, f5, cx⟩ := Zia a
 refine Zu ?_
 refine Zb (bq _ _ ?_)
 refine Zg fun cy bx => ?_
 refine Zc (Za rfl rfl (Zf rfl) (Ze (Zb (bx _ _ ?_))))
 refine Zg fun cz bz => ?_
 refine Zg fun cA bA => ?_
 refine Zc (Za rfl rfl (Zf rfl) (Ze (Zb (bA _ _ ?_))))
 refine Zx ?_
 have bB := ((az.ch0 C7).ch0 C8).ch C9 (ne1 om)
 have bC := (x.ch0 C8).ch C9 (dS u r om)
 refine Xi (σ := Nat × Int) (fun ⟨k, m⟩ => [(2, (.pointer (some ⟨ak, 0, none⟩))), (3, (.bool false)), (4, (.pointer (some ⟨an, 0, none⟩))), (6, (.int .i64 m)), (7, (.int .i64 ((k : Nat) : Int)))]) (fun ⟨k, m⟩ wx => Ch [] w wx ∧ W9.heap.size ≤ wx.heap.size ∧ (k ≤ (Qc e).1.length) ∧ (m = cntL ((Qc e).1.take k)) ∧ Blk wx ak 48 [(.slice none 0 0), (.int .i64 0), (.int .i64 0), (.slice none 0 0), (.bool false)] ∧ Blk wx an 44 [(.slice s ((Qc e).1).length t)] ∧ Ol Token.cs 84 4 wx (.slice s ((Qc e).1).length t) ((Qc e).1)) (fun ⟨k, m⟩ => (Qc e).1.length - k) (0, 0) (sC4 rfl rfl rfl rfl (sC1 rfl (Sub.nil _))) ⟨E, (Nat.le_refl _), om, (by simp [cntL]), bB, V, bC⟩ ?_
 rintro ⟨k, m⟩ cB ⟨E, bD, cC, hm, H, C, P⟩
 have aY := E
 have be := aY.size
 have aZ := H.lt
 have a0 := C.lt
 have bE := Zpw ((Qc e).1.take k)
 have bF : ((Qc e).1.take k).length ≤ k := List.length_take_le ..
 refine Zg fun cD bf => ?_
 refine Zg fun cE bG => ?_
 refine Zc (Za rfl rfl (Zd rfl) (Za rfl rfl (Zh fa44_0 rfl) (Za rfl rfl (Zk C.at_ agg42 rfl rfl) (Za rfl rfl (Xc (by rw [el42]; rfl) rfl) (Za rfl rfl (Xs rfl rfl) (Ze (Zb (bG _ _ ?_))))))))
 refine Zp rfl (fun M => ?_) (fun M => ?_)
 ·have a1 := M
  have M := Yi M
  refine Zu ?_
  refine Zb (bf _ _ ?_)
  refine Zg fun cF bg => ?_
  refine Zx ?_
  refine Zg fun cG bH => ?_
  refine Zc (Za rfl rfl (Zh fa44_0 rfl) (Za rfl rfl (Zk C.at_ agg42 rfl rfl) (Za rfl rfl (Zd rfl) (Zm rfl rfl ?_))))
  refine (Yw P.ls Token.len el42 sz84 rfl rfl rfl om fun bI bJ Q a2 => ?_)
  refine Za rfl rfl (Zh fa84_0 rfl) (Za rfl rfl (Zk a2 agg3 rfl rfl) (Za rfl rfl (Yy rfl rfl) (Ze (Zb (bH _ _ ?_)))))
  refine Zp rfl (fun y => ?_) (fun y => ?_)
  ·have a3 := y
   have y := Yi y
   refine Zc (Za rfl rfl (Zd rfl) (Za rfl rfl (Yo om rfl rfl) (Za rfl rfl (Zf rfl) (Ze (Zw (Zb (bg _ _ (Zc ?_))))))))
   refine Za rfl rfl (Zd rfl) (Za rfl rfl (Yo om rfl rfl) (Za rfl rfl (Zf rfl) (Ze ?_)))
   exact Zb (Exists.intro ((k + 1), (m + 1)) ⟨⟨E, om, om, (by first | (rw [Zmr Q y]; omega) | (rw [Zmw Q y]; omega)), H, C, P⟩, sC4 rfl rfl rfl rfl (sC1 rfl (Sub.nil _)), (by first | omega | (dsimp only; omega))⟩)
  have a3 := y
  have y := Yj y
  refine Zu ?_
  refine Zw (Zb (bg _ _ (Zc (Za rfl rfl (Zd rfl) (Za rfl rfl (Yo om rfl rfl) (Za rfl rfl (Zf rfl) (Ze ?_)))))))
  exact Zb (Exists.intro ((k + 1), m) ⟨⟨E, om, om, (by first | (rw [Zmr Q y]; omega) | (rw [Zmw Q y]; omega)), H, C, P⟩, sC4 rfl rfl rfl rfl (sC1 rfl (Sub.nil _)), (by first | omega | (dsimp only; omega))⟩)
 have a1 := M
 have M := Yj M
 have cH : cntL ((Qc e).1.take k) = cntL (Qc e).1 := by rw [List.take_of_length_le om]
 refine Xe (Zr (Zr (Yu ?_)))
 refine Zb (bz _ _ ?_)
 refine Zg fun cI bh => ?_
 refine Zg fun cJ bK => ?_
 refine Zc (Za rfl rfl (Zd rfl) (Za rfl rfl (Zcp rfl rfl) (Ze (Zb (bK _ _ ?_)))))
 refine Zp rfl (fun O => ?_) (fun O => ?_)
 ·have a4 := O
  have O := Yi O
  refine Zg fun cK bL => ?_
  refine Zc (Za rfl rfl (Yn (parts := []) (cells := [(.slice none 0 0), (.int .i64 0), (.int .i64 0), (.slice none 0 0), (.bool false)]) zr48 pl48 rfl rfl) (Zm rfl rfl ?_))
  refine Zn (off := 0) 5 H sz48 rfl (us := [(.slice none 0 0), (.int .i64 0), (.int .i64 0), (.slice none 0 0), (.bool false)]) rfl rfl rfl rfl fun aE Y bi => ?_
  have bM := bi.size
  have E := E.step bi (lS om)
  replace Y : Blk aE ak 48 [(.slice none 0 0), (.int .i64 0), (.int .i64 0), (.slice none 0 0), (.bool false)] := Y
  refine Za rfl rfl (Zf rfl) (Ze (Zb (bL _ _ ?_)))
  refine Zq (Zo ?_)
  clear bf bh
  have aF : Ol ics 3 1 aE (.slice none 0 0) ((bpE e).1.L) := by
   have hx := Ol.nil (cs := ics) (e := 3) (k := 1) aE
   first | (rw [Qq a om D]; exact hx) | (rw [Xj (fun q => by rw [a] at q; exact Bool.false_ne_true q.1)]; exact hx) | (rw [Xj (fun q => by have G := q.2; omega)]; exact hx)
  have aG : Ol ics 3 1 aE (.slice none 0 0) ((bpE e).1.F) := by
   have hx := Ol.nil (cs := ics) (e := 3) (k := 1) aE
   first | (rw [Qq a om D]; exact hx) | (rw [Xj (fun q => by rw [a] at q; exact Bool.false_ne_true q.1)]; exact hx) | (rw [Xj (fun q => by have G := q.2; omega)]; exact hx)
  exact Zi [_, _] (Zt Y rfl agg48 sz48 ⟨rfl, trivial⟩) ⟨(.slice none 0 0), (.slice none 0 0), ((((congrArg (fun zq => (Value.tuple #[.agg #[(.slice none 0 0), .int .i64 zq, .int .i64 0, (.slice none 0 0), .bool false], .bool false])) (by first | (rw [Qq a om D]; done) | (rw [Xj (fun q => by rw [a] at q; exact Bool.false_ne_true q.1)]; done) | (rw [Xj (fun q => by have G := q.2; omega)]; done))).trans (congrArg (fun zq => (Value.tuple #[.agg #[(.slice none 0 0), .int .i64 ((bpE e).1.f), .int .i64 zq, (.slice none 0 0), .bool false], .bool false])) (by first | (rw [Qq a om D]; done) | (rw [Xj (fun q => by rw [a] at q; exact Bool.false_ne_true q.1)]; done) | (rw [Xj (fun q => by have G := q.2; omega)]; done)))).trans (congrArg (fun zq => (Value.tuple #[.agg #[(.slice none 0 0), .int .i64 ((bpE e).1.f), .int .i64 ((bpE e).1.l), (.slice none 0 0), .bool zq], .bool false])) (by first | (rw [Qq a om D]; done) | (rw [Xj (fun q => by rw [a] at q; exact Bool.false_ne_true q.1)]; done) | (rw [Xj (fun q => by have G := q.2; omega)]; done)))).trans (congrArg (fun zq => (Value.tuple #[.agg #[(.slice none 0 0), .int .i64 ((bpE e).1.f), .int .i64 ((bpE e).1.l), (.slice none 0 0), .bool ((bpE e).1.n)], .bool zq])) (by first | (rw [Qq a om D]; done) | (rw [Xj (fun q => by rw [a] at q; exact Bool.false_ne_true q.1)]; done) | (rw [Xj (fun q => by have G := q.2; omega)]; done)))), aF, (Lo.nil _), aG, (Lo.nil _), (fun g hm hg => by cases hm), E⟩
 have a4 := O
 have O := Yj O
 refine Zu ?_
 refine Zb (bh _ _ ?_)
 refine Zg fun cL bN => ?_
 refine Zc (Za rfl rfl (Yn (parts := []) (cells := [(.slice none 0 0), (.int .i64 0), (.int .i64 0), (.slice none 0 0), (.bool false)]) zr48 pl48 rfl rfl) (Zm rfl rfl ?_))
 refine Yh zr48 fun al bO aS aH cM => ?_
 have bP := aH.size
 have E := E.trans aH
 have bF := aS.lt
 replace aS : Blk bO al 48 [(.slice none 0 0), (.int .i64 0), (.int .i64 0), (.slice none 0 0), (.bool false)] := aS
 refine Zm rfl rfl ?_
 refine Zn (off := 0) 5 aS sz48 rfl (us := [(.slice none 0 0), (.int .i64 0), (.int .i64 0), (.slice none 0 0), (.bool false)]) rfl rfl rfl rfl fun aI Z aJ => ?_
 have bQ := aJ.size
 have E := E.step aJ (lS om)
 replace Z : Blk aI al 48 [(.slice none 0 0), (.int .i64 0), (.int .i64 0), (.slice none 0 0), (.bool false)] := Z
 refine Ze (Zb (bN _ _ ?_))
 refine Zg fun cN bR => ?_
 refine Zc (Za rfl rfl (Zh fa44_0 rfl) ?_)
 have bS := (C.ch0 aH).ch aJ (ne1 om)
 refine Za rfl rfl (Zk bS.at_ agg42 rfl rfl) (Zm rfl rfl ?_)
 have bT := (P.ch0 aH).ch aJ (dS u r om)
 refine Step.call (Zl (xs := [.tmp 8, .tmp 39]) fk67 rfl) (Zif Z om (Ol.nil (cs := ics) (e := 3) (k := 1) aI) (fun hm => by cases hm) (Lo.nil _) (Ol.nil (cs := ics) (e := 3) (k := 1) aI) (fun hm => by cases hm) (Lo.nil _) (fun g hm hg => by cases hm) (Ol.lsB bT r) j bw f5 om ⟨by simp <;> omega, by simp <;> omega⟩ (L_p := al)) fun bU bV a5 => ?_
 obtain ⟨a6, a7, rfl, am, R, z, o, S, A, p, B, a8⟩ := a5
 have bW := a8.size
 have E := E.step a8 (fun i hm => .inl (by rcases List.mem_cons.1 hm with I | hm; (omega); (rcases List.mem_append.1 hm with hm | hm; (cases hm); (cases hm))))
 obtain ⟨b, c, rfl, a9, ai⟩ := R.opn
 have J : Lo aI.heap.size (.slice b ((bpT j [] []).L).length c) := Yz z o om (Ys (fun g hm => by cases hm) (fun g hm => by cases hm))
 obtain ⟨d, h, rfl, ba, aj⟩ := S.opn
 have K : Lo aI.heap.size (.slice d ((bpT j [] []).F).length h) := Yz A p om (Ys (fun g hm => by cases hm) (fun g hm => by cases hm))
 have aa := Zv z o (show ak < _ by omega) (Yk (fun hm => by cases hm) (fun hm => by cases hm))
 have aK := Zv z o (show an < _ by omega) (Yk (fun hm => by cases hm) (fun hm => by cases hm))
 have ab := Zv A p (show ak < _ by omega) (Yk (fun hm => by cases hm) (fun hm => by cases hm))
 have aL := Zv A p (show an < _ by omega) (Yk (fun hm => by cases hm) (fun hm => by cases hm))
 replace am : Blk bV al 48 [(.slice b ((bpT j [] []).L).length c), (.int .i64 0), (.int .i64 0), (.slice d ((bpT j [] []).F).length h), (.bool false)] := am
 refine Zm rfl rfl ?_
 refine Yh zr91 fun bj bX aT ao cO => ?_
 have bY := ao.size
 have E := E.trans ao
 have bE := aT.lt
 replace aT : Blk bX bj 91 [(.bool false), (.int .i64 0), (.int .i64 0)] := aT
 refine Zm rfl rfl ?_
 refine Zn (off := 0) 3 aT sz91 rfl (us := [(.bool ((bpT j [] []).n)), (.int .i64 ((bpT j [] []).f)), (.int .i64 ((bpT j [] []).l))]) rfl rfl rfl rfl fun bZ T ap => ?_
 have b0 := ap.size
 have E := E.step ap (lS om)
 replace T : Blk bZ bj 91 [(.bool ((bpT j [] []).n)), (.int .i64 ((bpT j [] []).f)), (.int .i64 ((bpT j [] []).l))] := T
 refine Ze (Zb (bR _ _ ?_))
 refine Zg fun cP b1 => ?_
 refine Zc (Za rfl rfl (Zh fa91_1 rfl) (Za rfl rfl (Zk T.at_ agg3 rfl rfl) (Za rfl rfl (Zh fa48_1 rfl) (Zm rfl rfl ?_))))
 have b2 := (am.ch0 ao).ch ap (ne1 om)
 refine Xm (off := 1) b2 sz3 rfl rfl rfl rfl fun b3 ac aq => ?_
 have b4 := aq.size
 have E := E.step aq (lS om)
 replace ac : Blk b3 al 48 [(.slice b ((bpT j [] []).L).length c), (.int .i64 ((bpT j [] []).f)), (.int .i64 0), (.slice d ((bpT j [] []).F).length h), (.bool false)] := ac
 refine Ze (Zb (b1 _ _ ?_))
 refine Zg fun cQ b5 => ?_
 refine Zc (Za rfl rfl (Zh fa91_2 rfl) ?_)
 have bk := T.ch aq (ne1 om)
 refine Za rfl rfl (Zk bk.at_ agg3 rfl rfl) (Za rfl rfl (Zh fa48_2 rfl) (Zm rfl rfl ?_))
 refine Xm (off := 2) ac sz3 rfl rfl rfl rfl fun b6 ad au => ?_
 have b7 := au.size
 have E := E.step au (lS om)
 replace ad : Blk b6 al 48 [(.slice b ((bpT j [] []).L).length c), (.int .i64 ((bpT j [] []).f)), (.int .i64 ((bpT j [] []).l)), (.slice d ((bpT j [] []).F).length h), (.bool false)] := ad
 refine Ze (Zb (b5 _ _ ?_))
 refine Zg fun cR b8 => ?_
 refine Zc (Za rfl rfl (Zh fa91_0 rfl) ?_)
 have b9 := bk.ch au (ne1 om)
 refine Za rfl rfl (Zk b9.at_ agg4 rfl rfl) (Za rfl rfl (Zh fa48_4 rfl) (Zm rfl rfl ?_))
 refine Xm (off := 4) ad sz4 rfl rfl rfl rfl fun ca ae aM => ?_
 have cb := aM.size
 have E := E.step aM (lS om)
 replace ae : Blk ca al 48 [(.slice b ((bpT j [] []).L).length c), (.int .i64 ((bpT j [] []).f)), (.int .i64 ((bpT j [] []).l)), (.slice d ((bpT j [] []).F).length h), (.bool ((bpT j [] []).n))] := ae
 refine Ze (Zb (b8 _ _ ?_))
 refine Zg fun cS cc => ?_
 refine Zc (Za rfl rfl (Zy ae.at_ agg48 sz48 rfl) (Zm rfl rfl ?_))
 have cd := (((((((H.ch0 aH).ch aJ (ne1 om)).ch a8 (fun hm => by rcases List.mem_cons.1 hm with I | hm; (omega); (rcases List.mem_append.1 hm with hm | hm; (cases hm); (cases hm)))).ch0 ao).ch ap (ne1 om)).ch aq (ne1 om)).ch au (ne1 om)).ch aM (ne1 om)
 refine Zn (off := 0) 5 cd sz48 rfl (us := [(.slice b ((bpT j [] []).L).length c), (.int .i64 ((bpT j [] []).f)), (.int .i64 ((bpT j [] []).l)), (.slice d ((bpT j [] []).F).length h), (.bool ((bpT j [] []).n))]) rfl rfl rfl rfl fun bb af aU => ?_
 have ce := aU.size
 have E := E.step aU (lS om)
 replace af : Blk bb ak 48 [(.slice b ((bpT j [] []).L).length c), (.int .i64 ((bpT j [] []).f)), (.int .i64 ((bpT j [] []).l)), (.slice d ((bpT j [] []).F).length h), (.bool ((bpT j [] []).n))] := af
 refine Za rfl rfl (Zf rfl) (Ze (Zb (cc _ _ ?_)))
 refine Zq ?_
 have cf := (((((R.ch0 ao).ch ap (dS J ai om)).ch aq (fun g hg hm => by have I := mSg.1 hm; exact o (by first | exact hg | exact I ▸ hg))).ch au (fun g hg hm => by have I := mSg.1 hm; exact o (by first | exact hg | exact I ▸ hg))).ch aM (fun g hg hm => by have I := mSg.1 hm; exact o (by first | exact hg | exact I ▸ hg))).ch aU (fun g hg hm => by have I := mSg.1 hm; exact aa (by first | exact hg | exact I ▸ hg))
 have aN : Ol ics 3 1 bb (.slice b ((bpT j [] []).L).length c) ((bpE e).1.L) := by
  have hx := cf
  first | (rw [Qq a om D]; exact hx) | (rw [Xj (fun q => by rw [a] at q; exact Bool.false_ne_true q.1)]; exact hx) | (rw [Xj (fun q => by have G := q.2; omega)]; exact hx)
 have cg := (((((S.ch0 ao).ch ap (dS K aj om)).ch aq (fun g hg hm => by have I := mSg.1 hm; exact p (by first | exact hg | exact I ▸ hg))).ch au (fun g hg hm => by have I := mSg.1 hm; exact p (by first | exact hg | exact I ▸ hg))).ch aM (fun g hg hm => by have I := mSg.1 hm; exact p (by first | exact hg | exact I ▸ hg))).ch aU (fun g hg hm => by have I := mSg.1 hm; exact ab (by first | exact hg | exact I ▸ hg))
 have aO : Ol ics 3 1 bb (.slice d ((bpT j [] []).F).length h) ((bpE e).1.F) := by
  have hx := cg
  first | (rw [Qq a om D]; exact hx) | (rw [Xj (fun q => by rw [a] at q; exact Bool.false_ne_true q.1)]; exact hx) | (rw [Xj (fun q => by have G := q.2; omega)]; exact hx)
 exact Zi [_, _] (Zt af rfl agg48 sz48 ⟨rfl, trivial⟩) ⟨(.slice b ((bpT j [] []).L).length c), (.slice d ((bpT j [] []).F).length h), ((((congrArg (fun zq => (Value.tuple #[.agg #[(.slice b ((bpT j [] []).L).length c), .int .i64 zq, .int .i64 ((bpT j [] []).l), (.slice d ((bpT j [] []).F).length h), .bool ((bpT j [] []).n)], .bool true])) (by first | (rw [Qq a om D]; done) | (rw [Xj (fun q => by rw [a] at q; exact Bool.false_ne_true q.1)]; done) | (rw [Xj (fun q => by have G := q.2; omega)]; done))).trans (congrArg (fun zq => (Value.tuple #[.agg #[(.slice b ((bpT j [] []).L).length c), .int .i64 ((bpE e).1.f), .int .i64 zq, (.slice d ((bpT j [] []).F).length h), .bool ((bpT j [] []).n)], .bool true])) (by first | (rw [Qq a om D]; done) | (rw [Xj (fun q => by rw [a] at q; exact Bool.false_ne_true q.1)]; done) | (rw [Xj (fun q => by have G := q.2; omega)]; done)))).trans (congrArg (fun zq => (Value.tuple #[.agg #[(.slice b ((bpT j [] []).L).length c), .int .i64 ((bpE e).1.f), .int .i64 ((bpE e).1.l), (.slice d ((bpT j [] []).F).length h), .bool zq], .bool true])) (by first | (rw [Qq a om D]; done) | (rw [Xj (fun q => by rw [a] at q; exact Bool.false_ne_true q.1)]; done) | (rw [Xj (fun q => by have G := q.2; omega)]; done)))).trans (congrArg (fun zq => (Value.tuple #[.agg #[(.slice b ((bpT j [] []).L).length c), .int .i64 ((bpE e).1.f), .int .i64 ((bpE e).1.l), (.slice d ((bpT j [] []).F).length h), .bool ((bpE e).1.n)], .bool zq])) (by first | (rw [Qq a om D]; done) | (rw [Xj (fun q => by rw [a] at q; exact Bool.false_ne_true q.1)]; done) | (rw [Xj (fun q => by have G := q.2; omega)]; done)))), aN, (Lo.down J om), aO, (Lo.down K om), B, E⟩

/-- spec.l1New -/
theorem Zlp {w : World} {LL_code m : Nat} {k : Value} {code : List Int} (a : Ls ucs 1 w LL_code m k code) (hb : code.length ≤ 4194304) :
 Ctr Try.prog 40 #[k] w (fun v w' => ∃ b, v = .pointer (some ⟨b, 0, none⟩) ∧ Cu w' b ∧ w.heap.size ≤ b ∧ Ch [] w w') := by
 obtain ⟨c, e, l⟩ := a.val
 subst l
 have p := a.len
 have a := a.here (by decide)
 have E := Ch.refl [] w
 refine Ye (N := 32) (vs0 := [(.slice c code.length e)]) Try.func40 rfl rfl rfl ?_
 refine Zg fun K1 H1 => ?_
 refine Zc (Za rfl rfl (Zf rfl) (Ze (Zb (H1 _ _ ?_))))
 refine Zg fun K2 H2 => ?_
 refine Zc (Za rfl rfl (Zd rfl) (Za rfl rfl (Xc (by rw [el22]; rfl) rfl) (Za rfl rfl (Yo om rfl rfl) (Za rfl rfl (Zf rfl) (Ze (Zb (H2 _ _ ?_)))))))
 refine Zg fun K3 H3 => ?_
 refine Zg fun K4 H4 => ?_
 refine Zc (Za rfl rfl (Zf rfl) (Ze (Zb (H4 _ _ ?_))))
 refine Zx ?_
 refine Xi (σ := Nat × Int) (fun ⟨i, h⟩ => [(0, (.slice c code.length e)), (2, (.pointer none)), (3, (.int .i64 h)), (4, (.int .i64 ((i : Nat) : Int)))]) (fun ⟨i, h⟩ wx => Ch [] w wx ∧ w.heap.size ≤ wx.heap.size ∧ (i ≤ code.length)) (fun ⟨i, h⟩ => code.length - i) (0, (10101 + ((code.length : Nat) : Int))) (sC4 rfl rfl rfl rfl (Sub.nil _)) ⟨E, (Nat.le_refl _), om⟩ ?_
 rintro ⟨i, h⟩ R5 ⟨E, A, hi⟩
 have n := E
 have y := n.size
 refine Zg fun K6 H6 => ?_
 refine Zg fun K7 H7 => ?_
 refine Zc (Za rfl rfl (Zd rfl) (Za rfl rfl (Zd rfl) (Za rfl rfl (Xc (by rw [el22]; rfl) rfl) (Za rfl rfl (Xs rfl rfl) (Za rfl rfl (Zd rfl) ?_)))))
 refine Yp (d := 12) rfl (fun g => ?_) (fun g => ?_)
 ·have B := g
  have g := Yi g
  refine Za rfl rfl (Zd rfl) (Za rfl rfl (Xs rfl rfl) (Za rfl rfl (Ya rfl rfl) (Ze (Zb (H7 _ _ ?_)))))
  refine Zp rfl (fun j => ?_) (fun j => ?_)
  ·have C := j
   have j := Yi j
   refine Zu ?_
   refine Zb (H6 _ _ ?_)
   refine Zg fun Q D => ?_
   refine Zx ?_
   refine Zc (Za rfl rfl (Zd rfl) (Za rfl rfl (Zqh rfl rfl) (Za rfl rfl (Zd rfl) (Za rfl rfl (Zd rfl) (Zm rfl rfl ?_)))))
   have F := a.ch0 n
   refine (Yw F Zhv el22 sz5 rfl rfl rfl om fun G q z r => ?_)
   refine Za rfl rfl (Yr r agg5 rfl rfl) (Za rfl rfl (Zdo (by rw [un5]; rfl) un3 rfl) (Za rfl rfl (Zju rfl rfl) (Za rfl rfl (Zju rfl rfl) (Za rfl rfl (Zeg rfl rfl) (Za rfl rfl (Zf rfl) (Ze (Zw ?_)))))))
   refine Zb (D _ _ (Zc (Za rfl rfl (Zd rfl) (Za rfl rfl (Yo om rfl rfl) (Za rfl rfl (Zf rfl) (Ze ?_))))))
   exact Zb (Exists.intro ((i + 1), (iand (w64 ((w64 ((w64 (h * 131)) + (w64 q))) + 7)) 1073741823)) ⟨⟨E, om, om⟩, sC4 rfl rfl rfl rfl (Sub.nil _), (by first | omega | (dsimp only; omega))⟩)
  have C := j
  have j := Yj j
  refine Xe (Zr (Zr (Yu ?_)))
  refine Zb (H3 _ _ ?_)
  refine Zg fun R H => ?_
  refine Zc (Za rfl rfl (Zd rfl) (Za rfl rfl (Zd rfl) (Za rfl rfl (Yn (parts := [(0, .tmp 28), (2, .tmp 29)]) (cells := [(.slice c code.length e), (.int .i64 0), (.int .i64 h)]) zr101 pl101 rfl rfl) (Zm rfl rfl ?_))))
  refine Qw rfl fun o I f s t => ?_
  have J := s.size
  have E := E.trans s
  have u := f.lt
  replace f : Blk I o 101 [(.slice c code.length e), (.int .i64 0), (.int .i64 h)] := f
  refine Za rfl rfl (Zf rfl) (Ze (Zb (H _ _ ?_)))
  refine Zq ?_
  have K := (a.ch0 n).ch0 s
  exact Zi [_] ⟨rfl, trivial⟩ ⟨_, rfl, ⟨_, _, _, _, _, f, K.up om om, om, om⟩, om, E⟩
 have B := g
 have g := Yj g
 refine Zj rfl rfl (Zj rfl rfl (Za rfl rfl (Yb rfl rfl) (Ze (Zb (H7 _ _ ?_)))))
 refine Zap rfl ?_
 refine Xe (Zr (Zr (Yu ?_)))
 refine Zb (H3 _ _ ?_)
 refine Zg fun S L => ?_
 refine Zc (Za rfl rfl (Zd rfl) (Za rfl rfl (Zd rfl) (Za rfl rfl (Yn (parts := [(0, .tmp 28), (2, .tmp 29)]) (cells := [(.slice c code.length e), (.int .i64 0), (.int .i64 h)]) zr101 pl101 rfl rfl) (Zm rfl rfl ?_))))
 refine Qw rfl fun o M f x t => ?_
 have O := x.size
 have E := E.trans x
 have u := f.lt
 replace f : Blk M o 101 [(.slice c code.length e), (.int .i64 0), (.int .i64 h)] := f
 refine Za rfl rfl (Zf rfl) (Ze (Zb (L _ _ ?_)))
 refine Zq ?_
 have P := (a.ch0 n).ch0 x
 exact Zi [_] ⟨rfl, trivial⟩ ⟨_, rfl, ⟨_, _, _, _, _, f, P.up om om, om, om⟩, om, E⟩

/-- spec.l1Byte -/
theorem Zbn {w : World} {b_c : Nat} (n : Cu w b_c) :
 Ctr Try.prog 86 #[(.pointer (some ⟨b_c, 0, none⟩))] w (fun v w' => ∃ (o : Int) , v = .int .i64 o ∧ (0 ≤ o ∧ o ≤ 255) ∧ Cu w' b_c ∧ Ch [b_c] w w') := by
 obtain ⟨y, x_c, t_c, i_c, k_c, m_c, c, z, A⟩ := n
 obtain ⟨e, f, g⟩ := c.val
 subst g
 have B := c.len
 have t := m_c.lt
 have E := Ch.refl [b_c] w
 refine Ye (N := 58) (vs0 := [(.pointer (some ⟨b_c, 0, none⟩))]) Try.func86 rfl rfl rfl ?_
 refine Zg fun K1 H1 => ?_
 refine Zc (Za rfl rfl (Zf rfl) (Ze (Zb (H1 _ _ ?_))))
 refine Zg fun K2 H2 => ?_
 refine Zc (Za rfl rfl (Zd rfl) (Za rfl rfl (Zd rfl) (Za rfl rfl (Yf rfl) (Za rfl rfl (Zh fa101_2 rfl) (Za rfl rfl (Zk m_c.at_ agg3 rfl rfl) (Za rfl rfl (Zqh rfl rfl) (Za rfl rfl (Zju rfl rfl) ?_)))))))
 refine Za rfl rfl (Yf rfl) (Za rfl rfl (Zh fa101_2 rfl) (Zm rfl rfl ?_))
 refine Xm (off := 2) m_c sz3 rfl rfl rfl rfl fun W3 d C3 => ?_
 have O := C3.size
 have E := E.trans C3
 replace d : Blk W3 b_c t_c [(.slice e x_c.length f), (.int .i64 i_c), (.int .i64 (w64 ((w64 (k_c * 6364136223846793005)) + 1442695040888963407)))] := d
 refine Ze (Zb (H2 _ _ ?_))
 refine Zg fun K5 H5 => ?_
 refine Xb [] 13 mixed rfl fun W6 C6 => ?_
 have P := C6.size
 have E := E.trans C6.of_nil
 refine dV 0 rfl rfl rfl (fun _ => Zd rfl) (dV 1 rfl rfl rfl (fun _ => Yf rfl) (dV 2 rfl rfl rfl (fun _ => Zh fa101_2 rfl) ?_))
 have F7 := d.ch0 C6
 refine dT 3 rfl rfl rfl (Xh F7.at_ (fun i hi => absurd hi List.not_mem_nil) agg3 rfl rfl ?_)
 refine dV 4 rfl rfl rfl (fun _ => Zgp om rfl rfl) (dV 5 rfl rfl rfl (fun _ => Zd rfl) (dV 6 rfl rfl rfl (fun _ => Yf rfl) (dV 7 rfl rfl rfl (fun _ => Zh fa101_2 rfl) ?_)))
 refine dT 8 rfl rfl rfl (Xh F7.at_ (fun i hi => absurd hi List.not_mem_nil) agg3 rfl rfl ?_)
 refine dV 9 rfl rfl rfl (fun _ => Zgp om rfl rfl) (dV 10 rfl rfl rfl (fun _ => Zwr rfl rfl) (dV 11 rfl rfl rfl (fun _ => Zeg rfl rfl) (dV 12 rfl rfl rfl (fun _ => Zf rfl) ?_)))
 refine Yc (by kernel_rfl) ?_
 refine Zb (H5 _ _ ?_)
 refine Zg fun K8 H8 => ?_
 refine Zg fun K9 H9 => ?_
 refine Xb [] 10 mixed rfl fun Q h => ?_
 have C := h.size
 have E := E.trans h.of_nil
 refine dV 0 rfl rfl rfl (fun _ => Zd rfl) (dV 1 rfl rfl rfl (fun _ => Yf rfl) (dV 2 rfl rfl rfl (fun _ => Zh fa101_1 rfl) ?_))
 have k := F7.ch0 h
 refine dT 3 rfl rfl rfl (Xh k.at_ (fun i hi => absurd hi List.not_mem_nil) agg3 rfl rfl ?_)
 refine dV 4 rfl rfl rfl (fun _ => Zd rfl) (dV 5 rfl rfl rfl (fun _ => Yf rfl) (dV 6 rfl rfl rfl (fun _ => Zh fa101_0 rfl) ?_))
 refine dT 7 rfl rfl rfl (Xh k.at_ (fun i hi => absurd hi List.not_mem_nil) agg22 rfl rfl ?_)
 refine dV 8 rfl rfl rfl (fun _ => Xc (by rw [el22]; rfl) rfl) (dV 9 rfl rfl rfl (fun _ => Xs rfl rfl) ?_)
 refine Yc (by kernel_rfl) ?_
 refine Zb (H9 _ _ ?_)
 refine Zp rfl (fun a => ?_) (fun a => ?_)
 ·have p := a
  have a := Yi a
  refine Zg fun R D => ?_
  refine Xb [] 15 mixed rfl fun S l => ?_
  have F := l.size
  have E := E.trans l.of_nil
  refine dV 0 rfl rfl rfl (fun _ => Zd rfl) (dV 1 rfl rfl rfl (fun _ => Zd rfl) (dV 2 rfl rfl rfl (fun _ => Yf rfl) (dV 3 rfl rfl rfl (fun _ => Zh fa101_0 rfl) ?_)))
  have m := k.ch0 l
  refine dT 4 rfl rfl rfl (Xh m.at_ (fun i hi => absurd hi List.not_mem_nil) agg22 rfl rfl ?_)
  refine dV 5 rfl rfl rfl (fun _ => Zd rfl) (dV 6 rfl rfl rfl (fun _ => Yf rfl) (dV 7 rfl rfl rfl (fun _ => Zh fa101_1 rfl) ?_))
  refine dT 8 rfl rfl rfl (Xh m.at_ (fun i hi => absurd hi List.not_mem_nil) agg3 rfl rfl ?_)
  have u := (((c.ch C3 (oS om)).ch0 C6).ch0 h).ch0 l
  refine dT 9 rfl rfl rfl (Xo (j := i_c.toNat) u Zhv el22 sz5 rfl rfl om om fun G q x r => ?_)
  refine dT 10 rfl rfl rfl (Yx r (fun i hi => absurd hi List.not_mem_nil) agg5 rfl rfl ?_)
  refine dV 11 rfl rfl rfl (fun _ => Zdo (by rw [un5]; rfl) un3 rfl) (dV 12 rfl rfl rfl (fun _ => Zju rfl rfl) (dV 13 rfl rfl rfl (fun _ => Zeg rfl rfl) (dV 14 rfl rfl rfl (fun _ => Zf rfl) ?_)))
  refine Yc (by kernel_rfl) ?_
  refine Zb (D _ _ (Zc (Za rfl rfl (Zd rfl) (Za rfl rfl (Zd rfl) (Za rfl rfl (Yf rfl) (Za rfl rfl (Zh fa101_1 rfl) (Za rfl rfl (Zk m.at_ agg3 rfl rfl) (Za rfl rfl (Yo om rfl rfl) ?_))))))))
  refine Za rfl rfl (Yf rfl) (Za rfl rfl (Zh fa101_1 rfl) (Zm rfl rfl ?_))
  refine Xm (off := 1) m sz3 rfl rfl rfl rfl fun H b s => ?_
  have I := s.size
  have E := E.trans s
  replace b : Blk H b_c t_c [(.slice e x_c.length f), (.int .i64 (i_c + 1)), (.int .i64 (w64 ((w64 (k_c * 6364136223846793005)) + 1442695040888963407)))] := b
  refine Ze (Zb (H8 _ _ ?_))
  refine Zg fun T J => ?_
  refine Zc (Za rfl rfl (Zd rfl) (Za rfl rfl (Zf rfl) (Ze (Zb (J _ _ ?_)))))
  refine Zq ?_
  have K := u.ch s (oS om)
  exact Zi [_] ⟨rfl, trivial⟩ ⟨(iand (w64 ((iand (ixor (ishr (w64 ((w64 (k_c * 6364136223846793005)) + 1442695040888963407)) 33) (ishr (w64 ((w64 (k_c * 6364136223846793005)) + 1442695040888963407)) 45)) 255) + (w64 q))) 255), (congrArg (fun zq => (Value.int .i64 zq)) (by first | rfl | simp_all)), (Zpv _), ⟨_, _, _, _, _, b, K, om, om⟩, E⟩
 have p := a
 have a := Yj a
 refine Zu ?_
 refine Zb (H8 _ _ ?_)
 refine Zg fun U L => ?_
 refine Zc (Za rfl rfl (Zd rfl) (Za rfl rfl (Zf rfl) (Ze (Zb (L _ _ ?_)))))
 refine Zq ?_
 have M := ((c.ch C3 (oS om)).ch0 C6).ch0 h
 exact Zi [_] ⟨rfl, trivial⟩ ⟨(iand (ixor (ishr (w64 ((w64 (k_c * 6364136223846793005)) + 1442695040888963407)) 33) (ishr (w64 ((w64 (k_c * 6364136223846793005)) + 1442695040888963407)) 45)) 255), (congrArg (fun zq => (Value.int .i64 zq)) (by first | rfl | simp_all)), (Zpv _), ⟨_, _, _, _, _, k, M, om, om⟩, E⟩

/-- spec.l1Below -/
theorem Xr {w : World} {b_c : Nat} (c : Cu w b_c) (n : Int) (hn : 0 < n) :
 Ctr Try.prog 42 #[(.pointer (some ⟨b_c, 0, none⟩)), (.int .i64 n)] w (fun v w' => ∃ (i : Int) , v = .int .i64 i ∧ (0 ≤ i ∧ i < n) ∧ Cu w' b_c ∧ Ch [b_c] w w') := by
 have B := c.lt
 have E := Ch.refl [b_c] w
 refine Ye (N := 37) (vs0 := [(.pointer (some ⟨b_c, 0, none⟩)), (.int .i64 n)]) Try.func42 rfl rfl rfl ?_
 refine Zg fun K1 H1 => ?_
 refine Zc (Za rfl rfl (Zf rfl) (Ze (Zb (H1 _ _ ?_))))
 refine Zg fun K2 H2 => ?_
 refine Zg fun K3 H3 => ?_
 refine Zc (Za rfl rfl (Zd rfl) (Za rfl rfl (Zgl rfl rfl) (Ze (Zb (H3 _ _ ?_)))))
 refine Zp rfl (fun a => ?_) (fun a => ?_)
 ·have I := a
  have a := Yi a
  refine Zg fun K5 H5 => ?_
  refine Zc (Za rfl rfl (Zf rfl) (Ze (Zb (H5 _ _ ?_))))
  refine Zq (Zo ?_)
  exact Zi [_] ⟨rfl, trivial⟩ ⟨0, (congrArg (fun zq => (Value.int .i64 zq)) (by first | rfl | simp_all)), (by first | exact Zkc om om | omega), c, E⟩
 have I := a
 have a := Yj a
 refine Zu ?_
 refine Zb (H2 _ _ ?_)
 refine Zg fun K6 H6 => ?_
 refine Zg fun K7 H7 => ?_
 refine Zc (Za rfl rfl (Zd rfl) (Za rfl rfl (Zgl rfl rfl) (Ze (Zb (H7 _ _ ?_)))))
 refine Zp rfl (fun b => ?_) (fun b => ?_)
 ·have J := b
  have b := Yi b
  refine Zg fun K9 H9 => ?_
  refine Zc (Za rfl rfl (Zd rfl) (Zm rfl rfl ?_))
  refine Step.call (Zl (xs := [.tmp 13]) fk86 rfl) (Zbn c ) fun K ab j => ?_
  obtain ⟨d, rfl, k, l, C⟩ := j
  have L := C.size
  have E := E.trans C
  refine Za rfl rfl (Zd rfl) (Za rfl rfl (Ztm om rfl rfl) (Za rfl rfl (Zf rfl) (Ze (Zb (H9 _ _ ?_)))))
  refine Zq (Zo ?_)
  exact Zi [_] ⟨rfl, trivial⟩ ⟨(d.tmod n), (congrArg (fun zq => (Value.int .i64 zq)) (by first | rfl | simp_all)), (by first | exact Zkc om om | omega), l, E⟩
 have J := b
 have b := Yj b
 refine Zu ?_
 refine Zb (H6 _ _ ?_)
 refine Zg fun ac M => ?_
 refine Zc (Za rfl rfl (Zd rfl) (Zm rfl rfl ?_))
 refine Step.call (Zl (xs := [.tmp 17]) fk86 rfl) (Zbn c ) fun O ad m => ?_
 obtain ⟨e, rfl, o, p, D⟩ := m
 have P := D.size
 have E := E.trans D
 refine Za rfl rfl (Zf rfl) (Ze (Zb (M _ _ ?_)))
 refine Zg fun ae Q => ?_
 refine Zc (Za rfl rfl (Zd rfl) (Zm rfl rfl ?_))
 refine Step.call (Zl (xs := [.tmp 19]) fk86 rfl) (Zbn p ) fun R af q => ?_
 obtain ⟨f, rfl, r, s, F⟩ := q
 have S := F.size
 have E := E.trans F
 refine Za rfl rfl (Zf rfl) (Ze (Zb (Q _ _ ?_)))
 refine Zg fun ag T => ?_
 refine Zc (Za rfl rfl (Zd rfl) (Zm rfl rfl ?_))
 refine Step.call (Zl (xs := [.tmp 21]) fk86 rfl) (Zbn s ) fun U ah t => ?_
 obtain ⟨g, rfl, u, x, G⟩ := t
 have V := G.size
 have E := E.trans G
 refine Za rfl rfl (Zf rfl) (Ze (Zb (T _ _ ?_)))
 refine Zg fun ai X => ?_
 refine Zc (Za rfl rfl (Zd rfl) (Zm rfl rfl ?_))
 refine Step.call (Zl (xs := [.tmp 23]) fk86 rfl) (Zbn x ) fun Y aj y => ?_
 obtain ⟨h, rfl, z, A, H⟩ := y
 have Z := H.size
 have E := E.trans H
 refine Za rfl rfl (Zf rfl) (Ze (Zb (X _ _ ?_)))
 refine Zg fun ak aa => ?_
 refine Zc (Za rfl rfl (Zd rfl) (Za rfl rfl (Zok om rfl rfl) (Za rfl rfl (Zd rfl) (Za rfl rfl (Zok om rfl rfl) (Za rfl rfl (Yo om rfl rfl) (Za rfl rfl (Zd rfl) (Za rfl rfl (Zok om rfl rfl) ?_)))))))
 refine Za rfl rfl (Yo om rfl rfl) (Za rfl rfl (Zd rfl) (Za rfl rfl (Yo om rfl rfl) (Za rfl rfl (Zd rfl) (Za rfl rfl (Ztm om rfl rfl) (Za rfl rfl (Zf rfl) (Ze (Zb (aa _ _ ?_))))))))
 refine Zq ?_
 exact Zi [_] ⟨rfl, trivial⟩ ⟨(((((e * 16777216) + (f * 65536)) + (g * 256)) + h).tmod n), (congrArg (fun zq => (Value.int .i64 zq)) (by first | rfl | simp_all)), (by first | exact Zkc om om | omega), A, E⟩

/-- spec.l1Once -/
theorem Zam {w : World} {b_c : Nat} (a : Cu w b_c) (n : Int) (hn : 0 < n) :
 Ctr Try.prog 96 #[(.pointer (some ⟨b_c, 0, none⟩)), (.int .i64 n)] w (fun v w' => ∃ (e : Bool) , v = .bool e ∧ Cu w' b_c ∧ Ch [b_c] w w') := by
 have c := a.lt
 have E := Ch.refl [b_c] w
 refine Ye (N := 9) (vs0 := [(.pointer (some ⟨b_c, 0, none⟩)), (.int .i64 n)]) Try.func96 rfl rfl rfl ?_
 refine Zg fun K1 H1 => ?_
 refine Zc (Za rfl rfl (Zf rfl) (Ze (Zb (H1 _ _ ?_))))
 refine Zg fun K2 H2 => ?_
 refine Zc (Za rfl rfl (Zd rfl) (Za rfl rfl (Zd rfl) (Zm rfl rfl ?_)))
 refine Step.call (Zl (xs := [.tmp 5, .tmp 6]) fk42 rfl) (Xr a _ om) fun h W3 f => ?_
 obtain ⟨b, rfl, d, g, C3⟩ := f
 have i := C3.size
 have E := E.trans C3
 refine Za rfl rfl (Yy rfl rfl) (Za rfl rfl (Zf rfl) (Ze (Zb (H2 _ _ ?_))))
 refine Zq ?_
 exact Zi [_] ⟨rfl, trivial⟩ ⟨(decide (b = 0)), (congrArg (fun zq => (Value.bool zq)) (by first | rfl | simp_all)), g, E⟩

/-- spec.l2Cut -/
theorem Zlr {w : World} (s : List UInt8) (sep : Int) (hb : s.length ≤ 4194304) :
 Ctr Try.prog 142 #[(bst s), (.int .u8 sep)] w (fun v w' => Ol scs 9 1 w' v (Qe s sep []) ∧ Lo w.heap.size v ∧ Ch [] w w') := by
 have E := Ch.refl [] w
 refine Ye (N := 35) (vs0 := [(bst s), (.int .u8 sep)]) Try.func142 rfl rfl rfl ?_
 refine Zg fun K1 H1 => ?_
 refine Zc (Za rfl rfl (Zf rfl) (Ze (Zb (H1 _ _ ?_))))
 refine Zg fun K2 H2 => ?_
 refine Zc (Zm rfl rfl ?_)
 refine Zab (k := 1) scs el160 sz9 fun aC W3 L A C3 => ?_
 have aD := C3.size
 have E := E.trans C3
 obtain ⟨l, m, rfl, af, M⟩ := L.opn
 refine Za rfl rfl (Zf rfl) (Ze (Zb (H2 _ _ ?_)))
 refine Zg fun K4 H4 => ?_
 refine Zc (Za rfl rfl (Zf rfl) (Ze (Zb (H4 _ _ ?_))))
 refine Zg fun K5 H5 => ?_
 refine Zg fun K6 H6 => ?_
 refine Zc (Za rfl rfl (Zf rfl) (Ze (Zb (H6 _ _ ?_))))
 refine Zx ?_
 have n : Ol scs 9 1 W3 (.slice l (([] : List (List UInt8))).length m) (([] : List (List UInt8))) := by
  have hx := L
  exact hx
 refine Xi (σ := Nat × Nat × List (List UInt8) × Value) (fun ⟨i, f, out, ov⟩ => [(0, (bst s)), (1, (.int .u8 sep)), (4, (.slice none 0 0)), (5, ov), (6, (.int .i64 ((f : Nat) : Int))), (7, (.int .i64 ((i : Nat) : Int)))]) (fun ⟨i, f, out, ov⟩ wx => Ch [] w wx ∧ W3.heap.size ≤ wx.heap.size ∧ (f ≤ i ∧ i ≤ s.length) ∧ (out ++ Qe (s.drop i) sep ((s.drop f).take (i - f)) = Qe s sep []) ∧ Ol scs 9 1 wx ov out ∧ Lo w.heap.size ov) (fun ⟨i, f, out, ov⟩ => s.length - i) (0, 0, ([] : List (List UInt8)), (.slice l (([] : List (List UInt8))).length m)) (sC4 rfl rfl rfl rfl (sC2 rfl rfl (Sub.nil _))) ⟨E, (Nat.le_refl _), om, Zri, n, A⟩ ?_
 rintro ⟨i, f, out, ov⟩ R8 ⟨E, ag, hi, hc, d, a⟩
 have B := E
 have O := B.size
 obtain ⟨Aov, Cov, rfl, lov, hiov⟩ := d.opn
 have ah := congrArg List.length hc
 have aE := Zha s sep []
 rw [List.length_append] at ah
 refine Zg fun K9 H9 => ?_
 refine Zg fun aF ai => ?_
 refine Zc (Za rfl rfl (Zd rfl) (Za rfl rfl (Zd rfl) (Za rfl rfl (Zta un9 rfl) (Za rfl rfl (Xs rfl rfl) (Ze (Zb (ai _ _ ?_)))))))
 refine Zp rfl (fun c => ?_) (fun c => ?_)
 ·have C := c
  have c := Yi c
  refine Zu ?_
  refine Zb (H9 _ _ ?_)
  refine Zg fun aG P => ?_
  refine Zx ?_
  refine Zg fun aH aj => ?_
  refine Zc (Za rfl rfl (Zd rfl) (Za rfl rfl (Zd rfl) (Za rfl rfl (Zdw om un9 rfl rfl) (Za rfl rfl (Zd rfl) (Za rfl rfl (Yy rfl rfl) (Ze (Zb (aj _ _ ?_))))))))
  refine Zp rfl (fun b => ?_) (fun b => ?_)
  ·have D := b
   have b := Yi b
   refine Zg fun aI ak => ?_
   refine Zc (Za rfl rfl (Zd rfl) (Za rfl rfl (Zd rfl) (Za rfl rfl (Zd rfl) (Za rfl rfl (Zd rfl) (Za rfl rfl (Zwk om un9 rfl rfl rfl) (Zm rfl rfl ?_))))))
   refine Ym (cs := scs) (parts := [(0, .tmp 24)]) ([] : List UInt8) [((s.drop f).take (i - f))] el160 sz9 zr9 Zej (by decide) rfl rfl rfl (by decide) (by decide) rfl fun al aJ o Q F => ?_
   have am := F.size
   have E := E.trans F
   obtain ⟨R, S, rfl, T, G⟩ := o.opn
   refine Zm rfl rfl ?_
   have an := d.ch0 F
   refine Xn (cs := scs) el160 sz9 by9 zr9 rfl (by decide) Zqa an o.ls rfl rfl bd bd a om fun ao ap p q U V => ?_
   have aq := V.size
   have E := E.step V (fun i hi => .inl (by have au := a _ hi; omega))
   obtain ⟨e, g, rfl, X, H⟩ := p.opn
   refine Za rfl rfl (Zf rfl) (Ze (Zb (ak _ _ (Zc (Za rfl rfl (Zd rfl) (Za rfl rfl (Yo om rfl rfl) (Za rfl rfl (Zf rfl) (Ze ?_))))))))
   refine Zw (Zb (P _ _ (Zc (Za rfl rfl (Zd rfl) (Za rfl rfl (Yo om rfl rfl) (Za rfl rfl (Zf rfl) (Ze ?_)))))))
   have h : Ol scs 9 1 ap (.slice e ((out ++ [((s.drop f).take (i - f))])).length g) ((out ++ [((s.drop f).take (i - f))])) := by
    have hx := p
    exact hx
   exact Zb (Exists.intro ((i + 1), (i + 1), (out ++ [((s.drop f).take (i - f))]), (.slice e ((out ++ [((s.drop f).take (i - f))])).length g)) ⟨⟨E, om, om, (by first | exact Zpa hc om b | exact Zng hc om om b), h, (Lo.down q om)⟩, sC4 rfl rfl rfl rfl (sC2 rfl rfl (Sub.nil _)), (by first | omega | (dsimp only; omega))⟩)
  have D := b
  have b := Yj b
  refine Zu ?_
  refine Zw (Zb (P _ _ (Zc (Za rfl rfl (Zd rfl) (Za rfl rfl (Yo om rfl rfl) (Za rfl rfl (Zf rfl) (Ze ?_)))))))
  have j : Ol scs 9 1 R8 (.slice Aov (out).length Cov) (out) := by
   have hx := d
   exact hx
  exact Zb (Exists.intro ((i + 1), f, out, (.slice Aov (out).length Cov)) ⟨⟨E, om, om, (by first | exact Zpa hc om b | exact Zng hc om om b), j, (Lo.down a om)⟩, sC4 rfl rfl rfl rfl (sC2 rfl rfl (Sub.nil _)), (by first | omega | (dsimp only; omega))⟩)
 have C := c
 have c := Yj c
 refine Xe (Zr (Zr (Yu ?_)))
 refine Zb (H5 _ _ ?_)
 refine Zg fun aK av => ?_
 refine Zc (Za rfl rfl (Zd rfl) (Za rfl rfl (Zd rfl) (Za rfl rfl (Zd rfl) (Za rfl rfl (Zts om un9 rfl rfl) (Zm rfl rfl ?_)))))
 refine Ym (cs := scs) (parts := [(0, .tmp 32)]) ([] : List UInt8) [(s.drop f)] el160 sz9 zr9 Zej (by decide) rfl rfl rfl (by decide) (by decide) rfl fun aw aL r Y I => ?_
 have ax := I.size
 have E := E.trans I
 obtain ⟨Z, aa, rfl, ab, J⟩ := r.opn
 refine Zm rfl rfl ?_
 have ay := d.ch0 I
 refine Xn (cs := scs) el160 sz9 by9 zr9 rfl (by decide) Zqa ay r.ls rfl rfl bd bd a om fun az aA t u ac ad => ?_
 have aB := ad.size
 have E := E.step ad (fun i hi => .inl (by have au := a _ hi; omega))
 obtain ⟨x, y, rfl, ae, K⟩ := t.opn
 refine Za rfl rfl (Zf rfl) (Ze (Zb (av _ _ ?_)))
 refine Zq ?_
 have z : Ol scs 9 1 aA (.slice x ((out ++ [(s.drop f)])).length y) (Qe s sep []) := by
  have hx := t
  exact hx.eq (Ztt hc om)
 exact Zi [_] ⟨rfl, trivial⟩ ⟨z, Lo.down u om, E⟩

/-- spec.FormatLetter -/
theorem Zck {w : World} (n : Int) :
 Ctr Try.prog 146 #[(.int .i64 n)] w (fun v w' => v = bst (fmtL n) ∧ Ch [] w w') := by
 have E := Ch.refl [] w
 refine Ye (N := 10) (vs0 := [(.int .i64 n)]) Try.func146 rfl rfl rfl ?_
 refine Zg fun K1 H1 => ?_
 refine Zc (Za rfl rfl (Zf rfl) (Ze (Zb (H1 _ _ ?_))))
 refine Zg fun K2 H2 => ?_
 refine Zg fun K3 H3 => ?_
 refine Zc (Za rfl rfl (Zd rfl) (Zm rfl rfl ?_))
 refine Step.call (Zl (xs := [.tmp 3]) fk75 rfl) (Zci _ ) fun m W4 e => ?_
 obtain ⟨rfl, C4⟩ := e
 have o := C4.size
 have E := E.trans C4
 refine Za rfl rfl (Zbh rfl) (Ze (Zb (H3 _ _ ?_)))
 refine Zp rfl (fun a => ?_) (fun a => ?_)
 ·have f := a
  have a := Yj (Qu a)
  refine Zg fun K6 H6 => ?_
  refine Zc (Za rfl rfl (Zf rfl) (Ze (Zb (H6 _ _ ?_))))
  refine Zq (Zo ?_)
  exact Zi [_] ⟨rfl, trivial⟩ ⟨congrArg bst (Zwf om), E⟩
 have f := a
 have a := Yi (Qv a)
 refine Zu ?_
 refine Zb (H2 _ _ ?_)
 refine Zg fun K7 H7 => ?_
 refine Zc (Zm rfl rfl ?_)
 refine Ym (cs := scs) (parts := [(0, .const (Go.Value.string { data := #[97] })), (1, .const (Go.Value.string { data := #[97, 45] })), (2, .const (Go.Value.string { data := #[98] })), (3, .const (Go.Value.string { data := #[98, 45] })), (4, .const (Go.Value.string { data := #[99] })), (5, .const (Go.Value.string { data := #[99, 45] })), (6, .const (Go.Value.string { data := #[48] })), (7, .const (Go.Value.string { data := #[49] })), (8, .const (Go.Value.string { data := #[50] }))]) ([] : List UInt8) [[97], [97, 45], [98], [98, 45], [99], [99, 45], [48], [49], [50]] el160 sz9 zr9 Zej (by decide) rfl rfl rfl (by decide) (by decide) rfl fun p W8 c g C8 => ?_
 have q := C8.size
 have E := E.trans C8
 obtain ⟨h, i, rfl, k, d⟩ := c.opn
 refine Za rfl rfl (Zd rfl) (Zm rfl rfl ?_)
 refine (Yw (j := n.toNat) c.ls Zej el160 sz9 rfl rfl om (by first | omega | (simp; omega)) fun r s b l => ?_)
 refine Za rfl rfl (Yr l agg9 rfl rfl) (Za rfl rfl (Zf rfl) (Ze (Zb (H7 _ _ ?_))))
 refine Zq ?_
 exact Zi [_] ⟨rfl, trivial⟩ ⟨congrArg bst (Zvr om b), E⟩

/-- spec.ParseLetter -/
theorem Zff {w : World} (s : List UInt8) :
 Ctr Try.prog 145 #[(bst s)] w (fun v w' => v = .tuple #[.int .i64 ((plR s).1), .bool ((plR s).2)] ∧ Ch [] w w') := by
 have E := Ch.refl [] w
 refine Ye (N := 14) (vs0 := [(bst s)]) Try.func145 rfl rfl rfl ?_
 refine Zg fun K1 H1 => ?_
 refine Zc (Za rfl rfl (Zf rfl) (Za rfl rfl (Zf rfl) (Ze (Zb (H1 _ _ ?_)))))
 refine Zg fun K2 H2 => ?_
 refine Zg fun K3 H3 => ?_
 refine Zc (Za rfl rfl (Zf rfl) (Ze (Zb (H3 _ _ ?_))))
 refine Zx ?_
 refine Xi (σ := Nat) (fun (k : Nat) => [(0, (bst s)), (4, (.int .i64 ((k : Nat) : Int)))]) (fun (k : Nat) wx => Ch [] w wx ∧ w.heap.size ≤ wx.heap.size ∧ (k ≤ 9) ∧ (ltrI s k = none)) (fun (k : Nat) => 9 - k) 0 (sC2 rfl rfl (Sub.nil _)) ⟨E, (Nat.le_refl _), om, Zqj⟩ ?_
 rintro k R4 ⟨E, h, o, hn⟩
 have c := E
 have f := c.size
 refine Zg fun K5 H5 => ?_
 refine Zg fun K6 H6 => ?_
 refine Zc (Za rfl rfl (Zd rfl) (Za rfl rfl (Xs rfl rfl) (Ze (Zb (H6 _ _ ?_)))))
 refine Zp rfl (fun b => ?_) (fun b => ?_)
 ·have i := b
  have b := Yi b
  refine Zu ?_
  refine Zb (H5 _ _ ?_)
  refine Zg fun K8 H8 => ?_
  refine Zx ?_
  refine Zg fun K9 H9 => ?_
  refine Zc (Za rfl rfl (Zd rfl) (Zm rfl rfl ?_))
  refine Step.call (Zl (xs := [.tmp 9]) fk146 rfl) (Zck _ ) fun j p d => ?_
  obtain ⟨rfl, g⟩ := d
  have l := g.size
  have E := E.trans g
  refine Za rfl rfl (Zd rfl) (Za rfl rfl (Zsu rfl rfl) (Ze (Zb (H9 _ _ ?_))))
  refine Zp rfl (fun a => ?_) (fun a => ?_)
  ·have e := a
   have a := Yi a
   refine Zg fun q m => ?_
   refine Zc (Za rfl rfl (Zd rfl) (Za rfl rfl (Zf rfl) (Za rfl rfl (Zf rfl) (Ze (Zb (m _ _ ?_))))))
   refine Zq (Yd (Zo (Zo (Yd (Zo ?_)))))
   clear H2 H8
   exact Zi [_, _] ⟨rfl, ⟨rfl, trivial⟩⟩ ⟨((congrArg (fun zq => (Value.tuple #[.int .i64 zq, .bool true])) (by first | exact congrArg Prod.fst (Zrb hn om a) | exact congrArg Prod.fst (Zrd hn om om))).trans (congrArg (fun zq => (Value.tuple #[.int .i64 ((plR s).1), .bool zq])) (by first | exact congrArg Prod.snd (Zrb hn om a) | exact congrArg Prod.snd (Zrd hn om om)))), E⟩
  have e := a
  have a := Yj a
  refine Zu ?_
  refine Zw (Zb (H8 _ _ (Zc (Za rfl rfl (Zd rfl) (Za rfl rfl (Yo om rfl rfl) (Za rfl rfl (Zf rfl) (Ze ?_)))))))
  exact Zb (Exists.intro (k + 1) ⟨⟨E, om, om, (Zvv hn om a)⟩, sC2 rfl rfl (Sub.nil _), (by first | omega | (dsimp only; omega))⟩)
 have i := b
 have b := Yj b
 refine Xe (Zr (Zr (Yu ?_)))
 refine Zb (H2 _ _ ?_)
 refine Zg fun r n => ?_
 refine Zc (Za rfl rfl (Zf rfl) (Za rfl rfl (Zf rfl) (Ze (Zb (n _ _ ?_)))))
 refine Zq ?_
 exact Zi [_, _] ⟨rfl, ⟨rfl, trivial⟩⟩ ⟨((congrArg (fun zq => (Value.tuple #[.int .i64 zq, .bool false])) (by first | exact congrArg Prod.fst (Zrb hn om a) | exact congrArg Prod.fst (Zrd hn om om))).trans (congrArg (fun zq => (Value.tuple #[.int .i64 ((plR s).1), .bool zq])) (by first | exact congrArg Prod.snd (Zrb hn om a) | exact congrArg Prod.snd (Zrd hn om om)))), E⟩

/-- spec.FormatInt -/
theorem Zdi {w : World} (n : Int) (z : -9223372036854775808 ≤ n ∧ n ≤ 9223372036854775807) :
 Ctr Try.prog 147 #[(.int .i64 n)] w (fun v w' => v = bst (fmtI n) ∧ Ch [] w w') := by
 have E := Ch.refl [] w
 refine Ye (N := 31) (vs0 := [(.int .i64 n)]) Try.func147 rfl rfl rfl ?_
 refine Zg fun K1 H1 => ?_
 refine Zc (Za rfl rfl (Zf rfl) (Ze (Zb (H1 _ _ ?_))))
 refine Zg fun K2 H2 => ?_
 refine Zg fun K3 H3 => ?_
 refine Zc (Za rfl rfl (Zd rfl) (Za rfl rfl (Yy rfl rfl) (Ze (Zb (H3 _ _ ?_)))))
 refine Zp rfl (fun e => ?_) (fun e => ?_)
 ·have A := e
  have e := Yi e
  refine Zg fun K5 H5 => ?_
  refine Zc (Za rfl rfl (Zf rfl) (Ze (Zb (H5 _ _ ?_))))
  refine Zq (Zo ?_)
  exact Zi [_] ⟨rfl, trivial⟩ ⟨congrArg bst (Zwl e), E⟩
 have A := e
 have e := Yj e
 refine Zu ?_
 refine Zb (H2 _ _ ?_)
 refine Zg fun K6 H6 => ?_
 refine Zc (Za rfl rfl (Zf rfl) (Ze (Zb (H6 _ _ ?_))))
 refine Zg fun K7 H7 => ?_
 refine Zc (Za rfl rfl (Zd rfl) (Za rfl rfl (Xs rfl rfl) (Za rfl rfl (Zf rfl) (Ze (Zb (H7 _ _ ?_))))))
 refine Zg fun K8 H8 => ?_
 refine Zx ?_
 refine Xi (σ := Int × List UInt8) (fun ⟨m, out⟩ => [(0, (.int .i64 m)), (2, (bst ([] : List UInt8))), (3, (bst out)), (4, (.bool (decide (n < 0))))]) (fun ⟨m, out⟩ wx => Ch [] w wx ∧ w.heap.size ≤ wx.heap.size ∧ (dgF 20 m.natAbs ++ out = dgF 20 n.natAbs) ∧ (-9223372036854775808 ≤ m ∧ m ≤ 9223372036854775807)) (fun ⟨m, out⟩ => m.natAbs) (n, ([] : List UInt8)) (sC4 rfl rfl rfl rfl (Sub.nil _)) ⟨E, (Nat.le_refl _), (by simp), z⟩ ?_
 rintro ⟨m, out⟩ R9 ⟨E, B, hm, hr⟩
 have k := E
 have r := k.size
 have C := congrArg List.length hm
 have P := Zmd 20 n.natAbs
 rw [List.length_append] at C
 refine Zg fun Q s => ?_
 refine Zg fun R D => ?_
 refine Zc (Za rfl rfl (Zd rfl) (Za rfl rfl (Zbg rfl rfl) (Ze (Zb (D _ _ ?_)))))
 refine Zp rfl (fun a => ?_) (fun a => ?_)
 ·have l := a
  have a := Yj (Qu a)
  have S := tm10 m
  refine Zu ?_
  refine Zb (s _ _ ?_)
  refine Zx ?_
  refine Zg fun T F => ?_
  refine Zc (Za rfl rfl (Zd rfl) (Za rfl rfl (Ztm om rfl rfl) (Za rfl rfl (Zf rfl) (Ze (Zb (F _ _ ?_))))))
  refine Zg fun U t => ?_
  refine Zg fun V G => ?_
  refine Zc (Za rfl rfl (Zd rfl) (Za rfl rfl (Xs rfl rfl) (Ze (Zb (G _ _ ?_)))))
  refine Zp rfl (fun c => ?_) (fun c => ?_)
  ·have o := c
   have c := Yi c
   refine Zc (Za rfl rfl (Zd rfl) (Za rfl rfl (Zwo om rfl) (Za rfl rfl (Zf rfl) (Ze (Zb (t _ _ ?_))))))
   refine Zg fun X H => ?_
   refine Zc (Za rfl rfl (Zd rfl) (Za rfl rfl (Yo om rfl rfl) (Za rfl rfl (Zdo (by rw [un3]; rfl) un5 rfl) (Zm rfl rfl ?_))))
   refine Ym (cs := ucs) (parts := [(0, .tmp 20)]) (0 : Int) [(w8 (48 + (-(m.tmod 10))))] el22 sz5 zr5 Zhv (by decide) rfl rfl rfl (by decide) (by decide) rfl fun p Y d g u => ?_
   have I := u.size
   have E := E.trans u
   obtain ⟨h, i, rfl, j, f⟩ := d.opn
   refine Za rfl rfl (Zjd d.ls el22 un5 un9 rfl) (Za rfl rfl (Zd rfl) (Za rfl rfl (Zhj (by (simp only [u8s, List.map_cons, List.map_nil, List.length_cons, List.length_nil]; omega)) rfl rfl) (Za rfl rfl (Zf rfl) (Ze (Zb (H _ _ (Zc (Za rfl rfl (Zd rfl) ?_))))))))
   refine Za rfl rfl (Zvc om (td10 om) rfl rfl) (Za rfl rfl (Zf rfl) (Ze (Zw ?_)))
   exact Zb (Exists.intro ((m.tdiv 10), ((u8s ([(w8 (48 + (-(m.tmod 10))))])) ++ out)) ⟨⟨E, om, (Zpk hm a hr (by first | exact .inl rfl | exact .inr rfl) om), (td10 hr)⟩, sC4 rfl rfl rfl rfl (Sub.nil _), (Zvl a)⟩)
  have o := c
  have c := Yj c
  refine Zu ?_
  refine Zb (t _ _ ?_)
  refine Zg fun Z J => ?_
  refine Zc (Za rfl rfl (Zd rfl) (Za rfl rfl (Yo om rfl rfl) (Za rfl rfl (Zdo (by rw [un3]; rfl) un5 rfl) (Zm rfl rfl ?_))))
  refine Ym (cs := ucs) (parts := [(0, .tmp 20)]) (0 : Int) [(w8 (48 + (m.tmod 10)))] el22 sz5 zr5 Zhv (by decide) rfl rfl rfl (by decide) (by decide) rfl fun p aa d g x => ?_
  have K := x.size
  have E := E.trans x
  obtain ⟨h, i, rfl, j, f⟩ := d.opn
  refine Za rfl rfl (Zjd d.ls el22 un5 un9 rfl) (Za rfl rfl (Zd rfl) (Za rfl rfl (Zhj (by (simp only [u8s, List.map_cons, List.map_nil, List.length_cons, List.length_nil]; omega)) rfl rfl) (Za rfl rfl (Zf rfl) (Ze (Zb (J _ _ (Zc (Za rfl rfl (Zd rfl) ?_))))))))
  refine Za rfl rfl (Zvc om (td10 om) rfl rfl) (Za rfl rfl (Zf rfl) (Ze (Zw ?_)))
  exact Zb (Exists.intro ((m.tdiv 10), ((u8s ([(w8 (48 + (m.tmod 10)))])) ++ out)) ⟨⟨E, om, (Zpk hm a hr (by first | exact .inl rfl | exact .inr rfl) om), (td10 hr)⟩, sC4 rfl rfl rfl rfl (Sub.nil _), (Zvl a)⟩)
 have l := a
 have a := Yi (Qv a)
 refine Xe (Zr (Zr (Yu ?_)))
 refine Zb (H8 _ _ ?_)
 refine Zg fun ab y => ?_
 refine Zg fun ac L => ?_
 refine Zc (Za rfl rfl (Zd rfl) (Ze (Zb (L _ _ ?_))))
 refine Zp rfl (fun b => ?_) (fun b => ?_)
 ·have q := b
  have b := Yi b
  refine Zg fun ad M => ?_
  refine Zc (Za rfl rfl (Zd rfl) (Za rfl rfl (Zhj (by (simp only [u8s, List.map_cons, List.map_nil, List.length_cons, List.length_nil]; omega)) rfl rfl) (Za rfl rfl (Zf rfl) (Ze (Zb (M _ _ ?_))))))
  refine Zq (Zo ?_)
  clear s y
  exact Zi [_] ⟨rfl, trivial⟩ ⟨congrArg bst (Zrp b (Zsn hm a)), E⟩
 have q := b
 have b := Yj b
 refine Zu ?_
 refine Zb (y _ _ ?_)
 refine Zg fun ae O => ?_
 refine Zc (Za rfl rfl (Zd rfl) (Za rfl rfl (Zf rfl) (Ze (Zb (O _ _ ?_)))))
 refine Zq ?_
 exact Zi [_] ⟨rfl, trivial⟩ ⟨congrArg bst (Zrh b e (Zsn hm a)), E⟩

/-- spec.l8Token -/
theorem Zim {w : World} (t : Token) (hl : 0 ≤ t.low ∧ t.low ≤ 255) (hh : 0 ≤ t.high ∧ t.high ≤ 255) :
 Ctr Try.prog 144 #[(.agg #[(.int .i64 t.kind), (.int .i64 t.letter), (.int .i64 t.low), (.int .i64 t.high)])] w (fun v w' => v = bst (tokS t) ∧ Ch [] w w') := by
 have E := Ch.refl [] w
 have Z := Zne t.low; have aa := Zne t.high
 refine Ye (N := 30) (vs0 := [(.agg #[(.int .i64 t.kind), (.int .i64 t.letter), (.int .i64 t.low), (.int .i64 t.high)])]) Try.func144 rfl rfl rfl ?_
 refine Zg fun K1 H1 => ?_
 refine Zc (Zm rfl rfl ?_)
 refine Qw rfl fun A W2 h C2 ab => ?_
 have ac := C2.size
 have E := E.trans C2
 have ad := h.lt
 replace h : Blk W2 A 84 [(.int .i64 t.kind), (.int .i64 t.letter), (.int .i64 t.low), (.int .i64 t.high)] := h
 refine Za rfl rfl (Zf rfl) (Ze (Zb (H1 _ _ ?_)))
 refine Zg fun K3 H3 => ?_
 refine Zg fun K4 H4 => ?_
 refine Zc (Za rfl rfl (Zh fa84_0 rfl) (Za rfl rfl (Zk h.at_ agg3 rfl rfl) (Ze (Zb (H4 _ _ ?_)))))
 refine Zx ?_
 refine Zg fun K5 H5 => ?_
 refine Zc (Za rfl rfl (Yy rfl rfl) (Za rfl rfl (Zf rfl) (Ze (Zb (H5 _ _ ?_)))))
 refine Zp rfl (fun d => ?_) (fun d => ?_)
 ·have B := d
  have d := Yi d
  refine Zg fun K7 H7 => ?_
  refine Zc (Za rfl rfl (Zf rfl) (Ze (Zb (H7 _ _ ?_))))
  refine Zq (Yd (Zo ?_))
  exact Zi [_] ⟨rfl, trivial⟩ ⟨congrArg bst (by unfold tokS; rw [if_pos d]), E⟩
 have B := d
 have d := Yj d
 refine Zg fun K8 H8 => ?_
 refine Zc (Za rfl rfl (Yy rfl rfl) (Za rfl rfl (Zf rfl) (Ze (Zb (H8 _ _ ?_)))))
 refine Zp rfl (fun e => ?_) (fun e => ?_)
 ·have C := e
  have e := Yi e
  refine Zg fun ae D => ?_
  refine Zc (Za rfl rfl (Zf rfl) (Ze (Zb (D _ _ ?_))))
  refine Zq (Yd (Zo ?_))
  exact Zi [_] ⟨rfl, trivial⟩ ⟨congrArg bst (by unfold tokS; rw [if_neg d, if_pos e]), E⟩
 have C := e
 have e := Yj e
 refine Zg fun af F => ?_
 refine Zc (Za rfl rfl (Yy rfl rfl) (Za rfl rfl (Zf rfl) (Ze (Zb (F _ _ ?_)))))
 refine Zp rfl (fun f => ?_) (fun f => ?_)
 ·have k := f
  have f := Yi f
  refine Zg fun ag G => ?_
  refine Zc (Za rfl rfl (Zh fa84_1 rfl) (Za rfl rfl (Zk h.at_ agg3 rfl rfl) (Zm rfl rfl ?_)))
  refine Step.call (Zl (xs := [.tmp 12]) fk146 rfl) (Zck _ ) fun H ah l => ?_
  obtain ⟨rfl, x⟩ := l
  have I := x.size
  have E := E.trans x
  refine Za rfl rfl (Zf rfl) (Ze (Zb (G _ _ ?_)))
  refine Zq (Yd (Zo ?_))
  exact Zi [_] ⟨rfl, trivial⟩ ⟨congrArg bst (by unfold tokS; rw [if_neg d, if_neg e, if_pos f]), E⟩
 have k := f
 have f := Yj f
 refine Zg fun ai J => ?_
 refine Zc (Za rfl rfl (Yy rfl rfl) (Za rfl rfl (Zf rfl) (Ze (Zb (J _ _ ?_)))))
 refine Zp rfl (fun a => ?_) (fun a => ?_)
 ·have m := a
  have a := Yi a
  refine Zg fun aj K => ?_
  refine Zc (Za rfl rfl (Zf rfl) (Ze (Zb (K _ _ ?_))))
  refine Zq (Yd (Zo ?_))
  exact Zi [_] ⟨rfl, trivial⟩ ⟨congrArg bst (by unfold tokS; rw [if_neg d, if_neg e, if_neg f, if_pos a]), E⟩
 have m := a
 have a := Yj a
 refine Zg fun ak L => ?_
 refine Zc (Za rfl rfl (Yy rfl rfl) (Za rfl rfl (Zf rfl) (Ze (Zb (L _ _ ?_)))))
 refine Zp rfl (fun b => ?_) (fun b => ?_)
 ·have n := b
  have b := Yi b
  refine Zg fun al M => ?_
  refine Zc (Za rfl rfl (Zf rfl) (Ze (Zb (M _ _ ?_))))
  refine Zq (Yd (Zo ?_))
  exact Zi [_] ⟨rfl, trivial⟩ ⟨congrArg bst (by unfold tokS; rw [if_neg d, if_neg e, if_neg f, if_neg a, if_pos b]), E⟩
 have n := b
 have b := Yj b
 refine Zg fun am O => ?_
 refine Zc (Za rfl rfl (Yy rfl rfl) (Za rfl rfl (Zf rfl) (Ze (Zb (O _ _ ?_)))))
 refine Zp rfl (fun c => ?_) (fun c => ?_)
 ·have o := c
  have c := Yi c
  refine Zg fun an P => ?_
  refine Zc (Za rfl rfl (Zf rfl) (Ze (Zb (P _ _ ?_))))
  refine Zq (Yd (Zo ?_))
  exact Zi [_] ⟨rfl, trivial⟩ ⟨congrArg bst (by unfold tokS; rw [if_neg d, if_neg e, if_neg f, if_neg a, if_neg b, if_pos c]), E⟩
 have o := c
 have c := Yj c
 refine Zu ?_
 refine Zw (Zb (H3 _ _ ?_))
 refine Zg fun ao Q => ?_
 refine Xb [] 11 mixed rfl fun y p => ?_
 have R := p.size
 have E := E.trans p
 refine dV 0 rfl rfl rfl (fun _ => Zh fa84_2 rfl) ?_
 have z := h.ch0 p
 refine dT 1 rfl rfl rfl (Xh z.at_ (fun i hi => absurd hi List.not_mem_nil) agg3 rfl rfl ?_)
 refine dV 5 rfl rfl rfl (fun _ => Zh fa84_3 rfl) ?_
 refine dT 6 rfl rfl rfl (Xh z.at_ (fun i hi => absurd hi List.not_mem_nil) agg3 rfl rfl ?_)
 refine dO 2 (Zz rfl rfl rfl ?_)
 refine Step.call (Zl (xs := [.tmp 21]) fk147 rfl) (Zdi _ om) fun S T q => ?_
 obtain ⟨rfl, r⟩ := q
 have U := r.size
 have E := E.trans r
 have g : Ch [] y T := ((Ch.refl _ _).trans r)
 refine ⟨g, ?_⟩
 refine dV 3 rfl rfl rfl (fun _ => Zhj (by (simp only [List.length_append, List.length_cons, List.length_nil]; omega)) rfl rfl) (dV 4 rfl rfl rfl (fun _ => Zhj (by (simp only [List.length_append, List.length_cons, List.length_nil]; omega)) rfl rfl) (dO 7 (Zz rfl rfl rfl ?_)))
 refine Step.call (Zl (xs := [.tmp 26]) fk147 rfl) (Zdi _ om) fun V X s => ?_
 obtain ⟨rfl, u⟩ := s
 have Y := u.size
 have E := E.trans u
 have j : Ch [] y X := (g.trans u)
 refine ⟨j, ?_⟩
 refine dV 8 rfl rfl rfl (fun _ => Zhj (by (simp only [List.length_append, List.length_cons, List.length_nil]; omega)) rfl rfl) (dV 9 rfl rfl rfl (fun _ => Zhj (by (simp only [List.length_append, List.length_cons, List.length_nil]; omega)) rfl rfl) (dV 10 rfl rfl rfl (fun _ => Zf rfl) ?_))
 refine Yc (by kernel_rfl) ?_
 refine Zb (Q _ _ ?_)
 refine Zq ?_
 exact Zi [_] ⟨rfl, trivial⟩ ⟨congrArg bst (by unfold tokS; rw [if_neg d, if_neg e, if_neg f, if_neg a, if_neg b, if_neg c]), E⟩

/-- spec.l8Read -/
theorem Zfc {w : World} (s : List UInt8) :
 Ctr Try.prog 143 #[(bst s)] w (fun v w' => v = .agg (Token.cs (rdT s)).toArray ∧ Ch [] w w') := by
 have E := Ch.refl [] w
 refine Ye (N := 57) (vs0 := [(bst s)]) Try.func143 rfl rfl rfl ?_
 refine Zg fun K1 H1 => ?_
 refine Zc (Zm rfl rfl ?_)
 refine Yh zr84 fun o W2 D C2 aX => ?_
 have aY := C2.size
 have E := E.trans C2
 have aZ := D.lt
 replace D : Blk W2 o 84 [(.int .i64 0), (.int .i64 0), (.int .i64 0), (.int .i64 0)] := D
 refine Ze (Zb (H1 _ _ ?_))
 refine Zg fun K3 H3 => ?_
 refine Zg fun K4 H4 => ?_
 refine Zc (Za rfl rfl (Zf rfl) (Ze (Zb (H4 _ _ ?_))))
 refine Zx ?_
 refine Xi (σ := Nat) (fun (k : Nat) => [(0, (bst s)), (2, (.pointer (some ⟨o, 0, none⟩))), (3, (.int .i64 ((k : Nat) : Int)))]) (fun (k : Nat) wx => Ch [] w wx ∧ W2.heap.size ≤ wx.heap.size ∧ (1 ≤ k ∧ k ≤ 7) ∧ (rdK s k = none) ∧ Blk wx o 84 [(.int .i64 0), (.int .i64 0), (.int .i64 0), (.int .i64 0)]) (fun (k : Nat) => 7 - k) 1 (sC2 rfl rfl (sC1 rfl (Sub.nil _))) ⟨E, (Nat.le_refl _), om, Zsh, D⟩ ?_
 rintro k R5 ⟨E, ag, a0, hn, j⟩
 have H := E
 have V := H.size
 have I := j.lt
 refine Zg fun K6 H6 => ?_
 refine Zg fun K7 H7 => ?_
 refine Zc (Za rfl rfl (Zd rfl) (Za rfl rfl (Zgl rfl rfl) (Ze (Zb (H7 _ _ ?_)))))
 refine Zp rfl (fun l => ?_) (fun l => ?_)
 ·have ah := l
  have l := Yi l
  refine Zu ?_
  refine Zb (H6 _ _ ?_)
  refine Zg fun K9 H9 => ?_
  refine Zx ?_
  refine Zg fun a1 X => ?_
  refine Zc (Za rfl rfl (Zd rfl) (Za rfl rfl (Zbg rfl rfl) (Za rfl rfl (Zd rfl) ?_)))
  refine Yp (d := 12) rfl (fun m => ?_) (fun m => ?_)
  ·have J := m
   have m := Yj (Qu m)
   refine Za rfl rfl (Zd rfl) (Za rfl rfl (Yn (parts := [(0, .tmp 13)]) (cells := [(.int .i64 ((k : Nat) : Int)), (.int .i64 0), (.int .i64 0), (.int .i64 0)]) zr84 pl84 rfl rfl) (Zm rfl rfl ?_))
   refine Step.call (Zl (xs := [.tmp 14]) fk144 rfl) (Zim ⟨((k : Nat) : Int), 0, 0, 0⟩ (by first | omega | (dsimp only; omega) | simp) (by first | omega | (dsimp only; omega) | simp)) fun ai a2 K => ?_
   obtain ⟨rfl, F⟩ := K
   have aj := F.size
   have E := E.trans F
   refine Za rfl rfl (Zd rfl) (Za rfl rfl (Zsu rfl rfl) (Za rfl rfl (Ya rfl rfl) (Ze (Zb (X _ _ ?_)))))
   refine Zp rfl (fun g => ?_) (fun g => ?_)
   ·have L := g
    have g := Yi g
    refine Zg fun a3 ak => ?_
    refine Zc (Za rfl rfl (Zd rfl) (Za rfl rfl (Yn (parts := [(0, .tmp 19)]) (cells := [(.int .i64 ((k : Nat) : Int)), (.int .i64 0), (.int .i64 0), (.int .i64 0)]) zr84 pl84 rfl rfl) (Zm rfl rfl ?_)))
    have al := j.ch0 F
    refine Zn (off := 0) 4 al sz84 rfl (us := [(.int .i64 ((k : Nat) : Int)), (.int .i64 0), (.int .i64 0), (.int .i64 0)]) rfl rfl rfl rfl fun am p Y => ?_
    have an := Y.size
    have E := E.step Y (lS om)
    replace p : Blk am o 84 [(.int .i64 ((k : Nat) : Int)), (.int .i64 0), (.int .i64 0), (.int .i64 0)] := p
    refine Ze (Zb (ak _ _ ?_))
    refine Zq (Yd (Zo (Zo (Yd (Zo ?_)))))
    clear H3 H9
    exact Zi [_] (Zt p rfl agg84 sz84 trivial) ⟨(by have key : ∀ z : Token, z = rdT s → Value.agg (Token.cs z).toArray = Value.agg (Token.cs (rdT s)).toArray := (fun z h => by rw [h]); first | exact key _ (Zly hn om om om g) | exact key _ (Zlz (Qy hn l om) a) | exact key _ (Zlw (Qy hn l om) a ⟨by omega, b, e, f⟩) | exact key _ (Zlu (Qy hn l om) a (fun c => by first | exact f c.2.2.2 | exact e c.2.2.1 | exact b c.2.1 | omega))), E⟩
   have L := g
   have g := Yj g
   refine Zu ?_
   refine Zw (Zb (H9 _ _ (Zc (Za rfl rfl (Zd rfl) (Za rfl rfl (Yo om rfl rfl) (Za rfl rfl (Zf rfl) (Ze ?_)))))))
   have ao := j.ch0 F
   exact Zb (Exists.intro (k + 1) ⟨⟨E, om, om, (Zvb hn (by first | exact .inr g | (left; omega))), ao⟩, sC2 rfl rfl (sC1 rfl (Sub.nil _)), (by first | omega | (dsimp only; omega))⟩)
  have J := m
  have m := Yi (Qv m)
  refine Zj rfl rfl (Zj rfl rfl (Zj rfl rfl (Zj rfl rfl (Zj rfl rfl (Za rfl rfl (Yb rfl rfl) (Ze (Zb (X _ _ ?_))))))))
  refine Zap rfl ?_
  refine Zu ?_
  refine Zw (Zb (H9 _ _ (Zc (Za rfl rfl (Zd rfl) (Za rfl rfl (Yo om rfl rfl) (Za rfl rfl (Zf rfl) (Ze ?_)))))))
  exact Zb (Exists.intro (k + 1) ⟨⟨E, om, om, (Zvb hn (by first | exact .inr g | (left; omega))), j⟩, sC2 rfl rfl (sC1 rfl (Sub.nil _)), (by first | omega | (dsimp only; omega))⟩)
 have ah := l
 have l := Yj l
 refine Xe (Zr (Zr (Yu ?_)))
 refine Zb (H3 _ _ ?_)
 refine Zg fun a4 ap => ?_
 refine Zc (Za rfl rfl (Zd rfl) (Zm rfl rfl ?_))
 refine Step.call (Zl (xs := [.tmp 22]) fk145 rfl) (Zff s ) fun aq a5 M => ?_
 obtain ⟨rfl, A⟩ := M
 have au := A.size
 have E := E.trans A
 refine Za rfl rfl (Zd rfl) (Za rfl rfl (Qh rfl rfl) (Za rfl rfl (Qh rfl rfl) (Za rfl rfl (Zf rfl) (Za rfl rfl (Zf rfl) (Ze (Zb (ap _ _ ?_)))))))
 refine Zg fun a6 Z => ?_
 refine Zg fun a7 av => ?_
 refine Zc (Za rfl rfl (Zd rfl) (Ze (Zb (av _ _ ?_))))
 refine Zp rfl (fun a => ?_) (fun a => ?_)
 ·have O := a
  refine Zg fun a8 aw => ?_
  refine Zc (Za rfl rfl (Zd rfl) (Za rfl rfl (Yn (parts := [(0, .const (Go.Value.int Go.IntKind.i64 3)), (1, .tmp 27)]) (cells := [(.int .i64 3), (.int .i64 ((plR s).1)), (.int .i64 0), (.int .i64 0)]) zr84 pl84 rfl rfl) (Zm rfl rfl ?_)))
  have ax := j.ch0 A
  refine Zn (off := 0) 4 ax sz84 rfl (us := [(.int .i64 3), (.int .i64 ((plR s).1)), (.int .i64 0), (.int .i64 0)]) rfl rfl rfl rfl fun ay q aa => ?_
  have az := aa.size
  have E := E.step aa (lS om)
  replace q : Blk ay o 84 [(.int .i64 3), (.int .i64 ((plR s).1)), (.int .i64 0), (.int .i64 0)] := q
  refine Ze (Zb (aw _ _ ?_))
  refine Zq (Zo ?_)
  clear H6 Z
  exact Zi [_] (Zt q rfl agg84 sz84 trivial) ⟨(by have key : ∀ z : Token, z = rdT s → Value.agg (Token.cs z).toArray = Value.agg (Token.cs (rdT s)).toArray := (fun z h => by rw [h]); first | exact key _ (Zly hn om om om g) | exact key _ (Zlz (Qy hn l om) a) | exact key _ (Zlw (Qy hn l om) a ⟨by omega, b, e, f⟩) | exact key _ (Zlu (Qy hn l om) a (fun c => by first | exact f c.2.2.2 | exact e c.2.2.1 | exact b c.2.1 | omega))), E⟩
 have O := a
 refine Zu ?_
 refine Zb (Z _ _ ?_)
 refine Zg fun a9 B => ?_
 refine Zg fun ba G => ?_
 refine Zc (Za rfl rfl (Zd rfl) (Za rfl rfl (Zta un9 rfl) (Za rfl rfl (Yy rfl rfl) (Za rfl rfl (Zd rfl) ?_))))
 refine Yp (d := 32) rfl (fun n => ?_) (fun n => ?_)
 ·have P := n
  have n := Yi n
  refine Za rfl rfl (Zd rfl) (Za rfl rfl (Zdw om un9 rfl rfl) (Za rfl rfl (Yy rfl rfl) (Za rfl rfl (Ya rfl rfl) (Za rfl rfl (Zd rfl) ?_))))
  refine Yp (d := 37) rfl (fun b => ?_) (fun b => ?_)
  ·have Q := b
   have b := Yi b
   refine Za rfl rfl (Zd rfl) (Za rfl rfl (Zdw om un9 rfl rfl) (Za rfl rfl (Yy rfl rfl) (Za rfl rfl (Ya rfl rfl) (Za rfl rfl (Zd rfl) ?_))))
   refine Yp (d := 42) rfl (fun e => ?_) (fun e => ?_)
   ·have R := e
    have e := Yi e
    refine Za rfl rfl (Zd rfl) (Za rfl rfl (Zdw om un9 rfl rfl) (Za rfl rfl (Yy rfl rfl) (Za rfl rfl (Ya rfl rfl) (Ze (Zb (G _ _ ?_))))))
    refine Zp rfl (fun f => ?_) (fun f => ?_)
    ·have S := f
     have f := Yi f
     refine Zg fun bb aA => ?_
     refine Xb [o] 10 mixed rfl fun aB T => ?_
     have aC := T.size
     have E := E.trans T
     refine dV 0 rfl rfl rfl (fun _ => Zd rfl) (dV 1 rfl rfl rfl (fun _ => Zdw om un9 rfl rfl) (dV 2 rfl rfl rfl (fun _ => Zie (Zso _ _) (by rw [un5]; rfl) un3 rfl) (dV 3 rfl rfl rfl (fun _ => Zav (by have aD := Zme s (Int.toNat 1); omega) rfl rfl) (dV 4 rfl rfl rfl (fun _ => Zd rfl) (dV 5 rfl rfl rfl (fun _ => Zdw om un9 rfl rfl) (dV 6 rfl rfl rfl (fun _ => Zie (Zso _ _) (by rw [un5]; rfl) un3 rfl) (dV 7 rfl rfl rfl (fun _ => Zav (by have aD := Zme s (Int.toNat 3); omega) rfl rfl) ?_)))))))
     refine dV 8 rfl rfl rfl (fun _ => Yn (parts := [(0, .const (Go.Value.int Go.IntKind.i64 7)), (2, .tmp 50), (3, .tmp 54)]) (cells := [(.int .i64 7), (.int .i64 0), (.int .i64 ((bat s 1) - 48)), (.int .i64 ((bat s 3) - 48))]) zr84 pl84 rfl rfl) (dO 9 (Zz rfl rfl rfl ?_))
     have aE := (j.ch0 A).ch0 T
     refine Zn (off := 0) 4 aE sz84 rfl (us := [(.int .i64 7), (.int .i64 0), (.int .i64 ((bat s 1) - 48)), (.int .i64 ((bat s 3) - 48))]) rfl rfl rfl rfl fun ab r U => ?_
     have aF := U.size
     have E := E.step U (lS om)
     replace r : Blk ab o 84 [(.int .i64 7), (.int .i64 0), (.int .i64 ((bat s 1) - 48)), (.int .i64 ((bat s 3) - 48))] := r
     have C : Ch [o] aB ab := ((Ch.refl _ _).step U (fun i hm => by have aG := List.mem_singleton.1 hm; exact .inr (by rw [aG]; exact (List.mem_singleton.2 rfl))))
     refine ⟨C, ?_⟩
     refine Yc (by kernel_rfl) ?_
     refine Zb (aA _ _ ?_)
     refine Zq (Zo ?_)
     clear H6 B
     exact Zi [_] (Zt r rfl agg84 sz84 trivial) ⟨(by have key : ∀ z : Token, z = rdT s → Value.agg (Token.cs z).toArray = Value.agg (Token.cs (rdT s)).toArray := (fun z h => by rw [h]); first | exact key _ (Zly hn om om om g) | exact key _ (Zlz (Qy hn l om) a) | exact key _ (Zlw (Qy hn l om) a ⟨by omega, b, e, f⟩) | exact key _ (Zlu (Qy hn l om) a (fun c => by first | exact f c.2.2.2 | exact e c.2.2.1 | exact b c.2.1 | omega))), E⟩
    have S := f
    have f := Yj f
    refine Zu ?_
    refine Zb (B _ _ ?_)
    refine Zg fun bc aH => ?_
    refine Zc (Za rfl rfl (Yn (parts := []) (cells := [(.int .i64 0), (.int .i64 0), (.int .i64 0), (.int .i64 0)]) zr84 pl84 rfl rfl) (Zm rfl rfl ?_))
    have aI := j.ch0 A
    refine Zn (off := 0) 4 aI sz84 rfl (us := [(.int .i64 0), (.int .i64 0), (.int .i64 0), (.int .i64 0)]) rfl rfl rfl rfl fun aJ t ac => ?_
    have aK := ac.size
    have E := E.step ac (lS om)
    replace t : Blk aJ o 84 [(.int .i64 0), (.int .i64 0), (.int .i64 0), (.int .i64 0)] := t
    refine Ze (Zb (aH _ _ ?_))
    refine Zq ?_
    exact Zi [_] (Zt t rfl agg84 sz84 trivial) ⟨(by have key : ∀ z : Token, z = rdT s → Value.agg (Token.cs z).toArray = Value.agg (Token.cs (rdT s)).toArray := (fun z h => by rw [h]); first | exact key _ (Zly hn om om om g) | exact key _ (Zlz (Qy hn l om) a) | exact key _ (Zlw (Qy hn l om) a ⟨by omega, b, e, f⟩) | exact key _ (Zlu (Qy hn l om) a (fun c => by first | exact f c.2.2.2 | exact e c.2.2.1 | exact b c.2.1 | omega))), E⟩
   have R := e
   have e := Yj e
   refine Zj rfl rfl (Zj rfl rfl (Zj rfl rfl (Za rfl rfl (Yb rfl rfl) (Ze (Zb (G _ _ ?_))))))
   refine Zap rfl ?_
   refine Zu ?_
   refine Zb (B _ _ ?_)
   refine Zg fun be aL => ?_
   refine Zc (Za rfl rfl (Yn (parts := []) (cells := [(.int .i64 0), (.int .i64 0), (.int .i64 0), (.int .i64 0)]) zr84 pl84 rfl rfl) (Zm rfl rfl ?_))
   have aM := j.ch0 A
   refine Zn (off := 0) 4 aM sz84 rfl (us := [(.int .i64 0), (.int .i64 0), (.int .i64 0), (.int .i64 0)]) rfl rfl rfl rfl fun aN u ad => ?_
   have aO := ad.size
   have E := E.step ad (lS om)
   replace u : Blk aN o 84 [(.int .i64 0), (.int .i64 0), (.int .i64 0), (.int .i64 0)] := u
   refine Ze (Zb (aL _ _ ?_))
   refine Zq ?_
   exact Zi [_] (Zt u rfl agg84 sz84 trivial) ⟨(by have key : ∀ z : Token, z = rdT s → Value.agg (Token.cs z).toArray = Value.agg (Token.cs (rdT s)).toArray := (fun z h => by rw [h]); first | exact key _ (Zly hn om om om g) | exact key _ (Zlz (Qy hn l om) a) | exact key _ (Zlw (Qy hn l om) a ⟨by omega, b, e, f⟩) | exact key _ (Zlu (Qy hn l om) a (fun c => by first | exact f c.2.2.2 | exact e c.2.2.1 | exact b c.2.1 | omega))), E⟩
  have Q := b
  have b := Yj b
  refine Zj rfl rfl (Zj rfl rfl (Zj rfl rfl (Za rfl rfl (Yb rfl rfl) (Za rfl rfl (Zd rfl) (Zj rfl rfl (Zj rfl rfl (Zj rfl rfl ?_)))))))
  refine Za rfl rfl (Yb rfl rfl) (Ze (Zb (G _ _ ?_)))
  refine Zap rfl ?_
  refine Zu ?_
  refine Zb (B _ _ ?_)
  refine Zg fun bf aP => ?_
  refine Zc (Za rfl rfl (Yn (parts := []) (cells := [(.int .i64 0), (.int .i64 0), (.int .i64 0), (.int .i64 0)]) zr84 pl84 rfl rfl) (Zm rfl rfl ?_))
  have aQ := j.ch0 A
  refine Zn (off := 0) 4 aQ sz84 rfl (us := [(.int .i64 0), (.int .i64 0), (.int .i64 0), (.int .i64 0)]) rfl rfl rfl rfl fun aR x ae => ?_
  have aS := ae.size
  have E := E.step ae (lS om)
  replace x : Blk aR o 84 [(.int .i64 0), (.int .i64 0), (.int .i64 0), (.int .i64 0)] := x
  refine Ze (Zb (aP _ _ ?_))
  refine Zq ?_
  exact Zi [_] (Zt x rfl agg84 sz84 trivial) ⟨(by have key : ∀ z : Token, z = rdT s → Value.agg (Token.cs z).toArray = Value.agg (Token.cs (rdT s)).toArray := (fun z h => by rw [h]); first | exact key _ (Zly hn om om om g) | exact key _ (Zlz (Qy hn l om) a) | exact key _ (Zlw (Qy hn l om) a ⟨by omega, b, e, f⟩) | exact key _ (Zlu (Qy hn l om) a (fun c => by first | exact f c.2.2.2 | exact e c.2.2.1 | exact b c.2.1 | omega))), E⟩
 have P := n
 have n := Yj n
 refine Zj rfl rfl (Zj rfl rfl (Zj rfl rfl (Za rfl rfl (Yb rfl rfl) (Za rfl rfl (Zd rfl) (Zj rfl rfl (Zj rfl rfl (Zj rfl rfl ?_)))))))
 refine Za rfl rfl (Yb rfl rfl) (Za rfl rfl (Zd rfl) (Zj rfl rfl (Zj rfl rfl (Zj rfl rfl (Za rfl rfl (Yb rfl rfl) (Ze (Zb (G _ _ ?_))))))))
 refine Zap rfl ?_
 refine Zu ?_
 refine Zb (B _ _ ?_)
 refine Zg fun bg aT => ?_
 refine Zc (Za rfl rfl (Yn (parts := []) (cells := [(.int .i64 0), (.int .i64 0), (.int .i64 0), (.int .i64 0)]) zr84 pl84 rfl rfl) (Zm rfl rfl ?_))
 have aU := j.ch0 A
 refine Zn (off := 0) 4 aU sz84 rfl (us := [(.int .i64 0), (.int .i64 0), (.int .i64 0), (.int .i64 0)]) rfl rfl rfl rfl fun aV y af => ?_
 have aW := af.size
 have E := E.step af (lS om)
 replace y : Blk aV o 84 [(.int .i64 0), (.int .i64 0), (.int .i64 0), (.int .i64 0)] := y
 refine Ze (Zb (aT _ _ ?_))
 refine Zq ?_
 exact Zi [_] (Zt y rfl agg84 sz84 trivial) ⟨(by have key : ∀ z : Token, z = rdT s → Value.agg (Token.cs z).toArray = Value.agg (Token.cs (rdT s)).toArray := (fun z h => by rw [h]); first | exact key _ (Zly hn om om om g) | exact key _ (Zlz (Qy hn l om) a) | exact key _ (Zlw (Qy hn l om) a ⟨by omega, b, e, f⟩) | exact key _ (Zlu (Qy hn l om) a (fun c => by first | exact f c.2.2.2 | exact e c.2.2.1 | exact b c.2.1 | omega))), E⟩

/-- spec.ParseExpr -/
theorem Zgt {w : World} (s : List UInt8) (hb : s.length ≤ 4194304) :
 Ctr Try.prog 138 #[(bst s)] w (fun v w' => ∃ (ae : Value), v = .tuple #[.agg #[ae], .bool ((parS s).2)] ∧ Ol Token.cs 84 4 w' ae ((parS s).1) ∧ Lo w.heap.size ae ∧ Ch [] w w') := by
 have E := Ch.refl [] w
 have cw := Zha s 32 []
 refine Ye (N := 35) (vs0 := [(bst s)]) Try.func138 rfl rfl rfl ?_
 refine Zg fun K1 H1 => ?_
 refine Zc (Zm rfl rfl ?_)
 refine Yh zr44 fun af W2 aQ C2 cx => ?_
 have cy := C2.size
 have E := E.trans C2
 have cz := aQ.lt
 replace aQ : Blk W2 af 44 [(.slice none 0 0)] := aQ
 refine Za rfl rfl (Zf rfl) (Ze (Zb (H1 _ _ ?_)))
 refine Zg fun K3 H3 => ?_
 refine Zc (Za rfl rfl (Yn (parts := []) (cells := [(.slice none 0 0)]) zr44 pl44 rfl rfl) (Zm rfl rfl ?_))
 refine Yh zr44 fun p W4 aR C4 cA => ?_
 have cB := C4.size
 have E := E.trans C4
 have cC := aR.lt
 replace aR : Blk W4 p 44 [(.slice none 0 0)] := aR
 refine Zm rfl rfl ?_
 refine Zn (off := 0) 1 aR sz44 rfl (us := [(.slice none 0 0)]) rfl rfl rfl rfl fun W5 ag C5 => ?_
 have cD := C5.size
 have E := E.step C5 (lS om)
 replace ag : Blk W5 p 44 [(.slice none 0 0)] := ag
 refine Ze (Zb (H3 _ _ ?_))
 refine Zg fun K7 H7 => ?_
 refine Zc (Za rfl rfl (Zd rfl) (Zm rfl rfl ?_))
 refine Step.call (Zl (xs := [.tmp 8, .const (Go.Value.int Go.IntKind.u8 32)]) fk142 rfl) (Zlr s _ om) fun cE W8 aS => ?_
 obtain ⟨aS, aU, C8⟩ := aS
 have cF := C8.size
 have E := E.trans C8
 obtain ⟨aC, aD, rfl, bu, aE⟩ := aS.opn
 have aV := Ol.lsR aS (lo := W5.heap.size) (hi := W8.heap.size) aU aE
 refine Za rfl rfl (Zf rfl) (Ze (Zb (H7 _ _ ?_)))
 refine Zg fun K9 H9 => ?_
 refine Zg fun cG bv => ?_
 refine Zc (Za rfl rfl (Zf rfl) (Ze (Zb (bv _ _ ?_))))
 refine Zx ?_
 have ah : Ol Token.cs 84 4 W8 (.slice none 0 0) (((Qe s 32 []).take 0).map rdT) := by
  have hx := Ol.nil (cs := Token.cs) (e := 84) (k := 4) W8
  simpa using hx
 have bw := ag.ch0 C8
 have bx := ((aQ.ch0 C4).ch C5 (nS om)).ch0 C8
 refine Xi (σ := Nat × Value) (fun ⟨i, tv⟩ => [(2, (.pointer (some ⟨af, 0, none⟩))), (3, (.bool false)), (4, (.pointer (some ⟨p, 0, none⟩))), (5, (.slice aC (Qe s 32 []).length aD)), (6, (.int .i64 ((i : Nat) : Int)))]) (fun ⟨i, tv⟩ wx => Ch [] w wx ∧ W8.heap.size ≤ wx.heap.size ∧ (i ≤ (Qe s 32 []).length ∧ i ≤ 25) ∧ Blk wx af 44 [(.slice none 0 0)] ∧ Ls scs 1 wx W5.heap.size W8.heap.size (.slice aC (Qe s 32 []).length aD) (Qe s 32 []) ∧ Ol Token.cs 84 4 wx tv (((Qe s 32 []).take i).map rdT) ∧ Lo W8.heap.size tv ∧ Blk wx p 44 [tv] ∧ (p ∉ bl tv)) (fun ⟨i, tv⟩ => (Qe s 32 []).length - i) (0, (.slice none 0 0)) (sC4 rfl rfl rfl rfl (sC1 rfl (Sub.nil _))) ⟨E, (Nat.le_refl _), om, bx, aV, ah, (Lo.nil _), bw, (fun hm => by cases hm)⟩ ?_
 rintro ⟨i, tv⟩ cH ⟨E, bz, hi, l, aF, m, a, o, c⟩
 have aW := E
 have bg := aW.size
 have aX := l.lt
 obtain ⟨Atv, Ctv, rfl, ltv, q⟩ := m.opn
 refine Zg fun cI aY => ?_
 refine Zg fun cJ bh => ?_
 refine Zc (Za rfl rfl (Zd rfl) (Za rfl rfl (Zd rfl) (Za rfl rfl (Xc (by rw [el160]; rfl) rfl) (Za rfl rfl (Xs rfl rfl) (Za rfl rfl (Zd rfl) ?_)))))
 refine Yp (d := 14) rfl (fun y => ?_) (fun y => ?_)
 ·have aZ := y
  have y := Yi y
  refine Za rfl rfl (Zd rfl) (Za rfl rfl (Zgl rfl rfl) (Za rfl rfl (Ya rfl rfl) (Ze (Zb (bh _ _ ?_)))))
  refine Zp rfl (fun z => ?_) (fun z => ?_)
  ·have a0 := z
   have z := Yi z
   refine Zu ?_
   refine Zb (aY _ _ ?_)
   refine Zg fun cK a1 => ?_
   refine Zx ?_
   refine Xb ((bl (.slice Atv (((Qe s 32 []).take i).map rdT).length Ctv)) ++ [p]) 11 mixed rfl fun C B => ?_
   have bA := B.size
   have E := E.trans B
   refine dV 0 rfl rfl rfl (fun _ => Zh fa44_0 rfl) (dV 2 rfl rfl rfl (fun _ => Zd rfl) (dV 3 rfl rfl rfl (fun _ => Zd rfl) ?_))
   have aT := aF.ch0 B
   refine dT 4 rfl rfl rfl (Xo aT Zej el160 sz9 rfl rfl rfl om fun bB j D a2 => ?_)
   refine dT 5 rfl rfl rfl (Yx a2 (fun i hm => by rcases List.mem_append.1 hm with hm | hm; (have R := a _ hm; have a3 := q _ hm; omega); (have R := List.mem_singleton.1 hm; omega)) agg9 rfl rfl ?_)
   refine Zat 1 6 (by kernel_rfl) ?_ ?_
   ·refine Zz rfl rfl rfl ?_
    have bi := o.ch0 B
    refine s_v (Zk bi.at_ agg42 rfl rfl) ?_
    refine ⟨(Ch.refl _ _), ?_⟩
    refine dO 6 (Zz rfl rfl rfl ?_)
    refine Step.call (Zl (xs := [.tmp 25]) fk143 rfl) (Zfc j ) fun a4 bC ai => ?_
    obtain ⟨rfl, aj⟩ := ai
    have bD := aj.size
    have E := E.trans aj
    have S : Ch ((bl (.slice Atv (((Qe s 32 []).take i).map rdT).length Ctv)) ++ [p]) C bC := ((Ch.refl _ _).trans aj.of_nil)
    refine ⟨S, ?_⟩
    refine dO 7 (Zz rfl rfl rfl ?_)
    refine Ym (cs := Token.cs) (parts := [(0, .tmp 26)]) (⟨0, 0, 0, 0⟩ : Token) [(rdT j)] el42 sz84 zr84 Token.len (by decide) rfl rfl rfl (by decide) (by decide) rfl fun aG bE r T ak => ?_
    have bF := ak.size
    have E := E.trans ak
    obtain ⟨U, V, rfl, X, F⟩ := r.opn
    have Y : Ch ((bl (.slice Atv (((Qe s 32 []).take i).map rdT).length Ctv)) ++ [p]) C bE := (S.trans ak.of_nil)
    refine ⟨Y, ?_⟩
    refine dO 8 (Zz rfl rfl rfl ?_)
    have bG := ((m.ch0 B).ch0 aj).ch0 ak
    refine Xn (cs := Token.cs) el42 sz84 by84 zr84 rfl (by decide) Token.one bG r.ls rfl rfl bd bd a om fun aH bH t u n au => ?_
    have bI := au.size
    have E := E.step au (fun i hi => .inl (by have R := a _ hi; omega))
    obtain ⟨f, h, rfl, Z, G⟩ := t.opn
    have aa : Ch ((bl (.slice Atv (((Qe s 32 []).take i).map rdT).length Ctv)) ++ [p]) C bH := (Y.step au (fun i hm => by exact .inr (List.mem_append_left _ hm)))
    refine ⟨aa, ?_⟩
    refine dV 9 rfl rfl rfl (fun _ => Zh fa44_0 rfl) (dO 10 (Zz rfl rfl rfl ?_))
    have bJ := ((bi.ch0 aj).ch0 ak).ch au (fun hm => by exact c (by first | exact hm | exact x ▸ hm))
    refine Xm (off := 0) bJ sz42 rfl rfl rfl rfl fun a5 H av => ?_
    have bK := av.size
    have E := E.step av (lS om)
    replace H : Blk a5 p 44 [(.slice f ((((Qe s 32 []).take i).map rdT ++ [(rdT j)])).length h)] := H
    have aI : Ch ((bl (.slice Atv (((Qe s 32 []).take i).map rdT).length Ctv)) ++ [p]) C a5 := (aa.step av (fun i hm => by have x := List.mem_singleton.1 hm; exact .inr (by rw [x]; exact (List.mem_append_right _ (List.mem_singleton.2 rfl)))))
    refine ⟨aI, ?_⟩
    refine Yc (by kernel_rfl) ?_
    refine Zw (Zb (a1 _ _ (Zc (Za rfl rfl (Zd rfl) (Za rfl rfl (Yo om rfl rfl) (Za rfl rfl (Zf rfl) (Ze ?_)))))))
    have bL := t.ch av (fun g hg hm => by have x := List.mem_singleton.1 hm; rcases n with ea | ea; (rw [ea] at hg; exact c (by first | exact hg | exact x ▸ hg)); (rw [ea] at hg; have aJ := List.mem_singleton.1 hg; omega))
    have al : Ol Token.cs 84 4 a5 (.slice f ((((Qe s 32 []).take i).map rdT ++ [(rdT j)])).length h) (((Qe s 32 []).take (i + 1)).map rdT) := by
     have hx := bL
     exact hx.eq (Zdf D)
    have bM := ((((l.ch0 B).ch0 aj).ch0 ak).ch au (fun hm => by have R := a _ hm; have a3 := q _ hm; omega)).ch av (nS om)
    have bN := (((aT.ch0 aj).ch0 ak).ch au (fun i hi => by have R := a _ hi; omega)).ch av (oS om)
    exact Zb (Exists.intro ((i + 1), (.slice f ((((Qe s 32 []).take i).map rdT ++ [(rdT j)])).length h)) ⟨⟨E, om, om, bM, bN, al, (Lo.down u om), H, (fun hm => by rcases n with ea | ea; (rw [ea] at hm; exact c (by first | exact hm | exact x ▸ hm)); (rw [ea] at hm; have aJ := List.mem_singleton.1 hm; omega))⟩, sC4 rfl rfl rfl rfl (sC1 rfl (Sub.nil _)), (by first | omega | (dsimp only; omega))⟩)
   refine Zz rfl rfl rfl ?_
   refine Step.call (Zl (xs := [.tmp 25]) fk143 rfl) (Zfc j ) fun a4 bO ai => ?_
   obtain ⟨rfl, I⟩ := ai
   have bP := I.size
   have E := E.trans I
   have A : Ch ((bl (.slice Atv (((Qe s 32 []).take i).map rdT).length Ctv)) ++ [p]) C bO := ((Ch.refl _ _).trans I.of_nil)
   refine ⟨A, ?_⟩
   refine Zat 1 7 (by kernel_rfl) ?_ ?_
   ·refine Zz rfl rfl rfl ?_
    have bj := (o.ch0 B).ch0 I
    refine s_v (Zk bj.at_ agg42 rfl rfl) ?_
    refine ⟨A, ?_⟩
    refine dO 7 (Zz rfl rfl rfl ?_)
    refine Ym (cs := Token.cs) (parts := [(0, .tmp 26)]) (⟨0, 0, 0, 0⟩ : Token) [(rdT j)] el42 sz84 zr84 Token.len (by decide) rfl rfl rfl (by decide) (by decide) rfl fun aG bQ r T am => ?_
    have bR := am.size
    have E := E.trans am
    obtain ⟨U, V, rfl, X, F⟩ := r.opn
    have ab : Ch ((bl (.slice Atv (((Qe s 32 []).take i).map rdT).length Ctv)) ++ [p]) C bQ := (A.trans am.of_nil)
    refine ⟨ab, ?_⟩
    refine dO 8 (Zz rfl rfl rfl ?_)
    have bS := ((m.ch0 B).ch0 I).ch0 am
    refine Xn (cs := Token.cs) el42 sz84 by84 zr84 rfl (by decide) Token.one bS r.ls rfl rfl bd bd a om fun aH bT t u n aw => ?_
    have bU := aw.size
    have E := E.step aw (fun i hi => .inl (by have R := a _ hi; omega))
    obtain ⟨f, h, rfl, Z, G⟩ := t.opn
    have ac : Ch ((bl (.slice Atv (((Qe s 32 []).take i).map rdT).length Ctv)) ++ [p]) C bT := (ab.step aw (fun i hm => by exact .inr (List.mem_append_left _ hm)))
    refine ⟨ac, ?_⟩
    refine dV 9 rfl rfl rfl (fun _ => Zh fa44_0 rfl) (dO 10 (Zz rfl rfl rfl ?_))
    have bV := (bj.ch0 am).ch aw (fun hm => by exact c (by first | exact hm | exact x ▸ hm))
    refine Xm (off := 0) bV sz42 rfl rfl rfl rfl fun a6 J ax => ?_
    have bW := ax.size
    have E := E.step ax (lS om)
    replace J : Blk a6 p 44 [(.slice f ((((Qe s 32 []).take i).map rdT ++ [(rdT j)])).length h)] := J
    have aK : Ch ((bl (.slice Atv (((Qe s 32 []).take i).map rdT).length Ctv)) ++ [p]) C a6 := (ac.step ax (fun i hm => by have x := List.mem_singleton.1 hm; exact .inr (by rw [x]; exact (List.mem_append_right _ (List.mem_singleton.2 rfl)))))
    refine ⟨aK, ?_⟩
    refine Yc (by kernel_rfl) ?_
    refine Zw (Zb (a1 _ _ (Zc (Za rfl rfl (Zd rfl) (Za rfl rfl (Yo om rfl rfl) (Za rfl rfl (Zf rfl) (Ze ?_)))))))
    have bX := t.ch ax (fun g hg hm => by have x := List.mem_singleton.1 hm; rcases n with ea | ea; (rw [ea] at hg; exact c (by first | exact hg | exact x ▸ hg)); (rw [ea] at hg; have aJ := List.mem_singleton.1 hg; omega))
    have an : Ol Token.cs 84 4 a6 (.slice f ((((Qe s 32 []).take i).map rdT ++ [(rdT j)])).length h) (((Qe s 32 []).take (i + 1)).map rdT) := by
     have hx := bX
     exact hx.eq (Zdf D)
    have bY := ((((l.ch0 B).ch0 I).ch0 am).ch aw (fun hm => by have R := a _ hm; have a3 := q _ hm; omega)).ch ax (nS om)
    have bZ := (((aT.ch0 I).ch0 am).ch aw (fun i hi => by have R := a _ hi; omega)).ch ax (oS om)
    exact Zb (Exists.intro ((i + 1), (.slice f ((((Qe s 32 []).take i).map rdT ++ [(rdT j)])).length h)) ⟨⟨E, om, om, bY, bZ, an, (Lo.down u om), J, (fun hm => by rcases n with ea | ea; (rw [ea] at hm; exact c (by first | exact hm | exact x ▸ hm)); (rw [ea] at hm; have aJ := List.mem_singleton.1 hm; omega))⟩, sC4 rfl rfl rfl rfl (sC1 rfl (Sub.nil _)), (by first | omega | (dsimp only; omega))⟩)
   refine Zz rfl rfl rfl ?_
   refine Ym (cs := Token.cs) (parts := [(0, .tmp 26)]) (⟨0, 0, 0, 0⟩ : Token) [(rdT j)] el42 sz84 zr84 Token.len (by decide) rfl rfl rfl (by decide) (by decide) rfl fun aG b0 r T ao => ?_
   have b1 := ao.size
   have E := E.trans ao
   obtain ⟨U, V, rfl, X, F⟩ := r.opn
   have K : Ch ((bl (.slice Atv (((Qe s 32 []).take i).map rdT).length Ctv)) ++ [p]) C b0 := (A.trans ao.of_nil)
   refine ⟨K, ?_⟩
   refine dO 1 (Zz rfl rfl rfl ?_)
   have bk := ((o.ch0 B).ch0 I).ch0 ao
   refine s_v (Zk bk.at_ agg42 rfl rfl) ?_
   refine ⟨K, ?_⟩
   refine dO 8 (Zz rfl rfl rfl ?_)
   have b2 := ((m.ch0 B).ch0 I).ch0 ao
   refine Xn (cs := Token.cs) el42 sz84 by84 zr84 rfl (by decide) Token.one b2 r.ls rfl rfl bd bd a om fun aH b3 t u n ay => ?_
   have b4 := ay.size
   have E := E.step ay (fun i hi => .inl (by have R := a _ hi; omega))
   obtain ⟨f, h, rfl, Z, G⟩ := t.opn
   have ad : Ch ((bl (.slice Atv (((Qe s 32 []).take i).map rdT).length Ctv)) ++ [p]) C b3 := (K.step ay (fun i hm => by exact .inr (List.mem_append_left _ hm)))
   refine ⟨ad, ?_⟩
   refine dV 9 rfl rfl rfl (fun _ => Zh fa44_0 rfl) (dO 10 (Zz rfl rfl rfl ?_))
   have b5 := bk.ch ay (fun hm => by exact c (by first | exact hm | exact x ▸ hm))
   refine Xm (off := 0) b5 sz42 rfl rfl rfl rfl fun a7 L az => ?_
   have b6 := az.size
   have E := E.step az (lS om)
   replace L : Blk a7 p 44 [(.slice f ((((Qe s 32 []).take i).map rdT ++ [(rdT j)])).length h)] := L
   have aL : Ch ((bl (.slice Atv (((Qe s 32 []).take i).map rdT).length Ctv)) ++ [p]) C a7 := (ad.step az (fun i hm => by have x := List.mem_singleton.1 hm; exact .inr (by rw [x]; exact (List.mem_append_right _ (List.mem_singleton.2 rfl)))))
   refine ⟨aL, ?_⟩
   refine Yc (by kernel_rfl) ?_
   refine Zw (Zb (a1 _ _ (Zc (Za rfl rfl (Zd rfl) (Za rfl rfl (Yo om rfl rfl) (Za rfl rfl (Zf rfl) (Ze ?_)))))))
   have b7 := t.ch az (fun g hg hm => by have x := List.mem_singleton.1 hm; rcases n with ea | ea; (rw [ea] at hg; exact c (by first | exact hg | exact x ▸ hg)); (rw [ea] at hg; have aJ := List.mem_singleton.1 hg; omega))
   have ap : Ol Token.cs 84 4 a7 (.slice f ((((Qe s 32 []).take i).map rdT ++ [(rdT j)])).length h) (((Qe s 32 []).take (i + 1)).map rdT) := by
    have hx := b7
    exact hx.eq (Zdf D)
   have b8 := ((((l.ch0 B).ch0 I).ch0 ao).ch ay (fun hm => by have R := a _ hm; have a3 := q _ hm; omega)).ch az (nS om)
   have b9 := (((aT.ch0 I).ch0 ao).ch ay (fun i hi => by have R := a _ hi; omega)).ch az (oS om)
   exact Zb (Exists.intro ((i + 1), (.slice f ((((Qe s 32 []).take i).map rdT ++ [(rdT j)])).length h)) ⟨⟨E, om, om, b8, b9, ap, (Lo.down u om), L, (fun hm => by rcases n with ea | ea; (rw [ea] at hm; exact c (by first | exact hm | exact x ▸ hm)); (rw [ea] at hm; have aJ := List.mem_singleton.1 hm; omega))⟩, sC4 rfl rfl rfl rfl (sC1 rfl (Sub.nil _)), (by first | omega | (dsimp only; omega))⟩)
  have a0 := z
  have z := Yj z
  refine Xe (Zr (Zr (Yu ?_)))
  refine Zb (H9 _ _ ?_)
  refine Zg fun cL bm => ?_
  refine Zg fun cM ca => ?_
  refine Zc (Za rfl rfl (Zy o.at_ agg44 sz44 rfl) (Zm rfl rfl ?_))
  refine Step.call (Zl (xs := [.tmp 30]) fk31 rfl) (Zac m.ls ) fun a8 cN aq => ?_
  obtain ⟨rfl, aA⟩ := aq
  have cb := aA.size
  have E := E.trans aA
  refine Za rfl rfl (Zbh rfl) (Ze (Zb (ca _ _ ?_)))
  refine Zp rfl (fun b => ?_) (fun b => ?_)
  ·have a9 := b
   have b := Qu b
   refine Zg fun cO cc => ?_
   refine Zc (Za rfl rfl (Yn (parts := []) (cells := [(.slice none 0 0)]) zr44 pl44 rfl rfl) (Zm rfl rfl ?_))
   have cd := l.ch0 aA
   refine Zn (off := 0) 1 cd sz44 rfl (us := [(.slice none 0 0)]) rfl rfl rfl rfl fun ba M bn => ?_
   have ce := bn.size
   have E := E.step bn (lS om)
   replace M : Blk ba af 44 [(.slice none 0 0)] := M
   refine Za rfl rfl (Zf rfl) (Ze (Zb (cc _ _ ?_)))
   refine Zq (Zo ?_)
   clear aY bm
   have aM : Ol Token.cs 84 4 ba (.slice none 0 0) ((parS s).1) := by
    have hx := Ol.nil (cs := Token.cs) (e := 84) (k := 4) ba
    first | (rw [Zge (congrArg (List.map rdT) (Qp om om)) b]; exact hx) | (rw [Zgd (congrArg (List.map rdT) (Qp om om)) b]; exact hx)
   exact Zi [_, _] (Zt M rfl agg44 sz44 ⟨rfl, trivial⟩) ⟨(.slice none 0 0), (congrArg (fun zq => (Value.tuple #[.agg #[(.slice none 0 0)], .bool zq])) (by first | rw [Zge (congrArg (List.map rdT) (Qp om om)) b] | rw [Zgd (congrArg (List.map rdT) (Qp om om)) b])), aM, (Lo.nil _), E⟩
  have a9 := b
  have b := Qv b
  refine Zu ?_
  refine Zb (bm _ _ ?_)
  refine Zg fun cP cf => ?_
  refine Zc ?_
  have cg := o.ch0 aA
  refine Za rfl rfl (Zy cg.at_ agg44 sz44 rfl) (Zm rfl rfl ?_)
  have ci := l.ch0 aA
  refine Zn (off := 0) 1 ci sz44 rfl (us := [(.slice Atv (((Qe s 32 []).take i).map rdT).length Ctv)]) rfl rfl rfl rfl fun bp O bb => ?_
  have cj := bb.size
  have E := E.step bb (lS om)
  replace O : Blk bp af 44 [(.slice Atv (((Qe s 32 []).take i).map rdT).length Ctv)] := O
  refine Za rfl rfl (Zf rfl) (Ze (Zb (cf _ _ ?_)))
  refine Zq ?_
  have ck := (m.ch0 aA).ch bb (dS a q om)
  have aN : Ol Token.cs 84 4 bp (.slice Atv (((Qe s 32 []).take i).map rdT).length Ctv) ((parS s).1) := by
   have hx := ck
   first | (rw [Zge (congrArg (List.map rdT) (Qp om om)) b]; exact hx) | (rw [Zgd (congrArg (List.map rdT) (Qp om om)) b]; exact hx)
  exact Zi [_, _] (Zt O rfl agg44 sz44 ⟨rfl, trivial⟩) ⟨(.slice Atv (((Qe s 32 []).take i).map rdT).length Ctv), (congrArg (fun zq => (Value.tuple #[.agg #[(.slice Atv (((Qe s 32 []).take i).map rdT).length Ctv)], .bool zq])) (by first | rw [Zge (congrArg (List.map rdT) (Qp om om)) b] | rw [Zgd (congrArg (List.map rdT) (Qp om om)) b])), aN, (Lo.down a om), E⟩
 have aZ := y
 have y := Yj y
 refine Zj rfl rfl (Zj rfl rfl (Za rfl rfl (Yb rfl rfl) (Ze (Zb (bh _ _ ?_)))))
 refine Zap rfl ?_
 refine Xe (Zr (Zr (Yu ?_)))
 refine Zb (H9 _ _ ?_)
 refine Zg fun cQ bq => ?_
 refine Zg fun cR cl => ?_
 refine Zc (Za rfl rfl (Zy o.at_ agg44 sz44 rfl) (Zm rfl rfl ?_))
 refine Step.call (Zl (xs := [.tmp 30]) fk31 rfl) (Zac m.ls ) fun a8 cS aq => ?_
 obtain ⟨rfl, aB⟩ := aq
 have cm := aB.size
 have E := E.trans aB
 refine Za rfl rfl (Zbh rfl) (Ze (Zb (cl _ _ ?_)))
 refine Zp rfl (fun b => ?_) (fun b => ?_)
 ·have bc := b
  have b := Qu b
  refine Zg fun cT cn => ?_
  refine Zc (Za rfl rfl (Yn (parts := []) (cells := [(.slice none 0 0)]) zr44 pl44 rfl rfl) (Zm rfl rfl ?_))
  have co := l.ch0 aB
  refine Zn (off := 0) 1 co sz44 rfl (us := [(.slice none 0 0)]) rfl rfl rfl rfl fun be P br => ?_
  have cp := br.size
  have E := E.step br (lS om)
  replace P : Blk be af 44 [(.slice none 0 0)] := P
  refine Za rfl rfl (Zf rfl) (Ze (Zb (cn _ _ ?_)))
  refine Zq (Zo ?_)
  clear aY bq
  have aO : Ol Token.cs 84 4 be (.slice none 0 0) ((parS s).1) := by
   have hx := Ol.nil (cs := Token.cs) (e := 84) (k := 4) be
   first | (rw [Zge (congrArg (List.map rdT) (Qp om om)) b]; exact hx) | (rw [Zgd (congrArg (List.map rdT) (Qp om om)) b]; exact hx)
  exact Zi [_, _] (Zt P rfl agg44 sz44 ⟨rfl, trivial⟩) ⟨(.slice none 0 0), (congrArg (fun zq => (Value.tuple #[.agg #[(.slice none 0 0)], .bool zq])) (by first | rw [Zge (congrArg (List.map rdT) (Qp om om)) b] | rw [Zgd (congrArg (List.map rdT) (Qp om om)) b])), aO, (Lo.nil _), E⟩
 have bc := b
 have b := Qv b
 refine Zu ?_
 refine Zb (bq _ _ ?_)
 refine Zg fun cU cq => ?_
 refine Zc ?_
 have cr := o.ch0 aB
 refine Za rfl rfl (Zy cr.at_ agg44 sz44 rfl) (Zm rfl rfl ?_)
 have ct := l.ch0 aB
 refine Zn (off := 0) 1 ct sz44 rfl (us := [(.slice Atv (((Qe s 32 []).take i).map rdT).length Ctv)]) rfl rfl rfl rfl fun bs Q bf => ?_
 have cu := bf.size
 have E := E.step bf (lS om)
 replace Q : Blk bs af 44 [(.slice Atv (((Qe s 32 []).take i).map rdT).length Ctv)] := Q
 refine Za rfl rfl (Zf rfl) (Ze (Zb (cq _ _ ?_)))
 refine Zq ?_
 have cv := (m.ch0 aB).ch bf (dS a q om)
 have aP : Ol Token.cs 84 4 bs (.slice Atv (((Qe s 32 []).take i).map rdT).length Ctv) ((parS s).1) := by
  have hx := cv
  first | (rw [Zge (congrArg (List.map rdT) (Qp om om)) b]; exact hx) | (rw [Zgd (congrArg (List.map rdT) (Qp om om)) b]; exact hx)
 exact Zi [_, _] (Zt Q rfl agg44 sz44 ⟨rfl, trivial⟩) ⟨(.slice Atv (((Qe s 32 []).take i).map rdT).length Ctv), (congrArg (fun zq => (Value.tuple #[.agg #[(.slice Atv (((Qe s 32 []).take i).map rdT).length Ctv)], .bool zq])) (by first | rw [Zge (congrArg (List.map rdT) (Qp om om)) b] | rw [Zgd (congrArg (List.map rdT) (Qp om om)) b])), aP, (Lo.down a om), E⟩

/-- spec.l1Pick -/
theorem Zkg {w : World} {b_c : Nat} (f : Cu w b_c) {e_list : Nat} {a : Value} {list : List (List UInt8)} (b : Ol scs e_list 1 w a list) (hl : 0 < list.length ∧ list.length ≤ 4096) (K9 : Nat) (q : b_c < K9) (i : Lo K9 a) :
 Ctr Try.prog 139 #[(.pointer (some ⟨b_c, 0, none⟩)), a] w (fun v w' => ∃ (n : List UInt8) , v = .string (bys n) ∧ (n ∈ list) ∧ Cu w' b_c ∧ Ch [b_c] w w') := by
 have o := f.lt
 obtain ⟨d, e, rfl, h, c⟩ := b.opn
 have E := Ch.refl [b_c] w
 refine Ye (N := 12) (vs0 := [(.pointer (some ⟨b_c, 0, none⟩)), (.slice d list.length e)]) Try.func139 rfl rfl rfl ?_
 refine Zg fun V1 H1 => ?_
 refine Zc (Za rfl rfl (Zf rfl) (Ze (Zb (H1 _ _ ?_))))
 refine Zg fun V2 H2 => ?_
 refine Zc (Za rfl rfl (Zd rfl) (Za rfl rfl (Zd rfl) (Za rfl rfl (Zd rfl) (Za rfl rfl (Xc (by rw [el160]; rfl) rfl) (Zm rfl rfl ?_)))))
 refine Step.call (Zl (xs := [.tmp 6, .tmp 8]) fk42 rfl) (Xr f _ om) fun u W3 r => ?_
 obtain ⟨k, rfl, p, s, C3⟩ := r
 have x := C3.size
 have E := E.trans C3
 refine Zm rfl rfl ?_
 have F4 := b.ch C3 (dS i c om)
 refine (Yw (j := k.toNat) F4.ls Zej el160 sz9 rfl rfl om om fun t l g m => ?_)
 refine Za rfl rfl (Yr m agg9 rfl rfl) (Za rfl rfl (Zf rfl) (Ze (Zb (H2 _ _ ?_))))
 refine Zq ?_
 exact Zi [_] ⟨rfl, trivial⟩ ⟨l, (congrArg (fun zq => (Value.string (bys zq))) (by first | rfl | simp_all)), (Xw g), s, E⟩

/-- spec.l8Known -/
theorem Zip {w : World} {b_c : Nat} (k : Cu w b_c) :
 Ctr Try.prog 125 #[(.pointer (some ⟨b_c, 0, none⟩))] w (fun v w' => ∃ (q : List Token) (g : Value), v = .agg #[g] ∧ Ol Token.cs 84 4 w' g (q) ∧ Lo w.heap.size g ∧ (1 ≤ q.length ∧ q.length ≤ 24) ∧ Cu w' b_c ∧ Ch [b_c] w w') := by
 have t := k.lt
 have E := Ch.refl [b_c] w
 refine Ye (N := 13) (vs0 := [(.pointer (some ⟨b_c, 0, none⟩))]) Try.func125 rfl rfl rfl ?_
 refine Zg fun K1 H1 => ?_
 refine Zc (Zm rfl rfl ?_)
 refine Yh zr44 fun u W2 m C2 O => ?_
 have P := C2.size
 have E := E.trans C2.of_nil
 have Q := m.lt
 replace m : Blk W2 u 44 [(.slice none 0 0)] := m
 refine Ze (Zb (H1 _ _ ?_))
 refine Zg fun K3 H3 => ?_
 refine Zc (Za rfl rfl (Zd rfl) (Zm rfl rfl ?_))
 refine Ym (cs := scs) (parts := [(0, .const (Go.Value.string { data := #[97] })), (1, .const (Go.Value.string { data := #[97, 32, 98, 32, 46] })), (2, .const (Go.Value.string { data := #[97, 32, 42] })), (3, .const (Go.Value.string { data := #[97, 32, 98, 32, 124, 32, 42] })), (4, .const (Go.Value.string { data := #[97, 32, 97, 45, 32, 46] })), (5, .const (Go.Value.string { data := #[97, 32, 42, 32, 98, 32, 46] })), (6, .const (Go.Value.string { data := #[97, 32, 98, 32, 42, 32, 46, 32, 99, 32, 46] })), (7, .const (Go.Value.string { data := #[97, 32, 97, 32, 124, 32, 42] })), (8, .const (Go.Value.string { data := #[97, 32, 98, 32, 46, 32, 42] })), (9, .const (Go.Value.string { data := #[48, 32, 97, 32, 46, 32, 42] })), (10, .const (Go.Value.string { data := #[97, 32, 49, 32, 46, 32, 98, 32, 46] })), (11, .const (Go.Value.string { data := #[97, 32, 123, 48, 44, 50, 125] })), (12, .const (Go.Value.string { data := #[97, 32, 98, 32, 124, 32, 123, 49, 44, 51, 125] })), (13, .const (Go.Value.string { data := #[40, 41] })), (14, .const (Go.Value.string { data := #[33] })), (15, .const (Go.Value.string { data := #[97, 45, 32, 42, 32, 97, 32, 46] })), (16, .const (Go.Value.string { data := #[97, 32, 98, 45, 32, 46, 32, 42, 32, 99, 32, 124] })), (17, .const (Go.Value.string { data := #[97, 32, 42, 32, 97, 32, 42, 32, 46] })), (18, .const (Go.Value.string { data := #[97, 32, 48, 32, 124, 32, 42, 32, 98, 32, 46] })), (19, .const (Go.Value.string { data := #[97, 32, 97, 32, 46, 32, 42] })), (20, .const (Go.Value.string { data := #[97, 32, 98, 32, 46, 32, 98, 32, 97, 32, 46, 32, 124, 32, 42] }))]) ([] : List UInt8) [[97], [97, 32, 98, 32, 46], [97, 32, 42], [97, 32, 98, 32, 124, 32, 42], [97, 32, 97, 45, 32, 46], [97, 32, 42, 32, 98, 32, 46], [97, 32, 98, 32, 42, 32, 46, 32, 99, 32, 46], [97, 32, 97, 32, 124, 32, 42], [97, 32, 98, 32, 46, 32, 42], [48, 32, 97, 32, 46, 32, 42], [97, 32, 49, 32, 46, 32, 98, 32, 46], [97, 32, 123, 48, 44, 50, 125], [97, 32, 98, 32, 124, 32, 123, 49, 44, 51, 125], [40, 41], [33], [97, 45, 32, 42, 32, 97, 32, 46], [97, 32, 98, 45, 32, 46, 32, 42, 32, 99, 32, 124], [97, 32, 42, 32, 97, 32, 42, 32, 46], [97, 32, 48, 32, 124, 32, 42, 32, 98, 32, 46], [97, 32, 97, 32, 46, 32, 42], [97, 32, 98, 32, 46, 32, 98, 32, 97, 32, 46, 32, 124, 32, 42]] el160 sz9 zr9 Zej (by decide) rfl rfl rfl (by decide) (by decide) rfl fun R W4 x r C4 => ?_
 have S := C4.size
 have E := E.trans C4.of_nil
 obtain ⟨B, C, rfl, D, y⟩ := x.opn
 refine Zm rfl rfl ?_
 have F5 := (k.ch0 C2).ch0 C4
 refine Step.call (Zl (xs := [.tmp 6, .tmp 7]) fk139 rfl) (Zkg F5 x (by decide) W2.heap.size om r) fun T W6 F => ?_
 obtain ⟨f, rfl, j, G, C6⟩ := F
 have U := C6.size
 have E := E.trans C6
 refine Zm rfl rfl ?_
 refine Step.call (Zl (xs := [.tmp 8]) fk138 rfl) (Zgt f (by have V := Zqp _ j; omega)) fun X W7 H => ?_
 obtain ⟨s, rfl, d, c, C7⟩ := H
 have Y := C7.size
 have E := E.trans C7.of_nil
 obtain ⟨a, b, rfl, n, e⟩ := d.opn
 refine Za rfl rfl (Zd rfl) (Za rfl rfl (Qh rfl rfl) (Za rfl rfl (Qh rfl rfl) (Zm rfl rfl ?_)))
 refine Yh zr44 fun z W8 o C8 Z => ?_
 have aa := C8.size
 have E := E.trans C8.of_nil
 have ab := o.lt
 replace o : Blk W8 z 44 [(.slice none 0 0)] := o
 refine Zm rfl rfl ?_
 refine Zn (off := 0) 1 o sz44 rfl (us := [(.slice a ((parS f).1).length b)]) rfl rfl rfl rfl fun W9 h C9 => ?_
 have ac := C9.size
 have E := E.step C9 (lS om)
 replace h : Blk W9 z 44 [(.slice a ((parS f).1).length b)] := h
 refine Za rfl rfl (Zf rfl) (Ze (Zb (H3 _ _ ?_)))
 refine Zg fun ad I => ?_
 refine Zc (Za rfl rfl (Zy h.at_ agg44 sz44 rfl) (Zm rfl rfl ?_))
 have J := ((((m.ch0 C4).ch C6 (nS om)).ch0 C7).ch0 C8).ch C9 (nS om)
 refine Zn (off := 0) 1 J sz44 rfl (us := [(.slice a ((parS f).1).length b)]) rfl rfl rfl rfl fun A i p => ?_
 have K := p.size
 have E := E.step p (lS om)
 replace i : Blk A u 44 [(.slice a ((parS f).1).length b)] := i
 refine Ze (Zb (I _ _ ?_))
 refine Zq ?_
 have L := ((d.ch0 C8).ch C9 (dS c e om)).ch p (dS c e om)
 have l : Ol Token.cs 84 4 A (.slice a ((parS f).1).length b) ((parS f).1) := by
  have hx := L
  first | exact hx | simpa using hx
 have M := (((G.ch0 C7).ch0 C8).ch C9 (oS om)).ch p (oS om)
 exact Zi [_] (Zt i rfl agg44 sz44 trivial) ⟨((parS f).1), (.slice a ((parS f).1).length b), rfl, l, (Lo.down c om), (Zrj _ j), M, E⟩

/-- spec.LetterExpr -/
theorem Zfx {w : World} (l : Int) :
 Ctr Try.prog 140 #[(.int .i64 l)] w (fun v w' => ∃ u, v = .agg #[u] ∧ Ol Token.cs 84 4 w' u ([(⟨3, l, 0, 0⟩ : Token)]) ∧ Lo w.heap.size u ∧ Ch [] w w') := by
 have E := Ch.refl [] w
 refine Ye (N := 7) (vs0 := [(.int .i64 l)]) Try.func140 rfl rfl rfl ?_
 refine Zg fun K1 H1 => ?_
 refine Zc (Zm rfl rfl ?_)
 refine Yh zr44 fun h W2 f C2 k => ?_
 have m := C2.size
 have E := E.trans C2
 have n := f.lt
 replace f : Blk W2 h 44 [(.slice none 0 0)] := f
 refine Ze (Zb (H1 _ _ ?_))
 refine Zg fun K3 H3 => ?_
 refine Zc (Za rfl rfl (Zd rfl) (Za rfl rfl (Yn (parts := [(0, .const (Go.Value.int Go.IntKind.i64 3)), (1, .tmp 3)]) (cells := [(.int .i64 3), (.int .i64 l), (.int .i64 0), (.int .i64 0)]) zr84 pl84 rfl rfl) (Zm rfl rfl ?_)))
 refine Ym (cs := Token.cs) (parts := [(0, .tmp 4)]) (⟨0, 0, 0, 0⟩ : Token) [(⟨3, l, 0, 0⟩ : Token)] el42 sz84 zr84 Token.len (by decide) rfl rfl rfl (by decide) (by decide) rfl fun o W4 i d C4 => ?_
 have p := C4.size
 have E := E.trans C4
 obtain ⟨a, b, rfl, j, e⟩ := i.opn
 refine Za rfl rfl (Yn (parts := [(0, .tmp 5)]) (cells := [(.slice a ([(⟨3, l, 0, 0⟩ : Token)]).length b)]) zr44 pl44 rfl rfl) (Zm rfl rfl ?_)
 have F5 := f.ch0 C4
 refine Zn (off := 0) 1 F5 sz44 rfl (us := [(.slice a ([(⟨3, l, 0, 0⟩ : Token)]).length b)]) rfl rfl rfl rfl fun W6 c C6 => ?_
 have q := C6.size
 have E := E.step C6 (lS om)
 replace c : Blk W6 h 44 [(.slice a ([(⟨3, l, 0, 0⟩ : Token)]).length b)] := c
 refine Ze (Zb (H3 _ _ ?_))
 refine Zq ?_
 have F9 := i.ch C6 (dS d e om)
 have g : Ol Token.cs 84 4 W6 (.slice a ([(⟨3, l, 0, 0⟩ : Token)]).length b) ([(⟨3, l, 0, 0⟩ : Token)]) := by
  have hx := F9
  first | exact hx | simpa using hx
 exact Zi [_] (Zt c rfl agg44 sz44 trivial) ⟨_, rfl, g, Lo.down d om, E⟩

/-- spec.l1PickInt -/
theorem Zbc {w : World} {b_c : Nat} (f : Cu w b_c) {e_list : Nat} {a : Value} {list : List Int} (b : Ol ics e_list 1 w a list) (hl : 0 < list.length ∧ list.length ≤ 4096) (K9 : Nat) (q : b_c < K9) (i : Lo K9 a) :
 Ctr Try.prog 85 #[(.pointer (some ⟨b_c, 0, none⟩)), a] w (fun v w' => ∃ (n : Int) , v = .int .i64 n ∧ (n ∈ list) ∧ Cu w' b_c ∧ Ch [b_c] w w') := by
 have o := f.lt
 obtain ⟨d, e, rfl, h, c⟩ := b.opn
 have E := Ch.refl [b_c] w
 refine Ye (N := 12) (vs0 := [(.pointer (some ⟨b_c, 0, none⟩)), (.slice d list.length e)]) Try.func85 rfl rfl rfl ?_
 refine Zg fun V1 H1 => ?_
 refine Zc (Za rfl rfl (Zf rfl) (Ze (Zb (H1 _ _ ?_))))
 refine Zg fun V2 H2 => ?_
 refine Zc (Za rfl rfl (Zd rfl) (Za rfl rfl (Zd rfl) (Za rfl rfl (Zd rfl) (Za rfl rfl (Xc (by rw [el30]; rfl) rfl) (Zm rfl rfl ?_)))))
 refine Step.call (Zl (xs := [.tmp 6, .tmp 8]) fk42 rfl) (Xr f _ om) fun u W3 r => ?_
 obtain ⟨k, rfl, p, s, C3⟩ := r
 have x := C3.size
 have E := E.trans C3
 refine Zm rfl rfl ?_
 have F4 := b.ch C3 (dS i c om)
 refine (Yw (j := k.toNat) F4.ls Xg el30 sz3 rfl rfl om om fun t l g m => ?_)
 refine Za rfl rfl (Yr m agg3 rfl rfl) (Za rfl rfl (Zf rfl) (Ze (Zb (H2 _ _ ?_))))
 refine Zq ?_
 exact Zi [_] ⟨rfl, trivial⟩ ⟨l, (congrArg (fun zq => (Value.int .i64 zq)) (by first | rfl | simp_all)), (Xw g), s, E⟩

/-- spec.l8Make -/
theorem Zil : ∀ (n : Nat) {w : World} {b_c : Nat} (aI : Cu w b_c) (deep : Int) (hd : 0 ≤ deep ∧ deep ≤ 3) (hsz : deep.toNat < n),
 Ctr Try.prog 126 #[(.pointer (some ⟨b_c, 0, none⟩)), (.int .i64 deep)] w (fun v w' => ∃ (b5 : List Token) (ak : Value), v = .agg #[ak] ∧ Ol Token.cs 84 4 w' ak (b5) ∧ Lo w.heap.size ak ∧ (1 ≤ b5.length ∧ b5.length + 1 ≤ 2 ^ (deep.toNat + 1)) ∧ Cu w' b_c ∧ Ch [b_c] w w') := by
 intro n
 induction n with
 | zero => intros; omega
 | succ n ih =>
 intro w b_c aI deep hd hsz
 have cW := aI.lt
 have E := Ch.refl [b_c] w
 refine Ye (N := 70) (vs0 := [(.pointer (some ⟨b_c, 0, none⟩)), (.int .i64 deep)]) Try.func126 rfl rfl rfl ?_
 refine Zg fun K1 H1 => ?_
 refine Zc (Zm rfl rfl ?_)
 refine Yh zr44 fun aJ W2 al C2 e3 => ?_
 have e4 := C2.size
 have E := E.trans C2.of_nil
 have e5 := al.lt
 replace al : Blk W2 aJ 44 [(.slice none 0 0)] := al
 refine Ze (Zb (H1 _ _ ?_))
 refine Zg fun K3 H3 => ?_
 refine Zg fun K4 H4 => ?_
 refine Zc (Za rfl rfl (Zd rfl) (Za rfl rfl (Yy rfl rfl) (Ze (Zb (H4 _ _ ?_)))))
 refine Zp rfl (fun a1 => ?_) (fun a1 => ?_)
 ·have dn := a1
  have a1 := Yi a1
  refine Zg fun K6 H6 => ?_
  refine Zg fun K7 H7 => ?_
  refine Zc (Za rfl rfl (Zd rfl) (Zm rfl rfl ?_))
  have F8 := aI.ch0 C2
  refine Step.call (Zl (xs := [.tmp 8, .const (Go.Value.int Go.IntKind.i64 12)]) fk96 rfl) (Zam F8 _ om) fun e6 W9 dp => ?_
  obtain ⟨dq, rfl, cX, C9⟩ := dp
  have e7 := C9.size
  have E := E.trans C9
  refine Ze (Zb (H7 _ _ ?_))
  refine Zp rfl (fun b6 => ?_) (fun b6 => ?_)
  ·have b7 := b6
   refine Zg fun e8 dr => ?_
   refine Zc (Za rfl rfl (Zd rfl) (Zm rfl rfl ?_))
   refine Ym (cs := ics) (parts := [(0, .const (Go.Value.int Go.IntKind.i64 1)), (1, .const (Go.Value.int Go.IntKind.i64 2))]) (0 : Int) [1, 2] el30 sz3 zr3 Xg (by decide) rfl rfl rfl (by decide) (by decide) rfl fun ds e9 bj bk bJ => ?_
   have dt := bJ.size
   have E := E.trans bJ.of_nil
   obtain ⟨cY, cZ, rfl, c0, b8⟩ := bj.opn
   refine Zm rfl rfl ?_
   have du := cX.ch0 bJ
   refine Step.call (Zl (xs := [.tmp 10, .tmp 11]) fk85 rfl) (Zbc du bj (by decide) W9.heap.size om bk) fun dv fa b9 => ?_
   obtain ⟨H, rfl, ca, cb, cc⟩ := b9
   have dw := cc.size
   have E := E.trans cc
   refine Zm rfl rfl ?_
   refine Step.call (Zl (xs := [.tmp 12]) fk130 rfl) (Zdc _ ) fun dx fb aK => ?_
   obtain ⟨dy, rfl, aK, aV, bK⟩ := aK
   have dz := bK.size
   have E := E.trans bK.of_nil
   obtain ⟨ab, ac, rfl, c1, a2⟩ := aK.opn
   refine Zm rfl rfl ?_
   have dA := (((al.ch C9 (nS om)).ch0 bJ).ch cc (nS om)).ch0 bK
   refine Zn (off := 0) 1 dA sz44 rfl (us := [(.slice ab ([(⟨H, 0, 0, 0⟩ : Token)]).length ac)]) rfl rfl rfl rfl fun c2 am bL => ?_
   have dB := bL.size
   have E := E.step bL (lS om)
   replace am : Blk c2 aJ 44 [(.slice ab ([(⟨H, 0, 0, 0⟩ : Token)]).length ac)] := am
   refine Ze (Zb (dr _ _ ?_))
   refine Zq (Zo (Zo ?_))
   clear H3 H6
   have dC := aK.ch bL (dS aV a2 om)
   have bm : Ol Token.cs 84 4 c2 (.slice ab ([(⟨H, 0, 0, 0⟩ : Token)]).length ac) ([(⟨H, 0, 0, 0⟩ : Token)]) := by
    have hx := dC
    first | exact hx | simpa using hx
   have dD := (cb.ch0 bK).ch bL (oS om)
   exact Zi [_] (Zt am rfl agg44 sz44 trivial) ⟨([(⟨H, 0, 0, 0⟩ : Token)]), (.slice ab ([(⟨H, 0, 0, 0⟩ : Token)]).length ac), rfl, bm, (Lo.down aV om), (by first | exact Zdm om | exact Zbw a b rfl om | exact Zbw c d rfl om | exact Zbv o rfl om | exact Zbv p rfl om), dD, E⟩
  have b7 := b6
  refine Zu ?_
  refine Zb (H6 _ _ ?_)
  refine Zg fun fc dE => ?_
  refine Zc (Za rfl rfl (Zd rfl) (Zm rfl rfl ?_))
  refine Ym (cs := ics) (parts := [(0, .const (Go.Value.int Go.IntKind.i64 0)), (1, .const (Go.Value.int Go.IntKind.i64 0)), (2, .const (Go.Value.int Go.IntKind.i64 2)), (3, .const (Go.Value.int Go.IntKind.i64 2)), (4, .const (Go.Value.int Go.IntKind.i64 1)), (5, .const (Go.Value.int Go.IntKind.i64 4)), (6, .const (Go.Value.int Go.IntKind.i64 3)), (7, .const (Go.Value.int Go.IntKind.i64 6)), (8, .const (Go.Value.int Go.IntKind.i64 7))]) (0 : Int) [0, 0, 2, 2, 1, 4, 3, 6, 7] el30 sz3 zr3 Xg (by decide) rfl rfl rfl (by decide) (by decide) rfl fun dF fd bn bp bM => ?_
  have dG := bM.size
  have E := E.trans bM.of_nil
  obtain ⟨c3, c4, rfl, c5, cd⟩ := bn.opn
  refine Zm rfl rfl ?_
  have dH := cX.ch0 bM
  refine Step.call (Zl (xs := [.tmp 14, .tmp 15]) fk85 rfl) (Zbc dH bn (by decide) W9.heap.size om bp) fun dI fe ce => ?_
  obtain ⟨I, rfl, cf, cg, ci⟩ := ce
  have dJ := ci.size
  have E := E.trans ci
  refine Zm rfl rfl ?_
  refine Step.call (Zl (xs := [.tmp 16]) fk140 rfl) (Zfx _ ) fun dL ff aL => ?_
  obtain ⟨dM, rfl, aL, aW, bN⟩ := aL
  have dN := bN.size
  have E := E.trans bN.of_nil
  obtain ⟨ad, ae, rfl, c6, a3⟩ := aL.opn
  refine Zm rfl rfl ?_
  have dP := (((al.ch C9 (nS om)).ch0 bM).ch ci (nS om)).ch0 bN
  refine Zn (off := 0) 1 dP sz44 rfl (us := [(.slice ad ([(⟨3, I, 0, 0⟩ : Token)]).length ae)]) rfl rfl rfl rfl fun c7 an bO => ?_
  have dQ := bO.size
  have E := E.step bO (lS om)
  replace an : Blk c7 aJ 44 [(.slice ad ([(⟨3, I, 0, 0⟩ : Token)]).length ae)] := an
  refine Ze (Zb (dE _ _ ?_))
  refine Zq (Zo ?_)
  have dR := aL.ch bO (dS aW a3 om)
  have bq : Ol Token.cs 84 4 c7 (.slice ad ([(⟨3, I, 0, 0⟩ : Token)]).length ae) ([(⟨3, I, 0, 0⟩ : Token)]) := by
   have hx := dR
   first | exact hx | simpa using hx
  have dU := (cg.ch0 bN).ch bO (oS om)
  exact Zi [_] (Zt an rfl agg44 sz44 trivial) ⟨([(⟨3, I, 0, 0⟩ : Token)]), (.slice ad ([(⟨3, I, 0, 0⟩ : Token)]).length ae), rfl, bq, (Lo.down aW om), (by first | exact Zdm om | exact Zbw a b rfl om | exact Zbw c d rfl om | exact Zbv o rfl om | exact Zbv p rfl om), dU, E⟩
 have dn := a1
 have a1 := Yj a1
 refine Zu ?_
 refine Zb (H3 _ _ ?_)
 refine Zg fun fg dW => ?_
 refine Zg fun fh dX => ?_
 refine Zc (Za rfl rfl (Zd rfl) (Zm rfl rfl ?_))
 have dY := aI.ch0 C2
 refine Step.call (Zl (xs := [.tmp 18, .const (Go.Value.int Go.IntKind.i64 6)]) fk42 rfl) (Xr dY _ om) fun dZ fi cj => ?_
 obtain ⟨c8, rfl, ck, aj, aX⟩ := cj
 have d0 := aX.size
 have E := E.trans aX
 refine Ze (Zb (dX _ _ ?_))
 refine Zx ?_
 refine Zg fun fj c9 => ?_
 refine Zg fun fk d1 => ?_
 refine Zc (Za rfl rfl (Yy rfl rfl) (Za rfl rfl (Zf rfl) (Ze (Zb (d1 _ _ ?_)))))
 refine Zp rfl (fun s => ?_) (fun s => ?_)
 ·have br := s
  have s := Yi s
  refine Zu ?_
  refine Zb (c9 _ _ ?_)
  refine Zas rfl br ?_
  refine Zg fun fl d2 => ?_
  refine Zc (Za rfl rfl (Zd rfl) (Za rfl rfl (Zd rfl) (Za rfl rfl (Zav om rfl rfl) (Zm rfl rfl ?_))))
  refine Step.call (Zl (xs := [.tmp 23, .tmp 25]) fk126 rfl) (ih aj _ om om) fun cl fm a4 => ?_
  obtain ⟨i, aM, rfl, e, q, a, a5, cm⟩ := a4
  have d3 := cm.size
  have E := E.trans cm
  obtain ⟨ao, ap, rfl, aq, t⟩ := e.opn
  have cn := Zhg a om
  refine Za rfl rfl (Zd rfl) (Za rfl rfl (Zd rfl) (Za rfl rfl (Zav om rfl rfl) (Zm rfl rfl ?_)))
  refine Step.call (Zl (xs := [.tmp 27, .tmp 29]) fk126 rfl) (ih a5 _ om om) fun co fn a6 => ?_
  obtain ⟨j, aN, rfl, f, O, b, a7, bP⟩ := a6
  have d4 := bP.size
  have E := E.trans bP
  obtain ⟨au, av, rfl, aw, T⟩ := f.opn
  have cp := Zhg b om
  refine Za rfl rfl (Yn (parts := [(0, .const (Go.Value.int Go.IntKind.i64 4))]) (cells := [(.int .i64 4), (.int .i64 0), (.int .i64 0), (.int .i64 0)]) zr84 pl84 rfl rfl) (Zm rfl rfl ?_)
  have d5 := e.ch bP (dS q t om)
  refine Step.call (Zl (xs := [.tmp 26, .tmp 30, .tmp 31]) fk111 rfl) (Xx d5.ls f.ls ⟨4, 0, 0, 0⟩ (by first | omega | (simp only [List.length_nil]; omega))) fun cq fo L => ?_
  obtain ⟨cr, rfl, L, P, bQ⟩ := L
  have d6 := bQ.size
  have E := E.trans bQ.of_nil
  obtain ⟨y, z, rfl, bs, U⟩ := L.opn
  refine Zm rfl rfl ?_
  have d7 := (((al.ch aX (nS om)).ch cm (nS om)).ch bP (nS om)).ch0 bQ
  refine Zn (off := 0) 1 d7 sz44 rfl (us := [(.slice y (i ++ j ++ [(⟨4, 0, 0, 0⟩ : Token)]).length z)]) rfl rfl rfl rfl fun da ax bR => ?_
  have d8 := bR.size
  have E := E.step bR (lS om)
  replace ax : Blk da aJ 44 [(.slice y (i ++ j ++ [(⟨4, 0, 0, 0⟩ : Token)]).length z)] := ax
  refine Ze (Zb (d2 _ _ ?_))
  refine Zq (Yd (Zo ?_))
  have d9 := L.ch bR (dS P U om)
  have bu : Ol Token.cs 84 4 da (.slice y (i ++ j ++ [(⟨4, 0, 0, 0⟩ : Token)]).length z) (i ++ j ++ [(⟨4, 0, 0, 0⟩ : Token)]) := by
   have hx := d9
   first | exact hx | simpa using hx
  have ea := (a7.ch0 bQ).ch bR (oS om)
  exact Zi [_] (Zt ax rfl agg44 sz44 trivial) ⟨(i ++ j ++ [(⟨4, 0, 0, 0⟩ : Token)]), (.slice y (i ++ j ++ [(⟨4, 0, 0, 0⟩ : Token)]).length z), rfl, bu, (Lo.down P om), (by first | exact Zdm om | exact Zbw a b rfl om | exact Zbw c d rfl om | exact Zbv o rfl om | exact Zbv p rfl om), ea, E⟩
 have br := s
 have s := Yj s
 refine Zc (Za rfl rfl (Yy rfl rfl) (Za rfl rfl (Zf rfl) (Ze (Zb (c9 _ _ ?_)))))
 refine Zp rfl (fun s => ?_) (fun s => ?_)
 ·have ct := s
  have s := Yi s
  refine Zg fun fp eb => ?_
  refine Zc (Za rfl rfl (Zd rfl) (Za rfl rfl (Zd rfl) (Za rfl rfl (Zav om rfl rfl) (Zm rfl rfl ?_))))
  refine Step.call (Zl (xs := [.tmp 23, .tmp 25]) fk126 rfl) (ih aj _ om om) fun cl fq a4 => ?_
  obtain ⟨i, aM, rfl, e, q, a, a5, cu⟩ := a4
  have ec := cu.size
  have E := E.trans cu
  obtain ⟨ao, ap, rfl, aq, t⟩ := e.opn
  have cn := Zhg a om
  refine Za rfl rfl (Zd rfl) (Za rfl rfl (Zd rfl) (Za rfl rfl (Zav om rfl rfl) (Zm rfl rfl ?_)))
  refine Step.call (Zl (xs := [.tmp 27, .tmp 29]) fk126 rfl) (ih a5 _ om om) fun co fr a6 => ?_
  obtain ⟨j, aN, rfl, f, O, b, a7, bS⟩ := a6
  have ed := bS.size
  have E := E.trans bS
  obtain ⟨au, av, rfl, aw, T⟩ := f.opn
  have cp := Zhg b om
  refine Za rfl rfl (Yn (parts := [(0, .const (Go.Value.int Go.IntKind.i64 4))]) (cells := [(.int .i64 4), (.int .i64 0), (.int .i64 0), (.int .i64 0)]) zr84 pl84 rfl rfl) (Zm rfl rfl ?_)
  have ee := e.ch bS (dS q t om)
  refine Step.call (Zl (xs := [.tmp 26, .tmp 30, .tmp 31]) fk111 rfl) (Xx ee.ls f.ls ⟨4, 0, 0, 0⟩ (by first | omega | (simp only [List.length_nil]; omega))) fun cq fs L => ?_
  obtain ⟨cr, rfl, L, P, bT⟩ := L
  have ef := bT.size
  have E := E.trans bT.of_nil
  obtain ⟨y, z, rfl, bs, U⟩ := L.opn
  refine Zm rfl rfl ?_
  have eg := (((al.ch aX (nS om)).ch cu (nS om)).ch bS (nS om)).ch0 bT
  refine Zn (off := 0) 1 eg sz44 rfl (us := [(.slice y (i ++ j ++ [(⟨4, 0, 0, 0⟩ : Token)]).length z)]) rfl rfl rfl rfl fun db ay bU => ?_
  have eh := bU.size
  have E := E.step bU (lS om)
  replace ay : Blk db aJ 44 [(.slice y (i ++ j ++ [(⟨4, 0, 0, 0⟩ : Token)]).length z)] := ay
  refine Ze (Zb (eb _ _ ?_))
  refine Zq (Yd (Zo ?_))
  have ei := L.ch bU (dS P U om)
  have bv : Ol Token.cs 84 4 db (.slice y (i ++ j ++ [(⟨4, 0, 0, 0⟩ : Token)]).length z) (i ++ j ++ [(⟨4, 0, 0, 0⟩ : Token)]) := by
   have hx := ei
   first | exact hx | simpa using hx
  have ej := (a7.ch0 bT).ch bU (oS om)
  exact Zi [_] (Zt ay rfl agg44 sz44 trivial) ⟨(i ++ j ++ [(⟨4, 0, 0, 0⟩ : Token)]), (.slice y (i ++ j ++ [(⟨4, 0, 0, 0⟩ : Token)]).length z), rfl, bv, (Lo.down P om), (by first | exact Zdm om | exact Zbw a b rfl om | exact Zbw c d rfl om | exact Zbv o rfl om | exact Zbv p rfl om), ej, E⟩
 have ct := s
 have s := Yj s
 refine Zg fun ft dc => ?_
 refine Zg fun fu ek => ?_
 refine Zc (Za rfl rfl (Yy rfl rfl) (Za rfl rfl (Zf rfl) (Ze (Zb (ek _ _ ?_)))))
 refine Zp rfl (fun u => ?_) (fun u => ?_)
 ·have bw := u
  have u := Yi u
  refine Zu ?_
  refine Zb (dc _ _ ?_)
  refine Zas rfl bw ?_
  refine Zg fun fv el => ?_
  refine Zc (Za rfl rfl (Zd rfl) (Za rfl rfl (Zd rfl) (Za rfl rfl (Zav om rfl rfl) (Zm rfl rfl ?_))))
  refine Step.call (Zl (xs := [.tmp 36, .tmp 38]) fk126 rfl) (ih aj _ om om) fun cv fw a8 => ?_
  obtain ⟨l, aO, rfl, g, r, c, a9, cw⟩ := a8
  have em := cw.size
  have E := E.trans cw
  obtain ⟨az, aA, rfl, aB, x⟩ := g.opn
  have cx := Zhg c om
  refine Za rfl rfl (Zd rfl) (Za rfl rfl (Zd rfl) (Za rfl rfl (Zav om rfl rfl) (Zm rfl rfl ?_)))
  refine Step.call (Zl (xs := [.tmp 40, .tmp 42]) fk126 rfl) (ih a9 _ om om) fun cy fx ba => ?_
  obtain ⟨m, aP, rfl, h, Q, d, bb, bV⟩ := ba
  have en := bV.size
  have E := E.trans bV
  obtain ⟨aC, aD, rfl, aE, V⟩ := h.opn
  have cz := Zhg d om
  refine Za rfl rfl (Yn (parts := [(0, .const (Go.Value.int Go.IntKind.i64 5))]) (cells := [(.int .i64 5), (.int .i64 0), (.int .i64 0), (.int .i64 0)]) zr84 pl84 rfl rfl) (Zm rfl rfl ?_)
  have eo := g.ch bV (dS r x om)
  refine Step.call (Zl (xs := [.tmp 39, .tmp 43, .tmp 44]) fk111 rfl) (Xx eo.ls h.ls ⟨5, 0, 0, 0⟩ (by first | omega | (simp only [List.length_nil]; omega))) fun cA fy M => ?_
  obtain ⟨cB, rfl, M, R, bW⟩ := M
  have ep := bW.size
  have E := E.trans bW.of_nil
  obtain ⟨A, B, rfl, bx, X⟩ := M.opn
  refine Zm rfl rfl ?_
  have er := (((al.ch aX (nS om)).ch cw (nS om)).ch bV (nS om)).ch0 bW
  refine Zn (off := 0) 1 er sz44 rfl (us := [(.slice A (l ++ m ++ [(⟨5, 0, 0, 0⟩ : Token)]).length B)]) rfl rfl rfl rfl fun dd aF bX => ?_
  have es := bX.size
  have E := E.step bX (lS om)
  replace aF : Blk dd aJ 44 [(.slice A (l ++ m ++ [(⟨5, 0, 0, 0⟩ : Token)]).length B)] := aF
  refine Ze (Zb (el _ _ ?_))
  refine Zq (Yd (Zo ?_))
  have et := M.ch bX (dS R X om)
  have bz : Ol Token.cs 84 4 dd (.slice A (l ++ m ++ [(⟨5, 0, 0, 0⟩ : Token)]).length B) (l ++ m ++ [(⟨5, 0, 0, 0⟩ : Token)]) := by
   have hx := et
   first | exact hx | simpa using hx
  have eu := (bb.ch0 bW).ch bX (oS om)
  exact Zi [_] (Zt aF rfl agg44 sz44 trivial) ⟨(l ++ m ++ [(⟨5, 0, 0, 0⟩ : Token)]), (.slice A (l ++ m ++ [(⟨5, 0, 0, 0⟩ : Token)]).length B), rfl, bz, (Lo.down R om), (by first | exact Zdm om | exact Zbw a b rfl om | exact Zbw c d rfl om | exact Zbv o rfl om | exact Zbv p rfl om), eu, E⟩
 have bw := u
 have u := Yj u
 refine Zc (Za rfl rfl (Yy rfl rfl) (Za rfl rfl (Zf rfl) (Ze (Zb (dc _ _ ?_)))))
 refine Zp rfl (fun u => ?_) (fun u => ?_)
 ·have cC := u
  have u := Yi u
  refine Zg fun fz ew => ?_
  refine Zc (Za rfl rfl (Zd rfl) (Za rfl rfl (Zd rfl) (Za rfl rfl (Zav om rfl rfl) (Zm rfl rfl ?_))))
  refine Step.call (Zl (xs := [.tmp 36, .tmp 38]) fk126 rfl) (ih aj _ om om) fun cv fA a8 => ?_
  obtain ⟨l, aO, rfl, g, r, c, a9, cD⟩ := a8
  have ex := cD.size
  have E := E.trans cD
  obtain ⟨az, aA, rfl, aB, x⟩ := g.opn
  have cx := Zhg c om
  refine Za rfl rfl (Zd rfl) (Za rfl rfl (Zd rfl) (Za rfl rfl (Zav om rfl rfl) (Zm rfl rfl ?_)))
  refine Step.call (Zl (xs := [.tmp 40, .tmp 42]) fk126 rfl) (ih a9 _ om om) fun cy fB ba => ?_
  obtain ⟨m, aP, rfl, h, Q, d, bb, bY⟩ := ba
  have ey := bY.size
  have E := E.trans bY
  obtain ⟨aC, aD, rfl, aE, V⟩ := h.opn
  have cz := Zhg d om
  refine Za rfl rfl (Yn (parts := [(0, .const (Go.Value.int Go.IntKind.i64 5))]) (cells := [(.int .i64 5), (.int .i64 0), (.int .i64 0), (.int .i64 0)]) zr84 pl84 rfl rfl) (Zm rfl rfl ?_)
  have ez := g.ch bY (dS r x om)
  refine Step.call (Zl (xs := [.tmp 39, .tmp 43, .tmp 44]) fk111 rfl) (Xx ez.ls h.ls ⟨5, 0, 0, 0⟩ (by first | omega | (simp only [List.length_nil]; omega))) fun cA fC M => ?_
  obtain ⟨cB, rfl, M, R, bZ⟩ := M
  have eA := bZ.size
  have E := E.trans bZ.of_nil
  obtain ⟨A, B, rfl, bx, X⟩ := M.opn
  refine Zm rfl rfl ?_
  have eB := (((al.ch aX (nS om)).ch cD (nS om)).ch bY (nS om)).ch0 bZ
  refine Zn (off := 0) 1 eB sz44 rfl (us := [(.slice A (l ++ m ++ [(⟨5, 0, 0, 0⟩ : Token)]).length B)]) rfl rfl rfl rfl fun de aG b0 => ?_
  have eC := b0.size
  have E := E.step b0 (lS om)
  replace aG : Blk de aJ 44 [(.slice A (l ++ m ++ [(⟨5, 0, 0, 0⟩ : Token)]).length B)] := aG
  refine Ze (Zb (ew _ _ ?_))
  refine Zq (Yd (Zo ?_))
  have eD := M.ch b0 (dS R X om)
  have bA : Ol Token.cs 84 4 de (.slice A (l ++ m ++ [(⟨5, 0, 0, 0⟩ : Token)]).length B) (l ++ m ++ [(⟨5, 0, 0, 0⟩ : Token)]) := by
   have hx := eD
   first | exact hx | simpa using hx
  have eE := (bb.ch0 bZ).ch b0 (oS om)
  exact Zi [_] (Zt aG rfl agg44 sz44 trivial) ⟨(l ++ m ++ [(⟨5, 0, 0, 0⟩ : Token)]), (.slice A (l ++ m ++ [(⟨5, 0, 0, 0⟩ : Token)]).length B), rfl, bA, (Lo.down R om), (by first | exact Zdm om | exact Zbw a b rfl om | exact Zbw c d rfl om | exact Zbv o rfl om | exact Zbv p rfl om), eE, E⟩
 have cC := u
 have u := Yj u
 refine Zg fun fD eF => ?_
 refine Zc (Za rfl rfl (Yy rfl rfl) (Za rfl rfl (Zf rfl) (Ze (Zb (eF _ _ ?_)))))
 refine Zp rfl (fun Y => ?_) (fun Y => ?_)
 ·have cE := Y
  have Y := Yi Y
  refine Zg fun fE eG => ?_
  refine Zc (Za rfl rfl (Zd rfl) (Za rfl rfl (Zd rfl) (Za rfl rfl (Zav om rfl rfl) (Zm rfl rfl ?_))))
  refine Step.call (Zl (xs := [.tmp 48, .tmp 50]) fk126 rfl) (ih aj _ om om) fun eH fF cF => ?_
  obtain ⟨J, b1, rfl, F, aY, o, cG, cH⟩ := cF
  have eI := cH.size
  have E := E.trans cH
  obtain ⟨bB, bC, rfl, bD, bc⟩ := F.opn
  have eJ := Zhg o om
  refine Za rfl rfl (Yn (parts := []) (cells := [(.slice none 0 0)]) zr44 pl44 rfl rfl) (Za rfl rfl (Yn (parts := [(0, .const (Go.Value.int Go.IntKind.i64 6))]) (cells := [(.int .i64 6), (.int .i64 0), (.int .i64 0), (.int .i64 0)]) zr84 pl84 rfl rfl) (Zm rfl rfl ?_))
  refine Step.call (Zl (xs := [.tmp 51, .tmp 52, .tmp 53]) fk111 rfl) (Xx F.ls (Ls.nil (cs := Token.cs) (k := 4) _ 0 0) ⟨6, 0, 0, 0⟩ (by first | omega | (simp only [List.length_nil]; omega))) fun eK fG aQ => ?_
  obtain ⟨eL, rfl, aQ, aZ, b2⟩ := aQ
  have eM := b2.size
  have E := E.trans b2.of_nil
  obtain ⟨af, ag, rfl, df, be⟩ := aQ.opn
  refine Zm rfl rfl ?_
  have eN := ((al.ch aX (nS om)).ch cH (nS om)).ch0 b2
  refine Zn (off := 0) 1 eN sz44 rfl (us := [(.slice af (J ++ [] ++ [(⟨6, 0, 0, 0⟩ : Token)]).length ag)]) rfl rfl rfl rfl fun dg aH b3 => ?_
  have eO := b3.size
  have E := E.step b3 (lS om)
  replace aH : Blk dg aJ 44 [(.slice af (J ++ [] ++ [(⟨6, 0, 0, 0⟩ : Token)]).length ag)] := aH
  refine Ze (Zb (eG _ _ ?_))
  refine Zq (Yd (Zo ?_))
  have eP := aQ.ch b3 (dS aZ be om)
  have bE : Ol Token.cs 84 4 dg (.slice af (J ++ [] ++ [(⟨6, 0, 0, 0⟩ : Token)]).length ag) (J ++ [] ++ [(⟨6, 0, 0, 0⟩ : Token)]) := by
   have hx := eP
   first | exact hx | simpa using hx
  have eQ := (cG.ch0 b2).ch b3 (oS om)
  exact Zi [_] (Zt aH rfl agg44 sz44 trivial) ⟨(J ++ [] ++ [(⟨6, 0, 0, 0⟩ : Token)]), (.slice af (J ++ [] ++ [(⟨6, 0, 0, 0⟩ : Token)]).length ag), rfl, bE, (Lo.down aZ om), (by first | exact Zdm om | exact Zbw a b rfl om | exact Zbw c d rfl om | exact Zbv o rfl om | exact Zbv p rfl om), eQ, E⟩
 have cE := Y
 have Y := Yj Y
 refine Zu ?_
 refine Zw (Zb (dW _ _ ?_))
 refine Zg fun eR cI => ?_
 refine Zc (Za rfl rfl (Zd rfl) (Zm rfl rfl ?_))
 refine Step.call (Zl (xs := [.tmp 55, .const (Go.Value.int Go.IntKind.i64 3)]) fk42 rfl) (Xr aj _ om) fun eS eT cJ => ?_
 obtain ⟨C, rfl, cK, cL, bf⟩ := cJ
 have dh := bf.size
 have E := E.trans bf
 refine Za rfl rfl (Yo om rfl rfl) (Za rfl rfl (Zf rfl) (Ze (Zb (cI _ _ ?_))))
 refine Zg fun eU cM => ?_
 refine Zc (Za rfl rfl (Zd rfl) (Za rfl rfl (Zd rfl) (Za rfl rfl (Zav om rfl rfl) (Zm rfl rfl ?_))))
 refine Step.call (Zl (xs := [.tmp 58, .tmp 60]) fk126 rfl) (ih cL _ om om) fun eV eW cN => ?_
 obtain ⟨K, b4, rfl, G, S, p, cO, bg⟩ := cN
 have di := bg.size
 have E := E.trans bg
 obtain ⟨bF, bG, rfl, bH, Z⟩ := G.opn
 have eX := Zhg p om
 refine Za rfl rfl (Yn (parts := []) (cells := [(.slice none 0 0)]) zr44 pl44 rfl rfl) (Za rfl rfl (Zd rfl) (Za rfl rfl (Zd rfl) (Za rfl rfl (Yo om rfl rfl) (Zm rfl rfl ?_))))
 refine Step.call (Zl (xs := [.tmp 63, .tmp 65]) fk42 rfl) (Xr cO _ om) fun eY eZ cP => ?_
 obtain ⟨D, rfl, cQ, cR, aR⟩ := cP
 have dj := aR.size
 have E := E.trans aR
 refine Za rfl rfl (Zd rfl) (Za rfl rfl (Yn (parts := [(0, .const (Go.Value.int Go.IntKind.i64 7)), (2, .tmp 66), (3, .tmp 67)]) (cells := [(.int .i64 7), (.int .i64 0), (.int .i64 D), (.int .i64 (1 + C))]) zr84 pl84 rfl rfl) (Zm rfl rfl ?_))
 have cS := G.ch aR (dS S Z om)
 refine Step.call (Zl (xs := [.tmp 61, .tmp 62, .tmp 68]) fk111 rfl) (Xx cS.ls (Ls.nil (cs := Token.cs) (k := 4) _ 0 0) ⟨7, 0, D, (1 + C)⟩ (by first | omega | (simp only [List.length_nil]; omega))) fun e0 e1 aS => ?_
 obtain ⟨e2, rfl, aS, a0, aT⟩ := aS
 have dk := aT.size
 have E := E.trans aT.of_nil
 obtain ⟨ah, ai, rfl, dl, bh⟩ := aS.opn
 refine Zm rfl rfl ?_
 have cT := ((((al.ch aX (nS om)).ch bf (nS om)).ch bg (nS om)).ch aR (nS om)).ch0 aT
 refine Zn (off := 0) 1 cT sz44 rfl (us := [(.slice ah (K ++ [] ++ [(⟨7, 0, D, (1 + C)⟩ : Token)]).length ai)]) rfl rfl rfl rfl fun bI aa aU => ?_
 have dm := aU.size
 have E := E.step aU (lS om)
 replace aa : Blk bI aJ 44 [(.slice ah (K ++ [] ++ [(⟨7, 0, D, (1 + C)⟩ : Token)]).length ai)] := aa
 refine Ze (Zb (cM _ _ ?_))
 refine Zq ?_
 have cU := aS.ch aU (dS a0 bh om)
 have bi : Ol Token.cs 84 4 bI (.slice ah (K ++ [] ++ [(⟨7, 0, D, (1 + C)⟩ : Token)]).length ai) (K ++ [] ++ [(⟨7, 0, D, (1 + C)⟩ : Token)]) := by
  have hx := cU
  first | exact hx | simpa using hx
 have cV := (cR.ch0 aT).ch aU (oS om)
 exact Zi [_] (Zt aa rfl agg44 sz44 trivial) ⟨(K ++ [] ++ [(⟨7, 0, D, (1 + C)⟩ : Token)]), (.slice ah (K ++ [] ++ [(⟨7, 0, D, (1 + C)⟩ : Token)]).length ai), rfl, bi, (Lo.down a0 om), (by first | exact Zdm om | exact Zbw a b rfl om | exact Zbw c d rfl om | exact Zbv o rfl om | exact Zbv p rfl om), cV, E⟩
theorem Zkj {w : World} {b_c : Nat} (b : Cu w b_c) (deep : Int) (hd : 0 ≤ deep ∧ deep ≤ 3) :
 Ctr Try.prog 126 #[(.pointer (some ⟨b_c, 0, none⟩)), (.int .i64 deep)] w (fun v w' => ∃ (c : List Token) (a : Value), v = .agg #[a] ∧ Ol Token.cs 84 4 w' a (c) ∧ Lo w.heap.size a ∧ (1 ≤ c.length ∧ c.length + 1 ≤ 2 ^ (deep.toNat + 1)) ∧ Cu w' b_c ∧ Ch [b_c] w w') := Zil _ b deep hd (Nat.lt_succ_self _)

/-- spec.l8Expr -/
theorem Zkl {w : World} {b_c : Nat} (q : Cu w b_c) :
 Ctr Try.prog 100 #[(.pointer (some ⟨b_c, 0, none⟩))] w (fun v w' => ∃ (C : List Token) (m : Value), v = .agg #[m] ∧ Ol Token.cs 84 4 w' m (C) ∧ Lo w.heap.size m ∧ (1 ≤ C.length ∧ C.length ≤ 24) ∧ Cu w' b_c ∧ Ch [b_c] w w') := by
 have L := q.lt
 have E := Ch.refl [b_c] w
 refine Ye (N := 12) (vs0 := [(.pointer (some ⟨b_c, 0, none⟩))]) Try.func100 rfl rfl rfl ?_
 refine Zg fun K1 H1 => ?_
 refine Zc (Zm rfl rfl ?_)
 refine Yh zr44 fun D W2 r C2 am => ?_
 have an := C2.size
 have E := E.trans C2.of_nil
 have ao := r.lt
 replace r : Blk W2 D 44 [(.slice none 0 0)] := r
 refine Ze (Zb (H1 _ _ ?_))
 refine Zg fun K3 H3 => ?_
 refine Zg fun K4 H4 => ?_
 refine Zc (Za rfl rfl (Zd rfl) (Zm rfl rfl ?_))
 have F5 := q.ch0 C2
 refine Step.call (Zl (xs := [.tmp 3, .const (Go.Value.int Go.IntKind.i64 2)]) fk96 rfl) (Zam F5 _ om) fun ap W6 R => ?_
 obtain ⟨S, rfl, M, C6⟩ := R
 have aq := C6.size
 have E := E.trans C6
 refine Ze (Zb (H4 _ _ ?_))
 refine Zp rfl (fun F => ?_) (fun F => ?_)
 ·have T := F
  refine Zg fun K8 H8 => ?_
  refine Zc (Za rfl rfl (Zd rfl) (Zm rfl rfl ?_))
  refine Step.call (Zl (xs := [.tmp 5]) fk125 rfl) (Zip M ) fun au W9 U => ?_
  obtain ⟨k, G, rfl, h, f, s, V, C9⟩ := U
  have av := C9.size
  have E := E.trans C9
  obtain ⟨d, e, rfl, y, l⟩ := h.opn
  refine Zm rfl rfl ?_
  have X := (r.ch C6 (nS om)).ch C9 (nS om)
  refine Zn (off := 0) 1 X sz44 rfl (us := [(.slice d (k).length e)]) rfl rfl rfl rfl fun O n z => ?_
  have Y := z.size
  have E := E.step z (lS om)
  replace n : Blk O D 44 [(.slice d (k).length e)] := n
  refine Ze (Zb (H8 _ _ ?_))
  refine Zq (Zo ?_)
  have Z := h.ch z (dS f l om)
  have t : Ol Token.cs 84 4 O (.slice d (k).length e) (k) := by
   have hx := Z
   first | exact hx | simpa using hx
  have aa := V.ch z (oS om)
  exact Zi [_] (Zt n rfl agg44 sz44 trivial) ⟨k, (.slice d (k).length e), rfl, t, (Lo.down f om), s, aa, E⟩
 have T := F
 refine Zu ?_
 refine Zb (H3 _ _ ?_)
 refine Zg fun aw ab => ?_
 refine Zc (Za rfl rfl (Zd rfl) (Za rfl rfl (Zd rfl) (Zm rfl rfl ?_)))
 refine Step.call (Zl (xs := [.tmp 8, .const (Go.Value.int Go.IntKind.i64 3)]) fk42 rfl) (Xr M _ om) fun ax ay ac => ?_
 obtain ⟨ad, rfl, P, ae, H⟩ := ac
 have af := H.size
 have E := E.trans H
 refine Za rfl rfl (Yo om rfl rfl) (Zm rfl rfl ?_)
 refine Step.call (Zl (xs := [.tmp 7, .tmp 10]) fk126 rfl) (Zkj ae _ om) fun ag az I => ?_
 obtain ⟨i, A, rfl, g, c, p, J, K⟩ := I
 have ah := K.size
 have E := E.trans K
 obtain ⟨a, b, rfl, u, j⟩ := g.opn
 refine Zm rfl rfl ?_
 have ai := ((r.ch C6 (nS om)).ch H (nS om)).ch K (nS om)
 refine Zn (off := 0) 1 ai sz44 rfl (us := [(.slice a (i).length b)]) rfl rfl rfl rfl fun Q o B => ?_
 have aj := B.size
 have E := E.step B (lS om)
 replace o : Blk Q D 44 [(.slice a (i).length b)] := o
 refine Ze (Zb (ab _ _ ?_))
 refine Zq ?_
 have ak := g.ch B (dS c j om)
 have x : Ol Token.cs 84 4 Q (.slice a (i).length b) (i) := by
  have hx := ak
  first | exact hx | simpa using hx
 have al := J.ch B (oS om)
 exact Zi [_] (Zt o rfl agg44 sz44 trivial) ⟨i, (.slice a (i).length b), rfl, x, (Lo.down c om), (by have aA := Zhg p om; omega), al, E⟩

/-- spec.l8Any -/
theorem Zlq {w : World} {b_c : Nat} (aS : Cu w b_c) :
 Ctr Try.prog 63 #[(.pointer (some ⟨b_c, 0, none⟩))] w (fun v w' => ∃ (bw : List Token) (Q : Value), v = .agg #[Q] ∧ Ol Token.cs 84 4 w' Q (bw) ∧ Lo w.heap.size Q ∧ (0 ≤ bw.length ∧ bw.length ≤ 26) ∧ Cu w' b_c ∧ Ch [b_c] w w') := by
 have ci := aS.lt
 have E := Ch.refl [b_c] w
 refine Ye (N := 55) (vs0 := [(.pointer (some ⟨b_c, 0, none⟩))]) Try.func63 rfl rfl rfl ?_
 refine Zg fun K1 H1 => ?_
 refine Zc (Zm rfl rfl ?_)
 refine Yh zr44 fun am W2 aA C2 eh => ?_
 have ei := C2.size
 have E := E.trans C2.of_nil
 have ej := aA.lt
 replace aA : Blk W2 am 44 [(.slice none 0 0)] := aA
 refine Ze (Zb (H1 _ _ ?_))
 refine Zg fun K3 H3 => ?_
 refine Zc (Za rfl rfl (Zd rfl) (Zm rfl rfl ?_))
 have F4 := aS.ch0 C2
 refine Step.call (Zl (xs := [.tmp 4]) fk100 rfl) (Zkl F4 ) fun ek W5 cM => ?_
 obtain ⟨h, bx, rfl, l, a, cj, cN, C5⟩ := cM
 have el := C5.size
 have E := E.trans C5
 obtain ⟨c, e, rfl, bn, b⟩ := l.opn
 refine Zm rfl rfl ?_
 refine Yh zr44 fun an W6 bp C6 em => ?_
 have en := C6.size
 have E := E.trans C6.of_nil
 have eo := bp.lt
 replace bp : Blk W6 an 44 [(.slice none 0 0)] := bp
 refine Zm rfl rfl ?_
 refine Zn (off := 0) 1 bp sz44 rfl (us := [(.slice c (h).length e)]) rfl rfl rfl rfl fun W7 O C7 => ?_
 have ep := C7.size
 have E := E.step C7 (lS om)
 replace O : Blk W7 an 44 [(.slice c (h).length e)] := O
 refine Ze (Zb (H3 _ _ ?_))
 refine Zg fun K9 H9 => ?_
 refine Zg fun er cO => ?_
 refine Zc (Za rfl rfl (Zd rfl) (Zm rfl rfl ?_))
 have cP := (cN.ch0 C6).ch C7 (oS om)
 refine Step.call (Zl (xs := [.tmp 6, .const (Go.Value.int Go.IntKind.i64 14)]) fk42 rfl) (Xr cP _ om) fun es ck cQ => ?_
 obtain ⟨cR, rfl, cl, bq, H⟩ := cQ
 have cS := H.size
 have E := E.trans H
 refine Ze (Zb (cO _ _ ?_))
 refine Zx ?_
 refine Zg fun et cT => ?_
 refine Zc (Za rfl rfl (Yy rfl rfl) (Za rfl rfl (Zf rfl) (Ze (Zb (cT _ _ ?_)))))
 refine Zp rfl (fun aB => ?_) (fun aB => ?_)
 ·have bz := aB
  have aB := Yi aB
  refine Zc (Za rfl rfl (Zh fa44_0 rfl) ?_)
  have cm := O.ch H (nS om)
  refine Za rfl rfl (Zk cm.at_ agg42 rfl rfl) (Zm rfl rfl ?_)
  have cU := ((l.ch0 C6).ch C7 (dS a b om)).ch H (dS a b om)
  refine (Zmx (ys := (h.drop 1)) 1 h.length cU Token.len el42 sz84 rfl ⟨_, _, rfl, by omega⟩ rfl om om (Zow _ _) fun cV aT R cn => ?_)
  obtain ⟨S, T, rfl, cW, cX⟩ := aT.opn
  refine Za rfl rfl (Zh fa44_0 rfl) (Zm rfl rfl ?_)
  refine Xm (off := 0) cm sz42 rfl rfl rfl rfl fun cY U aU => ?_
  have cZ := aU.size
  have E := E.step aU (lS om)
  replace U : Blk cY an 44 [(.slice S ((h.drop 1)).length T)] := U
  refine Ze (Zw (Zb (H9 _ _ ?_)))
  refine Zg fun eu c0 => ?_
  refine Zc (Za rfl rfl (Zy U.at_ agg44 sz44 rfl) (Zm rfl rfl ?_))
  have c1 := ((((aA.ch C5 (nS om)).ch0 C6).ch C7 (nS om)).ch H (nS om)).ch aU (nS om)
  refine Zn (off := 0) 1 c1 sz44 rfl (us := [(.slice S ((h.drop 1)).length T)]) rfl rfl rfl rfl fun co V br => ?_
  have c2 := br.size
  have E := E.step br (lS om)
  replace V : Blk co am 44 [(.slice S ((h.drop 1)).length T)] := V
  refine Ze (Zb (c0 _ _ ?_))
  refine Zq ?_
  have c3 := (aT.ch aU (fun g hg hm => by have q := List.mem_singleton.1 hm; rw [R] at hg; have I := a _ hg; have bA := b _ hg; omega)).ch br (fun g hg hm => by have q := List.mem_singleton.1 hm; rw [R] at hg; have I := a _ hg; have bA := b _ hg; omega)
  have aV : Ol Token.cs 84 4 co (.slice S ((h.drop 1)).length T) ((h.drop 1)) := by
   have hx := c3
   first | exact hx | simpa using hx
  have c4 := (bq.ch aU (oS om)).ch br (oS om)
  exact Zi [_] (Zt V rfl agg44 sz44 trivial) ⟨(h.drop 1), (.slice S ((h.drop 1)).length T), rfl, aV, (Lo.down (fun g hg => a g (R ▸ hg)) om), (by first | omega | (simp only [List.length_drop, List.length_set, List.length_append, List.length_singleton]; omega)), c4, E⟩
 have bz := aB
 have aB := Yj aB
 refine Zg fun ew c5 => ?_
 refine Zc (Za rfl rfl (Yy rfl rfl) (Za rfl rfl (Zf rfl) (Ze (Zb (c5 _ _ ?_)))))
 refine Zp rfl (fun u => ?_) (fun u => ?_)
 ·have bB := u
  have u := Yi u
  refine Xb ([b_c] ++ (bl (.slice c (h).length e))) 13 mixed rfl fun aW aK => ?_
  have c6 := aK.size
  have E := E.trans aK.of_nil
  refine dV 0 rfl rfl rfl (fun _ => Zh fa44_0 rfl) ?_
  have cp := (O.ch H (nS om)).ch0 aK
  refine dT 1 rfl rfl rfl (Xh cp.at_ (fun i hm => by rcases List.mem_append.1 hm with hm | hm; (have x := List.mem_singleton.1 hm; omega); (have x := a _ hm; have I := b _ hm; omega)) agg42 rfl rfl ?_)
  refine dV 2 rfl rfl rfl (fun _ => Zd rfl) (dV 4 rfl rfl rfl (fun _ => Zd rfl) (dV 6 rfl rfl rfl (fun _ => Zd rfl) (dV 8 rfl rfl rfl (fun _ => Zd rfl) (dO 3 (Zz rfl rfl rfl ?_)))))
  have c7 := bq.ch0 aK
  refine Step.call (Zl (xs := [.tmp 18, .const (Go.Value.int Go.IntKind.i64 9)]) fk42 rfl) (Xr c7 _ om) fun c8 c9 bC => ?_
  obtain ⟨J, rfl, bD, bE, aL⟩ := bC
  have da := aL.size
  have E := E.trans aL
  have au : Ch ([b_c] ++ (bl (.slice c (h).length e))) aW c9 := ((Ch.refl _ _).step aL (fun i hm => by have q := List.mem_singleton.1 hm; exact .inr (by rw [q]; exact (List.mem_append_left _ (List.mem_singleton.2 rfl)))))
  refine ⟨au, ?_⟩
  refine dO 5 (Zz rfl rfl rfl ?_)
  refine Step.call (Zl (xs := [.tmp 20, .const (Go.Value.int Go.IntKind.i64 10)]) fk42 rfl) (Xr bE _ om) fun db dc bF => ?_
  obtain ⟨K, rfl, bG, bH, aM⟩ := bF
  have dd := aM.size
  have E := E.trans aM
  have av : Ch ([b_c] ++ (bl (.slice c (h).length e))) aW dc := (au.step aM (fun i hm => by have q := List.mem_singleton.1 hm; exact .inr (by rw [q]; exact (List.mem_append_left _ (List.mem_singleton.2 rfl)))))
  refine ⟨av, ?_⟩
  refine dO 7 (Zz rfl rfl rfl ?_)
  refine Step.call (Zl (xs := [.tmp 22, .const (Go.Value.int Go.IntKind.i64 3)]) fk42 rfl) (Xr bH _ om) fun de df bI => ?_
  obtain ⟨L, rfl, bJ, bK, aN⟩ := bI
  have dg := aN.size
  have E := E.trans aN
  have aw : Ch ([b_c] ++ (bl (.slice c (h).length e))) aW df := (av.step aN (fun i hm => by have q := List.mem_singleton.1 hm; exact .inr (by rw [q]; exact (List.mem_append_left _ (List.mem_singleton.2 rfl)))))
  refine ⟨aw, ?_⟩
  refine dO 9 (Zz rfl rfl rfl ?_)
  refine Step.call (Zl (xs := [.tmp 24, .const (Go.Value.int Go.IntKind.i64 5)]) fk42 rfl) (Xr bK _ om) fun dh di bL => ?_
  obtain ⟨M, rfl, bM, bN, aO⟩ := bL
  have dj := aO.size
  have E := E.trans aO
  have X : Ch ([b_c] ++ (bl (.slice c (h).length e))) aW di := (aw.step aO (fun i hm => by have q := List.mem_singleton.1 hm; exact .inr (by rw [q]; exact (List.mem_append_left _ (List.mem_singleton.2 rfl)))))
  refine ⟨X, ?_⟩
  refine dV 10 rfl rfl rfl (fun _ => Yn (parts := [(0, .tmp 19), (1, .tmp 21), (2, .tmp 23), (3, .tmp 25)]) (cells := [(.int .i64 J), (.int .i64 K), (.int .i64 L), (.int .i64 M)]) zr84 pl84 rfl rfl) (dO 11 (Zz rfl rfl rfl ?_))
  have cq := (((((((l.ch0 C6).ch C7 (dS a b om)).ch H (dS a b om)).ch0 aK).ch aL (dS a b om)).ch aM (dS a b om)).ch aN (dS a b om)).ch aO (dS a b om)
  refine Qj (j := 0) cq el42 sz84 rfl rfl rfl om fun dk dl cr bO => ?_
  refine ⟨X, ?_⟩
  refine dO 12 (Zz rfl rfl rfl ?_)
  refine Qk (j := 0) (⟨J, K, L, M⟩) cq bO Token.len sz84 rfl rfl rfl rfl om fun dm aX aP => ?_
  have dn := aP.size
  have E := E.step aP (fun i hi => .inl (by have x := a _ hi; omega))
  have aY : Ch ([b_c] ++ (bl (.slice c (h).length e))) aW dm := (X.step aP (fun i hm => by exact .inr (List.mem_append_right _ hm)))
  refine ⟨aY, ?_⟩
  refine Yc (by kernel_rfl) ?_
  refine Zw (Zb (H9 _ _ ?_))
  refine Zg fun ex dp => ?_
  refine Zc ?_
  have dq := ((((cp.ch aL (nS om)).ch aM (nS om)).ch aN (nS om)).ch aO (nS om)).ch aP (fun hm => by have x := a _ hm; have I := b _ hm; omega)
  refine Za rfl rfl (Zy dq.at_ agg44 sz44 rfl) (Zm rfl rfl ?_)
  have dr := (((((((((aA.ch C5 (nS om)).ch0 C6).ch C7 (nS om)).ch H (nS om)).ch0 aK).ch aL (nS om)).ch aM (nS om)).ch aN (nS om)).ch aO (nS om)).ch aP (fun hm => by have x := a _ hm; have I := b _ hm; omega)
  refine Zn (off := 0) 1 dr sz44 rfl (us := [(.slice c (h).length e)]) rfl rfl rfl rfl fun ct Y bs => ?_
  have ds := bs.size
  have E := E.step bs (lS om)
  replace Y : Blk ct am 44 [(.slice c (h).length e)] := Y
  refine Ze (Zb (dp _ _ ?_))
  refine Zq ?_
  have dt := aX.ch bs (dS a b om)
  have aZ : Ol Token.cs 84 4 ct (.slice c (h).length e) ((h.set 0 (⟨J, K, L, M⟩))) := by
   have hx := dt
   first | exact hx | simpa using hx
  have du := (bN.ch aP (fun i hm => by have x := a _ hm; have I := b _ hm; omega)).ch bs (oS om)
  exact Zi [_] (Zt Y rfl agg44 sz44 trivial) ⟨(h.set 0 (⟨J, K, L, M⟩)), (.slice c (h).length e), rfl, aZ, (Lo.down a om), (by first | omega | (simp only [List.length_drop, List.length_set, List.length_append, List.length_singleton]; omega)), du, E⟩
 have bB := u
 have u := Yj u
 refine Zg fun ey dv => ?_
 refine Zc (Za rfl rfl (Yy rfl rfl) (Za rfl rfl (Zf rfl) (Ze (Zb (dv _ _ ?_)))))
 refine Zp rfl (fun y => ?_) (fun y => ?_)
 ·have bP := y
  have y := Yi y
  refine Zg fun ez cu => ?_
  refine Zx ?_
  have dw := ((l.ch0 C6).ch C7 (dS a b om)).ch H (dS a b om)
  have aC : Ol Token.cs 84 4 ck (.slice c (h).length e) (h) := by
   have hx := dw
   exact hx
  have dx := O.ch H (nS om)
  have dy := (((aA.ch C5 (nS om)).ch0 C6).ch C7 (nS om)).ch H (nS om)
  refine Xi (σ := List Token × Value) (fun ⟨us, uv⟩ => [(0, (.pointer (some ⟨b_c, 0, none⟩))), (2, (.pointer (some ⟨am, 0, none⟩))), (3, (.pointer (some ⟨an, 0, none⟩)))]) (fun ⟨us, uv⟩ wx => Ch [b_c] w wx ∧ ck.heap.size ≤ wx.heap.size ∧ (us.length ≤ 24) ∧ Cu wx b_c ∧ Blk wx am 44 [(.slice none 0 0)] ∧ Ol Token.cs 84 4 wx uv us ∧ Lo W2.heap.size uv ∧ Blk wx an 44 [uv] ∧ (an ∉ bl uv)) (fun ⟨us, uv⟩ => 24 - us.length) (h, (.slice c (h).length e)) (sC2 rfl rfl (sC1 rfl (Sub.nil _))) ⟨E, (Nat.le_refl _), om, bq, dy, aC, a, dx, (fun hm => by have x := a _ hm; have I := b _ hm; omega)⟩ ?_
  rintro ⟨us, uv⟩ eA ⟨E, dz, hu, Z, r, s, f, p, o⟩
  have bQ := E
  have cv := bQ.size
  have bR := r.lt
  obtain ⟨Auv, Cuv, rfl, luv, k⟩ := s.opn
  refine Zg fun eB dA => ?_
  refine Zg fun eC cw => ?_
  refine Zc (Za rfl rfl (Zh fa44_0 rfl) (Za rfl rfl (Zk p.at_ agg42 rfl rfl) (Za rfl rfl (Xc (by rw [el42]; rfl) rfl) (Za rfl rfl (Zcp rfl rfl) (Za rfl rfl (Zd rfl) ?_)))))
  refine Yp (d := 34) rfl (fun z => ?_) (fun z => ?_)
  ·have bS := z
   have z := Yi z
   refine Za rfl rfl (Zh fa44_0 rfl) (Za rfl rfl (Zk p.at_ agg42 rfl rfl) (Za rfl rfl (Xc (by rw [el42]; rfl) rfl) (Za rfl rfl (Xs rfl rfl) (Za rfl rfl (Ya rfl rfl) (Ze (Zb (cw _ _ ?_)))))))
   refine Zp rfl (fun A => ?_) (fun A => ?_)
   ·have bT := A
    have A := Yi A
    refine Zu ?_
    refine Zb (dA _ _ ?_)
    refine Zx ?_
    refine Zc (Za rfl rfl (Zh fa44_0 rfl) (Za rfl rfl (Zk p.at_ agg42 rfl rfl) (Za rfl rfl (Yn (parts := [(0, .const (Go.Value.int Go.IntKind.i64 6))]) (cells := [(.int .i64 6), (.int .i64 0), (.int .i64 0), (.int .i64 0)]) zr84 pl84 rfl rfl) (Zm rfl rfl ?_))))
    refine Ym (cs := Token.cs) (parts := [(0, .tmp 42)]) (⟨0, 0, 0, 0⟩ : Token) [(⟨6, 0, 0, 0⟩ : Token)] el42 sz84 zr84 Token.len (by decide) rfl rfl rfl (by decide) (by decide) rfl fun dB eD a0 cx aQ => ?_
    have dC := aQ.size
    have E := E.trans aQ.of_nil
    obtain ⟨cy, cz, rfl, cA, bU⟩ := a0.opn
    refine Zm rfl rfl ?_
    have dD := s.ch0 aQ
    refine Xn (cs := Token.cs) el42 sz84 by84 zr84 rfl (by decide) Token.one dD a0.ls rfl rfl bd bd f om fun dE eE a1 a2 ax a3 => ?_
    have dF := a3.size
    have E := E.step a3 (fun i hi => .inl (by have x := f _ hi; omega))
    obtain ⟨aa, ab, rfl, cB, bV⟩ := a1.opn
    refine Za rfl rfl (Zh fa44_0 rfl) (Zm rfl rfl ?_)
    have dG := (p.ch0 aQ).ch a3 (fun hm => by exact o (by first | exact hm | exact q ▸ hm))
    refine Xm (off := 0) dG sz42 rfl rfl rfl rfl fun cC ac a4 => ?_
    have dH := a4.size
    have E := E.step a4 (lS om)
    replace ac : Blk cC an 44 [(.slice aa ((us ++ [(⟨6, 0, 0, 0⟩ : Token)])).length ab)] := ac
    refine Ze (Zw ?_)
    have dI := a1.ch a4 (fun g hg hm => by have q := List.mem_singleton.1 hm; rcases ax with ea | ea; (rw [ea] at hg; exact o (by first | exact hg | exact q ▸ hg)); (rw [ea] at hg; have a5 := List.mem_singleton.1 hg; omega))
    have aD : Ol Token.cs 84 4 cC (.slice aa ((us ++ [(⟨6, 0, 0, 0⟩ : Token)])).length ab) ((us ++ [(⟨6, 0, 0, 0⟩ : Token)])) := by
     have hx := dI
     exact hx
    have dJ := ((Z.ch0 aQ).ch a3 (fun i hm => by have x := f _ hm; have I := k _ hm; omega)).ch a4 (oS om)
    have dL := ((r.ch0 aQ).ch a3 (fun hm => by have x := f _ hm; have I := k _ hm; omega)).ch a4 (nS om)
    exact Zb (Exists.intro ((us ++ [(⟨6, 0, 0, 0⟩ : Token)]), (.slice aa ((us ++ [(⟨6, 0, 0, 0⟩ : Token)])).length ab)) ⟨⟨E, om, (by simp only [List.length_append, List.length_singleton]; omega), dJ, dL, aD, (Lo.down a2 om), ac, (fun hm => by rcases ax with ea | ea; (rw [ea] at hm; exact o (by first | exact hm | exact q ▸ hm)); (rw [ea] at hm; have a5 := List.mem_singleton.1 hm; omega))⟩, sC2 rfl rfl (sC1 rfl (Sub.nil _)), (by simp only [List.length_append, List.length_singleton]; omega)⟩)
   have bT := A
   have A := Yj A
   refine Xe (Zr (Zr (Yu ?_)))
   refine Zb (cu _ _ ?_)
   refine Zg fun eF dM => ?_
   refine Zc (Za rfl rfl (Zd rfl) (Zm rfl rfl ?_))
   refine Step.call (Zl (xs := [.tmp 46, .const (Go.Value.int Go.IntKind.i64 2)]) fk96 rfl) (Zam Z _ om) fun bW eG aE => ?_
   obtain ⟨a6, rfl, ad, ay⟩ := aE
   have dN := ay.size
   have E := E.trans ay
   refine Ze (Zb (dM _ _ ?_))
   refine Zp rfl (fun B => ?_) (fun B => ?_)
   ·have bX := B
    refine Zc (Za rfl rfl (Zh fa44_0 rfl) ?_)
    have cD := p.ch ay (nS om)
    refine Za rfl rfl (Zk cD.at_ agg42 rfl rfl) (Za rfl rfl (Yn (parts := [(0, .const (Go.Value.int Go.IntKind.i64 6))]) (cells := [(.int .i64 6), (.int .i64 0), (.int .i64 0), (.int .i64 0)]) zr84 pl84 rfl rfl) (Zm rfl rfl ?_))
    refine Ym (cs := Token.cs) (parts := [(0, .tmp 50)]) (⟨0, 0, 0, 0⟩ : Token) [(⟨6, 0, 0, 0⟩ : Token)] el42 sz84 zr84 Token.len (by decide) rfl rfl rfl (by decide) (by decide) rfl fun bY eH ae a7 aR => ?_
    have dP := aR.size
    have E := E.trans aR.of_nil
    obtain ⟨a8, a9, rfl, ba, aF⟩ := ae.opn
    refine Zm rfl rfl ?_
    have dQ := (s.ch ay (dS f k om)).ch0 aR
    refine Xn (cs := Token.cs) el42 sz84 by84 zr84 rfl (by decide) Token.one dQ ae.ls rfl rfl bd bd f om fun bZ eI af ag t bb => ?_
    have dR := bb.size
    have E := E.step bb (fun i hi => .inl (by have x := f _ hi; omega))
    obtain ⟨m, n, rfl, bc, aG⟩ := af.opn
    refine Za rfl rfl (Zh fa44_0 rfl) (Zm rfl rfl ?_)
    have dU := (cD.ch0 aR).ch bb (fun hm => by exact o (by first | exact hm | exact q ▸ hm))
    refine Xm (off := 0) dU sz42 rfl rfl rfl rfl fun dW ah be => ?_
    have dX := be.size
    have E := E.step be (lS om)
    replace ah : Blk dW an 44 [(.slice m ((us ++ [(⟨6, 0, 0, 0⟩ : Token)])).length n)] := ah
    refine Ze (Zw (Zb (H9 _ _ ?_)))
    refine Zg fun eJ dY => ?_
    refine Zc (Za rfl rfl (Zy ah.at_ agg44 sz44 rfl) (Zm rfl rfl ?_))
    have dZ := (((r.ch ay (nS om)).ch0 aR).ch bb (fun hm => by have x := f _ hm; have I := k _ hm; omega)).ch be (nS om)
    refine Zn (off := 0) 1 dZ sz44 rfl (us := [(.slice m ((us ++ [(⟨6, 0, 0, 0⟩ : Token)])).length n)]) rfl rfl rfl rfl fun cE ai bu => ?_
    have d0 := bu.size
    have E := E.step bu (lS om)
    replace ai : Blk cE am 44 [(.slice m ((us ++ [(⟨6, 0, 0, 0⟩ : Token)])).length n)] := ai
    refine Ze (Zb (dY _ _ ?_))
    refine Zq ?_
    have d1 := (af.ch be (fun g hg hm => by have q := List.mem_singleton.1 hm; rcases t with ea | ea; (rw [ea] at hg; exact o (by first | exact hg | exact q ▸ hg)); (rw [ea] at hg; have a5 := List.mem_singleton.1 hg; omega))).ch bu (fun g hg hm => by have q := List.mem_singleton.1 hm; rcases t with ea | ea; (rw [ea] at hg; have I := f _ hg; have bA := k _ hg; omega); (rw [ea] at hg; have a5 := List.mem_singleton.1 hg; omega))
    have bf : Ol Token.cs 84 4 cE (.slice m ((us ++ [(⟨6, 0, 0, 0⟩ : Token)])).length n) ((us ++ [(⟨6, 0, 0, 0⟩ : Token)])) := by
     have hx := d1
     first | exact hx | simpa using hx
    have d2 := (((ad.ch0 aR).ch bb (fun i hm => by have x := f _ hm; have I := k _ hm; omega)).ch be (oS om)).ch bu (oS om)
    exact Zi [_] (Zt ai rfl agg44 sz44 trivial) ⟨(us ++ [(⟨6, 0, 0, 0⟩ : Token)]), (.slice m ((us ++ [(⟨6, 0, 0, 0⟩ : Token)])).length n), rfl, bf, (Lo.down ag om), (by first | omega | (simp only [List.length_drop, List.length_set, List.length_append, List.length_singleton]; omega)), d2, E⟩
   have bX := B
   refine Zu ?_
   refine Zw (Zb (H9 _ _ ?_))
   refine Zg fun eK d3 => ?_
   refine Zc ?_
   have d4 := p.ch ay (nS om)
   refine Za rfl rfl (Zy d4.at_ agg44 sz44 rfl) (Zm rfl rfl ?_)
   have d5 := r.ch ay (nS om)
   refine Zn (off := 0) 1 d5 sz44 rfl (us := [(.slice Auv (us).length Cuv)]) rfl rfl rfl rfl fun cF aj bv => ?_
   have d6 := bv.size
   have E := E.step bv (lS om)
   replace aj : Blk cF am 44 [(.slice Auv (us).length Cuv)] := aj
   refine Ze (Zb (d3 _ _ ?_))
   refine Zq ?_
   have d7 := (s.ch ay (dS f k om)).ch bv (dS f k om)
   have bg : Ol Token.cs 84 4 cF (.slice Auv (us).length Cuv) (us) := by
    have hx := d7
    first | exact hx | simpa using hx
   have d8 := ad.ch bv (oS om)
   exact Zi [_] (Zt aj rfl agg44 sz44 trivial) ⟨us, (.slice Auv (us).length Cuv), rfl, bg, (Lo.down f om), (by first | omega | (simp only [List.length_drop, List.length_set, List.length_append, List.length_singleton]; omega)), d8, E⟩
  have bS := z
  have z := Yj z
  refine Zj rfl rfl (Zj rfl rfl (Zj rfl rfl (Zj rfl rfl (Za rfl rfl (Yb rfl rfl) (Ze (Zb (cw _ _ ?_)))))))
  refine Zap rfl ?_
  refine Xe (Zr (Zr (Yu ?_)))
  refine Zb (cu _ _ ?_)
  refine Zg fun eL d9 => ?_
  refine Zc (Za rfl rfl (Zd rfl) (Zm rfl rfl ?_))
  refine Step.call (Zl (xs := [.tmp 46, .const (Go.Value.int Go.IntKind.i64 2)]) fk96 rfl) (Zam Z _ om) fun bW eM aE => ?_
  obtain ⟨a6, rfl, ad, az⟩ := aE
  have eb := az.size
  have E := E.trans az
  refine Ze (Zb (d9 _ _ ?_))
  refine Zp rfl (fun B => ?_) (fun B => ?_)
  ·have bh := B
   refine Zc (Za rfl rfl (Zh fa44_0 rfl) ?_)
   have bi := p.ch az (nS om)
   refine Za rfl rfl (Zk bi.at_ agg42 rfl rfl) (Za rfl rfl (Yn (parts := [(0, .const (Go.Value.int Go.IntKind.i64 6))]) (cells := [(.int .i64 6), (.int .i64 0), (.int .i64 0), (.int .i64 0)]) zr84 pl84 rfl rfl) (Zm rfl rfl ?_))
   refine Ym (cs := Token.cs) (parts := [(0, .tmp 50)]) (⟨0, 0, 0, 0⟩ : Token) [(⟨6, 0, 0, 0⟩ : Token)] el42 sz84 zr84 Token.len (by decide) rfl rfl rfl (by decide) (by decide) rfl fun bY ec ae a7 P => ?_
   have cG := P.size
   have E := E.trans P.of_nil
   obtain ⟨a8, a9, rfl, ba, aF⟩ := ae.opn
   refine Zm rfl rfl ?_
   have b0 := (s.ch az (dS f k om)).ch0 P
   refine Xn (cs := Token.cs) el42 sz84 by84 zr84 rfl (by decide) Token.one b0 ae.ls rfl rfl bd bd f om fun bZ ed af ag t ak => ?_
   have cH := ak.size
   have E := E.step ak (fun i hi => .inl (by have x := f _ hi; omega))
   obtain ⟨m, n, rfl, bc, aG⟩ := af.opn
   refine Za rfl rfl (Zh fa44_0 rfl) (Zm rfl rfl ?_)
   have b1 := (bi.ch0 P).ch ak (fun hm => by exact o (by first | exact hm | exact q ▸ hm))
   refine Xm (off := 0) b1 sz42 rfl rfl rfl rfl fun b2 C al => ?_
   have cI := al.size
   have E := E.step al (lS om)
   replace C : Blk b2 an 44 [(.slice m ((us ++ [(⟨6, 0, 0, 0⟩ : Token)])).length n)] := C
   refine Ze (Zw (Zb (H9 _ _ ?_)))
   refine Zg fun ee b3 => ?_
   refine Zc (Za rfl rfl (Zy C.at_ agg44 sz44 rfl) (Zm rfl rfl ?_))
   have b4 := (((r.ch az (nS om)).ch0 P).ch ak (fun hm => by have x := f _ hm; have I := k _ hm; omega)).ch al (nS om)
   refine Zn (off := 0) 1 b4 sz44 rfl (us := [(.slice m ((us ++ [(⟨6, 0, 0, 0⟩ : Token)])).length n)]) rfl rfl rfl rfl fun bj D ao => ?_
   have cJ := ao.size
   have E := E.step ao (lS om)
   replace D : Blk bj am 44 [(.slice m ((us ++ [(⟨6, 0, 0, 0⟩ : Token)])).length n)] := D
   refine Ze (Zb (b3 _ _ ?_))
   refine Zq ?_
   have b5 := (af.ch al (fun g hg hm => by have q := List.mem_singleton.1 hm; rcases t with ea | ea; (rw [ea] at hg; exact o (by first | exact hg | exact q ▸ hg)); (rw [ea] at hg; have a5 := List.mem_singleton.1 hg; omega))).ch ao (fun g hg hm => by have q := List.mem_singleton.1 hm; rcases t with ea | ea; (rw [ea] at hg; have I := f _ hg; have bA := k _ hg; omega); (rw [ea] at hg; have a5 := List.mem_singleton.1 hg; omega))
   have aH : Ol Token.cs 84 4 bj (.slice m ((us ++ [(⟨6, 0, 0, 0⟩ : Token)])).length n) ((us ++ [(⟨6, 0, 0, 0⟩ : Token)])) := by
    have hx := b5
    first | exact hx | simpa using hx
   have b6 := (((ad.ch0 P).ch ak (fun i hm => by have x := f _ hm; have I := k _ hm; omega)).ch al (oS om)).ch ao (oS om)
   exact Zi [_] (Zt D rfl agg44 sz44 trivial) ⟨(us ++ [(⟨6, 0, 0, 0⟩ : Token)]), (.slice m ((us ++ [(⟨6, 0, 0, 0⟩ : Token)])).length n), rfl, aH, (Lo.down ag om), (by first | omega | (simp only [List.length_drop, List.length_set, List.length_append, List.length_singleton]; omega)), b6, E⟩
  have bh := B
  refine Zu ?_
  refine Zw (Zb (H9 _ _ ?_))
  refine Zg fun ef b7 => ?_
  refine Zc ?_
  have b8 := p.ch az (nS om)
  refine Za rfl rfl (Zy b8.at_ agg44 sz44 rfl) (Zm rfl rfl ?_)
  have b9 := r.ch az (nS om)
  refine Zn (off := 0) 1 b9 sz44 rfl (us := [(.slice Auv (us).length Cuv)]) rfl rfl rfl rfl fun bk F ap => ?_
  have cK := ap.size
  have E := E.step ap (lS om)
  replace F : Blk bk am 44 [(.slice Auv (us).length Cuv)] := F
  refine Ze (Zb (b7 _ _ ?_))
  refine Zq ?_
  have ca := (s.ch az (dS f k om)).ch ap (dS f k om)
  have aI : Ol Token.cs 84 4 bk (.slice Auv (us).length Cuv) (us) := by
   have hx := ca
   first | exact hx | simpa using hx
  have cb := ad.ch ap (oS om)
  exact Zi [_] (Zt F rfl agg44 sz44 trivial) ⟨us, (.slice Auv (us).length Cuv), rfl, aI, (Lo.down f om), (by first | omega | (simp only [List.length_drop, List.length_set, List.length_append, List.length_singleton]; omega)), cb, E⟩
 have bP := y
 have y := Yj y
 refine Zu ?_
 refine Zw (Zb (H9 _ _ ?_))
 refine Zg fun eg cc => ?_
 refine Zc ?_
 have cd := O.ch H (nS om)
 refine Za rfl rfl (Zy cd.at_ agg44 sz44 rfl) (Zm rfl rfl ?_)
 have ce := (((aA.ch C5 (nS om)).ch0 C6).ch C7 (nS om)).ch H (nS om)
 refine Zn (off := 0) 1 ce sz44 rfl (us := [(.slice c (h).length e)]) rfl rfl rfl rfl fun bm G aq => ?_
 have cL := aq.size
 have E := E.step aq (lS om)
 replace G : Blk bm am 44 [(.slice c (h).length e)] := G
 refine Ze (Zb (cc _ _ ?_))
 refine Zq ?_
 have cf := (((l.ch0 C6).ch C7 (dS a b om)).ch H (dS a b om)).ch aq (dS a b om)
 have aJ : Ol Token.cs 84 4 bm (.slice c (h).length e) (h) := by
  have hx := cf
  first | exact hx | simpa using hx
 have cg := bq.ch aq (oS om)
 exact Zi [_] (Zt G rfl agg44 sz44 trivial) ⟨h, (.slice c (h).length e), rfl, aJ, (Lo.down a om), (by first | omega | (simp only [List.length_drop, List.length_set, List.length_append, List.length_singleton]; omega)), cg, E⟩

/-- spec.l4Set -/
theorem Zgi {w : World} (m : Int) (s : 0 ≤ m) (ab : m < 1073741824) :
 Ctr Try.prog 127 #[(.int .i64 m)] w (fun v w' => Ol ics 3 1 w' v (Zbi m.toNat 30) ∧ Lo w.heap.size v ∧ Ch [] w w') := by
 have E := Ch.refl [] w
 refine Ye (N := 20) (vs0 := [(.int .i64 m)]) Try.func127 rfl rfl rfl ?_
 refine Zg fun K1 H1 => ?_
 refine Zc (Za rfl rfl (Zf rfl) (Ze (Zb (H1 _ _ ?_))))
 refine Zg fun K2 H2 => ?_
 refine Zc (Zm rfl rfl ?_)
 refine Zab (k := 1) ics el30 sz3 fun ac W3 C t C3 => ?_
 have ad := C3.size
 have E := E.trans C3
 obtain ⟨j, l, rfl, P, D⟩ := C.opn
 refine Za rfl rfl (Zf rfl) (Ze (Zb (H2 _ _ ?_)))
 refine Zg fun K4 H4 => ?_
 refine Zg fun K5 H5 => ?_
 refine Zc (Za rfl rfl (Zf rfl) (Ze (Zb (H5 _ _ ?_))))
 refine Zx ?_
 have n : Ol ics 3 1 W3 (.slice j (([] : List Int)).length l) (Zbi m.toNat 0) := by
  have hx := C
  simpa [Zbi] using hx
 refine Xi (σ := Nat × Value) (fun ⟨i, sv⟩ => [(0, (.int .i64 m)), (2, (.slice none 0 0)), (3, sv), (4, (.int .i64 ((i : Nat) : Int)))]) (fun ⟨i, sv⟩ wx => Ch [] w wx ∧ W3.heap.size ≤ wx.heap.size ∧ (i ≤ 30) ∧ Ol ics 3 1 wx sv (Zbi m.toNat i) ∧ Lo w.heap.size sv) (fun ⟨i, sv⟩ => 30 - i) (0, (.slice j (([] : List Int)).length l)) (sC4 rfl rfl rfl rfl (Sub.nil _)) ⟨E, (Nat.le_refl _), om, n, t⟩ ?_
 rintro ⟨i, sv⟩ R7 ⟨E, Q, hi, c, b⟩
 have u := E
 have F := u.size
 obtain ⟨Asv, Csv, rfl, lsv, hisv⟩ := c.opn
 refine Zg fun K8 H8 => ?_
 refine Zg fun K9 H9 => ?_
 refine Zc (Za rfl rfl (Zd rfl) (Za rfl rfl (Xs rfl rfl) (Ze (Zb (H9 _ _ ?_)))))
 refine Zp rfl (fun f => ?_) (fun f => ?_)
 ·have x := f
  have f := Yi f
  refine Zu ?_
  refine Zb (H8 _ _ ?_)
  refine Zg fun ae G => ?_
  refine Zx ?_
  refine Zg fun af R => ?_
  refine Zc (Za rfl rfl (Zd rfl) (Za rfl rfl (Zd rfl) (Za rfl rfl (Zgp om rfl rfl) (Za rfl rfl (Zeg rfl rfl) (Za rfl rfl (Yy rfl rfl) (Ze (Zb (R _ _ ?_))))))))
  refine Zp rfl (fun a => ?_) (fun a => ?_)
  ·have y := a
   have a := Yi a
   refine Zc (Za rfl rfl (Zd rfl) (Za rfl rfl (Zd rfl) (Zm rfl rfl ?_)))
   refine Ym (cs := ics) (parts := [(0, .tmp 16)]) (0 : Int) [((i : Nat) : Int)] el30 sz3 zr3 Xg (by decide) rfl rfl rfl (by decide) (by decide) rfl fun S ag o H z => ?_
   have T := z.size
   have E := E.trans z
   obtain ⟨I, J, rfl, K, A⟩ := o.opn
   refine Zm rfl rfl ?_
   have U := c.ch0 z
   refine Xn (cs := ics) el30 sz3 by3 zr3 rfl (by decide) Zco U o.ls rfl rfl (by have V := Zhy m.toNat i; simp only [List.length_singleton]; omega) (by have V := Zhy m.toNat i; simp only [List.length_singleton]; omega) b om fun X Y p q L M => ?_
   have Z := M.size
   have E := E.step M (fun i hi => .inl (by have ah := b _ hi; omega))
   obtain ⟨d, e, rfl, O, B⟩ := p.opn
   refine Za rfl rfl (Zf rfl) (Ze (Zw (Zb (G _ _ (Zc (Za rfl rfl (Zd rfl) (Za rfl rfl (Yo om rfl rfl) (Za rfl rfl (Zf rfl) ?_))))))))
   refine Ze ?_
   have g : Ol ics 3 1 Y (.slice d ((Zbi m.toNat i ++ [((i : Nat) : Int)])).length e) (Zbi m.toNat (i + 1)) := by
    have hx := p
    first | exact hx.eq (Zpp a s om om) | exact hx.eq (Zps a s om om)
   exact Zb (Exists.intro ((i + 1), (.slice d ((Zbi m.toNat i ++ [((i : Nat) : Int)])).length e)) ⟨⟨E, om, om, g, (Lo.down q om)⟩, sC4 rfl rfl rfl rfl (Sub.nil _), (by first | omega | (dsimp only; omega))⟩)
  have y := a
  have a := Yj a
  refine Zu ?_
  refine Zw (Zb (G _ _ (Zc (Za rfl rfl (Zd rfl) (Za rfl rfl (Yo om rfl rfl) (Za rfl rfl (Zf rfl) (Ze ?_)))))))
  have h : Ol ics 3 1 R7 (.slice Asv (Zbi m.toNat i).length Csv) (Zbi m.toNat (i + 1)) := by
   have hx := c
   first | exact hx.eq (Zpp a s om om) | exact hx.eq (Zps a s om om)
  exact Zb (Exists.intro ((i + 1), (.slice Asv (Zbi m.toNat i).length Csv)) ⟨⟨E, om, om, h, (Lo.down b om)⟩, sC4 rfl rfl rfl rfl (Sub.nil _), (by first | omega | (dsimp only; omega))⟩)
 have x := f
 have f := Yj f
 refine Xe (Zr (Zr (Yu ?_)))
 refine Zb (H4 _ _ ?_)
 refine Zg fun ai aa => ?_
 refine Zc (Za rfl rfl (Zd rfl) (Za rfl rfl (Zf rfl) (Ze (Zb (aa _ _ ?_)))))
 refine Zq ?_
 have r : Ol ics 3 1 R7 (.slice Asv (Zbi m.toNat i).length Csv) (Zbi m.toNat 30) := by
  have hx := c
  exact hx.eq (by rw [show i = 30 by omega])
 exact Zi [_] ⟨rfl, trivial⟩ ⟨r, Lo.down b om, E⟩

end Go.Proofs.Ytgnlfnkgkcmdjaa
