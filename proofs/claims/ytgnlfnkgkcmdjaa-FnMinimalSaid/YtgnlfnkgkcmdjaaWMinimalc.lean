/- Walks of functions that FnMinimal reaches: what each returns, and that it leaves the memory that was there alone. -/
import Derived.Test.YtgnlfnkgkcmdjaaLibA
import Derived.Test.YtgnlfnkgkcmdjaaLibB
import Derived.Test.YtgnlfnkgkcmdjaaWMinimal
import Derived.Test.YtgnlfnkgkcmdjaaWMinimalb
import Derived.Test.YtgnlfnkgkcmdjaaProg
namespace Go.Proofs.Ytgnlfnkgkcmdjaa
open Go.KLib Go.Shelf
set_option maxHeartbeats 1000000
set_option maxRecDepth 20000
set_option linter.unusedVariables false
set_option linter.unusedSimpArgs false
namespace TMinimalc
theorem agg22 : Ys Try.prog 22 = some false := by kernel_rfl
theorem agg24 : Ys Try.prog 24 = some false := by kernel_rfl
theorem agg25 : Ys Try.prog 25 = some false := by kernel_rfl
theorem agg27 : Ys Try.prog 27 = some true := by kernel_rfl
theorem agg3 : Ys Try.prog 3 = some false := by kernel_rfl
theorem agg30 : Ys Try.prog 30 = some false := by kernel_rfl
theorem agg4 : Ys Try.prog 4 = some false := by kernel_rfl
theorem agg42 : Ys Try.prog 42 = some false := by kernel_rfl
theorem agg44 : Ys Try.prog 44 = some true := by kernel_rfl
theorem agg48 : Ys Try.prog 48 = some true := by kernel_rfl
theorem agg5 : Ys Try.prog 5 = some false := by kernel_rfl
theorem agg84 : Ys Try.prog 84 = some true := by kernel_rfl
theorem agg91 : Ys Try.prog 91 = some true := by kernel_rfl
theorem by3 : Qe Try.prog 3 = some 8 := by kernel_rfl
theorem by30 : Qe Try.prog 30 = some 24 := by kernel_rfl
theorem by4 : Qe Try.prog 4 = some 1 := by kernel_rfl
theorem el22 : elB Try.prog 22 = some 5 := by kernel_rfl
theorem el24 : elB Try.prog 24 = some 4 := by kernel_rfl
theorem el25 : elB Try.prog 25 = some 30 := by kernel_rfl
theorem el30 : elB Try.prog 30 = some 3 := by kernel_rfl
theorem el42 : elB Try.prog 42 = some 84 := by kernel_rfl
theorem fa101_0 : faB Try.prog 101 0 = some 0 := by kernel_rfl
theorem fa101_1 : faB Try.prog 101 1 = some 1 := by kernel_rfl
theorem fa101_2 : faB Try.prog 101 2 = some 2 := by kernel_rfl
theorem fa27_1 : faB Try.prog 27 1 = some 1 := by kernel_rfl
theorem fa27_2 : faB Try.prog 27 2 = some 2 := by kernel_rfl
theorem fa44_0 : faB Try.prog 44 0 = some 0 := by kernel_rfl
theorem fa48_0 : faB Try.prog 48 0 = some 0 := by kernel_rfl
theorem fa48_1 : faB Try.prog 48 1 = some 1 := by kernel_rfl
theorem fa48_2 : faB Try.prog 48 2 = some 2 := by kernel_rfl
theorem fa48_3 : faB Try.prog 48 3 = some 3 := by kernel_rfl
theorem fa48_4 : faB Try.prog 48 4 = some 4 := by kernel_rfl
theorem fa84_0 : faB Try.prog 84 0 = some 0 := by kernel_rfl
theorem fa84_1 : faB Try.prog 84 1 = some 1 := by kernel_rfl
theorem fa91_0 : faB Try.prog 91 0 = some 0 := by kernel_rfl
theorem fa91_1 : faB Try.prog 91 1 = some 1 := by kernel_rfl
theorem fa91_2 : faB Try.prog 91 2 = some 2 := by kernel_rfl
theorem fk106 : fnB Try.prog 106 = true := by kernel_rfl
theorem fk107 : fnB Try.prog 107 = true := by kernel_rfl
theorem fk29 : fnB Try.prog 29 = true := by kernel_rfl
theorem fk42 : fnB Try.prog 42 = true := by kernel_rfl
theorem fk67 : fnB Try.prog 67 = true := by kernel_rfl
theorem fk86 : fnB Try.prog 86 = true := by kernel_rfl
theorem fk96 : fnB Try.prog 96 = true := by kernel_rfl
theorem mixed : Try.prog.follows .mixedOrders = true := by kernel_rfl
theorem pl27 : Qh Try.prog 27 = some [(0, 1), (1, 1), (2, 1)] := by kernel_rfl
theorem pl48 : Qh Try.prog 48 = some [(0, 1), (1, 1), (2, 1), (3, 1), (4, 1)] := by kernel_rfl
theorem pl91 : Qh Try.prog 91 = some [(0, 1), (1, 1), (2, 1)] := by kernel_rfl
theorem sz24 : Yb Try.prog 24 = some 1 := by kernel_rfl
theorem sz25 : Yb Try.prog 25 = some 1 := by kernel_rfl
theorem sz27 : Yb Try.prog 27 = some 3 := by kernel_rfl
theorem sz3 : Yb Try.prog 3 = some 1 := by kernel_rfl
theorem sz30 : Yb Try.prog 30 = some 1 := by kernel_rfl
theorem sz4 : Yb Try.prog 4 = some 1 := by kernel_rfl
theorem sz44 : Yb Try.prog 44 = some 1 := by kernel_rfl
theorem sz48 : Yb Try.prog 48 = some 5 := by kernel_rfl
theorem sz5 : Yb Try.prog 5 = some 1 := by kernel_rfl
theorem sz84 : Yb Try.prog 84 = some 4 := by kernel_rfl
theorem sz91 : Yb Try.prog 91 = some 3 := by kernel_rfl
theorem un3 : Try.prog.underlying 3 = some (.int .i64) := by kernel_rfl
theorem un5 : Try.prog.underlying 5 = some (.int .u8) := by kernel_rfl
theorem zr27 : Xb Try.prog 27 = some (.agg #[.int .i64 0, .slice none 0 0, .slice none 0 0]) := by kernel_rfl
theorem zr3 : Xb Try.prog 3 = some (.int .i64 0) := by kernel_rfl
theorem zr30 : Xb Try.prog 30 = some (.slice none 0 0) := by kernel_rfl
theorem zr4 : Xb Try.prog 4 = some (.bool false) := by kernel_rfl
theorem zr44 : Xb Try.prog 44 = some (.agg #[.slice none 0 0]) := by kernel_rfl
theorem zr48 : Xb Try.prog 48 = some (.agg #[.slice none 0 0, .int .i64 0, .int .i64 0, .slice none 0 0, .bool false]) := by kernel_rfl
theorem zr84 : Xb Try.prog 84 = some (.agg #[.int .i64 0, .int .i64 0, .int .i64 0, .int .i64 0]) := by kernel_rfl
theorem zr91 : Xb Try.prog 91 = some (.agg #[.bool false, .int .i64 0, .int .i64 0]) := by kernel_rfl
end TMinimalc
open TMinimalc

/-- spec.l10Build -/
theorem Zfo : ∀ (n : Nat) {w : World} {b_p t_p L_p : Nat} {aS : Value} {a : List Int} {bs : Int} {bu : Int} {aT : Value} {b : List Int} {bv : Bool} (m_p : Blk w b_p t_p [aS, (.int .i64 bs), (.int .i64 bu), aT, (.bool bv)]) (fK : L_p ≤ b_p) (aU : Ol ics 3 1 w aS a) (I : b_p ∉ bl aS) (k : Lo L_p aS) (aV : Ol ics 3 1 w aT b) (Z : b_p ∉ bl aT) (m : Lo L_p aT) (q : ∀ g ∈ bl aS, g ∉ bl aT) {LL_l eg : Nat} {eN : Value} {l : List Token} (eh : Ls Token.cs 4 w LL_l eg eN l) (t : Tr) (hok : Okd t) (hl : l = t.flat) (hbl : eg ≤ L_p) (hb : a.length + l.length ≤ 100000 ∧ b.length + l.length ≤ 100000) (hsz : l.length < n),
 Ctr Try.prog 67 #[(.pointer (some ⟨b_p, 0, none⟩)), eN] w (fun v w' => ∃ (fL fM : Value), v = .agg #[.bool ((bpT t a b).n), .int .i64 ((bpT t a b).f), .int .i64 ((bpT t a b).l)] ∧ Blk w' b_p t_p [fL, .int .i64 bs, .int .i64 bu, fM, .bool bv] ∧ Ol ics 3 1 w' fL ((bpT t a b).L) ∧ (∀ g ∈ bl fL, w.heap.size ≤ g ∨ g ∈ (b_p :: (bl aS ++ bl aT))) ∧ b_p ∉ bl fL ∧ Ol ics 3 1 w' fM ((bpT t a b).F) ∧ (∀ g ∈ bl fM, w.heap.size ≤ g ∨ g ∈ (b_p :: (bl aS ++ bl aT))) ∧ b_p ∉ bl fM ∧ (∀ g ∈ bl fL, g ∉ bl fM) ∧ Ch (b_p :: (bl aS ++ bl aT)) w w') := by
  intro n
  induction n with
  | zero => intros; omega
  | succ n ih =>
 intro w b_p t_p L_p aS a bs bu aT b bv m_p fK aU I k aV Z m q LL_l eg eN l eh t hok hl hbl hb hsz
 obtain ⟨aa, ab, rfl, jn, o⟩ := aU.opn
 obtain ⟨aB, aC, rfl, jo, p⟩ := aV.opn
 have jp := m_p.lt
 obtain ⟨eO, eP, fN⟩ := eh.val
 subst fN
 have kw := eh.len
 have E := Ch.refl (b_p :: (bl (.slice aa a.length ab) ++ bl (.slice aB b.length aC))) w
 have kx := t.flat_pos; rw [← hl] at kx; have k2 := hok.len
 refine Yc (N := 163) (vs0 := [(.pointer (some ⟨b_p, 0, none⟩)), (.slice eO l.length eP)]) Try.func67 rfl rfl rfl ?_
 refine Zg fun K1 H1 => ?_
 refine Zc (Zk rfl rfl ?_)
 refine Yp zr91 fun aW W2 cS C2 mI => ?_
 have mJ := C2.size
 have E := E.trans C2.of_nil
 have mK := cS.lt
 replace cS : Blk W2 aW 91 [(.bool false), (.int .i64 0), (.int .i64 0)] := cS
 refine Zf (Zb (H1 _ _ ?_))
 refine Zg fun K3 H3 => ?_
 refine Zc (Za rfl rfl (Ze rfl) (Za rfl rfl (Xa (by rw [el42]; rfl) rfl) (Za rfl rfl (Zay (by omega) rfl rfl) (Za rfl rfl (Zd rfl) (Zf (Zb (H3 _ _ ?_)))))))
 refine Zg fun K4 H4 => ?_
 refine Zc (Za rfl rfl (Ze rfl) (Za rfl rfl (Ze rfl) (Zk rfl rfl ?_)))
 have F5 := (eh.ch0 C2)
 refine (Yo (j := (((l.length : Nat) : Int) - 1).toNat) F5 Token.len el42 sz84 rfl rfl (by omega) (by omega) fun ky az fO ha => ?_)
 have eQ := Zjo hl (by omega) fO
 have htk := congrArg Token.kind eQ
 have hte := congrArg Token.letter eQ
 have htl := congrArg Token.low eQ
 have hth := congrArg Token.high eQ
 refine Za rfl rfl (Zw ha agg84 sz84 rfl) (Zk rfl rfl ?_)
 refine Yp zr84 fun cy W6 gN C6 mL => ?_
 have mM := C6.size
 have E := E.trans C6.of_nil
 have mN := gN.lt
 replace gN : Blk W6 cy 84 [(.int .i64 0), (.int .i64 0), (.int .i64 0), (.int .i64 0)] := gN
 refine Zk rfl rfl ?_
 refine Zt (off := 0) 4 gN sz84 rfl (us := [(.int .i64 az.kind), (.int .i64 az.letter), (.int .i64 az.low), (.int .i64 az.high)]) rfl rfl rfl rfl fun W7 ei C7 => ?_
 have mO := C7.size
 have E := E.step C7 (oneL (by omega))
 replace ei : Blk W7 cy 84 [(.int .i64 az.kind), (.int .i64 az.letter), (.int .i64 az.low), (.int .i64 az.high)] := ei
 refine Zf (Zb (H4 _ _ ?_))
 refine Zg fun K9 H9 => ?_
 refine Zg fun mP kz => ?_
 refine Zc (Za rfl rfl (Zh fa84_0 rfl) (Za rfl rfl (Zm ei.at_ agg3 rfl rfl) (Zf (Zb (kz _ _ ?_)))))
 refine Zx ?_
 refine Zg fun mQ kA => ?_
 refine Zc (Za rfl rfl (Xj rfl rfl) (Za rfl rfl (Zd rfl) (Zf (Zb (kA _ _ ?_)))))
 refine Zp rfl (fun cz => ?_) (fun cz => ?_)
 ·have hc := cz
  have cz := Yf cz
  have eb := bp2 (L := a) (F := b) hok (by omega)
  refine Zg fun mR kB => ?_
  refine Zc (Za rfl rfl (Yr (parts := [(0, .const (Go.Value.bool true))]) (cells := [(.bool true), (.int .i64 0), (.int .i64 0)]) zr91 pl91 rfl rfl) (Zk rfl rfl ?_))
  have kC := ((cS.ch0 C6).ch C7 (ne1 (by omega)))
  refine Zt (off := 0) 3 kC sz91 rfl (us := [(.bool true), (.int .i64 0), (.int .i64 0)]) rfl rfl rfl rfl fun gO dl fP => ?_
  have kD := fP.size
  have E := E.step fP (oneL (by omega))
  replace dl : Blk gO aW 91 [(.bool true), (.int .i64 0), (.int .i64 0)] := dl
  refine Zf (Zb (kB _ _ ?_))
  refine Zr (Ya (Zl ?_))
  have kE := ((((m_p.ch0 C2).ch0 C6).ch C7 (ne1 (by omega))).ch fP (ne1 (by omega)))
  have kF := ((((aU.ch0 C2).ch0 C6).ch C7 (dS k o (by omega))).ch fP (dS k o (by omega)))
  have fQ : Ol ics 3 1 gO (.slice aa a.length ab) ((bpT t a b).L) := by
   have hx := kF
   exact hx.eq (by rw [eb] <;> first | rfl | (rw [hte]; done))
  have kG := ((((aV.ch0 C2).ch0 C6).ch C7 (dS m p (by omega))).ch fP (dS m p (by omega)))
  have fR : Ol ics 3 1 gO (.slice aB b.length aC) ((bpT t a b).F) := by
   have hx := kG
   exact hx.eq (by rw [eb] <;> first | rfl | (rw [hte]; done))
  have fS : Blk gO b_p t_p [(.slice aa a.length ab), .int .i64 bs, .int .i64 bu, (.slice aB b.length aC), .bool bv] := by
   have hx := kE
   exact hx
  exact Zi [_] (Zu dl rfl agg91 sz91 trivial) ⟨(.slice aa a.length ab), (.slice aB b.length aC), (((congrArg (fun zq => (Value.agg #[.bool zq, .int .i64 0, .int .i64 0])) (by rw [eb] <;> first | rfl | (rw [hte]; done))).trans (congrArg (fun zq => (Value.agg #[.bool ((bpT t a b).n), .int .i64 zq, .int .i64 0])) (by rw [eb] <;> first | rfl | (rw [hte]; done)))).trans (congrArg (fun zq => (Value.agg #[.bool ((bpT t a b).n), .int .i64 ((bpT t a b).f), .int .i64 zq])) (by rw [eb] <;> first | rfl | (rw [hte]; done)))), fS, fQ, (fun g hm => by exact (.inr (mCo _ (mAL _ hm)))), I, fR, (fun g hm => by exact (.inr (mCo _ (mAR _ hm)))), Z, q, E⟩
 have hc := cz
 have cz := Ye cz
 refine Zg fun mS kH => ?_
 refine Zc (Za rfl rfl (Xj rfl rfl) (Za rfl rfl (Zd rfl) (Zf (Zb (kH _ _ ?_)))))
 refine Zp rfl (fun cA => ?_) (fun cA => ?_)
 ·have hd := cA
  have cA := Yf cA
  have eb := bp3 (L := a) (F := b) hok (by omega)
  refine Zg fun mT kI => ?_
  refine Zc (Za rfl rfl (Ze rfl) (Za rfl rfl (Xq rfl) (Za rfl rfl (Zh fa48_0 rfl) ?_)))
  have he := (((m_p.ch0 C2).ch0 C6).ch C7 (ne1 (by omega)))
  refine Za rfl rfl (Zm he.at_ agg30 rfl rfl) (Za rfl rfl (Xa (by rw [el30]; rfl) rfl) (Za rfl rfl (Ztb (by omega) rfl rfl) (Za rfl rfl (Zd rfl) (Zf (Zb (kI _ _ ?_))))))
  refine Zg fun kJ kK => ?_
  have eH : ∀ (lj : KL) (aA : World) (bB : Value) (bC : Value), Go.KLib.Sub [(0, (.pointer (some ⟨b_p, 0, none⟩))), (1, (.slice eO l.length eP)), (4, (.pointer (some ⟨aW, 0, none⟩))), (5, (.int .i64 (((l.length : Nat) : Int) - 1))), (7, (.int .i64 (ishl 1 ((a.length : Nat) : Int)))), (24, (.int .i64 az.kind))] lj → Ch (b_p :: (bl (.slice aa a.length ab) ++ bl (.slice aB b.length aC))) w aA → W7.heap.size ≤ aA.heap.size → Ol ics 3 1 aA bB (a ++ [az.letter]) → (∀ g ∈ bl bB, w.heap.size ≤ g ∨ g ∈ (b_p :: (bl (.slice aa a.length ab) ++ bl (.slice aB b.length aC)))) → b_p ∉ bl bB → Ol ics 3 1 aA bC b → (∀ g ∈ bl bC, w.heap.size ≤ g ∨ g ∈ (b_p :: (bl (.slice aa a.length ab) ++ bl (.slice aB b.length aC)))) → b_p ∉ bl bC → (∀ g ∈ bl bB, g ∉ bl bC) → Blk aA b_p t_p [bB, (.int .i64 bs), (.int .i64 bu), bC, (.bool bv)] → Ls Token.cs 4 aA LL_l eg (.slice eO l.length eP) l → Blk aA aW 91 [(.bool false), (.int .i64 0), (.int .i64 0)] → aW ∉ bl bB → aW ∉ bl bC → kJ lj aA := by
   intro lj aA bB bC fT E gP cT cU b1 cV b2 bw aQ jq jr fU bD aE
   refine kK _ _ (Znz fT ?_)
   have fV := E
   have hf := fV.size
   obtain ⟨aX, aY, rfl, gQ, cd⟩ := cT.opn
   have dm : Lo L_p (.slice aX ((a ++ [az.letter])).length aY) := fun g hm => by have bF := cd _ hm; rcases cU _ hm with bf | bf; (omega); (rcases List.mem_cons.1 bf with bf | bf; (exact absurd (bf ▸ hm) b1); (replace hm := bf; rcases List.mem_append.1 hm with hm | hm; (have d8 := k _ hm; have eR := o _ hm; omega); (have d8 := m _ hm; have eR := p _ hm; omega)))
   obtain ⟨ej, ek, rfl, gR, dn⟩ := cV.opn
   have dp : Lo L_p (.slice ej (b).length ek) := fun g hm => by have bF := dn _ hm; rcases b2 _ hm with bf | bf; (omega); (rcases List.mem_cons.1 bf with bf | bf; (exact absurd (bf ▸ hm) bw); (replace hm := bf; rcases List.mem_append.1 hm with hm | hm; (have d8 := k _ hm; have eR := o _ hm; omega); (have d8 := m _ hm; have eR := p _ hm; omega)))
   refine Zg fun mU kL => ?_
   refine Zc (Za rfl rfl (Ze rfl) (Za rfl rfl (Ze rfl) (Za rfl rfl (Xq rfl) (Za rfl rfl (Zh fa48_3 rfl) (Za rfl rfl (Zm jq.at_ agg30 rfl rfl) (Zk rfl rfl ?_))))))
   refine Zo (cs := ics) (parts := [(0, .const (Go.Value.int Go.IntKind.i64 0))]) (0 : Int) [0] el30 sz3 zr3 Yh (by decide) rfl rfl rfl (by decide) (by decide) rfl fun kM mV fW js fA => ?_
   have kN := fA.size
   have E := E.trans fA.of_nil
   obtain ⟨jt, ju, rfl, jv, hh⟩ := fW.opn
   refine Zk rfl rfl ?_
   have kO := (cV.ch0 fA)
   refine Yd (cs := ics) el30 sz3 by3 zr3 rfl (by decide) Xn kO fW.ls rfl rfl (by first | omega | (simp only [List.length_append, List.length_nil, List.length_cons, List.length_replicate, List.length_set, List.length_reverse, List.length_map] at *; omega) | (simp at *; omega)) (by first | omega | (simp only [List.length_append, List.length_nil, List.length_cons, List.length_replicate, List.length_set, List.length_reverse, List.length_map] at *; omega) | (simp at *; omega)) dp (by omega) fun kP mW fX jw ce fY => ?_
   have kQ := fY.size
   have E := E.step fY (fun i hm => by exact b2 _ hm)
   obtain ⟨cW, cX, rfl, jx, bG⟩ := fX.opn
   refine Za rfl rfl (Xq rfl) (Za rfl rfl (Zh fa48_3 rfl) (Zk rfl rfl ?_))
   have kR := ((jq.ch0 fA).ch fY bw)
   refine Yv (off := 3) kR sz30 rfl rfl rfl rfl fun kS dq fZ => ?_
   have kT := fZ.size
   have E := E.step fZ (fun i hm => by have r := mSg.1 hm; right; exact r ▸ List.mem_cons_self ..)
   replace dq : Blk kS b_p t_p [(.slice aX ((a ++ [az.letter])).length aY), (.int .i64 bs), (.int .i64 bu), (.slice cW ((b ++ [0])).length cX), (.bool bv)] := dq
   refine Zf (Zb (kL _ _ ?_))
   refine Zg fun mX kU => ?_
   refine Zc (Za rfl rfl (Ze rfl) (Za rfl rfl (Ze rfl) (Za rfl rfl (Yr (parts := [(1, .tmp 56), (2, .tmp 57)]) (cells := [(.bool false), (.int .i64 (ishl 1 ((a.length : Nat) : Int))), (.int .i64 (ishl 1 ((a.length : Nat) : Int)))]) zr91 pl91 rfl rfl) (Zk rfl rfl ?_))))
   have kV := (((fU.ch0 fA).ch fY aE).ch fZ (ne1 (by omega)))
   refine Zt (off := 0) 3 kV sz91 rfl (us := [(.bool false), (.int .i64 (ishl 1 ((a.length : Nat) : Int))), (.int .i64 (ishl 1 ((a.length : Nat) : Int)))]) rfl rfl rfl rfl fun gS dr f0 => ?_
   have kW := f0.size
   have E := E.step f0 (oneL (by omega))
   replace dr : Blk gS aW 91 [(.bool false), (.int .i64 (ishl 1 ((a.length : Nat) : Int))), (.int .i64 (ishl 1 ((a.length : Nat) : Int)))] := dr
   refine Zf (Zb (kU _ _ ?_))
   refine Zr (Ya (Zl ?_))
   have kX := (dq.ch f0 (ne1 (by omega)))
   have kY := ((((cT.ch0 fA).ch fY (fun g hg hm => by exact aQ _ hg hm)).ch fZ (fun g hg hm => by have r := mSg.1 hm; exact b1 (by first | exact hg | exact r ▸ hg))).ch f0 (fun g hg hm => by have r := mSg.1 hm; exact bD (by first | exact hg | exact r ▸ hg)))
   have f1 : Ol ics 3 1 gS (.slice aX ((a ++ [az.letter])).length aY) ((bpT t a b).L) := by
    have hx := kY
    exact hx.eq (by rw [eb] <;> first | rfl | (rw [hte]; done))
   have kZ := ((fX.ch fZ (fun g hg hm => by have r := mSg.1 hm; rcases ce with ea | ea; (rw [ea] at hg; exact bw (by first | exact hg | exact r ▸ hg)); (have el := bG _ hg; rw [ea] at hg; have bf := mSg.1 hg; omega))).ch f0 (fun g hg hm => by have r := mSg.1 hm; rcases ce with ea | ea; (rw [ea] at hg; exact aE (by first | exact hg | exact r ▸ hg)); (have el := bG _ hg; rw [ea] at hg; have bf := mSg.1 hg; omega)))
   have f2 : Ol ics 3 1 gS (.slice cW ((b ++ [0])).length cX) ((bpT t a b).F) := by
    have hx := kZ
    exact hx.eq (by rw [eb] <;> first | rfl | (rw [hte]; done))
   have f3 : Blk gS b_p t_p [(.slice aX ((a ++ [az.letter])).length aY), .int .i64 bs, .int .i64 bu, (.slice cW ((b ++ [0])).length cX), .bool bv] := by
    have hx := kX
    exact hx
   exact Zi [_] (Zu dr rfl agg91 sz91 trivial) ⟨(.slice aX ((a ++ [az.letter])).length aY), (.slice cW ((b ++ [0])).length cX), (((congrArg (fun zq => (Value.agg #[.bool zq, .int .i64 (ishl 1 ((a.length : Nat) : Int)), .int .i64 (ishl 1 ((a.length : Nat) : Int))])) (by rw [eb] <;> first | rfl | (rw [hte]; done))).trans (congrArg (fun zq => (Value.agg #[.bool ((bpT t a b).n), .int .i64 zq, .int .i64 (ishl 1 ((a.length : Nat) : Int))])) (by rw [eb] <;> first | rfl | (rw [hte]; done)))).trans (congrArg (fun zq => (Value.agg #[.bool ((bpT t a b).n), .int .i64 ((bpT t a b).f), .int .i64 zq])) (by rw [eb] <;> first | rfl | (rw [hte]; done)))), f3, f1, (fun g hm => by exact cU _ hm), b1, f2, (fun g hm => by rcases ce with ea | ea; (rw [ea] at hm; exact b2 _ hm); (have bF := bG _ hm; rw [ea] at hm; have bf := mSg.1 hm; left; omega)), (fun hm => by rcases ce with ea | ea; (rw [ea] at hm; exact bw (by first | exact hm | exact r ▸ hm)); (have bF := bG _ hm; rw [ea] at hm; have bf := mSg.1 hm; omega)), (fun g hm hg => by rcases ce with ea | ea; (rw [ea] at hg; exact aQ _ hm hg); (have el := bG _ hg; rw [ea] at hg; have bf := mSg.1 hg; have d8 := dm _ hm; have eR := cd _ hm; omega)), E⟩
  refine Xg ((bl (.slice aa a.length ab)) ++ [b_p]) 12 mixed rfl fun jy dd => ?_
  have k0 := dd.size
  have E := E.trans dd.of_nil
  refine dV 0 rfl rfl rfl (fun _ => Ze rfl) (dV 1 rfl rfl rfl (fun _ => Ze rfl) (dV 2 rfl rfl rfl (fun _ => Xq rfl) (dV 3 rfl rfl rfl (fun _ => Zh fa48_0 rfl) (dV 5 rfl rfl rfl (fun _ => Zh fa84_1 rfl) ?_))))
  have k3 := (ei.ch0 dd)
  refine dT 6 rfl rfl rfl (Yw k3.at_ (fun i hm => by rcases List.mem_append.1 hm with hm | hm; (have d8 := k _ hm; have eR := o _ hm; omega); (have d8 := mSg.1 hm; omega)) agg3 rfl rfl ?_)
  refine Zas 4 7 (by kernel_rfl) ?_ ?_
  ·refine Yl rfl rfl rfl ?_
   have jz := (he.ch0 dd)
   refine s_v (Zm jz.at_ agg30 rfl rfl) ?_
   refine ⟨(Ch.refl _ _), ?_⟩
   refine dO 7 (Yl rfl rfl rfl ?_)
   refine Zo (cs := ics) (parts := [(0, .tmp 42)]) (0 : Int) [az.letter] el30 sz3 zr3 Yh (by decide) rfl rfl rfl (by decide) (by decide) rfl fun hj k4 ds f4 eI => ?_
   have k5 := eI.size
   have E := E.trans eI.of_nil
   obtain ⟨f5, f6, rfl, f7, eS⟩ := ds.opn
   have eJ : Ch ((bl (.slice aa a.length ab)) ++ [b_p]) jy k4 := ((Ch.refl _ _).trans eI.of_nil)
   refine ⟨eJ, ?_⟩
   refine dO 8 (Yl rfl rfl rfl ?_)
   have k6 := (((((aU.ch0 C2).ch0 C6).ch C7 (dS k o (by omega))).ch0 dd).ch0 eI)
   refine Yd (cs := ics) el30 sz3 by3 zr3 rfl (by decide) Xn k6 ds.ls rfl rfl (by first | omega | (simp only [List.length_append, List.length_nil, List.length_cons, List.length_replicate, List.length_set, List.length_reverse, List.length_map] at *; omega) | (simp at *; omega)) (by first | omega | (simp only [List.length_append, List.length_nil, List.length_cons, List.length_replicate, List.length_set, List.length_reverse, List.length_map] at *; omega) | (simp at *; omega)) k (by omega) fun hk mY dt f8 aF eT => ?_
   have k7 := eT.size
   have E := E.step eT (fun i hm => by exact (.inr (mCo _ (mAL _ hm))))
   obtain ⟨du, dv, rfl, f9, R⟩ := dt.opn
   have eK := (eJ.step eT (fun i hm => by exact .inr (mAL _ hm)))
   refine ⟨eK, ?_⟩
   refine dV 9 rfl rfl rfl (fun _ => Xq rfl) (dV 10 rfl rfl rfl (fun _ => Zh fa48_0 rfl) (dO 11 (Yl rfl rfl rfl ?_)))
   have k8 := ((jz.ch0 eI).ch eT I)
   refine Yv (off := 0) k8 sz30 rfl rfl rfl rfl fun k9 dw eU => ?_
   have la := eU.size
   have E := E.step eU (fun i hm => by have r := mSg.1 hm; right; exact r ▸ List.mem_cons_self ..)
   replace dw : Blk k9 b_p t_p [(.slice du ((a ++ [az.letter])).length dv), (.int .i64 bs), (.int .i64 bu), (.slice aB b.length aC), (.bool bv)] := dw
   have gc := (eK.step eU (fun i hm => by have r := mSg.1 hm; exact .inr (by rw [r]; exact (mAR _ (mSg.2 rfl)))))
   refine ⟨gc, ?_⟩
   refine Yq (by kernel_rfl) ?_
   refine Zb ?_
   have lb := (dt.ch eU (fun g hg hm => by have r := mSg.1 hm; rcases aF with ea | ea; (rw [ea] at hg; exact I (by first | exact hg | exact r ▸ hg)); (have el := R _ hg; rw [ea] at hg; have bf := mSg.1 hg; omega)))
   have lc := (((((((aV.ch0 C2).ch0 C6).ch C7 (dS m p (by omega))).ch0 dd).ch0 eI).ch eT (fun g hg hm => by exact q _ hm hg)).ch eU (fun g hg hm => by have r := mSg.1 hm; exact Z (by first | exact hg | exact r ▸ hg)))
   have ld := ((((((F5.ch0 C6).ch C7 (tfr1 (by omega))).ch0 dd).ch0 eI).ch eT (fun i hi => by have d8 := k _ hi; omega)).ch eU (tfr1 (by omega)))
   have le := ((((((cS.ch0 C6).ch C7 (ne1 (by omega))).ch0 dd).ch0 eI).ch eT (Xy k o (by omega))).ch eU (ne1 (by omega)))
   exact eH _ _ _ _ (sC4 rfl rfl rfl rfl (sC2 rfl rfl (Sub.nil _))) E (by omega) lb (fun g hm => by rcases aF with ea | ea; (rw [ea] at hm; exact (.inr (mCo _ (mAL _ hm)))); (have bF := R _ hm; rw [ea] at hm; have bf := mSg.1 hm; left; omega)) (fun hm => by rcases aF with ea | ea; (rw [ea] at hm; exact I (by first | exact hm | exact r ▸ hm)); (have bF := R _ hm; rw [ea] at hm; have bf := mSg.1 hm; omega)) lc (fun g hm => by exact (.inr (mCo _ (mAR _ hm)))) Z (fun g hm hg => by rcases aF with ea | ea; (rw [ea] at hm; exact q _ hm hg); (have bF := R _ hm; rw [ea] at hm; have bf := mSg.1 hm; have lf := m _ hg; have lg := p _ hg; omega)) dw ld le (fun hm => by rcases aF with ea | ea; (rw [ea] at hm; have d8 := k _ hm; have eR := o _ hm; omega); (have bF := R _ hm; rw [ea] at hm; have bf := mSg.1 hm; omega)) (Xy m p (by omega))
  refine Yl rfl rfl rfl ?_
  refine Zo (cs := ics) (parts := [(0, .tmp 42)]) (0 : Int) [az.letter] el30 sz3 zr3 Yh (by decide) rfl rfl rfl (by decide) (by decide) rfl fun hj lh ds f4 eL => ?_
  have li := eL.size
  have E := E.trans eL.of_nil
  obtain ⟨f5, f6, rfl, f7, eS⟩ := ds.opn
  have dx : Ch ((bl (.slice aa a.length ab)) ++ [b_p]) jy lh := ((Ch.refl _ _).trans eL.of_nil)
  refine ⟨dx, ?_⟩
  refine dO 4 (Yl rfl rfl rfl ?_)
  have jA := ((he.ch0 dd).ch0 eL)
  refine s_v (Zm jA.at_ agg30 rfl rfl) ?_
  refine ⟨dx, ?_⟩
  refine dO 8 (Yl rfl rfl rfl ?_)
  have lk := (((((aU.ch0 C2).ch0 C6).ch C7 (dS k o (by omega))).ch0 dd).ch0 eL)
  refine Yd (cs := ics) el30 sz3 by3 zr3 rfl (by decide) Xn lk ds.ls rfl rfl (by first | omega | (simp only [List.length_append, List.length_nil, List.length_cons, List.length_replicate, List.length_set, List.length_reverse, List.length_map] at *; omega) | (simp at *; omega)) (by first | omega | (simp only [List.length_append, List.length_nil, List.length_cons, List.length_replicate, List.length_set, List.length_reverse, List.length_map] at *; omega) | (simp at *; omega)) k (by omega) fun hk mZ dt f8 aF eV => ?_
  have ll := eV.size
  have E := E.step eV (fun i hm => by exact (.inr (mCo _ (mAL _ hm))))
  obtain ⟨du, dv, rfl, f9, R⟩ := dt.opn
  have eM := (dx.step eV (fun i hm => by exact .inr (mAL _ hm)))
  refine ⟨eM, ?_⟩
  refine dV 9 rfl rfl rfl (fun _ => Xq rfl) (dV 10 rfl rfl rfl (fun _ => Zh fa48_0 rfl) (dO 11 (Yl rfl rfl rfl ?_)))
  have lm := (jA.ch eV I)
  refine Yv (off := 0) lm sz30 rfl rfl rfl rfl fun ln dy eW => ?_
  have lo := eW.size
  have E := E.step eW (fun i hm => by have r := mSg.1 hm; right; exact r ▸ List.mem_cons_self ..)
  replace dy : Blk ln b_p t_p [(.slice du ((a ++ [az.letter])).length dv), (.int .i64 bs), (.int .i64 bu), (.slice aB b.length aC), (.bool bv)] := dy
  have gd := (eM.step eW (fun i hm => by have r := mSg.1 hm; exact .inr (by rw [r]; exact (mAR _ (mSg.2 rfl)))))
  refine ⟨gd, ?_⟩
  refine Yq (by kernel_rfl) ?_
  refine Zb ?_
  have lp := (dt.ch eW (fun g hg hm => by have r := mSg.1 hm; rcases aF with ea | ea; (rw [ea] at hg; exact I (by first | exact hg | exact r ▸ hg)); (have el := R _ hg; rw [ea] at hg; have bf := mSg.1 hg; omega)))
  have lq := (((((((aV.ch0 C2).ch0 C6).ch C7 (dS m p (by omega))).ch0 dd).ch0 eL).ch eV (fun g hg hm => by exact q _ hm hg)).ch eW (fun g hg hm => by have r := mSg.1 hm; exact Z (by first | exact hg | exact r ▸ hg)))
  have lr := ((((((F5.ch0 C6).ch C7 (tfr1 (by omega))).ch0 dd).ch0 eL).ch eV (fun i hi => by have d8 := k _ hi; omega)).ch eW (tfr1 (by omega)))
  have lu := ((((((cS.ch0 C6).ch C7 (ne1 (by omega))).ch0 dd).ch0 eL).ch eV (Xy k o (by omega))).ch eW (ne1 (by omega)))
  exact eH _ _ _ _ (sC4 rfl rfl rfl rfl (sC2 rfl rfl (Sub.nil _))) E (by omega) lp (fun g hm => by rcases aF with ea | ea; (rw [ea] at hm; exact (.inr (mCo _ (mAL _ hm)))); (have bF := R _ hm; rw [ea] at hm; have bf := mSg.1 hm; left; omega)) (fun hm => by rcases aF with ea | ea; (rw [ea] at hm; exact I (by first | exact hm | exact r ▸ hm)); (have bF := R _ hm; rw [ea] at hm; have bf := mSg.1 hm; omega)) lq (fun g hm => by exact (.inr (mCo _ (mAR _ hm)))) Z (fun g hm hg => by rcases aF with ea | ea; (rw [ea] at hm; exact q _ hm hg); (have bF := R _ hm; rw [ea] at hm; have bf := mSg.1 hm; have lf := m _ hg; have lg := p _ hg; omega)) dy lr lu (fun hm => by rcases aF with ea | ea; (rw [ea] at hm; have d8 := k _ hm; have eR := o _ hm; omega); (have bF := R _ hm; rw [ea] at hm; have bf := mSg.1 hm; omega)) (Xy m p (by omega))
 have hd := cA
 have cA := Ye cA
 refine Zg fun m0 lv => ?_
 refine Zc (Za rfl rfl (Xj rfl rfl) (Za rfl rfl (Zd rfl) (Zf (Zb (lv _ _ ?_)))))
 refine Zp rfl (fun cB => ?_) (fun cB => ?_)
 ·have hn := cB
  have cB := Yf cB
  obtain ⟨ta, tb, et, oa, ob, hla, jB⟩ := hok.k2 (by omega) eQ hl
  have dz : t.kids[0]? = some ta := by rw [et]; rfl
  have eX : t.kids[1]? = some tb := by rw [et]; rfl
  have ga := ta.flat_len
  have gb := tb.flat_len
  have za := Zdj ta a b
  have zb := Zdj tb (bpT ta a b).L (bpT ta a b).F
  have eb := bp4 (L := a) (F := b) hok (by omega) dz eX
  refine Zg fun m1 lw => ?_
  refine Zc (Za rfl rfl (Ze rfl) (Za rfl rfl (Ze rfl) (Zk rfl rfl ?_)))
  have jC := ((F5.ch0 C6).ch C7 (tfr1 (by omega)))
  refine (Zgg (ys := (ta.flat ++ tb.flat)) 0 ((((l.length : Nat) : Int) - 1).toNat) jC Token.len el42 sz84 rfl rfl ⟨_, _, rfl, by omega⟩ (by omega) (by omega) (show l.take _ = _ from Zij hla (by omega)) fun lx eY jD jE => ?_)
  obtain ⟨ly, lz, ho⟩ := eY.val
  subst ho
  have lA := eY.len
  refine Zk rfl rfl ?_
  refine Step.call (Zn (xs := [.tmp 63]) fk106 rfl) (Zad eY ta.flat tb ob rfl) fun lB m2 hp => ?_
  obtain ⟨rfl, d9⟩ := hp
  have lC := d9.size
  have E := E.trans d9.of_nil
  refine Za rfl rfl (Zd rfl) (Zf (Zb (lw _ _ ?_)))
  refine Zg fun m3 lD => ?_
  refine Zc (Za rfl rfl (Ze rfl) (Za rfl rfl (Ze rfl) (Za rfl rfl (Ze rfl) (Zk rfl rfl ?_))))
  have jF := (jC.ch0 d9)
  refine (Zgg (ys := ta.flat) 0 ta.flat.length jF Token.len el42 sz84 rfl rfl ⟨_, _, rfl, by omega⟩ (by omega) (by omega) (show l.take _ = _ from Znm hla (by omega)) fun lE eZ jG jH => ?_)
  obtain ⟨lF, lG, hq⟩ := eZ.val
  subst hq
  have lH := eZ.len
  refine Zk rfl rfl ?_
  have lI := ((((m_p.ch0 C2).ch0 C6).ch C7 (ne1 (by omega))).ch0 d9)
  have lJ := ((((aU.ch0 C2).ch0 C6).ch C7 (dS k o (by omega))).ch0 d9)
  have lK := ((((aV.ch0 C2).ch0 C6).ch C7 (dS m p (by omega))).ch0 d9)
  refine Step.call (Zn (xs := [.tmp 65, .tmp 68]) fk67 rfl) (ih lI (by omega) lJ I (Lo.down k (by omega)) lK Z (Lo.down m (by omega)) q eZ ta oa rfl (by omega) ⟨by omega, by omega⟩ (L_p := L_p) (by omega)) fun lL lM hr => ?_
  obtain ⟨hs, ht, rfl, e0, cY, aZ, aG, cZ, a0, aH, bR, e1⟩ := hr
  have lN := e1.size
  have E := E.step e1 (fun i hm => by rcases List.mem_cons.1 hm with r | hm; (right; exact r ▸ List.mem_cons_self ..); (rcases List.mem_append.1 hm with hm | hm; (exact (.inr (mCo _ (mAL _ hm)))); (exact (.inr (mCo _ (mAR _ hm))))))
  obtain ⟨dA, dB, rfl, hu, bz⟩ := cY.opn
  have ac : Lo L_p (.slice dA ((bpT ta a b).L).length dB) := Zea aZ aG (by omega) (all2 k m)
  obtain ⟨dC, dD, rfl, hv, bA⟩ := cZ.opn
  have ad : Lo L_p (.slice dC ((bpT ta a b).F).length dD) := Zea a0 aH (by omega) (all2 k m)
  have ae := Qa aZ aG (show aW < _ by omega) (nin2 (Xy k o (by omega)) (Xy m p (by omega)))
  have cf := Qa aZ aG (show cy < _ by omega) (nin2 (Xy k o (by omega)) (Xy m p (by omega)))
  have cC := Zbx E aZ aG (by omega) (all2 (fun g hm => (.inr (mCo _ (mAL _ hm)))) (fun g hm => (.inr (mCo _ (mAR _ hm)))))
  have af := Qa a0 aH (show aW < _ by omega) (nin2 (Xy k o (by omega)) (Xy m p (by omega)))
  have cg := Qa a0 aH (show cy < _ by omega) (nin2 (Xy k o (by omega)) (Xy m p (by omega)))
  have cD := Zbx E a0 aH (by omega) (all2 (fun g hm => (.inr (mCo _ (mAL _ hm)))) (fun g hm => (.inr (mCo _ (mAR _ hm)))))
  replace e0 : Blk lM b_p t_p [(.slice dA ((bpT ta a b).L).length dB), (.int .i64 bs), (.int .i64 bu), (.slice dC ((bpT ta a b).F).length dD), (.bool bv)] := e0
  refine Zk rfl rfl ?_
  refine Yp zr91 fun fB lO gT ec m4 => ?_
  have lP := ec.size
  have E := E.trans ec.of_nil
  have m5 := gT.lt
  replace gT : Blk lO fB 91 [(.bool false), (.int .i64 0), (.int .i64 0)] := gT
  refine Zk rfl rfl ?_
  refine Zt (off := 0) 3 gT sz91 rfl (us := [(.bool ((bpT ta a b).n)), (.int .i64 ((bpT ta a b).f)), (.int .i64 ((bpT ta a b).l))]) rfl rfl rfl rfl fun lQ dE ed => ?_
  have lR := ed.size
  have E := E.step ed (oneL (by omega))
  replace dE : Blk lQ fB 91 [(.bool ((bpT ta a b).n)), (.int .i64 ((bpT ta a b).f)), (.int .i64 ((bpT ta a b).l))] := dE
  refine Zf (Zb (lD _ _ ?_))
  refine Zg fun m6 lT => ?_
  refine Zc (Za rfl rfl (Ze rfl) (Za rfl rfl (Ze rfl) (Za rfl rfl (Ze rfl) (Za rfl rfl (Ze rfl) (Zk rfl rfl ?_)))))
  have lU := (((jF.ch e1 (lwr3 (by omega) k (by omega) m (by omega))).ch0 ec).ch ed (tfr1 (by omega)))
  refine (Zgg (ys := tb.flat) ta.flat.length ((((l.length : Nat) : Int) - 1).toNat) lU Token.len el42 sz84 rfl ⟨_, _, rfl, by omega⟩ ⟨_, _, rfl, by omega⟩ (by omega) (by omega) (Zni hla (by omega) (by omega)) fun lV e2 jI jJ => ?_)
  obtain ⟨lW, lX, hw⟩ := e2.val
  subst hw
  have lY := e2.len
  refine Zk rfl rfl ?_
  have lZ := ((e0.ch0 ec).ch ed (ne1 (by omega)))
  have l0 := ((cY.ch0 ec).ch ed (dS ac bz (by omega)))
  have l1 := ((cZ.ch0 ec).ch ed (dS ad bA (by omega)))
  refine Step.call (Zn (xs := [.tmp 70, .tmp 74]) fk67 rfl) (ih lZ (by omega) l0 aG (Lo.down ac (by omega)) l1 aH (Lo.down ad (by omega)) bR e2 tb ob rfl (by omega) ⟨by omega, by omega⟩ (L_p := L_p) (by omega)) fun l2 l3 hy => ?_
  obtain ⟨hz, hA, rfl, e3, c0, aI, ag, c1, aJ, ah, bS, e4⟩ := hy
  have l4 := e4.size
  have E := E.step e4 (fun i hm => by rcases List.mem_cons.1 hm with r | hm; (right; exact r ▸ List.mem_cons_self ..); (rcases List.mem_append.1 hm with hm | hm; (exact (cC _ hm)); (exact (cD _ hm))))
  obtain ⟨dF, dG, rfl, hB, a1⟩ := c0.opn
  have ai : Lo L_p (.slice dF ((bpT tb ((bpT ta a b).L) ((bpT ta a b).F)).L).length dG) := Zea aI ag (by omega) (all2 ac ad)
  obtain ⟨dH, dI, rfl, hC, a2⟩ := c1.opn
  have aj : Lo L_p (.slice dH ((bpT tb ((bpT ta a b).L) ((bpT ta a b).F)).F).length dI) := Zea aJ ah (by omega) (all2 ac ad)
  have ak := Qa aI ag (show aW < _ by omega) (nin2 ae af)
  have ci := Qa aI ag (show cy < _ by omega) (nin2 cf cg)
  have bH := Qa aI ag (show fB < _ by omega) (nin2 (Xy ac bz (by omega)) (Xy ad bA (by omega)))
  have cE := Zbx E aI ag (by omega) (all2 (fun g hm => (cC _ hm)) (fun g hm => (cD _ hm)))
  have al := Qa aJ ah (show aW < _ by omega) (nin2 ae af)
  have cj := Qa aJ ah (show cy < _ by omega) (nin2 cf cg)
  have bI := Qa aJ ah (show fB < _ by omega) (nin2 (Xy ac bz (by omega)) (Xy ad bA (by omega)))
  have cF := Zbx E aJ ah (by omega) (all2 (fun g hm => (cC _ hm)) (fun g hm => (cD _ hm)))
  replace e3 : Blk l3 b_p t_p [(.slice dF ((bpT tb ((bpT ta a b).L) ((bpT ta a b).F)).L).length dG), (.int .i64 bs), (.int .i64 bu), (.slice dH ((bpT tb ((bpT ta a b).L) ((bpT ta a b).F)).F).length dI), (.bool bv)] := e3
  refine Zk rfl rfl ?_
  refine Yp zr91 fun em l5 en ee l6 => ?_
  have l7 := ee.size
  have E := E.trans ee.of_nil
  have l8 := en.lt
  replace en : Blk l5 em 91 [(.bool false), (.int .i64 0), (.int .i64 0)] := en
  refine Zk rfl rfl ?_
  refine Zt (off := 0) 3 en sz91 rfl (us := [(.bool ((bpT tb ((bpT ta a b).L) ((bpT ta a b).F)).n)), (.int .i64 ((bpT tb ((bpT ta a b).L) ((bpT ta a b).F)).f)), (.int .i64 ((bpT tb ((bpT ta a b).L) ((bpT ta a b).F)).l))]) rfl rfl rfl rfl fun l9 bJ ef => ?_
  have ma := ef.size
  have E := E.step ef (oneL (by omega))
  replace bJ : Blk l9 em 91 [(.bool ((bpT tb ((bpT ta a b).L) ((bpT ta a b).F)).n)), (.int .i64 ((bpT tb ((bpT ta a b).L) ((bpT ta a b).F)).f)), (.int .i64 ((bpT tb ((bpT ta a b).L) ((bpT ta a b).F)).l))] := bJ
  refine Zf (Zb (lT _ _ ?_))
  refine Zg fun mb hD => ?_
  refine Zc (Za rfl rfl (Ze rfl) (Za rfl rfl (Zh fa91_2 rfl) ?_))
  have ge := (((dE.ch e4 (nin3 (by omega) (Zbk bz (by omega)) (Zbk bA (by omega)))).ch0 ee).ch ef (ne1 (by omega)))
  refine Za rfl rfl (Zm ge.at_ agg3 rfl rfl) (Za rfl rfl (Zh fa91_1 rfl) (Za rfl rfl (Zm bJ.at_ agg3 rfl rfl) (Zk rfl rfl ?_)))
  have hE := ((e3.ch0 ee).ch ef (ne1 (by omega)))
  have hF := ((c0.ch0 ee).ch ef (dS ai a1 (by omega)))
  have hG := ((c1.ch0 ee).ch ef (dS aj a2 (by omega)))
  refine Step.call (Zn (xs := [.tmp 76, .tmp 78, .tmp 80]) fk107 rfl) (Zed hE (by omega) hF ag (Lo.down ai (by omega)) hG ah (Lo.down aj (by omega)) bS _ _ (by omega) (L_p := L_p)) fun mc hH hI => ?_
  obtain ⟨hJ, hK, rfl, de, a3, am, s, a4, an, u, D, b3⟩ := hI
  have jK := b3.size
  have E := E.step b3 (fun i hm => by rcases List.mem_cons.1 hm with r | hm; (right; exact r ▸ List.mem_cons_self ..); (rcases List.mem_append.1 hm with hm | hm; (exact (cE _ hm)); (exact (cF _ hm))))
  obtain ⟨x, y, rfl, hL, S⟩ := a3.opn
  have G : Lo L_p (.slice x (((bpT tb ((bpT ta a b).L) ((bpT ta a b).F)).L)).length y) := Zea am s (by omega) (all2 ai aj)
  obtain ⟨z, A, rfl, hM, T⟩ := a4.opn
  have H : Lo L_p (.slice z (lkL ((bpT ta a b).l) ((bpT tb ((bpT ta a b).L) ((bpT ta a b).F)).f) ((bpT tb ((bpT ta a b).L) ((bpT ta a b).F)).F)).length A) := Zea an u (by omega) (all2 ai aj)
  have a5 := Qa am s (show aW < _ by omega) (nin2 ak al)
  have gf := Qa am s (show cy < _ by omega) (nin2 ci cj)
  have gg := Qa am s (show fB < _ by omega) (nin2 bH bI)
  have fC := Qa am s (show em < _ by omega) (nin2 (Xy ai a1 (by omega)) (Xy aj a2 (by omega)))
  have b4 := Zbx E am s (by omega) (all2 (fun g hm => (cE _ hm)) (fun g hm => (cF _ hm)))
  have a6 := Qa an u (show aW < _ by omega) (nin2 ak al)
  have gh := Qa an u (show cy < _ by omega) (nin2 ci cj)
  have gi := Qa an u (show fB < _ by omega) (nin2 bH bI)
  have fD := Qa an u (show em < _ by omega) (nin2 (Xy ai a1 (by omega)) (Xy aj a2 (by omega)))
  have b5 := Zbx E an u (by omega) (all2 (fun g hm => (cE _ hm)) (fun g hm => (cF _ hm)))
  replace de : Blk hH b_p t_p [(.slice x (((bpT tb ((bpT ta a b).L) ((bpT ta a b).F)).L)).length y), (.int .i64 bs), (.int .i64 bu), (.slice z (lkL ((bpT ta a b).l) ((bpT tb ((bpT ta a b).L) ((bpT ta a b).F)).f) ((bpT tb ((bpT ta a b).L) ((bpT ta a b).F)).F)).length A), (.bool bv)] := de
  refine Zf (Zb (hD _ _ ?_))
  refine Zg fun md gj => ?_
  refine Zc (Za rfl rfl (Zh fa91_0 rfl) ?_)
  have dJ := (ge.ch b3 (nin3 (by omega) bH bI))
  refine Za rfl rfl (Zm dJ.at_ agg4 rfl rfl) (Za rfl rfl (Ze rfl) ?_)
  refine Yn (d := 84) rfl (fun e => ?_) (fun e => ?_)
  ·have dL := e
   refine Za rfl rfl (Zh fa91_0 rfl) ?_
   have e5 := (bJ.ch b3 (nin3 (by omega) (Zbk a1 (by omega)) (Zbk a2 (by omega))))
   refine Za rfl rfl (Zm e5.at_ agg4 rfl rfl) (Za rfl rfl (Yi rfl rfl) (Za rfl rfl (Zh fa91_1 rfl) (Za rfl rfl (Zm dJ.at_ agg3 rfl rfl) (Za rfl rfl (Zh fa91_2 rfl) (Za rfl rfl (Zm e5.at_ agg3 rfl rfl) (Za rfl rfl (Yr (parts := [(0, .tmp 87), (1, .tmp 89), (2, .tmp 91)]) (cells := [(.bool ((bpT tb ((bpT ta a b).L) ((bpT ta a b).F)).n)), (.int .i64 ((bpT ta a b).f)), (.int .i64 ((bpT tb ((bpT ta a b).L) ((bpT ta a b).F)).l))]) zr91 pl91 rfl rfl) (Zk rfl rfl ?_)))))))
   refine Yp zr91 fun ck hN b6 bi hO => ?_
   have jL := bi.size
   have E := E.trans bi.of_nil
   have hP := b6.lt
   replace b6 : Blk hN ck 91 [(.bool false), (.int .i64 0), (.int .i64 0)] := b6
   refine Zk rfl rfl ?_
   refine Zt (off := 0) 3 b6 sz91 rfl (us := [(.bool ((bpT tb ((bpT ta a b).L) ((bpT ta a b).F)).n)), (.int .i64 ((bpT ta a b).f)), (.int .i64 ((bpT tb ((bpT ta a b).L) ((bpT ta a b).F)).l))]) rfl rfl rfl rfl fun hQ cG bj => ?_
   have jM := bj.size
   have E := E.step bj (oneL (by omega))
   replace cG : Blk hQ ck 91 [(.bool ((bpT tb ((bpT ta a b).L) ((bpT ta a b).F)).n)), (.int .i64 ((bpT ta a b).f)), (.int .i64 ((bpT tb ((bpT ta a b).L) ((bpT ta a b).F)).l))] := cG
   refine Zf (Zb (gj _ _ ?_))
   refine Zg fun me hR => ?_
   refine Zg fun mf hS => ?_
   refine Zc (Za rfl rfl (Zh fa91_0 rfl) ?_)
   have e6 := ((dJ.ch0 bi).ch bj (ne1 (by omega)))
   refine Za rfl rfl (Zm e6.at_ agg4 rfl rfl) (Zf (Zb (hS _ _ ?_)))
   refine Zcs rfl dL ?_
   refine Zc (Za rfl rfl (Zh fa91_1 rfl) (Za rfl rfl (Zm e6.at_ agg3 rfl rfl) (Za rfl rfl (Zh fa91_1 rfl) ?_)))
   have gk := ((e5.ch0 bi).ch bj (ne1 (by omega)))
   refine Za rfl rfl (Zm gk.at_ agg3 rfl rfl) (Za rfl rfl (r_or rfl rfl) (Za rfl rfl (Zh fa91_1 rfl) (Zk rfl rfl ?_)))
   refine Yv (off := 1) cG sz3 rfl rfl rfl rfl fun hT b7 bk => ?_
   have jN := bk.size
   have E := E.step bk (oneL (by omega))
   replace b7 : Blk hT ck 91 [(.bool ((bpT tb ((bpT ta a b).L) ((bpT ta a b).F)).n)), (.int .i64 (ior ((bpT ta a b).f) ((bpT tb ((bpT ta a b).L) ((bpT ta a b).F)).f))), (.int .i64 ((bpT tb ((bpT ta a b).L) ((bpT ta a b).F)).l))] := b7
   refine Zf (Zb (hR _ _ ?_))
   refine Zg fun mg gl => ?_
   refine Zg fun mh hU => ?_
   refine Zc (Za rfl rfl (Zh fa91_0 rfl) ?_)
   have gm := (gk.ch bk (ne1 (by omega)))
   refine Za rfl rfl (Zm gm.at_ agg4 rfl rfl) (Zf (Zb (hU _ _ ?_)))
   refine Zp rfl (fun c => ?_) (fun c => ?_)
   ·have gn := c
    refine Zc (Za rfl rfl (Zh fa91_2 rfl) ?_)
    have hV := (e6.ch bk (ne1 (by omega)))
    refine Za rfl rfl (Zm hV.at_ agg3 rfl rfl) (Za rfl rfl (Zh fa91_2 rfl) (Za rfl rfl (Zm gm.at_ agg3 rfl rfl) (Za rfl rfl (r_or rfl rfl) (Za rfl rfl (Zh fa91_2 rfl) (Zk rfl rfl ?_)))))
    refine Yv (off := 2) b7 sz3 rfl rfl rfl rfl fun hW cH df => ?_
    have jO := df.size
    have E := E.step df (oneL (by omega))
    replace cH : Blk hW ck 91 [(.bool ((bpT tb ((bpT ta a b).L) ((bpT ta a b).F)).n)), (.int .i64 (ior ((bpT ta a b).f) ((bpT tb ((bpT ta a b).L) ((bpT ta a b).F)).f))), (.int .i64 (ior ((bpT ta a b).l) ((bpT tb ((bpT ta a b).L) ((bpT ta a b).F)).l)))] := cH
    refine Zf (Zb (gl _ _ ?_))
    refine Zg fun mi hX => ?_
    refine Zc (Za rfl rfl (Zw cH.at_ agg91 sz91 rfl) (Zk rfl rfl ?_))
    have hY := ((((((((((((((cS.ch0 C6).ch C7 (ne1 (by omega))).ch0 d9).ch e1 (nin3 (by omega) (Zbk o (by omega)) (Zbk p (by omega)))).ch0 ec).ch ed (ne1 (by omega))).ch e4 (nin3 (by omega) ae af)).ch0 ee).ch ef (ne1 (by omega))).ch b3 (nin3 (by omega) ak al)).ch0 bi).ch bj (ne1 (by omega))).ch bk (ne1 (by omega))).ch df (ne1 (by omega)))
    refine Zt (off := 0) 3 hY sz91 rfl (us := [(.bool ((bpT tb ((bpT ta a b).L) ((bpT ta a b).F)).n)), (.int .i64 (ior ((bpT ta a b).f) ((bpT tb ((bpT ta a b).L) ((bpT ta a b).F)).f))), (.int .i64 (ior ((bpT ta a b).l) ((bpT tb ((bpT ta a b).L) ((bpT ta a b).F)).l)))]) rfl rfl rfl rfl fun eo cI dM => ?_
    have jP := dM.size
    have E := E.step dM (oneL (by omega))
    replace cI : Blk eo aW 91 [(.bool ((bpT tb ((bpT ta a b).L) ((bpT ta a b).F)).n)), (.int .i64 (ior ((bpT ta a b).f) ((bpT tb ((bpT ta a b).L) ((bpT ta a b).F)).f))), (.int .i64 (ior ((bpT ta a b).l) ((bpT tb ((bpT ta a b).L) ((bpT ta a b).F)).l)))] := cI
    refine Zf (Zb (hX _ _ ?_))
    refine Zr (Ya (Zl ?_))
    have hZ := (((((de.ch0 bi).ch bj (ne1 (by omega))).ch bk (ne1 (by omega))).ch df (ne1 (by omega))).ch dM (ne1 (by omega)))
    have h0 := (((((a3.ch0 bi).ch bj (dS G S (by omega))).ch bk (dS G S (by omega))).ch df (dS G S (by omega))).ch dM (fun g hg hm => by have r := mSg.1 hm; exact a5 (by first | exact hg | exact r ▸ hg)))
    have e7 : Ol ics 3 1 eo (.slice x (((bpT tb ((bpT ta a b).L) ((bpT ta a b).F)).L)).length y) ((bpT t a b).L) := by
     have hx := h0
     exact hx.eq (by rw [eb] <;> first | rfl | exact rbA e | exact rbB e | exact rbC e | exact rbD e | exact rbE e | (rw [e]; simp; done) | exact rbA c | exact rbB c | exact rbC c | exact rbD c | exact rbE c | (rw [c]; simp; done) | (rw [hte]; done))
    have h1 := (((((a4.ch0 bi).ch bj (dS H T (by omega))).ch bk (dS H T (by omega))).ch df (dS H T (by omega))).ch dM (fun g hg hm => by have r := mSg.1 hm; exact a6 (by first | exact hg | exact r ▸ hg)))
    have e8 : Ol ics 3 1 eo (.slice z (lkL ((bpT ta a b).l) ((bpT tb ((bpT ta a b).L) ((bpT ta a b).F)).f) ((bpT tb ((bpT ta a b).L) ((bpT ta a b).F)).F)).length A) ((bpT t a b).F) := by
     have hx := h1
     exact hx.eq (by rw [eb] <;> first | rfl | exact rbA e | exact rbB e | exact rbC e | exact rbD e | exact rbE e | (rw [e]; simp; done) | exact rbA c | exact rbB c | exact rbC c | exact rbD c | exact rbE c | (rw [c]; simp; done) | (rw [hte]; done))
    have e9 : Blk eo b_p t_p [(.slice x (((bpT tb ((bpT ta a b).L) ((bpT ta a b).F)).L)).length y), .int .i64 bs, .int .i64 bu, (.slice z (lkL ((bpT ta a b).l) ((bpT tb ((bpT ta a b).L) ((bpT ta a b).F)).f) ((bpT tb ((bpT ta a b).L) ((bpT ta a b).F)).F)).length A), .bool bv] := by
     have hx := hZ
     exact hx
    exact Zi [_] (Zu cI rfl agg91 sz91 trivial) ⟨(.slice x (((bpT tb ((bpT ta a b).L) ((bpT ta a b).F)).L)).length y), (.slice z (lkL ((bpT ta a b).l) ((bpT tb ((bpT ta a b).L) ((bpT ta a b).F)).f) ((bpT tb ((bpT ta a b).L) ((bpT ta a b).F)).F)).length A), (((congrArg (fun zq => (Value.agg #[.bool zq, .int .i64 (ior ((bpT ta a b).f) ((bpT tb ((bpT ta a b).L) ((bpT ta a b).F)).f)), .int .i64 (ior ((bpT ta a b).l) ((bpT tb ((bpT ta a b).L) ((bpT ta a b).F)).l))])) (by rw [eb] <;> first | rfl | exact rbA e | exact rbB e | exact rbC e | exact rbD e | exact rbE e | (rw [e]; simp; done) | exact rbA c | exact rbB c | exact rbC c | exact rbD c | exact rbE c | (rw [c]; simp; done) | (rw [hte]; done))).trans (congrArg (fun zq => (Value.agg #[.bool ((bpT t a b).n), .int .i64 zq, .int .i64 (ior ((bpT ta a b).l) ((bpT tb ((bpT ta a b).L) ((bpT ta a b).F)).l))])) (by rw [eb] <;> first | rfl | exact rbA e | exact rbB e | exact rbC e | exact rbD e | exact rbE e | (rw [e]; simp; done) | exact rbA c | exact rbB c | exact rbC c | exact rbD c | exact rbE c | (rw [c]; simp; done) | (rw [hte]; done)))).trans (congrArg (fun zq => (Value.agg #[.bool ((bpT t a b).n), .int .i64 ((bpT t a b).f), .int .i64 zq])) (by rw [eb] <;> first | rfl | exact rbA e | exact rbB e | exact rbC e | exact rbD e | exact rbE e | (rw [e]; simp; done) | exact rbA c | exact rbB c | exact rbC c | exact rbD c | exact rbE c | (rw [c]; simp; done) | (rw [hte]; done)))), e9, e7, b4, s, e8, b5, u, D, E⟩
   have gn := c
   refine Zq ?_
   refine Zb (gl _ _ ?_)
   refine Zg fun mj h2 => ?_
   refine Zc (Za rfl rfl (Zw b7.at_ agg91 sz91 rfl) (Zk rfl rfl ?_))
   have h3 := (((((((((((((cS.ch0 C6).ch C7 (ne1 (by omega))).ch0 d9).ch e1 (nin3 (by omega) (Zbk o (by omega)) (Zbk p (by omega)))).ch0 ec).ch ed (ne1 (by omega))).ch e4 (nin3 (by omega) ae af)).ch0 ee).ch ef (ne1 (by omega))).ch b3 (nin3 (by omega) ak al)).ch0 bi).ch bj (ne1 (by omega))).ch bk (ne1 (by omega)))
   refine Zt (off := 0) 3 h3 sz91 rfl (us := [(.bool ((bpT tb ((bpT ta a b).L) ((bpT ta a b).F)).n)), (.int .i64 (ior ((bpT ta a b).f) ((bpT tb ((bpT ta a b).L) ((bpT ta a b).F)).f))), (.int .i64 ((bpT tb ((bpT ta a b).L) ((bpT ta a b).F)).l))]) rfl rfl rfl rfl fun ep cJ dN => ?_
   have jQ := dN.size
   have E := E.step dN (oneL (by omega))
   replace cJ : Blk ep aW 91 [(.bool ((bpT tb ((bpT ta a b).L) ((bpT ta a b).F)).n)), (.int .i64 (ior ((bpT ta a b).f) ((bpT tb ((bpT ta a b).L) ((bpT ta a b).F)).f))), (.int .i64 ((bpT tb ((bpT ta a b).L) ((bpT ta a b).F)).l))] := cJ
   refine Zf (Zb (h2 _ _ ?_))
   refine Zr (Ya (Zl ?_))
   have h4 := ((((de.ch0 bi).ch bj (ne1 (by omega))).ch bk (ne1 (by omega))).ch dN (ne1 (by omega)))
   have h5 := ((((a3.ch0 bi).ch bj (dS G S (by omega))).ch bk (dS G S (by omega))).ch dN (fun g hg hm => by have r := mSg.1 hm; exact a5 (by first | exact hg | exact r ▸ hg)))
   have fa : Ol ics 3 1 ep (.slice x (((bpT tb ((bpT ta a b).L) ((bpT ta a b).F)).L)).length y) ((bpT t a b).L) := by
    have hx := h5
    exact hx.eq (by rw [eb] <;> first | rfl | exact rbA e | exact rbB e | exact rbC e | exact rbD e | exact rbE e | (rw [e]; simp; done) | exact rbA c | exact rbB c | exact rbC c | exact rbD c | exact rbE c | (rw [c]; simp; done) | (rw [hte]; done))
   have h6 := ((((a4.ch0 bi).ch bj (dS H T (by omega))).ch bk (dS H T (by omega))).ch dN (fun g hg hm => by have r := mSg.1 hm; exact a6 (by first | exact hg | exact r ▸ hg)))
   have fb : Ol ics 3 1 ep (.slice z (lkL ((bpT ta a b).l) ((bpT tb ((bpT ta a b).L) ((bpT ta a b).F)).f) ((bpT tb ((bpT ta a b).L) ((bpT ta a b).F)).F)).length A) ((bpT t a b).F) := by
    have hx := h6
    exact hx.eq (by rw [eb] <;> first | rfl | exact rbA e | exact rbB e | exact rbC e | exact rbD e | exact rbE e | (rw [e]; simp; done) | exact rbA c | exact rbB c | exact rbC c | exact rbD c | exact rbE c | (rw [c]; simp; done) | (rw [hte]; done))
   have fc : Blk ep b_p t_p [(.slice x (((bpT tb ((bpT ta a b).L) ((bpT ta a b).F)).L)).length y), .int .i64 bs, .int .i64 bu, (.slice z (lkL ((bpT ta a b).l) ((bpT tb ((bpT ta a b).L) ((bpT ta a b).F)).f) ((bpT tb ((bpT ta a b).L) ((bpT ta a b).F)).F)).length A), .bool bv] := by
    have hx := h4
    exact hx
   exact Zi [_] (Zu cJ rfl agg91 sz91 trivial) ⟨(.slice x (((bpT tb ((bpT ta a b).L) ((bpT ta a b).F)).L)).length y), (.slice z (lkL ((bpT ta a b).l) ((bpT tb ((bpT ta a b).L) ((bpT ta a b).F)).f) ((bpT tb ((bpT ta a b).L) ((bpT ta a b).F)).F)).length A), (((congrArg (fun zq => (Value.agg #[.bool zq, .int .i64 (ior ((bpT ta a b).f) ((bpT tb ((bpT ta a b).L) ((bpT ta a b).F)).f)), .int .i64 ((bpT tb ((bpT ta a b).L) ((bpT ta a b).F)).l)])) (by rw [eb] <;> first | rfl | exact rbA e | exact rbB e | exact rbC e | exact rbD e | exact rbE e | (rw [e]; simp; done) | exact rbA c | exact rbB c | exact rbC c | exact rbD c | exact rbE c | (rw [c]; simp; done) | (rw [hte]; done))).trans (congrArg (fun zq => (Value.agg #[.bool ((bpT t a b).n), .int .i64 zq, .int .i64 ((bpT tb ((bpT ta a b).L) ((bpT ta a b).F)).l)])) (by rw [eb] <;> first | rfl | exact rbA e | exact rbB e | exact rbC e | exact rbD e | exact rbE e | (rw [e]; simp; done) | exact rbA c | exact rbB c | exact rbC c | exact rbD c | exact rbE c | (rw [c]; simp; done) | (rw [hte]; done)))).trans (congrArg (fun zq => (Value.agg #[.bool ((bpT t a b).n), .int .i64 ((bpT t a b).f), .int .i64 zq])) (by rw [eb] <;> first | rfl | exact rbA e | exact rbB e | exact rbC e | exact rbD e | exact rbE e | (rw [e]; simp; done) | exact rbA c | exact rbB c | exact rbC c | exact rbD c | exact rbE c | (rw [c]; simp; done) | (rw [hte]; done)))), fc, fa, b4, s, fb, b5, u, D, E⟩
  have dL := e
  refine Zj rfl rfl (Zj rfl rfl (Za rfl rfl (Ym rfl rfl) (Za rfl rfl (Zh fa91_1 rfl) (Za rfl rfl (Zm dJ.at_ agg3 rfl rfl) (Za rfl rfl (Zh fa91_2 rfl) ?_)))))
  have gp := (bJ.ch b3 (nin3 (by omega) (Zbk a1 (by omega)) (Zbk a2 (by omega))))
  refine Za rfl rfl (Zm gp.at_ agg3 rfl rfl) (Za rfl rfl (Yr (parts := [(0, .tmp 87), (1, .tmp 89), (2, .tmp 91)]) (cells := [(.bool false), (.int .i64 ((bpT ta a b).f)), (.int .i64 ((bpT tb ((bpT ta a b).L) ((bpT ta a b).F)).l))]) zr91 pl91 rfl rfl) (Zk rfl rfl ?_))
  refine Yp zr91 fun ck h7 b6 bm hO => ?_
  have jR := bm.size
  have E := E.trans bm.of_nil
  have hP := b6.lt
  replace b6 : Blk h7 ck 91 [(.bool false), (.int .i64 0), (.int .i64 0)] := b6
  refine Zk rfl rfl ?_
  refine Zt (off := 0) 3 b6 sz91 rfl (us := [(.bool false), (.int .i64 ((bpT ta a b).f)), (.int .i64 ((bpT tb ((bpT ta a b).L) ((bpT ta a b).F)).l))]) rfl rfl rfl rfl fun h8 b8 bn => ?_
  have jS := bn.size
  have E := E.step bn (oneL (by omega))
  replace b8 : Blk h8 ck 91 [(.bool false), (.int .i64 ((bpT ta a b).f)), (.int .i64 ((bpT tb ((bpT ta a b).L) ((bpT ta a b).F)).l))] := b8
  refine Zf (Zb (gj _ _ ?_))
  refine Zg fun ml h9 => ?_
  refine Zg fun mm ia => ?_
  refine Zc (Za rfl rfl (Zh fa91_0 rfl) ?_)
  have gq := ((dJ.ch0 bm).ch bn (ne1 (by omega)))
  refine Za rfl rfl (Zm gq.at_ agg4 rfl rfl) (Zf (Zb (ia _ _ ?_)))
  refine Zqs rfl dL ?_
  refine Zq ?_
  refine Zb (h9 _ _ ?_)
  refine Zg fun mn gr => ?_
  refine Zg fun mo ib => ?_
  refine Zc (Za rfl rfl (Zh fa91_0 rfl) ?_)
  have gs := ((gp.ch0 bm).ch bn (ne1 (by omega)))
  refine Za rfl rfl (Zm gs.at_ agg4 rfl rfl) (Zf (Zb (ib _ _ ?_)))
  refine Zp rfl (fun c => ?_) (fun c => ?_)
  ·have gt := c
   refine Zc (Za rfl rfl (Zh fa91_2 rfl) (Za rfl rfl (Zm gq.at_ agg3 rfl rfl) (Za rfl rfl (Zh fa91_2 rfl) (Za rfl rfl (Zm gs.at_ agg3 rfl rfl) (Za rfl rfl (r_or rfl rfl) (Za rfl rfl (Zh fa91_2 rfl) (Zk rfl rfl ?_)))))))
   refine Yv (off := 2) b8 sz3 rfl rfl rfl rfl fun ic cK dg => ?_
   have jT := dg.size
   have E := E.step dg (oneL (by omega))
   replace cK : Blk ic ck 91 [(.bool false), (.int .i64 ((bpT ta a b).f)), (.int .i64 (ior ((bpT ta a b).l) ((bpT tb ((bpT ta a b).L) ((bpT ta a b).F)).l)))] := cK
   refine Zf (Zb (gr _ _ ?_))
   refine Zg fun mp ie => ?_
   refine Zc (Za rfl rfl (Zw cK.at_ agg91 sz91 rfl) (Zk rfl rfl ?_))
   have ig := (((((((((((((cS.ch0 C6).ch C7 (ne1 (by omega))).ch0 d9).ch e1 (nin3 (by omega) (Zbk o (by omega)) (Zbk p (by omega)))).ch0 ec).ch ed (ne1 (by omega))).ch e4 (nin3 (by omega) ae af)).ch0 ee).ch ef (ne1 (by omega))).ch b3 (nin3 (by omega) ak al)).ch0 bm).ch bn (ne1 (by omega))).ch dg (ne1 (by omega)))
   refine Zt (off := 0) 3 ig sz91 rfl (us := [(.bool false), (.int .i64 ((bpT ta a b).f)), (.int .i64 (ior ((bpT ta a b).l) ((bpT tb ((bpT ta a b).L) ((bpT ta a b).F)).l)))]) rfl rfl rfl rfl fun er cL dP => ?_
   have jU := dP.size
   have E := E.step dP (oneL (by omega))
   replace cL : Blk er aW 91 [(.bool false), (.int .i64 ((bpT ta a b).f)), (.int .i64 (ior ((bpT ta a b).l) ((bpT tb ((bpT ta a b).L) ((bpT ta a b).F)).l)))] := cL
   refine Zf (Zb (ie _ _ ?_))
   refine Zr (Ya (Zl ?_))
   have ii := ((((de.ch0 bm).ch bn (ne1 (by omega))).ch dg (ne1 (by omega))).ch dP (ne1 (by omega)))
   have ij := ((((a3.ch0 bm).ch bn (dS G S (by omega))).ch dg (dS G S (by omega))).ch dP (fun g hg hm => by have r := mSg.1 hm; exact a5 (by first | exact hg | exact r ▸ hg)))
   have fd : Ol ics 3 1 er (.slice x (((bpT tb ((bpT ta a b).L) ((bpT ta a b).F)).L)).length y) ((bpT t a b).L) := by
    have hx := ij
    exact hx.eq (by rw [eb] <;> first | rfl | exact rbA e | exact rbB e | exact rbC e | exact rbD e | exact rbE e | (rw [e]; simp; done) | exact rbA c | exact rbB c | exact rbC c | exact rbD c | exact rbE c | (rw [c]; simp; done) | (rw [hte]; done))
   have ik := ((((a4.ch0 bm).ch bn (dS H T (by omega))).ch dg (dS H T (by omega))).ch dP (fun g hg hm => by have r := mSg.1 hm; exact a6 (by first | exact hg | exact r ▸ hg)))
   have fe : Ol ics 3 1 er (.slice z (lkL ((bpT ta a b).l) ((bpT tb ((bpT ta a b).L) ((bpT ta a b).F)).f) ((bpT tb ((bpT ta a b).L) ((bpT ta a b).F)).F)).length A) ((bpT t a b).F) := by
    have hx := ik
    exact hx.eq (by rw [eb] <;> first | rfl | exact rbA e | exact rbB e | exact rbC e | exact rbD e | exact rbE e | (rw [e]; simp; done) | exact rbA c | exact rbB c | exact rbC c | exact rbD c | exact rbE c | (rw [c]; simp; done) | (rw [hte]; done))
   have ff : Blk er b_p t_p [(.slice x (((bpT tb ((bpT ta a b).L) ((bpT ta a b).F)).L)).length y), .int .i64 bs, .int .i64 bu, (.slice z (lkL ((bpT ta a b).l) ((bpT tb ((bpT ta a b).L) ((bpT ta a b).F)).f) ((bpT tb ((bpT ta a b).L) ((bpT ta a b).F)).F)).length A), .bool bv] := by
    have hx := ii
    exact hx
   exact Zi [_] (Zu cL rfl agg91 sz91 trivial) ⟨(.slice x (((bpT tb ((bpT ta a b).L) ((bpT ta a b).F)).L)).length y), (.slice z (lkL ((bpT ta a b).l) ((bpT tb ((bpT ta a b).L) ((bpT ta a b).F)).f) ((bpT tb ((bpT ta a b).L) ((bpT ta a b).F)).F)).length A), (((congrArg (fun zq => (Value.agg #[.bool zq, .int .i64 ((bpT ta a b).f), .int .i64 (ior ((bpT ta a b).l) ((bpT tb ((bpT ta a b).L) ((bpT ta a b).F)).l))])) (by rw [eb] <;> first | rfl | exact rbA e | exact rbB e | exact rbC e | exact rbD e | exact rbE e | (rw [e]; simp; done) | exact rbA c | exact rbB c | exact rbC c | exact rbD c | exact rbE c | (rw [c]; simp; done) | (rw [hte]; done))).trans (congrArg (fun zq => (Value.agg #[.bool ((bpT t a b).n), .int .i64 zq, .int .i64 (ior ((bpT ta a b).l) ((bpT tb ((bpT ta a b).L) ((bpT ta a b).F)).l))])) (by rw [eb] <;> first | rfl | exact rbA e | exact rbB e | exact rbC e | exact rbD e | exact rbE e | (rw [e]; simp; done) | exact rbA c | exact rbB c | exact rbC c | exact rbD c | exact rbE c | (rw [c]; simp; done) | (rw [hte]; done)))).trans (congrArg (fun zq => (Value.agg #[.bool ((bpT t a b).n), .int .i64 ((bpT t a b).f), .int .i64 zq])) (by rw [eb] <;> first | rfl | exact rbA e | exact rbB e | exact rbC e | exact rbD e | exact rbE e | (rw [e]; simp; done) | exact rbA c | exact rbB c | exact rbC c | exact rbD c | exact rbE c | (rw [c]; simp; done) | (rw [hte]; done)))), ff, fd, b4, s, fe, b5, u, D, E⟩
  have gt := c
  refine Zq ?_
  refine Zb (gr _ _ ?_)
  refine Zg fun mq il => ?_
  refine Zc (Za rfl rfl (Zw b8.at_ agg91 sz91 rfl) (Zk rfl rfl ?_))
  have im := ((((((((((((cS.ch0 C6).ch C7 (ne1 (by omega))).ch0 d9).ch e1 (nin3 (by omega) (Zbk o (by omega)) (Zbk p (by omega)))).ch0 ec).ch ed (ne1 (by omega))).ch e4 (nin3 (by omega) ae af)).ch0 ee).ch ef (ne1 (by omega))).ch b3 (nin3 (by omega) ak al)).ch0 bm).ch bn (ne1 (by omega)))
  refine Zt (off := 0) 3 im sz91 rfl (us := [(.bool false), (.int .i64 ((bpT ta a b).f)), (.int .i64 ((bpT tb ((bpT ta a b).L) ((bpT ta a b).F)).l))]) rfl rfl rfl rfl fun es cM dQ => ?_
  have jV := dQ.size
  have E := E.step dQ (oneL (by omega))
  replace cM : Blk es aW 91 [(.bool false), (.int .i64 ((bpT ta a b).f)), (.int .i64 ((bpT tb ((bpT ta a b).L) ((bpT ta a b).F)).l))] := cM
  refine Zf (Zb (il _ _ ?_))
  refine Zr (Ya (Zl ?_))
  have io := (((de.ch0 bm).ch bn (ne1 (by omega))).ch dQ (ne1 (by omega)))
  have ip := (((a3.ch0 bm).ch bn (dS G S (by omega))).ch dQ (fun g hg hm => by have r := mSg.1 hm; exact a5 (by first | exact hg | exact r ▸ hg)))
  have fg : Ol ics 3 1 es (.slice x (((bpT tb ((bpT ta a b).L) ((bpT ta a b).F)).L)).length y) ((bpT t a b).L) := by
   have hx := ip
   exact hx.eq (by rw [eb] <;> first | rfl | exact rbA e | exact rbB e | exact rbC e | exact rbD e | exact rbE e | (rw [e]; simp; done) | exact rbA c | exact rbB c | exact rbC c | exact rbD c | exact rbE c | (rw [c]; simp; done) | (rw [hte]; done))
  have iq := (((a4.ch0 bm).ch bn (dS H T (by omega))).ch dQ (fun g hg hm => by have r := mSg.1 hm; exact a6 (by first | exact hg | exact r ▸ hg)))
  have fh : Ol ics 3 1 es (.slice z (lkL ((bpT ta a b).l) ((bpT tb ((bpT ta a b).L) ((bpT ta a b).F)).f) ((bpT tb ((bpT ta a b).L) ((bpT ta a b).F)).F)).length A) ((bpT t a b).F) := by
   have hx := iq
   exact hx.eq (by rw [eb] <;> first | rfl | exact rbA e | exact rbB e | exact rbC e | exact rbD e | exact rbE e | (rw [e]; simp; done) | exact rbA c | exact rbB c | exact rbC c | exact rbD c | exact rbE c | (rw [c]; simp; done) | (rw [hte]; done))
  have fi : Blk es b_p t_p [(.slice x (((bpT tb ((bpT ta a b).L) ((bpT ta a b).F)).L)).length y), .int .i64 bs, .int .i64 bu, (.slice z (lkL ((bpT ta a b).l) ((bpT tb ((bpT ta a b).L) ((bpT ta a b).F)).f) ((bpT tb ((bpT ta a b).L) ((bpT ta a b).F)).F)).length A), .bool bv] := by
   have hx := io
   exact hx
  exact Zi [_] (Zu cM rfl agg91 sz91 trivial) ⟨(.slice x (((bpT tb ((bpT ta a b).L) ((bpT ta a b).F)).L)).length y), (.slice z (lkL ((bpT ta a b).l) ((bpT tb ((bpT ta a b).L) ((bpT ta a b).F)).f) ((bpT tb ((bpT ta a b).L) ((bpT ta a b).F)).F)).length A), (((congrArg (fun zq => (Value.agg #[.bool zq, .int .i64 ((bpT ta a b).f), .int .i64 ((bpT tb ((bpT ta a b).L) ((bpT ta a b).F)).l)])) (by rw [eb] <;> first | rfl | exact rbA e | exact rbB e | exact rbC e | exact rbD e | exact rbE e | (rw [e]; simp; done) | exact rbA c | exact rbB c | exact rbC c | exact rbD c | exact rbE c | (rw [c]; simp; done) | (rw [hte]; done))).trans (congrArg (fun zq => (Value.agg #[.bool ((bpT t a b).n), .int .i64 zq, .int .i64 ((bpT tb ((bpT ta a b).L) ((bpT ta a b).F)).l)])) (by rw [eb] <;> first | rfl | exact rbA e | exact rbB e | exact rbC e | exact rbD e | exact rbE e | (rw [e]; simp; done) | exact rbA c | exact rbB c | exact rbC c | exact rbD c | exact rbE c | (rw [c]; simp; done) | (rw [hte]; done)))).trans (congrArg (fun zq => (Value.agg #[.bool ((bpT t a b).n), .int .i64 ((bpT t a b).f), .int .i64 zq])) (by rw [eb] <;> first | rfl | exact rbA e | exact rbB e | exact rbC e | exact rbD e | exact rbE e | (rw [e]; simp; done) | exact rbA c | exact rbB c | exact rbC c | exact rbD c | exact rbE c | (rw [c]; simp; done) | (rw [hte]; done)))), fi, fg, b4, s, fh, b5, u, D, E⟩
 have hn := cB
 have cB := Ye cB
 refine Zg fun mr ir => ?_
 refine Zc (Za rfl rfl (Xj rfl rfl) (Za rfl rfl (Zd rfl) (Zf (Zb (ir _ _ ?_)))))
 refine Zp rfl (fun bK => ?_) (fun bK => ?_)
 ·have gu := bK
  have bK := Yf bK
  obtain ⟨ta, tb, et, oa, ob, hla, jB⟩ := hok.k2 (by omega) eQ hl
  have dz : t.kids[0]? = some ta := by rw [et]; rfl
  have eX : t.kids[1]? = some tb := by rw [et]; rfl
  have ga := ta.flat_len
  have gb := tb.flat_len
  have za := Zdj ta a b
  have zb := Zdj tb (bpT ta a b).L (bpT ta a b).F
  have eb := bp5 (L := a) (F := b) hok (by omega) dz eX
  refine Zg fun ms it => ?_
  refine Zc (Za rfl rfl (Ze rfl) (Za rfl rfl (Ze rfl) (Zk rfl rfl ?_)))
  have gv := ((F5.ch0 C6).ch C7 (tfr1 (by omega)))
  refine (Zgg (ys := (ta.flat ++ tb.flat)) 0 ((((l.length : Nat) : Int) - 1).toNat) gv Token.len el42 sz84 rfl rfl ⟨_, _, rfl, by omega⟩ (by omega) (by omega) (show l.take _ = _ from Zij hla (by omega)) fun jW dR iu iv => ?_)
  obtain ⟨jX, jY, gw⟩ := dR.val
  subst gw
  have jZ := dR.len
  refine Zk rfl rfl ?_
  refine Step.call (Zn (xs := [.tmp 114]) fk106 rfl) (Zad dR ta.flat tb ob rfl) fun j0 mt gx => ?_
  obtain ⟨rfl, cm⟩ := gx
  have j1 := cm.size
  have E := E.trans cm.of_nil
  refine Za rfl rfl (Zd rfl) (Zf (Zb (it _ _ ?_)))
  refine Zg fun mu iw => ?_
  refine Zc (Za rfl rfl (Ze rfl) (Za rfl rfl (Ze rfl) (Za rfl rfl (Ze rfl) (Zk rfl rfl ?_))))
  have gy := (gv.ch0 cm)
  refine (Zgg (ys := ta.flat) 0 ta.flat.length gy Token.len el42 sz84 rfl rfl ⟨_, _, rfl, by omega⟩ (by omega) (by omega) (show l.take _ = _ from Znm hla (by omega)) fun j2 dU ix iy => ?_)
  obtain ⟨j3, j4, gz⟩ := dU.val
  subst gz
  have j5 := dU.len
  refine Zk rfl rfl ?_
  have iz := ((((m_p.ch0 C2).ch0 C6).ch C7 (ne1 (by omega))).ch0 cm)
  have iA := ((((aU.ch0 C2).ch0 C6).ch C7 (dS k o (by omega))).ch0 cm)
  have iB := ((((aV.ch0 C2).ch0 C6).ch C7 (dS m p (by omega))).ch0 cm)
  refine Step.call (Zn (xs := [.tmp 116, .tmp 119]) fk67 rfl) (ih iz (by omega) iA I (Lo.down k (by omega)) iB Z (Lo.down m (by omega)) q dU ta oa rfl (by omega) ⟨by omega, by omega⟩ (L_p := L_p) (by omega)) fun j6 iC gA => ?_
  obtain ⟨gU, gV, rfl, dW, cn, aK, ao, co, aL, ap, bp, dX⟩ := gA
  have j7 := dX.size
  have E := E.step dX (fun i hm => by rcases List.mem_cons.1 hm with r | hm; (right; exact r ▸ List.mem_cons_self ..); (rcases List.mem_append.1 hm with hm | hm; (exact (.inr (mCo _ (mAL _ hm)))); (exact (.inr (mCo _ (mAR _ hm))))))
  obtain ⟨c2, c3, rfl, gW, a7⟩ := cn.opn
  have J : Lo L_p (.slice c2 ((bpT ta a b).L).length c3) := Zea aK ao (by omega) (all2 k m)
  obtain ⟨c4, c5, rfl, gX, a8⟩ := co.opn
  have K : Lo L_p (.slice c4 ((bpT ta a b).F).length c5) := Zea aL ap (by omega) (all2 k m)
  have aM := Qa aK ao (show aW < _ by omega) (nin2 (Xy k o (by omega)) (Xy m p (by omega)))
  have bT := Qa aK ao (show cy < _ by omega) (nin2 (Xy k o (by omega)) (Xy m p (by omega)))
  have b9 := Zbx E aK ao (by omega) (all2 (fun g hm => (.inr (mCo _ (mAL _ hm)))) (fun g hm => (.inr (mCo _ (mAR _ hm)))))
  have aN := Qa aL ap (show aW < _ by omega) (nin2 (Xy k o (by omega)) (Xy m p (by omega)))
  have bU := Qa aL ap (show cy < _ by omega) (nin2 (Xy k o (by omega)) (Xy m p (by omega)))
  have ca := Zbx E aL ap (by omega) (all2 (fun g hm => (.inr (mCo _ (mAL _ hm)))) (fun g hm => (.inr (mCo _ (mAR _ hm)))))
  replace dW : Blk iC b_p t_p [(.slice c2 ((bpT ta a b).L).length c3), (.int .i64 bs), (.int .i64 bu), (.slice c4 ((bpT ta a b).F).length c5), (.bool bv)] := dW
  refine Zk rfl rfl ?_
  refine Yp zr91 fun eu iD ew cp mv => ?_
  have j8 := cp.size
  have E := E.trans cp.of_nil
  have mw := ew.lt
  replace ew : Blk iD eu 91 [(.bool false), (.int .i64 0), (.int .i64 0)] := ew
  refine Zk rfl rfl ?_
  refine Zt (off := 0) 3 ew sz91 rfl (us := [(.bool ((bpT ta a b).n)), (.int .i64 ((bpT ta a b).f)), (.int .i64 ((bpT ta a b).l))]) rfl rfl rfl rfl fun iE cN cq => ?_
  have j9 := cq.size
  have E := E.step cq (oneL (by omega))
  replace cN : Blk iE eu 91 [(.bool ((bpT ta a b).n)), (.int .i64 ((bpT ta a b).f)), (.int .i64 ((bpT ta a b).l))] := cN
  refine Zf (Zb (iw _ _ ?_))
  refine Zg fun mx iF => ?_
  refine Zc (Za rfl rfl (Ze rfl) (Za rfl rfl (Ze rfl) (Za rfl rfl (Ze rfl) (Za rfl rfl (Ze rfl) (Zk rfl rfl ?_)))))
  have iG := (((gy.ch dX (lwr3 (by omega) k (by omega) m (by omega))).ch0 cp).ch cq (tfr1 (by omega)))
  refine (Zgg (ys := tb.flat) ta.flat.length ((((l.length : Nat) : Int) - 1).toNat) iG Token.len el42 sz84 rfl ⟨_, _, rfl, by omega⟩ ⟨_, _, rfl, by omega⟩ (by omega) (by omega) (Zni hla (by omega) (by omega)) fun ka dY iH iI => ?_)
  obtain ⟨kb, kc, gB⟩ := dY.val
  subst gB
  have kd := dY.len
  refine Zk rfl rfl ?_
  have iJ := ((dW.ch0 cp).ch cq (ne1 (by omega)))
  have iK := ((cn.ch0 cp).ch cq (dS J a7 (by omega)))
  have iL := ((co.ch0 cp).ch cq (dS K a8 (by omega)))
  refine Step.call (Zn (xs := [.tmp 121, .tmp 125]) fk67 rfl) (ih iJ (by omega) iK ao (Lo.down J (by omega)) iL ap (Lo.down K (by omega)) bp dY tb ob rfl (by omega) ⟨by omega, by omega⟩ (L_p := L_p) (by omega)) fun ke iM gC => ?_
  obtain ⟨gY, gZ, rfl, c6, bL, aq, B, bM, au, C, aD, dZ⟩ := gC
  have kf := dZ.size
  have E := E.step dZ (fun i hm => by rcases List.mem_cons.1 hm with r | hm; (right; exact r ▸ List.mem_cons_self ..); (rcases List.mem_append.1 hm with hm | hm; (exact (b9 _ hm)); (exact (ca _ hm))))
  obtain ⟨U, V, rfl, g0, cr⟩ := bL.opn
  have bV : Lo L_p (.slice U ((bpT tb ((bpT ta a b).L) ((bpT ta a b).F)).L).length V) := Zea aq B (by omega) (all2 J K)
  obtain ⟨X, Y, rfl, g1, ct⟩ := bM.opn
  have bW : Lo L_p (.slice X ((bpT tb ((bpT ta a b).L) ((bpT ta a b).F)).F).length Y) := Zea au C (by omega) (all2 J K)
  have bX := Qa aq B (show aW < _ by omega) (nin2 aM aN)
  have fE := Qa aq B (show cy < _ by omega) (nin2 bT bU)
  have fj := Qa aq B (show eu < _ by omega) (nin2 (Xy J a7 (by omega)) (Xy K a8 (by omega)))
  have c7 := Zbx E aq B (by omega) (all2 (fun g hm => (b9 _ hm)) (fun g hm => (ca _ hm)))
  have bY := Qa au C (show aW < _ by omega) (nin2 aM aN)
  have fF := Qa au C (show cy < _ by omega) (nin2 bT bU)
  have fk := Qa au C (show eu < _ by omega) (nin2 (Xy J a7 (by omega)) (Xy K a8 (by omega)))
  have c8 := Zbx E au C (by omega) (all2 (fun g hm => (b9 _ hm)) (fun g hm => (ca _ hm)))
  replace c6 : Blk iM b_p t_p [(.slice U ((bpT tb ((bpT ta a b).L) ((bpT ta a b).F)).L).length V), (.int .i64 bs), (.int .i64 bu), (.slice X ((bpT tb ((bpT ta a b).L) ((bpT ta a b).F)).F).length Y), (.bool bv)] := c6
  refine Zk rfl rfl ?_
  refine Yp zr91 fun gD iN ex bN my => ?_
  have kg := bN.size
  have E := E.trans bN.of_nil
  have mz := ex.lt
  replace ex : Blk iN gD 91 [(.bool false), (.int .i64 0), (.int .i64 0)] := ex
  refine Zk rfl rfl ?_
  refine Zt (off := 0) 3 ex sz91 rfl (us := [(.bool ((bpT tb ((bpT ta a b).L) ((bpT ta a b).F)).n)), (.int .i64 ((bpT tb ((bpT ta a b).L) ((bpT ta a b).F)).f)), (.int .i64 ((bpT tb ((bpT ta a b).L) ((bpT ta a b).F)).l))]) rfl rfl rfl rfl fun iO aR bO => ?_
  have kh := bO.size
  have E := E.step bO (oneL (by omega))
  replace aR : Blk iO gD 91 [(.bool ((bpT tb ((bpT ta a b).L) ((bpT ta a b).F)).n)), (.int .i64 ((bpT tb ((bpT ta a b).L) ((bpT ta a b).F)).f)), (.int .i64 ((bpT tb ((bpT ta a b).L) ((bpT ta a b).F)).l))] := aR
  refine Zf (Zb (iF _ _ ?_))
  refine Zg fun mA gE => ?_
  refine Zc (Za rfl rfl (Zh fa91_0 rfl) ?_)
  have d0 := (((cN.ch dZ (nin3 (by omega) (Zbk a7 (by omega)) (Zbk a8 (by omega)))).ch0 bN).ch bO (ne1 (by omega)))
  refine Za rfl rfl (Zm d0.at_ agg4 rfl rfl) (Za rfl rfl (Ze rfl) ?_)
  refine Yn (d := 129) rfl (fun h => ?_) (fun h => ?_)
  ·have gF := h
   refine Zj rfl rfl (Zj rfl rfl (Za rfl rfl (Yi rfl rfl) (Za rfl rfl (Zh fa91_1 rfl) (Za rfl rfl (Zm d0.at_ agg3 rfl rfl) (Za rfl rfl (Zh fa91_1 rfl) (Za rfl rfl (Zm aR.at_ agg3 rfl rfl) (Za rfl rfl (r_or rfl rfl) ?_)))))))
   refine Za rfl rfl (Zh fa91_2 rfl) (Za rfl rfl (Zm d0.at_ agg3 rfl rfl) (Za rfl rfl (Zh fa91_2 rfl) (Za rfl rfl (Zm aR.at_ agg3 rfl rfl) (Za rfl rfl (r_or rfl rfl) (Za rfl rfl (Yr (parts := [(0, .tmp 132), (1, .tmp 137), (2, .tmp 142)]) (cells := [(.bool true), (.int .i64 (ior ((bpT ta a b).f) ((bpT tb ((bpT ta a b).L) ((bpT ta a b).F)).f))), (.int .i64 (ior ((bpT ta a b).l) ((bpT tb ((bpT ta a b).L) ((bpT ta a b).F)).l)))]) zr91 pl91 rfl rfl) (Zk rfl rfl ?_))))))
   have iP := (((((((((cS.ch0 C6).ch C7 (ne1 (by omega))).ch0 cm).ch dX (nin3 (by omega) (Zbk o (by omega)) (Zbk p (by omega)))).ch0 cp).ch cq (ne1 (by omega))).ch dZ (nin3 (by omega) aM aN)).ch0 bN).ch bO (ne1 (by omega)))
   refine Zt (off := 0) 3 iP sz91 rfl (us := [(.bool true), (.int .i64 (ior ((bpT ta a b).f) ((bpT tb ((bpT ta a b).L) ((bpT ta a b).F)).f))), (.int .i64 (ior ((bpT ta a b).l) ((bpT tb ((bpT ta a b).L) ((bpT ta a b).F)).l)))]) rfl rfl rfl rfl fun ey cO d1 => ?_
   have ki := d1.size
   have E := E.step d1 (oneL (by omega))
   replace cO : Blk ey aW 91 [(.bool true), (.int .i64 (ior ((bpT ta a b).f) ((bpT tb ((bpT ta a b).L) ((bpT ta a b).F)).f))), (.int .i64 (ior ((bpT ta a b).l) ((bpT tb ((bpT ta a b).L) ((bpT ta a b).F)).l)))] := cO
   refine Zf (Zb (gE _ _ ?_))
   refine Zr (Ya (Zl ?_))
   have iQ := (((c6.ch0 bN).ch bO (ne1 (by omega))).ch d1 (ne1 (by omega)))
   have iR := (((bL.ch0 bN).ch bO (dS bV cr (by omega))).ch d1 (fun g hg hm => by have r := mSg.1 hm; exact bX (by first | exact hg | exact r ▸ hg)))
   have fl : Ol ics 3 1 ey (.slice U ((bpT tb ((bpT ta a b).L) ((bpT ta a b).F)).L).length V) ((bpT t a b).L) := by
    have hx := iR
    exact hx.eq (by rw [eb] <;> first | rfl | exact rbA h | exact rbB h | exact rbC h | exact rbD h | exact rbE h | (rw [h]; simp; done) | (rw [hte]; done))
   have iS := (((bM.ch0 bN).ch bO (dS bW ct (by omega))).ch d1 (fun g hg hm => by have r := mSg.1 hm; exact bY (by first | exact hg | exact r ▸ hg)))
   have fm : Ol ics 3 1 ey (.slice X ((bpT tb ((bpT ta a b).L) ((bpT ta a b).F)).F).length Y) ((bpT t a b).F) := by
    have hx := iS
    exact hx.eq (by rw [eb] <;> first | rfl | exact rbA h | exact rbB h | exact rbC h | exact rbD h | exact rbE h | (rw [h]; simp; done) | (rw [hte]; done))
   have fn : Blk ey b_p t_p [(.slice U ((bpT tb ((bpT ta a b).L) ((bpT ta a b).F)).L).length V), .int .i64 bs, .int .i64 bu, (.slice X ((bpT tb ((bpT ta a b).L) ((bpT ta a b).F)).F).length Y), .bool bv] := by
    have hx := iQ
    exact hx
   exact Zi [_] (Zu cO rfl agg91 sz91 trivial) ⟨(.slice U ((bpT tb ((bpT ta a b).L) ((bpT ta a b).F)).L).length V), (.slice X ((bpT tb ((bpT ta a b).L) ((bpT ta a b).F)).F).length Y), (((congrArg (fun zq => (Value.agg #[.bool zq, .int .i64 (ior ((bpT ta a b).f) ((bpT tb ((bpT ta a b).L) ((bpT ta a b).F)).f)), .int .i64 (ior ((bpT ta a b).l) ((bpT tb ((bpT ta a b).L) ((bpT ta a b).F)).l))])) (by rw [eb] <;> first | rfl | exact rbA h | exact rbB h | exact rbC h | exact rbD h | exact rbE h | (rw [h]; simp; done) | (rw [hte]; done))).trans (congrArg (fun zq => (Value.agg #[.bool ((bpT t a b).n), .int .i64 zq, .int .i64 (ior ((bpT ta a b).l) ((bpT tb ((bpT ta a b).L) ((bpT ta a b).F)).l))])) (by rw [eb] <;> first | rfl | exact rbA h | exact rbB h | exact rbC h | exact rbD h | exact rbE h | (rw [h]; simp; done) | (rw [hte]; done)))).trans (congrArg (fun zq => (Value.agg #[.bool ((bpT t a b).n), .int .i64 ((bpT t a b).f), .int .i64 zq])) (by rw [eb] <;> first | rfl | exact rbA h | exact rbB h | exact rbC h | exact rbD h | exact rbE h | (rw [h]; simp; done) | (rw [hte]; done)))), fn, fl, c7, B, fm, c8, C, aD, E⟩
  have gF := h
  refine Za rfl rfl (Zh fa91_0 rfl) (Za rfl rfl (Zm aR.at_ agg4 rfl rfl) (Za rfl rfl (Ym rfl rfl) (Za rfl rfl (Zh fa91_1 rfl) (Za rfl rfl (Zm d0.at_ agg3 rfl rfl) (Za rfl rfl (Zh fa91_1 rfl) (Za rfl rfl (Zm aR.at_ agg3 rfl rfl) (Za rfl rfl (r_or rfl rfl) ?_)))))))
  refine Za rfl rfl (Zh fa91_2 rfl) (Za rfl rfl (Zm d0.at_ agg3 rfl rfl) (Za rfl rfl (Zh fa91_2 rfl) (Za rfl rfl (Zm aR.at_ agg3 rfl rfl) (Za rfl rfl (r_or rfl rfl) (Za rfl rfl (Yr (parts := [(0, .tmp 132), (1, .tmp 137), (2, .tmp 142)]) (cells := [(.bool ((bpT tb ((bpT ta a b).L) ((bpT ta a b).F)).n)), (.int .i64 (ior ((bpT ta a b).f) ((bpT tb ((bpT ta a b).L) ((bpT ta a b).F)).f))), (.int .i64 (ior ((bpT ta a b).l) ((bpT tb ((bpT ta a b).L) ((bpT ta a b).F)).l)))]) zr91 pl91 rfl rfl) (Zk rfl rfl ?_))))))
  have iT := (((((((((cS.ch0 C6).ch C7 (ne1 (by omega))).ch0 cm).ch dX (nin3 (by omega) (Zbk o (by omega)) (Zbk p (by omega)))).ch0 cp).ch cq (ne1 (by omega))).ch dZ (nin3 (by omega) aM aN)).ch0 bN).ch bO (ne1 (by omega)))
  refine Zt (off := 0) 3 iT sz91 rfl (us := [(.bool ((bpT tb ((bpT ta a b).L) ((bpT ta a b).F)).n)), (.int .i64 (ior ((bpT ta a b).f) ((bpT tb ((bpT ta a b).L) ((bpT ta a b).F)).f))), (.int .i64 (ior ((bpT ta a b).l) ((bpT tb ((bpT ta a b).L) ((bpT ta a b).F)).l)))]) rfl rfl rfl rfl fun ez cP d2 => ?_
  have kj := d2.size
  have E := E.step d2 (oneL (by omega))
  replace cP : Blk ez aW 91 [(.bool ((bpT tb ((bpT ta a b).L) ((bpT ta a b).F)).n)), (.int .i64 (ior ((bpT ta a b).f) ((bpT tb ((bpT ta a b).L) ((bpT ta a b).F)).f))), (.int .i64 (ior ((bpT ta a b).l) ((bpT tb ((bpT ta a b).L) ((bpT ta a b).F)).l)))] := cP
  refine Zf (Zb (gE _ _ ?_))
  refine Zr (Ya (Zl ?_))
  have iU := (((c6.ch0 bN).ch bO (ne1 (by omega))).ch d2 (ne1 (by omega)))
  have iV := (((bL.ch0 bN).ch bO (dS bV cr (by omega))).ch d2 (fun g hg hm => by have r := mSg.1 hm; exact bX (by first | exact hg | exact r ▸ hg)))
  have fo : Ol ics 3 1 ez (.slice U ((bpT tb ((bpT ta a b).L) ((bpT ta a b).F)).L).length V) ((bpT t a b).L) := by
   have hx := iV
   exact hx.eq (by rw [eb] <;> first | rfl | exact rbA h | exact rbB h | exact rbC h | exact rbD h | exact rbE h | (rw [h]; simp; done) | (rw [hte]; done))
  have iW := (((bM.ch0 bN).ch bO (dS bW ct (by omega))).ch d2 (fun g hg hm => by have r := mSg.1 hm; exact bY (by first | exact hg | exact r ▸ hg)))
  have fp : Ol ics 3 1 ez (.slice X ((bpT tb ((bpT ta a b).L) ((bpT ta a b).F)).F).length Y) ((bpT t a b).F) := by
   have hx := iW
   exact hx.eq (by rw [eb] <;> first | rfl | exact rbA h | exact rbB h | exact rbC h | exact rbD h | exact rbE h | (rw [h]; simp; done) | (rw [hte]; done))
  have fq : Blk ez b_p t_p [(.slice U ((bpT tb ((bpT ta a b).L) ((bpT ta a b).F)).L).length V), .int .i64 bs, .int .i64 bu, (.slice X ((bpT tb ((bpT ta a b).L) ((bpT ta a b).F)).F).length Y), .bool bv] := by
   have hx := iU
   exact hx
  exact Zi [_] (Zu cP rfl agg91 sz91 trivial) ⟨(.slice U ((bpT tb ((bpT ta a b).L) ((bpT ta a b).F)).L).length V), (.slice X ((bpT tb ((bpT ta a b).L) ((bpT ta a b).F)).F).length Y), (((congrArg (fun zq => (Value.agg #[.bool zq, .int .i64 (ior ((bpT ta a b).f) ((bpT tb ((bpT ta a b).L) ((bpT ta a b).F)).f)), .int .i64 (ior ((bpT ta a b).l) ((bpT tb ((bpT ta a b).L) ((bpT ta a b).F)).l))])) (by rw [eb] <;> first | rfl | exact rbA h | exact rbB h | exact rbC h | exact rbD h | exact rbE h | (rw [h]; simp; done) | (rw [hte]; done))).trans (congrArg (fun zq => (Value.agg #[.bool ((bpT t a b).n), .int .i64 zq, .int .i64 (ior ((bpT ta a b).l) ((bpT tb ((bpT ta a b).L) ((bpT ta a b).F)).l))])) (by rw [eb] <;> first | rfl | exact rbA h | exact rbB h | exact rbC h | exact rbD h | exact rbE h | (rw [h]; simp; done) | (rw [hte]; done)))).trans (congrArg (fun zq => (Value.agg #[.bool ((bpT t a b).n), .int .i64 ((bpT t a b).f), .int .i64 zq])) (by rw [eb] <;> first | rfl | exact rbA h | exact rbB h | exact rbC h | exact rbD h | exact rbE h | (rw [h]; simp; done) | (rw [hte]; done)))), fq, fo, c7, B, fp, c8, C, aD, E⟩
 have gu := bK
 have bK := Ye bK
 refine Zg fun mB iX => ?_
 refine Zc (Za rfl rfl (Xj rfl rfl) (Za rfl rfl (Zd rfl) (Zf (Zb (iX _ _ ?_)))))
 refine Zp rfl (fun bP => ?_) (fun bP => ?_)
 ·have gG := bP
  have bP := Yf bP
  obtain ⟨ta, et, oa, hla, jB⟩ := hok.k1 (by omega) eQ hl
  have dz : t.kids[0]? = some ta := by rw [et]; rfl
  have ga := ta.flat_len
  have za := Zdj ta a b
  have eb := bp6 (L := a) (F := b) hok (by omega) dz
  refine Zg fun mC iY => ?_
  refine Zc (Za rfl rfl (Ze rfl) (Za rfl rfl (Ze rfl) (Za rfl rfl (Ze rfl) (Zk rfl rfl ?_))))
  have iZ := ((F5.ch0 C6).ch C7 (tfr1 (by omega)))
  refine (Zgg (ys := ta.flat) 0 ((((l.length : Nat) : Int) - 1).toNat) iZ Token.len el42 sz84 rfl rfl ⟨_, _, rfl, by omega⟩ (by omega) (by omega) (show l.take _ = _ from Zny hla (by omega)) fun kk d3 i0 i1 => ?_)
  obtain ⟨kl, km, gH⟩ := d3.val
  subst gH
  have kn := d3.len
  refine Zk rfl rfl ?_
  have i2 := (((m_p.ch0 C2).ch0 C6).ch C7 (ne1 (by omega)))
  have i3 := (((aU.ch0 C2).ch0 C6).ch C7 (dS k o (by omega)))
  have i4 := (((aV.ch0 C2).ch0 C6).ch C7 (dS m p (by omega)))
  refine Step.call (Zn (xs := [.tmp 146, .tmp 149]) fk67 rfl) (ih i2 (by omega) i3 I (Lo.down k (by omega)) i4 Z (Lo.down m (by omega)) q d3 ta oa rfl (by omega) ⟨by omega, by omega⟩ (L_p := L_p) (by omega)) fun ko i5 gI => ?_
  obtain ⟨g2, g3, rfl, d4, cu, aO, av, cv, aP, aw, bq, fr⟩ := gI
  have kp := fr.size
  have E := E.step fr (fun i hm => by rcases List.mem_cons.1 hm with r | hm; (right; exact r ▸ List.mem_cons_self ..); (rcases List.mem_append.1 hm with hm | hm; (exact (.inr (mCo _ (mAL _ hm)))); (exact (.inr (mCo _ (mAR _ hm))))))
  obtain ⟨c9, da, rfl, g4, a9⟩ := cu.opn
  have M : Lo L_p (.slice c9 ((bpT ta a b).L).length da) := Zea aO av (by omega) (all2 k m)
  obtain ⟨db, dc, rfl, g5, ba⟩ := cv.opn
  have O : Lo L_p (.slice db ((bpT ta a b).F).length dc) := Zea aP aw (by omega) (all2 k m)
  have bg := Qa aO av (show aW < _ by omega) (nin2 (Xy k o (by omega)) (Xy m p (by omega)))
  have bZ := Qa aO av (show cy < _ by omega) (nin2 (Xy k o (by omega)) (Xy m p (by omega)))
  have cb := Zbx E aO av (by omega) (all2 (fun g hm => (.inr (mCo _ (mAL _ hm)))) (fun g hm => (.inr (mCo _ (mAR _ hm)))))
  have bh := Qa aP aw (show aW < _ by omega) (nin2 (Xy k o (by omega)) (Xy m p (by omega)))
  have b0 := Qa aP aw (show cy < _ by omega) (nin2 (Xy k o (by omega)) (Xy m p (by omega)))
  have cc := Zbx E aP aw (by omega) (all2 (fun g hm => (.inr (mCo _ (mAL _ hm)))) (fun g hm => (.inr (mCo _ (mAR _ hm)))))
  replace d4 : Blk i5 b_p t_p [(.slice c9 ((bpT ta a b).L).length da), (.int .i64 bs), (.int .i64 bu), (.slice db ((bpT ta a b).F).length dc), (.bool bv)] := d4
  refine Zk rfl rfl ?_
  refine Yp zr91 fun eA i6 eB dh mD => ?_
  have kq := dh.size
  have E := E.trans dh.of_nil
  have mE := eB.lt
  replace eB : Blk i6 eA 91 [(.bool false), (.int .i64 0), (.int .i64 0)] := eB
  refine Zk rfl rfl ?_
  refine Zt (off := 0) 3 eB sz91 rfl (us := [(.bool ((bpT ta a b).n)), (.int .i64 ((bpT ta a b).f)), (.int .i64 ((bpT ta a b).l))]) rfl rfl rfl rfl fun i7 bQ di => ?_
  have kr := di.size
  have E := E.step di (oneL (by omega))
  replace bQ : Blk i7 eA 91 [(.bool ((bpT ta a b).n)), (.int .i64 ((bpT ta a b).f)), (.int .i64 ((bpT ta a b).l))] := bQ
  refine Zf (Zb (iY _ _ ?_))
  refine Zg fun mF i8 => ?_
  refine Zc (Za rfl rfl (Ze rfl) (Za rfl rfl (Zh fa91_2 rfl) (Za rfl rfl (Zm bQ.at_ agg3 rfl rfl) (Za rfl rfl (Zh fa91_1 rfl) (Za rfl rfl (Zm bQ.at_ agg3 rfl rfl) (Zk rfl rfl ?_))))))
  have i9 := ((d4.ch0 dh).ch di (ne1 (by omega)))
  have ja := ((cu.ch0 dh).ch di (dS M a9 (by omega)))
  have jb := ((cv.ch0 dh).ch di (dS O ba (by omega)))
  refine Step.call (Zn (xs := [.tmp 151, .tmp 153, .tmp 155]) fk107 rfl) (Zed i9 (by omega) ja av (Lo.down M (by omega)) jb aw (Lo.down O (by omega)) bq _ _ (by omega) (L_p := L_p)) fun ks jc gJ => ?_
  obtain ⟨g6, g7, rfl, d5, cw, ax, P, cx, ay, Q, br, eC⟩ := gJ
  have kt := eC.size
  have E := E.step eC (fun i hm => by rcases List.mem_cons.1 hm with r | hm; (right; exact r ▸ List.mem_cons_self ..); (rcases List.mem_append.1 hm with hm | hm; (exact (cb _ hm)); (exact (cc _ hm))))
  obtain ⟨bb, bc, rfl, g8, gK⟩ := cw.opn
  have fG : Lo L_p (.slice bb (((bpT ta a b).L)).length bc) := Zea ax P (by omega) (all2 M O)
  obtain ⟨bd, be, rfl, g9, gL⟩ := cx.opn
  have fH : Lo L_p (.slice bd (lkL ((bpT ta a b).l) ((bpT ta a b).f) ((bpT ta a b).F)).length be) := Zea ay Q (by omega) (all2 M O)
  have dj := Qa ax P (show aW < _ by omega) (nin2 bg bh)
  have fI := Qa ax P (show cy < _ by omega) (nin2 bZ b0)
  have fs := Qa ax P (show eA < _ by omega) (nin2 (Xy M a9 (by omega)) (Xy O ba (by omega)))
  have eD := Zbx E ax P (by omega) (all2 (fun g hm => (cb _ hm)) (fun g hm => (cc _ hm)))
  have dk := Qa ay Q (show aW < _ by omega) (nin2 bg bh)
  have fJ := Qa ay Q (show cy < _ by omega) (nin2 bZ b0)
  have ft := Qa ay Q (show eA < _ by omega) (nin2 (Xy M a9 (by omega)) (Xy O ba (by omega)))
  have eE := Zbx E ay Q (by omega) (all2 (fun g hm => (cb _ hm)) (fun g hm => (cc _ hm)))
  replace d5 : Blk jc b_p t_p [(.slice bb (((bpT ta a b).L)).length bc), (.int .i64 bs), (.int .i64 bu), (.slice bd (lkL ((bpT ta a b).l) ((bpT ta a b).f) ((bpT ta a b).F)).length be), (.bool bv)] := d5
  refine Zf (Zb (i8 _ _ ?_))
  refine Zg fun mG jd => ?_
  refine Zc (Za rfl rfl (Zh fa91_1 rfl) ?_)
  have gM := (bQ.ch eC (nin3 (by omega) (Zbk a9 (by omega)) (Zbk ba (by omega))))
  refine Za rfl rfl (Zm gM.at_ agg3 rfl rfl) (Za rfl rfl (Zh fa91_2 rfl) (Za rfl rfl (Zm gM.at_ agg3 rfl rfl) (Za rfl rfl (Yr (parts := [(0, .const (Go.Value.bool true)), (1, .tmp 158), (2, .tmp 160)]) (cells := [(.bool true), (.int .i64 ((bpT ta a b).f)), (.int .i64 ((bpT ta a b).l))]) zr91 pl91 rfl rfl) (Zk rfl rfl ?_))))
  have je := ((((((cS.ch0 C6).ch C7 (ne1 (by omega))).ch fr (nin3 (by omega) (Zbk o (by omega)) (Zbk p (by omega)))).ch0 dh).ch di (ne1 (by omega))).ch eC (nin3 (by omega) bg bh))
  refine Zt (off := 0) 3 je sz91 rfl (us := [(.bool true), (.int .i64 ((bpT ta a b).f)), (.int .i64 ((bpT ta a b).l))]) rfl rfl rfl rfl fun eF cQ d6 => ?_
  have ku := d6.size
  have E := E.step d6 (oneL (by omega))
  replace cQ : Blk eF aW 91 [(.bool true), (.int .i64 ((bpT ta a b).f)), (.int .i64 ((bpT ta a b).l))] := cQ
  refine Zf (Zb (jd _ _ ?_))
  refine Zr (Ya (Zl ?_))
  have jf := (d5.ch d6 (ne1 (by omega)))
  have jg := (cw.ch d6 (fun g hg hm => by have r := mSg.1 hm; exact dj (by first | exact hg | exact r ▸ hg)))
  have fu : Ol ics 3 1 eF (.slice bb (((bpT ta a b).L)).length bc) ((bpT t a b).L) := by
   have hx := jg
   exact hx.eq (by rw [eb] <;> first | rfl | (rw [hte]; done))
  have jh := (cx.ch d6 (fun g hg hm => by have r := mSg.1 hm; exact dk (by first | exact hg | exact r ▸ hg)))
  have fv : Ol ics 3 1 eF (.slice bd (lkL ((bpT ta a b).l) ((bpT ta a b).f) ((bpT ta a b).F)).length be) ((bpT t a b).F) := by
   have hx := jh
   exact hx.eq (by rw [eb] <;> first | rfl | (rw [hte]; done))
  have fw : Blk eF b_p t_p [(.slice bb (((bpT ta a b).L)).length bc), .int .i64 bs, .int .i64 bu, (.slice bd (lkL ((bpT ta a b).l) ((bpT ta a b).f) ((bpT ta a b).F)).length be), .bool bv] := by
   have hx := jf
   exact hx
  exact Zi [_] (Zu cQ rfl agg91 sz91 trivial) ⟨(.slice bb (((bpT ta a b).L)).length bc), (.slice bd (lkL ((bpT ta a b).l) ((bpT ta a b).f) ((bpT ta a b).F)).length be), (((congrArg (fun zq => (Value.agg #[.bool zq, .int .i64 ((bpT ta a b).f), .int .i64 ((bpT ta a b).l)])) (by rw [eb] <;> first | rfl | (rw [hte]; done))).trans (congrArg (fun zq => (Value.agg #[.bool ((bpT t a b).n), .int .i64 zq, .int .i64 ((bpT ta a b).l)])) (by rw [eb] <;> first | rfl | (rw [hte]; done)))).trans (congrArg (fun zq => (Value.agg #[.bool ((bpT t a b).n), .int .i64 ((bpT t a b).f), .int .i64 zq])) (by rw [eb] <;> first | rfl | (rw [hte]; done)))), fw, fu, eD, P, fv, eE, Q, br, E⟩
 have gG := bP
 have bP := Ye bP
 have eb := bp0 (t := t) (L := a) (F := b) ⟨by omega, by omega, by omega, by omega, by omega⟩
 refine Zq ?_
 refine Zv (Zb (H9 _ _ ?_))
 refine Zg fun mH ji => ?_
 refine Zc (Za rfl rfl (Yr (parts := []) (cells := [(.bool false), (.int .i64 0), (.int .i64 0)]) zr91 pl91 rfl rfl) (Zk rfl rfl ?_))
 have jj := ((cS.ch0 C6).ch C7 (ne1 (by omega)))
 refine Zt (off := 0) 3 jj sz91 rfl (us := [(.bool false), (.int .i64 0), (.int .i64 0)]) rfl rfl rfl rfl fun eG cR d7 => ?_
 have kv := d7.size
 have E := E.step d7 (oneL (by omega))
 replace cR : Blk eG aW 91 [(.bool false), (.int .i64 0), (.int .i64 0)] := cR
 refine Zf (Zb (ji _ _ ?_))
 refine Zr ?_
 have jk := ((((m_p.ch0 C2).ch0 C6).ch C7 (ne1 (by omega))).ch d7 (ne1 (by omega)))
 have jl := ((((aU.ch0 C2).ch0 C6).ch C7 (dS k o (by omega))).ch d7 (dS k o (by omega)))
 have fx : Ol ics 3 1 eG (.slice aa a.length ab) ((bpT t a b).L) := by
  have hx := jl
  exact hx.eq (by rw [eb] <;> first | rfl | (rw [hte]; done))
 have jm := ((((aV.ch0 C2).ch0 C6).ch C7 (dS m p (by omega))).ch d7 (dS m p (by omega)))
 have fy : Ol ics 3 1 eG (.slice aB b.length aC) ((bpT t a b).F) := by
  have hx := jm
  exact hx.eq (by rw [eb] <;> first | rfl | (rw [hte]; done))
 have fz : Blk eG b_p t_p [(.slice aa a.length ab), .int .i64 bs, .int .i64 bu, (.slice aB b.length aC), .bool bv] := by
  have hx := jk
  exact hx
 exact Zi [_] (Zu cR rfl agg91 sz91 trivial) ⟨(.slice aa a.length ab), (.slice aB b.length aC), (((congrArg (fun zq => (Value.agg #[.bool zq, .int .i64 0, .int .i64 0])) (by rw [eb] <;> first | rfl | (rw [hte]; done))).trans (congrArg (fun zq => (Value.agg #[.bool ((bpT t a b).n), .int .i64 zq, .int .i64 0])) (by rw [eb] <;> first | rfl | (rw [hte]; done)))).trans (congrArg (fun zq => (Value.agg #[.bool ((bpT t a b).n), .int .i64 ((bpT t a b).f), .int .i64 zq])) (by rw [eb] <;> first | rfl | (rw [hte]; done)))), fz, fx, (fun g hm => by exact (.inr (mCo _ (mAL _ hm)))), I, fy, (fun g hm => by exact (.inr (mCo _ (mAR _ hm)))), Z, q, E⟩
theorem Zhr {w : World} {b_p t_p L_p : Nat} {a : Value} {d : List Int} {y : Int} {z : Int} {b : Value} {e : List Int} {A : Bool} (m_p : Blk w b_p t_p [a, (.int .i64 y), (.int .i64 z), b, (.bool A)]) (m : L_p ≤ b_p) (o : Ol ics 3 1 w a d) (h : b_p ∉ bl a) (i : Lo L_p a) (p : Ol ics 3 1 w b e) (j : b_p ∉ bl b) (k : Lo L_p b) (c : ∀ g ∈ bl a, g ∉ bl b) {LL_l q : Nat} {r : Value} {l : List Token} (x : Ls Token.cs 4 w LL_l q r l) (t : Tr) (hok : Okd t) (hl : l = t.flat) (hbl : q ≤ L_p) (hb : d.length + l.length ≤ 100000 ∧ e.length + l.length ≤ 100000) :
 Ctr Try.prog 67 #[(.pointer (some ⟨b_p, 0, none⟩)), r] w (fun v w' => ∃ (s u : Value), v = .agg #[.bool ((bpT t d e).n), .int .i64 ((bpT t d e).f), .int .i64 ((bpT t d e).l)] ∧ Blk w' b_p t_p [s, .int .i64 y, .int .i64 z, u, .bool A] ∧ Ol ics 3 1 w' s ((bpT t d e).L) ∧ (∀ g ∈ bl s, w.heap.size ≤ g ∨ g ∈ (b_p :: (bl a ++ bl b))) ∧ b_p ∉ bl s ∧ Ol ics 3 1 w' u ((bpT t d e).F) ∧ (∀ g ∈ bl u, w.heap.size ≤ g ∨ g ∈ (b_p :: (bl a ++ bl b))) ∧ b_p ∉ bl u ∧ (∀ g ∈ bl s, g ∉ bl u) ∧ Ch (b_p :: (bl a ++ bl b)) w w') := Zfo _ m_p m o h i p j k c x t hok hl hbl hb (Nat.lt_succ_self _)

/-- spec.BuildPositions -/
theorem Zdu {w : World} {LL_e aV : Nat} {av : Value} {e : List Token} (U : Ls Token.cs 4 w LL_e aV av e) (hb : e.length ≤ 1048576) :
 Ctr Try.prog 27 #[(.agg #[av])] w (fun v w' => ∃ (ag : Value) (ah : Value), v = .tuple #[.agg #[ag, .int .i64 ((bpE e).1.f), .int .i64 ((bpE e).1.l), ah, .bool ((bpE e).1.n)], .bool ((bpE e).2)] ∧ Ol ics 3 1 w' ag ((bpE e).1.L) ∧ Lo w.heap.size ag ∧ Ol ics 3 1 w' ah ((bpE e).1.F) ∧ Lo w.heap.size ah ∧ (∀ g ∈ bl ag, g ∉ bl ah) ∧ Ch [] w w') := by
 obtain ⟨aw, ax, ay⟩ := U.val
 subst ay
 have bk := U.len
 have U := U.here (by decide)
 have E := Ch.refl [] w
 have sl := Znf e
 refine Yc (N := 51) (vs0 := [(.agg #[(.slice aw e.length ax)])]) Try.func27 rfl rfl rfl ?_
 refine Zg fun K1 H1 => ?_
 refine Zc (Zk rfl rfl ?_)
 refine Xz rfl fun bm W2 aP C2 cj => ?_
 have ck := C2.size
 have E := E.trans C2
 have cm := aP.lt
 replace aP : Blk W2 bm 44 [(.slice aw e.length ax)] := aP
 refine Zk rfl rfl ?_
 refine Yp zr48 fun ak W3 az C3 cn => ?_
 have co := C3.size
 have E := E.trans C3
 have cp := az.lt
 replace az : Blk W3 ak 48 [(.slice none 0 0), (.int .i64 0), (.int .i64 0), (.slice none 0 0), (.bool false)] := az
 refine Za rfl rfl (Zd rfl) (Zf (Zb (H1 _ _ ?_)))
 refine Zg fun K4 H4 => ?_
 refine Zc ?_
 have F5 := (aP.ch0 C3)
 refine Za rfl rfl (Zw F5.at_ agg44 sz44 rfl) (Zk rfl rfl ?_)
 have F6 := ((U.ch0 C2).ch0 C3)
 refine Step.call (Zn (xs := [.tmp 11]) fk29 rfl) (Zfl F6 (by omega)) fun bn W7 aW => ?_
 obtain ⟨aQ, rfl, x, u, C7⟩ := aW
 have cq := C7.size
 have E := E.trans C7
 obtain ⟨s, t, rfl, aA, r⟩ := x.opn
 refine Za rfl rfl (Ze rfl) (Za rfl rfl (Xm rfl rfl) (Za rfl rfl (Xm rfl rfl) (Zk rfl rfl ?_)))
 refine Yp zr44 fun an W8 aR C8 cr => ?_
 have ct := C8.size
 have E := E.trans C8
 have cu := aR.lt
 replace aR : Blk W8 an 44 [(.slice none 0 0)] := aR
 refine Zk rfl rfl ?_
 refine Zt (off := 0) 1 aR sz44 rfl (us := [(.slice s ((expE e).1).length t)]) rfl rfl rfl rfl fun W9 V C9 => ?_
 have cv := C9.size
 have E := E.step C9 (lS (by omega))
 replace V : Blk W9 an 44 [(.slice s ((expE e).1).length t)] := V
 refine Za rfl rfl (Zd rfl) (Zf (Zb (H4 _ _ ?_)))
 refine Zg fun cw bp => ?_
 refine Zg fun cx bq => ?_
 refine Zc (Za rfl rfl (Ze rfl) (Za rfl rfl (Xu rfl) (Zf (Zb (bq _ _ ?_)))))
 refine Zp rfl (fun a => ?_) (fun a => ?_)
 ·have aX := a
  have a := Qb a
  refine Zg fun cy br => ?_
  refine Zc (Za rfl rfl (Yr (parts := []) (cells := [(.slice none 0 0), (.int .i64 0), (.int .i64 0), (.slice none 0 0), (.bool false)]) zr48 pl48 rfl rfl) (Zk rfl rfl ?_))
  have bs := (((az.ch0 C7).ch0 C8).ch C9 (ne1 (by omega)))
  refine Zt (off := 0) 5 bs sz48 rfl (us := [(.slice none 0 0), (.int .i64 0), (.int .i64 0), (.slice none 0 0), (.bool false)]) rfl rfl rfl rfl fun aB X bc => ?_
  have bu := bc.size
  have E := E.step bc (lS (by omega))
  replace X : Blk aB ak 48 [(.slice none 0 0), (.int .i64 0), (.int .i64 0), (.slice none 0 0), (.bool false)] := X
  refine Za rfl rfl (Zd rfl) (Zf (Zb (br _ _ ?_)))
  refine Zr (Zl ?_)
  have aC : Ol ics 3 1 aB (.slice none 0 0) ((bpE e).1.L) := by
   have hx := (Ol.nil (cs := ics) (e := 3) (k := 1) aB)
   first | (rw [Zcp a (by omega) D]; exact hx) | (rw [Qp (fun q => by rw [a] at q; exact Bool.false_ne_true q.1)]; exact hx) | (rw [Qp (fun q => by have G := q.2; omega)]; exact hx)
  have aD : Ol ics 3 1 aB (.slice none 0 0) ((bpE e).1.F) := by
   have hx := (Ol.nil (cs := ics) (e := 3) (k := 1) aB)
   first | (rw [Zcp a (by omega) D]; exact hx) | (rw [Qp (fun q => by rw [a] at q; exact Bool.false_ne_true q.1)]; exact hx) | (rw [Qp (fun q => by have G := q.2; omega)]; exact hx)
  exact Zi [_, _] (Zu X rfl agg48 sz48 ⟨rfl, trivial⟩) ⟨(.slice none 0 0), (.slice none 0 0), ((((congrArg (fun zq => (Value.tuple #[.agg #[(.slice none 0 0), .int .i64 zq, .int .i64 0, (.slice none 0 0), .bool false], .bool false])) (by first | (rw [Zcp a (by omega) D]; done) | (rw [Qp (fun q => by rw [a] at q; exact Bool.false_ne_true q.1)]; done) | (rw [Qp (fun q => by have G := q.2; omega)]; done))).trans (congrArg (fun zq => (Value.tuple #[.agg #[(.slice none 0 0), .int .i64 ((bpE e).1.f), .int .i64 zq, (.slice none 0 0), .bool false], .bool false])) (by first | (rw [Zcp a (by omega) D]; done) | (rw [Qp (fun q => by rw [a] at q; exact Bool.false_ne_true q.1)]; done) | (rw [Qp (fun q => by have G := q.2; omega)]; done)))).trans (congrArg (fun zq => (Value.tuple #[.agg #[(.slice none 0 0), .int .i64 ((bpE e).1.f), .int .i64 ((bpE e).1.l), (.slice none 0 0), .bool zq], .bool false])) (by first | (rw [Zcp a (by omega) D]; done) | (rw [Qp (fun q => by rw [a] at q; exact Bool.false_ne_true q.1)]; done) | (rw [Qp (fun q => by have G := q.2; omega)]; done)))).trans (congrArg (fun zq => (Value.tuple #[.agg #[(.slice none 0 0), .int .i64 ((bpE e).1.f), .int .i64 ((bpE e).1.l), (.slice none 0 0), .bool ((bpE e).1.n)], .bool zq])) (by first | (rw [Zcp a (by omega) D]; done) | (rw [Qp (fun q => by rw [a] at q; exact Bool.false_ne_true q.1)]; done) | (rw [Qp (fun q => by have G := q.2; omega)]; done)))), aC, (Lo.nil _), aD, (Lo.nil _), (fun g hm hg => by cases hm), E⟩
 have aX := a
 have a := Qc a
 obtain ⟨j, D, bv, f5, cz⟩ := Zqa a
 refine Zq ?_
 refine Zb (bp _ _ ?_)
 refine Zg fun cA bw => ?_
 refine Zc (Za rfl rfl (Zd rfl) (Zf (Zb (bw _ _ ?_))))
 refine Zg fun cB bz => ?_
 refine Zg fun cC bA => ?_
 refine Zc (Za rfl rfl (Zd rfl) (Zf (Zb (bA _ _ ?_))))
 refine Zx ?_
 have bB := (((az.ch0 C7).ch0 C8).ch C9 (ne1 (by omega)))
 have bC := ((x.ch0 C8).ch C9 (dS u r (by omega)))
 refine Xf (σ := Nat × Int) (fun ⟨k, m⟩ => [(2, (.pointer (some ⟨ak, 0, none⟩))), (3, (.bool false)), (4, (.pointer (some ⟨an, 0, none⟩))), (6, (.int .i64 m)), (7, (.int .i64 ((k : Nat) : Int)))]) (fun ⟨k, m⟩ wx => Ch [] w wx ∧ W9.heap.size ≤ wx.heap.size ∧ (k ≤ (expE e).1.length) ∧ (m = cntL ((expE e).1.take k)) ∧ Blk wx ak 48 [(.slice none 0 0), (.int .i64 0), (.int .i64 0), (.slice none 0 0), (.bool false)] ∧ Blk wx an 44 [(.slice s ((expE e).1).length t)] ∧ Ol Token.cs 84 4 wx (.slice s ((expE e).1).length t) ((expE e).1)) (fun ⟨k, m⟩ => (expE e).1.length - k) (0, 0) (sC4 rfl rfl rfl rfl (sC1 rfl (Sub.nil _))) ⟨E, (Nat.le_refl _), (by omega), (by simp [cntL]), bB, V, bC⟩ ?_
 rintro ⟨k, m⟩ cD ⟨E, bD, cE, hm, H, C, P⟩
 have aY := E
 have bd := aY.size
 have aZ := H.lt
 have a0 := C.lt
 have bF := Ztf ((expE e).1.take k)
 have bG : ((expE e).1.take k).length ≤ k := List.length_take_le ..
 refine Zg fun cF be => ?_
 refine Zg fun cG bH => ?_
 refine Zc (Za rfl rfl (Ze rfl) (Za rfl rfl (Zh fa44_0 rfl) (Za rfl rfl (Zm C.at_ agg42 rfl rfl) (Za rfl rfl (Xa (by rw [el42]; rfl) rfl) (Za rfl rfl (Xi rfl rfl) (Zf (Zb (bH _ _ ?_))))))))
 refine Zp rfl (fun M => ?_) (fun M => ?_)
 ·have a1 := M
  have M := Yf M
  refine Zq ?_
  refine Zb (be _ _ ?_)
  refine Zg fun cH bf => ?_
  refine Zx ?_
  refine Zg fun cI bI => ?_
  refine Zc (Za rfl rfl (Zh fa44_0 rfl) (Za rfl rfl (Zm C.at_ agg42 rfl rfl) (Za rfl rfl (Ze rfl) (Zk rfl rfl ?_))))
  refine (Yo P.ls Token.len el42 sz84 rfl rfl rfl (by omega) fun bJ bK Q a2 => ?_)
  refine Za rfl rfl (Zh fa84_0 rfl) (Za rfl rfl (Zm a2 agg3 rfl rfl) (Za rfl rfl (Xj rfl rfl) (Zf (Zb (bI _ _ ?_)))))
  refine Zp rfl (fun y => ?_) (fun y => ?_)
  ·have a3 := y
   have y := Yf y
   refine Zc (Za rfl rfl (Ze rfl) (Za rfl rfl (Yk (by omega) rfl rfl) (Za rfl rfl (Zd rfl) (Zf (Zv (Zb (bf _ _ (Zc ?_))))))))
   refine Za rfl rfl (Ze rfl) (Za rfl rfl (Yk (by omega) rfl rfl) (Za rfl rfl (Zd rfl) (Zf ?_)))
   exact Zb (Exists.intro ((k + 1), (m + 1)) ⟨⟨E, (by omega), (by omega), (by first | (rw [Zsr Q y]; omega) | (rw [Zsi Q y]; omega)), H, C, P⟩, sC4 rfl rfl rfl rfl (sC1 rfl (Sub.nil _)), (by first | omega | (dsimp only; omega))⟩)
  have a3 := y
  have y := Ye y
  refine Zq ?_
  refine Zv (Zb (bf _ _ (Zc (Za rfl rfl (Ze rfl) (Za rfl rfl (Yk (by omega) rfl rfl) (Za rfl rfl (Zd rfl) (Zf ?_)))))))
  exact Zb (Exists.intro ((k + 1), m) ⟨⟨E, (by omega), (by omega), (by first | (rw [Zsr Q y]; omega) | (rw [Zsi Q y]; omega)), H, C, P⟩, sC4 rfl rfl rfl rfl (sC1 rfl (Sub.nil _)), (by first | omega | (dsimp only; omega))⟩)
 have a1 := M
 have M := Ye M
 have cJ : cntL ((expE e).1.take k) = cntL (expE e).1 := by rw [List.take_of_length_le (by omega)]
 refine Xc (Zs (Zs (Yu ?_)))
 refine Zb (bz _ _ ?_)
 refine Zg fun cK bg => ?_
 refine Zg fun cL bL => ?_
 refine Zc (Za rfl rfl (Ze rfl) (Za rfl rfl (Zeh rfl rfl) (Zf (Zb (bL _ _ ?_)))))
 refine Zp rfl (fun O => ?_) (fun O => ?_)
 ·have a4 := O
  have O := Yf O
  refine Zg fun cM bM => ?_
  refine Zc (Za rfl rfl (Yr (parts := []) (cells := [(.slice none 0 0), (.int .i64 0), (.int .i64 0), (.slice none 0 0), (.bool false)]) zr48 pl48 rfl rfl) (Zk rfl rfl ?_))
  refine Zt (off := 0) 5 H sz48 rfl (us := [(.slice none 0 0), (.int .i64 0), (.int .i64 0), (.slice none 0 0), (.bool false)]) rfl rfl rfl rfl fun aE Y bh => ?_
  have bN := bh.size
  have E := E.step bh (lS (by omega))
  replace Y : Blk aE ak 48 [(.slice none 0 0), (.int .i64 0), (.int .i64 0), (.slice none 0 0), (.bool false)] := Y
  refine Za rfl rfl (Zd rfl) (Zf (Zb (bM _ _ ?_)))
  refine Zr (Zl ?_)
  clear be bg
  have aF : Ol ics 3 1 aE (.slice none 0 0) ((bpE e).1.L) := by
   have hx := (Ol.nil (cs := ics) (e := 3) (k := 1) aE)
   first | (rw [Zcp a (by omega) D]; exact hx) | (rw [Qp (fun q => by rw [a] at q; exact Bool.false_ne_true q.1)]; exact hx) | (rw [Qp (fun q => by have G := q.2; omega)]; exact hx)
  have aG : Ol ics 3 1 aE (.slice none 0 0) ((bpE e).1.F) := by
   have hx := (Ol.nil (cs := ics) (e := 3) (k := 1) aE)
   first | (rw [Zcp a (by omega) D]; exact hx) | (rw [Qp (fun q => by rw [a] at q; exact Bool.false_ne_true q.1)]; exact hx) | (rw [Qp (fun q => by have G := q.2; omega)]; exact hx)
  exact Zi [_, _] (Zu Y rfl agg48 sz48 ⟨rfl, trivial⟩) ⟨(.slice none 0 0), (.slice none 0 0), ((((congrArg (fun zq => (Value.tuple #[.agg #[(.slice none 0 0), .int .i64 zq, .int .i64 0, (.slice none 0 0), .bool false], .bool false])) (by first | (rw [Zcp a (by omega) D]; done) | (rw [Qp (fun q => by rw [a] at q; exact Bool.false_ne_true q.1)]; done) | (rw [Qp (fun q => by have G := q.2; omega)]; done))).trans (congrArg (fun zq => (Value.tuple #[.agg #[(.slice none 0 0), .int .i64 ((bpE e).1.f), .int .i64 zq, (.slice none 0 0), .bool false], .bool false])) (by first | (rw [Zcp a (by omega) D]; done) | (rw [Qp (fun q => by rw [a] at q; exact Bool.false_ne_true q.1)]; done) | (rw [Qp (fun q => by have G := q.2; omega)]; done)))).trans (congrArg (fun zq => (Value.tuple #[.agg #[(.slice none 0 0), .int .i64 ((bpE e).1.f), .int .i64 ((bpE e).1.l), (.slice none 0 0), .bool zq], .bool false])) (by first | (rw [Zcp a (by omega) D]; done) | (rw [Qp (fun q => by rw [a] at q; exact Bool.false_ne_true q.1)]; done) | (rw [Qp (fun q => by have G := q.2; omega)]; done)))).trans (congrArg (fun zq => (Value.tuple #[.agg #[(.slice none 0 0), .int .i64 ((bpE e).1.f), .int .i64 ((bpE e).1.l), (.slice none 0 0), .bool ((bpE e).1.n)], .bool zq])) (by first | (rw [Zcp a (by omega) D]; done) | (rw [Qp (fun q => by rw [a] at q; exact Bool.false_ne_true q.1)]; done) | (rw [Qp (fun q => by have G := q.2; omega)]; done)))), aF, (Lo.nil _), aG, (Lo.nil _), (fun g hm hg => by cases hm), E⟩
 have a4 := O
 have O := Ye O
 refine Zq ?_
 refine Zb (bg _ _ ?_)
 refine Zg fun cN bO => ?_
 refine Zc (Za rfl rfl (Yr (parts := []) (cells := [(.slice none 0 0), (.int .i64 0), (.int .i64 0), (.slice none 0 0), (.bool false)]) zr48 pl48 rfl rfl) (Zk rfl rfl ?_))
 refine Yp zr48 fun al bP aS aH cO => ?_
 have bQ := aH.size
 have E := E.trans aH
 have bG := aS.lt
 replace aS : Blk bP al 48 [(.slice none 0 0), (.int .i64 0), (.int .i64 0), (.slice none 0 0), (.bool false)] := aS
 refine Zk rfl rfl ?_
 refine Zt (off := 0) 5 aS sz48 rfl (us := [(.slice none 0 0), (.int .i64 0), (.int .i64 0), (.slice none 0 0), (.bool false)]) rfl rfl rfl rfl fun aI Z aJ => ?_
 have bR := aJ.size
 have E := E.step aJ (lS (by omega))
 replace Z : Blk aI al 48 [(.slice none 0 0), (.int .i64 0), (.int .i64 0), (.slice none 0 0), (.bool false)] := Z
 refine Zf (Zb (bO _ _ ?_))
 refine Zg fun cP bS => ?_
 refine Zc (Za rfl rfl (Zh fa44_0 rfl) ?_)
 have bT := ((C.ch0 aH).ch aJ (ne1 (by omega)))
 refine Za rfl rfl (Zm bT.at_ agg42 rfl rfl) (Zk rfl rfl ?_)
 have bU := ((P.ch0 aH).ch aJ (dS u r (by omega)))
 refine Step.call (Zn (xs := [.tmp 8, .tmp 39]) fk67 rfl) (Zhr Z (by omega) (Ol.nil (cs := ics) (e := 3) (k := 1) aI) (fun hm => by cases hm) (Lo.nil _) (Ol.nil (cs := ics) (e := 3) (k := 1) aI) (fun hm => by cases hm) (Lo.nil _) (fun g hm hg => by cases hm) (Ol.lsB bU r) j bv f5 (by omega) ⟨by simp <;> omega, by simp <;> omega⟩ (L_p := al)) fun bV bW a5 => ?_
 obtain ⟨a6, a7, rfl, am, R, z, o, S, A, p, B, a8⟩ := a5
 have bX := a8.size
 have E := E.step a8 (fun i hm => .inl (by rcases List.mem_cons.1 hm with I | hm; (omega); (rcases List.mem_append.1 hm with hm | hm; (cases hm); (cases hm))))
 obtain ⟨b, c, rfl, a9, ai⟩ := R.opn
 have J : Lo aI.heap.size (.slice b ((bpT j [] []).L).length c) := Zea z o (by omega) (all2 (fun g hm => by cases hm) (fun g hm => by cases hm))
 obtain ⟨d, h, rfl, ba, aj⟩ := S.opn
 have K : Lo aI.heap.size (.slice d ((bpT j [] []).F).length h) := Zea A p (by omega) (all2 (fun g hm => by cases hm) (fun g hm => by cases hm))
 have aa := Qa z o (show ak < _ by omega) (nin2 (fun hm => by cases hm) (fun hm => by cases hm))
 have aK := Qa z o (show an < _ by omega) (nin2 (fun hm => by cases hm) (fun hm => by cases hm))
 have ab := Qa A p (show ak < _ by omega) (nin2 (fun hm => by cases hm) (fun hm => by cases hm))
 have aL := Qa A p (show an < _ by omega) (nin2 (fun hm => by cases hm) (fun hm => by cases hm))
 replace am : Blk bW al 48 [(.slice b ((bpT j [] []).L).length c), (.int .i64 0), (.int .i64 0), (.slice d ((bpT j [] []).F).length h), (.bool false)] := am
 refine Zk rfl rfl ?_
 refine Yp zr91 fun bi bY aT ao cQ => ?_
 have bZ := ao.size
 have E := E.trans ao
 have bF := aT.lt
 replace aT : Blk bY bi 91 [(.bool false), (.int .i64 0), (.int .i64 0)] := aT
 refine Zk rfl rfl ?_
 refine Zt (off := 0) 3 aT sz91 rfl (us := [(.bool ((bpT j [] []).n)), (.int .i64 ((bpT j [] []).f)), (.int .i64 ((bpT j [] []).l))]) rfl rfl rfl rfl fun b0 T ap => ?_
 have b1 := ap.size
 have E := E.step ap (lS (by omega))
 replace T : Blk b0 bi 91 [(.bool ((bpT j [] []).n)), (.int .i64 ((bpT j [] []).f)), (.int .i64 ((bpT j [] []).l))] := T
 refine Zf (Zb (bS _ _ ?_))
 refine Zg fun cR b2 => ?_
 refine Zc (Za rfl rfl (Zh fa91_1 rfl) (Za rfl rfl (Zm T.at_ agg3 rfl rfl) (Za rfl rfl (Zh fa48_1 rfl) (Zk rfl rfl ?_))))
 have b3 := ((am.ch0 ao).ch ap (ne1 (by omega)))
 refine Yv (off := 1) b3 sz3 rfl rfl rfl rfl fun b4 ac aq => ?_
 have b5 := aq.size
 have E := E.step aq (lS (by omega))
 replace ac : Blk b4 al 48 [(.slice b ((bpT j [] []).L).length c), (.int .i64 ((bpT j [] []).f)), (.int .i64 0), (.slice d ((bpT j [] []).F).length h), (.bool false)] := ac
 refine Zf (Zb (b2 _ _ ?_))
 refine Zg fun cS b6 => ?_
 refine Zc (Za rfl rfl (Zh fa91_2 rfl) ?_)
 have bj := (T.ch aq (ne1 (by omega)))
 refine Za rfl rfl (Zm bj.at_ agg3 rfl rfl) (Za rfl rfl (Zh fa48_2 rfl) (Zk rfl rfl ?_))
 refine Yv (off := 2) ac sz3 rfl rfl rfl rfl fun b7 ad au => ?_
 have b8 := au.size
 have E := E.step au (lS (by omega))
 replace ad : Blk b7 al 48 [(.slice b ((bpT j [] []).L).length c), (.int .i64 ((bpT j [] []).f)), (.int .i64 ((bpT j [] []).l)), (.slice d ((bpT j [] []).F).length h), (.bool false)] := ad
 refine Zf (Zb (b6 _ _ ?_))
 refine Zg fun cT b9 => ?_
 refine Zc (Za rfl rfl (Zh fa91_0 rfl) ?_)
 have ca := (bj.ch au (ne1 (by omega)))
 refine Za rfl rfl (Zm ca.at_ agg4 rfl rfl) (Za rfl rfl (Zh fa48_4 rfl) (Zk rfl rfl ?_))
 refine Yv (off := 4) ad sz4 rfl rfl rfl rfl fun cb ae aM => ?_
 have cc := aM.size
 have E := E.step aM (lS (by omega))
 replace ae : Blk cb al 48 [(.slice b ((bpT j [] []).L).length c), (.int .i64 ((bpT j [] []).f)), (.int .i64 ((bpT j [] []).l)), (.slice d ((bpT j [] []).F).length h), (.bool ((bpT j [] []).n))] := ae
 refine Zf (Zb (b9 _ _ ?_))
 refine Zg fun cU cd => ?_
 refine Zc (Za rfl rfl (Zw ae.at_ agg48 sz48 rfl) (Zk rfl rfl ?_))
 have ce := ((((((((H.ch0 aH).ch aJ (ne1 (by omega))).ch a8 (fun hm => by rcases List.mem_cons.1 hm with I | hm; (omega); (rcases List.mem_append.1 hm with hm | hm; (cases hm); (cases hm)))).ch0 ao).ch ap (ne1 (by omega))).ch aq (ne1 (by omega))).ch au (ne1 (by omega))).ch aM (ne1 (by omega)))
 refine Zt (off := 0) 5 ce sz48 rfl (us := [(.slice b ((bpT j [] []).L).length c), (.int .i64 ((bpT j [] []).f)), (.int .i64 ((bpT j [] []).l)), (.slice d ((bpT j [] []).F).length h), (.bool ((bpT j [] []).n))]) rfl rfl rfl rfl fun bb af aU => ?_
 have cf := aU.size
 have E := E.step aU (lS (by omega))
 replace af : Blk bb ak 48 [(.slice b ((bpT j [] []).L).length c), (.int .i64 ((bpT j [] []).f)), (.int .i64 ((bpT j [] []).l)), (.slice d ((bpT j [] []).F).length h), (.bool ((bpT j [] []).n))] := af
 refine Za rfl rfl (Zd rfl) (Zf (Zb (cd _ _ ?_)))
 refine Zr ?_
 have cg := ((((((R.ch0 ao).ch ap (dS J ai (by omega))).ch aq (fun g hg hm => by have I := mSg.1 hm; exact o (by first | exact hg | exact I ▸ hg))).ch au (fun g hg hm => by have I := mSg.1 hm; exact o (by first | exact hg | exact I ▸ hg))).ch aM (fun g hg hm => by have I := mSg.1 hm; exact o (by first | exact hg | exact I ▸ hg))).ch aU (fun g hg hm => by have I := mSg.1 hm; exact aa (by first | exact hg | exact I ▸ hg)))
 have aN : Ol ics 3 1 bb (.slice b ((bpT j [] []).L).length c) ((bpE e).1.L) := by
  have hx := cg
  first | (rw [Zcp a (by omega) D]; exact hx) | (rw [Qp (fun q => by rw [a] at q; exact Bool.false_ne_true q.1)]; exact hx) | (rw [Qp (fun q => by have G := q.2; omega)]; exact hx)
 have ci := ((((((S.ch0 ao).ch ap (dS K aj (by omega))).ch aq (fun g hg hm => by have I := mSg.1 hm; exact p (by first | exact hg | exact I ▸ hg))).ch au (fun g hg hm => by have I := mSg.1 hm; exact p (by first | exact hg | exact I ▸ hg))).ch aM (fun g hg hm => by have I := mSg.1 hm; exact p (by first | exact hg | exact I ▸ hg))).ch aU (fun g hg hm => by have I := mSg.1 hm; exact ab (by first | exact hg | exact I ▸ hg)))
 have aO : Ol ics 3 1 bb (.slice d ((bpT j [] []).F).length h) ((bpE e).1.F) := by
  have hx := ci
  first | (rw [Zcp a (by omega) D]; exact hx) | (rw [Qp (fun q => by rw [a] at q; exact Bool.false_ne_true q.1)]; exact hx) | (rw [Qp (fun q => by have G := q.2; omega)]; exact hx)
 exact Zi [_, _] (Zu af rfl agg48 sz48 ⟨rfl, trivial⟩) ⟨(.slice b ((bpT j [] []).L).length c), (.slice d ((bpT j [] []).F).length h), ((((congrArg (fun zq => (Value.tuple #[.agg #[(.slice b ((bpT j [] []).L).length c), .int .i64 zq, .int .i64 ((bpT j [] []).l), (.slice d ((bpT j [] []).F).length h), .bool ((bpT j [] []).n)], .bool true])) (by first | (rw [Zcp a (by omega) D]; done) | (rw [Qp (fun q => by rw [a] at q; exact Bool.false_ne_true q.1)]; done) | (rw [Qp (fun q => by have G := q.2; omega)]; done))).trans (congrArg (fun zq => (Value.tuple #[.agg #[(.slice b ((bpT j [] []).L).length c), .int .i64 ((bpE e).1.f), .int .i64 zq, (.slice d ((bpT j [] []).F).length h), .bool ((bpT j [] []).n)], .bool true])) (by first | (rw [Zcp a (by omega) D]; done) | (rw [Qp (fun q => by rw [a] at q; exact Bool.false_ne_true q.1)]; done) | (rw [Qp (fun q => by have G := q.2; omega)]; done)))).trans (congrArg (fun zq => (Value.tuple #[.agg #[(.slice b ((bpT j [] []).L).length c), .int .i64 ((bpE e).1.f), .int .i64 ((bpE e).1.l), (.slice d ((bpT j [] []).F).length h), .bool zq], .bool true])) (by first | (rw [Zcp a (by omega) D]; done) | (rw [Qp (fun q => by rw [a] at q; exact Bool.false_ne_true q.1)]; done) | (rw [Qp (fun q => by have G := q.2; omega)]; done)))).trans (congrArg (fun zq => (Value.tuple #[.agg #[(.slice b ((bpT j [] []).L).length c), .int .i64 ((bpE e).1.f), .int .i64 ((bpE e).1.l), (.slice d ((bpT j [] []).F).length h), .bool ((bpE e).1.n)], .bool zq])) (by first | (rw [Zcp a (by omega) D]; done) | (rw [Qp (fun q => by rw [a] at q; exact Bool.false_ne_true q.1)]; done) | (rw [Qp (fun q => by have G := q.2; omega)]; done)))), aN, (Lo.down J (by omega)), aO, (Lo.down K (by omega)), B, E⟩

/-- spec.l1Byte -/
theorem Zaw {w : World} {b_c : Nat} (n : Cu w b_c) :
 Ctr Try.prog 86 #[(.pointer (some ⟨b_c, 0, none⟩))] w (fun v w' => ∃ (o : Int) , v = .int .i64 o ∧ (0 ≤ o ∧ o ≤ 255) ∧ Cu w' b_c ∧ Ch [b_c] w w') := by
 obtain ⟨y, x_c, t_c, i_c, k_c, m_c, c, z, A⟩ := n
 obtain ⟨e, f, g⟩ := c.val
 subst g
 have B := c.len
 have t := m_c.lt
 have E := Ch.refl [b_c] w
 refine Yc (N := 58) (vs0 := [(.pointer (some ⟨b_c, 0, none⟩))]) Try.func86 rfl rfl rfl ?_
 refine Zg fun K1 H1 => ?_
 refine Zc (Za rfl rfl (Zd rfl) (Zf (Zb (H1 _ _ ?_))))
 refine Zg fun K2 H2 => ?_
 refine Zc (Za rfl rfl (Ze rfl) (Za rfl rfl (Ze rfl) (Za rfl rfl (Xq rfl) (Za rfl rfl (Zh fa101_2 rfl) (Za rfl rfl (Zm m_c.at_ agg3 rfl rfl) (Za rfl rfl (Zos rfl rfl) (Za rfl rfl (Zjg rfl rfl) ?_)))))))
 refine Za rfl rfl (Xq rfl) (Za rfl rfl (Zh fa101_2 rfl) (Zk rfl rfl ?_))
 refine Yv (off := 2) m_c sz3 rfl rfl rfl rfl fun W3 d C3 => ?_
 have O := C3.size
 have E := E.trans C3
 replace d : Blk W3 b_c t_c [(.slice e x_c.length f), (.int .i64 i_c), (.int .i64 (w64 ((w64 (k_c * 6364136223846793005)) + 1442695040888963407)))] := d
 refine Zf (Zb (H2 _ _ ?_))
 refine Zg fun K5 H5 => ?_
 refine Xg [] 13 mixed rfl fun W6 C6 => ?_
 have P := C6.size
 have E := E.trans C6.of_nil
 refine dV 0 rfl rfl rfl (fun _ => Ze rfl) (dV 1 rfl rfl rfl (fun _ => Xq rfl) (dV 2 rfl rfl rfl (fun _ => Zh fa101_2 rfl) ?_))
 have F7 := (d.ch0 C6)
 refine dT 3 rfl rfl rfl (Yw F7.at_ (fun i hi => absurd hi List.not_mem_nil) agg3 rfl rfl ?_)
 refine dV 4 rfl rfl rfl (fun _ => Ziu (by omega) rfl rfl) (dV 5 rfl rfl rfl (fun _ => Ze rfl) (dV 6 rfl rfl rfl (fun _ => Xq rfl) (dV 7 rfl rfl rfl (fun _ => Zh fa101_2 rfl) ?_)))
 refine dT 8 rfl rfl rfl (Yw F7.at_ (fun i hi => absurd hi List.not_mem_nil) agg3 rfl rfl ?_)
 refine dV 9 rfl rfl rfl (fun _ => Ziu (by omega) rfl rfl) (dV 10 rfl rfl rfl (fun _ => Zvu rfl rfl) (dV 11 rfl rfl rfl (fun _ => Zgd rfl rfl) (dV 12 rfl rfl rfl (fun _ => Zd rfl) ?_)))
 refine Yq (by kernel_rfl) ?_
 refine Zb (H5 _ _ ?_)
 refine Zg fun K8 H8 => ?_
 refine Zg fun K9 H9 => ?_
 refine Xg [] 10 mixed rfl fun Q h => ?_
 have C := h.size
 have E := E.trans h.of_nil
 refine dV 0 rfl rfl rfl (fun _ => Ze rfl) (dV 1 rfl rfl rfl (fun _ => Xq rfl) (dV 2 rfl rfl rfl (fun _ => Zh fa101_1 rfl) ?_))
 have k := (F7.ch0 h)
 refine dT 3 rfl rfl rfl (Yw k.at_ (fun i hi => absurd hi List.not_mem_nil) agg3 rfl rfl ?_)
 refine dV 4 rfl rfl rfl (fun _ => Ze rfl) (dV 5 rfl rfl rfl (fun _ => Xq rfl) (dV 6 rfl rfl rfl (fun _ => Zh fa101_0 rfl) ?_))
 refine dT 7 rfl rfl rfl (Yw k.at_ (fun i hi => absurd hi List.not_mem_nil) agg22 rfl rfl ?_)
 refine dV 8 rfl rfl rfl (fun _ => Xa (by rw [el22]; rfl) rfl) (dV 9 rfl rfl rfl (fun _ => Xi rfl rfl) ?_)
 refine Yq (by kernel_rfl) ?_
 refine Zb (H9 _ _ ?_)
 refine Zp rfl (fun a => ?_) (fun a => ?_)
 ·have p := a
  have a := Yf a
  refine Zg fun R D => ?_
  refine Xg [] 15 mixed rfl fun S l => ?_
  have F := l.size
  have E := E.trans l.of_nil
  refine dV 0 rfl rfl rfl (fun _ => Ze rfl) (dV 1 rfl rfl rfl (fun _ => Ze rfl) (dV 2 rfl rfl rfl (fun _ => Xq rfl) (dV 3 rfl rfl rfl (fun _ => Zh fa101_0 rfl) ?_)))
  have m := (k.ch0 l)
  refine dT 4 rfl rfl rfl (Yw m.at_ (fun i hi => absurd hi List.not_mem_nil) agg22 rfl rfl ?_)
  refine dV 5 rfl rfl rfl (fun _ => Ze rfl) (dV 6 rfl rfl rfl (fun _ => Xq rfl) (dV 7 rfl rfl rfl (fun _ => Zh fa101_1 rfl) ?_))
  refine dT 8 rfl rfl rfl (Yw m.at_ (fun i hi => absurd hi List.not_mem_nil) agg3 rfl rfl ?_)
  have u := ((((c.ch C3 (oS (by omega))).ch0 C6).ch0 h).ch0 l)
  refine dT 9 rfl rfl rfl (Qn (j := i_c.toNat) u Zha el22 sz5 rfl rfl (by omega) (by omega) fun G q x r => ?_)
  refine dT 10 rfl rfl rfl (Ql r (fun i hi => absurd hi List.not_mem_nil) agg5 rfl rfl ?_)
  refine dV 11 rfl rfl rfl (fun _ => Zdp (by rw [un5]; rfl) un3 rfl) (dV 12 rfl rfl rfl (fun _ => Zjg rfl rfl) (dV 13 rfl rfl rfl (fun _ => Zgd rfl rfl) (dV 14 rfl rfl rfl (fun _ => Zd rfl) ?_)))
  refine Yq (by kernel_rfl) ?_
  refine Zb (D _ _ (Zc (Za rfl rfl (Ze rfl) (Za rfl rfl (Ze rfl) (Za rfl rfl (Xq rfl) (Za rfl rfl (Zh fa101_1 rfl) (Za rfl rfl (Zm m.at_ agg3 rfl rfl) (Za rfl rfl (Yk (by omega) rfl rfl) ?_))))))))
  refine Za rfl rfl (Xq rfl) (Za rfl rfl (Zh fa101_1 rfl) (Zk rfl rfl ?_))
  refine Yv (off := 1) m sz3 rfl rfl rfl rfl fun H b s => ?_
  have I := s.size
  have E := E.trans s
  replace b : Blk H b_c t_c [(.slice e x_c.length f), (.int .i64 (i_c + 1)), (.int .i64 (w64 ((w64 (k_c * 6364136223846793005)) + 1442695040888963407)))] := b
  refine Zf (Zb (H8 _ _ ?_))
  refine Zg fun T J => ?_
  refine Zc (Za rfl rfl (Ze rfl) (Za rfl rfl (Zd rfl) (Zf (Zb (J _ _ ?_)))))
  refine Zr ?_
  have K := (u.ch s (oS (by omega)))
  exact Zi [_] ⟨rfl, trivial⟩ ⟨(iand (w64 ((iand (ixor (ishr (w64 ((w64 (k_c * 6364136223846793005)) + 1442695040888963407)) 33) (ishr (w64 ((w64 (k_c * 6364136223846793005)) + 1442695040888963407)) 45)) 255) + (w64 q))) 255), (congrArg (fun zq => (Value.int .i64 zq)) (by first | rfl | simp_all)), (Zpk _), ⟨_, _, _, _, _, b, K, (by omega), (by omega)⟩, E⟩
 have p := a
 have a := Ye a
 refine Zq ?_
 refine Zb (H8 _ _ ?_)
 refine Zg fun U L => ?_
 refine Zc (Za rfl rfl (Ze rfl) (Za rfl rfl (Zd rfl) (Zf (Zb (L _ _ ?_)))))
 refine Zr ?_
 have M := (((c.ch C3 (oS (by omega))).ch0 C6).ch0 h)
 exact Zi [_] ⟨rfl, trivial⟩ ⟨(iand (ixor (ishr (w64 ((w64 (k_c * 6364136223846793005)) + 1442695040888963407)) 33) (ishr (w64 ((w64 (k_c * 6364136223846793005)) + 1442695040888963407)) 45)) 255), (congrArg (fun zq => (Value.int .i64 zq)) (by first | rfl | simp_all)), (Zpk _), ⟨_, _, _, _, _, k, M, (by omega), (by omega)⟩, E⟩

/-- spec.l1Below -/
theorem Xl {w : World} {b_c : Nat} (c : Cu w b_c) (n : Int) (hn : 0 < n) :
 Ctr Try.prog 42 #[(.pointer (some ⟨b_c, 0, none⟩)), (.int .i64 n)] w (fun v w' => ∃ (i : Int) , v = .int .i64 i ∧ (0 ≤ i ∧ i < n) ∧ Cu w' b_c ∧ Ch [b_c] w w') := by
 have B := c.lt
 have E := Ch.refl [b_c] w
 refine Yc (N := 37) (vs0 := [(.pointer (some ⟨b_c, 0, none⟩)), (.int .i64 n)]) Try.func42 rfl rfl rfl ?_
 refine Zg fun K1 H1 => ?_
 refine Zc (Za rfl rfl (Zd rfl) (Zf (Zb (H1 _ _ ?_))))
 refine Zg fun K2 H2 => ?_
 refine Zg fun K3 H3 => ?_
 refine Zc (Za rfl rfl (Ze rfl) (Za rfl rfl (Zit rfl rfl) (Zf (Zb (H3 _ _ ?_)))))
 refine Zp rfl (fun a => ?_) (fun a => ?_)
 ·have I := a
  have a := Yf a
  refine Zg fun K5 H5 => ?_
  refine Zc (Za rfl rfl (Zd rfl) (Zf (Zb (H5 _ _ ?_))))
  refine Zr (Zl ?_)
  exact Zi [_] ⟨rfl, trivial⟩ ⟨0, (congrArg (fun zq => (Value.int .i64 zq)) (by first | rfl | simp_all)), (by first | exact Zjm (by omega) (by omega) | omega), c, E⟩
 have I := a
 have a := Ye a
 refine Zq ?_
 refine Zb (H2 _ _ ?_)
 refine Zg fun K6 H6 => ?_
 refine Zg fun K7 H7 => ?_
 refine Zc (Za rfl rfl (Ze rfl) (Za rfl rfl (Zit rfl rfl) (Zf (Zb (H7 _ _ ?_)))))
 refine Zp rfl (fun b => ?_) (fun b => ?_)
 ·have J := b
  have b := Yf b
  refine Zg fun K9 H9 => ?_
  refine Zc (Za rfl rfl (Ze rfl) (Zk rfl rfl ?_))
  refine Step.call (Zn (xs := [.tmp 13]) fk86 rfl) (Zaw c ) fun K ab j => ?_
  obtain ⟨d, rfl, k, l, C⟩ := j
  have L := C.size
  have E := E.trans C
  refine Za rfl rfl (Ze rfl) (Za rfl rfl (Zsx (by omega) rfl rfl) (Za rfl rfl (Zd rfl) (Zf (Zb (H9 _ _ ?_)))))
  refine Zr (Zl ?_)
  exact Zi [_] ⟨rfl, trivial⟩ ⟨(d.tmod n), (congrArg (fun zq => (Value.int .i64 zq)) (by first | rfl | simp_all)), (by first | exact Zjm (by omega) (by omega) | omega), l, E⟩
 have J := b
 have b := Ye b
 refine Zq ?_
 refine Zb (H6 _ _ ?_)
 refine Zg fun ac M => ?_
 refine Zc (Za rfl rfl (Ze rfl) (Zk rfl rfl ?_))
 refine Step.call (Zn (xs := [.tmp 17]) fk86 rfl) (Zaw c ) fun O ad m => ?_
 obtain ⟨e, rfl, o, p, D⟩ := m
 have P := D.size
 have E := E.trans D
 refine Za rfl rfl (Zd rfl) (Zf (Zb (M _ _ ?_)))
 refine Zg fun ae Q => ?_
 refine Zc (Za rfl rfl (Ze rfl) (Zk rfl rfl ?_))
 refine Step.call (Zn (xs := [.tmp 19]) fk86 rfl) (Zaw p ) fun R af q => ?_
 obtain ⟨f, rfl, r, s, F⟩ := q
 have S := F.size
 have E := E.trans F
 refine Za rfl rfl (Zd rfl) (Zf (Zb (Q _ _ ?_)))
 refine Zg fun ag T => ?_
 refine Zc (Za rfl rfl (Ze rfl) (Zk rfl rfl ?_))
 refine Step.call (Zn (xs := [.tmp 21]) fk86 rfl) (Zaw s ) fun U ah t => ?_
 obtain ⟨g, rfl, u, x, G⟩ := t
 have V := G.size
 have E := E.trans G
 refine Za rfl rfl (Zd rfl) (Zf (Zb (T _ _ ?_)))
 refine Zg fun ai X => ?_
 refine Zc (Za rfl rfl (Ze rfl) (Zk rfl rfl ?_))
 refine Step.call (Zn (xs := [.tmp 23]) fk86 rfl) (Zaw x ) fun Y aj y => ?_
 obtain ⟨h, rfl, z, A, H⟩ := y
 have Z := H.size
 have E := E.trans H
 refine Za rfl rfl (Zd rfl) (Zf (Zb (X _ _ ?_)))
 refine Zg fun ak aa => ?_
 refine Zc (Za rfl rfl (Ze rfl) (Za rfl rfl (Zqh (by omega) rfl rfl) (Za rfl rfl (Ze rfl) (Za rfl rfl (Zqh (by omega) rfl rfl) (Za rfl rfl (Yk (by omega) rfl rfl) (Za rfl rfl (Ze rfl) (Za rfl rfl (Zqh (by omega) rfl rfl) ?_)))))))
 refine Za rfl rfl (Yk (by omega) rfl rfl) (Za rfl rfl (Ze rfl) (Za rfl rfl (Yk (by omega) rfl rfl) (Za rfl rfl (Ze rfl) (Za rfl rfl (Zsx (by omega) rfl rfl) (Za rfl rfl (Zd rfl) (Zf (Zb (aa _ _ ?_))))))))
 refine Zr ?_
 exact Zi [_] ⟨rfl, trivial⟩ ⟨(((((e * 16777216) + (f * 65536)) + (g * 256)) + h).tmod n), (congrArg (fun zq => (Value.int .i64 zq)) (by first | rfl | simp_all)), (by first | exact Zjm (by omega) (by omega) | omega), A, E⟩

/-- spec.l1Once -/
theorem Zal {w : World} {b_c : Nat} (a : Cu w b_c) (n : Int) (hn : 0 < n) :
 Ctr Try.prog 96 #[(.pointer (some ⟨b_c, 0, none⟩)), (.int .i64 n)] w (fun v w' => ∃ (e : Bool) , v = .bool e ∧ Cu w' b_c ∧ Ch [b_c] w w') := by
 have c := a.lt
 have E := Ch.refl [b_c] w
 refine Yc (N := 9) (vs0 := [(.pointer (some ⟨b_c, 0, none⟩)), (.int .i64 n)]) Try.func96 rfl rfl rfl ?_
 refine Zg fun K1 H1 => ?_
 refine Zc (Za rfl rfl (Zd rfl) (Zf (Zb (H1 _ _ ?_))))
 refine Zg fun K2 H2 => ?_
 refine Zc (Za rfl rfl (Ze rfl) (Za rfl rfl (Ze rfl) (Zk rfl rfl ?_)))
 refine Step.call (Zn (xs := [.tmp 5, .tmp 6]) fk42 rfl) (Xl a _ (by omega)) fun h W3 f => ?_
 obtain ⟨b, rfl, d, g, C3⟩ := f
 have i := C3.size
 have E := E.trans C3
 refine Za rfl rfl (Xj rfl rfl) (Za rfl rfl (Zd rfl) (Zf (Zb (H2 _ _ ?_))))
 refine Zr ?_
 exact Zi [_] ⟨rfl, trivial⟩ ⟨(decide (b = 0)), (congrArg (fun zq => (Value.bool zq)) (by first | rfl | simp_all)), g, E⟩

/-- spec.l11Random -/
theorem Zcy {w : World} {b_c : Nat} (cq : Cu w b_c) :
 Ctr Try.prog 119 #[(.pointer (some ⟨b_c, 0, none⟩))] w (fun v w' => ∃ (cr : Int) (bB : List Bool) (ax : List (List Int)) (ay : Value) (az : Value) (ag : List Sv), v = .agg #[.int .i64 cr, ay, az] ∧ Ol bcs 4 1 w' ay (bB) ∧ Lo w.heap.size ay ∧ Ol Sv.cs 30 1 w' az ag ∧ Lo w.heap.size az ∧ Od ics 3 1 w' w.heap.size w'.heap.size ag (ax) ∧ Sep az ag ∧ (∀ g ∈ bl ay, g ∉ bl az) ∧ Sep ay ag ∧ (1 ≤ ax.length ∧ ax.length ≤ 12 ∧ bB.length = ax.length) ∧ (∀ r ∈ ax, r.length = 9) ∧ Cu w' b_c ∧ Ch [b_c] w w') := by
 have dQ := cq.lt
 have E := Ch.refl [b_c] w
 refine Yc (N := 52) (vs0 := [(.pointer (some ⟨b_c, 0, none⟩))]) Try.func119 rfl rfl rfl ?_
 refine Zg fun K1 H1 => ?_
 refine Zc (Zk rfl rfl ?_)
 refine Yp zr27 fun cp W2 cM C2 fL => ?_
 have fM := C2.size
 have E := E.trans C2.of_nil
 have fN := cM.lt
 replace cM : Blk W2 cp 27 [(.int .i64 0), (.slice none 0 0), (.slice none 0 0)] := cM
 refine Zf (Zb (H1 _ _ ?_))
 refine Zg fun K3 H3 => ?_
 refine Zc (Za rfl rfl (Ze rfl) (Zk rfl rfl ?_))
 have F4 := (cq.ch0 C2)
 refine Step.call (Zn (xs := [.tmp 9, .const (Go.Value.int Go.IntKind.i64 4)]) fk42 rfl) (Xl F4 _ (by omega)) fun en W5 cP => ?_
 obtain ⟨aA, rfl, cQ, cR, C5⟩ := cP
 have fO := C5.size
 have E := E.trans C5
 refine Za rfl rfl (Yk (by omega) rfl rfl) (Za rfl rfl (Zd rfl) (Zf (Zb (H3 _ _ ?_))))
 refine Zg fun K6 H6 => ?_
 refine Zc (Za rfl rfl (Ze rfl) (Za rfl rfl (Ze rfl) (Zk rfl rfl ?_)))
 refine Step.call (Zn (xs := [.tmp 12, .tmp 13]) fk42 rfl) (Xl cR _ (by omega)) fun eo W7 cS => ?_
 obtain ⟨y, rfl, cT, cU, C7⟩ := cS
 have fP := C7.size
 have E := E.trans C7
 refine Za rfl rfl (Yr (parts := [(0, .tmp 14)]) (cells := [(.int .i64 y), (.slice none 0 0), (.slice none 0 0)]) zr27 pl27 rfl rfl) (Zk rfl rfl ?_)
 refine Yp zr27 fun Q W8 cN C8 fQ => ?_
 have fR := C8.size
 have E := E.trans C8.of_nil
 have fS := cN.lt
 replace cN : Blk W8 Q 27 [(.int .i64 0), (.slice none 0 0), (.slice none 0 0)] := cN
 refine Zk rfl rfl ?_
 refine Zt (off := 0) 3 cN sz27 rfl (us := [(.int .i64 y), (.slice none 0 0), (.slice none 0 0)]) rfl rfl rfl rfl fun W9 a2 C9 => ?_
 have fT := C9.size
 have E := E.step C9 (lS (by omega))
 replace a2 : Blk W9 Q 27 [(.int .i64 y), (.slice none 0 0), (.slice none 0 0)] := a2
 refine Zf (Zb (H6 _ _ ?_))
 refine Zg fun fU ep => ?_
 refine Zg fun fV er => ?_
 refine Zc (Za rfl rfl (Zd rfl) (Zf (Zb (er _ _ ?_))))
 refine Zx ?_
 have bZ : Ol bcs 4 1 W9 (.slice none 0 0) (([] : List Bool)) := by
  have hx := (Ol.nil (cs := bcs) (e := 4) (k := 1) W9)
  exact hx
 have b0 : Ol Sv.cs 30 1 W9 (.slice none 0 0) (([] : List Sv)) := by
  have hx := (Ol.nil (cs := Sv.cs) (e := 30) (k := 1) W9)
  exact hx
 have es := ((cU.ch0 C8).ch C9 (oS (by omega)))
 have et := ((((cM.ch C5 (nS (by omega))).ch C7 (nS (by omega))).ch0 C8).ch C9 (nS (by omega)))
 refine Xf (σ := Nat × List Bool × List Sv × List (List Int) × Value × Value) (fun ⟨s, ab, vs, rs, av, nv⟩ => [(0, (.pointer (some ⟨b_c, 0, none⟩))), (2, (.pointer (some ⟨cp, 0, none⟩))), (3, (.int .i64 (1 + aA))), (4, (.pointer (some ⟨Q, 0, none⟩))), (5, (.int .i64 ((s : Nat) : Int)))]) (fun ⟨s, ab, vs, rs, av, nv⟩ wx => Ch [b_c] w wx ∧ W9.heap.size ≤ wx.heap.size ∧ ((s : Int) ≤ 1 + aA) ∧ (ab.length = s ∧ rs.length = s ∧ vs.length = s) ∧ (∀ r ∈ rs, r.length = 9) ∧ Cu wx b_c ∧ Blk wx cp 27 [(.int .i64 0), (.slice none 0 0), (.slice none 0 0)] ∧ Ol bcs 4 1 wx av ab ∧ Lo W9.heap.size av ∧ Ol Sv.cs 30 1 wx nv vs ∧ Lo W9.heap.size nv ∧ Od ics 3 1 wx W9.heap.size wx.heap.size vs rs ∧ Blk wx Q 27 [(.int .i64 y), av, nv] ∧ (Q ∉ bl av) ∧ (∀ g ∈ bl nv, g ∉ bl av) ∧ (Q ∉ bl nv) ∧ (Sep av vs) ∧ (Sep nv vs)) (fun ⟨s, ab, vs, rs, av, nv⟩ => (1 + aA).toNat - s) (0, ([] : List Bool), ([] : List Sv), ([] : List (List Int)), (.slice none 0 0), (.slice none 0 0)) (sC4 rfl rfl rfl rfl (sC1 rfl (Sub.nil _))) ⟨E, (Nat.le_refl _), (by omega), ⟨rfl, rfl, rfl⟩, (fun r h => by cases h), es, et, bZ, (Lo.nil _), b0, (Lo.nil _), Od.nil, a2, (fun hm => by cases hm), (fun g hm hg => by cases hm), (fun hm => by cases hm), (fun u hu => by cases hu), (fun u hu => by cases hu)⟩ ?_
 rintro ⟨s, ab, vs, rs, av, nv⟩ dR ⟨E, eu, hs, hl, hr, bC, a3, aO, c, aP, b, od, bD, l, f, m, C, D⟩
 have cV := E
 have dU := cV.size
 have cW := a3.lt
 obtain ⟨Aav, Cav, rfl, lav, hiav⟩ := aO.opn
 obtain ⟨Anv, Cnv, rfl, lnv, hinv⟩ := aP.opn
 refine Zg fun fW ew => ?_
 refine Zg fun fX ex => ?_
 refine Zc (Za rfl rfl (Ze rfl) (Za rfl rfl (Ze rfl) (Za rfl rfl (Xi rfl rfl) (Zf (Zb (ex _ _ ?_))))))
 refine Zp rfl (fun aQ => ?_) (fun aQ => ?_)
 ·have cX := aQ
  have aQ := Yf aQ
  refine Zq ?_
  refine Zb (ew _ _ ?_)
  refine Zg fun fY cY => ?_
  refine Zx ?_
  refine Zg fun fZ ey => ?_
  refine Zc (Zk rfl rfl ?_)
  refine Xd (k := 1) ics el30 sz3 fun ez dW ct cu bF => ?_
  have eA := bF.size
  have E := E.trans bF.of_nil
  obtain ⟨bG, bH, rfl, dX, cZ⟩ := ct.opn
  refine Za rfl rfl (Zd rfl) (Zf (Zb (ey _ _ ?_)))
  refine Zg fun f0 eB => ?_
  refine Zg fun f1 eC => ?_
  refine Zc (Za rfl rfl (Zd rfl) (Zf (Zb (eC _ _ ?_))))
  refine Zx ?_
  have b1 : Ol ics 3 1 dW (.slice bG (([] : List Int)).length bH) (([] : List Int)) := by
   have hx := ct
   exact hx
  have eD := (bC.ch0 bF)
  have eE := (a3.ch0 bF)
  have eF := (bD.ch0 bF)
  have eG := (aO.ch0 bF)
  have eH := (aP.ch0 bF)
  have eI := (od.ch0 bF)
  refine Xf (σ := Nat × List Int × Value) (fun ⟨k, row, rv⟩ => [(0, (.pointer (some ⟨b_c, 0, none⟩))), (2, (.pointer (some ⟨cp, 0, none⟩))), (3, (.int .i64 (1 + aA))), (4, (.pointer (some ⟨Q, 0, none⟩))), (5, (.int .i64 ((s : Nat) : Int))), (6, rv), (7, (.int .i64 ((k : Nat) : Int))), (18, (.bool (decide (((s : Nat) : Int) < (1 + aA)))))]) (fun ⟨k, row, rv⟩ wx => Ch [b_c] w wx ∧ dW.heap.size ≤ wx.heap.size ∧ (k ≤ 9 ∧ row.length = k) ∧ Cu wx b_c ∧ Blk wx cp 27 [(.int .i64 0), (.slice none 0 0), (.slice none 0 0)] ∧ Blk wx Q 27 [(.int .i64 y), (.slice Aav (ab).length Cav), (.slice Anv (vs).length Cnv)] ∧ Ol bcs 4 1 wx (.slice Aav (ab).length Cav) ab ∧ Ol Sv.cs 30 1 wx (.slice Anv (vs).length Cnv) vs ∧ Od ics 3 1 wx W9.heap.size dR.heap.size vs rs ∧ Ol ics 3 1 wx rv row ∧ Lo dR.heap.size rv) (fun ⟨k, row, rv⟩ => 9 - k) (0, ([] : List Int), (.slice bG (([] : List Int)).length bH)) (sC8 rfl rfl rfl rfl rfl rfl rfl rfl (Sub.nil _)) ⟨E, (Nat.le_refl _), ⟨by omega, rfl⟩, eD, eE, eF, eG, eH, eI, b1, cu⟩ ?_
  rintro ⟨k, row, rv⟩ f2 ⟨E, eJ, f3, a4, R, S, V, X, Y, T, a⟩
  have c0 := E
  have dY := c0.size
  have c1 := R.lt
  have c2 := S.lt
  obtain ⟨Arv, Crv, rfl, lrv, hirv⟩ := T.opn
  refine Zg fun f4 eK => ?_
  refine Zg fun f5 eL => ?_
  refine Zc (Za rfl rfl (Ze rfl) (Za rfl rfl (Xi rfl rfl) (Zf (Zb (eL _ _ ?_)))))
  refine Zp rfl (fun aR => ?_) (fun aR => ?_)
  ·have c3 := aR
   have aR := Yf aR
   refine Zq ?_
   refine Zb (eK _ _ ?_)
   refine Zg fun f6 cO => ?_
   refine Zx ?_
   refine Zg fun f7 eM => ?_
   refine Zc (Za rfl rfl (Zd rfl) (Zf (Zb (eM _ _ ?_))))
   refine Zg fun f8 dZ => ?_
   refine Zg fun f9 eN => ?_
   refine Zc (Za rfl rfl (Ze rfl) (Zk rfl rfl ?_))
   refine Step.call (Zn (xs := [.tmp 26, .const (Go.Value.int Go.IntKind.i64 3)]) fk96 rfl) (Zal a4 _ (by omega)) fun eO ga c4 => ?_
   obtain ⟨d0, rfl, b2, U⟩ := c4
   have eP := U.size
   have E := E.trans U
   refine Za rfl rfl (Xu rfl) (Zf (Zb (eN _ _ ?_)))
   refine Zp rfl (fun b3 => ?_) (fun b3 => ?_)
   ·have c5 := b3
    refine Zc (Za rfl rfl (Ze rfl) (Za rfl rfl (Ze rfl) (Zk rfl rfl ?_)))
    refine Step.call (Zn (xs := [.tmp 29, .tmp 30]) fk42 rfl) (Xl b2 _ (by omega)) fun eQ gb c6 => ?_
    obtain ⟨aB, rfl, c7, cv, aZ⟩ := c6
    have eR := aZ.size
    have E := E.trans aZ
    refine Za rfl rfl (Zd rfl) (Zf (Zb (dZ _ _ ?_)))
    refine Zg fun gc d1 => ?_
    refine Zg fun gd eS => ?_
    refine Zc (Za rfl rfl (Ze rfl) (Za rfl rfl (Zeh rfl rfl) (Zf (Zb (eS _ _ ?_)))))
    refine Zp rfl (fun L => ?_) (fun L => ?_)
    ·have c8 := L
     have L := Yf L
     refine Zc (Za rfl rfl (Zd rfl) (Zf (Zb (d1 _ _ (Zc (Za rfl rfl (Ze rfl) (Za rfl rfl (Ze rfl) (Zk rfl rfl ?_))))))))
     refine Zo (cs := ics) (parts := [(0, .tmp 35)]) (0 : Int) [(-1)] el30 sz3 zr3 Yh (by decide) rfl rfl rfl (by decide) (by decide) rfl fun b4 ge Z a5 bj => ?_
     have eT := bj.size
     have E := E.trans bj.of_nil
     obtain ⟨a6, a7, rfl, a8, aS⟩ := Z.opn
     refine Zk rfl rfl ?_
     have eU := (((T.ch U (dS a hirv (by omega))).ch aZ (dS a hirv (by omega))).ch0 bj)
     refine Yd (cs := ics) el30 sz3 by3 zr3 rfl (by decide) Xn eU Z.ls rfl rfl (by first | omega | (simp only [List.length_append, List.length_nil, List.length_cons, List.length_replicate, List.length_set, List.length_reverse, List.length_map] at *; omega) | (simp at *; omega)) (by first | omega | (simp only [List.length_append, List.length_nil, List.length_cons, List.length_replicate, List.length_set, List.length_reverse, List.length_map] at *; omega) | (simp at *; omega)) a (by omega) fun b5 eV aa ac a9 bI => ?_
     have eW := bI.size
     have E := E.step bI (fun i hi => .inl (by have p := a _ hi; omega))
     obtain ⟨G, H, rfl, ba, aT⟩ := aa.opn
     refine Za rfl rfl (Zd rfl) (Zf (Zv (Zb (cO _ _ (Zc (Za rfl rfl (Ze rfl) (Za rfl rfl (Yk (by omega) rfl rfl) (Za rfl rfl (Zd rfl) ?_))))))))
     refine Zf ?_
     have b6 : Ol ics 3 1 eV (.slice G ((row ++ [(-1)])).length H) ((row ++ [(-1)])) := by
      have hx := aa
      exact hx
     have eX := ((cv.ch0 bj).ch bI (fun i hm => by have p := a _ hm; have q := hirv _ hm; omega))
     have eY := ((((R.ch U (nS (by omega))).ch aZ (nS (by omega))).ch0 bj).ch bI (fun hm => by have p := a _ hm; have q := hirv _ hm; omega))
     have eZ := ((((S.ch U (nS (by omega))).ch aZ (nS (by omega))).ch0 bj).ch bI (fun hm => by have p := a _ hm; have q := hirv _ hm; omega))
     have e0 := ((((V.ch U (dS c hiav (by omega))).ch aZ (dS c hiav (by omega))).ch0 bj).ch bI (fun g hg hm => by have p := a _ hm; have q := hirv _ hm; have O := c _ hg; have P := hiav _ hg; omega))
     have e1 := ((((X.ch U (dS b hinv (by omega))).ch aZ (dS b hinv (by omega))).ch0 bj).ch bI (fun g hg hm => by have p := a _ hm; have q := hirv _ hm; have O := b _ hg; have P := hinv _ hg; omega))
     have e2 := ((((Y.ch U (oS (by omega))).ch aZ (oS (by omega))).ch0 bj).ch bI (fun i hm => by have p := a _ hm; have q := hirv _ hm; omega))
     exact Zb (Exists.intro ((k + 1), (row ++ [(-1)]), (.slice G ((row ++ [(-1)])).length H)) ⟨⟨E, (by omega), ⟨by omega, by simp only [List.length_append, List.length_singleton]; omega⟩, eX, eY, eZ, e0, e1, e2, b6, (Lo.down ac (by omega))⟩, sC8 rfl rfl rfl rfl rfl rfl rfl rfl (Sub.nil _), (by first | omega | (dsimp only; omega))⟩)
    have c8 := L
    have L := Ye L
    refine Zq ?_
    refine Zb (d1 _ _ (Zc (Za rfl rfl (Ze rfl) (Za rfl rfl (Ze rfl) (Zk rfl rfl ?_)))))
    refine Zo (cs := ics) (parts := [(0, .tmp 35)]) (0 : Int) [aB] el30 sz3 zr3 Yh (by decide) rfl rfl rfl (by decide) (by decide) rfl fun b4 gf Z a5 bk => ?_
    have e3 := bk.size
    have E := E.trans bk.of_nil
    obtain ⟨a6, a7, rfl, a8, aS⟩ := Z.opn
    refine Zk rfl rfl ?_
    have e4 := (((T.ch U (dS a hirv (by omega))).ch aZ (dS a hirv (by omega))).ch0 bk)
    refine Yd (cs := ics) el30 sz3 by3 zr3 rfl (by decide) Xn e4 Z.ls rfl rfl (by first | omega | (simp only [List.length_append, List.length_nil, List.length_cons, List.length_replicate, List.length_set, List.length_reverse, List.length_map] at *; omega) | (simp at *; omega)) (by first | omega | (simp only [List.length_append, List.length_nil, List.length_cons, List.length_replicate, List.length_set, List.length_reverse, List.length_map] at *; omega) | (simp at *; omega)) a (by omega) fun b5 e5 aa ac a9 bJ => ?_
    have e6 := bJ.size
    have E := E.step bJ (fun i hi => .inl (by have p := a _ hi; omega))
    obtain ⟨G, H, rfl, ba, aT⟩ := aa.opn
    refine Za rfl rfl (Zd rfl) (Zf (Zv (Zb (cO _ _ (Zc (Za rfl rfl (Ze rfl) (Za rfl rfl (Yk (by omega) rfl rfl) (Za rfl rfl (Zd rfl) ?_))))))))
    refine Zf ?_
    have b7 : Ol ics 3 1 e5 (.slice G ((row ++ [aB])).length H) ((row ++ [aB])) := by
     have hx := aa
     exact hx
    have e7 := ((cv.ch0 bk).ch bJ (fun i hm => by have p := a _ hm; have q := hirv _ hm; omega))
    have e8 := ((((R.ch U (nS (by omega))).ch aZ (nS (by omega))).ch0 bk).ch bJ (fun hm => by have p := a _ hm; have q := hirv _ hm; omega))
    have e9 := ((((S.ch U (nS (by omega))).ch aZ (nS (by omega))).ch0 bk).ch bJ (fun hm => by have p := a _ hm; have q := hirv _ hm; omega))
    have fa := ((((V.ch U (dS c hiav (by omega))).ch aZ (dS c hiav (by omega))).ch0 bk).ch bJ (fun g hg hm => by have p := a _ hm; have q := hirv _ hm; have O := c _ hg; have P := hiav _ hg; omega))
    have fb := ((((X.ch U (dS b hinv (by omega))).ch aZ (dS b hinv (by omega))).ch0 bk).ch bJ (fun g hg hm => by have p := a _ hm; have q := hirv _ hm; have O := b _ hg; have P := hinv _ hg; omega))
    have fc := ((((Y.ch U (oS (by omega))).ch aZ (oS (by omega))).ch0 bk).ch bJ (fun i hm => by have p := a _ hm; have q := hirv _ hm; omega))
    exact Zb (Exists.intro ((k + 1), (row ++ [aB]), (.slice G ((row ++ [aB])).length H)) ⟨⟨E, (by omega), ⟨by omega, by simp only [List.length_append, List.length_singleton]; omega⟩, e7, e8, e9, fa, fb, fc, b7, (Lo.down ac (by omega))⟩, sC8 rfl rfl rfl rfl rfl rfl rfl rfl (Sub.nil _), (by first | omega | (dsimp only; omega))⟩)
   have c5 := b3
   refine Zq ?_
   refine Zb (dZ _ _ ?_)
   refine Zg fun gg d2 => ?_
   refine Zg fun gh fd => ?_
   refine Zc (Za rfl rfl (Ze rfl) (Za rfl rfl (Zeh rfl rfl) (Zf (Zb (fd _ _ ?_)))))
   refine Zp rfl (fun L => ?_) (fun L => ?_)
   ·have c9 := L
    have L := Yf L
    refine Zc (Za rfl rfl (Zd rfl) (Zf (Zb (d2 _ _ (Zc (Za rfl rfl (Ze rfl) (Za rfl rfl (Ze rfl) (Zk rfl rfl ?_))))))))
    refine Zo (cs := ics) (parts := [(0, .tmp 35)]) (0 : Int) [(-1)] el30 sz3 zr3 Yh (by decide) rfl rfl rfl (by decide) (by decide) rfl fun b4 gi Z a5 bm => ?_
    have fe := bm.size
    have E := E.trans bm.of_nil
    obtain ⟨a6, a7, rfl, a8, aS⟩ := Z.opn
    refine Zk rfl rfl ?_
    have ff := ((T.ch U (dS a hirv (by omega))).ch0 bm)
    refine Yd (cs := ics) el30 sz3 by3 zr3 rfl (by decide) Xn ff Z.ls rfl rfl (by first | omega | (simp only [List.length_append, List.length_nil, List.length_cons, List.length_replicate, List.length_set, List.length_reverse, List.length_map] at *; omega) | (simp at *; omega)) (by first | omega | (simp only [List.length_append, List.length_nil, List.length_cons, List.length_replicate, List.length_set, List.length_reverse, List.length_map] at *; omega) | (simp at *; omega)) a (by omega) fun b5 fg aa ac a9 bK => ?_
    have fh := bK.size
    have E := E.step bK (fun i hi => .inl (by have p := a _ hi; omega))
    obtain ⟨G, H, rfl, ba, aT⟩ := aa.opn
    refine Za rfl rfl (Zd rfl) (Zf (Zv (Zb (cO _ _ (Zc (Za rfl rfl (Ze rfl) (Za rfl rfl (Yk (by omega) rfl rfl) (Za rfl rfl (Zd rfl) ?_))))))))
    refine Zf ?_
    have b8 : Ol ics 3 1 fg (.slice G ((row ++ [(-1)])).length H) ((row ++ [(-1)])) := by
     have hx := aa
     exact hx
    have fi := ((b2.ch0 bm).ch bK (fun i hm => by have p := a _ hm; have q := hirv _ hm; omega))
    have fj := (((R.ch U (nS (by omega))).ch0 bm).ch bK (fun hm => by have p := a _ hm; have q := hirv _ hm; omega))
    have fk := (((S.ch U (nS (by omega))).ch0 bm).ch bK (fun hm => by have p := a _ hm; have q := hirv _ hm; omega))
    have fl := (((V.ch U (dS c hiav (by omega))).ch0 bm).ch bK (fun g hg hm => by have p := a _ hm; have q := hirv _ hm; have O := c _ hg; have P := hiav _ hg; omega))
    have fm := (((X.ch U (dS b hinv (by omega))).ch0 bm).ch bK (fun g hg hm => by have p := a _ hm; have q := hirv _ hm; have O := b _ hg; have P := hinv _ hg; omega))
    have fn := (((Y.ch U (oS (by omega))).ch0 bm).ch bK (fun i hm => by have p := a _ hm; have q := hirv _ hm; omega))
    exact Zb (Exists.intro ((k + 1), (row ++ [(-1)]), (.slice G ((row ++ [(-1)])).length H)) ⟨⟨E, (by omega), ⟨by omega, by simp only [List.length_append, List.length_singleton]; omega⟩, fi, fj, fk, fl, fm, fn, b8, (Lo.down ac (by omega))⟩, sC8 rfl rfl rfl rfl rfl rfl rfl rfl (Sub.nil _), (by first | omega | (dsimp only; omega))⟩)
   have c9 := L
   have L := Ye L
   refine Zq ?_
   refine Zb (d2 _ _ (Zc (Za rfl rfl (Ze rfl) (Za rfl rfl (Ze rfl) (Zk rfl rfl ?_)))))
   refine Zo (cs := ics) (parts := [(0, .tmp 35)]) (0 : Int) [(-1)] el30 sz3 zr3 Yh (by decide) rfl rfl rfl (by decide) (by decide) rfl fun b4 gj Z a5 bn => ?_
   have fo := bn.size
   have E := E.trans bn.of_nil
   obtain ⟨a6, a7, rfl, a8, aS⟩ := Z.opn
   refine Zk rfl rfl ?_
   have fp := ((T.ch U (dS a hirv (by omega))).ch0 bn)
   refine Yd (cs := ics) el30 sz3 by3 zr3 rfl (by decide) Xn fp Z.ls rfl rfl (by first | omega | (simp only [List.length_append, List.length_nil, List.length_cons, List.length_replicate, List.length_set, List.length_reverse, List.length_map] at *; omega) | (simp at *; omega)) (by first | omega | (simp only [List.length_append, List.length_nil, List.length_cons, List.length_replicate, List.length_set, List.length_reverse, List.length_map] at *; omega) | (simp at *; omega)) a (by omega) fun b5 fq aa ac a9 bL => ?_
   have fr := bL.size
   have E := E.step bL (fun i hi => .inl (by have p := a _ hi; omega))
   obtain ⟨G, H, rfl, ba, aT⟩ := aa.opn
   refine Za rfl rfl (Zd rfl) (Zf (Zv (Zb (cO _ _ (Zc (Za rfl rfl (Ze rfl) (Za rfl rfl (Yk (by omega) rfl rfl) (Za rfl rfl (Zd rfl) ?_))))))))
   refine Zf ?_
   have b9 : Ol ics 3 1 fq (.slice G ((row ++ [(-1)])).length H) ((row ++ [(-1)])) := by
    have hx := aa
    exact hx
   have fs := ((b2.ch0 bn).ch bL (fun i hm => by have p := a _ hm; have q := hirv _ hm; omega))
   have ft := (((R.ch U (nS (by omega))).ch0 bn).ch bL (fun hm => by have p := a _ hm; have q := hirv _ hm; omega))
   have fu := (((S.ch U (nS (by omega))).ch0 bn).ch bL (fun hm => by have p := a _ hm; have q := hirv _ hm; omega))
   have fv := (((V.ch U (dS c hiav (by omega))).ch0 bn).ch bL (fun g hg hm => by have p := a _ hm; have q := hirv _ hm; have O := c _ hg; have P := hiav _ hg; omega))
   have fw := (((X.ch U (dS b hinv (by omega))).ch0 bn).ch bL (fun g hg hm => by have p := a _ hm; have q := hirv _ hm; have O := b _ hg; have P := hinv _ hg; omega))
   have fx := (((Y.ch U (oS (by omega))).ch0 bn).ch bL (fun i hm => by have p := a _ hm; have q := hirv _ hm; omega))
   exact Zb (Exists.intro ((k + 1), (row ++ [(-1)]), (.slice G ((row ++ [(-1)])).length H)) ⟨⟨E, (by omega), ⟨by omega, by simp only [List.length_append, List.length_singleton]; omega⟩, fs, ft, fu, fv, fw, fx, b9, (Lo.down ac (by omega))⟩, sC8 rfl rfl rfl rfl rfl rfl rfl rfl (Sub.nil _), (by first | omega | (dsimp only; omega))⟩)
  have c3 := aR
  have aR := Ye aR
  refine Xc (Zs (Zs (Yu ?_)))
  refine Zb (eB _ _ ?_)
  refine Zg fun gk da => ?_
  refine Xg ([b_c] ++ (bl (.slice Aav (ab).length Cav)) ++ [Q]) 8 mixed rfl fun bb ad => ?_
  have fy := ad.size
  have E := E.trans ad.of_nil
  refine dV 0 rfl rfl rfl (fun _ => Zh fa27_1 rfl) (dV 2 rfl rfl rfl (fun _ => Ze rfl) ?_)
  refine Zas 1 3 (by kernel_rfl) ?_ ?_
  ·refine Yl rfl rfl rfl ?_
   have d3 := (S.ch0 ad)
   refine s_v (Zm d3.at_ agg24 rfl rfl) ?_
   refine ⟨(Ch.refl _ _), ?_⟩
   refine dO 3 (Yl rfl rfl rfl ?_)
   have fz := (a4.ch0 ad)
   refine Step.call (Zn (xs := [.tmp 40, .const (Go.Value.int Go.IntKind.i64 3)]) fk96 rfl) (Zal fz _ (by omega)) fun db fA ca => ?_
   obtain ⟨o, rfl, bp, bq⟩ := ca
   have fB := bq.size
   have E := E.trans bq
   have bM : Ch ([b_c] ++ (bl (.slice Aav (ab).length Cav)) ++ [Q]) bb fA := ((Ch.refl _ _).step bq (fun i hm => by have x := List.mem_singleton.1 hm; exact .inr (by rw [x]; exact (List.mem_append_left _ (List.mem_append_left _ (List.mem_singleton.2 rfl))))))
   refine ⟨bM, ?_⟩
   refine dO 4 (Yl rfl rfl rfl ?_)
   refine Zo (cs := bcs) (parts := [(0, .tmp 41)]) false [o] el24 sz4 zr4 Qq (by decide) rfl rfl rfl (by decide) (by decide) rfl fun cw fC aC bN bi => ?_
   have fD := bi.size
   have E := E.trans bi.of_nil
   obtain ⟨bO, bP, rfl, bQ, bc⟩ := aC.opn
   have bR : Ch ([b_c] ++ (bl (.slice Aav (ab).length Cav)) ++ [Q]) bb fC := (bM.trans bi.of_nil)
   refine ⟨bR, ?_⟩
   refine dO 5 (Yl rfl rfl rfl ?_)
   have fE := (((V.ch0 ad).ch bq (dS c hiav (by omega))).ch0 bi)
   refine Yd (cs := bcs) el24 sz4 by4 zr4 rfl (by decide) Zbo fE aC.ls rfl rfl (by first | omega | (simp only [List.length_append, List.length_nil, List.length_cons, List.length_replicate, List.length_set, List.length_reverse, List.length_map] at *; omega) | (simp at *; omega)) (by first | omega | (simp only [List.length_append, List.length_nil, List.length_cons, List.length_replicate, List.length_set, List.length_reverse, List.length_map] at *; omega) | (simp at *; omega)) c (by omega) fun cx fF aD aE j br => ?_
   have fG := br.size
   have E := E.step br (fun i hi => .inl (by have p := c _ hi; omega))
   obtain ⟨z, A, rfl, bS, d⟩ := aD.opn
   have bd : Ch ([b_c] ++ (bl (.slice Aav (ab).length Cav)) ++ [Q]) bb fF := (bR.step br (fun i hm => by exact .inr (List.mem_append_left _ (List.mem_append_right _ hm))))
   refine ⟨bd, ?_⟩
   refine dV 6 rfl rfl rfl (fun _ => Zh fa27_1 rfl) (dO 7 (Yl rfl rfl rfl ?_))
   have dc := (((d3.ch bq (nS (by omega))).ch0 bi).ch br (fun hm => by exact l (by first | exact hm | exact x ▸ hm)))
   refine Yv (off := 1) dc sz24 rfl rfl rfl rfl fun cy ah ai => ?_
   have d4 := ai.size
   have E := E.step ai (lS (by omega))
   replace ah : Blk cy Q 27 [(.int .i64 y), (.slice z ((ab ++ [o])).length A), (.slice Anv (vs).length Cnv)] := ah
   have cb : Ch ([b_c] ++ (bl (.slice Aav (ab).length Cav)) ++ [Q]) bb cy := (bd.step ai (fun i hm => by have x := List.mem_singleton.1 hm; exact .inr (by rw [x]; exact (List.mem_append_right _ (List.mem_singleton.2 rfl)))))
   refine ⟨cb, ?_⟩
   refine Yq (by kernel_rfl) ?_
   refine Zb (da _ _ (Zc (Za rfl rfl (Zh fa27_2 rfl) (Za rfl rfl (Zm ah.at_ agg25 rfl rfl) (Za rfl rfl (Ze rfl) (Zk rfl rfl ?_))))))
   refine Zo (cs := Sv.cs) (parts := [(0, .tmp 47)]) (⟨none, 0, 0⟩ : Sv) [(⟨Arv, (row).length, Crv⟩ : Sv)] el25 sz30 zr30 Sv.len (by decide) rfl rfl rfl (by decide) (by decide) rfl fun cz cA aF bT aj => ?_
   have d5 := aj.size
   have E := E.trans aj.of_nil
   obtain ⟨bU, bV, rfl, bW, be⟩ := aF.opn
   have cB := ((((((T.ch0 ad).ch bq (dS a hirv (by omega))).ch0 bi).ch br (fun g hg hm => by have p := c _ hm; have q := hiav _ hm; have O := a _ hg; have P := hirv _ hg; omega)).ch ai (dS a hirv (by omega))).ch0 aj)
   have bX : Rd ics 1 cA 0 cA.heap.size ([(⟨Arv, (row).length, Crv⟩ : Sv)]) ([row]) := (Rd.cons (cB.ls.up (by omega) (by omega)) Rd.nil)
   refine Zk rfl rfl ?_
   have dd := ((((((X.ch0 ad).ch bq (dS b hinv (by omega))).ch0 bi).ch br (fun g hg hm => by exact f _ hg hm)).ch ai (fun g hg hm => by have x := List.mem_singleton.1 hm; exact m (by first | exact hg | exact x ▸ hg))).ch0 aj)
   refine Yd (cs := Sv.cs) el25 sz30 by30 zr30 rfl (by decide) Sv.one dd aF.ls rfl rfl (by first | omega | (simp only [List.length_append, List.length_nil, List.length_cons, List.length_replicate, List.length_set, List.length_reverse, List.length_map] at *; omega) | (simp at *; omega)) (by first | omega | (simp only [List.length_append, List.length_nil, List.length_cons, List.length_replicate, List.length_set, List.length_reverse, List.length_map] at *; omega) | (simp at *; omega)) b (by omega) fun cC fH aG aH t aI => ?_
   have d6 := aI.size
   have E := E.step aI (fun i hi => .inl (by have p := b _ hi; omega))
   obtain ⟨I, J, rfl, bY, n⟩ := aG.opn
   refine Za rfl rfl (Zh fa27_2 rfl) (Zk rfl rfl ?_)
   have de := ((ah.ch0 aj).ch aI (fun hm => by exact m (by first | exact hm | exact x ▸ hm)))
   refine Yv (off := 2) de sz25 rfl rfl rfl rfl fun cc aU aJ => ?_
   have d7 := aJ.size
   have E := E.step aJ (lS (by omega))
   replace aU : Blk cc Q 27 [(.int .i64 y), (.slice z ((ab ++ [o])).length A), (.slice I ((vs ++ [(⟨Arv, (row).length, Crv⟩ : Sv)])).length J)] := aU
   refine Zf (Zv (Zb (cY _ _ (Zc (Za rfl rfl (Ze rfl) (Za rfl rfl (Yk (by omega) rfl rfl) (Za rfl rfl (Zd rfl) (Zf ?_))))))))
   have df := ((((aD.ch ai (fun g hg hm => by have x := List.mem_singleton.1 hm; rcases j with ea | ea; (rw [ea] at hg; exact l (by first | exact hg | exact x ▸ hg)); (have K := d _ hg; rw [ea] at hg; have F := List.mem_singleton.1 hg; omega))).ch0 aj).ch aI (fun g hg hm => by rcases j with ea | ea; (rw [ea] at hg; exact f _ hm hg); (have K := d _ hg; rw [ea] at hg; have F := List.mem_singleton.1 hg; have p := b _ hm; have q := hinv _ hm; omega))).ch aJ (fun g hg hm => by have x := List.mem_singleton.1 hm; rcases j with ea | ea; (rw [ea] at hg; exact l (by first | exact hg | exact x ▸ hg)); (have K := d _ hg; rw [ea] at hg; have F := List.mem_singleton.1 hg; omega)))
   have bs : Ol bcs 4 1 cc (.slice z ((ab ++ [o])).length A) ((ab ++ [o])) := by
    have hx := df
    exact hx
   have dg := (aG.ch aJ (fun g hg hm => by have x := List.mem_singleton.1 hm; rcases t with ea | ea; (rw [ea] at hg; exact m (by first | exact hg | exact x ▸ hg)); (have K := n _ hg; rw [ea] at hg; have F := List.mem_singleton.1 hg; omega)))
   have bu : Ol Sv.cs 30 1 cc (.slice I ((vs ++ [(⟨Arv, (row).length, Crv⟩ : Sv)])).length J) ((vs ++ [(⟨Arv, (row).length, Crv⟩ : Sv)])) := by
    have hx := dg
    exact hx
   have cd := ((((((((Y.ch0 ad).ch bq (oS (by omega))).ch0 bi).chS br C).ch ai (oS (by omega))).ch0 aj).chS aI D).ch aJ (oS (by omega)))
   have dh := ((cB.ch aI (fun g hg hm => by have p := b _ hm; have q := hinv _ hm; have O := a _ hg; have P := hirv _ hg; omega)).ch aJ (dS a hirv (by omega)))
   have di := ((((((bp.ch0 bi).ch br (fun i hm => by have p := c _ hm; have q := hiav _ hm; omega)).ch ai (oS (by omega))).ch0 aj).ch aI (fun i hm => by have p := b _ hm; have q := hinv _ hm; omega)).ch aJ (oS (by omega)))
   have dj := ((((((((R.ch0 ad).ch bq (nS (by omega))).ch0 bi).ch br (fun hm => by have p := c _ hm; have q := hiav _ hm; omega)).ch ai (nS (by omega))).ch0 aj).ch aI (fun hm => by have p := b _ hm; have q := hinv _ hm; omega)).ch aJ (nS (by omega)))
   exact Zb (Exists.intro ((s + 1), (ab ++ [o]), (vs ++ [(⟨Arv, (row).length, Crv⟩ : Sv)]), (rs ++ [row]), (.slice z ((ab ++ [o])).length A), (.slice I ((vs ++ [(⟨Arv, (row).length, Crv⟩ : Sv)])).length J)) ⟨⟨E, (by omega), (by omega), (by simp only [List.length_append, List.length_singleton]; omega), (fun r h => by rcases List.mem_append.1 h with h | h; exact hr r h; rw [List.mem_singleton.1 h]; omega), di, dj, bs, (Lo.down aE (by omega)), bu, (Lo.down aH (by omega)), (Od.snoc cd (v := (⟨Arv, (row).length, Crv⟩ : Sv)) dh (Lo.down a (by omega)) (fun g hg => by have p := hirv g hg; omega) (by omega) (by omega)), aU, (fun hm => by rcases j with ea | ea; (rw [ea] at hm; exact l (by first | exact hm | exact x ▸ hm)); (have B := d _ hm; rw [ea] at hm; have F := List.mem_singleton.1 hm; omega)), (fun g hm hg => by rcases t with ea | ea; (rw [ea] at hm; rcases j with ea | ea; (rw [ea] at hg; exact f _ hm hg); (have K := d _ hg; rw [ea] at hg; have F := List.mem_singleton.1 hg; have p := b _ hm; have q := hinv _ hm; omega)); (have B := n _ hm; rw [ea] at hm; have F := List.mem_singleton.1 hm; rcases j with ea | ea; (rw [ea] at hg; have O := c _ hg; have P := hiav _ hg; omega); (have K := d _ hg; rw [ea] at hg; have F := List.mem_singleton.1 hg; omega))), (fun hm => by rcases t with ea | ea; (rw [ea] at hm; exact m (by first | exact hm | exact x ▸ hm)); (have B := n _ hm; rw [ea] at hm; have F := List.mem_singleton.1 hm; omega)), (fun u hu g hg hm => by rcases List.mem_append.1 hu with hu | hu; (rcases j with ea | ea; (rw [ea] at hm; exact C _ hu _ hg hm); (have B := d _ hm; rw [ea] at hm; have F := List.mem_singleton.1 hm; have cD := cd.rng hu hg; omega)); (rw [List.mem_singleton.1 hu] at hg; replace hg : g ∈ bl (.slice Arv (row).length Crv) := hg; rcases j with ea | ea; (rw [ea] at hm; have p := c _ hm; have q := hiav _ hm; have O := a _ hg; have P := hirv _ hg; omega); (have B := d _ hm; rw [ea] at hm; have F := List.mem_singleton.1 hm; have O := a _ hg; have P := hirv _ hg; omega))), (fun u hu g hg hm => by rcases List.mem_append.1 hu with hu | hu; (rcases t with ea | ea; (rw [ea] at hm; exact D _ hu _ hg hm); (have B := n _ hm; rw [ea] at hm; have F := List.mem_singleton.1 hm; have cD := cd.rng hu hg; omega)); (rw [List.mem_singleton.1 hu] at hg; replace hg : g ∈ bl (.slice Arv (row).length Crv) := hg; rcases t with ea | ea; (rw [ea] at hm; have p := b _ hm; have q := hinv _ hm; have O := a _ hg; have P := hirv _ hg; omega); (have B := n _ hm; rw [ea] at hm; have F := List.mem_singleton.1 hm; have O := a _ hg; have P := hirv _ hg; omega)))⟩, sC4 rfl rfl rfl rfl (sC1 rfl (Sub.nil _)), (by first | omega | (dsimp only; omega))⟩)
  refine Yl rfl rfl rfl ?_
  have dk := (a4.ch0 ad)
  refine Step.call (Zn (xs := [.tmp 40, .const (Go.Value.int Go.IntKind.i64 3)]) fk96 rfl) (Zal dk _ (by omega)) fun db dl ca => ?_
  obtain ⟨o, rfl, bp, M⟩ := ca
  have d8 := M.size
  have E := E.trans M
  have ak : Ch ([b_c] ++ (bl (.slice Aav (ab).length Cav)) ++ [Q]) bb dl := ((Ch.refl _ _).step M (fun i hm => by have x := List.mem_singleton.1 hm; exact .inr (by rw [x]; exact (List.mem_append_left _ (List.mem_append_left _ (List.mem_singleton.2 rfl))))))
  refine ⟨ak, ?_⟩
  refine Zas 1 4 (by kernel_rfl) ?_ ?_
  ·refine Yl rfl rfl rfl ?_
   have cE := ((S.ch0 ad).ch M (nS (by omega)))
   refine s_v (Zm cE.at_ agg24 rfl rfl) ?_
   refine ⟨ak, ?_⟩
   refine dO 4 (Yl rfl rfl rfl ?_)
   refine Zo (cs := bcs) (parts := [(0, .tmp 41)]) false [o] el24 sz4 zr4 Qq (by decide) rfl rfl rfl (by decide) (by decide) rfl fun cw dm aC bN ae => ?_
   have d9 := ae.size
   have E := E.trans ae.of_nil
   obtain ⟨bO, bP, rfl, bQ, bc⟩ := aC.opn
   have bf : Ch ([b_c] ++ (bl (.slice Aav (ab).length Cav)) ++ [Q]) bb dm := (ak.trans ae.of_nil)
   refine ⟨bf, ?_⟩
   refine dO 5 (Yl rfl rfl rfl ?_)
   have dn := (((V.ch0 ad).ch M (dS c hiav (by omega))).ch0 ae)
   refine Yd (cs := bcs) el24 sz4 by4 zr4 rfl (by decide) Zbo dn aC.ls rfl rfl (by first | omega | (simp only [List.length_append, List.length_nil, List.length_cons, List.length_replicate, List.length_set, List.length_reverse, List.length_map] at *; omega) | (simp at *; omega)) (by first | omega | (simp only [List.length_append, List.length_nil, List.length_cons, List.length_replicate, List.length_set, List.length_reverse, List.length_map] at *; omega) | (simp at *; omega)) c (by omega) fun cx dp aD aE j al => ?_
   have eb := al.size
   have E := E.step al (fun i hi => .inl (by have p := c _ hi; omega))
   obtain ⟨z, A, rfl, bS, d⟩ := aD.opn
   have bg : Ch ([b_c] ++ (bl (.slice Aav (ab).length Cav)) ++ [Q]) bb dp := (bf.step al (fun i hm => by exact .inr (List.mem_append_left _ (List.mem_append_right _ hm))))
   refine ⟨bg, ?_⟩
   refine dV 6 rfl rfl rfl (fun _ => Zh fa27_1 rfl) (dO 7 (Yl rfl rfl rfl ?_))
   have dq := ((cE.ch0 ae).ch al (fun hm => by exact l (by first | exact hm | exact x ▸ hm)))
   refine Yv (off := 1) dq sz24 rfl rfl rfl rfl fun cF am an => ?_
   have ec := an.size
   have E := E.step an (lS (by omega))
   replace am : Blk cF Q 27 [(.int .i64 y), (.slice z ((ab ++ [o])).length A), (.slice Anv (vs).length Cnv)] := am
   have ce : Ch ([b_c] ++ (bl (.slice Aav (ab).length Cav)) ++ [Q]) bb cF := (bg.step an (fun i hm => by have x := List.mem_singleton.1 hm; exact .inr (by rw [x]; exact (List.mem_append_right _ (List.mem_singleton.2 rfl)))))
   refine ⟨ce, ?_⟩
   refine Yq (by kernel_rfl) ?_
   refine Zb (da _ _ (Zc (Za rfl rfl (Zh fa27_2 rfl) (Za rfl rfl (Zm am.at_ agg25 rfl rfl) (Za rfl rfl (Ze rfl) (Zk rfl rfl ?_))))))
   refine Zo (cs := Sv.cs) (parts := [(0, .tmp 47)]) (⟨none, 0, 0⟩ : Sv) [(⟨Arv, (row).length, Crv⟩ : Sv)] el25 sz30 zr30 Sv.len (by decide) rfl rfl rfl (by decide) (by decide) rfl fun cz cG aF bT ao => ?_
   have ed := ao.size
   have E := E.trans ao.of_nil
   obtain ⟨bU, bV, rfl, bW, be⟩ := aF.opn
   have cH := ((((((T.ch0 ad).ch M (dS a hirv (by omega))).ch0 ae).ch al (fun g hg hm => by have p := c _ hm; have q := hiav _ hm; have O := a _ hg; have P := hirv _ hg; omega)).ch an (dS a hirv (by omega))).ch0 ao)
   have bX : Rd ics 1 cG 0 cG.heap.size ([(⟨Arv, (row).length, Crv⟩ : Sv)]) ([row]) := (Rd.cons (cH.ls.up (by omega) (by omega)) Rd.nil)
   refine Zk rfl rfl ?_
   have dr := ((((((X.ch0 ad).ch M (dS b hinv (by omega))).ch0 ae).ch al (fun g hg hm => by exact f _ hg hm)).ch an (fun g hg hm => by have x := List.mem_singleton.1 hm; exact m (by first | exact hg | exact x ▸ hg))).ch0 ao)
   refine Yd (cs := Sv.cs) el25 sz30 by30 zr30 rfl (by decide) Sv.one dr aF.ls rfl rfl (by first | omega | (simp only [List.length_append, List.length_nil, List.length_cons, List.length_replicate, List.length_set, List.length_reverse, List.length_map] at *; omega) | (simp at *; omega)) (by first | omega | (simp only [List.length_append, List.length_nil, List.length_cons, List.length_replicate, List.length_set, List.length_reverse, List.length_map] at *; omega) | (simp at *; omega)) b (by omega) fun cC fI aG aH t aK => ?_
   have ee := aK.size
   have E := E.step aK (fun i hi => .inl (by have p := b _ hi; omega))
   obtain ⟨I, J, rfl, bY, n⟩ := aG.opn
   refine Za rfl rfl (Zh fa27_2 rfl) (Zk rfl rfl ?_)
   have ds := ((am.ch0 ao).ch aK (fun hm => by exact m (by first | exact hm | exact x ▸ hm)))
   refine Yv (off := 2) ds sz25 rfl rfl rfl rfl fun cf aV aL => ?_
   have ef := aL.size
   have E := E.step aL (lS (by omega))
   replace aV : Blk cf Q 27 [(.int .i64 y), (.slice z ((ab ++ [o])).length A), (.slice I ((vs ++ [(⟨Arv, (row).length, Crv⟩ : Sv)])).length J)] := aV
   refine Zf (Zv (Zb (cY _ _ (Zc (Za rfl rfl (Ze rfl) (Za rfl rfl (Yk (by omega) rfl rfl) (Za rfl rfl (Zd rfl) (Zf ?_))))))))
   have dt := ((((aD.ch an (fun g hg hm => by have x := List.mem_singleton.1 hm; rcases j with ea | ea; (rw [ea] at hg; exact l (by first | exact hg | exact x ▸ hg)); (have K := d _ hg; rw [ea] at hg; have F := List.mem_singleton.1 hg; omega))).ch0 ao).ch aK (fun g hg hm => by rcases j with ea | ea; (rw [ea] at hg; exact f _ hm hg); (have K := d _ hg; rw [ea] at hg; have F := List.mem_singleton.1 hg; have p := b _ hm; have q := hinv _ hm; omega))).ch aL (fun g hg hm => by have x := List.mem_singleton.1 hm; rcases j with ea | ea; (rw [ea] at hg; exact l (by first | exact hg | exact x ▸ hg)); (have K := d _ hg; rw [ea] at hg; have F := List.mem_singleton.1 hg; omega)))
   have bv : Ol bcs 4 1 cf (.slice z ((ab ++ [o])).length A) ((ab ++ [o])) := by
    have hx := dt
    exact hx
   have du := (aG.ch aL (fun g hg hm => by have x := List.mem_singleton.1 hm; rcases t with ea | ea; (rw [ea] at hg; exact m (by first | exact hg | exact x ▸ hg)); (have K := n _ hg; rw [ea] at hg; have F := List.mem_singleton.1 hg; omega)))
   have bw : Ol Sv.cs 30 1 cf (.slice I ((vs ++ [(⟨Arv, (row).length, Crv⟩ : Sv)])).length J) ((vs ++ [(⟨Arv, (row).length, Crv⟩ : Sv)])) := by
    have hx := du
    exact hx
   have cg := ((((((((Y.ch0 ad).ch M (oS (by omega))).ch0 ae).chS al C).ch an (oS (by omega))).ch0 ao).chS aK D).ch aL (oS (by omega)))
   have dv := ((cH.ch aK (fun g hg hm => by have p := b _ hm; have q := hinv _ hm; have O := a _ hg; have P := hirv _ hg; omega)).ch aL (dS a hirv (by omega)))
   have dw := ((((((bp.ch0 ae).ch al (fun i hm => by have p := c _ hm; have q := hiav _ hm; omega)).ch an (oS (by omega))).ch0 ao).ch aK (fun i hm => by have p := b _ hm; have q := hinv _ hm; omega)).ch aL (oS (by omega)))
   have dx := ((((((((R.ch0 ad).ch M (nS (by omega))).ch0 ae).ch al (fun hm => by have p := c _ hm; have q := hiav _ hm; omega)).ch an (nS (by omega))).ch0 ao).ch aK (fun hm => by have p := b _ hm; have q := hinv _ hm; omega)).ch aL (nS (by omega)))
   exact Zb (Exists.intro ((s + 1), (ab ++ [o]), (vs ++ [(⟨Arv, (row).length, Crv⟩ : Sv)]), (rs ++ [row]), (.slice z ((ab ++ [o])).length A), (.slice I ((vs ++ [(⟨Arv, (row).length, Crv⟩ : Sv)])).length J)) ⟨⟨E, (by omega), (by omega), (by simp only [List.length_append, List.length_singleton]; omega), (fun r h => by rcases List.mem_append.1 h with h | h; exact hr r h; rw [List.mem_singleton.1 h]; omega), dw, dx, bv, (Lo.down aE (by omega)), bw, (Lo.down aH (by omega)), (Od.snoc cg (v := (⟨Arv, (row).length, Crv⟩ : Sv)) dv (Lo.down a (by omega)) (fun g hg => by have p := hirv g hg; omega) (by omega) (by omega)), aV, (fun hm => by rcases j with ea | ea; (rw [ea] at hm; exact l (by first | exact hm | exact x ▸ hm)); (have B := d _ hm; rw [ea] at hm; have F := List.mem_singleton.1 hm; omega)), (fun g hm hg => by rcases t with ea | ea; (rw [ea] at hm; rcases j with ea | ea; (rw [ea] at hg; exact f _ hm hg); (have K := d _ hg; rw [ea] at hg; have F := List.mem_singleton.1 hg; have p := b _ hm; have q := hinv _ hm; omega)); (have B := n _ hm; rw [ea] at hm; have F := List.mem_singleton.1 hm; rcases j with ea | ea; (rw [ea] at hg; have O := c _ hg; have P := hiav _ hg; omega); (have K := d _ hg; rw [ea] at hg; have F := List.mem_singleton.1 hg; omega))), (fun hm => by rcases t with ea | ea; (rw [ea] at hm; exact m (by first | exact hm | exact x ▸ hm)); (have B := n _ hm; rw [ea] at hm; have F := List.mem_singleton.1 hm; omega)), (fun u hu g hg hm => by rcases List.mem_append.1 hu with hu | hu; (rcases j with ea | ea; (rw [ea] at hm; exact C _ hu _ hg hm); (have B := d _ hm; rw [ea] at hm; have F := List.mem_singleton.1 hm; have cD := cg.rng hu hg; omega)); (rw [List.mem_singleton.1 hu] at hg; replace hg : g ∈ bl (.slice Arv (row).length Crv) := hg; rcases j with ea | ea; (rw [ea] at hm; have p := c _ hm; have q := hiav _ hm; have O := a _ hg; have P := hirv _ hg; omega); (have B := d _ hm; rw [ea] at hm; have F := List.mem_singleton.1 hm; have O := a _ hg; have P := hirv _ hg; omega))), (fun u hu g hg hm => by rcases List.mem_append.1 hu with hu | hu; (rcases t with ea | ea; (rw [ea] at hm; exact D _ hu _ hg hm); (have B := n _ hm; rw [ea] at hm; have F := List.mem_singleton.1 hm; have cD := cg.rng hu hg; omega)); (rw [List.mem_singleton.1 hu] at hg; replace hg : g ∈ bl (.slice Arv (row).length Crv) := hg; rcases t with ea | ea; (rw [ea] at hm; have p := b _ hm; have q := hinv _ hm; have O := a _ hg; have P := hirv _ hg; omega); (have B := n _ hm; rw [ea] at hm; have F := List.mem_singleton.1 hm; have O := a _ hg; have P := hirv _ hg; omega)))⟩, sC4 rfl rfl rfl rfl (sC1 rfl (Sub.nil _)), (by first | omega | (dsimp only; omega))⟩)
  refine Yl rfl rfl rfl ?_
  refine Zo (cs := bcs) (parts := [(0, .tmp 41)]) false [o] el24 sz4 zr4 Qq (by decide) rfl rfl rfl (by decide) (by decide) rfl fun cw dy aC bN af => ?_
  have eg := af.size
  have E := E.trans af.of_nil
  obtain ⟨bO, bP, rfl, bQ, bc⟩ := aC.opn
  have aW : Ch ([b_c] ++ (bl (.slice Aav (ab).length Cav)) ++ [Q]) bb dy := (ak.trans af.of_nil)
  refine ⟨aW, ?_⟩
  refine dO 1 (Yl rfl rfl rfl ?_)
  have cI := (((S.ch0 ad).ch M (nS (by omega))).ch0 af)
  refine s_v (Zm cI.at_ agg24 rfl rfl) ?_
  refine ⟨aW, ?_⟩
  refine dO 5 (Yl rfl rfl rfl ?_)
  have dz := (((V.ch0 ad).ch M (dS c hiav (by omega))).ch0 af)
  refine Yd (cs := bcs) el24 sz4 by4 zr4 rfl (by decide) Zbo dz aC.ls rfl rfl (by first | omega | (simp only [List.length_append, List.length_nil, List.length_cons, List.length_replicate, List.length_set, List.length_reverse, List.length_map] at *; omega) | (simp at *; omega)) (by first | omega | (simp only [List.length_append, List.length_nil, List.length_cons, List.length_replicate, List.length_set, List.length_reverse, List.length_map] at *; omega) | (simp at *; omega)) c (by omega) fun cx dA aD aE j ap => ?_
  have eh := ap.size
  have E := E.step ap (fun i hi => .inl (by have p := c _ hi; omega))
  obtain ⟨z, A, rfl, bS, d⟩ := aD.opn
  have bh : Ch ([b_c] ++ (bl (.slice Aav (ab).length Cav)) ++ [Q]) bb dA := (aW.step ap (fun i hm => by exact .inr (List.mem_append_left _ (List.mem_append_right _ hm))))
  refine ⟨bh, ?_⟩
  refine dV 6 rfl rfl rfl (fun _ => Zh fa27_1 rfl) (dO 7 (Yl rfl rfl rfl ?_))
  have dB := (cI.ch ap (fun hm => by exact l (by first | exact hm | exact x ▸ hm)))
  refine Yv (off := 1) dB sz24 rfl rfl rfl rfl fun cJ aq au => ?_
  have ei := au.size
  have E := E.step au (lS (by omega))
  replace aq : Blk cJ Q 27 [(.int .i64 y), (.slice z ((ab ++ [o])).length A), (.slice Anv (vs).length Cnv)] := aq
  have ci : Ch ([b_c] ++ (bl (.slice Aav (ab).length Cav)) ++ [Q]) bb cJ := (bh.step au (fun i hm => by have x := List.mem_singleton.1 hm; exact .inr (by rw [x]; exact (List.mem_append_right _ (List.mem_singleton.2 rfl)))))
  refine ⟨ci, ?_⟩
  refine Yq (by kernel_rfl) ?_
  refine Zb (da _ _ (Zc (Za rfl rfl (Zh fa27_2 rfl) (Za rfl rfl (Zm aq.at_ agg25 rfl rfl) (Za rfl rfl (Ze rfl) (Zk rfl rfl ?_))))))
  refine Zo (cs := Sv.cs) (parts := [(0, .tmp 47)]) (⟨none, 0, 0⟩ : Sv) [(⟨Arv, (row).length, Crv⟩ : Sv)] el25 sz30 zr30 Sv.len (by decide) rfl rfl rfl (by decide) (by decide) rfl fun cz cK aF bT aw => ?_
  have ej := aw.size
  have E := E.trans aw.of_nil
  obtain ⟨bU, bV, rfl, bW, be⟩ := aF.opn
  have cL := ((((((T.ch0 ad).ch M (dS a hirv (by omega))).ch0 af).ch ap (fun g hg hm => by have p := c _ hm; have q := hiav _ hm; have O := a _ hg; have P := hirv _ hg; omega)).ch au (dS a hirv (by omega))).ch0 aw)
  have bX : Rd ics 1 cK 0 cK.heap.size ([(⟨Arv, (row).length, Crv⟩ : Sv)]) ([row]) := (Rd.cons (cL.ls.up (by omega) (by omega)) Rd.nil)
  refine Zk rfl rfl ?_
  have dC := ((((((X.ch0 ad).ch M (dS b hinv (by omega))).ch0 af).ch ap (fun g hg hm => by exact f _ hg hm)).ch au (fun g hg hm => by have x := List.mem_singleton.1 hm; exact m (by first | exact hg | exact x ▸ hg))).ch0 aw)
  refine Yd (cs := Sv.cs) el25 sz30 by30 zr30 rfl (by decide) Sv.one dC aF.ls rfl rfl (by first | omega | (simp only [List.length_append, List.length_nil, List.length_cons, List.length_replicate, List.length_set, List.length_reverse, List.length_map] at *; omega) | (simp at *; omega)) (by first | omega | (simp only [List.length_append, List.length_nil, List.length_cons, List.length_replicate, List.length_set, List.length_reverse, List.length_map] at *; omega) | (simp at *; omega)) b (by omega) fun cC fJ aG aH t aM => ?_
  have ek := aM.size
  have E := E.step aM (fun i hi => .inl (by have p := b _ hi; omega))
  obtain ⟨I, J, rfl, bY, n⟩ := aG.opn
  refine Za rfl rfl (Zh fa27_2 rfl) (Zk rfl rfl ?_)
  have dD := ((aq.ch0 aw).ch aM (fun hm => by exact m (by first | exact hm | exact x ▸ hm)))
  refine Yv (off := 2) dD sz25 rfl rfl rfl rfl fun cj aX aN => ?_
  have el := aN.size
  have E := E.step aN (lS (by omega))
  replace aX : Blk cj Q 27 [(.int .i64 y), (.slice z ((ab ++ [o])).length A), (.slice I ((vs ++ [(⟨Arv, (row).length, Crv⟩ : Sv)])).length J)] := aX
  refine Zf (Zv (Zb (cY _ _ (Zc (Za rfl rfl (Ze rfl) (Za rfl rfl (Yk (by omega) rfl rfl) (Za rfl rfl (Zd rfl) (Zf ?_))))))))
  have dE := ((((aD.ch au (fun g hg hm => by have x := List.mem_singleton.1 hm; rcases j with ea | ea; (rw [ea] at hg; exact l (by first | exact hg | exact x ▸ hg)); (have K := d _ hg; rw [ea] at hg; have F := List.mem_singleton.1 hg; omega))).ch0 aw).ch aM (fun g hg hm => by rcases j with ea | ea; (rw [ea] at hg; exact f _ hm hg); (have K := d _ hg; rw [ea] at hg; have F := List.mem_singleton.1 hg; have p := b _ hm; have q := hinv _ hm; omega))).ch aN (fun g hg hm => by have x := List.mem_singleton.1 hm; rcases j with ea | ea; (rw [ea] at hg; exact l (by first | exact hg | exact x ▸ hg)); (have K := d _ hg; rw [ea] at hg; have F := List.mem_singleton.1 hg; omega)))
  have bz : Ol bcs 4 1 cj (.slice z ((ab ++ [o])).length A) ((ab ++ [o])) := by
   have hx := dE
   exact hx
  have dF := (aG.ch aN (fun g hg hm => by have x := List.mem_singleton.1 hm; rcases t with ea | ea; (rw [ea] at hg; exact m (by first | exact hg | exact x ▸ hg)); (have K := n _ hg; rw [ea] at hg; have F := List.mem_singleton.1 hg; omega)))
  have bA : Ol Sv.cs 30 1 cj (.slice I ((vs ++ [(⟨Arv, (row).length, Crv⟩ : Sv)])).length J) ((vs ++ [(⟨Arv, (row).length, Crv⟩ : Sv)])) := by
   have hx := dF
   exact hx
  have ck := ((((((((Y.ch0 ad).ch M (oS (by omega))).ch0 af).chS ap C).ch au (oS (by omega))).ch0 aw).chS aM D).ch aN (oS (by omega)))
  have dG := ((cL.ch aM (fun g hg hm => by have p := b _ hm; have q := hinv _ hm; have O := a _ hg; have P := hirv _ hg; omega)).ch aN (dS a hirv (by omega)))
  have dH := ((((((bp.ch0 af).ch ap (fun i hm => by have p := c _ hm; have q := hiav _ hm; omega)).ch au (oS (by omega))).ch0 aw).ch aM (fun i hm => by have p := b _ hm; have q := hinv _ hm; omega)).ch aN (oS (by omega)))
  have dI := ((((((((R.ch0 ad).ch M (nS (by omega))).ch0 af).ch ap (fun hm => by have p := c _ hm; have q := hiav _ hm; omega)).ch au (nS (by omega))).ch0 aw).ch aM (fun hm => by have p := b _ hm; have q := hinv _ hm; omega)).ch aN (nS (by omega)))
  exact Zb (Exists.intro ((s + 1), (ab ++ [o]), (vs ++ [(⟨Arv, (row).length, Crv⟩ : Sv)]), (rs ++ [row]), (.slice z ((ab ++ [o])).length A), (.slice I ((vs ++ [(⟨Arv, (row).length, Crv⟩ : Sv)])).length J)) ⟨⟨E, (by omega), (by omega), (by simp only [List.length_append, List.length_singleton]; omega), (fun r h => by rcases List.mem_append.1 h with h | h; exact hr r h; rw [List.mem_singleton.1 h]; omega), dH, dI, bz, (Lo.down aE (by omega)), bA, (Lo.down aH (by omega)), (Od.snoc ck (v := (⟨Arv, (row).length, Crv⟩ : Sv)) dG (Lo.down a (by omega)) (fun g hg => by have p := hirv g hg; omega) (by omega) (by omega)), aX, (fun hm => by rcases j with ea | ea; (rw [ea] at hm; exact l (by first | exact hm | exact x ▸ hm)); (have B := d _ hm; rw [ea] at hm; have F := List.mem_singleton.1 hm; omega)), (fun g hm hg => by rcases t with ea | ea; (rw [ea] at hm; rcases j with ea | ea; (rw [ea] at hg; exact f _ hm hg); (have K := d _ hg; rw [ea] at hg; have F := List.mem_singleton.1 hg; have p := b _ hm; have q := hinv _ hm; omega)); (have B := n _ hm; rw [ea] at hm; have F := List.mem_singleton.1 hm; rcases j with ea | ea; (rw [ea] at hg; have O := c _ hg; have P := hiav _ hg; omega); (have K := d _ hg; rw [ea] at hg; have F := List.mem_singleton.1 hg; omega))), (fun hm => by rcases t with ea | ea; (rw [ea] at hm; exact m (by first | exact hm | exact x ▸ hm)); (have B := n _ hm; rw [ea] at hm; have F := List.mem_singleton.1 hm; omega)), (fun u hu g hg hm => by rcases List.mem_append.1 hu with hu | hu; (rcases j with ea | ea; (rw [ea] at hm; exact C _ hu _ hg hm); (have B := d _ hm; rw [ea] at hm; have F := List.mem_singleton.1 hm; have cD := ck.rng hu hg; omega)); (rw [List.mem_singleton.1 hu] at hg; replace hg : g ∈ bl (.slice Arv (row).length Crv) := hg; rcases j with ea | ea; (rw [ea] at hm; have p := c _ hm; have q := hiav _ hm; have O := a _ hg; have P := hirv _ hg; omega); (have B := d _ hm; rw [ea] at hm; have F := List.mem_singleton.1 hm; have O := a _ hg; have P := hirv _ hg; omega))), (fun u hu g hg hm => by rcases List.mem_append.1 hu with hu | hu; (rcases t with ea | ea; (rw [ea] at hm; exact D _ hu _ hg hm); (have B := n _ hm; rw [ea] at hm; have F := List.mem_singleton.1 hm; have cD := ck.rng hu hg; omega)); (rw [List.mem_singleton.1 hu] at hg; replace hg : g ∈ bl (.slice Arv (row).length Crv) := hg; rcases t with ea | ea; (rw [ea] at hm; have p := b _ hm; have q := hinv _ hm; have O := a _ hg; have P := hirv _ hg; omega); (have B := n _ hm; rw [ea] at hm; have F := List.mem_singleton.1 hm; have O := a _ hg; have P := hirv _ hg; omega)))⟩, sC4 rfl rfl rfl rfl (sC1 rfl (Sub.nil _)), (by first | omega | (dsimp only; omega))⟩)
 have cX := aQ
 have aQ := Ye aQ
 refine Xc (Zs (Zs (Yu ?_)))
 refine Zb (ep _ _ ?_)
 refine Zg fun fK dJ => ?_
 refine Zc (Za rfl rfl (Zw bD.at_ agg27 sz27 rfl) (Zk rfl rfl ?_))
 refine Zt (off := 0) 3 a3 sz27 rfl (us := [(.int .i64 y), (.slice Aav (ab).length Cav), (.slice Anv (vs).length Cnv)]) rfl rfl rfl rfl fun a0 aY a1 => ?_
 have em := a1.size
 have E := E.step a1 (lS (by omega))
 replace aY : Blk a0 cp 27 [(.int .i64 y), (.slice Aav (ab).length Cav), (.slice Anv (vs).length Cnv)] := aY
 refine Zf (Zb (dJ _ _ ?_))
 refine Zr ?_
 have dL := (aO.ch a1 (dS c hiav (by omega)))
 have cm : Ol bcs 4 1 a0 (.slice Aav (ab).length Cav) (ab) := by
  have hx := dL
  first | exact hx | simpa using hx
 have dM := (aP.ch a1 (dS b hinv (by omega)))
 have dN := (od.ch a1 (oS (by omega)))
 have cn : Ol Sv.cs 30 1 a0 (.slice Anv (vs).length Cnv) vs := by
  have hx := dM
  exact hx
 have co : Od ics 3 1 a0 w.heap.size a0.heap.size vs (rs) := by
  have hx := dN.up (lo' := w.heap.size) (hi' := a0.heap.size) (by omega) (by omega)
  exact hx
 have dP := (bC.ch a1 (oS (by omega)))
 exact Zi [_] (Zu aY rfl agg27 sz27 trivial) ⟨y, ab, rs, (.slice Aav (ab).length Cav), (.slice Anv (vs).length Cnv), vs, (congrArg (fun zq => (Value.agg #[.int .i64 zq, (.slice Aav (ab).length Cav), (.slice Anv (vs).length Cnv)])) (by first | rfl | simp_all)), cm, (Lo.down c (by omega)), cn, (Lo.down b (by omega)), co, D, (fun g hm hg => by exact f _ hg hm), C, (by omega), hr, dP, E⟩

/-- spec.l10Accepts -/
theorem Zan {w : World} {LL_pL o : Nat} {c : Value} {pL : List Int} (a : Ls ics 1 w LL_pL o c pL) (pfirst : Int) (plast : Int) {LL_pF p : Nat} {e : Value} {pF : List Int} (b : Ls ics 1 w LL_pF p e pF) (pnull : Bool) (set : Int) :
 Ctr Try.prog 136 #[(.agg #[c, (.int .i64 pfirst), (.int .i64 plast), e, (.bool pnull)]), (.int .i64 set)] w (fun v w' => v = .bool (accB plast pnull set) ∧ Ch [] w w') := by
 obtain ⟨f, g, j⟩ := a.val
 subst j
 have q := a.len
 have a := a.here (by decide)
 obtain ⟨h, i, k⟩ := b.val
 subst k
 have r := b.len
 have b := b.here (by decide)
 have E := Ch.refl [] w
 refine Yc (N := 20) (vs0 := [(.agg #[(.slice f pL.length g), (.int .i64 pfirst), (.int .i64 plast), (.slice h pF.length i), (.bool pnull)]), (.int .i64 set)]) Try.func136 rfl rfl rfl ?_
 refine Zg fun K1 H1 => ?_
 refine Zc (Zk rfl rfl ?_)
 refine Xz rfl fun s W2 n C2 x => ?_
 have y := C2.size
 have E := E.trans C2
 have z := n.lt
 replace n : Blk W2 s 48 [(.slice f pL.length g), (.int .i64 pfirst), (.int .i64 plast), (.slice h pF.length i), (.bool pnull)] := n
 refine Za rfl rfl (Zd rfl) (Zf (Zb (H1 _ _ ?_)))
 refine Zg fun K3 H3 => ?_
 refine Zc (Za rfl rfl (Ze rfl) (Za rfl rfl (Zgd rfl rfl) (Za rfl rfl (Xj rfl rfl) (Za rfl rfl (Ze rfl) ?_))))
 refine Yn (d := 8) rfl (fun l => ?_) (fun l => ?_)
 ·have t := l
  have l := Yf l
  refine Za rfl rfl (Zh fa48_4 rfl) (Za rfl rfl (Zm n.at_ agg4 rfl rfl) (Za rfl rfl (Yi rfl rfl) (Za rfl rfl (Ze rfl) ?_)))
  refine Yn (d := 12) rfl (fun m => ?_) (fun m => ?_)
  ·have u := m
   refine Zj rfl rfl (Zj rfl rfl (Zj rfl rfl (Zj rfl rfl (Zj rfl rfl (Zj rfl rfl (Za rfl rfl (Yi rfl rfl) (Za rfl rfl (Zd rfl) ?_)))))))
   refine Zf (Zb (H3 _ _ ?_))
   refine Zr ?_
   exact Zi [_] ⟨rfl, trivial⟩ ⟨congrArg Value.bool (by unfold accB; simp_all), E⟩
  have u := m
  refine Za rfl rfl (Ze rfl) (Za rfl rfl (Ziu (by omega) rfl rfl) (Za rfl rfl (Zh fa48_2 rfl) (Za rfl rfl (Zm n.at_ agg3 rfl rfl) (Za rfl rfl (Zgd rfl rfl) (Za rfl rfl (Qv rfl rfl) (Za rfl rfl (Ym rfl rfl) (Za rfl rfl (Zd rfl) ?_)))))))
  refine Zf (Zb (H3 _ _ ?_))
  refine Zr ?_
  exact Zi [_] ⟨rfl, trivial⟩ ⟨congrArg Value.bool (by unfold accB; simp_all), E⟩
 have t := l
 have l := Ye l
 refine Zj rfl rfl (Zj rfl rfl (Za rfl rfl (Ym rfl rfl) (Za rfl rfl (Ze rfl) (Za rfl rfl (Ze rfl) (Za rfl rfl (Ziu (by omega) rfl rfl) (Za rfl rfl (Zh fa48_2 rfl) (Za rfl rfl (Zm n.at_ agg3 rfl rfl) ?_)))))))
 refine Za rfl rfl (Zgd rfl rfl) (Za rfl rfl (Qv rfl rfl) (Za rfl rfl (Ym rfl rfl) (Za rfl rfl (Zd rfl) (Zf (Zb (H3 _ _ ?_))))))
 refine Zr ?_
 exact Zi [_] ⟨rfl, trivial⟩ ⟨congrArg Value.bool (by unfold accB; simp_all), E⟩

/-- spec.l10After -/
theorem Zhs {w : World} {LL_pL M : Nat} {B : Value} {pL : List Int} (l : Ls ics 1 w LL_pL M B pL) (pfirst : Int) (plast : Int) {LL_pF O : Nat} {C : Value} {pF : List Int} (n : Ls ics 1 w LL_pF O C pF) (pnull : Bool) (set : Int) (letter : Int) (hF : pF.length = pL.length) (hn : pL.length ≤ 20) :
 Ctr Try.prog 134 #[(.agg #[B, (.int .i64 pfirst), (.int .i64 plast), C, (.bool pnull)]), (.int .i64 set), (.int .i64 letter)] w (fun v w' => v = .int .i64 (Zfv pL pfirst pF set letter) ∧ Ch [] w w') := by
 obtain ⟨p, r, D⟩ := l.val
 subst D
 have aj := l.len
 have l := l.here (by decide)
 obtain ⟨s, t, F⟩ := n.val
 subst F
 have ak := n.len
 have n := n.here (by decide)
 have E := Ch.refl [] w
 refine Yc (N := 63) (vs0 := [(.agg #[(.slice p pL.length r), (.int .i64 pfirst), (.int .i64 plast), (.slice s pF.length t), (.bool pnull)]), (.int .i64 set), (.int .i64 letter)]) Try.func134 rfl rfl rfl ?_
 refine Zg fun K1 H1 => ?_
 refine Zc (Zk rfl rfl ?_)
 refine Xz rfl fun A W2 L C2 aT => ?_
 have aU := C2.size
 have E := E.trans C2
 have aV := L.lt
 replace L : Blk W2 A 48 [(.slice p pL.length r), (.int .i64 pfirst), (.int .i64 plast), (.slice s pF.length t), (.bool pnull)] := L
 refine Za rfl rfl (Zd rfl) (Zf (Zb (H1 _ _ ?_)))
 refine Zg fun K3 H3 => ?_
 refine Zc (Za rfl rfl (Zd rfl) (Zf (Zb (H3 _ _ ?_))))
 refine Zg fun K4 H4 => ?_
 refine Zg fun K5 H5 => ?_
 refine Zc (Za rfl rfl (Ze rfl) (Za rfl rfl (Zgd rfl rfl) (Za rfl rfl (Xj rfl rfl) (Zf (Zb (H5 _ _ ?_))))))
 refine Zp rfl (fun j => ?_) (fun j => ?_)
 ·have aw := j
  have j := Yf j
  refine Zc (Za rfl rfl (Zh fa48_1 rfl) (Za rfl rfl (Zm L.at_ agg3 rfl rfl) (Za rfl rfl (Zd rfl) (Zf (Zb (H4 _ _ ?_))))))
  refine Zg fun K7 H7 => ?_
  refine Zg fun K8 H8 => ?_
  refine Zc (Za rfl rfl (Zd rfl) (Zf (Zb (H8 _ _ ?_))))
  refine Zx ?_
  refine Xf (σ := Nat × Int) (fun ⟨k, m⟩ => [(1, (.int .i64 set)), (2, (.int .i64 letter)), (3, (.pointer (some ⟨A, 0, none⟩))), (6, (.int .i64 0)), (7, (.int .i64 m)), (8, (.int .i64 ((k : Nat) : Int)))]) (fun ⟨k, m⟩ wx => Ch [] w wx ∧ W2.heap.size ≤ wx.heap.size ∧ (k ≤ pL.length) ∧ (m = nxt pF set (if iand set 1 = 1 then pfirst else 0) k) ∧ Blk wx A 48 [(.slice p pL.length r), (.int .i64 pfirst), (.int .i64 plast), (.slice s pF.length t), (.bool pnull)]) (fun ⟨k, m⟩ => pL.length - k) (0, pfirst) (sC4 rfl rfl rfl rfl (sC2 rfl rfl (Sub.nil _))) ⟨E, (Nat.le_refl _), (by omega), (by first | exact (if_pos j).symm | exact (if_neg j).symm), L⟩ ?_
  rintro ⟨k, m⟩ R9 ⟨E, R, ax, hm, e⟩
  have y := E
  have P := y.size
  have G := e.lt
  refine Zg fun aW al => ?_
  refine Zg fun aX ay => ?_
  refine Zc (Za rfl rfl (Ze rfl) (Za rfl rfl (Zh fa48_0 rfl) (Za rfl rfl (Zm e.at_ agg30 rfl rfl) (Za rfl rfl (Xa (by rw [el30]; rfl) rfl) (Za rfl rfl (Xi rfl rfl) (Zf (Zb (ay _ _ ?_))))))))
  refine Zp rfl (fun h => ?_) (fun h => ?_)
  ·have S := h
   have h := Yf h
   refine Zq ?_
   refine Zb (al _ _ ?_)
   refine Zg fun aY am => ?_
   refine Zx ?_
   refine Zg fun aZ az => ?_
   refine Zc (Za rfl rfl (Ze rfl) (Za rfl rfl (Ze rfl) (Za rfl rfl (Yk (by omega) rfl rfl) (Za rfl rfl (Ziu (by omega) rfl rfl) (Za rfl rfl (Zgd rfl rfl) (Za rfl rfl (Xj rfl rfl) (Zf ?_)))))))
   refine Zb (az _ _ ?_)
   refine Zp rfl (fun c => ?_) (fun c => ?_)
   ·have T := c
    have c := Yf c
    refine Zc (Za rfl rfl (Ze rfl) (Za rfl rfl (Zh fa48_3 rfl) (Za rfl rfl (Zm e.at_ agg30 rfl rfl) (Za rfl rfl (Ze rfl) (Zk rfl rfl ?_)))))
    have aA := (n.ch0 y)
    refine (Yo aA Yh el30 sz3 rfl rfl rfl (by omega) fun U H u I => ?_)
    refine Za rfl rfl (Yg I agg3 rfl rfl) (Za rfl rfl (r_or rfl rfl) (Za rfl rfl (Zd rfl) (Zf (Zv (Zb (am _ _ (Zc (Za rfl rfl (Ze rfl) ?_))))))))
    refine Za rfl rfl (Yk (by omega) rfl rfl) (Za rfl rfl (Zd rfl) (Zf ?_))
    exact Zb (Exists.intro ((k + 1), (ior m H)) ⟨⟨E, (by omega), (by omega), (by first | exact Zqk c hm u | exact Zql c hm), e⟩, sC4 rfl rfl rfl rfl (sC2 rfl rfl (Sub.nil _)), (by first | omega | (dsimp only; omega))⟩)
   have T := c
   have c := Ye c
   refine Zq ?_
   refine Zv (Zb (am _ _ (Zc (Za rfl rfl (Ze rfl) (Za rfl rfl (Yk (by omega) rfl rfl) (Za rfl rfl (Zd rfl) (Zf ?_)))))))
   exact Zb (Exists.intro ((k + 1), m) ⟨⟨E, (by omega), (by omega), (by first | exact Zqk c hm u | exact Zql c hm), e⟩, sC4 rfl rfl rfl rfl (sC2 rfl rfl (Sub.nil _)), (by first | omega | (dsimp only; omega))⟩)
  have S := h
  have h := Ye h
  refine Xc (Zs (Zs (Yu ?_)))
  refine Zb (H7 _ _ ?_)
  refine Zg fun a0 aB => ?_
  refine Zc (Za rfl rfl (Zd rfl) (Zf (Zb (aB _ _ ?_))))
  refine Zg fun a1 aC => ?_
  refine Zg fun a2 aD => ?_
  refine Zc (Za rfl rfl (Zd rfl) (Zf (Zb (aD _ _ ?_))))
  refine Zx ?_
  refine Xf (σ := Nat × Int) (fun ⟨q, o⟩ => [(2, (.int .i64 letter)), (3, (.pointer (some ⟨A, 0, none⟩))), (6, (.int .i64 0)), (7, (.int .i64 m)), (9, (.int .i64 o)), (10, (.int .i64 ((q : Nat) : Int)))]) (fun ⟨q, o⟩ wx => Ch [] w wx ∧ R9.heap.size ≤ wx.heap.size ∧ (q ≤ pL.length) ∧ (o = outP pL (nxt pF set (if iand set 1 = 1 then pfirst else 0) pL.length) letter q) ∧ Blk wx A 48 [(.slice p pL.length r), (.int .i64 pfirst), (.int .i64 plast), (.slice s pF.length t), (.bool pnull)]) (fun ⟨q, o⟩ => pL.length - q) (0, 0) (sC4 rfl rfl rfl rfl (sC2 rfl rfl (Sub.nil _))) ⟨E, (Nat.le_refl _), (by omega), rfl, e⟩ ?_
  rintro ⟨q, o⟩ a3 ⟨E, V, hq, ho, f⟩
  have z := E
  have Q := z.size
  have J := f.lt
  have x : m = nxt pF set (if iand set 1 = 1 then pfirst else 0) pL.length := by rw [hm, show k = pL.length by omega]
  refine Zg fun a4 an => ?_
  refine Zg fun a5 aE => ?_
  refine Zc (Za rfl rfl (Ze rfl) (Za rfl rfl (Zh fa48_0 rfl) (Za rfl rfl (Zm f.at_ agg30 rfl rfl) (Za rfl rfl (Xa (by rw [el30]; rfl) rfl) (Za rfl rfl (Xi rfl rfl) (Zf (Zb (aE _ _ ?_))))))))
  refine Zp rfl (fun i => ?_) (fun i => ?_)
  ·have X := i
   have i := Yf i
   refine Zq ?_
   refine Zb (an _ _ ?_)
   refine Zg fun a6 Y => ?_
   refine Zx ?_
   refine Zg fun a7 ao => ?_
   refine Zc (Za rfl rfl (Ze rfl) (Za rfl rfl (Ze rfl) (Za rfl rfl (Ziu (by omega) rfl rfl) (Za rfl rfl (Zgd rfl rfl) (Za rfl rfl (Xj rfl rfl) (Za rfl rfl (Ze rfl) ?_))))))
   refine Yn (d := 48) rfl (fun a => ?_) (fun a => ?_)
   ·have Z := a
    have a := Yf a
    refine Za rfl rfl (Zh fa48_0 rfl) (Za rfl rfl (Zm f.at_ agg30 rfl rfl) (Za rfl rfl (Ze rfl) (Zk rfl rfl ?_)))
    have aF := (l.ch0 z)
    refine (Yo aF Yh el30 sz3 rfl rfl rfl (by omega) fun aa ab g K => ?_)
    refine Za rfl rfl (Yg K agg3 rfl rfl) (Za rfl rfl (Ze rfl) (Za rfl rfl (Xj rfl rfl) (Za rfl rfl (Yi rfl rfl) (Zf (Zb (ao _ _ ?_))))))
    refine Zp rfl (fun b => ?_) (fun b => ?_)
    ·have ac := b
     have b := Yf b
     refine Zc (Za rfl rfl (Ze rfl) (Za rfl rfl (Ze rfl) (Za rfl rfl (Yk (by omega) rfl rfl) (Za rfl rfl (Ztb (by omega) rfl rfl) (Za rfl rfl (r_or rfl rfl) (Za rfl rfl (Zd rfl) (Zf ?_)))))))
     refine Zv (Zb (Y _ _ (Zc (Za rfl rfl (Ze rfl) (Za rfl rfl (Yk (by omega) rfl rfl) (Za rfl rfl (Zd rfl) (Zf ?_)))))))
     exact Zb (Exists.intro ((q + 1), (ior o (ishl 1 (((q : Nat) : Int) + 1)))) ⟨⟨E, (by omega), (by omega), (by first | exact Znk g b (by rw [← x]; exact a) ho | exact Zii (by rw [← x]; exact a) ho | exact Zil g b ho), f⟩, sC4 rfl rfl rfl rfl (sC2 rfl rfl (Sub.nil _)), (by first | omega | (dsimp only; omega))⟩)
    have ac := b
    have b := Ye b
    refine Zq ?_
    refine Zv (Zb (Y _ _ (Zc (Za rfl rfl (Ze rfl) (Za rfl rfl (Yk (by omega) rfl rfl) (Za rfl rfl (Zd rfl) (Zf ?_)))))))
    exact Zb (Exists.intro ((q + 1), o) ⟨⟨E, (by omega), (by omega), (by first | exact Znk g b (by rw [← x]; exact a) ho | exact Zii (by rw [← x]; exact a) ho | exact Zil g b ho), f⟩, sC4 rfl rfl rfl rfl (sC2 rfl rfl (Sub.nil _)), (by first | omega | (dsimp only; omega))⟩)
   have Z := a
   have a := Ye a
   refine Zj rfl rfl (Zj rfl rfl (Zj rfl rfl (Zj rfl rfl (Zj rfl rfl (Zj rfl rfl (Zj rfl rfl (Za rfl rfl (Ym rfl rfl) ?_)))))))
   refine Zf (Zb (ao _ _ ?_))
   refine Qw rfl ?_
   refine Zq ?_
   refine Zv (Zb (Y _ _ (Zc (Za rfl rfl (Ze rfl) (Za rfl rfl (Yk (by omega) rfl rfl) (Za rfl rfl (Zd rfl) (Zf ?_)))))))
   exact Zb (Exists.intro ((q + 1), o) ⟨⟨E, (by omega), (by omega), (by first | exact Znk g b (by rw [← x]; exact a) ho | exact Zii (by rw [← x]; exact a) ho | exact Zil g b ho), f⟩, sC4 rfl rfl rfl rfl (sC2 rfl rfl (Sub.nil _)), (by first | omega | (dsimp only; omega))⟩)
  have X := i
  have i := Ye i
  refine Xc (Zs (Zs (Yu ?_)))
  refine Zb (aC _ _ ?_)
  refine Zg fun a8 aG => ?_
  refine Zc (Za rfl rfl (Ze rfl) (Za rfl rfl (Zd rfl) (Zf (Zb (aG _ _ ?_)))))
  refine Zr ?_
  clear al an
  exact Zi [_] ⟨rfl, trivial⟩ ⟨congrArg (Value.int .i64) (by unfold Zfv; rw [ho, show q = pL.length by omega]), E⟩
 have aw := j
 have j := Ye j
 refine Zq ?_
 refine Zb (H4 _ _ ?_)
 refine Zg fun a9 aH => ?_
 refine Zg fun ba aI => ?_
 refine Zc (Za rfl rfl (Zd rfl) (Zf (Zb (aI _ _ ?_))))
 refine Zx ?_
 refine Xf (σ := Nat × Int) (fun ⟨k, m⟩ => [(1, (.int .i64 set)), (2, (.int .i64 letter)), (3, (.pointer (some ⟨A, 0, none⟩))), (6, (.int .i64 0)), (7, (.int .i64 m)), (8, (.int .i64 ((k : Nat) : Int)))]) (fun ⟨k, m⟩ wx => Ch [] w wx ∧ W2.heap.size ≤ wx.heap.size ∧ (k ≤ pL.length) ∧ (m = nxt pF set (if iand set 1 = 1 then pfirst else 0) k) ∧ Blk wx A 48 [(.slice p pL.length r), (.int .i64 pfirst), (.int .i64 plast), (.slice s pF.length t), (.bool pnull)]) (fun ⟨k, m⟩ => pL.length - k) (0, 0) (sC4 rfl rfl rfl rfl (sC2 rfl rfl (Sub.nil _))) ⟨E, (Nat.le_refl _), (by omega), (by first | exact (if_pos j).symm | exact (if_neg j).symm), L⟩ ?_
 rintro ⟨k, m⟩ aJ ⟨E, R, ax, hm, e⟩
 have y := E
 have P := y.size
 have G := e.lt
 refine Zg fun bb ap => ?_
 refine Zg fun bc aK => ?_
 refine Zc (Za rfl rfl (Ze rfl) (Za rfl rfl (Zh fa48_0 rfl) (Za rfl rfl (Zm e.at_ agg30 rfl rfl) (Za rfl rfl (Xa (by rw [el30]; rfl) rfl) (Za rfl rfl (Xi rfl rfl) (Zf (Zb (aK _ _ ?_))))))))
 refine Zp rfl (fun h => ?_) (fun h => ?_)
 ·have ad := h
  have h := Yf h
  refine Zq ?_
  refine Zb (ap _ _ ?_)
  refine Zg fun bd aq => ?_
  refine Zx ?_
  refine Zg fun be aL => ?_
  refine Zc (Za rfl rfl (Ze rfl) (Za rfl rfl (Ze rfl) (Za rfl rfl (Yk (by omega) rfl rfl) (Za rfl rfl (Ziu (by omega) rfl rfl) (Za rfl rfl (Zgd rfl rfl) (Za rfl rfl (Xj rfl rfl) (Zf ?_)))))))
  refine Zb (aL _ _ ?_)
  refine Zp rfl (fun c => ?_) (fun c => ?_)
  ·have ae := c
   have c := Yf c
   refine Zc (Za rfl rfl (Ze rfl) (Za rfl rfl (Zh fa48_3 rfl) (Za rfl rfl (Zm e.at_ agg30 rfl rfl) (Za rfl rfl (Ze rfl) (Zk rfl rfl ?_)))))
   have aM := (n.ch0 y)
   refine (Yo aM Yh el30 sz3 rfl rfl rfl (by omega) fun U H u I => ?_)
   refine Za rfl rfl (Yg I agg3 rfl rfl) (Za rfl rfl (r_or rfl rfl) (Za rfl rfl (Zd rfl) (Zf (Zv (Zb (aq _ _ (Zc (Za rfl rfl (Ze rfl) ?_))))))))
   refine Za rfl rfl (Yk (by omega) rfl rfl) (Za rfl rfl (Zd rfl) (Zf ?_))
   exact Zb (Exists.intro ((k + 1), (ior m H)) ⟨⟨E, (by omega), (by omega), (by first | exact Zqk c hm u | exact Zql c hm), e⟩, sC4 rfl rfl rfl rfl (sC2 rfl rfl (Sub.nil _)), (by first | omega | (dsimp only; omega))⟩)
  have ae := c
  have c := Ye c
  refine Zq ?_
  refine Zv (Zb (aq _ _ (Zc (Za rfl rfl (Ze rfl) (Za rfl rfl (Yk (by omega) rfl rfl) (Za rfl rfl (Zd rfl) (Zf ?_)))))))
  exact Zb (Exists.intro ((k + 1), m) ⟨⟨E, (by omega), (by omega), (by first | exact Zqk c hm u | exact Zql c hm), e⟩, sC4 rfl rfl rfl rfl (sC2 rfl rfl (Sub.nil _)), (by first | omega | (dsimp only; omega))⟩)
 have ad := h
 have h := Ye h
 refine Xc (Zs (Zs (Yu ?_)))
 refine Zb (aH _ _ ?_)
 refine Zg fun bf aN => ?_
 refine Zc (Za rfl rfl (Zd rfl) (Zf (Zb (aN _ _ ?_))))
 refine Zg fun bg aO => ?_
 refine Zg fun bh aP => ?_
 refine Zc (Za rfl rfl (Zd rfl) (Zf (Zb (aP _ _ ?_))))
 refine Zx ?_
 refine Xf (σ := Nat × Int) (fun ⟨q, o⟩ => [(2, (.int .i64 letter)), (3, (.pointer (some ⟨A, 0, none⟩))), (6, (.int .i64 0)), (7, (.int .i64 m)), (9, (.int .i64 o)), (10, (.int .i64 ((q : Nat) : Int)))]) (fun ⟨q, o⟩ wx => Ch [] w wx ∧ aJ.heap.size ≤ wx.heap.size ∧ (q ≤ pL.length) ∧ (o = outP pL (nxt pF set (if iand set 1 = 1 then pfirst else 0) pL.length) letter q) ∧ Blk wx A 48 [(.slice p pL.length r), (.int .i64 pfirst), (.int .i64 plast), (.slice s pF.length t), (.bool pnull)]) (fun ⟨q, o⟩ => pL.length - q) (0, 0) (sC4 rfl rfl rfl rfl (sC2 rfl rfl (Sub.nil _))) ⟨E, (Nat.le_refl _), (by omega), rfl, e⟩ ?_
 rintro ⟨q, o⟩ bi ⟨E, V, hq, ho, f⟩
 have z := E
 have Q := z.size
 have J := f.lt
 have x : m = nxt pF set (if iand set 1 = 1 then pfirst else 0) pL.length := by rw [hm, show k = pL.length by omega]
 refine Zg fun bj au => ?_
 refine Zg fun bk aQ => ?_
 refine Zc (Za rfl rfl (Ze rfl) (Za rfl rfl (Zh fa48_0 rfl) (Za rfl rfl (Zm f.at_ agg30 rfl rfl) (Za rfl rfl (Xa (by rw [el30]; rfl) rfl) (Za rfl rfl (Xi rfl rfl) (Zf (Zb (aQ _ _ ?_))))))))
 refine Zp rfl (fun i => ?_) (fun i => ?_)
 ·have af := i
  have i := Yf i
  refine Zq ?_
  refine Zb (au _ _ ?_)
  refine Zg fun bm ag => ?_
  refine Zx ?_
  refine Zg fun bn av => ?_
  refine Zc (Za rfl rfl (Ze rfl) (Za rfl rfl (Ze rfl) (Za rfl rfl (Ziu (by omega) rfl rfl) (Za rfl rfl (Zgd rfl rfl) (Za rfl rfl (Xj rfl rfl) (Za rfl rfl (Ze rfl) ?_))))))
  refine Yn (d := 48) rfl (fun a => ?_) (fun a => ?_)
  ·have ah := a
   have a := Yf a
   refine Za rfl rfl (Zh fa48_0 rfl) (Za rfl rfl (Zm f.at_ agg30 rfl rfl) (Za rfl rfl (Ze rfl) (Zk rfl rfl ?_)))
   have aR := (l.ch0 z)
   refine (Yo aR Yh el30 sz3 rfl rfl rfl (by omega) fun aa ab g K => ?_)
   refine Za rfl rfl (Yg K agg3 rfl rfl) (Za rfl rfl (Ze rfl) (Za rfl rfl (Xj rfl rfl) (Za rfl rfl (Yi rfl rfl) (Zf (Zb (av _ _ ?_))))))
   refine Zp rfl (fun b => ?_) (fun b => ?_)
   ·have ai := b
    have b := Yf b
    refine Zc (Za rfl rfl (Ze rfl) (Za rfl rfl (Ze rfl) (Za rfl rfl (Yk (by omega) rfl rfl) (Za rfl rfl (Ztb (by omega) rfl rfl) (Za rfl rfl (r_or rfl rfl) (Za rfl rfl (Zd rfl) (Zf ?_)))))))
    refine Zv (Zb (ag _ _ (Zc (Za rfl rfl (Ze rfl) (Za rfl rfl (Yk (by omega) rfl rfl) (Za rfl rfl (Zd rfl) (Zf ?_)))))))
    exact Zb (Exists.intro ((q + 1), (ior o (ishl 1 (((q : Nat) : Int) + 1)))) ⟨⟨E, (by omega), (by omega), (by first | exact Znk g b (by rw [← x]; exact a) ho | exact Zii (by rw [← x]; exact a) ho | exact Zil g b ho), f⟩, sC4 rfl rfl rfl rfl (sC2 rfl rfl (Sub.nil _)), (by first | omega | (dsimp only; omega))⟩)
   have ai := b
   have b := Ye b
   refine Zq ?_
   refine Zv (Zb (ag _ _ (Zc (Za rfl rfl (Ze rfl) (Za rfl rfl (Yk (by omega) rfl rfl) (Za rfl rfl (Zd rfl) (Zf ?_)))))))
   exact Zb (Exists.intro ((q + 1), o) ⟨⟨E, (by omega), (by omega), (by first | exact Znk g b (by rw [← x]; exact a) ho | exact Zii (by rw [← x]; exact a) ho | exact Zil g b ho), f⟩, sC4 rfl rfl rfl rfl (sC2 rfl rfl (Sub.nil _)), (by first | omega | (dsimp only; omega))⟩)
  have ah := a
  have a := Ye a
  refine Zj rfl rfl (Zj rfl rfl (Zj rfl rfl (Zj rfl rfl (Zj rfl rfl (Zj rfl rfl (Zj rfl rfl (Za rfl rfl (Ym rfl rfl) ?_)))))))
  refine Zf (Zb (av _ _ ?_))
  refine Qw rfl ?_
  refine Zq ?_
  refine Zv (Zb (ag _ _ (Zc (Za rfl rfl (Ze rfl) (Za rfl rfl (Yk (by omega) rfl rfl) (Za rfl rfl (Zd rfl) (Zf ?_)))))))
  exact Zb (Exists.intro ((q + 1), o) ⟨⟨E, (by omega), (by omega), (by first | exact Znk g b (by rw [← x]; exact a) ho | exact Zii (by rw [← x]; exact a) ho | exact Zil g b ho), f⟩, sC4 rfl rfl rfl rfl (sC2 rfl rfl (Sub.nil _)), (by first | omega | (dsimp only; omega))⟩)
 have af := i
 have i := Ye i
 refine Xc (Zs (Zs (Yu ?_)))
 refine Zb (aO _ _ ?_)
 refine Zg fun bp aS => ?_
 refine Zc (Za rfl rfl (Ze rfl) (Za rfl rfl (Zd rfl) (Zf (Zb (aS _ _ ?_)))))
 refine Zr ?_
 clear ap au
 exact Zi [_] ⟨rfl, trivial⟩ ⟨congrArg (Value.int .i64) (by unfold Zfv; rw [ho, show q = pL.length by omega]), E⟩

/-- spec.l11Find -/
theorem Zhw {w : World} {LL_l m : Nat} {d : Value} {l : List Int} (b : Ls ics 1 w LL_l m d l) (x : Int) :
 Ctr Try.prog 135 #[d, (.int .i64 x)] w (fun v w' => ∃ (j : Int) , v = .int .i64 j ∧ ((j = -1 ∧ x ∉ l) ∨ (0 ≤ j ∧ j < l.length)) ∧ Ch [] w w') := by
 obtain ⟨e, f, g⟩ := b.val
 subst g
 have q := b.len
 have b := b.here (by decide)
 have E := Ch.refl [] w
 refine Yc (N := 19) (vs0 := [(.slice e l.length f), (.int .i64 x)]) Try.func135 rfl rfl rfl ?_
 refine Zg fun K1 H1 => ?_
 refine Zc (Za rfl rfl (Zd rfl) (Zf (Zb (H1 _ _ ?_))))
 refine Zg fun K2 H2 => ?_
 refine Zg fun K3 H3 => ?_
 refine Zc (Za rfl rfl (Zd rfl) (Zf (Zb (H3 _ _ ?_))))
 refine Zx ?_
 refine Xf (σ := Nat) (fun (k : Nat) => [(0, (.slice e l.length f)), (1, (.int .i64 x)), (5, (.int .i64 ((k : Nat) : Int)))]) (fun (k : Nat) wx => Ch [] w wx ∧ w.heap.size ≤ wx.heap.size ∧ (k ≤ l.length) ∧ (x ∉ l.take k)) (fun (k : Nat) => l.length - k) 0 (sC2 rfl rfl (sC1 rfl (Sub.nil _))) ⟨E, (Nat.le_refl _), (by omega), (by simp)⟩ ?_
 rintro k R4 ⟨E, r, B, hn⟩
 have h := E
 have p := h.size
 refine Zg fun K5 H5 => ?_
 refine Zg fun K6 H6 => ?_
 refine Zc (Za rfl rfl (Ze rfl) (Za rfl rfl (Ze rfl) (Za rfl rfl (Xa (by rw [el30]; rfl) rfl) (Za rfl rfl (Xi rfl rfl) (Zf (Zb (H6 _ _ ?_)))))))
 refine Zp rfl (fun c => ?_) (fun c => ?_)
 ·have s := c
  have c := Yf c
  refine Zq ?_
  refine Zb (H5 _ _ ?_)
  refine Zg fun K8 H8 => ?_
  refine Zx ?_
  refine Zg fun K9 H9 => ?_
  refine Zc (Za rfl rfl (Ze rfl) (Za rfl rfl (Ze rfl) (Zk rfl rfl ?_)))
  have t := (b.ch0 h)
  refine (Yo t Yh el30 sz3 rfl rfl rfl (by omega) fun u y i n => ?_)
  refine Za rfl rfl (Yg n agg3 rfl rfl) (Za rfl rfl (Ze rfl) (Za rfl rfl (Xj rfl rfl) (Zf (Zb (H9 _ _ ?_)))))
  refine Zp rfl (fun a => ?_) (fun a => ?_)
  ·have o := a
   have a := Yf a
   refine Zg fun C z => ?_
   refine Zc (Za rfl rfl (Ze rfl) (Za rfl rfl (Zd rfl) (Zf (Zb (z _ _ ?_)))))
   refine Zr (Ya (Zl (Zl (Ya (Zl ?_)))))
   clear H2 H8
   exact Zi [_] ⟨rfl, trivial⟩ ⟨((k : Nat) : Int), (congrArg (fun zq => (Value.int .i64 zq)) (by first | rfl | simp_all)), (by first | exact .inr ⟨by omega, by omega⟩ | exact .inl ⟨rfl, Zkz hn (by omega)⟩), E⟩
  have o := a
  have a := Ye a
  refine Zq ?_
  refine Zv (Zb (H8 _ _ (Zc (Za rfl rfl (Ze rfl) (Za rfl rfl (Yk (by omega) rfl rfl) (Za rfl rfl (Zd rfl) (Zf ?_)))))))
  exact Zb (Exists.intro (k + 1) ⟨⟨E, (by omega), (by omega), (Zns hn i a)⟩, sC2 rfl rfl (sC1 rfl (Sub.nil _)), (by first | omega | (dsimp only; omega))⟩)
 have s := c
 have c := Ye c
 refine Xc (Zs (Zs (Yu ?_)))
 refine Zb (H2 _ _ ?_)
 refine Zg fun D A => ?_
 refine Zc (Za rfl rfl (Zd rfl) (Zf (Zb (A _ _ ?_))))
 refine Zr ?_
 exact Zi [_] ⟨rfl, trivial⟩ ⟨(-1), (congrArg (fun zq => (Value.int .i64 zq)) (by first | rfl | simp_all)), (by first | exact .inr ⟨by omega, by omega⟩ | exact .inl ⟨rfl, Zkz hn (by omega)⟩), E⟩

end Go.Proofs.Ytgnlfnkgkcmdjaa
