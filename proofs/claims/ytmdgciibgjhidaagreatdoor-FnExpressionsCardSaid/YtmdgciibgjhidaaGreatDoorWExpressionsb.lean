/- Walks of functions that FnExpressions reaches: what each returns, and that it leaves the memory that was there alone. -/
import Derived.Test.YtmdgciibgjhidaaGreatDoorLibA
import Derived.Test.YtmdgciibgjhidaaGreatDoorLibB
import Derived.Test.YtmdgciibgjhidaaGreatDoorWExpressions
import Derived.Test.YtmdgciibgjhidaaGreatDoorProg
namespace Go.Proofs.YtmdgciibgjhidaaGreatDoor
open Go.KLib Go.Shelf
set_option maxHeartbeats 1000000
set_option maxRecDepth 20000
set_option linter.unusedVariables false
set_option linter.unusedSimpArgs false
namespace TExpressionsb
theorem agg24 : Yp Tryz.prog 24 = some false := by kernel_rfl
theorem agg26 : Yp Tryz.prog 26 = some true := by kernel_rfl
theorem agg3 : Yp Tryz.prog 3 = some false := by kernel_rfl
theorem agg42 : Yp Tryz.prog 42 = some true := by kernel_rfl
theorem agg9 : Yp Tryz.prog 9 = some false := by kernel_rfl
theorem by42 : Qz Tryz.prog 42 = some 32 := by kernel_rfl
theorem el100 : elB Tryz.prog 100 = some 3 := by kernel_rfl
theorem el22 : elB Tryz.prog 22 = some 5 := by kernel_rfl
theorem el24 : elB Tryz.prog 24 = some 42 := by kernel_rfl
theorem el52 : elB Tryz.prog 52 = some 9 := by kernel_rfl
theorem fa26_0 : faB Tryz.prog 26 0 = some 0 := by kernel_rfl
theorem fa42_0 : faB Tryz.prog 42 0 = some 0 := by kernel_rfl
theorem fa42_1 : faB Tryz.prog 42 1 = some 1 := by kernel_rfl
theorem fa42_2 : faB Tryz.prog 42 2 = some 2 := by kernel_rfl
theorem fa42_3 : faB Tryz.prog 42 3 = some 3 := by kernel_rfl
theorem fk10 : fnB Tryz.prog 10 = true := by kernel_rfl
theorem fk103 : fnB Tryz.prog 103 = true := by kernel_rfl
theorem fk104 : fnB Tryz.prog 104 = true := by kernel_rfl
theorem fk11 : fnB Tryz.prog 11 = true := by kernel_rfl
theorem fk116 : fnB Tryz.prog 116 = true := by kernel_rfl
theorem fk117 : fnB Tryz.prog 117 = true := by kernel_rfl
theorem fk12 : fnB Tryz.prog 12 = true := by kernel_rfl
theorem fk13 : fnB Tryz.prog 13 = true := by kernel_rfl
theorem fk14 : fnB Tryz.prog 14 = true := by kernel_rfl
theorem fk15 : fnB Tryz.prog 15 = true := by kernel_rfl
theorem fk16 : fnB Tryz.prog 16 = true := by kernel_rfl
theorem fk17 : fnB Tryz.prog 17 = true := by kernel_rfl
theorem fk20 : fnB Tryz.prog 20 = true := by kernel_rfl
theorem fk21 : fnB Tryz.prog 21 = true := by kernel_rfl
theorem fk22 : fnB Tryz.prog 22 = true := by kernel_rfl
theorem fk29 : fnB Tryz.prog 29 = true := by kernel_rfl
theorem fk30 : fnB Tryz.prog 30 = true := by kernel_rfl
theorem fk31 : fnB Tryz.prog 31 = true := by kernel_rfl
theorem fk4 : fnB Tryz.prog 4 = true := by kernel_rfl
theorem fk49 : fnB Tryz.prog 49 = true := by kernel_rfl
theorem fk5 : fnB Tryz.prog 5 = true := by kernel_rfl
theorem fk50 : fnB Tryz.prog 50 = true := by kernel_rfl
theorem fk6 : fnB Tryz.prog 6 = true := by kernel_rfl
theorem fk7 : fnB Tryz.prog 7 = true := by kernel_rfl
theorem fk70 : fnB Tryz.prog 70 = true := by kernel_rfl
theorem fk71 : fnB Tryz.prog 71 = true := by kernel_rfl
theorem fk72 : fnB Tryz.prog 72 = true := by kernel_rfl
theorem fk73 : fnB Tryz.prog 73 = true := by kernel_rfl
theorem fk74 : fnB Tryz.prog 74 = true := by kernel_rfl
theorem fk75 : fnB Tryz.prog 75 = true := by kernel_rfl
theorem fk8 : fnB Tryz.prog 8 = true := by kernel_rfl
theorem fk88 : fnB Tryz.prog 88 = true := by kernel_rfl
theorem fk89 : fnB Tryz.prog 89 = true := by kernel_rfl
theorem fk9 : fnB Tryz.prog 9 = true := by kernel_rfl
theorem mixed : Tryz.prog.follows .mixedOrders = true := by kernel_rfl
theorem pl26 : Xb Tryz.prog 26 = some [(0, 1)] := by kernel_rfl
theorem pl42 : Xb Tryz.prog 42 = some [(0, 1), (1, 1), (2, 1), (3, 1)] := by kernel_rfl
theorem sz24 : Zw Tryz.prog 24 = some 1 := by kernel_rfl
theorem sz26 : Zw Tryz.prog 26 = some 1 := by kernel_rfl
theorem sz3 : Zw Tryz.prog 3 = some 1 := by kernel_rfl
theorem sz42 : Zw Tryz.prog 42 = some 4 := by kernel_rfl
theorem sz5 : Zw Tryz.prog 5 = some 1 := by kernel_rfl
theorem sz9 : Zw Tryz.prog 9 = some 1 := by kernel_rfl
theorem un3 : Tryz.prog.underlying 3 = some (.int .i64) := by kernel_rfl
theorem un4 : Tryz.prog.underlying 4 = some (.bool) := by kernel_rfl
theorem un5 : Tryz.prog.underlying 5 = some (.int .u8) := by kernel_rfl
theorem un9 : Tryz.prog.underlying 9 = some (.string) := by kernel_rfl
theorem zr26 : Yr Tryz.prog 26 = some (.agg #[.slice none 0 0]) := by kernel_rfl
theorem zr3 : Yr Tryz.prog 3 = some (.int .i64 0) := by kernel_rfl
theorem zr42 : Yr Tryz.prog 42 = some (.agg #[.int .i64 0, .int .i64 0, .int .i64 0, .int .i64 0]) := by kernel_rfl
theorem zr5 : Yr Tryz.prog 5 = some (.int .u8 0) := by kernel_rfl
theorem zr9 : Yr Tryz.prog 9 = some (.string ⟨#[]⟩) := by kernel_rfl
end TExpressionsb
open TExpressionsb

/-- spec.ParseLetter -/
theorem Zct {w : World} (s : List UInt8) :
 Ctr Tryz.prog 104 #[(bst s)] w (fun v w' => v = .tuple #[.int .i64 ((plR s).1), .bool ((plR s).2)] ∧ Ch [] w w') := by
 have E := Ch.refl [] w
 refine Zv (N := 14) (vs0 := [(bst s)]) Tryz.func104 rfl rfl rfl ?_
 refine Zf fun K1 H1 => ?_
 refine Zc (Za rfl rfl (Ze rfl) (Za rfl rfl (Ze rfl) (Zd (Zb (H1 _ _ ?_)))))
 refine Zf fun K2 H2 => ?_
 refine Zf fun K3 H3 => ?_
 refine Zc (Za rfl rfl (Ze rfl) (Zd (Zb (H3 _ _ ?_))))
 refine Yj ?_
 refine Qf (σ := Nat) (fun (k : Nat) => [(0, (bst s)), (4, (.int .i64 ((k : Nat) : Int)))]) (fun (k : Nat) wx => Ch [] w wx ∧ w.heap.size ≤ wx.heap.size ∧ (k ≤ 9) ∧ (ltrI s k = none)) (fun (k : Nat) => 9 - k) 0 (sC2 rfl rfl (Sub.nil _)) ⟨E, (Nat.le_refl _), om, Zgi⟩ ?_
 rintro k R4 ⟨E, h, o, hn⟩
 have c := E
 have f := c.size
 refine Zf fun K5 H5 => ?_
 refine Zf fun K6 H6 => ?_
 refine Zc (Za rfl rfl (Zg rfl) (Za rfl rfl (Qv rfl rfl) (Zd (Zb (H6 _ _ ?_)))))
 refine Zs rfl (fun b => ?_) (fun b => ?_)
 ·have i := b
  have b := Yb b
  refine Zu ?_
  refine Zb (H5 _ _ ?_)
  refine Zf fun K8 H8 => ?_
  refine Yj ?_
  refine Zf fun K9 H9 => ?_
  refine Zc (Za rfl rfl (Zg rfl) (Zl rfl rfl ?_))
  refine Step.call (Zm (xs := [.tmp 9]) fk116 rfl) (Zak _ ) fun j p d => ?_
  obtain ⟨rfl, g⟩ := d
  have l := g.size
  have E := E.trans g
  refine Za rfl rfl (Zg rfl) (Za rfl rfl (Zck rfl rfl) (Zd (Zb (H9 _ _ ?_))))
  refine Zs rfl (fun a => ?_) (fun a => ?_)
  ·have e := a
   have a := Yb a
   refine Zf fun q m => ?_
   refine Zc (Za rfl rfl (Zg rfl) (Za rfl rfl (Ze rfl) (Za rfl rfl (Ze rfl) (Zd (Zb (m _ _ ?_))))))
   refine Zp (Zt (Zk (Zk (Zt (Zk ?_)))))
   clear H2 H8
   exact Zh [_, _] ⟨rfl, ⟨rfl, trivial⟩⟩ ⟨((congrArg (fun zq => (Value.tuple #[.int .i64 zq, .bool true])) (by first | exact congrArg Prod.fst (Zfy hn om a) | exact congrArg Prod.fst (Zgc hn om om))).trans (congrArg (fun zq => (Value.tuple #[.int .i64 ((plR s).1), .bool zq])) (by first | exact congrArg Prod.snd (Zfy hn om a) | exact congrArg Prod.snd (Zgc hn om om)))), E⟩
  have e := a
  have a := Yc a
  refine Zu ?_
  refine Yd (Zb (H8 _ _ (Zc (Za rfl rfl (Zg rfl) (Za rfl rfl (Yy om rfl rfl) (Za rfl rfl (Ze rfl) (Zd ?_)))))))
  exact Zb (Exists.intro (k + 1) ⟨⟨E, om, om, (Zlv hn om a)⟩, sC2 rfl rfl (Sub.nil _), (by first | omega | (dsimp only; omega))⟩)
 have i := b
 have b := Yc b
 refine Xu (Yh (Yh (Xd ?_)))
 refine Zb (H2 _ _ ?_)
 refine Zf fun r n => ?_
 refine Zc (Za rfl rfl (Ze rfl) (Za rfl rfl (Ze rfl) (Zd (Zb (n _ _ ?_)))))
 refine Zp ?_
 exact Zh [_, _] ⟨rfl, ⟨rfl, trivial⟩⟩ ⟨((congrArg (fun zq => (Value.tuple #[.int .i64 zq, .bool false])) (by first | exact congrArg Prod.fst (Zfy hn om a) | exact congrArg Prod.fst (Zgc hn om om))).trans (congrArg (fun zq => (Value.tuple #[.int .i64 ((plR s).1), .bool zq])) (by first | exact congrArg Prod.snd (Zfy hn om a) | exact congrArg Prod.snd (Zgc hn om om)))), E⟩

/-- spec.FormatInt -/
theorem Zbf {w : World} (n : Int) (z : -9223372036854775808 ≤ n ∧ n ≤ 9223372036854775807) :
 Ctr Tryz.prog 117 #[(.int .i64 n)] w (fun v w' => v = bst (fmtI n) ∧ Ch [] w w') := by
 have E := Ch.refl [] w
 refine Zv (N := 31) (vs0 := [(.int .i64 n)]) Tryz.func117 rfl rfl rfl ?_
 refine Zf fun K1 H1 => ?_
 refine Zc (Za rfl rfl (Ze rfl) (Zd (Zb (H1 _ _ ?_))))
 refine Zf fun K2 H2 => ?_
 refine Zf fun K3 H3 => ?_
 refine Zc (Za rfl rfl (Zg rfl) (Za rfl rfl (Yn rfl rfl) (Zd (Zb (H3 _ _ ?_)))))
 refine Zs rfl (fun e => ?_) (fun e => ?_)
 ·have A := e
  have e := Yb e
  refine Zf fun K5 H5 => ?_
  refine Zc (Za rfl rfl (Ze rfl) (Zd (Zb (H5 _ _ ?_))))
  refine Zp (Zk ?_)
  exact Zh [_] ⟨rfl, trivial⟩ ⟨congrArg bst (Zoy e), E⟩
 have A := e
 have e := Yc e
 refine Zu ?_
 refine Zb (H2 _ _ ?_)
 refine Zf fun K6 H6 => ?_
 refine Zc (Za rfl rfl (Ze rfl) (Zd (Zb (H6 _ _ ?_))))
 refine Zf fun K7 H7 => ?_
 refine Zc (Za rfl rfl (Zg rfl) (Za rfl rfl (Qv rfl rfl) (Za rfl rfl (Ze rfl) (Zd (Zb (H7 _ _ ?_))))))
 refine Zf fun K8 H8 => ?_
 refine Yj ?_
 refine Qf (σ := Int × List UInt8) (fun ⟨m, out⟩ => [(0, (.int .i64 m)), (2, (bst ([] : List UInt8))), (3, (bst out)), (4, (.bool (decide (n < 0))))]) (fun ⟨m, out⟩ wx => Ch [] w wx ∧ w.heap.size ≤ wx.heap.size ∧ (dgF 20 m.natAbs ++ out = dgF 20 n.natAbs) ∧ (-9223372036854775808 ≤ m ∧ m ≤ 9223372036854775807)) (fun ⟨m, out⟩ => m.natAbs) (n, ([] : List UInt8)) (sC4 rfl rfl rfl rfl (Sub.nil _)) ⟨E, (Nat.le_refl _), (by simp), z⟩ ?_
 rintro ⟨m, out⟩ R9 ⟨E, B, hm, hr⟩
 have k := E
 have r := k.size
 have C := congrArg List.length hm
 have P := Zhi 20 n.natAbs
 rw [List.length_append] at C
 refine Zf fun Q s => ?_
 refine Zf fun R D => ?_
 refine Zc (Za rfl rfl (Zg rfl) (Za rfl rfl (Ql rfl rfl) (Zd (Zb (D _ _ ?_)))))
 refine Zs rfl (fun a => ?_) (fun a => ?_)
 ·have l := a
  have a := Yc (Xv a)
  have S := tm10 m
  refine Zu ?_
  refine Zb (s _ _ ?_)
  refine Yj ?_
  refine Zf fun T F => ?_
  refine Zc (Za rfl rfl (Zg rfl) (Za rfl rfl (Zmq om rfl rfl) (Za rfl rfl (Ze rfl) (Zd (Zb (F _ _ ?_))))))
  refine Zf fun U t => ?_
  refine Zf fun V G => ?_
  refine Zc (Za rfl rfl (Zg rfl) (Za rfl rfl (Qv rfl rfl) (Zd (Zb (G _ _ ?_)))))
  refine Zs rfl (fun c => ?_) (fun c => ?_)
  ·have o := c
   have c := Yb c
   refine Zc (Za rfl rfl (Zg rfl) (Za rfl rfl (Zpx om rfl) (Za rfl rfl (Ze rfl) (Zd (Zb (t _ _ ?_))))))
   refine Zf fun X H => ?_
   refine Zc (Za rfl rfl (Zg rfl) (Za rfl rfl (Yy om rfl rfl) (Za rfl rfl (Zbm (by rw [un3]; rfl) un5 rfl) (Zl rfl rfl ?_))))
   refine Yg (cs := ucs) (parts := [(0, .tmp 20)]) (0 : Int) [(w8 (48 + (-(m.tmod 10))))] el22 sz5 zr5 Zed (by decide) rfl rfl rfl (by decide) (by decide) rfl fun p Y d g u => ?_
   have I := u.size
   have E := E.trans u
   obtain ⟨h, i, rfl, j, f⟩ := d.opn
   refine Za rfl rfl (Zfb d.ls el22 un5 un9 rfl) (Za rfl rfl (Zg rfl) (Za rfl rfl (Zbh (by (simp only [u8s, List.map_cons, List.map_nil, List.length_cons, List.length_nil]; omega)) rfl rfl) (Za rfl rfl (Ze rfl) (Zd (Zb (H _ _ (Zc (Za rfl rfl (Zg rfl) ?_))))))))
   refine Za rfl rfl (Zox om (td10 om) rfl rfl) (Za rfl rfl (Ze rfl) (Zd (Yd ?_)))
   exact Zb (Exists.intro ((m.tdiv 10), ((u8s ([(w8 (48 + (-(m.tmod 10))))])) ++ out)) ⟨⟨E, om, (Zjt hm a hr (by first | exact .inl rfl | exact .inr rfl) om), (td10 hr)⟩, sC4 rfl rfl rfl rfl (Sub.nil _), (Zou a)⟩)
  have o := c
  have c := Yc c
  refine Zu ?_
  refine Zb (t _ _ ?_)
  refine Zf fun Z J => ?_
  refine Zc (Za rfl rfl (Zg rfl) (Za rfl rfl (Yy om rfl rfl) (Za rfl rfl (Zbm (by rw [un3]; rfl) un5 rfl) (Zl rfl rfl ?_))))
  refine Yg (cs := ucs) (parts := [(0, .tmp 20)]) (0 : Int) [(w8 (48 + (m.tmod 10)))] el22 sz5 zr5 Zed (by decide) rfl rfl rfl (by decide) (by decide) rfl fun p aa d g x => ?_
  have K := x.size
  have E := E.trans x
  obtain ⟨h, i, rfl, j, f⟩ := d.opn
  refine Za rfl rfl (Zfb d.ls el22 un5 un9 rfl) (Za rfl rfl (Zg rfl) (Za rfl rfl (Zbh (by (simp only [u8s, List.map_cons, List.map_nil, List.length_cons, List.length_nil]; omega)) rfl rfl) (Za rfl rfl (Ze rfl) (Zd (Zb (J _ _ (Zc (Za rfl rfl (Zg rfl) ?_))))))))
  refine Za rfl rfl (Zox om (td10 om) rfl rfl) (Za rfl rfl (Ze rfl) (Zd (Yd ?_)))
  exact Zb (Exists.intro ((m.tdiv 10), ((u8s ([(w8 (48 + (m.tmod 10)))])) ++ out)) ⟨⟨E, om, (Zjt hm a hr (by first | exact .inl rfl | exact .inr rfl) om), (td10 hr)⟩, sC4 rfl rfl rfl rfl (Sub.nil _), (Zou a)⟩)
 have l := a
 have a := Yb (Xw a)
 refine Xu (Yh (Yh (Xd ?_)))
 refine Zb (H8 _ _ ?_)
 refine Zf fun ab y => ?_
 refine Zf fun ac L => ?_
 refine Zc (Za rfl rfl (Zg rfl) (Zd (Zb (L _ _ ?_))))
 refine Zs rfl (fun b => ?_) (fun b => ?_)
 ·have q := b
  have b := Yb b
  refine Zf fun ad M => ?_
  refine Zc (Za rfl rfl (Zg rfl) (Za rfl rfl (Zbh (by (simp only [u8s, List.map_cons, List.map_nil, List.length_cons, List.length_nil]; omega)) rfl rfl) (Za rfl rfl (Ze rfl) (Zd (Zb (M _ _ ?_))))))
  refine Zp (Zk ?_)
  clear s y
  exact Zh [_] ⟨rfl, trivial⟩ ⟨congrArg bst (Zkm b (Zmg hm a)), E⟩
 have q := b
 have b := Yc b
 refine Zu ?_
 refine Zb (y _ _ ?_)
 refine Zf fun ae O => ?_
 refine Zc (Za rfl rfl (Zg rfl) (Za rfl rfl (Ze rfl) (Zd (Zb (O _ _ ?_)))))
 refine Zp ?_
 exact Zh [_] ⟨rfl, trivial⟩ ⟨congrArg bst (Zll b e (Zmg hm a)), E⟩

/-- spec.l8Token -/
theorem Zeq {w : World} (t : Token) (hl : 0 ≤ t.low ∧ t.low ≤ 255) (hh : 0 ≤ t.high ∧ t.high ≤ 255) :
 Ctr Tryz.prog 103 #[(.agg #[(.int .i64 t.kind), (.int .i64 t.letter), (.int .i64 t.low), (.int .i64 t.high)])] w (fun v w' => v = bst (Qc t) ∧ Ch [] w w') := by
 have E := Ch.refl [] w
 have Z := Zbw t.low; have aa := Zbw t.high
 refine Zv (N := 30) (vs0 := [(.agg #[(.int .i64 t.kind), (.int .i64 t.letter), (.int .i64 t.low), (.int .i64 t.high)])]) Tryz.func103 rfl rfl rfl ?_
 refine Zf fun K1 H1 => ?_
 refine Zc (Zl rfl rfl ?_)
 refine Qm rfl fun A W2 h C2 ab => ?_
 have ac := C2.size
 have E := E.trans C2
 have ad := h.lt
 replace h : Blk W2 A 42 [(.int .i64 t.kind), (.int .i64 t.letter), (.int .i64 t.low), (.int .i64 t.high)] := h
 refine Za rfl rfl (Ze rfl) (Zd (Zb (H1 _ _ ?_)))
 refine Zf fun K3 H3 => ?_
 refine Zf fun K4 H4 => ?_
 refine Zc (Za rfl rfl (Zi fa42_0 rfl) (Za rfl rfl (Zo h.at_ agg3 rfl rfl) (Zd (Zb (H4 _ _ ?_)))))
 refine Yj ?_
 refine Zf fun K5 H5 => ?_
 refine Zc (Za rfl rfl (Yn rfl rfl) (Za rfl rfl (Ze rfl) (Zd (Zb (H5 _ _ ?_)))))
 refine Zs rfl (fun d => ?_) (fun d => ?_)
 ·have B := d
  have d := Yb d
  refine Zf fun K7 H7 => ?_
  refine Zc (Za rfl rfl (Ze rfl) (Zd (Zb (H7 _ _ ?_))))
  refine Zp (Zt (Zk ?_))
  exact Zh [_] ⟨rfl, trivial⟩ ⟨congrArg bst (by unfold Qc; rw [if_pos d]), E⟩
 have B := d
 have d := Yc d
 refine Zf fun K8 H8 => ?_
 refine Zc (Za rfl rfl (Yn rfl rfl) (Za rfl rfl (Ze rfl) (Zd (Zb (H8 _ _ ?_)))))
 refine Zs rfl (fun e => ?_) (fun e => ?_)
 ·have C := e
  have e := Yb e
  refine Zf fun ae D => ?_
  refine Zc (Za rfl rfl (Ze rfl) (Zd (Zb (D _ _ ?_))))
  refine Zp (Zt (Zk ?_))
  exact Zh [_] ⟨rfl, trivial⟩ ⟨congrArg bst (by unfold Qc; rw [if_neg d, if_pos e]), E⟩
 have C := e
 have e := Yc e
 refine Zf fun af F => ?_
 refine Zc (Za rfl rfl (Yn rfl rfl) (Za rfl rfl (Ze rfl) (Zd (Zb (F _ _ ?_)))))
 refine Zs rfl (fun f => ?_) (fun f => ?_)
 ·have k := f
  have f := Yb f
  refine Zf fun ag G => ?_
  refine Zc (Za rfl rfl (Zi fa42_1 rfl) (Za rfl rfl (Zo h.at_ agg3 rfl rfl) (Zl rfl rfl ?_)))
  refine Step.call (Zm (xs := [.tmp 12]) fk116 rfl) (Zak _ ) fun H ah l => ?_
  obtain ⟨rfl, x⟩ := l
  have I := x.size
  have E := E.trans x
  refine Za rfl rfl (Ze rfl) (Zd (Zb (G _ _ ?_)))
  refine Zp (Zt (Zk ?_))
  exact Zh [_] ⟨rfl, trivial⟩ ⟨congrArg bst (by unfold Qc; rw [if_neg d, if_neg e, if_pos f]), E⟩
 have k := f
 have f := Yc f
 refine Zf fun ai J => ?_
 refine Zc (Za rfl rfl (Yn rfl rfl) (Za rfl rfl (Ze rfl) (Zd (Zb (J _ _ ?_)))))
 refine Zs rfl (fun a => ?_) (fun a => ?_)
 ·have m := a
  have a := Yb a
  refine Zf fun aj K => ?_
  refine Zc (Za rfl rfl (Ze rfl) (Zd (Zb (K _ _ ?_))))
  refine Zp (Zt (Zk ?_))
  exact Zh [_] ⟨rfl, trivial⟩ ⟨congrArg bst (by unfold Qc; rw [if_neg d, if_neg e, if_neg f, if_pos a]), E⟩
 have m := a
 have a := Yc a
 refine Zf fun ak L => ?_
 refine Zc (Za rfl rfl (Yn rfl rfl) (Za rfl rfl (Ze rfl) (Zd (Zb (L _ _ ?_)))))
 refine Zs rfl (fun b => ?_) (fun b => ?_)
 ·have n := b
  have b := Yb b
  refine Zf fun al M => ?_
  refine Zc (Za rfl rfl (Ze rfl) (Zd (Zb (M _ _ ?_))))
  refine Zp (Zt (Zk ?_))
  exact Zh [_] ⟨rfl, trivial⟩ ⟨congrArg bst (by unfold Qc; rw [if_neg d, if_neg e, if_neg f, if_neg a, if_pos b]), E⟩
 have n := b
 have b := Yc b
 refine Zf fun am O => ?_
 refine Zc (Za rfl rfl (Yn rfl rfl) (Za rfl rfl (Ze rfl) (Zd (Zb (O _ _ ?_)))))
 refine Zs rfl (fun c => ?_) (fun c => ?_)
 ·have o := c
  have c := Yb c
  refine Zf fun an P => ?_
  refine Zc (Za rfl rfl (Ze rfl) (Zd (Zb (P _ _ ?_))))
  refine Zp (Zt (Zk ?_))
  exact Zh [_] ⟨rfl, trivial⟩ ⟨congrArg bst (by unfold Qc; rw [if_neg d, if_neg e, if_neg f, if_neg a, if_neg b, if_pos c]), E⟩
 have o := c
 have c := Yc c
 refine Zu ?_
 refine Yd (Zb (H3 _ _ ?_))
 refine Zf fun ao Q => ?_
 refine Xm [] 11 mixed rfl fun y p => ?_
 have R := p.size
 have E := E.trans p
 refine dV 0 rfl rfl rfl (fun _ => Zi fa42_2 rfl) ?_
 have z := h.ch0 p
 refine dT 1 rfl rfl rfl (Xl z.at_ (fun i hi => absurd hi List.not_mem_nil) agg3 rfl rfl ?_)
 refine dV 5 rfl rfl rfl (fun _ => Zi fa42_3 rfl) ?_
 refine dT 6 rfl rfl rfl (Xl z.at_ (fun i hi => absurd hi List.not_mem_nil) agg3 rfl rfl ?_)
 refine dO 2 (Yf rfl rfl rfl ?_)
 refine Step.call (Zm (xs := [.tmp 21]) fk117 rfl) (Zbf _ om) fun S T q => ?_
 obtain ⟨rfl, r⟩ := q
 have U := r.size
 have E := E.trans r
 have g : Ch [] y T := ((Ch.refl _ _).trans r)
 refine ⟨g, ?_⟩
 refine dV 3 rfl rfl rfl (fun _ => Zbh (by (simp only [List.length_append, List.length_cons, List.length_nil]; omega)) rfl rfl) (dV 4 rfl rfl rfl (fun _ => Zbh (by (simp only [List.length_append, List.length_cons, List.length_nil]; omega)) rfl rfl) (dO 7 (Yf rfl rfl rfl ?_)))
 refine Step.call (Zm (xs := [.tmp 26]) fk117 rfl) (Zbf _ om) fun V X s => ?_
 obtain ⟨rfl, u⟩ := s
 have Y := u.size
 have E := E.trans u
 have j : Ch [] y X := (g.trans u)
 refine ⟨j, ?_⟩
 refine dV 8 rfl rfl rfl (fun _ => Zbh (by (simp only [List.length_append, List.length_cons, List.length_nil]; omega)) rfl rfl) (dV 9 rfl rfl rfl (fun _ => Zbh (by (simp only [List.length_append, List.length_cons, List.length_nil]; omega)) rfl rfl) (dV 10 rfl rfl rfl (fun _ => Ze rfl) ?_))
 refine Yo (by kernel_rfl) ?_
 refine Zb (Q _ _ ?_)
 refine Zp ?_
 exact Zh [_] ⟨rfl, trivial⟩ ⟨congrArg bst (by unfold Qc; rw [if_neg d, if_neg e, if_neg f, if_neg a, if_neg b, if_neg c]), E⟩

/-- spec.l8Read -/
theorem Zcr {w : World} (s : List UInt8) :
 Ctr Tryz.prog 89 #[(bst s)] w (fun v w' => v = .agg (Token.cs (rdT s)).toArray ∧ Ch [] w w') := by
 have E := Ch.refl [] w
 refine Zv (N := 57) (vs0 := [(bst s)]) Tryz.func89 rfl rfl rfl ?_
 refine Zf fun K1 H1 => ?_
 refine Zc (Zl rfl rfl ?_)
 refine Yl zr42 fun o W2 D C2 aX => ?_
 have aY := C2.size
 have E := E.trans C2
 have aZ := D.lt
 replace D : Blk W2 o 42 [(.int .i64 0), (.int .i64 0), (.int .i64 0), (.int .i64 0)] := D
 refine Zd (Zb (H1 _ _ ?_))
 refine Zf fun K3 H3 => ?_
 refine Zf fun K4 H4 => ?_
 refine Zc (Za rfl rfl (Ze rfl) (Zd (Zb (H4 _ _ ?_))))
 refine Yj ?_
 refine Qf (σ := Nat) (fun (k : Nat) => [(0, (bst s)), (2, (.pointer (some ⟨o, 0, none⟩))), (3, (.int .i64 ((k : Nat) : Int)))]) (fun (k : Nat) wx => Ch [] w wx ∧ W2.heap.size ≤ wx.heap.size ∧ (1 ≤ k ∧ k ≤ 7) ∧ (rdK s k = none) ∧ Blk wx o 42 [(.int .i64 0), (.int .i64 0), (.int .i64 0), (.int .i64 0)]) (fun (k : Nat) => 7 - k) 1 (sC2 rfl rfl (sC1 rfl (Sub.nil _))) ⟨E, (Nat.le_refl _), om, Zlc, D⟩ ?_
 rintro k R5 ⟨E, ag, a0, hn, j⟩
 have H := E
 have V := H.size
 have I := j.lt
 refine Zf fun K6 H6 => ?_
 refine Zf fun K7 H7 => ?_
 refine Zc (Za rfl rfl (Zg rfl) (Za rfl rfl (Zfv rfl rfl) (Zd (Zb (H7 _ _ ?_)))))
 refine Zs rfl (fun l => ?_) (fun l => ?_)
 ·have ah := l
  have l := Yb l
  refine Zu ?_
  refine Zb (H6 _ _ ?_)
  refine Zf fun K9 H9 => ?_
  refine Yj ?_
  refine Zf fun a1 X => ?_
  refine Zc (Za rfl rfl (Zg rfl) (Za rfl rfl (Ql rfl rfl) (Za rfl rfl (Zg rfl) ?_)))
  refine Yi (d := 12) rfl (fun m => ?_) (fun m => ?_)
  ·have J := m
   have m := Yc (Xv m)
   refine Za rfl rfl (Zg rfl) (Za rfl rfl (Zz (parts := [(0, .tmp 13)]) (cells := [(.int .i64 ((k : Nat) : Int)), (.int .i64 0), (.int .i64 0), (.int .i64 0)]) zr42 pl42 rfl rfl) (Zl rfl rfl ?_))
   refine Step.call (Zm (xs := [.tmp 14]) fk103 rfl) (Zeq ⟨((k : Nat) : Int), 0, 0, 0⟩ (by first | omega | (dsimp only; omega) | simp) (by first | omega | (dsimp only; omega) | simp)) fun ai a2 K => ?_
   obtain ⟨rfl, F⟩ := K
   have aj := F.size
   have E := E.trans F
   refine Za rfl rfl (Zg rfl) (Za rfl rfl (Zck rfl rfl) (Za rfl rfl (Ye rfl rfl) (Zd (Zb (X _ _ ?_)))))
   refine Zs rfl (fun g => ?_) (fun g => ?_)
   ·have L := g
    have g := Yb g
    refine Zf fun a3 ak => ?_
    refine Zc (Za rfl rfl (Zg rfl) (Za rfl rfl (Zz (parts := [(0, .tmp 19)]) (cells := [(.int .i64 ((k : Nat) : Int)), (.int .i64 0), (.int .i64 0), (.int .i64 0)]) zr42 pl42 rfl rfl) (Zl rfl rfl ?_)))
    have al := j.ch0 F
    refine Zq (off := 0) 4 al sz42 rfl (us := [(.int .i64 ((k : Nat) : Int)), (.int .i64 0), (.int .i64 0), (.int .i64 0)]) rfl rfl rfl rfl fun am p Y => ?_
    have an := Y.size
    have E := E.step Y (lS om)
    replace p : Blk am o 42 [(.int .i64 ((k : Nat) : Int)), (.int .i64 0), (.int .i64 0), (.int .i64 0)] := p
    refine Zd (Zb (ak _ _ ?_))
    refine Zp (Zt (Zk (Zk (Zt (Zk ?_)))))
    clear H3 H9
    exact Zh [_] (Zn p rfl agg42 sz42 trivial) ⟨(by have key : ∀ z : Token, z = rdT s → Value.agg (Token.cs z).toArray = Value.agg (Token.cs (rdT s)).toArray := (fun z h => by rw [h]); first | exact key _ (Zha hn om om om g) | exact key _ (Zhc (Xe hn l om) a) | exact key _ (Zhb (Xe hn l om) a ⟨by omega, b, e, f⟩) | exact key _ (Zgy (Xe hn l om) a (fun c => by first | exact f c.2.2.2 | exact e c.2.2.1 | exact b c.2.1 | omega))), E⟩
   have L := g
   have g := Yc g
   refine Zu ?_
   refine Yd (Zb (H9 _ _ (Zc (Za rfl rfl (Zg rfl) (Za rfl rfl (Yy om rfl rfl) (Za rfl rfl (Ze rfl) (Zd ?_)))))))
   have ao := j.ch0 F
   exact Zb (Exists.intro (k + 1) ⟨⟨E, om, om, (Zoi hn (by first | exact .inr g | (left; omega))), ao⟩, sC2 rfl rfl (sC1 rfl (Sub.nil _)), (by first | omega | (dsimp only; omega))⟩)
  have J := m
  have m := Yb (Xw m)
  refine Zj rfl rfl (Zj rfl rfl (Zj rfl rfl (Zj rfl rfl (Zj rfl rfl (Za rfl rfl (Ya rfl rfl) (Zd (Zb (X _ _ ?_))))))))
  refine Zat rfl ?_
  refine Zu ?_
  refine Yd (Zb (H9 _ _ (Zc (Za rfl rfl (Zg rfl) (Za rfl rfl (Yy om rfl rfl) (Za rfl rfl (Ze rfl) (Zd ?_)))))))
  exact Zb (Exists.intro (k + 1) ⟨⟨E, om, om, (Zoi hn (by first | exact .inr g | (left; omega))), j⟩, sC2 rfl rfl (sC1 rfl (Sub.nil _)), (by first | omega | (dsimp only; omega))⟩)
 have ah := l
 have l := Yc l
 refine Xu (Yh (Yh (Xd ?_)))
 refine Zb (H3 _ _ ?_)
 refine Zf fun a4 ap => ?_
 refine Zc (Za rfl rfl (Zg rfl) (Zl rfl rfl ?_))
 refine Step.call (Zm (xs := [.tmp 22]) fk104 rfl) (Zct s ) fun aq a5 M => ?_
 obtain ⟨rfl, A⟩ := M
 have au := A.size
 have E := E.trans A
 refine Za rfl rfl (Zg rfl) (Za rfl rfl (Yk rfl rfl) (Za rfl rfl (Yk rfl rfl) (Za rfl rfl (Ze rfl) (Za rfl rfl (Ze rfl) (Zd (Zb (ap _ _ ?_)))))))
 refine Zf fun a6 Z => ?_
 refine Zf fun a7 av => ?_
 refine Zc (Za rfl rfl (Zg rfl) (Zd (Zb (av _ _ ?_))))
 refine Zs rfl (fun a => ?_) (fun a => ?_)
 ·have O := a
  refine Zf fun a8 aw => ?_
  refine Zc (Za rfl rfl (Zg rfl) (Za rfl rfl (Zz (parts := [(0, .const (Go.Value.int Go.IntKind.i64 3)), (1, .tmp 27)]) (cells := [(.int .i64 3), (.int .i64 ((plR s).1)), (.int .i64 0), (.int .i64 0)]) zr42 pl42 rfl rfl) (Zl rfl rfl ?_)))
  have ax := j.ch0 A
  refine Zq (off := 0) 4 ax sz42 rfl (us := [(.int .i64 3), (.int .i64 ((plR s).1)), (.int .i64 0), (.int .i64 0)]) rfl rfl rfl rfl fun ay q aa => ?_
  have az := aa.size
  have E := E.step aa (lS om)
  replace q : Blk ay o 42 [(.int .i64 3), (.int .i64 ((plR s).1)), (.int .i64 0), (.int .i64 0)] := q
  refine Zd (Zb (aw _ _ ?_))
  refine Zp (Zk ?_)
  clear H6 Z
  exact Zh [_] (Zn q rfl agg42 sz42 trivial) ⟨(by have key : ∀ z : Token, z = rdT s → Value.agg (Token.cs z).toArray = Value.agg (Token.cs (rdT s)).toArray := (fun z h => by rw [h]); first | exact key _ (Zha hn om om om g) | exact key _ (Zhc (Xe hn l om) a) | exact key _ (Zhb (Xe hn l om) a ⟨by omega, b, e, f⟩) | exact key _ (Zgy (Xe hn l om) a (fun c => by first | exact f c.2.2.2 | exact e c.2.2.1 | exact b c.2.1 | omega))), E⟩
 have O := a
 refine Zu ?_
 refine Zb (Z _ _ ?_)
 refine Zf fun a9 B => ?_
 refine Zf fun ba G => ?_
 refine Zc (Za rfl rfl (Zg rfl) (Za rfl rfl (Ziv un9 rfl) (Za rfl rfl (Yn rfl rfl) (Za rfl rfl (Zg rfl) ?_))))
 refine Yi (d := 32) rfl (fun n => ?_) (fun n => ?_)
 ·have P := n
  have n := Yb n
  refine Za rfl rfl (Zg rfl) (Za rfl rfl (Zbt om un9 rfl rfl) (Za rfl rfl (Yn rfl rfl) (Za rfl rfl (Ye rfl rfl) (Za rfl rfl (Zg rfl) ?_))))
  refine Yi (d := 37) rfl (fun b => ?_) (fun b => ?_)
  ·have Q := b
   have b := Yb b
   refine Za rfl rfl (Zg rfl) (Za rfl rfl (Zbt om un9 rfl rfl) (Za rfl rfl (Yn rfl rfl) (Za rfl rfl (Ye rfl rfl) (Za rfl rfl (Zg rfl) ?_))))
   refine Yi (d := 42) rfl (fun e => ?_) (fun e => ?_)
   ·have R := e
    have e := Yb e
    refine Za rfl rfl (Zg rfl) (Za rfl rfl (Zbt om un9 rfl rfl) (Za rfl rfl (Yn rfl rfl) (Za rfl rfl (Ye rfl rfl) (Zd (Zb (G _ _ ?_))))))
    refine Zs rfl (fun f => ?_) (fun f => ?_)
    ·have S := f
     have f := Yb f
     refine Zf fun bb aA => ?_
     refine Xm [o] 10 mixed rfl fun aB T => ?_
     have aC := T.size
     have E := E.trans T
     refine dV 0 rfl rfl rfl (fun _ => Zg rfl) (dV 1 rfl rfl rfl (fun _ => Zbt om un9 rfl rfl) (dV 2 rfl rfl rfl (fun _ => Zen (Zlw _ _) (by rw [un5]; rfl) un3 rfl) (dV 3 rfl rfl rfl (fun _ => Qg (by have aD := Zhd s (Int.toNat 1); omega) rfl rfl) (dV 4 rfl rfl rfl (fun _ => Zg rfl) (dV 5 rfl rfl rfl (fun _ => Zbt om un9 rfl rfl) (dV 6 rfl rfl rfl (fun _ => Zen (Zlw _ _) (by rw [un5]; rfl) un3 rfl) (dV 7 rfl rfl rfl (fun _ => Qg (by have aD := Zhd s (Int.toNat 3); omega) rfl rfl) ?_)))))))
     refine dV 8 rfl rfl rfl (fun _ => Zz (parts := [(0, .const (Go.Value.int Go.IntKind.i64 7)), (2, .tmp 50), (3, .tmp 54)]) (cells := [(.int .i64 7), (.int .i64 0), (.int .i64 ((bat s 1) - 48)), (.int .i64 ((bat s 3) - 48))]) zr42 pl42 rfl rfl) (dO 9 (Yf rfl rfl rfl ?_))
     have aE := (j.ch0 A).ch0 T
     refine Zq (off := 0) 4 aE sz42 rfl (us := [(.int .i64 7), (.int .i64 0), (.int .i64 ((bat s 1) - 48)), (.int .i64 ((bat s 3) - 48))]) rfl rfl rfl rfl fun ab r U => ?_
     have aF := U.size
     have E := E.step U (lS om)
     replace r : Blk ab o 42 [(.int .i64 7), (.int .i64 0), (.int .i64 ((bat s 1) - 48)), (.int .i64 ((bat s 3) - 48))] := r
     have C : Ch [o] aB ab := ((Ch.refl _ _).step U (fun i hm => by have aG := List.mem_singleton.1 hm; exact .inr (by rw [aG]; exact (List.mem_singleton.2 rfl))))
     refine ⟨C, ?_⟩
     refine Yo (by kernel_rfl) ?_
     refine Zb (aA _ _ ?_)
     refine Zp (Zk ?_)
     clear H6 B
     exact Zh [_] (Zn r rfl agg42 sz42 trivial) ⟨(by have key : ∀ z : Token, z = rdT s → Value.agg (Token.cs z).toArray = Value.agg (Token.cs (rdT s)).toArray := (fun z h => by rw [h]); first | exact key _ (Zha hn om om om g) | exact key _ (Zhc (Xe hn l om) a) | exact key _ (Zhb (Xe hn l om) a ⟨by omega, b, e, f⟩) | exact key _ (Zgy (Xe hn l om) a (fun c => by first | exact f c.2.2.2 | exact e c.2.2.1 | exact b c.2.1 | omega))), E⟩
    have S := f
    have f := Yc f
    refine Zu ?_
    refine Zb (B _ _ ?_)
    refine Zf fun bc aH => ?_
    refine Zc (Za rfl rfl (Zz (parts := []) (cells := [(.int .i64 0), (.int .i64 0), (.int .i64 0), (.int .i64 0)]) zr42 pl42 rfl rfl) (Zl rfl rfl ?_))
    have aI := j.ch0 A
    refine Zq (off := 0) 4 aI sz42 rfl (us := [(.int .i64 0), (.int .i64 0), (.int .i64 0), (.int .i64 0)]) rfl rfl rfl rfl fun aJ t ac => ?_
    have aK := ac.size
    have E := E.step ac (lS om)
    replace t : Blk aJ o 42 [(.int .i64 0), (.int .i64 0), (.int .i64 0), (.int .i64 0)] := t
    refine Zd (Zb (aH _ _ ?_))
    refine Zp ?_
    exact Zh [_] (Zn t rfl agg42 sz42 trivial) ⟨(by have key : ∀ z : Token, z = rdT s → Value.agg (Token.cs z).toArray = Value.agg (Token.cs (rdT s)).toArray := (fun z h => by rw [h]); first | exact key _ (Zha hn om om om g) | exact key _ (Zhc (Xe hn l om) a) | exact key _ (Zhb (Xe hn l om) a ⟨by omega, b, e, f⟩) | exact key _ (Zgy (Xe hn l om) a (fun c => by first | exact f c.2.2.2 | exact e c.2.2.1 | exact b c.2.1 | omega))), E⟩
   have R := e
   have e := Yc e
   refine Zj rfl rfl (Zj rfl rfl (Zj rfl rfl (Za rfl rfl (Ya rfl rfl) (Zd (Zb (G _ _ ?_))))))
   refine Zat rfl ?_
   refine Zu ?_
   refine Zb (B _ _ ?_)
   refine Zf fun be aL => ?_
   refine Zc (Za rfl rfl (Zz (parts := []) (cells := [(.int .i64 0), (.int .i64 0), (.int .i64 0), (.int .i64 0)]) zr42 pl42 rfl rfl) (Zl rfl rfl ?_))
   have aM := j.ch0 A
   refine Zq (off := 0) 4 aM sz42 rfl (us := [(.int .i64 0), (.int .i64 0), (.int .i64 0), (.int .i64 0)]) rfl rfl rfl rfl fun aN u ad => ?_
   have aO := ad.size
   have E := E.step ad (lS om)
   replace u : Blk aN o 42 [(.int .i64 0), (.int .i64 0), (.int .i64 0), (.int .i64 0)] := u
   refine Zd (Zb (aL _ _ ?_))
   refine Zp ?_
   exact Zh [_] (Zn u rfl agg42 sz42 trivial) ⟨(by have key : ∀ z : Token, z = rdT s → Value.agg (Token.cs z).toArray = Value.agg (Token.cs (rdT s)).toArray := (fun z h => by rw [h]); first | exact key _ (Zha hn om om om g) | exact key _ (Zhc (Xe hn l om) a) | exact key _ (Zhb (Xe hn l om) a ⟨by omega, b, e, f⟩) | exact key _ (Zgy (Xe hn l om) a (fun c => by first | exact f c.2.2.2 | exact e c.2.2.1 | exact b c.2.1 | omega))), E⟩
  have Q := b
  have b := Yc b
  refine Zj rfl rfl (Zj rfl rfl (Zj rfl rfl (Za rfl rfl (Ya rfl rfl) (Za rfl rfl (Zg rfl) (Zj rfl rfl (Zj rfl rfl (Zj rfl rfl ?_)))))))
  refine Za rfl rfl (Ya rfl rfl) (Zd (Zb (G _ _ ?_)))
  refine Zat rfl ?_
  refine Zu ?_
  refine Zb (B _ _ ?_)
  refine Zf fun bf aP => ?_
  refine Zc (Za rfl rfl (Zz (parts := []) (cells := [(.int .i64 0), (.int .i64 0), (.int .i64 0), (.int .i64 0)]) zr42 pl42 rfl rfl) (Zl rfl rfl ?_))
  have aQ := j.ch0 A
  refine Zq (off := 0) 4 aQ sz42 rfl (us := [(.int .i64 0), (.int .i64 0), (.int .i64 0), (.int .i64 0)]) rfl rfl rfl rfl fun aR x ae => ?_
  have aS := ae.size
  have E := E.step ae (lS om)
  replace x : Blk aR o 42 [(.int .i64 0), (.int .i64 0), (.int .i64 0), (.int .i64 0)] := x
  refine Zd (Zb (aP _ _ ?_))
  refine Zp ?_
  exact Zh [_] (Zn x rfl agg42 sz42 trivial) ⟨(by have key : ∀ z : Token, z = rdT s → Value.agg (Token.cs z).toArray = Value.agg (Token.cs (rdT s)).toArray := (fun z h => by rw [h]); first | exact key _ (Zha hn om om om g) | exact key _ (Zhc (Xe hn l om) a) | exact key _ (Zhb (Xe hn l om) a ⟨by omega, b, e, f⟩) | exact key _ (Zgy (Xe hn l om) a (fun c => by first | exact f c.2.2.2 | exact e c.2.2.1 | exact b c.2.1 | omega))), E⟩
 have P := n
 have n := Yc n
 refine Zj rfl rfl (Zj rfl rfl (Zj rfl rfl (Za rfl rfl (Ya rfl rfl) (Za rfl rfl (Zg rfl) (Zj rfl rfl (Zj rfl rfl (Zj rfl rfl ?_)))))))
 refine Za rfl rfl (Ya rfl rfl) (Za rfl rfl (Zg rfl) (Zj rfl rfl (Zj rfl rfl (Zj rfl rfl (Za rfl rfl (Ya rfl rfl) (Zd (Zb (G _ _ ?_))))))))
 refine Zat rfl ?_
 refine Zu ?_
 refine Zb (B _ _ ?_)
 refine Zf fun bg aT => ?_
 refine Zc (Za rfl rfl (Zz (parts := []) (cells := [(.int .i64 0), (.int .i64 0), (.int .i64 0), (.int .i64 0)]) zr42 pl42 rfl rfl) (Zl rfl rfl ?_))
 have aU := j.ch0 A
 refine Zq (off := 0) 4 aU sz42 rfl (us := [(.int .i64 0), (.int .i64 0), (.int .i64 0), (.int .i64 0)]) rfl rfl rfl rfl fun aV y af => ?_
 have aW := af.size
 have E := E.step af (lS om)
 replace y : Blk aV o 42 [(.int .i64 0), (.int .i64 0), (.int .i64 0), (.int .i64 0)] := y
 refine Zd (Zb (aT _ _ ?_))
 refine Zp ?_
 exact Zh [_] (Zn y rfl agg42 sz42 trivial) ⟨(by have key : ∀ z : Token, z = rdT s → Value.agg (Token.cs z).toArray = Value.agg (Token.cs (rdT s)).toArray := (fun z h => by rw [h]); first | exact key _ (Zha hn om om om g) | exact key _ (Zhc (Xe hn l om) a) | exact key _ (Zhb (Xe hn l om) a ⟨by omega, b, e, f⟩) | exact key _ (Zgy (Xe hn l om) a (fun c => by first | exact f c.2.2.2 | exact e c.2.2.1 | exact b c.2.1 | omega))), E⟩

/-- spec.ParseExpr -/
theorem Zds {w : World} (s : List UInt8) (hb : s.length ≤ 4194304) :
 Ctr Tryz.prog 70 #[(bst s)] w (fun v w' => ∃ (ae : Value), v = .tuple #[.agg #[ae], .bool ((Xp s).2)] ∧ Ol Token.cs 42 4 w' ae ((Xp s).1) ∧ Lo w.heap.size ae ∧ Ch [] w w') := by
 have E := Ch.refl [] w
 have cw := Zbu s 32 []
 refine Zv (N := 35) (vs0 := [(bst s)]) Tryz.func70 rfl rfl rfl ?_
 refine Zf fun K1 H1 => ?_
 refine Zc (Zl rfl rfl ?_)
 refine Yl zr26 fun af W2 aQ C2 cx => ?_
 have cy := C2.size
 have E := E.trans C2
 have cz := aQ.lt
 replace aQ : Blk W2 af 26 [(.slice none 0 0)] := aQ
 refine Za rfl rfl (Ze rfl) (Zd (Zb (H1 _ _ ?_)))
 refine Zf fun K3 H3 => ?_
 refine Zc (Za rfl rfl (Zz (parts := []) (cells := [(.slice none 0 0)]) zr26 pl26 rfl rfl) (Zl rfl rfl ?_))
 refine Yl zr26 fun p W4 aR C4 cA => ?_
 have cB := C4.size
 have E := E.trans C4
 have cC := aR.lt
 replace aR : Blk W4 p 26 [(.slice none 0 0)] := aR
 refine Zl rfl rfl ?_
 refine Zq (off := 0) 1 aR sz26 rfl (us := [(.slice none 0 0)]) rfl rfl rfl rfl fun W5 ag C5 => ?_
 have cD := C5.size
 have E := E.step C5 (lS om)
 replace ag : Blk W5 p 26 [(.slice none 0 0)] := ag
 refine Zd (Zb (H3 _ _ ?_))
 refine Zf fun K7 H7 => ?_
 refine Zc (Za rfl rfl (Zg rfl) (Zl rfl rfl ?_))
 refine Step.call (Zm (xs := [.tmp 8, .const (Go.Value.int Go.IntKind.u8 32)]) fk88 rfl) (Zgv s _ om) fun cE W8 aS => ?_
 obtain ⟨aS, aU, C8⟩ := aS
 have cF := C8.size
 have E := E.trans C8
 obtain ⟨aC, aD, rfl, bu, aE⟩ := aS.opn
 have aV := Ol.lsR aS (lo := W5.heap.size) (hi := W8.heap.size) aU aE
 refine Za rfl rfl (Ze rfl) (Zd (Zb (H7 _ _ ?_)))
 refine Zf fun K9 H9 => ?_
 refine Zf fun cG bv => ?_
 refine Zc (Za rfl rfl (Ze rfl) (Zd (Zb (bv _ _ ?_))))
 refine Yj ?_
 have ah : Ol Token.cs 42 4 W8 (.slice none 0 0) (((Zx s 32 []).take 0).map rdT) := by
  have hx := Ol.nil (cs := Token.cs) (e := 42) (k := 4) W8
  simpa using hx
 have bw := ag.ch0 C8
 have bx := ((aQ.ch0 C4).ch C5 (nS om)).ch0 C8
 refine Qf (σ := Nat × Value) (fun ⟨i, tv⟩ => [(2, (.pointer (some ⟨af, 0, none⟩))), (3, (.bool false)), (4, (.pointer (some ⟨p, 0, none⟩))), (5, (.slice aC (Zx s 32 []).length aD)), (6, (.int .i64 ((i : Nat) : Int)))]) (fun ⟨i, tv⟩ wx => Ch [] w wx ∧ W8.heap.size ≤ wx.heap.size ∧ (i ≤ (Zx s 32 []).length ∧ i ≤ 25) ∧ Blk wx af 26 [(.slice none 0 0)] ∧ Ls scs 1 wx W5.heap.size W8.heap.size (.slice aC (Zx s 32 []).length aD) (Zx s 32 []) ∧ Ol Token.cs 42 4 wx tv (((Zx s 32 []).take i).map rdT) ∧ Lo W8.heap.size tv ∧ Blk wx p 26 [tv] ∧ (p ∉ bl tv)) (fun ⟨i, tv⟩ => (Zx s 32 []).length - i) (0, (.slice none 0 0)) (sC4 rfl rfl rfl rfl (sC1 rfl (Sub.nil _))) ⟨E, (Nat.le_refl _), om, bx, aV, ah, (Lo.nil _), bw, (fun hm => by cases hm)⟩ ?_
 rintro ⟨i, tv⟩ cH ⟨E, bz, hi, l, aF, m, a, o, c⟩
 have aW := E
 have bg := aW.size
 have aX := l.lt
 obtain ⟨Atv, Ctv, rfl, ltv, q⟩ := m.opn
 refine Zf fun cI aY => ?_
 refine Zf fun cJ bh => ?_
 refine Zc (Za rfl rfl (Zg rfl) (Za rfl rfl (Zg rfl) (Za rfl rfl (Xk (by rw [el52]; rfl) rfl) (Za rfl rfl (Qv rfl rfl) (Za rfl rfl (Zg rfl) ?_)))))
 refine Yi (d := 14) rfl (fun y => ?_) (fun y => ?_)
 ·have aZ := y
  have y := Yb y
  refine Za rfl rfl (Zg rfl) (Za rfl rfl (Zfv rfl rfl) (Za rfl rfl (Ye rfl rfl) (Zd (Zb (bh _ _ ?_)))))
  refine Zs rfl (fun z => ?_) (fun z => ?_)
  ·have a0 := z
   have z := Yb z
   refine Zu ?_
   refine Zb (aY _ _ ?_)
   refine Zf fun cK a1 => ?_
   refine Yj ?_
   refine Xm ((bl (.slice Atv (((Zx s 32 []).take i).map rdT).length Ctv)) ++ [p]) 11 mixed rfl fun C B => ?_
   have bA := B.size
   have E := E.trans B
   refine dV 0 rfl rfl rfl (fun _ => Zi fa26_0 rfl) (dV 2 rfl rfl rfl (fun _ => Zg rfl) (dV 3 rfl rfl rfl (fun _ => Zg rfl) ?_))
   have aT := aF.ch0 B
   refine dT 4 rfl rfl rfl (Zcx aT Zaj el52 sz9 rfl rfl rfl om fun bB j D a2 => ?_)
   refine dT 5 rfl rfl rfl (Zcq a2 (fun i hm => by rcases List.mem_append.1 hm with hm | hm; (have R := a _ hm; have a3 := q _ hm; omega); (have R := List.mem_singleton.1 hm; omega)) agg9 rfl rfl ?_)
   refine Zam 1 6 (by kernel_rfl) ?_ ?_
   ·refine Yf rfl rfl rfl ?_
    have bi := o.ch0 B
    refine s_v (Zo bi.at_ agg24 rfl rfl) ?_
    refine ⟨(Ch.refl _ _), ?_⟩
    refine dO 6 (Yf rfl rfl rfl ?_)
    refine Step.call (Zm (xs := [.tmp 25]) fk89 rfl) (Zcr j ) fun a4 bC ai => ?_
    obtain ⟨rfl, aj⟩ := ai
    have bD := aj.size
    have E := E.trans aj
    have S : Ch ((bl (.slice Atv (((Zx s 32 []).take i).map rdT).length Ctv)) ++ [p]) C bC := ((Ch.refl _ _).trans aj.of_nil)
    refine ⟨S, ?_⟩
    refine dO 7 (Yf rfl rfl rfl ?_)
    refine Yg (cs := Token.cs) (parts := [(0, .tmp 26)]) (⟨0, 0, 0, 0⟩ : Token) [(rdT j)] el24 sz42 zr42 Token.len (by decide) rfl rfl rfl (by decide) (by decide) rfl fun aG bE r T ak => ?_
    have bF := ak.size
    have E := E.trans ak
    obtain ⟨U, V, rfl, X, F⟩ := r.opn
    have Y : Ch ((bl (.slice Atv (((Zx s 32 []).take i).map rdT).length Ctv)) ++ [p]) C bE := (S.trans ak.of_nil)
    refine ⟨Y, ?_⟩
    refine dO 8 (Yf rfl rfl rfl ?_)
    have bG := ((m.ch0 B).ch0 aj).ch0 ak
    refine Yt (cs := Token.cs) el24 sz42 by42 zr42 rfl (by decide) Token.one bG r.ls rfl rfl bd bd a om fun aH bH t u n au => ?_
    have bI := au.size
    have E := E.step au (fun i hi => .inl (by have R := a _ hi; omega))
    obtain ⟨f, h, rfl, Z, G⟩ := t.opn
    have aa : Ch ((bl (.slice Atv (((Zx s 32 []).take i).map rdT).length Ctv)) ++ [p]) C bH := (Y.step au (fun i hm => by exact .inr (List.mem_append_left _ hm)))
    refine ⟨aa, ?_⟩
    refine dV 9 rfl rfl rfl (fun _ => Zi fa26_0 rfl) (dO 10 (Yf rfl rfl rfl ?_))
    have bJ := ((bi.ch0 aj).ch0 ak).ch au (fun hm => by exact c (by first | exact hm | exact x ▸ hm))
    refine Ys (off := 0) bJ sz24 rfl rfl rfl rfl fun a5 H av => ?_
    have bK := av.size
    have E := E.step av (lS om)
    replace H : Blk a5 p 26 [(.slice f ((((Zx s 32 []).take i).map rdT ++ [(rdT j)])).length h)] := H
    have aI : Ch ((bl (.slice Atv (((Zx s 32 []).take i).map rdT).length Ctv)) ++ [p]) C a5 := (aa.step av (fun i hm => by have x := List.mem_singleton.1 hm; exact .inr (by rw [x]; exact (List.mem_append_right _ (List.mem_singleton.2 rfl)))))
    refine ⟨aI, ?_⟩
    refine Yo (by kernel_rfl) ?_
    refine Yd (Zb (a1 _ _ (Zc (Za rfl rfl (Zg rfl) (Za rfl rfl (Yy om rfl rfl) (Za rfl rfl (Ze rfl) (Zd ?_)))))))
    have bL := t.ch av (fun g hg hm => by have x := List.mem_singleton.1 hm; rcases n with ea | ea; (rw [ea] at hg; exact c (by first | exact hg | exact x ▸ hg)); (rw [ea] at hg; have aJ := List.mem_singleton.1 hg; omega))
    have al : Ol Token.cs 42 4 a5 (.slice f ((((Zx s 32 []).take i).map rdT ++ [(rdT j)])).length h) (((Zx s 32 []).take (i + 1)).map rdT) := by
     have hx := bL
     exact hx.eq (Xr D)
    have bM := ((((l.ch0 B).ch0 aj).ch0 ak).ch au (fun hm => by have R := a _ hm; have a3 := q _ hm; omega)).ch av (nS om)
    have bN := (((aT.ch0 aj).ch0 ak).ch au (fun i hi => by have R := a _ hi; omega)).ch av (oS om)
    exact Zb (Exists.intro ((i + 1), (.slice f ((((Zx s 32 []).take i).map rdT ++ [(rdT j)])).length h)) ⟨⟨E, om, om, bM, bN, al, (Lo.down u om), H, (fun hm => by rcases n with ea | ea; (rw [ea] at hm; exact c (by first | exact hm | exact x ▸ hm)); (rw [ea] at hm; have aJ := List.mem_singleton.1 hm; omega))⟩, sC4 rfl rfl rfl rfl (sC1 rfl (Sub.nil _)), (by first | omega | (dsimp only; omega))⟩)
   refine Yf rfl rfl rfl ?_
   refine Step.call (Zm (xs := [.tmp 25]) fk89 rfl) (Zcr j ) fun a4 bO ai => ?_
   obtain ⟨rfl, I⟩ := ai
   have bP := I.size
   have E := E.trans I
   have A : Ch ((bl (.slice Atv (((Zx s 32 []).take i).map rdT).length Ctv)) ++ [p]) C bO := ((Ch.refl _ _).trans I.of_nil)
   refine ⟨A, ?_⟩
   refine Zam 1 7 (by kernel_rfl) ?_ ?_
   ·refine Yf rfl rfl rfl ?_
    have bj := (o.ch0 B).ch0 I
    refine s_v (Zo bj.at_ agg24 rfl rfl) ?_
    refine ⟨A, ?_⟩
    refine dO 7 (Yf rfl rfl rfl ?_)
    refine Yg (cs := Token.cs) (parts := [(0, .tmp 26)]) (⟨0, 0, 0, 0⟩ : Token) [(rdT j)] el24 sz42 zr42 Token.len (by decide) rfl rfl rfl (by decide) (by decide) rfl fun aG bQ r T am => ?_
    have bR := am.size
    have E := E.trans am
    obtain ⟨U, V, rfl, X, F⟩ := r.opn
    have ab : Ch ((bl (.slice Atv (((Zx s 32 []).take i).map rdT).length Ctv)) ++ [p]) C bQ := (A.trans am.of_nil)
    refine ⟨ab, ?_⟩
    refine dO 8 (Yf rfl rfl rfl ?_)
    have bS := ((m.ch0 B).ch0 I).ch0 am
    refine Yt (cs := Token.cs) el24 sz42 by42 zr42 rfl (by decide) Token.one bS r.ls rfl rfl bd bd a om fun aH bT t u n aw => ?_
    have bU := aw.size
    have E := E.step aw (fun i hi => .inl (by have R := a _ hi; omega))
    obtain ⟨f, h, rfl, Z, G⟩ := t.opn
    have ac : Ch ((bl (.slice Atv (((Zx s 32 []).take i).map rdT).length Ctv)) ++ [p]) C bT := (ab.step aw (fun i hm => by exact .inr (List.mem_append_left _ hm)))
    refine ⟨ac, ?_⟩
    refine dV 9 rfl rfl rfl (fun _ => Zi fa26_0 rfl) (dO 10 (Yf rfl rfl rfl ?_))
    have bV := (bj.ch0 am).ch aw (fun hm => by exact c (by first | exact hm | exact x ▸ hm))
    refine Ys (off := 0) bV sz24 rfl rfl rfl rfl fun a6 J ax => ?_
    have bW := ax.size
    have E := E.step ax (lS om)
    replace J : Blk a6 p 26 [(.slice f ((((Zx s 32 []).take i).map rdT ++ [(rdT j)])).length h)] := J
    have aK : Ch ((bl (.slice Atv (((Zx s 32 []).take i).map rdT).length Ctv)) ++ [p]) C a6 := (ac.step ax (fun i hm => by have x := List.mem_singleton.1 hm; exact .inr (by rw [x]; exact (List.mem_append_right _ (List.mem_singleton.2 rfl)))))
    refine ⟨aK, ?_⟩
    refine Yo (by kernel_rfl) ?_
    refine Yd (Zb (a1 _ _ (Zc (Za rfl rfl (Zg rfl) (Za rfl rfl (Yy om rfl rfl) (Za rfl rfl (Ze rfl) (Zd ?_)))))))
    have bX := t.ch ax (fun g hg hm => by have x := List.mem_singleton.1 hm; rcases n with ea | ea; (rw [ea] at hg; exact c (by first | exact hg | exact x ▸ hg)); (rw [ea] at hg; have aJ := List.mem_singleton.1 hg; omega))
    have an : Ol Token.cs 42 4 a6 (.slice f ((((Zx s 32 []).take i).map rdT ++ [(rdT j)])).length h) (((Zx s 32 []).take (i + 1)).map rdT) := by
     have hx := bX
     exact hx.eq (Xr D)
    have bY := ((((l.ch0 B).ch0 I).ch0 am).ch aw (fun hm => by have R := a _ hm; have a3 := q _ hm; omega)).ch ax (nS om)
    have bZ := (((aT.ch0 I).ch0 am).ch aw (fun i hi => by have R := a _ hi; omega)).ch ax (oS om)
    exact Zb (Exists.intro ((i + 1), (.slice f ((((Zx s 32 []).take i).map rdT ++ [(rdT j)])).length h)) ⟨⟨E, om, om, bY, bZ, an, (Lo.down u om), J, (fun hm => by rcases n with ea | ea; (rw [ea] at hm; exact c (by first | exact hm | exact x ▸ hm)); (rw [ea] at hm; have aJ := List.mem_singleton.1 hm; omega))⟩, sC4 rfl rfl rfl rfl (sC1 rfl (Sub.nil _)), (by first | omega | (dsimp only; omega))⟩)
   refine Yf rfl rfl rfl ?_
   refine Yg (cs := Token.cs) (parts := [(0, .tmp 26)]) (⟨0, 0, 0, 0⟩ : Token) [(rdT j)] el24 sz42 zr42 Token.len (by decide) rfl rfl rfl (by decide) (by decide) rfl fun aG b0 r T ao => ?_
   have b1 := ao.size
   have E := E.trans ao
   obtain ⟨U, V, rfl, X, F⟩ := r.opn
   have K : Ch ((bl (.slice Atv (((Zx s 32 []).take i).map rdT).length Ctv)) ++ [p]) C b0 := (A.trans ao.of_nil)
   refine ⟨K, ?_⟩
   refine dO 1 (Yf rfl rfl rfl ?_)
   have bk := ((o.ch0 B).ch0 I).ch0 ao
   refine s_v (Zo bk.at_ agg24 rfl rfl) ?_
   refine ⟨K, ?_⟩
   refine dO 8 (Yf rfl rfl rfl ?_)
   have b2 := ((m.ch0 B).ch0 I).ch0 ao
   refine Yt (cs := Token.cs) el24 sz42 by42 zr42 rfl (by decide) Token.one b2 r.ls rfl rfl bd bd a om fun aH b3 t u n ay => ?_
   have b4 := ay.size
   have E := E.step ay (fun i hi => .inl (by have R := a _ hi; omega))
   obtain ⟨f, h, rfl, Z, G⟩ := t.opn
   have ad : Ch ((bl (.slice Atv (((Zx s 32 []).take i).map rdT).length Ctv)) ++ [p]) C b3 := (K.step ay (fun i hm => by exact .inr (List.mem_append_left _ hm)))
   refine ⟨ad, ?_⟩
   refine dV 9 rfl rfl rfl (fun _ => Zi fa26_0 rfl) (dO 10 (Yf rfl rfl rfl ?_))
   have b5 := bk.ch ay (fun hm => by exact c (by first | exact hm | exact x ▸ hm))
   refine Ys (off := 0) b5 sz24 rfl rfl rfl rfl fun a7 L az => ?_
   have b6 := az.size
   have E := E.step az (lS om)
   replace L : Blk a7 p 26 [(.slice f ((((Zx s 32 []).take i).map rdT ++ [(rdT j)])).length h)] := L
   have aL : Ch ((bl (.slice Atv (((Zx s 32 []).take i).map rdT).length Ctv)) ++ [p]) C a7 := (ad.step az (fun i hm => by have x := List.mem_singleton.1 hm; exact .inr (by rw [x]; exact (List.mem_append_right _ (List.mem_singleton.2 rfl)))))
   refine ⟨aL, ?_⟩
   refine Yo (by kernel_rfl) ?_
   refine Yd (Zb (a1 _ _ (Zc (Za rfl rfl (Zg rfl) (Za rfl rfl (Yy om rfl rfl) (Za rfl rfl (Ze rfl) (Zd ?_)))))))
   have b7 := t.ch az (fun g hg hm => by have x := List.mem_singleton.1 hm; rcases n with ea | ea; (rw [ea] at hg; exact c (by first | exact hg | exact x ▸ hg)); (rw [ea] at hg; have aJ := List.mem_singleton.1 hg; omega))
   have ap : Ol Token.cs 42 4 a7 (.slice f ((((Zx s 32 []).take i).map rdT ++ [(rdT j)])).length h) (((Zx s 32 []).take (i + 1)).map rdT) := by
    have hx := b7
    exact hx.eq (Xr D)
   have b8 := ((((l.ch0 B).ch0 I).ch0 ao).ch ay (fun hm => by have R := a _ hm; have a3 := q _ hm; omega)).ch az (nS om)
   have b9 := (((aT.ch0 I).ch0 ao).ch ay (fun i hi => by have R := a _ hi; omega)).ch az (oS om)
   exact Zb (Exists.intro ((i + 1), (.slice f ((((Zx s 32 []).take i).map rdT ++ [(rdT j)])).length h)) ⟨⟨E, om, om, b8, b9, ap, (Lo.down u om), L, (fun hm => by rcases n with ea | ea; (rw [ea] at hm; exact c (by first | exact hm | exact x ▸ hm)); (rw [ea] at hm; have aJ := List.mem_singleton.1 hm; omega))⟩, sC4 rfl rfl rfl rfl (sC1 rfl (Sub.nil _)), (by first | omega | (dsimp only; omega))⟩)
  have a0 := z
  have z := Yc z
  refine Xu (Yh (Yh (Xd ?_)))
  refine Zb (H9 _ _ ?_)
  refine Zf fun cL bm => ?_
  refine Zf fun cM ca => ?_
  refine Zc (Za rfl rfl (Zr o.at_ agg26 sz26 rfl) (Zl rfl rfl ?_))
  refine Step.call (Zm (xs := [.tmp 30]) fk12 rfl) (Xi m.ls ) fun a8 cN aq => ?_
  obtain ⟨rfl, aA⟩ := aq
  have cb := aA.size
  have E := E.trans aA
  refine Za rfl rfl (Zav rfl) (Zd (Zb (ca _ _ ?_)))
  refine Zs rfl (fun b => ?_) (fun b => ?_)
  ·have a9 := b
   have b := Xv b
   refine Zf fun cO cc => ?_
   refine Zc (Za rfl rfl (Zz (parts := []) (cells := [(.slice none 0 0)]) zr26 pl26 rfl rfl) (Zl rfl rfl ?_))
   have cd := l.ch0 aA
   refine Zq (off := 0) 1 cd sz26 rfl (us := [(.slice none 0 0)]) rfl rfl rfl rfl fun ba M bn => ?_
   have ce := bn.size
   have E := E.step bn (lS om)
   replace M : Blk ba af 26 [(.slice none 0 0)] := M
   refine Za rfl rfl (Ze rfl) (Zd (Zb (cc _ _ ?_)))
   refine Zp (Zk ?_)
   clear aY bm
   have aM : Ol Token.cs 42 4 ba (.slice none 0 0) ((Xp s).1) := by
    have hx := Ol.nil (cs := Token.cs) (e := 42) (k := 4) ba
    first | (rw [Zdm (congrArg (List.map rdT) (Xa om om)) b]; exact hx) | (rw [Zcj (congrArg (List.map rdT) (Xa om om)) b]; exact hx)
   exact Zh [_, _] (Zn M rfl agg26 sz26 ⟨rfl, trivial⟩) ⟨(.slice none 0 0), (congrArg (fun zq => (Value.tuple #[.agg #[(.slice none 0 0)], .bool zq])) (by first | rw [Zdm (congrArg (List.map rdT) (Xa om om)) b] | rw [Zcj (congrArg (List.map rdT) (Xa om om)) b])), aM, (Lo.nil _), E⟩
  have a9 := b
  have b := Xw b
  refine Zu ?_
  refine Zb (bm _ _ ?_)
  refine Zf fun cP cf => ?_
  refine Zc ?_
  have cg := o.ch0 aA
  refine Za rfl rfl (Zr cg.at_ agg26 sz26 rfl) (Zl rfl rfl ?_)
  have ci := l.ch0 aA
  refine Zq (off := 0) 1 ci sz26 rfl (us := [(.slice Atv (((Zx s 32 []).take i).map rdT).length Ctv)]) rfl rfl rfl rfl fun bp O bb => ?_
  have cj := bb.size
  have E := E.step bb (lS om)
  replace O : Blk bp af 26 [(.slice Atv (((Zx s 32 []).take i).map rdT).length Ctv)] := O
  refine Za rfl rfl (Ze rfl) (Zd (Zb (cf _ _ ?_)))
  refine Zp ?_
  have ck := (m.ch0 aA).ch bb (dS a q om)
  have aN : Ol Token.cs 42 4 bp (.slice Atv (((Zx s 32 []).take i).map rdT).length Ctv) ((Xp s).1) := by
   have hx := ck
   first | (rw [Zdm (congrArg (List.map rdT) (Xa om om)) b]; exact hx) | (rw [Zcj (congrArg (List.map rdT) (Xa om om)) b]; exact hx)
  exact Zh [_, _] (Zn O rfl agg26 sz26 ⟨rfl, trivial⟩) ⟨(.slice Atv (((Zx s 32 []).take i).map rdT).length Ctv), (congrArg (fun zq => (Value.tuple #[.agg #[(.slice Atv (((Zx s 32 []).take i).map rdT).length Ctv)], .bool zq])) (by first | rw [Zdm (congrArg (List.map rdT) (Xa om om)) b] | rw [Zcj (congrArg (List.map rdT) (Xa om om)) b])), aN, (Lo.down a om), E⟩
 have aZ := y
 have y := Yc y
 refine Zj rfl rfl (Zj rfl rfl (Za rfl rfl (Ya rfl rfl) (Zd (Zb (bh _ _ ?_)))))
 refine Zat rfl ?_
 refine Xu (Yh (Yh (Xd ?_)))
 refine Zb (H9 _ _ ?_)
 refine Zf fun cQ bq => ?_
 refine Zf fun cR cl => ?_
 refine Zc (Za rfl rfl (Zr o.at_ agg26 sz26 rfl) (Zl rfl rfl ?_))
 refine Step.call (Zm (xs := [.tmp 30]) fk12 rfl) (Xi m.ls ) fun a8 cS aq => ?_
 obtain ⟨rfl, aB⟩ := aq
 have cm := aB.size
 have E := E.trans aB
 refine Za rfl rfl (Zav rfl) (Zd (Zb (cl _ _ ?_)))
 refine Zs rfl (fun b => ?_) (fun b => ?_)
 ·have bc := b
  have b := Xv b
  refine Zf fun cT cn => ?_
  refine Zc (Za rfl rfl (Zz (parts := []) (cells := [(.slice none 0 0)]) zr26 pl26 rfl rfl) (Zl rfl rfl ?_))
  have co := l.ch0 aB
  refine Zq (off := 0) 1 co sz26 rfl (us := [(.slice none 0 0)]) rfl rfl rfl rfl fun be P br => ?_
  have cp := br.size
  have E := E.step br (lS om)
  replace P : Blk be af 26 [(.slice none 0 0)] := P
  refine Za rfl rfl (Ze rfl) (Zd (Zb (cn _ _ ?_)))
  refine Zp (Zk ?_)
  clear aY bq
  have aO : Ol Token.cs 42 4 be (.slice none 0 0) ((Xp s).1) := by
   have hx := Ol.nil (cs := Token.cs) (e := 42) (k := 4) be
   first | (rw [Zdm (congrArg (List.map rdT) (Xa om om)) b]; exact hx) | (rw [Zcj (congrArg (List.map rdT) (Xa om om)) b]; exact hx)
  exact Zh [_, _] (Zn P rfl agg26 sz26 ⟨rfl, trivial⟩) ⟨(.slice none 0 0), (congrArg (fun zq => (Value.tuple #[.agg #[(.slice none 0 0)], .bool zq])) (by first | rw [Zdm (congrArg (List.map rdT) (Xa om om)) b] | rw [Zcj (congrArg (List.map rdT) (Xa om om)) b])), aO, (Lo.nil _), E⟩
 have bc := b
 have b := Xw b
 refine Zu ?_
 refine Zb (bq _ _ ?_)
 refine Zf fun cU cq => ?_
 refine Zc ?_
 have cr := o.ch0 aB
 refine Za rfl rfl (Zr cr.at_ agg26 sz26 rfl) (Zl rfl rfl ?_)
 have ct := l.ch0 aB
 refine Zq (off := 0) 1 ct sz26 rfl (us := [(.slice Atv (((Zx s 32 []).take i).map rdT).length Ctv)]) rfl rfl rfl rfl fun bs Q bf => ?_
 have cu := bf.size
 have E := E.step bf (lS om)
 replace Q : Blk bs af 26 [(.slice Atv (((Zx s 32 []).take i).map rdT).length Ctv)] := Q
 refine Za rfl rfl (Ze rfl) (Zd (Zb (cq _ _ ?_)))
 refine Zp ?_
 have cv := (m.ch0 aB).ch bf (dS a q om)
 have aP : Ol Token.cs 42 4 bs (.slice Atv (((Zx s 32 []).take i).map rdT).length Ctv) ((Xp s).1) := by
  have hx := cv
  first | (rw [Zdm (congrArg (List.map rdT) (Xa om om)) b]; exact hx) | (rw [Zcj (congrArg (List.map rdT) (Xa om om)) b]; exact hx)
 exact Zh [_, _] (Zn Q rfl agg26 sz26 ⟨rfl, trivial⟩) ⟨(.slice Atv (((Zx s 32 []).take i).map rdT).length Ctv), (congrArg (fun zq => (Value.tuple #[.agg #[(.slice Atv (((Zx s 32 []).take i).map rdT).length Ctv)], .bool zq])) (by first | rw [Zdm (congrArg (List.map rdT) (Xa om om)) b] | rw [Zcj (congrArg (List.map rdT) (Xa om om)) b])), aP, (Lo.down a om), E⟩

/-- spec.l1Pick -/
theorem Zfn {w : World} {b_c : Nat} (f : Cu w b_c) {e_list : Nat} {a : Value} {list : List (List UInt8)} (b : Ol scs e_list 1 w a list) (hl : 0 < list.length ∧ list.length ≤ 4096) (K9 : Nat) (q : b_c < K9) (i : Lo K9 a) :
 Ctr Tryz.prog 71 #[(.pointer (some ⟨b_c, 0, none⟩)), a] w (fun v w' => ∃ (n : List UInt8) , v = .string (bys n) ∧ (n ∈ list) ∧ Cu w' b_c ∧ Ch [b_c] w w') := by
 have o := f.lt
 obtain ⟨d, e, rfl, h, c⟩ := b.opn
 have E := Ch.refl [b_c] w
 refine Zv (N := 12) (vs0 := [(.pointer (some ⟨b_c, 0, none⟩)), (.slice d list.length e)]) Tryz.func71 rfl rfl rfl ?_
 refine Zf fun V1 H1 => ?_
 refine Zc (Za rfl rfl (Ze rfl) (Zd (Zb (H1 _ _ ?_))))
 refine Zf fun V2 H2 => ?_
 refine Zc (Za rfl rfl (Zg rfl) (Za rfl rfl (Zg rfl) (Za rfl rfl (Zg rfl) (Za rfl rfl (Xk (by rw [el52]; rfl) rfl) (Zl rfl rfl ?_)))))
 refine Step.call (Zm (xs := [.tmp 6, .tmp 8]) fk30 rfl) (Yu f _ om) fun u W3 r => ?_
 obtain ⟨k, rfl, p, s, C3⟩ := r
 have x := C3.size
 have E := E.trans C3
 refine Zl rfl rfl ?_
 have F4 := b.ch C3 (dS i c om)
 refine (Xc (j := k.toNat) F4.ls Zaj el52 sz9 rfl rfl om om fun t l g m => ?_)
 refine Za rfl rfl (Ym m agg9 rfl rfl) (Za rfl rfl (Ze rfl) (Zd (Zb (H2 _ _ ?_))))
 refine Zp ?_
 exact Zh [_] ⟨rfl, trivial⟩ ⟨l, (congrArg (fun zq => (Value.string (bys zq))) (by first | rfl | simp_all)), (Zaa g), s, E⟩

/-- spec.l8Known -/
theorem Zes {w : World} {b_c : Nat} (k : Cu w b_c) :
 Ctr Tryz.prog 49 #[(.pointer (some ⟨b_c, 0, none⟩))] w (fun v w' => ∃ (q : List Token) (g : Value), v = .agg #[g] ∧ Ol Token.cs 42 4 w' g (q) ∧ Lo w.heap.size g ∧ (1 ≤ q.length ∧ q.length ≤ 24) ∧ Cu w' b_c ∧ Ch [b_c] w w') := by
 have t := k.lt
 have E := Ch.refl [b_c] w
 refine Zv (N := 13) (vs0 := [(.pointer (some ⟨b_c, 0, none⟩))]) Tryz.func49 rfl rfl rfl ?_
 refine Zf fun K1 H1 => ?_
 refine Zc (Zl rfl rfl ?_)
 refine Yl zr26 fun u W2 m C2 O => ?_
 have P := C2.size
 have E := E.trans C2.of_nil
 have Q := m.lt
 replace m : Blk W2 u 26 [(.slice none 0 0)] := m
 refine Zd (Zb (H1 _ _ ?_))
 refine Zf fun K3 H3 => ?_
 refine Zc (Za rfl rfl (Zg rfl) (Zl rfl rfl ?_))
 refine Yg (cs := scs) (parts := [(0, .const (Go.Value.string { data := #[97] })), (1, .const (Go.Value.string { data := #[97, 32, 98, 32, 46] })), (2, .const (Go.Value.string { data := #[97, 32, 42] })), (3, .const (Go.Value.string { data := #[97, 32, 98, 32, 124, 32, 42] })), (4, .const (Go.Value.string { data := #[97, 32, 97, 45, 32, 46] })), (5, .const (Go.Value.string { data := #[97, 32, 42, 32, 98, 32, 46] })), (6, .const (Go.Value.string { data := #[97, 32, 98, 32, 42, 32, 46, 32, 99, 32, 46] })), (7, .const (Go.Value.string { data := #[97, 32, 97, 32, 124, 32, 42] })), (8, .const (Go.Value.string { data := #[97, 32, 98, 32, 46, 32, 42] })), (9, .const (Go.Value.string { data := #[48, 32, 97, 32, 46, 32, 42] })), (10, .const (Go.Value.string { data := #[97, 32, 49, 32, 46, 32, 98, 32, 46] })), (11, .const (Go.Value.string { data := #[97, 32, 123, 48, 44, 50, 125] })), (12, .const (Go.Value.string { data := #[97, 32, 98, 32, 124, 32, 123, 49, 44, 51, 125] })), (13, .const (Go.Value.string { data := #[40, 41] })), (14, .const (Go.Value.string { data := #[33] })), (15, .const (Go.Value.string { data := #[97, 45, 32, 42, 32, 97, 32, 46] })), (16, .const (Go.Value.string { data := #[97, 32, 98, 45, 32, 46, 32, 42, 32, 99, 32, 124] })), (17, .const (Go.Value.string { data := #[97, 32, 42, 32, 97, 32, 42, 32, 46] })), (18, .const (Go.Value.string { data := #[97, 32, 48, 32, 124, 32, 42, 32, 98, 32, 46] })), (19, .const (Go.Value.string { data := #[97, 32, 97, 32, 46, 32, 42] })), (20, .const (Go.Value.string { data := #[97, 32, 98, 32, 46, 32, 98, 32, 97, 32, 46, 32, 124, 32, 42] }))]) ([] : List UInt8) [[97], [97, 32, 98, 32, 46], [97, 32, 42], [97, 32, 98, 32, 124, 32, 42], [97, 32, 97, 45, 32, 46], [97, 32, 42, 32, 98, 32, 46], [97, 32, 98, 32, 42, 32, 46, 32, 99, 32, 46], [97, 32, 97, 32, 124, 32, 42], [97, 32, 98, 32, 46, 32, 42], [48, 32, 97, 32, 46, 32, 42], [97, 32, 49, 32, 46, 32, 98, 32, 46], [97, 32, 123, 48, 44, 50, 125], [97, 32, 98, 32, 124, 32, 123, 49, 44, 51, 125], [40, 41], [33], [97, 45, 32, 42, 32, 97, 32, 46], [97, 32, 98, 45, 32, 46, 32, 42, 32, 99, 32, 124], [97, 32, 42, 32, 97, 32, 42, 32, 46], [97, 32, 48, 32, 124, 32, 42, 32, 98, 32, 46], [97, 32, 97, 32, 46, 32, 42], [97, 32, 98, 32, 46, 32, 98, 32, 97, 32, 46, 32, 124, 32, 42]] el52 sz9 zr9 Zaj (by decide) rfl rfl rfl (by decide) (by decide) rfl fun R W4 x r C4 => ?_
 have S := C4.size
 have E := E.trans C4.of_nil
 obtain ⟨B, C, rfl, D, y⟩ := x.opn
 refine Zl rfl rfl ?_
 have F5 := (k.ch0 C2).ch0 C4
 refine Step.call (Zm (xs := [.tmp 6, .tmp 7]) fk71 rfl) (Zfn F5 x (by decide) W2.heap.size om r) fun T W6 F => ?_
 obtain ⟨f, rfl, j, G, C6⟩ := F
 have U := C6.size
 have E := E.trans C6
 refine Zl rfl rfl ?_
 refine Step.call (Zm (xs := [.tmp 8]) fk70 rfl) (Zds f (by have V := Zkd _ j; omega)) fun X W7 H => ?_
 obtain ⟨s, rfl, d, c, C7⟩ := H
 have Y := C7.size
 have E := E.trans C7.of_nil
 obtain ⟨a, b, rfl, n, e⟩ := d.opn
 refine Za rfl rfl (Zg rfl) (Za rfl rfl (Yk rfl rfl) (Za rfl rfl (Yk rfl rfl) (Zl rfl rfl ?_)))
 refine Yl zr26 fun z W8 o C8 Z => ?_
 have aa := C8.size
 have E := E.trans C8.of_nil
 have ab := o.lt
 replace o : Blk W8 z 26 [(.slice none 0 0)] := o
 refine Zl rfl rfl ?_
 refine Zq (off := 0) 1 o sz26 rfl (us := [(.slice a ((Xp f).1).length b)]) rfl rfl rfl rfl fun W9 h C9 => ?_
 have ac := C9.size
 have E := E.step C9 (lS om)
 replace h : Blk W9 z 26 [(.slice a ((Xp f).1).length b)] := h
 refine Za rfl rfl (Ze rfl) (Zd (Zb (H3 _ _ ?_)))
 refine Zf fun ad I => ?_
 refine Zc (Za rfl rfl (Zr h.at_ agg26 sz26 rfl) (Zl rfl rfl ?_))
 have J := ((((m.ch0 C4).ch C6 (nS om)).ch0 C7).ch0 C8).ch C9 (nS om)
 refine Zq (off := 0) 1 J sz26 rfl (us := [(.slice a ((Xp f).1).length b)]) rfl rfl rfl rfl fun A i p => ?_
 have K := p.size
 have E := E.step p (lS om)
 replace i : Blk A u 26 [(.slice a ((Xp f).1).length b)] := i
 refine Zd (Zb (I _ _ ?_))
 refine Zp ?_
 have L := ((d.ch0 C8).ch C9 (dS c e om)).ch p (dS c e om)
 have l : Ol Token.cs 42 4 A (.slice a ((Xp f).1).length b) ((Xp f).1) := by
  have hx := L
  first | exact hx | simpa using hx
 have M := (((G.ch0 C7).ch0 C8).ch C9 (oS om)).ch p (oS om)
 exact Zh [_] (Zn i rfl agg26 sz26 trivial) ⟨((Xp f).1), (.slice a ((Xp f).1).length b), rfl, l, (Lo.down c om), (Zkw _ j), M, E⟩

/-- spec.LetterExpr -/
theorem Zdi {w : World} (l : Int) :
 Ctr Tryz.prog 74 #[(.int .i64 l)] w (fun v w' => ∃ u, v = .agg #[u] ∧ Ol Token.cs 42 4 w' u ([(⟨3, l, 0, 0⟩ : Token)]) ∧ Lo w.heap.size u ∧ Ch [] w w') := by
 have E := Ch.refl [] w
 refine Zv (N := 7) (vs0 := [(.int .i64 l)]) Tryz.func74 rfl rfl rfl ?_
 refine Zf fun K1 H1 => ?_
 refine Zc (Zl rfl rfl ?_)
 refine Yl zr26 fun h W2 f C2 k => ?_
 have m := C2.size
 have E := E.trans C2
 have n := f.lt
 replace f : Blk W2 h 26 [(.slice none 0 0)] := f
 refine Zd (Zb (H1 _ _ ?_))
 refine Zf fun K3 H3 => ?_
 refine Zc (Za rfl rfl (Zg rfl) (Za rfl rfl (Zz (parts := [(0, .const (Go.Value.int Go.IntKind.i64 3)), (1, .tmp 3)]) (cells := [(.int .i64 3), (.int .i64 l), (.int .i64 0), (.int .i64 0)]) zr42 pl42 rfl rfl) (Zl rfl rfl ?_)))
 refine Yg (cs := Token.cs) (parts := [(0, .tmp 4)]) (⟨0, 0, 0, 0⟩ : Token) [(⟨3, l, 0, 0⟩ : Token)] el24 sz42 zr42 Token.len (by decide) rfl rfl rfl (by decide) (by decide) rfl fun o W4 i d C4 => ?_
 have p := C4.size
 have E := E.trans C4
 obtain ⟨a, b, rfl, j, e⟩ := i.opn
 refine Za rfl rfl (Zz (parts := [(0, .tmp 5)]) (cells := [(.slice a ([(⟨3, l, 0, 0⟩ : Token)]).length b)]) zr26 pl26 rfl rfl) (Zl rfl rfl ?_)
 have F5 := f.ch0 C4
 refine Zq (off := 0) 1 F5 sz26 rfl (us := [(.slice a ([(⟨3, l, 0, 0⟩ : Token)]).length b)]) rfl rfl rfl rfl fun W6 c C6 => ?_
 have q := C6.size
 have E := E.step C6 (lS om)
 replace c : Blk W6 h 26 [(.slice a ([(⟨3, l, 0, 0⟩ : Token)]).length b)] := c
 refine Zd (Zb (H3 _ _ ?_))
 refine Zp ?_
 have F9 := i.ch C6 (dS d e om)
 have g : Ol Token.cs 42 4 W6 (.slice a ([(⟨3, l, 0, 0⟩ : Token)]).length b) ([(⟨3, l, 0, 0⟩ : Token)]) := by
  have hx := F9
  first | exact hx | simpa using hx
 exact Zh [_] (Zn c rfl agg26 sz26 trivial) ⟨_, rfl, g, Lo.down d om, E⟩

/-- spec.l1PickInt -/
theorem Zbc {w : World} {b_c : Nat} (f : Cu w b_c) {e_list : Nat} {a : Value} {list : List Int} (b : Ol ics e_list 1 w a list) (hl : 0 < list.length ∧ list.length ≤ 4096) (K9 : Nat) (q : b_c < K9) (i : Lo K9 a) :
 Ctr Tryz.prog 73 #[(.pointer (some ⟨b_c, 0, none⟩)), a] w (fun v w' => ∃ (n : Int) , v = .int .i64 n ∧ (n ∈ list) ∧ Cu w' b_c ∧ Ch [b_c] w w') := by
 have o := f.lt
 obtain ⟨d, e, rfl, h, c⟩ := b.opn
 have E := Ch.refl [b_c] w
 refine Zv (N := 12) (vs0 := [(.pointer (some ⟨b_c, 0, none⟩)), (.slice d list.length e)]) Tryz.func73 rfl rfl rfl ?_
 refine Zf fun V1 H1 => ?_
 refine Zc (Za rfl rfl (Ze rfl) (Zd (Zb (H1 _ _ ?_))))
 refine Zf fun V2 H2 => ?_
 refine Zc (Za rfl rfl (Zg rfl) (Za rfl rfl (Zg rfl) (Za rfl rfl (Zg rfl) (Za rfl rfl (Xk (by rw [el100]; rfl) rfl) (Zl rfl rfl ?_)))))
 refine Step.call (Zm (xs := [.tmp 6, .tmp 8]) fk30 rfl) (Yu f _ om) fun u W3 r => ?_
 obtain ⟨k, rfl, p, s, C3⟩ := r
 have x := C3.size
 have E := E.trans C3
 refine Zl rfl rfl ?_
 have F4 := b.ch C3 (dS i c om)
 refine (Xc (j := k.toNat) F4.ls Zhh el100 sz3 rfl rfl om om fun t l g m => ?_)
 refine Za rfl rfl (Ym m agg3 rfl rfl) (Za rfl rfl (Ze rfl) (Zd (Zb (H2 _ _ ?_))))
 refine Zp ?_
 exact Zh [_] ⟨rfl, trivial⟩ ⟨l, (congrArg (fun zq => (Value.int .i64 zq)) (by first | rfl | simp_all)), (Zaa g), s, E⟩

/-- spec.l8Copy -/
theorem Zaf {w : World} {LL_l p : Nat} {h : Value} {l : List Token} (a : Ls Token.cs 4 w LL_l p h l) (hb : l.length ≤ 4194304) :
 Ctr Tryz.prog 21 #[h] w (fun v w' => ∃ u, v = .agg #[u] ∧ Ol Token.cs 42 4 w' u (l) ∧ Lo w.heap.size u ∧ Ch [] w w') := by
 obtain ⟨q, r, j⟩ := a.val
 subst j
 have A := a.len
 have a := a.here (by decide)
 have E := Ch.refl [] w
 refine Zv (N := 7) (vs0 := [(.slice q l.length r)]) Tryz.func21 rfl rfl rfl ?_
 refine Zf fun K1 H1 => ?_
 refine Zc (Zl rfl rfl ?_)
 refine Yl zr26 fun x W2 n C2 K => ?_
 have L := C2.size
 have E := E.trans C2
 have M := n.lt
 replace n : Blk W2 x 26 [(.slice none 0 0)] := n
 refine Zd (Zb (H1 _ _ ?_))
 refine Zf fun K3 H3 => ?_
 refine Zc (Zl rfl rfl ?_)
 refine Qq (k := 4) Token.cs el24 sz42 fun O W4 y b C4 => ?_
 have P := C4.size
 have E := E.trans C4
 obtain ⟨B, C, rfl, D, e⟩ := y.opn
 refine Za rfl rfl (Zg rfl) (Zl rfl rfl ?_)
 have F6 := (a.ch0 C2).ch0 C4
 refine Yt (cs := Token.cs) el24 sz42 by42 zr42 rfl (by decide) Token.one y F6 rfl rfl bd bd b om fun F W5 o s t C5 => ?_
 have Q := C5.size
 have E := E.step C5 (fun i hi => .inl (by have G := b _ hi; omega))
 replace o : Ol Token.cs 42 4 W5 F l := o
 obtain ⟨c, d, rfl, H, z⟩ := o.opn
 refine Za rfl rfl (Zz (parts := [(0, .tmp 5)]) (cells := [(.slice c (l).length d)]) zr26 pl26 rfl rfl) (Zl rfl rfl ?_)
 have F7 := (n.ch0 C4).ch C5 (fun hm => by have G := b _ hm; have I := e _ hm; omega)
 refine Zq (off := 0) 1 F7 sz26 rfl (us := [(.slice c (l).length d)]) rfl rfl rfl rfl fun W8 f C8 => ?_
 have R := C8.size
 have E := E.step C8 (lS om)
 replace f : Blk W8 x 26 [(.slice c (l).length d)] := f
 refine Zd (Zb (H3 _ _ ?_))
 refine Zp ?_
 have J := o.ch C8 (fun g hg hm => by have S := List.mem_singleton.1 hm; rcases t with ea | ea; (rw [ea] at hg; have I := b _ hg; have T := e _ hg; omega); (rw [ea] at hg; have U := List.mem_singleton.1 hg; omega))
 have m : Ol Token.cs 42 4 W8 (.slice c (l).length d) (l) := by
  have hx := J
  first | exact hx | simpa using hx
 exact Zh [_] (Zn f rfl agg26 sz26 trivial) ⟨_, rfl, m, Lo.down s om, E⟩

/-- spec.l8Join -/
theorem Qe {w : World} {LL_a ag : Nat} {D : Value} {a : List Token} (l : Ls Token.cs 4 w LL_a ag D a) {LL_b ah : Nat} {F : Value} {b : List Token} (m : Ls Token.cs 4 w LL_b ah F b) (t : Token) (hb : a.length + b.length ≤ 4194304) :
 Ctr Tryz.prog 75 #[(.agg #[D]), (.agg #[F]), (.agg #[(.int .i64 t.kind), (.int .i64 t.letter), (.int .i64 t.low), (.int .i64 t.high)])] w (fun v w' => ∃ u, v = .agg #[u] ∧ Ol Token.cs 42 4 w' u (a ++ b ++ [t]) ∧ Lo w.heap.size u ∧ Ch [] w w') := by
 obtain ⟨G, H, I⟩ := l.val
 subst I
 have aA := l.len
 have l := l.here (by decide)
 obtain ⟨J, K, L⟩ := m.val
 subst L
 have aB := m.len
 have m := m.here (by decide)
 have E := Ch.refl [] w
 refine Zv (N := 24) (vs0 := [(.agg #[(.slice G a.length H)]), (.agg #[(.slice J b.length K)]), (.agg #[(.int .i64 t.kind), (.int .i64 t.letter), (.int .i64 t.low), (.int .i64 t.high)])]) Tryz.func75 rfl rfl rfl ?_
 refine Zf fun K1 H1 => ?_
 refine Zc (Zl rfl rfl ?_)
 refine Qm rfl fun aC W2 Y C2 a8 => ?_
 have a9 := C2.size
 have E := E.trans C2
 have ba := Y.lt
 replace Y : Blk W2 aC 26 [(.slice G a.length H)] := Y
 refine Zl rfl rfl ?_
 refine Qm rfl fun aD W3 Z C3 bb => ?_
 have bc := C3.size
 have E := E.trans C3
 have be := Z.lt
 replace Z : Blk W3 aD 26 [(.slice J b.length K)] := Z
 refine Zl rfl rfl ?_
 refine Qm rfl fun aE W4 aa C4 bf => ?_
 have bg := C4.size
 have E := E.trans C4
 have bh := aa.lt
 replace aa : Blk W4 aE 42 [(.int .i64 t.kind), (.int .i64 t.letter), (.int .i64 t.low), (.int .i64 t.high)] := aa
 refine Zl rfl rfl ?_
 refine Yl zr26 fun am W5 ab C5 bi => ?_
 have bj := C5.size
 have E := E.trans C5
 have bk := ab.lt
 replace ab : Blk W5 am 26 [(.slice none 0 0)] := ab
 refine Zd (Zb (H1 _ _ ?_))
 refine Zf fun K6 H6 => ?_
 refine Zc (Za rfl rfl (Zi fa26_0 rfl) ?_)
 have F7 := ((Y.ch0 C3).ch0 C4).ch0 C5
 refine Za rfl rfl (Zo F7.at_ agg24 rfl rfl) (Zl rfl rfl ?_)
 have F8 := (((l.ch0 C2).ch0 C3).ch0 C4).ch0 C5
 refine Step.call (Zm (xs := [.tmp 9]) fk21 rfl) (Zaf F8 om) fun aF W9 p => ?_
 obtain ⟨aG, rfl, p, d, C9⟩ := p
 have bm := C9.size
 have E := E.trans C9
 obtain ⟨q, r, rfl, an, c⟩ := p.opn
 refine Zl rfl rfl ?_
 refine Yl zr26 fun ac aH ad y bn => ?_
 have aI := y.size
 have E := E.trans y
 have bp := ad.lt
 replace ad : Blk aH ac 26 [(.slice none 0 0)] := ad
 refine Zl rfl rfl ?_
 refine Zq (off := 0) 1 ad sz26 rfl (us := [(.slice q (a).length r)]) rfl rfl rfl rfl fun aJ f z => ?_
 have aK := z.size
 have E := E.step z (lS om)
 replace f : Blk aJ ac 26 [(.slice q (a).length r)] := f
 refine Zd (Zb (H6 _ _ ?_))
 refine Zf fun bq aL => ?_
 refine Zc (Za rfl rfl (Zi fa26_0 rfl) (Za rfl rfl (Zo f.at_ agg24 rfl rfl) (Za rfl rfl (Zi fa26_0 rfl) ?_)))
 have aM := ((((Z.ch0 C4).ch0 C5).ch0 C9).ch0 y).ch z (nS om)
 refine Za rfl rfl (Zo aM.at_ agg24 rfl rfl) (Zl rfl rfl ?_)
 have aN := (p.ch0 y).ch z (dS d c om)
 have aO := ((((((m.ch0 C2).ch0 C3).ch0 C4).ch0 C5).ch0 C9).ch0 y).ch z (oS om)
 refine Yt (cs := Token.cs) el24 sz42 by42 zr42 rfl (by decide) Token.one aN aO rfl rfl bd bd d om fun aP br M s e O => ?_
 have aQ := O.size
 have E := E.step O (fun i hi => .inl (by have B := d _ hi; omega))
 obtain ⟨P, Q, rfl, ao, ai⟩ := M.opn
 refine Za rfl rfl (Zi fa26_0 rfl) (Zl rfl rfl ?_)
 have aR := f.ch O (fun hm => by have B := d _ hm; have A := c _ hm; omega)
 refine Ys (off := 0) aR sz24 rfl rfl rfl rfl fun aS h R => ?_
 have aT := R.size
 have E := E.step R (lS om)
 replace h : Blk aS ac 26 [(.slice P ((a ++ b)).length Q)] := h
 refine Zd (Zb (aL _ _ ?_))
 refine Zf fun bs aU => ?_
 refine Zc (Za rfl rfl (Zi fa26_0 rfl) (Za rfl rfl (Zo h.at_ agg24 rfl rfl) ?_))
 have aV := (((((aa.ch0 C5).ch0 C9).ch0 y).ch z (nS om)).ch O (fun hm => by have B := d _ hm; have A := c _ hm; omega)).ch R (nS om)
 refine Za rfl rfl (Zr aV.at_ agg42 sz42 rfl) (Zl rfl rfl ?_)
 refine Yg (cs := Token.cs) (parts := [(0, .tmp 19)]) (⟨0, 0, 0, 0⟩ : Token) [t] el24 sz42 zr42 Token.len (by decide) rfl rfl rfl (by decide) (by decide) rfl fun aW bu S ap T => ?_
 have aX := T.size
 have E := E.trans T
 obtain ⟨aq, au, rfl, av, aj⟩ := S.opn
 refine Zl rfl rfl ?_
 have aY := (M.ch R (fun g hg hm => by have aw := List.mem_singleton.1 hm; rcases e with ea | ea; (rw [ea] at hg; have A := d _ hg; have ax := c _ hg; omega); (rw [ea] at hg; have C := List.mem_singleton.1 hg; omega))).ch0 T
 refine Yt (cs := Token.cs) el24 sz42 by42 zr42 rfl (by decide) Token.one aY S.ls rfl rfl bd bd s om fun aZ bv U V x ae => ?_
 have a0 := ae.size
 have E := E.step ae (fun i hi => .inl (by have B := s _ hi; omega))
 obtain ⟨j, k, rfl, ay, ak⟩ := U.opn
 refine Za rfl rfl (Zi fa26_0 rfl) (Zl rfl rfl ?_)
 have a1 := (h.ch0 T).ch ae (fun hm => by rcases e with ea | ea; (rw [ea] at hm; have B := d _ hm; have A := c _ hm; omega); (rw [ea] at hm; have C := List.mem_singleton.1 hm; omega))
 refine Ys (off := 0) a1 sz24 rfl rfl rfl rfl fun a2 n af => ?_
 have a3 := af.size
 have E := E.step af (lS om)
 replace n : Blk a2 ac 26 [(.slice j (((a ++ b) ++ [t])).length k)] := n
 refine Zd (Zb (aU _ _ ?_))
 refine Zf fun bw a4 => ?_
 refine Zc (Za rfl rfl (Zr n.at_ agg26 sz26 rfl) (Zl rfl rfl ?_))
 have a5 := (((((((ab.ch0 C9).ch0 y).ch z (nS om)).ch O (fun hm => by have B := d _ hm; have A := c _ hm; omega)).ch R (nS om)).ch0 T).ch ae (fun hm => by rcases e with ea | ea; (rw [ea] at hm; have B := d _ hm; have A := c _ hm; omega); (rw [ea] at hm; have C := List.mem_singleton.1 hm; omega))).ch af (nS om)
 refine Zq (off := 0) 1 a5 sz26 rfl (us := [(.slice j (((a ++ b) ++ [t])).length k)]) rfl rfl rfl rfl fun az o al => ?_
 have a6 := al.size
 have E := E.step al (lS om)
 replace o : Blk az am 26 [(.slice j (((a ++ b) ++ [t])).length k)] := o
 refine Zd (Zb (a4 _ _ ?_))
 refine Zp ?_
 have a7 := (U.ch af (fun g hg hm => by have aw := List.mem_singleton.1 hm; rcases x with ea | ea; (rw [ea] at hg; rcases e with ea | ea; (rw [ea] at hg; have A := d _ hg; have ax := c _ hg; omega); (rw [ea] at hg; have C := List.mem_singleton.1 hg; omega)); (rw [ea] at hg; have C := List.mem_singleton.1 hg; omega))).ch al (fun g hg hm => by have aw := List.mem_singleton.1 hm; rcases x with ea | ea; (rw [ea] at hg; rcases e with ea | ea; (rw [ea] at hg; have A := d _ hg; have ax := c _ hg; omega); (rw [ea] at hg; have C := List.mem_singleton.1 hg; omega)); (rw [ea] at hg; have C := List.mem_singleton.1 hg; omega))
 have X : Ol Token.cs 42 4 az (.slice j (((a ++ b) ++ [t])).length k) (a ++ b ++ [t]) := by
  have hx := a7
  first | exact hx | simpa using hx
 exact Zh [_] (Zn o rfl agg26 sz26 trivial) ⟨_, rfl, X, Lo.down V om, E⟩

/-- spec.l8Leaf -/
theorem Zfo {w : World} (kind : Int) :
 Ctr Tryz.prog 72 #[(.int .i64 kind)] w (fun v w' => ∃ u, v = .agg #[u] ∧ Ol Token.cs 42 4 w' u ([(⟨kind, 0, 0, 0⟩ : Token)]) ∧ Lo w.heap.size u ∧ Ch [] w w') := by
 have E := Ch.refl [] w
 refine Zv (N := 7) (vs0 := [(.int .i64 kind)]) Tryz.func72 rfl rfl rfl ?_
 refine Zf fun K1 H1 => ?_
 refine Zc (Zl rfl rfl ?_)
 refine Yl zr26 fun h W2 f C2 k => ?_
 have l := C2.size
 have E := E.trans C2
 have m := f.lt
 replace f : Blk W2 h 26 [(.slice none 0 0)] := f
 refine Zd (Zb (H1 _ _ ?_))
 refine Zf fun K3 H3 => ?_
 refine Zc (Za rfl rfl (Zg rfl) (Za rfl rfl (Zz (parts := [(0, .tmp 3)]) (cells := [(.int .i64 kind), (.int .i64 0), (.int .i64 0), (.int .i64 0)]) zr42 pl42 rfl rfl) (Zl rfl rfl ?_)))
 refine Yg (cs := Token.cs) (parts := [(0, .tmp 4)]) (⟨0, 0, 0, 0⟩ : Token) [(⟨kind, 0, 0, 0⟩ : Token)] el24 sz42 zr42 Token.len (by decide) rfl rfl rfl (by decide) (by decide) rfl fun n W4 i d C4 => ?_
 have o := C4.size
 have E := E.trans C4
 obtain ⟨a, b, rfl, j, e⟩ := i.opn
 refine Za rfl rfl (Zz (parts := [(0, .tmp 5)]) (cells := [(.slice a ([(⟨kind, 0, 0, 0⟩ : Token)]).length b)]) zr26 pl26 rfl rfl) (Zl rfl rfl ?_)
 have F5 := f.ch0 C4
 refine Zq (off := 0) 1 F5 sz26 rfl (us := [(.slice a ([(⟨kind, 0, 0, 0⟩ : Token)]).length b)]) rfl rfl rfl rfl fun W6 c C6 => ?_
 have p := C6.size
 have E := E.step C6 (lS om)
 replace c : Blk W6 h 26 [(.slice a ([(⟨kind, 0, 0, 0⟩ : Token)]).length b)] := c
 refine Zd (Zb (H3 _ _ ?_))
 refine Zp ?_
 have F9 := i.ch C6 (dS d e om)
 have g : Ol Token.cs 42 4 W6 (.slice a ([(⟨kind, 0, 0, 0⟩ : Token)]).length b) ([(⟨kind, 0, 0, 0⟩ : Token)]) := by
  have hx := F9
  first | exact hx | simpa using hx
 exact Zh [_] (Zn c rfl agg26 sz26 trivial) ⟨_, rfl, g, Lo.down d om, E⟩

/-- spec.l8Make -/
theorem Zep : ∀ (n : Nat) {w : World} {b_c : Nat} (aI : Cu w b_c) (deep : Int) (hd : 0 ≤ deep ∧ deep ≤ 3) (hsz : deep.toNat < n),
 Ctr Tryz.prog 50 #[(.pointer (some ⟨b_c, 0, none⟩)), (.int .i64 deep)] w (fun v w' => ∃ (b5 : List Token) (ak : Value), v = .agg #[ak] ∧ Ol Token.cs 42 4 w' ak (b5) ∧ Lo w.heap.size ak ∧ (1 ≤ b5.length ∧ b5.length + 1 ≤ 2 ^ (deep.toNat + 1)) ∧ Cu w' b_c ∧ Ch [b_c] w w') := by
 intro n
 induction n with
 | zero => intros; omega
 | succ n ih =>
 intro w b_c aI deep hd hsz
 have cW := aI.lt
 have E := Ch.refl [b_c] w
 refine Zv (N := 70) (vs0 := [(.pointer (some ⟨b_c, 0, none⟩)), (.int .i64 deep)]) Tryz.func50 rfl rfl rfl ?_
 refine Zf fun K1 H1 => ?_
 refine Zc (Zl rfl rfl ?_)
 refine Yl zr26 fun aJ W2 al C2 e3 => ?_
 have e4 := C2.size
 have E := E.trans C2.of_nil
 have e5 := al.lt
 replace al : Blk W2 aJ 26 [(.slice none 0 0)] := al
 refine Zd (Zb (H1 _ _ ?_))
 refine Zf fun K3 H3 => ?_
 refine Zf fun K4 H4 => ?_
 refine Zc (Za rfl rfl (Zg rfl) (Za rfl rfl (Yn rfl rfl) (Zd (Zb (H4 _ _ ?_)))))
 refine Zs rfl (fun a1 => ?_) (fun a1 => ?_)
 ·have dn := a1
  have a1 := Yb a1
  refine Zf fun K6 H6 => ?_
  refine Zf fun K7 H7 => ?_
  refine Zc (Za rfl rfl (Zg rfl) (Zl rfl rfl ?_))
  have F8 := aI.ch0 C2
  refine Step.call (Zm (xs := [.tmp 8, .const (Go.Value.int Go.IntKind.i64 12)]) fk31 rfl) (Zae F8 _ om) fun e6 W9 dp => ?_
  obtain ⟨dq, rfl, cX, C9⟩ := dp
  have e7 := C9.size
  have E := E.trans C9
  refine Zd (Zb (H7 _ _ ?_))
  refine Zs rfl (fun b6 => ?_) (fun b6 => ?_)
  ·have b7 := b6
   refine Zf fun e8 dr => ?_
   refine Zc (Za rfl rfl (Zg rfl) (Zl rfl rfl ?_))
   refine Yg (cs := ics) (parts := [(0, .const (Go.Value.int Go.IntKind.i64 1)), (1, .const (Go.Value.int Go.IntKind.i64 2))]) (0 : Int) [1, 2] el100 sz3 zr3 Zhh (by decide) rfl rfl rfl (by decide) (by decide) rfl fun ds e9 bj bk bJ => ?_
   have dt := bJ.size
   have E := E.trans bJ.of_nil
   obtain ⟨cY, cZ, rfl, c0, b8⟩ := bj.opn
   refine Zl rfl rfl ?_
   have du := cX.ch0 bJ
   refine Step.call (Zm (xs := [.tmp 10, .tmp 11]) fk73 rfl) (Zbc du bj (by decide) W9.heap.size om bk) fun dv fa b9 => ?_
   obtain ⟨H, rfl, ca, cb, cc⟩ := b9
   have dw := cc.size
   have E := E.trans cc
   refine Zl rfl rfl ?_
   refine Step.call (Zm (xs := [.tmp 12]) fk72 rfl) (Zfo _ ) fun dx fb aK => ?_
   obtain ⟨dy, rfl, aK, aV, bK⟩ := aK
   have dz := bK.size
   have E := E.trans bK.of_nil
   obtain ⟨ab, ac, rfl, c1, a2⟩ := aK.opn
   refine Zl rfl rfl ?_
   have dA := (((al.ch C9 (nS om)).ch0 bJ).ch cc (nS om)).ch0 bK
   refine Zq (off := 0) 1 dA sz26 rfl (us := [(.slice ab ([(⟨H, 0, 0, 0⟩ : Token)]).length ac)]) rfl rfl rfl rfl fun c2 am bL => ?_
   have dB := bL.size
   have E := E.step bL (lS om)
   replace am : Blk c2 aJ 26 [(.slice ab ([(⟨H, 0, 0, 0⟩ : Token)]).length ac)] := am
   refine Zd (Zb (dr _ _ ?_))
   refine Zp (Zk (Zk ?_))
   clear H3 H6
   have dC := aK.ch bL (dS aV a2 om)
   have bm : Ol Token.cs 42 4 c2 (.slice ab ([(⟨H, 0, 0, 0⟩ : Token)]).length ac) ([(⟨H, 0, 0, 0⟩ : Token)]) := by
    have hx := dC
    first | exact hx | simpa using hx
   have dD := (cb.ch0 bK).ch bL (oS om)
   exact Zh [_] (Zn am rfl agg26 sz26 trivial) ⟨([(⟨H, 0, 0, 0⟩ : Token)]), (.slice ab ([(⟨H, 0, 0, 0⟩ : Token)]).length ac), rfl, bm, (Lo.down aV om), (by first | exact Zbk om | exact Qn a b rfl om | exact Qn c d rfl om | exact Qo o rfl om | exact Qo p rfl om), dD, E⟩
  have b7 := b6
  refine Zu ?_
  refine Zb (H6 _ _ ?_)
  refine Zf fun fc dE => ?_
  refine Zc (Za rfl rfl (Zg rfl) (Zl rfl rfl ?_))
  refine Yg (cs := ics) (parts := [(0, .const (Go.Value.int Go.IntKind.i64 0)), (1, .const (Go.Value.int Go.IntKind.i64 0)), (2, .const (Go.Value.int Go.IntKind.i64 2)), (3, .const (Go.Value.int Go.IntKind.i64 2)), (4, .const (Go.Value.int Go.IntKind.i64 1)), (5, .const (Go.Value.int Go.IntKind.i64 4)), (6, .const (Go.Value.int Go.IntKind.i64 3)), (7, .const (Go.Value.int Go.IntKind.i64 6)), (8, .const (Go.Value.int Go.IntKind.i64 7))]) (0 : Int) [0, 0, 2, 2, 1, 4, 3, 6, 7] el100 sz3 zr3 Zhh (by decide) rfl rfl rfl (by decide) (by decide) rfl fun dF fd bn bp bM => ?_
  have dG := bM.size
  have E := E.trans bM.of_nil
  obtain ⟨c3, c4, rfl, c5, cd⟩ := bn.opn
  refine Zl rfl rfl ?_
  have dH := cX.ch0 bM
  refine Step.call (Zm (xs := [.tmp 14, .tmp 15]) fk73 rfl) (Zbc dH bn (by decide) W9.heap.size om bp) fun dI fe ce => ?_
  obtain ⟨I, rfl, cf, cg, ci⟩ := ce
  have dJ := ci.size
  have E := E.trans ci
  refine Zl rfl rfl ?_
  refine Step.call (Zm (xs := [.tmp 16]) fk74 rfl) (Zdi _ ) fun dL ff aL => ?_
  obtain ⟨dM, rfl, aL, aW, bN⟩ := aL
  have dN := bN.size
  have E := E.trans bN.of_nil
  obtain ⟨ad, ae, rfl, c6, a3⟩ := aL.opn
  refine Zl rfl rfl ?_
  have dP := (((al.ch C9 (nS om)).ch0 bM).ch ci (nS om)).ch0 bN
  refine Zq (off := 0) 1 dP sz26 rfl (us := [(.slice ad ([(⟨3, I, 0, 0⟩ : Token)]).length ae)]) rfl rfl rfl rfl fun c7 an bO => ?_
  have dQ := bO.size
  have E := E.step bO (lS om)
  replace an : Blk c7 aJ 26 [(.slice ad ([(⟨3, I, 0, 0⟩ : Token)]).length ae)] := an
  refine Zd (Zb (dE _ _ ?_))
  refine Zp (Zk ?_)
  have dR := aL.ch bO (dS aW a3 om)
  have bq : Ol Token.cs 42 4 c7 (.slice ad ([(⟨3, I, 0, 0⟩ : Token)]).length ae) ([(⟨3, I, 0, 0⟩ : Token)]) := by
   have hx := dR
   first | exact hx | simpa using hx
  have dU := (cg.ch0 bN).ch bO (oS om)
  exact Zh [_] (Zn an rfl agg26 sz26 trivial) ⟨([(⟨3, I, 0, 0⟩ : Token)]), (.slice ad ([(⟨3, I, 0, 0⟩ : Token)]).length ae), rfl, bq, (Lo.down aW om), (by first | exact Zbk om | exact Qn a b rfl om | exact Qn c d rfl om | exact Qo o rfl om | exact Qo p rfl om), dU, E⟩
 have dn := a1
 have a1 := Yc a1
 refine Zu ?_
 refine Zb (H3 _ _ ?_)
 refine Zf fun fg dW => ?_
 refine Zf fun fh dX => ?_
 refine Zc (Za rfl rfl (Zg rfl) (Zl rfl rfl ?_))
 have dY := aI.ch0 C2
 refine Step.call (Zm (xs := [.tmp 18, .const (Go.Value.int Go.IntKind.i64 6)]) fk30 rfl) (Yu dY _ om) fun dZ fi cj => ?_
 obtain ⟨c8, rfl, ck, aj, aX⟩ := cj
 have d0 := aX.size
 have E := E.trans aX
 refine Zd (Zb (dX _ _ ?_))
 refine Yj ?_
 refine Zf fun fj c9 => ?_
 refine Zf fun fk d1 => ?_
 refine Zc (Za rfl rfl (Yn rfl rfl) (Za rfl rfl (Ze rfl) (Zd (Zb (d1 _ _ ?_)))))
 refine Zs rfl (fun s => ?_) (fun s => ?_)
 ·have br := s
  have s := Yb s
  refine Zu ?_
  refine Zb (c9 _ _ ?_)
  refine Qr rfl br ?_
  refine Zf fun fl d2 => ?_
  refine Zc (Za rfl rfl (Zg rfl) (Za rfl rfl (Zg rfl) (Za rfl rfl (Qg om rfl rfl) (Zl rfl rfl ?_))))
  refine Step.call (Zm (xs := [.tmp 23, .tmp 25]) fk50 rfl) (ih aj _ om om) fun cl fm a4 => ?_
  obtain ⟨i, aM, rfl, e, q, a, a5, cm⟩ := a4
  have d3 := cm.size
  have E := E.trans cm
  obtain ⟨ao, ap, rfl, aq, t⟩ := e.opn
  have cn := Zea a om
  refine Za rfl rfl (Zg rfl) (Za rfl rfl (Zg rfl) (Za rfl rfl (Qg om rfl rfl) (Zl rfl rfl ?_)))
  refine Step.call (Zm (xs := [.tmp 27, .tmp 29]) fk50 rfl) (ih a5 _ om om) fun co fn a6 => ?_
  obtain ⟨j, aN, rfl, f, O, b, a7, bP⟩ := a6
  have d4 := bP.size
  have E := E.trans bP
  obtain ⟨au, av, rfl, aw, T⟩ := f.opn
  have cp := Zea b om
  refine Za rfl rfl (Zz (parts := [(0, .const (Go.Value.int Go.IntKind.i64 4))]) (cells := [(.int .i64 4), (.int .i64 0), (.int .i64 0), (.int .i64 0)]) zr42 pl42 rfl rfl) (Zl rfl rfl ?_)
  have d5 := e.ch bP (dS q t om)
  refine Step.call (Zm (xs := [.tmp 26, .tmp 30, .tmp 31]) fk75 rfl) (Qe d5.ls f.ls ⟨4, 0, 0, 0⟩ (by first | omega | (simp only [List.length_nil]; omega))) fun cq fo L => ?_
  obtain ⟨cr, rfl, L, P, bQ⟩ := L
  have d6 := bQ.size
  have E := E.trans bQ.of_nil
  obtain ⟨y, z, rfl, bs, U⟩ := L.opn
  refine Zl rfl rfl ?_
  have d7 := (((al.ch aX (nS om)).ch cm (nS om)).ch bP (nS om)).ch0 bQ
  refine Zq (off := 0) 1 d7 sz26 rfl (us := [(.slice y (i ++ j ++ [(⟨4, 0, 0, 0⟩ : Token)]).length z)]) rfl rfl rfl rfl fun da ax bR => ?_
  have d8 := bR.size
  have E := E.step bR (lS om)
  replace ax : Blk da aJ 26 [(.slice y (i ++ j ++ [(⟨4, 0, 0, 0⟩ : Token)]).length z)] := ax
  refine Zd (Zb (d2 _ _ ?_))
  refine Zp (Zt (Zk ?_))
  have d9 := L.ch bR (dS P U om)
  have bu : Ol Token.cs 42 4 da (.slice y (i ++ j ++ [(⟨4, 0, 0, 0⟩ : Token)]).length z) (i ++ j ++ [(⟨4, 0, 0, 0⟩ : Token)]) := by
   have hx := d9
   first | exact hx | simpa using hx
  have ea := (a7.ch0 bQ).ch bR (oS om)
  exact Zh [_] (Zn ax rfl agg26 sz26 trivial) ⟨(i ++ j ++ [(⟨4, 0, 0, 0⟩ : Token)]), (.slice y (i ++ j ++ [(⟨4, 0, 0, 0⟩ : Token)]).length z), rfl, bu, (Lo.down P om), (by first | exact Zbk om | exact Qn a b rfl om | exact Qn c d rfl om | exact Qo o rfl om | exact Qo p rfl om), ea, E⟩
 have br := s
 have s := Yc s
 refine Zc (Za rfl rfl (Yn rfl rfl) (Za rfl rfl (Ze rfl) (Zd (Zb (c9 _ _ ?_)))))
 refine Zs rfl (fun s => ?_) (fun s => ?_)
 ·have ct := s
  have s := Yb s
  refine Zf fun fp eb => ?_
  refine Zc (Za rfl rfl (Zg rfl) (Za rfl rfl (Zg rfl) (Za rfl rfl (Qg om rfl rfl) (Zl rfl rfl ?_))))
  refine Step.call (Zm (xs := [.tmp 23, .tmp 25]) fk50 rfl) (ih aj _ om om) fun cl fq a4 => ?_
  obtain ⟨i, aM, rfl, e, q, a, a5, cu⟩ := a4
  have ec := cu.size
  have E := E.trans cu
  obtain ⟨ao, ap, rfl, aq, t⟩ := e.opn
  have cn := Zea a om
  refine Za rfl rfl (Zg rfl) (Za rfl rfl (Zg rfl) (Za rfl rfl (Qg om rfl rfl) (Zl rfl rfl ?_)))
  refine Step.call (Zm (xs := [.tmp 27, .tmp 29]) fk50 rfl) (ih a5 _ om om) fun co fr a6 => ?_
  obtain ⟨j, aN, rfl, f, O, b, a7, bS⟩ := a6
  have ed := bS.size
  have E := E.trans bS
  obtain ⟨au, av, rfl, aw, T⟩ := f.opn
  have cp := Zea b om
  refine Za rfl rfl (Zz (parts := [(0, .const (Go.Value.int Go.IntKind.i64 4))]) (cells := [(.int .i64 4), (.int .i64 0), (.int .i64 0), (.int .i64 0)]) zr42 pl42 rfl rfl) (Zl rfl rfl ?_)
  have ee := e.ch bS (dS q t om)
  refine Step.call (Zm (xs := [.tmp 26, .tmp 30, .tmp 31]) fk75 rfl) (Qe ee.ls f.ls ⟨4, 0, 0, 0⟩ (by first | omega | (simp only [List.length_nil]; omega))) fun cq fs L => ?_
  obtain ⟨cr, rfl, L, P, bT⟩ := L
  have ef := bT.size
  have E := E.trans bT.of_nil
  obtain ⟨y, z, rfl, bs, U⟩ := L.opn
  refine Zl rfl rfl ?_
  have eg := (((al.ch aX (nS om)).ch cu (nS om)).ch bS (nS om)).ch0 bT
  refine Zq (off := 0) 1 eg sz26 rfl (us := [(.slice y (i ++ j ++ [(⟨4, 0, 0, 0⟩ : Token)]).length z)]) rfl rfl rfl rfl fun db ay bU => ?_
  have eh := bU.size
  have E := E.step bU (lS om)
  replace ay : Blk db aJ 26 [(.slice y (i ++ j ++ [(⟨4, 0, 0, 0⟩ : Token)]).length z)] := ay
  refine Zd (Zb (eb _ _ ?_))
  refine Zp (Zt (Zk ?_))
  have ei := L.ch bU (dS P U om)
  have bv : Ol Token.cs 42 4 db (.slice y (i ++ j ++ [(⟨4, 0, 0, 0⟩ : Token)]).length z) (i ++ j ++ [(⟨4, 0, 0, 0⟩ : Token)]) := by
   have hx := ei
   first | exact hx | simpa using hx
  have ej := (a7.ch0 bT).ch bU (oS om)
  exact Zh [_] (Zn ay rfl agg26 sz26 trivial) ⟨(i ++ j ++ [(⟨4, 0, 0, 0⟩ : Token)]), (.slice y (i ++ j ++ [(⟨4, 0, 0, 0⟩ : Token)]).length z), rfl, bv, (Lo.down P om), (by first | exact Zbk om | exact Qn a b rfl om | exact Qn c d rfl om | exact Qo o rfl om | exact Qo p rfl om), ej, E⟩
 have ct := s
 have s := Yc s
 refine Zf fun ft dc => ?_
 refine Zf fun fu ek => ?_
 refine Zc (Za rfl rfl (Yn rfl rfl) (Za rfl rfl (Ze rfl) (Zd (Zb (ek _ _ ?_)))))
 refine Zs rfl (fun u => ?_) (fun u => ?_)
 ·have bw := u
  have u := Yb u
  refine Zu ?_
  refine Zb (dc _ _ ?_)
  refine Qr rfl bw ?_
  refine Zf fun fv el => ?_
  refine Zc (Za rfl rfl (Zg rfl) (Za rfl rfl (Zg rfl) (Za rfl rfl (Qg om rfl rfl) (Zl rfl rfl ?_))))
  refine Step.call (Zm (xs := [.tmp 36, .tmp 38]) fk50 rfl) (ih aj _ om om) fun cv fw a8 => ?_
  obtain ⟨l, aO, rfl, g, r, c, a9, cw⟩ := a8
  have em := cw.size
  have E := E.trans cw
  obtain ⟨az, aA, rfl, aB, x⟩ := g.opn
  have cx := Zea c om
  refine Za rfl rfl (Zg rfl) (Za rfl rfl (Zg rfl) (Za rfl rfl (Qg om rfl rfl) (Zl rfl rfl ?_)))
  refine Step.call (Zm (xs := [.tmp 40, .tmp 42]) fk50 rfl) (ih a9 _ om om) fun cy fx ba => ?_
  obtain ⟨m, aP, rfl, h, Q, d, bb, bV⟩ := ba
  have en := bV.size
  have E := E.trans bV
  obtain ⟨aC, aD, rfl, aE, V⟩ := h.opn
  have cz := Zea d om
  refine Za rfl rfl (Zz (parts := [(0, .const (Go.Value.int Go.IntKind.i64 5))]) (cells := [(.int .i64 5), (.int .i64 0), (.int .i64 0), (.int .i64 0)]) zr42 pl42 rfl rfl) (Zl rfl rfl ?_)
  have eo := g.ch bV (dS r x om)
  refine Step.call (Zm (xs := [.tmp 39, .tmp 43, .tmp 44]) fk75 rfl) (Qe eo.ls h.ls ⟨5, 0, 0, 0⟩ (by first | omega | (simp only [List.length_nil]; omega))) fun cA fy M => ?_
  obtain ⟨cB, rfl, M, R, bW⟩ := M
  have ep := bW.size
  have E := E.trans bW.of_nil
  obtain ⟨A, B, rfl, bx, X⟩ := M.opn
  refine Zl rfl rfl ?_
  have er := (((al.ch aX (nS om)).ch cw (nS om)).ch bV (nS om)).ch0 bW
  refine Zq (off := 0) 1 er sz26 rfl (us := [(.slice A (l ++ m ++ [(⟨5, 0, 0, 0⟩ : Token)]).length B)]) rfl rfl rfl rfl fun dd aF bX => ?_
  have es := bX.size
  have E := E.step bX (lS om)
  replace aF : Blk dd aJ 26 [(.slice A (l ++ m ++ [(⟨5, 0, 0, 0⟩ : Token)]).length B)] := aF
  refine Zd (Zb (el _ _ ?_))
  refine Zp (Zt (Zk ?_))
  have et := M.ch bX (dS R X om)
  have bz : Ol Token.cs 42 4 dd (.slice A (l ++ m ++ [(⟨5, 0, 0, 0⟩ : Token)]).length B) (l ++ m ++ [(⟨5, 0, 0, 0⟩ : Token)]) := by
   have hx := et
   first | exact hx | simpa using hx
  have eu := (bb.ch0 bW).ch bX (oS om)
  exact Zh [_] (Zn aF rfl agg26 sz26 trivial) ⟨(l ++ m ++ [(⟨5, 0, 0, 0⟩ : Token)]), (.slice A (l ++ m ++ [(⟨5, 0, 0, 0⟩ : Token)]).length B), rfl, bz, (Lo.down R om), (by first | exact Zbk om | exact Qn a b rfl om | exact Qn c d rfl om | exact Qo o rfl om | exact Qo p rfl om), eu, E⟩
 have bw := u
 have u := Yc u
 refine Zc (Za rfl rfl (Yn rfl rfl) (Za rfl rfl (Ze rfl) (Zd (Zb (dc _ _ ?_)))))
 refine Zs rfl (fun u => ?_) (fun u => ?_)
 ·have cC := u
  have u := Yb u
  refine Zf fun fz ew => ?_
  refine Zc (Za rfl rfl (Zg rfl) (Za rfl rfl (Zg rfl) (Za rfl rfl (Qg om rfl rfl) (Zl rfl rfl ?_))))
  refine Step.call (Zm (xs := [.tmp 36, .tmp 38]) fk50 rfl) (ih aj _ om om) fun cv fA a8 => ?_
  obtain ⟨l, aO, rfl, g, r, c, a9, cD⟩ := a8
  have ex := cD.size
  have E := E.trans cD
  obtain ⟨az, aA, rfl, aB, x⟩ := g.opn
  have cx := Zea c om
  refine Za rfl rfl (Zg rfl) (Za rfl rfl (Zg rfl) (Za rfl rfl (Qg om rfl rfl) (Zl rfl rfl ?_)))
  refine Step.call (Zm (xs := [.tmp 40, .tmp 42]) fk50 rfl) (ih a9 _ om om) fun cy fB ba => ?_
  obtain ⟨m, aP, rfl, h, Q, d, bb, bY⟩ := ba
  have ey := bY.size
  have E := E.trans bY
  obtain ⟨aC, aD, rfl, aE, V⟩ := h.opn
  have cz := Zea d om
  refine Za rfl rfl (Zz (parts := [(0, .const (Go.Value.int Go.IntKind.i64 5))]) (cells := [(.int .i64 5), (.int .i64 0), (.int .i64 0), (.int .i64 0)]) zr42 pl42 rfl rfl) (Zl rfl rfl ?_)
  have ez := g.ch bY (dS r x om)
  refine Step.call (Zm (xs := [.tmp 39, .tmp 43, .tmp 44]) fk75 rfl) (Qe ez.ls h.ls ⟨5, 0, 0, 0⟩ (by first | omega | (simp only [List.length_nil]; omega))) fun cA fC M => ?_
  obtain ⟨cB, rfl, M, R, bZ⟩ := M
  have eA := bZ.size
  have E := E.trans bZ.of_nil
  obtain ⟨A, B, rfl, bx, X⟩ := M.opn
  refine Zl rfl rfl ?_
  have eB := (((al.ch aX (nS om)).ch cD (nS om)).ch bY (nS om)).ch0 bZ
  refine Zq (off := 0) 1 eB sz26 rfl (us := [(.slice A (l ++ m ++ [(⟨5, 0, 0, 0⟩ : Token)]).length B)]) rfl rfl rfl rfl fun de aG b0 => ?_
  have eC := b0.size
  have E := E.step b0 (lS om)
  replace aG : Blk de aJ 26 [(.slice A (l ++ m ++ [(⟨5, 0, 0, 0⟩ : Token)]).length B)] := aG
  refine Zd (Zb (ew _ _ ?_))
  refine Zp (Zt (Zk ?_))
  have eD := M.ch b0 (dS R X om)
  have bA : Ol Token.cs 42 4 de (.slice A (l ++ m ++ [(⟨5, 0, 0, 0⟩ : Token)]).length B) (l ++ m ++ [(⟨5, 0, 0, 0⟩ : Token)]) := by
   have hx := eD
   first | exact hx | simpa using hx
  have eE := (bb.ch0 bZ).ch b0 (oS om)
  exact Zh [_] (Zn aG rfl agg26 sz26 trivial) ⟨(l ++ m ++ [(⟨5, 0, 0, 0⟩ : Token)]), (.slice A (l ++ m ++ [(⟨5, 0, 0, 0⟩ : Token)]).length B), rfl, bA, (Lo.down R om), (by first | exact Zbk om | exact Qn a b rfl om | exact Qn c d rfl om | exact Qo o rfl om | exact Qo p rfl om), eE, E⟩
 have cC := u
 have u := Yc u
 refine Zf fun fD eF => ?_
 refine Zc (Za rfl rfl (Yn rfl rfl) (Za rfl rfl (Ze rfl) (Zd (Zb (eF _ _ ?_)))))
 refine Zs rfl (fun Y => ?_) (fun Y => ?_)
 ·have cE := Y
  have Y := Yb Y
  refine Zf fun fE eG => ?_
  refine Zc (Za rfl rfl (Zg rfl) (Za rfl rfl (Zg rfl) (Za rfl rfl (Qg om rfl rfl) (Zl rfl rfl ?_))))
  refine Step.call (Zm (xs := [.tmp 48, .tmp 50]) fk50 rfl) (ih aj _ om om) fun eH fF cF => ?_
  obtain ⟨J, b1, rfl, F, aY, o, cG, cH⟩ := cF
  have eI := cH.size
  have E := E.trans cH
  obtain ⟨bB, bC, rfl, bD, bc⟩ := F.opn
  have eJ := Zea o om
  refine Za rfl rfl (Zz (parts := []) (cells := [(.slice none 0 0)]) zr26 pl26 rfl rfl) (Za rfl rfl (Zz (parts := [(0, .const (Go.Value.int Go.IntKind.i64 6))]) (cells := [(.int .i64 6), (.int .i64 0), (.int .i64 0), (.int .i64 0)]) zr42 pl42 rfl rfl) (Zl rfl rfl ?_))
  refine Step.call (Zm (xs := [.tmp 51, .tmp 52, .tmp 53]) fk75 rfl) (Qe F.ls (Ls.nil (cs := Token.cs) (k := 4) _ 0 0) ⟨6, 0, 0, 0⟩ (by first | omega | (simp only [List.length_nil]; omega))) fun eK fG aQ => ?_
  obtain ⟨eL, rfl, aQ, aZ, b2⟩ := aQ
  have eM := b2.size
  have E := E.trans b2.of_nil
  obtain ⟨af, ag, rfl, df, be⟩ := aQ.opn
  refine Zl rfl rfl ?_
  have eN := ((al.ch aX (nS om)).ch cH (nS om)).ch0 b2
  refine Zq (off := 0) 1 eN sz26 rfl (us := [(.slice af (J ++ [] ++ [(⟨6, 0, 0, 0⟩ : Token)]).length ag)]) rfl rfl rfl rfl fun dg aH b3 => ?_
  have eO := b3.size
  have E := E.step b3 (lS om)
  replace aH : Blk dg aJ 26 [(.slice af (J ++ [] ++ [(⟨6, 0, 0, 0⟩ : Token)]).length ag)] := aH
  refine Zd (Zb (eG _ _ ?_))
  refine Zp (Zt (Zk ?_))
  have eP := aQ.ch b3 (dS aZ be om)
  have bE : Ol Token.cs 42 4 dg (.slice af (J ++ [] ++ [(⟨6, 0, 0, 0⟩ : Token)]).length ag) (J ++ [] ++ [(⟨6, 0, 0, 0⟩ : Token)]) := by
   have hx := eP
   first | exact hx | simpa using hx
  have eQ := (cG.ch0 b2).ch b3 (oS om)
  exact Zh [_] (Zn aH rfl agg26 sz26 trivial) ⟨(J ++ [] ++ [(⟨6, 0, 0, 0⟩ : Token)]), (.slice af (J ++ [] ++ [(⟨6, 0, 0, 0⟩ : Token)]).length ag), rfl, bE, (Lo.down aZ om), (by first | exact Zbk om | exact Qn a b rfl om | exact Qn c d rfl om | exact Qo o rfl om | exact Qo p rfl om), eQ, E⟩
 have cE := Y
 have Y := Yc Y
 refine Zu ?_
 refine Yd (Zb (dW _ _ ?_))
 refine Zf fun eR cI => ?_
 refine Zc (Za rfl rfl (Zg rfl) (Zl rfl rfl ?_))
 refine Step.call (Zm (xs := [.tmp 55, .const (Go.Value.int Go.IntKind.i64 3)]) fk30 rfl) (Yu aj _ om) fun eS eT cJ => ?_
 obtain ⟨C, rfl, cK, cL, bf⟩ := cJ
 have dh := bf.size
 have E := E.trans bf
 refine Za rfl rfl (Yy om rfl rfl) (Za rfl rfl (Ze rfl) (Zd (Zb (cI _ _ ?_))))
 refine Zf fun eU cM => ?_
 refine Zc (Za rfl rfl (Zg rfl) (Za rfl rfl (Zg rfl) (Za rfl rfl (Qg om rfl rfl) (Zl rfl rfl ?_))))
 refine Step.call (Zm (xs := [.tmp 58, .tmp 60]) fk50 rfl) (ih cL _ om om) fun eV eW cN => ?_
 obtain ⟨K, b4, rfl, G, S, p, cO, bg⟩ := cN
 have di := bg.size
 have E := E.trans bg
 obtain ⟨bF, bG, rfl, bH, Z⟩ := G.opn
 have eX := Zea p om
 refine Za rfl rfl (Zz (parts := []) (cells := [(.slice none 0 0)]) zr26 pl26 rfl rfl) (Za rfl rfl (Zg rfl) (Za rfl rfl (Zg rfl) (Za rfl rfl (Yy om rfl rfl) (Zl rfl rfl ?_))))
 refine Step.call (Zm (xs := [.tmp 63, .tmp 65]) fk30 rfl) (Yu cO _ om) fun eY eZ cP => ?_
 obtain ⟨D, rfl, cQ, cR, aR⟩ := cP
 have dj := aR.size
 have E := E.trans aR
 refine Za rfl rfl (Zg rfl) (Za rfl rfl (Zz (parts := [(0, .const (Go.Value.int Go.IntKind.i64 7)), (2, .tmp 66), (3, .tmp 67)]) (cells := [(.int .i64 7), (.int .i64 0), (.int .i64 D), (.int .i64 (1 + C))]) zr42 pl42 rfl rfl) (Zl rfl rfl ?_))
 have cS := G.ch aR (dS S Z om)
 refine Step.call (Zm (xs := [.tmp 61, .tmp 62, .tmp 68]) fk75 rfl) (Qe cS.ls (Ls.nil (cs := Token.cs) (k := 4) _ 0 0) ⟨7, 0, D, (1 + C)⟩ (by first | omega | (simp only [List.length_nil]; omega))) fun e0 e1 aS => ?_
 obtain ⟨e2, rfl, aS, a0, aT⟩ := aS
 have dk := aT.size
 have E := E.trans aT.of_nil
 obtain ⟨ah, ai, rfl, dl, bh⟩ := aS.opn
 refine Zl rfl rfl ?_
 have cT := ((((al.ch aX (nS om)).ch bf (nS om)).ch bg (nS om)).ch aR (nS om)).ch0 aT
 refine Zq (off := 0) 1 cT sz26 rfl (us := [(.slice ah (K ++ [] ++ [(⟨7, 0, D, (1 + C)⟩ : Token)]).length ai)]) rfl rfl rfl rfl fun bI aa aU => ?_
 have dm := aU.size
 have E := E.step aU (lS om)
 replace aa : Blk bI aJ 26 [(.slice ah (K ++ [] ++ [(⟨7, 0, D, (1 + C)⟩ : Token)]).length ai)] := aa
 refine Zd (Zb (cM _ _ ?_))
 refine Zp ?_
 have cU := aS.ch aU (dS a0 bh om)
 have bi : Ol Token.cs 42 4 bI (.slice ah (K ++ [] ++ [(⟨7, 0, D, (1 + C)⟩ : Token)]).length ai) (K ++ [] ++ [(⟨7, 0, D, (1 + C)⟩ : Token)]) := by
  have hx := cU
  first | exact hx | simpa using hx
 have cV := (cR.ch0 aT).ch aU (oS om)
 exact Zh [_] (Zn aa rfl agg26 sz26 trivial) ⟨(K ++ [] ++ [(⟨7, 0, D, (1 + C)⟩ : Token)]), (.slice ah (K ++ [] ++ [(⟨7, 0, D, (1 + C)⟩ : Token)]).length ai), rfl, bi, (Lo.down a0 om), (by first | exact Zbk om | exact Qn a b rfl om | exact Qn c d rfl om | exact Qo o rfl om | exact Qo p rfl om), cV, E⟩
theorem Zfq {w : World} {b_c : Nat} (b : Cu w b_c) (deep : Int) (hd : 0 ≤ deep ∧ deep ≤ 3) :
 Ctr Tryz.prog 50 #[(.pointer (some ⟨b_c, 0, none⟩)), (.int .i64 deep)] w (fun v w' => ∃ (c : List Token) (a : Value), v = .agg #[a] ∧ Ol Token.cs 42 4 w' a (c) ∧ Lo w.heap.size a ∧ (1 ≤ c.length ∧ c.length + 1 ≤ 2 ^ (deep.toNat + 1)) ∧ Cu w' b_c ∧ Ch [b_c] w w') := Zep _ b deep hd (Nat.lt_succ_self _)

/-- spec.l8Expr -/
theorem Zfr {w : World} {b_c : Nat} (q : Cu w b_c) :
 Ctr Tryz.prog 29 #[(.pointer (some ⟨b_c, 0, none⟩))] w (fun v w' => ∃ (C : List Token) (m : Value), v = .agg #[m] ∧ Ol Token.cs 42 4 w' m (C) ∧ Lo w.heap.size m ∧ (1 ≤ C.length ∧ C.length ≤ 24) ∧ Cu w' b_c ∧ Ch [b_c] w w') := by
 have L := q.lt
 have E := Ch.refl [b_c] w
 refine Zv (N := 12) (vs0 := [(.pointer (some ⟨b_c, 0, none⟩))]) Tryz.func29 rfl rfl rfl ?_
 refine Zf fun K1 H1 => ?_
 refine Zc (Zl rfl rfl ?_)
 refine Yl zr26 fun D W2 r C2 am => ?_
 have an := C2.size
 have E := E.trans C2.of_nil
 have ao := r.lt
 replace r : Blk W2 D 26 [(.slice none 0 0)] := r
 refine Zd (Zb (H1 _ _ ?_))
 refine Zf fun K3 H3 => ?_
 refine Zf fun K4 H4 => ?_
 refine Zc (Za rfl rfl (Zg rfl) (Zl rfl rfl ?_))
 have F5 := q.ch0 C2
 refine Step.call (Zm (xs := [.tmp 3, .const (Go.Value.int Go.IntKind.i64 2)]) fk31 rfl) (Zae F5 _ om) fun ap W6 R => ?_
 obtain ⟨S, rfl, M, C6⟩ := R
 have aq := C6.size
 have E := E.trans C6
 refine Zd (Zb (H4 _ _ ?_))
 refine Zs rfl (fun F => ?_) (fun F => ?_)
 ·have T := F
  refine Zf fun K8 H8 => ?_
  refine Zc (Za rfl rfl (Zg rfl) (Zl rfl rfl ?_))
  refine Step.call (Zm (xs := [.tmp 5]) fk49 rfl) (Zes M ) fun au W9 U => ?_
  obtain ⟨k, G, rfl, h, f, s, V, C9⟩ := U
  have av := C9.size
  have E := E.trans C9
  obtain ⟨d, e, rfl, y, l⟩ := h.opn
  refine Zl rfl rfl ?_
  have X := (r.ch C6 (nS om)).ch C9 (nS om)
  refine Zq (off := 0) 1 X sz26 rfl (us := [(.slice d (k).length e)]) rfl rfl rfl rfl fun O n z => ?_
  have Y := z.size
  have E := E.step z (lS om)
  replace n : Blk O D 26 [(.slice d (k).length e)] := n
  refine Zd (Zb (H8 _ _ ?_))
  refine Zp (Zk ?_)
  have Z := h.ch z (dS f l om)
  have t : Ol Token.cs 42 4 O (.slice d (k).length e) (k) := by
   have hx := Z
   first | exact hx | simpa using hx
  have aa := V.ch z (oS om)
  exact Zh [_] (Zn n rfl agg26 sz26 trivial) ⟨k, (.slice d (k).length e), rfl, t, (Lo.down f om), s, aa, E⟩
 have T := F
 refine Zu ?_
 refine Zb (H3 _ _ ?_)
 refine Zf fun aw ab => ?_
 refine Zc (Za rfl rfl (Zg rfl) (Za rfl rfl (Zg rfl) (Zl rfl rfl ?_)))
 refine Step.call (Zm (xs := [.tmp 8, .const (Go.Value.int Go.IntKind.i64 3)]) fk30 rfl) (Yu M _ om) fun ax ay ac => ?_
 obtain ⟨ad, rfl, P, ae, H⟩ := ac
 have af := H.size
 have E := E.trans H
 refine Za rfl rfl (Yy om rfl rfl) (Zl rfl rfl ?_)
 refine Step.call (Zm (xs := [.tmp 7, .tmp 10]) fk50 rfl) (Zfq ae _ om) fun ag az I => ?_
 obtain ⟨i, A, rfl, g, c, p, J, K⟩ := I
 have ah := K.size
 have E := E.trans K
 obtain ⟨a, b, rfl, u, j⟩ := g.opn
 refine Zl rfl rfl ?_
 have ai := ((r.ch C6 (nS om)).ch H (nS om)).ch K (nS om)
 refine Zq (off := 0) 1 ai sz26 rfl (us := [(.slice a (i).length b)]) rfl rfl rfl rfl fun Q o B => ?_
 have aj := B.size
 have E := E.step B (lS om)
 replace o : Blk Q D 26 [(.slice a (i).length b)] := o
 refine Zd (Zb (ab _ _ ?_))
 refine Zp ?_
 have ak := g.ch B (dS c j om)
 have x : Ol Token.cs 42 4 Q (.slice a (i).length b) (i) := by
  have hx := ak
  first | exact hx | simpa using hx
 have al := J.ch B (oS om)
 exact Zh [_] (Zn o rfl agg26 sz26 trivial) ⟨i, (.slice a (i).length b), rfl, x, (Lo.down c om), (by have aA := Zea p om; omega), al, E⟩

/-- spec.l8Any -/
theorem Zgx {w : World} {b_c : Nat} (aS : Cu w b_c) :
 Ctr Tryz.prog 16 #[(.pointer (some ⟨b_c, 0, none⟩))] w (fun v w' => ∃ (bw : List Token) (Q : Value), v = .agg #[Q] ∧ Ol Token.cs 42 4 w' Q (bw) ∧ Lo w.heap.size Q ∧ (0 ≤ bw.length ∧ bw.length ≤ 26) ∧ Cu w' b_c ∧ Ch [b_c] w w') := by
 have ci := aS.lt
 have E := Ch.refl [b_c] w
 refine Zv (N := 55) (vs0 := [(.pointer (some ⟨b_c, 0, none⟩))]) Tryz.func16 rfl rfl rfl ?_
 refine Zf fun K1 H1 => ?_
 refine Zc (Zl rfl rfl ?_)
 refine Yl zr26 fun am W2 aA C2 eh => ?_
 have ei := C2.size
 have E := E.trans C2.of_nil
 have ej := aA.lt
 replace aA : Blk W2 am 26 [(.slice none 0 0)] := aA
 refine Zd (Zb (H1 _ _ ?_))
 refine Zf fun K3 H3 => ?_
 refine Zc (Za rfl rfl (Zg rfl) (Zl rfl rfl ?_))
 have F4 := aS.ch0 C2
 refine Step.call (Zm (xs := [.tmp 4]) fk29 rfl) (Zfr F4 ) fun ek W5 cM => ?_
 obtain ⟨h, bx, rfl, l, a, cj, cN, C5⟩ := cM
 have el := C5.size
 have E := E.trans C5
 obtain ⟨c, e, rfl, bn, b⟩ := l.opn
 refine Zl rfl rfl ?_
 refine Yl zr26 fun an W6 bp C6 em => ?_
 have en := C6.size
 have E := E.trans C6.of_nil
 have eo := bp.lt
 replace bp : Blk W6 an 26 [(.slice none 0 0)] := bp
 refine Zl rfl rfl ?_
 refine Zq (off := 0) 1 bp sz26 rfl (us := [(.slice c (h).length e)]) rfl rfl rfl rfl fun W7 O C7 => ?_
 have ep := C7.size
 have E := E.step C7 (lS om)
 replace O : Blk W7 an 26 [(.slice c (h).length e)] := O
 refine Zd (Zb (H3 _ _ ?_))
 refine Zf fun K9 H9 => ?_
 refine Zf fun er cO => ?_
 refine Zc (Za rfl rfl (Zg rfl) (Zl rfl rfl ?_))
 have cP := (cN.ch0 C6).ch C7 (oS om)
 refine Step.call (Zm (xs := [.tmp 6, .const (Go.Value.int Go.IntKind.i64 14)]) fk30 rfl) (Yu cP _ om) fun es ck cQ => ?_
 obtain ⟨cR, rfl, cl, bq, H⟩ := cQ
 have cS := H.size
 have E := E.trans H
 refine Zd (Zb (cO _ _ ?_))
 refine Yj ?_
 refine Zf fun et cT => ?_
 refine Zc (Za rfl rfl (Yn rfl rfl) (Za rfl rfl (Ze rfl) (Zd (Zb (cT _ _ ?_)))))
 refine Zs rfl (fun aB => ?_) (fun aB => ?_)
 ·have bz := aB
  have aB := Yb aB
  refine Zc (Za rfl rfl (Zi fa26_0 rfl) ?_)
  have cm := O.ch H (nS om)
  refine Za rfl rfl (Zo cm.at_ agg24 rfl rfl) (Zl rfl rfl ?_)
  have cU := ((l.ch0 C6).ch C7 (dS a b om)).ch H (dS a b om)
  refine (Zmm (ys := (h.drop 1)) 1 h.length cU Token.len el24 sz42 rfl ⟨_, _, rfl, by omega⟩ rfl om om (Zji _ _) fun cV aT R cn => ?_)
  obtain ⟨S, T, rfl, cW, cX⟩ := aT.opn
  refine Za rfl rfl (Zi fa26_0 rfl) (Zl rfl rfl ?_)
  refine Ys (off := 0) cm sz24 rfl rfl rfl rfl fun cY U aU => ?_
  have cZ := aU.size
  have E := E.step aU (lS om)
  replace U : Blk cY an 26 [(.slice S ((h.drop 1)).length T)] := U
  refine Zd (Yd (Zb (H9 _ _ ?_)))
  refine Zf fun eu c0 => ?_
  refine Zc (Za rfl rfl (Zr U.at_ agg26 sz26 rfl) (Zl rfl rfl ?_))
  have c1 := ((((aA.ch C5 (nS om)).ch0 C6).ch C7 (nS om)).ch H (nS om)).ch aU (nS om)
  refine Zq (off := 0) 1 c1 sz26 rfl (us := [(.slice S ((h.drop 1)).length T)]) rfl rfl rfl rfl fun co V br => ?_
  have c2 := br.size
  have E := E.step br (lS om)
  replace V : Blk co am 26 [(.slice S ((h.drop 1)).length T)] := V
  refine Zd (Zb (c0 _ _ ?_))
  refine Zp ?_
  have c3 := (aT.ch aU (fun g hg hm => by have q := List.mem_singleton.1 hm; rw [R] at hg; have I := a _ hg; have bA := b _ hg; omega)).ch br (fun g hg hm => by have q := List.mem_singleton.1 hm; rw [R] at hg; have I := a _ hg; have bA := b _ hg; omega)
  have aV : Ol Token.cs 42 4 co (.slice S ((h.drop 1)).length T) ((h.drop 1)) := by
   have hx := c3
   first | exact hx | simpa using hx
  have c4 := (bq.ch aU (oS om)).ch br (oS om)
  exact Zh [_] (Zn V rfl agg26 sz26 trivial) ⟨(h.drop 1), (.slice S ((h.drop 1)).length T), rfl, aV, (Lo.down (fun g hg => a g (R ▸ hg)) om), (by first | omega | (simp only [List.length_drop, List.length_set, List.length_append, List.length_singleton]; omega)), c4, E⟩
 have bz := aB
 have aB := Yc aB
 refine Zf fun ew c5 => ?_
 refine Zc (Za rfl rfl (Yn rfl rfl) (Za rfl rfl (Ze rfl) (Zd (Zb (c5 _ _ ?_)))))
 refine Zs rfl (fun u => ?_) (fun u => ?_)
 ·have bB := u
  have u := Yb u
  refine Xm ([b_c] ++ (bl (.slice c (h).length e))) 13 mixed rfl fun aW aK => ?_
  have c6 := aK.size
  have E := E.trans aK.of_nil
  refine dV 0 rfl rfl rfl (fun _ => Zi fa26_0 rfl) ?_
  have cp := (O.ch H (nS om)).ch0 aK
  refine dT 1 rfl rfl rfl (Xl cp.at_ (fun i hm => by rcases List.mem_append.1 hm with hm | hm; (have x := List.mem_singleton.1 hm; omega); (have x := a _ hm; have I := b _ hm; omega)) agg24 rfl rfl ?_)
  refine dV 2 rfl rfl rfl (fun _ => Zg rfl) (dV 4 rfl rfl rfl (fun _ => Zg rfl) (dV 6 rfl rfl rfl (fun _ => Zg rfl) (dV 8 rfl rfl rfl (fun _ => Zg rfl) (dO 3 (Yf rfl rfl rfl ?_)))))
  have c7 := bq.ch0 aK
  refine Step.call (Zm (xs := [.tmp 18, .const (Go.Value.int Go.IntKind.i64 9)]) fk30 rfl) (Yu c7 _ om) fun c8 c9 bC => ?_
  obtain ⟨J, rfl, bD, bE, aL⟩ := bC
  have da := aL.size
  have E := E.trans aL
  have au : Ch ([b_c] ++ (bl (.slice c (h).length e))) aW c9 := ((Ch.refl _ _).step aL (fun i hm => by have q := List.mem_singleton.1 hm; exact .inr (by rw [q]; exact (List.mem_append_left _ (List.mem_singleton.2 rfl)))))
  refine ⟨au, ?_⟩
  refine dO 5 (Yf rfl rfl rfl ?_)
  refine Step.call (Zm (xs := [.tmp 20, .const (Go.Value.int Go.IntKind.i64 10)]) fk30 rfl) (Yu bE _ om) fun db dc bF => ?_
  obtain ⟨K, rfl, bG, bH, aM⟩ := bF
  have dd := aM.size
  have E := E.trans aM
  have av : Ch ([b_c] ++ (bl (.slice c (h).length e))) aW dc := (au.step aM (fun i hm => by have q := List.mem_singleton.1 hm; exact .inr (by rw [q]; exact (List.mem_append_left _ (List.mem_singleton.2 rfl)))))
  refine ⟨av, ?_⟩
  refine dO 7 (Yf rfl rfl rfl ?_)
  refine Step.call (Zm (xs := [.tmp 22, .const (Go.Value.int Go.IntKind.i64 3)]) fk30 rfl) (Yu bH _ om) fun de df bI => ?_
  obtain ⟨L, rfl, bJ, bK, aN⟩ := bI
  have dg := aN.size
  have E := E.trans aN
  have aw : Ch ([b_c] ++ (bl (.slice c (h).length e))) aW df := (av.step aN (fun i hm => by have q := List.mem_singleton.1 hm; exact .inr (by rw [q]; exact (List.mem_append_left _ (List.mem_singleton.2 rfl)))))
  refine ⟨aw, ?_⟩
  refine dO 9 (Yf rfl rfl rfl ?_)
  refine Step.call (Zm (xs := [.tmp 24, .const (Go.Value.int Go.IntKind.i64 5)]) fk30 rfl) (Yu bK _ om) fun dh di bL => ?_
  obtain ⟨M, rfl, bM, bN, aO⟩ := bL
  have dj := aO.size
  have E := E.trans aO
  have X : Ch ([b_c] ++ (bl (.slice c (h).length e))) aW di := (aw.step aO (fun i hm => by have q := List.mem_singleton.1 hm; exact .inr (by rw [q]; exact (List.mem_append_left _ (List.mem_singleton.2 rfl)))))
  refine ⟨X, ?_⟩
  refine dV 10 rfl rfl rfl (fun _ => Zz (parts := [(0, .tmp 19), (1, .tmp 21), (2, .tmp 23), (3, .tmp 25)]) (cells := [(.int .i64 J), (.int .i64 K), (.int .i64 L), (.int .i64 M)]) zr42 pl42 rfl rfl) (dO 11 (Yf rfl rfl rfl ?_))
  have cq := (((((((l.ch0 C6).ch C7 (dS a b om)).ch H (dS a b om)).ch0 aK).ch aL (dS a b om)).ch aM (dS a b om)).ch aN (dS a b om)).ch aO (dS a b om)
  refine Xx (j := 0) cq el24 sz42 rfl rfl rfl om fun dk dl cr bO => ?_
  refine ⟨X, ?_⟩
  refine dO 12 (Yf rfl rfl rfl ?_)
  refine Qb (j := 0) (⟨J, K, L, M⟩) cq bO Token.len sz42 rfl rfl rfl rfl om fun dm aX aP => ?_
  have dn := aP.size
  have E := E.step aP (fun i hi => .inl (by have x := a _ hi; omega))
  have aY : Ch ([b_c] ++ (bl (.slice c (h).length e))) aW dm := (X.step aP (fun i hm => by exact .inr (List.mem_append_right _ hm)))
  refine ⟨aY, ?_⟩
  refine Yo (by kernel_rfl) ?_
  refine Yd (Zb (H9 _ _ ?_))
  refine Zf fun ex dp => ?_
  refine Zc ?_
  have dq := ((((cp.ch aL (nS om)).ch aM (nS om)).ch aN (nS om)).ch aO (nS om)).ch aP (fun hm => by have x := a _ hm; have I := b _ hm; omega)
  refine Za rfl rfl (Zr dq.at_ agg26 sz26 rfl) (Zl rfl rfl ?_)
  have dr := (((((((((aA.ch C5 (nS om)).ch0 C6).ch C7 (nS om)).ch H (nS om)).ch0 aK).ch aL (nS om)).ch aM (nS om)).ch aN (nS om)).ch aO (nS om)).ch aP (fun hm => by have x := a _ hm; have I := b _ hm; omega)
  refine Zq (off := 0) 1 dr sz26 rfl (us := [(.slice c (h).length e)]) rfl rfl rfl rfl fun ct Y bs => ?_
  have ds := bs.size
  have E := E.step bs (lS om)
  replace Y : Blk ct am 26 [(.slice c (h).length e)] := Y
  refine Zd (Zb (dp _ _ ?_))
  refine Zp ?_
  have dt := aX.ch bs (dS a b om)
  have aZ : Ol Token.cs 42 4 ct (.slice c (h).length e) ((h.set 0 (⟨J, K, L, M⟩))) := by
   have hx := dt
   first | exact hx | simpa using hx
  have du := (bN.ch aP (fun i hm => by have x := a _ hm; have I := b _ hm; omega)).ch bs (oS om)
  exact Zh [_] (Zn Y rfl agg26 sz26 trivial) ⟨(h.set 0 (⟨J, K, L, M⟩)), (.slice c (h).length e), rfl, aZ, (Lo.down a om), (by first | omega | (simp only [List.length_drop, List.length_set, List.length_append, List.length_singleton]; omega)), du, E⟩
 have bB := u
 have u := Yc u
 refine Zf fun ey dv => ?_
 refine Zc (Za rfl rfl (Yn rfl rfl) (Za rfl rfl (Ze rfl) (Zd (Zb (dv _ _ ?_)))))
 refine Zs rfl (fun y => ?_) (fun y => ?_)
 ·have bP := y
  have y := Yb y
  refine Zf fun ez cu => ?_
  refine Yj ?_
  have dw := ((l.ch0 C6).ch C7 (dS a b om)).ch H (dS a b om)
  have aC : Ol Token.cs 42 4 ck (.slice c (h).length e) (h) := by
   have hx := dw
   exact hx
  have dx := O.ch H (nS om)
  have dy := (((aA.ch C5 (nS om)).ch0 C6).ch C7 (nS om)).ch H (nS om)
  refine Qf (σ := List Token × Value) (fun ⟨us, uv⟩ => [(0, (.pointer (some ⟨b_c, 0, none⟩))), (2, (.pointer (some ⟨am, 0, none⟩))), (3, (.pointer (some ⟨an, 0, none⟩)))]) (fun ⟨us, uv⟩ wx => Ch [b_c] w wx ∧ ck.heap.size ≤ wx.heap.size ∧ (us.length ≤ 24) ∧ Cu wx b_c ∧ Blk wx am 26 [(.slice none 0 0)] ∧ Ol Token.cs 42 4 wx uv us ∧ Lo W2.heap.size uv ∧ Blk wx an 26 [uv] ∧ (an ∉ bl uv)) (fun ⟨us, uv⟩ => 24 - us.length) (h, (.slice c (h).length e)) (sC2 rfl rfl (sC1 rfl (Sub.nil _))) ⟨E, (Nat.le_refl _), om, bq, dy, aC, a, dx, (fun hm => by have x := a _ hm; have I := b _ hm; omega)⟩ ?_
  rintro ⟨us, uv⟩ eA ⟨E, dz, hu, Z, r, s, f, p, o⟩
  have bQ := E
  have cv := bQ.size
  have bR := r.lt
  obtain ⟨Auv, Cuv, rfl, luv, k⟩ := s.opn
  refine Zf fun eB dA => ?_
  refine Zf fun eC cw => ?_
  refine Zc (Za rfl rfl (Zi fa26_0 rfl) (Za rfl rfl (Zo p.at_ agg24 rfl rfl) (Za rfl rfl (Xk (by rw [el24]; rfl) rfl) (Za rfl rfl (Zfx rfl rfl) (Za rfl rfl (Zg rfl) ?_)))))
  refine Yi (d := 34) rfl (fun z => ?_) (fun z => ?_)
  ·have bS := z
   have z := Yb z
   refine Za rfl rfl (Zi fa26_0 rfl) (Za rfl rfl (Zo p.at_ agg24 rfl rfl) (Za rfl rfl (Xk (by rw [el24]; rfl) rfl) (Za rfl rfl (Qv rfl rfl) (Za rfl rfl (Ye rfl rfl) (Zd (Zb (cw _ _ ?_)))))))
   refine Zs rfl (fun A => ?_) (fun A => ?_)
   ·have bT := A
    have A := Yb A
    refine Zu ?_
    refine Zb (dA _ _ ?_)
    refine Yj ?_
    refine Zc (Za rfl rfl (Zi fa26_0 rfl) (Za rfl rfl (Zo p.at_ agg24 rfl rfl) (Za rfl rfl (Zz (parts := [(0, .const (Go.Value.int Go.IntKind.i64 6))]) (cells := [(.int .i64 6), (.int .i64 0), (.int .i64 0), (.int .i64 0)]) zr42 pl42 rfl rfl) (Zl rfl rfl ?_))))
    refine Yg (cs := Token.cs) (parts := [(0, .tmp 42)]) (⟨0, 0, 0, 0⟩ : Token) [(⟨6, 0, 0, 0⟩ : Token)] el24 sz42 zr42 Token.len (by decide) rfl rfl rfl (by decide) (by decide) rfl fun dB eD a0 cx aQ => ?_
    have dC := aQ.size
    have E := E.trans aQ.of_nil
    obtain ⟨cy, cz, rfl, cA, bU⟩ := a0.opn
    refine Zl rfl rfl ?_
    have dD := s.ch0 aQ
    refine Yt (cs := Token.cs) el24 sz42 by42 zr42 rfl (by decide) Token.one dD a0.ls rfl rfl bd bd f om fun dE eE a1 a2 ax a3 => ?_
    have dF := a3.size
    have E := E.step a3 (fun i hi => .inl (by have x := f _ hi; omega))
    obtain ⟨aa, ab, rfl, cB, bV⟩ := a1.opn
    refine Za rfl rfl (Zi fa26_0 rfl) (Zl rfl rfl ?_)
    have dG := (p.ch0 aQ).ch a3 (fun hm => by exact o (by first | exact hm | exact q ▸ hm))
    refine Ys (off := 0) dG sz24 rfl rfl rfl rfl fun cC ac a4 => ?_
    have dH := a4.size
    have E := E.step a4 (lS om)
    replace ac : Blk cC an 26 [(.slice aa ((us ++ [(⟨6, 0, 0, 0⟩ : Token)])).length ab)] := ac
    refine Zd (Yd ?_)
    have dI := a1.ch a4 (fun g hg hm => by have q := List.mem_singleton.1 hm; rcases ax with ea | ea; (rw [ea] at hg; exact o (by first | exact hg | exact q ▸ hg)); (rw [ea] at hg; have a5 := List.mem_singleton.1 hg; omega))
    have aD : Ol Token.cs 42 4 cC (.slice aa ((us ++ [(⟨6, 0, 0, 0⟩ : Token)])).length ab) ((us ++ [(⟨6, 0, 0, 0⟩ : Token)])) := by
     have hx := dI
     exact hx
    have dJ := ((Z.ch0 aQ).ch a3 (fun i hm => by have x := f _ hm; have I := k _ hm; omega)).ch a4 (oS om)
    have dL := ((r.ch0 aQ).ch a3 (fun hm => by have x := f _ hm; have I := k _ hm; omega)).ch a4 (nS om)
    exact Zb (Exists.intro ((us ++ [(⟨6, 0, 0, 0⟩ : Token)]), (.slice aa ((us ++ [(⟨6, 0, 0, 0⟩ : Token)])).length ab)) ⟨⟨E, om, (by simp only [List.length_append, List.length_singleton]; omega), dJ, dL, aD, (Lo.down a2 om), ac, (fun hm => by rcases ax with ea | ea; (rw [ea] at hm; exact o (by first | exact hm | exact q ▸ hm)); (rw [ea] at hm; have a5 := List.mem_singleton.1 hm; omega))⟩, sC2 rfl rfl (sC1 rfl (Sub.nil _)), (by simp only [List.length_append, List.length_singleton]; omega)⟩)
   have bT := A
   have A := Yc A
   refine Xu (Yh (Yh (Xd ?_)))
   refine Zb (cu _ _ ?_)
   refine Zf fun eF dM => ?_
   refine Zc (Za rfl rfl (Zg rfl) (Zl rfl rfl ?_))
   refine Step.call (Zm (xs := [.tmp 46, .const (Go.Value.int Go.IntKind.i64 2)]) fk31 rfl) (Zae Z _ om) fun bW eG aE => ?_
   obtain ⟨a6, rfl, ad, ay⟩ := aE
   have dN := ay.size
   have E := E.trans ay
   refine Zd (Zb (dM _ _ ?_))
   refine Zs rfl (fun B => ?_) (fun B => ?_)
   ·have bX := B
    refine Zc (Za rfl rfl (Zi fa26_0 rfl) ?_)
    have cD := p.ch ay (nS om)
    refine Za rfl rfl (Zo cD.at_ agg24 rfl rfl) (Za rfl rfl (Zz (parts := [(0, .const (Go.Value.int Go.IntKind.i64 6))]) (cells := [(.int .i64 6), (.int .i64 0), (.int .i64 0), (.int .i64 0)]) zr42 pl42 rfl rfl) (Zl rfl rfl ?_))
    refine Yg (cs := Token.cs) (parts := [(0, .tmp 50)]) (⟨0, 0, 0, 0⟩ : Token) [(⟨6, 0, 0, 0⟩ : Token)] el24 sz42 zr42 Token.len (by decide) rfl rfl rfl (by decide) (by decide) rfl fun bY eH ae a7 aR => ?_
    have dP := aR.size
    have E := E.trans aR.of_nil
    obtain ⟨a8, a9, rfl, ba, aF⟩ := ae.opn
    refine Zl rfl rfl ?_
    have dQ := (s.ch ay (dS f k om)).ch0 aR
    refine Yt (cs := Token.cs) el24 sz42 by42 zr42 rfl (by decide) Token.one dQ ae.ls rfl rfl bd bd f om fun bZ eI af ag t bb => ?_
    have dR := bb.size
    have E := E.step bb (fun i hi => .inl (by have x := f _ hi; omega))
    obtain ⟨m, n, rfl, bc, aG⟩ := af.opn
    refine Za rfl rfl (Zi fa26_0 rfl) (Zl rfl rfl ?_)
    have dU := (cD.ch0 aR).ch bb (fun hm => by exact o (by first | exact hm | exact q ▸ hm))
    refine Ys (off := 0) dU sz24 rfl rfl rfl rfl fun dW ah be => ?_
    have dX := be.size
    have E := E.step be (lS om)
    replace ah : Blk dW an 26 [(.slice m ((us ++ [(⟨6, 0, 0, 0⟩ : Token)])).length n)] := ah
    refine Zd (Yd (Zb (H9 _ _ ?_)))
    refine Zf fun eJ dY => ?_
    refine Zc (Za rfl rfl (Zr ah.at_ agg26 sz26 rfl) (Zl rfl rfl ?_))
    have dZ := (((r.ch ay (nS om)).ch0 aR).ch bb (fun hm => by have x := f _ hm; have I := k _ hm; omega)).ch be (nS om)
    refine Zq (off := 0) 1 dZ sz26 rfl (us := [(.slice m ((us ++ [(⟨6, 0, 0, 0⟩ : Token)])).length n)]) rfl rfl rfl rfl fun cE ai bu => ?_
    have d0 := bu.size
    have E := E.step bu (lS om)
    replace ai : Blk cE am 26 [(.slice m ((us ++ [(⟨6, 0, 0, 0⟩ : Token)])).length n)] := ai
    refine Zd (Zb (dY _ _ ?_))
    refine Zp ?_
    have d1 := (af.ch be (fun g hg hm => by have q := List.mem_singleton.1 hm; rcases t with ea | ea; (rw [ea] at hg; exact o (by first | exact hg | exact q ▸ hg)); (rw [ea] at hg; have a5 := List.mem_singleton.1 hg; omega))).ch bu (fun g hg hm => by have q := List.mem_singleton.1 hm; rcases t with ea | ea; (rw [ea] at hg; have I := f _ hg; have bA := k _ hg; omega); (rw [ea] at hg; have a5 := List.mem_singleton.1 hg; omega))
    have bf : Ol Token.cs 42 4 cE (.slice m ((us ++ [(⟨6, 0, 0, 0⟩ : Token)])).length n) ((us ++ [(⟨6, 0, 0, 0⟩ : Token)])) := by
     have hx := d1
     first | exact hx | simpa using hx
    have d2 := (((ad.ch0 aR).ch bb (fun i hm => by have x := f _ hm; have I := k _ hm; omega)).ch be (oS om)).ch bu (oS om)
    exact Zh [_] (Zn ai rfl agg26 sz26 trivial) ⟨(us ++ [(⟨6, 0, 0, 0⟩ : Token)]), (.slice m ((us ++ [(⟨6, 0, 0, 0⟩ : Token)])).length n), rfl, bf, (Lo.down ag om), (by first | omega | (simp only [List.length_drop, List.length_set, List.length_append, List.length_singleton]; omega)), d2, E⟩
   have bX := B
   refine Zu ?_
   refine Yd (Zb (H9 _ _ ?_))
   refine Zf fun eK d3 => ?_
   refine Zc ?_
   have d4 := p.ch ay (nS om)
   refine Za rfl rfl (Zr d4.at_ agg26 sz26 rfl) (Zl rfl rfl ?_)
   have d5 := r.ch ay (nS om)
   refine Zq (off := 0) 1 d5 sz26 rfl (us := [(.slice Auv (us).length Cuv)]) rfl rfl rfl rfl fun cF aj bv => ?_
   have d6 := bv.size
   have E := E.step bv (lS om)
   replace aj : Blk cF am 26 [(.slice Auv (us).length Cuv)] := aj
   refine Zd (Zb (d3 _ _ ?_))
   refine Zp ?_
   have d7 := (s.ch ay (dS f k om)).ch bv (dS f k om)
   have bg : Ol Token.cs 42 4 cF (.slice Auv (us).length Cuv) (us) := by
    have hx := d7
    first | exact hx | simpa using hx
   have d8 := ad.ch bv (oS om)
   exact Zh [_] (Zn aj rfl agg26 sz26 trivial) ⟨us, (.slice Auv (us).length Cuv), rfl, bg, (Lo.down f om), (by first | omega | (simp only [List.length_drop, List.length_set, List.length_append, List.length_singleton]; omega)), d8, E⟩
  have bS := z
  have z := Yc z
  refine Zj rfl rfl (Zj rfl rfl (Zj rfl rfl (Zj rfl rfl (Za rfl rfl (Ya rfl rfl) (Zd (Zb (cw _ _ ?_)))))))
  refine Zat rfl ?_
  refine Xu (Yh (Yh (Xd ?_)))
  refine Zb (cu _ _ ?_)
  refine Zf fun eL d9 => ?_
  refine Zc (Za rfl rfl (Zg rfl) (Zl rfl rfl ?_))
  refine Step.call (Zm (xs := [.tmp 46, .const (Go.Value.int Go.IntKind.i64 2)]) fk31 rfl) (Zae Z _ om) fun bW eM aE => ?_
  obtain ⟨a6, rfl, ad, az⟩ := aE
  have eb := az.size
  have E := E.trans az
  refine Zd (Zb (d9 _ _ ?_))
  refine Zs rfl (fun B => ?_) (fun B => ?_)
  ·have bh := B
   refine Zc (Za rfl rfl (Zi fa26_0 rfl) ?_)
   have bi := p.ch az (nS om)
   refine Za rfl rfl (Zo bi.at_ agg24 rfl rfl) (Za rfl rfl (Zz (parts := [(0, .const (Go.Value.int Go.IntKind.i64 6))]) (cells := [(.int .i64 6), (.int .i64 0), (.int .i64 0), (.int .i64 0)]) zr42 pl42 rfl rfl) (Zl rfl rfl ?_))
   refine Yg (cs := Token.cs) (parts := [(0, .tmp 50)]) (⟨0, 0, 0, 0⟩ : Token) [(⟨6, 0, 0, 0⟩ : Token)] el24 sz42 zr42 Token.len (by decide) rfl rfl rfl (by decide) (by decide) rfl fun bY ec ae a7 P => ?_
   have cG := P.size
   have E := E.trans P.of_nil
   obtain ⟨a8, a9, rfl, ba, aF⟩ := ae.opn
   refine Zl rfl rfl ?_
   have b0 := (s.ch az (dS f k om)).ch0 P
   refine Yt (cs := Token.cs) el24 sz42 by42 zr42 rfl (by decide) Token.one b0 ae.ls rfl rfl bd bd f om fun bZ ed af ag t ak => ?_
   have cH := ak.size
   have E := E.step ak (fun i hi => .inl (by have x := f _ hi; omega))
   obtain ⟨m, n, rfl, bc, aG⟩ := af.opn
   refine Za rfl rfl (Zi fa26_0 rfl) (Zl rfl rfl ?_)
   have b1 := (bi.ch0 P).ch ak (fun hm => by exact o (by first | exact hm | exact q ▸ hm))
   refine Ys (off := 0) b1 sz24 rfl rfl rfl rfl fun b2 C al => ?_
   have cI := al.size
   have E := E.step al (lS om)
   replace C : Blk b2 an 26 [(.slice m ((us ++ [(⟨6, 0, 0, 0⟩ : Token)])).length n)] := C
   refine Zd (Yd (Zb (H9 _ _ ?_)))
   refine Zf fun ee b3 => ?_
   refine Zc (Za rfl rfl (Zr C.at_ agg26 sz26 rfl) (Zl rfl rfl ?_))
   have b4 := (((r.ch az (nS om)).ch0 P).ch ak (fun hm => by have x := f _ hm; have I := k _ hm; omega)).ch al (nS om)
   refine Zq (off := 0) 1 b4 sz26 rfl (us := [(.slice m ((us ++ [(⟨6, 0, 0, 0⟩ : Token)])).length n)]) rfl rfl rfl rfl fun bj D ao => ?_
   have cJ := ao.size
   have E := E.step ao (lS om)
   replace D : Blk bj am 26 [(.slice m ((us ++ [(⟨6, 0, 0, 0⟩ : Token)])).length n)] := D
   refine Zd (Zb (b3 _ _ ?_))
   refine Zp ?_
   have b5 := (af.ch al (fun g hg hm => by have q := List.mem_singleton.1 hm; rcases t with ea | ea; (rw [ea] at hg; exact o (by first | exact hg | exact q ▸ hg)); (rw [ea] at hg; have a5 := List.mem_singleton.1 hg; omega))).ch ao (fun g hg hm => by have q := List.mem_singleton.1 hm; rcases t with ea | ea; (rw [ea] at hg; have I := f _ hg; have bA := k _ hg; omega); (rw [ea] at hg; have a5 := List.mem_singleton.1 hg; omega))
   have aH : Ol Token.cs 42 4 bj (.slice m ((us ++ [(⟨6, 0, 0, 0⟩ : Token)])).length n) ((us ++ [(⟨6, 0, 0, 0⟩ : Token)])) := by
    have hx := b5
    first | exact hx | simpa using hx
   have b6 := (((ad.ch0 P).ch ak (fun i hm => by have x := f _ hm; have I := k _ hm; omega)).ch al (oS om)).ch ao (oS om)
   exact Zh [_] (Zn D rfl agg26 sz26 trivial) ⟨(us ++ [(⟨6, 0, 0, 0⟩ : Token)]), (.slice m ((us ++ [(⟨6, 0, 0, 0⟩ : Token)])).length n), rfl, aH, (Lo.down ag om), (by first | omega | (simp only [List.length_drop, List.length_set, List.length_append, List.length_singleton]; omega)), b6, E⟩
  have bh := B
  refine Zu ?_
  refine Yd (Zb (H9 _ _ ?_))
  refine Zf fun ef b7 => ?_
  refine Zc ?_
  have b8 := p.ch az (nS om)
  refine Za rfl rfl (Zr b8.at_ agg26 sz26 rfl) (Zl rfl rfl ?_)
  have b9 := r.ch az (nS om)
  refine Zq (off := 0) 1 b9 sz26 rfl (us := [(.slice Auv (us).length Cuv)]) rfl rfl rfl rfl fun bk F ap => ?_
  have cK := ap.size
  have E := E.step ap (lS om)
  replace F : Blk bk am 26 [(.slice Auv (us).length Cuv)] := F
  refine Zd (Zb (b7 _ _ ?_))
  refine Zp ?_
  have ca := (s.ch az (dS f k om)).ch ap (dS f k om)
  have aI : Ol Token.cs 42 4 bk (.slice Auv (us).length Cuv) (us) := by
   have hx := ca
   first | exact hx | simpa using hx
  have cb := ad.ch ap (oS om)
  exact Zh [_] (Zn F rfl agg26 sz26 trivial) ⟨us, (.slice Auv (us).length Cuv), rfl, aI, (Lo.down f om), (by first | omega | (simp only [List.length_drop, List.length_set, List.length_append, List.length_singleton]; omega)), cb, E⟩
 have bP := y
 have y := Yc y
 refine Zu ?_
 refine Yd (Zb (H9 _ _ ?_))
 refine Zf fun eg cc => ?_
 refine Zc ?_
 have cd := O.ch H (nS om)
 refine Za rfl rfl (Zr cd.at_ agg26 sz26 rfl) (Zl rfl rfl ?_)
 have ce := (((aA.ch C5 (nS om)).ch0 C6).ch C7 (nS om)).ch H (nS om)
 refine Zq (off := 0) 1 ce sz26 rfl (us := [(.slice c (h).length e)]) rfl rfl rfl rfl fun bm G aq => ?_
 have cL := aq.size
 have E := E.step aq (lS om)
 replace G : Blk bm am 26 [(.slice c (h).length e)] := G
 refine Zd (Zb (cc _ _ ?_))
 refine Zp ?_
 have cf := (((l.ch0 C6).ch C7 (dS a b om)).ch H (dS a b om)).ch aq (dS a b om)
 have aJ : Ol Token.cs 42 4 bm (.slice c (h).length e) (h) := by
  have hx := cf
  first | exact hx | simpa using hx
 have cg := bq.ch aq (oS om)
 exact Zh [_] (Zn G rfl agg26 sz26 trivial) ⟨h, (.slice c (h).length e), rfl, aJ, (Lo.down a om), (by first | omega | (simp only [List.length_drop, List.length_set, List.length_append, List.length_singleton]; omega)), cg, E⟩

/-- spec.DrawSplitExpr -/
theorem Zby {w : World} {LL_code k : Nat} {f : Value} {code : List Int} (a : Ls ucs 1 w LL_code k f code) (hb : code.length ≤ 4194304) :
 Ctr Tryz.prog 5 #[f] w (fun v w' => ∃ (t : List Token) (i : Value), v = .agg #[i] ∧ Ol Token.cs 42 4 w' i (t) ∧ Lo w.heap.size i ∧ (t.length ≤ 26) ∧ Ch [] w w') := by
 obtain ⟨l, m, j⟩ := a.val
 subst j
 have p := a.len
 have a := a.here (by decide)
 have E := Ch.refl [] w
 refine Zv (N := 6) (vs0 := [(.slice l code.length m)]) Tryz.func5 rfl rfl rfl ?_
 refine Zf fun K1 H1 => ?_
 refine Zc (Zl rfl rfl ?_)
 refine Yl zr26 fun u W2 q C2 C => ?_
 have D := C2.size
 have E := E.trans C2
 have F := q.lt
 replace q : Blk W2 u 26 [(.slice none 0 0)] := q
 refine Zd (Zb (H1 _ _ ?_))
 refine Zf fun K3 H3 => ?_
 refine Zc (Za rfl rfl (Zg rfl) (Zl rfl rfl ?_))
 have F4 := a.ch0 C2
 refine Step.call (Zm (xs := [.tmp 3]) fk17 rfl) (Zgw F4 om) fun G W5 z => ?_
 obtain ⟨H, rfl, x, I, C5⟩ := z
 have J := C5.size
 have E := E.trans C5
 have K := x.lt
 refine Zl rfl rfl ?_
 refine Step.call (Zm (xs := [.tmp 4]) fk16 rfl) (Zgx x ) fun L W6 A => ?_
 obtain ⟨g, s, rfl, e, d, y, M, C6⟩ := A
 have O := C6.size
 have E := E.step C6 (lS om)
 obtain ⟨b, c, rfl, r, h⟩ := e.opn
 refine Zl rfl rfl ?_
 have F7 := (q.ch0 C5).ch C6 (nS om)
 refine Zq (off := 0) 1 F7 sz26 rfl (us := [(.slice b (g).length c)]) rfl rfl rfl rfl fun W8 n C8 => ?_
 have P := C8.size
 have E := E.step C8 (lS om)
 replace n : Blk W8 u 26 [(.slice b (g).length c)] := n
 refine Zd (Zb (H3 _ _ ?_))
 refine Zp ?_
 have B := e.ch C8 (dS d h om)
 have o : Ol Token.cs 42 4 W8 (.slice b (g).length c) (g) := by
  have hx := B
  first | exact hx | simpa using hx
 exact Zh [_] (Zn n rfl agg26 sz26 trivial) ⟨g, (.slice b (g).length c), rfl, o, (Lo.down d om), om, E⟩

/-- spec.l8Start -/
theorem Zev {w : World} {LL_l m : Nat} {d : Value} {l : List Token} (a : Ls Token.cs 4 w LL_l m d l) (p : List Token) (t : Tr) (hok : Okd t) (hl : l = p ++ t.flat) :
 Ctr Tryz.prog 22 #[d] w (fun v w' => v = .int .i64 (((p.length : Nat) : Int)) ∧ Ch [] w w') := by
 obtain ⟨e, f, g⟩ := a.val
 subst g
 have A := a.len
 have a := a.here (by decide)
 have E := Ch.refl [] w
 refine Zv (N := 20) (vs0 := [(.slice e l.length f)]) Tryz.func22 rfl rfl rfl ?_
 refine Zf fun K1 H1 => ?_
 refine Zc (Za rfl rfl (Ze rfl) (Zd (Zb (H1 _ _ ?_))))
 refine Zf fun K2 H2 => ?_
 refine Zc (Za rfl rfl (Ze rfl) (Zd (Zb (H2 _ _ ?_))))
 refine Zf fun K3 H3 => ?_
 refine Zc (Za rfl rfl (Zg rfl) (Za rfl rfl (Xk (by rw [el24]; rfl) rfl) (Za rfl rfl (Ze rfl) (Zd (Zb (H3 _ _ ?_))))))
 refine Zf fun K4 H4 => ?_
 refine Yj ?_
 refine Qf (σ := Int × Int × List Tr) (fun ⟨n, k, ts⟩ => [(0, (.slice e l.length f)), (2, (.int .i64 0)), (3, (.int .i64 n)), (4, (.int .i64 k))]) (fun ⟨n, k, ts⟩ wx => Ch [] w wx ∧ w.heap.size ≤ wx.heap.size ∧ (0 ≤ k) ∧ (k ≤ l.length) ∧ (n = ts.length) ∧ (l.take k.toNat = p ++ Yv ts) ∧ (∀ x ∈ ts, Okd x)) (fun ⟨n, k, ts⟩ => k.toNat) (1, (l.length : Int), [t]) (sC4 rfl rfl rfl rfl (Sub.nil _)) ⟨E, (Nat.le_refl _), om, om, rfl, (by rw [show ((l.length : Int)).toNat = l.length from by omega, List.take_length, hl]; simp [Yv]), (fun x hx => by rw [List.mem_singleton.1 hx]; exact hok)⟩ ?_
 rintro ⟨n, k, ts⟩ R5 ⟨E, B, o, s, hn, hp, ho⟩
 have h := E
 have u := h.size
 have s1 := Zei hp o
 refine Zf fun K6 H6 => ?_
 refine Zf fun K7 H7 => ?_
 refine Zc (Za rfl rfl (Zg rfl) (Za rfl rfl (Zfx rfl rfl) (Zd (Zb (H7 _ _ ?_)))))
 refine Zs rfl (fun b => ?_) (fun b => ?_)
 ·have C := b
  have b := Yb b
  refine Zu ?_
  refine Zb (H6 _ _ ?_)
  refine Yj ?_
  refine Zf fun K9 H9 => ?_
  refine Zc (Za rfl rfl (Zg rfl) (Za rfl rfl (Qg om rfl rfl) (Za rfl rfl (Ze rfl) (Zd (Zb (H9 _ _ (Zc (Za rfl rfl (Zg rfl) ?_))))))))
  refine Za rfl rfl (Qg om rfl rfl) (Za rfl rfl (Zg rfl) (Za rfl rfl (Zg rfl) (Zl rfl rfl ?_)))
  have D := a.ch0 h
  refine (Xc (j := (k - 1).toNat) D Token.len el24 sz42 rfl rfl om om fun F c i q => ?_)
  refine Za rfl rfl (Zr q agg42 sz42 rfl) (Zl rfl rfl ?_)
  refine Step.call (Zm (xs := [.tmp 16]) fk20 rfl) (Zau c ) fun G L r => ?_
  obtain ⟨rfl, y⟩ := r
  have H := y.size
  have E := E.trans y
  have I := Qk c
  obtain ⟨s2, z, M, J⟩ := Zib hp ho om o s i
  have s3 := Zei z om
  refine Za rfl rfl (Yy om rfl rfl) (Za rfl rfl (Ze rfl) (Zd (Yd ?_)))
  exact Zb (Exists.intro (((n - 1) + arT c), (k - 1), s2) ⟨⟨E, om, om, om, om, z, J⟩, sC4 rfl rfl rfl rfl (Sub.nil _), (by first | omega | (dsimp only; omega))⟩)
 have C := b
 have b := Yc b
 refine Xu (Yh (Yh (Xd ?_)))
 refine Zb (H4 _ _ ?_)
 refine Zf fun O K => ?_
 refine Zc (Za rfl rfl (Zg rfl) (Za rfl rfl (Ze rfl) (Zd (Zb (K _ _ ?_)))))
 refine Zp ?_
 exact Zh [_] ⟨rfl, trivial⟩ ⟨congrArg (Value.int .i64) (Zkb hp hn om o s), E⟩

/-- spec.SplitExpr -/
theorem Zdt {w : World} {LL_e aK : Nat} {ah : Value} {e : List Token} (x : Ls Token.cs 4 w LL_e aK ah e) (hb : e.length ≤ 1048576) :
 Ctr Tryz.prog 7 #[(.agg #[ah])] w (fun v w' => ∃ (L : Value) (M : Value), v = .tuple #[.agg #[L], .agg #[M]] ∧ Ol Token.cs 42 4 w' L ((Xt e).1) ∧ Lo w.heap.size L ∧ Ol Token.cs 42 4 w' M ((Xt e).2) ∧ Lo w.heap.size M ∧ (∀ g ∈ bl L, g ∉ bl M) ∧ Ch [] w w') := by
 obtain ⟨ai, aj, ak⟩ := x.val
 subst ak
 have bi := x.len
 have x := x.here (by decide)
 have E := Ch.refl [] w
 refine Zv (N := 49) (vs0 := [(.agg #[(.slice ai e.length aj)])]) Tryz.func7 rfl rfl rfl ?_
 refine Zf fun K1 H1 => ?_
 refine Zc (Zl rfl rfl ?_)
 refine Qm rfl fun bj W2 aB C2 cF => ?_
 have cG := C2.size
 have E := E.trans C2
 have cH := aB.lt
 replace aB : Blk W2 bj 26 [(.slice ai e.length aj)] := aB
 refine Zl rfl rfl ?_
 refine Yl zr26 fun J W3 U C3 cI => ?_
 have cJ := C3.size
 have E := E.trans C3
 have cK := U.lt
 replace U : Blk W3 J 26 [(.slice none 0 0)] := U
 refine Zl rfl rfl ?_
 refine Yl zr26 fun K W4 V C4 cL => ?_
 have cM := C4.size
 have E := E.trans C4
 have cN := V.lt
 replace V : Blk W4 K 26 [(.slice none 0 0)] := V
 refine Zd (Zb (H1 _ _ ?_))
 refine Zf fun K5 H5 => ?_
 refine Zf fun K6 H6 => ?_
 refine Zc ?_
 have F7 := (aB.ch0 C3).ch0 C4
 refine Za rfl rfl (Zr F7.at_ agg26 sz26 rfl) (Zl rfl rfl ?_)
 have F8 := ((x.ch0 C2).ch0 C3).ch0 C4
 refine Step.call (Zm (xs := [.tmp 6]) fk10 rfl) (Zag F8 ) fun cO W9 bk => ?_
 obtain ⟨rfl, C9⟩ := bk
 have cP := C9.size
 have E := E.trans C9
 refine Za rfl rfl (Zav rfl) (Zd (Zb (H6 _ _ ?_)))
 refine Zs rfl (fun a => ?_) (fun a => ?_)
 ·have aL := a
  have a := Xv a
  refine Zf fun cQ bm => ?_
  refine Zc (Za rfl rfl (Zz (parts := []) (cells := [(.slice none 0 0)]) zr26 pl26 rfl rfl) (Za rfl rfl (Zz (parts := []) (cells := [(.slice none 0 0)]) zr26 pl26 rfl rfl) (Zl rfl rfl ?_)))
  have bn := (U.ch0 C4).ch0 C9
  refine Zq (off := 0) 1 bn sz26 rfl (us := [(.slice none 0 0)]) rfl rfl rfl rfl fun bp y aM => ?_
  have bq := aM.size
  have E := E.step aM (lS om)
  replace y : Blk bp J 26 [(.slice none 0 0)] := y
  refine Zl rfl rfl ?_
  have br := (V.ch0 C9).ch aM (nS om)
  refine Zq (off := 0) 1 br sz26 rfl (us := [(.slice none 0 0)]) rfl rfl rfl rfl fun al z aN => ?_
  have bs := aN.size
  have E := E.step aN (lS om)
  replace z : Blk al K 26 [(.slice none 0 0)] := z
  refine Zd (Zb (bm _ _ ?_))
  refine Zp (Zk ?_)
  have bu := y.ch aN (nS om)
  have am : Ol Token.cs 42 4 al (.slice none 0 0) ((Xt e).1) := by
   have hx := Ol.nil (cs := Token.cs) (e := 42) (k := 4) al
   first | (rw [Qh (Zfw a)]; exact hx) | (rw [Yq b, spl0 om]; exact hx) | (rw [Yq b]; first | exact (show Ol _ _ _ _ _ ta.flat from hx.eq (Zga hla om)) | exact (show Ol _ _ _ _ _ ta.flat from hx.eq (Zgb hla om)) | exact (show Ol _ _ _ _ _ tb.flat from hx.eq (Zfu hla om om)) | exact hx)
  have an : Ol Token.cs 42 4 al (.slice none 0 0) ((Xt e).2) := by
   have hx := Ol.nil (cs := Token.cs) (e := 42) (k := 4) al
   first | (rw [Qh (Zfw a)]; exact hx) | (rw [Yq b, spl0 om]; exact hx) | (rw [Yq b]; first | exact (show Ol _ _ _ _ _ ta.flat from hx.eq (Zga hla om)) | exact (show Ol _ _ _ _ _ ta.flat from hx.eq (Zgb hla om)) | exact (show Ol _ _ _ _ _ tb.flat from hx.eq (Zfu hla om om)) | exact hx)
  exact Zh [_, _] (Zn bu rfl agg26 sz26 (Zn z rfl agg26 sz26 trivial)) ⟨(.slice none 0 0), (.slice none 0 0), rfl, am, (Lo.nil _), an, (Lo.nil _), (fun g hm hg => by cases hm), E⟩
 have aL := a
 have a := Xw a
 obtain ⟨t, b, hok, hl⟩ := Zmt a
 have bv := t.flat_pos
 rw [← hl] at bv
 refine Zu ?_
 refine Zb (H5 _ _ ?_)
 refine Zf fun cR bw => ?_
 refine Zc (Za rfl rfl (Zi fa26_0 rfl) ?_)
 have aC := F7.ch0 C9
 refine Za rfl rfl (Zo aC.at_ agg24 rfl rfl) (Za rfl rfl (Xk (by rw [el24]; rfl) rfl) (Za rfl rfl (Qg om rfl rfl) (Za rfl rfl (Ze rfl) (Zd (Zb (bw _ _ ?_))))))
 refine Zf fun cS bx => ?_
 refine Zf fun cT bz => ?_
 refine Zc (Za rfl rfl (Zi fa26_0 rfl) (Za rfl rfl (Zo aC.at_ agg24 rfl rfl) (Za rfl rfl (Zg rfl) (Zl rfl rfl ?_))))
 have aO := F8.ch0 C9
 refine (Xc (j := (((e.length : Nat) : Int) - 1).toNat) aO Token.len el24 sz42 rfl rfl om om fun bA ao ap aP => ?_)
 have bB := Zli hl om ap
 have k2 := t.kids_le
 refine Za rfl rfl (Zr aP agg42 sz42 rfl) (Zl rfl rfl ?_)
 refine Step.call (Zm (xs := [.tmp 19]) fk20 rfl) (Zau ao ) fun bC cU aQ => ?_
 obtain ⟨rfl, u⟩ := aQ
 have bD := u.size
 have E := E.trans u
 have bE : arT ao = t.kids.length := by rw [bB]; exact hok.ar
 refine Zd (Zb (bz _ _ ?_))
 refine Yj ?_
 refine Zf fun cV bF => ?_
 refine Zc (Za rfl rfl (Yn rfl rfl) (Za rfl rfl (Ze rfl) (Zd (Zb (bF _ _ ?_)))))
 refine Zs rfl (fun c => ?_) (fun c => ?_)
 ·have aR := c
  have c := Yb c
  obtain ⟨kt, ta, et⟩ := Tr.k1 (t := t) om
  subst et
  have hla : e = ta.flat ++ [kt] := hl
  have bG := Zoo hla
  refine Zf fun cW bH => ?_
  refine Zc (Za rfl rfl (Zi fa26_0 rfl) ?_)
  have bI := aC.ch0 u
  refine Za rfl rfl (Zo bI.at_ agg24 rfl rfl) (Za rfl rfl (Zg rfl) (Zl rfl rfl ?_))
  have bJ := aO.ch0 u
  refine (Zor (ys := (e.take ((((e.length : Nat) : Int) - 1).toNat))) 0 ((((e.length : Nat) : Int) - 1).toNat) bJ Token.len el24 sz42 rfl rfl ⟨_, _, rfl, by omega⟩ om om rfl fun bK X a1 a2 => ?_)
  obtain ⟨bL, bM, aS⟩ := X.val
  subst aS
  have bN := X.len
  refine Zl rfl rfl ?_
  refine Step.call (Zm (xs := [.tmp 26]) fk21 rfl) (Zaf X (by simp only [List.length_take]; omega)) fun bO cX O => ?_
  obtain ⟨bP, rfl, O, A, aD⟩ := O
  have bQ := aD.size
  have E := E.trans aD
  obtain ⟨l, m, rfl, a3, B⟩ := O.opn
  refine Za rfl rfl (Zz (parts := []) (cells := [(.slice none 0 0)]) zr26 pl26 rfl rfl) (Zl rfl rfl ?_)
  have bR := (((U.ch0 C4).ch0 C9).ch0 u).ch0 aD
  refine Zq (off := 0) 1 bR sz26 rfl (us := [(.slice l ((e.take ((((e.length : Nat) : Int) - 1).toNat))).length m)]) rfl rfl rfl rfl fun bS C aE => ?_
  have bT := aE.size
  have E := E.step aE (lS om)
  replace C : Blk bS J 26 [(.slice l ((e.take ((((e.length : Nat) : Int) - 1).toNat))).length m)] := C
  refine Zl rfl rfl ?_
  have bU := (((V.ch0 C9).ch0 u).ch0 aD).ch aE (nS om)
  refine Zq (off := 0) 1 bU sz26 rfl (us := [(.slice none 0 0)]) rfl rfl rfl rfl fun aF D aG => ?_
  have bV := aG.size
  have E := E.step aG (lS om)
  replace D : Blk aF K 26 [(.slice none 0 0)] := D
  refine Zd (Zb (bH _ _ ?_))
  refine Zp (Zt (Zk ?_))
  have bW := C.ch aG (nS om)
  have bX := (O.ch aE (dS A B om)).ch aG (dS A B om)
  have aq : Ol Token.cs 42 4 aF (.slice l ((e.take ((((e.length : Nat) : Int) - 1).toNat))).length m) ((Xt e).1) := by
   have hx := bX
   first | (rw [Qh (Zfw a)]; exact hx) | (rw [Yq b, spl0 om]; exact hx) | (rw [Yq b]; first | exact (show Ol _ _ _ _ _ ta.flat from hx.eq (Zga hla om)) | exact (show Ol _ _ _ _ _ ta.flat from hx.eq (Zgb hla om)) | exact (show Ol _ _ _ _ _ tb.flat from hx.eq (Zfu hla om om)) | exact hx)
  have au : Ol Token.cs 42 4 aF (.slice none 0 0) ((Xt e).2) := by
   have hx := Ol.nil (cs := Token.cs) (e := 42) (k := 4) aF
   first | (rw [Qh (Zfw a)]; exact hx) | (rw [Yq b, spl0 om]; exact hx) | (rw [Yq b]; first | exact (show Ol _ _ _ _ _ ta.flat from hx.eq (Zga hla om)) | exact (show Ol _ _ _ _ _ ta.flat from hx.eq (Zgb hla om)) | exact (show Ol _ _ _ _ _ tb.flat from hx.eq (Zfu hla om om)) | exact hx)
  exact Zh [_, _] (Zn bW rfl agg26 sz26 (Zn D rfl agg26 sz26 trivial)) ⟨(.slice l ((e.take ((((e.length : Nat) : Int) - 1).toNat))).length m), (.slice none 0 0), rfl, aq, (Lo.down A om), au, (Lo.nil _), (fun g hm hg => by cases hg), E⟩
 have aR := c
 have c := Yc c
 refine Zf fun cY bY => ?_
 refine Zc (Za rfl rfl (Yn rfl rfl) (Za rfl rfl (Ze rfl) (Zd (Zb (bY _ _ ?_)))))
 refine Zs rfl (fun d => ?_) (fun d => ?_)
 ·have aT := d
  have d := Yb d
  obtain ⟨kt, ta, tb, et⟩ := Tr.k2 (t := t) om
  subst et
  have hla : e = ta.flat ++ tb.flat ++ [kt] := hl
  have bG := Zow hla
  refine Zf fun cZ bZ => ?_
  refine Zc (Za rfl rfl (Zi fa26_0 rfl) ?_)
  have a4 := aC.ch0 u
  refine Za rfl rfl (Zo a4.at_ agg24 rfl rfl) (Za rfl rfl (Zg rfl) (Zl rfl rfl ?_))
  have a5 := aO.ch0 u
  refine (Zor (ys := (e.take ((((e.length : Nat) : Int) - 1).toNat))) 0 ((((e.length : Nat) : Int) - 1).toNat) a5 Token.len el24 sz42 rfl rfl ⟨_, _, rfl, by omega⟩ om om rfl fun b0 Y a6 a7 => ?_)
  obtain ⟨b1, b2, aU⟩ := Y.val
  subst aU
  have b3 := Y.len
  refine Zl rfl rfl ?_
  refine Step.call (Zm (xs := [.tmp 34]) fk22 rfl) (Zev Y ta.flat tb hok.2.2 (Zpj hla om)) fun b4 c0 aV => ?_
  obtain ⟨rfl, ab⟩ := aV
  have b5 := ab.size
  have E := E.trans ab
  refine Za rfl rfl (Ze rfl) (Zd (Zb (bZ _ _ ?_)))
  refine Zf fun c1 b6 => ?_
  refine Xm ([J] ++ [K]) 13 mixed rfl fun aH ac => ?_
  have b7 := ac.size
  have E := E.trans ac
  refine dV 0 rfl rfl rfl (fun _ => Zi fa26_0 rfl) ?_
  have a8 := (a4.ch0 ab).ch0 ac
  refine dT 1 rfl rfl rfl (Xl a8.at_ (fun i hm => by rcases List.mem_append.1 hm with hm | hm; (have aI := List.mem_singleton.1 hm; omega); (have aI := List.mem_singleton.1 hm; omega)) agg24 rfl rfl ?_)
  refine dV 2 rfl rfl rfl (fun _ => Zg rfl) ?_
  have a9 := (a5.ch0 ab).ch0 ac
  refine dT 3 rfl rfl rfl (Zot (ys := (e.take ta.flat.length)) 0 ta.flat.length a9 Token.len el24 sz42 rfl rfl ⟨_, _, rfl, by omega⟩ om om rfl fun b8 Z ba bb => ?_)
  obtain ⟨b9, ca, aW⟩ := Z.val
  subst aW
  have cb := Z.len
  refine dV 5 rfl rfl rfl (fun _ => Zi fa26_0 rfl) ?_
  refine dT 6 rfl rfl rfl (Xl a8.at_ (fun i hm => by rcases List.mem_append.1 hm with hm | hm; (have aI := List.mem_singleton.1 hm; omega); (have aI := List.mem_singleton.1 hm; omega)) agg24 rfl rfl ?_)
  refine dV 7 rfl rfl rfl (fun _ => Zg rfl) (dV 8 rfl rfl rfl (fun _ => Zg rfl) ?_)
  refine dT 9 rfl rfl rfl (Zot (ys := ((e.drop ta.flat.length).take ((((e.length : Nat) : Int) - 1).toNat - ta.flat.length))) ta.flat.length ((((e.length : Nat) : Int) - 1).toNat) a9 Token.len el24 sz42 rfl ⟨_, _, rfl, by omega⟩ ⟨_, _, rfl, by omega⟩ om om rfl fun cc aa bc be => ?_)
  obtain ⟨cd, ce, aX⟩ := aa.val
  subst aX
  have cf := aa.len
  refine dO 4 (Yf rfl rfl rfl ?_)
  refine Step.call (Zm (xs := [.tmp 39]) fk21 rfl) (Zaf Z (by simp only [List.length_take]; omega)) fun cg ci P => ?_
  obtain ⟨cj, rfl, P, n, ad⟩ := P
  have ck := ad.size
  have E := E.trans ad
  obtain ⟨o, p, rfl, bf, f⟩ := P.opn
  have R : Ch ([J] ++ [K]) aH ci := ((Ch.refl _ _).trans ad.of_nil)
  refine ⟨R, ?_⟩
  refine dO 10 (Yf rfl rfl rfl ?_)
  have cl := aa.ch0 ad
  refine Step.call (Zm (xs := [.tmp 45]) fk21 rfl) (Zaf cl (by simp only [List.length_take, List.length_drop]; omega)) fun cm cn Q => ?_
  obtain ⟨co, rfl, Q, q, ae⟩ := Q
  have cp := ae.size
  have E := E.trans ae
  obtain ⟨r, s, rfl, bg, h⟩ := Q.opn
  have S : Ch ([J] ++ [K]) aH cn := (R.trans ae.of_nil)
  refine ⟨S, ?_⟩
  refine dO 11 (Yf rfl rfl rfl ?_)
  have cq := ((((((U.ch0 C4).ch0 C9).ch0 u).ch0 ab).ch0 ac).ch0 ad).ch0 ae
  refine Zq (off := 0) 1 cq sz26 rfl (us := [(.slice o ((e.take ta.flat.length)).length p)]) rfl rfl rfl rfl fun bh F af => ?_
  have cr := af.size
  have E := E.step af (lS om)
  replace F : Blk bh J 26 [(.slice o ((e.take ta.flat.length)).length p)] := F
  have T : Ch ([J] ++ [K]) aH bh := (S.step af (fun i hm => by have aY := List.mem_singleton.1 hm; exact .inr (by rw [aY]; exact (List.mem_append_left _ (List.mem_singleton.2 rfl)))))
  refine ⟨T, ?_⟩
  refine dO 12 (Yf rfl rfl rfl ?_)
  have ct := ((((((V.ch0 C9).ch0 u).ch0 ab).ch0 ac).ch0 ad).ch0 ae).ch af (nS om)
  refine Zq (off := 0) 1 ct sz26 rfl (us := [(.slice r (((e.drop ta.flat.length).take ((((e.length : Nat) : Int) - 1).toNat - ta.flat.length))).length s)]) rfl rfl rfl rfl fun aJ G ag => ?_
  have cu := ag.size
  have E := E.step ag (lS om)
  replace G : Blk aJ K 26 [(.slice r (((e.drop ta.flat.length).take ((((e.length : Nat) : Int) - 1).toNat - ta.flat.length))).length s)] := G
  have av : Ch ([J] ++ [K]) aH aJ := (T.step ag (fun i hm => by have aY := List.mem_singleton.1 hm; exact .inr (by rw [aY]; exact (List.mem_append_right _ (List.mem_singleton.2 rfl)))))
  refine ⟨av, ?_⟩
  refine Yo (by kernel_rfl) ?_
  refine Zb (b6 _ _ ?_)
  refine Zp (Zt (Zk ?_))
  have cv := F.ch ag (nS om)
  have cw := ((P.ch0 ae).ch af (dS n f om)).ch ag (dS n f om)
  have aw : Ol Token.cs 42 4 aJ (.slice o ((e.take ta.flat.length)).length p) ((Xt e).1) := by
   have hx := cw
   first | (rw [Qh (Zfw a)]; exact hx) | (rw [Yq b, spl0 om]; exact hx) | (rw [Yq b]; first | exact (show Ol _ _ _ _ _ ta.flat from hx.eq (Zga hla om)) | exact (show Ol _ _ _ _ _ ta.flat from hx.eq (Zgb hla om)) | exact (show Ol _ _ _ _ _ tb.flat from hx.eq (Zfu hla om om)) | exact hx)
  have cx := (Q.ch af (dS q h om)).ch ag (dS q h om)
  have ax : Ol Token.cs 42 4 aJ (.slice r (((e.drop ta.flat.length).take ((((e.length : Nat) : Int) - 1).toNat - ta.flat.length))).length s) ((Xt e).2) := by
   have hx := cx
   first | (rw [Qh (Zfw a)]; exact hx) | (rw [Yq b, spl0 om]; exact hx) | (rw [Yq b]; first | exact (show Ol _ _ _ _ _ ta.flat from hx.eq (Zga hla om)) | exact (show Ol _ _ _ _ _ ta.flat from hx.eq (Zgb hla om)) | exact (show Ol _ _ _ _ _ tb.flat from hx.eq (Zfu hla om om)) | exact hx)
  exact Zh [_, _] (Zn cv rfl agg26 sz26 (Zn G rfl agg26 sz26 trivial)) ⟨(.slice o ((e.take ta.flat.length)).length p), (.slice r (((e.drop ta.flat.length).take ((((e.length : Nat) : Int) - 1).toNat - ta.flat.length))).length s), rfl, aw, (Lo.down n om), ax, (Lo.down q om), (fun g hm hg => by have aI := n _ hm; have c2 := f _ hm; have c3 := q _ hg; have c4 := h _ hg; omega), E⟩
 have aT := d
 have d := Yc d
 refine Zu ?_
 refine Yd (Zb (bx _ _ ?_))
 refine Zf fun c5 cy => ?_
 refine Zc (Za rfl rfl (Zz (parts := []) (cells := [(.slice none 0 0)]) zr26 pl26 rfl rfl) (Za rfl rfl (Zz (parts := []) (cells := [(.slice none 0 0)]) zr26 pl26 rfl rfl) (Zl rfl rfl ?_)))
 have cz := ((U.ch0 C4).ch0 C9).ch0 u
 refine Zq (off := 0) 1 cz sz26 rfl (us := [(.slice none 0 0)]) rfl rfl rfl rfl fun cA H aZ => ?_
 have cB := aZ.size
 have E := E.step aZ (lS om)
 replace H : Blk cA J 26 [(.slice none 0 0)] := H
 refine Zl rfl rfl ?_
 have cC := ((V.ch0 C9).ch0 u).ch aZ (nS om)
 refine Zq (off := 0) 1 cC sz26 rfl (us := [(.slice none 0 0)]) rfl rfl rfl rfl fun ay I a0 => ?_
 have cD := a0.size
 have E := E.step a0 (lS om)
 replace I : Blk ay K 26 [(.slice none 0 0)] := I
 refine Zd (Zb (cy _ _ ?_))
 refine Zp ?_
 have cE := H.ch a0 (nS om)
 have az : Ol Token.cs 42 4 ay (.slice none 0 0) ((Xt e).1) := by
  have hx := Ol.nil (cs := Token.cs) (e := 42) (k := 4) ay
  first | (rw [Qh (Zfw a)]; exact hx) | (rw [Yq b, spl0 om]; exact hx) | (rw [Yq b]; first | exact (show Ol _ _ _ _ _ ta.flat from hx.eq (Zga hla om)) | exact (show Ol _ _ _ _ _ ta.flat from hx.eq (Zgb hla om)) | exact (show Ol _ _ _ _ _ tb.flat from hx.eq (Zfu hla om om)) | exact hx)
 have aA : Ol Token.cs 42 4 ay (.slice none 0 0) ((Xt e).2) := by
  have hx := Ol.nil (cs := Token.cs) (e := 42) (k := 4) ay
  first | (rw [Qh (Zfw a)]; exact hx) | (rw [Yq b, spl0 om]; exact hx) | (rw [Yq b]; first | exact (show Ol _ _ _ _ _ ta.flat from hx.eq (Zga hla om)) | exact (show Ol _ _ _ _ _ ta.flat from hx.eq (Zgb hla om)) | exact (show Ol _ _ _ _ _ tb.flat from hx.eq (Zfu hla om om)) | exact hx)
 exact Zh [_, _] (Zn cE rfl agg26 sz26 (Zn I rfl agg26 sz26 trivial)) ⟨(.slice none 0 0), (.slice none 0 0), rfl, az, (Lo.nil _), aA, (Lo.nil _), (fun g hm hg => by cases hm), E⟩

/-- laws.FnExpressions -/
theorem Zcb {w : World} {LL_code aZ : Nat} {aq : Value} {code : List Int} (u : Ls ucs 1 w LL_code aZ aq code) (hG : GS Tryz.prog 0 w) :
 Ctr Tryz.prog 3 #[aq] w (fun v w' => v = .bool (true) ∧ Ch [] w w') := by
 obtain ⟨a0, a1, aA⟩ := u.val
 subst aA
 have ce := u.len
 have u := u.here (by decide)
 have E := Ch.refl [] w
 refine Zv (N := 112) (vs0 := [(.slice a0 code.length a1)]) Tryz.func3 rfl rfl rfl ?_
 refine Zf fun K1 H1 => ?_
 refine Zc (Za rfl rfl (Ze rfl) (Zd (Zb (H1 _ _ ?_))))
 refine Zf fun K2 H2 => ?_
 refine Zf fun K3 H3 => ?_
 refine Zc (Za rfl rfl (Zg rfl) (Zl rfl rfl ?_))
 refine Step.call (Zm (xs := [.tmp 15]) fk4 rfl) (Zih u ) fun d2 W4 cx => ?_
 obtain ⟨rfl, C4⟩ := cx
 have fL := C4.size
 have E := E.trans C4
 refine Zd (Zb (H3 _ _ ?_))
 refine Zs rfl (fun ak => ?_) (fun ak => ?_)
 ·have d3 := ak
  have ak := Yb ak
  refine Zf fun K6 H6 => ?_
  refine Zc (Za rfl rfl (Ze rfl) (Zd (Zb (H6 _ _ ?_))))
  refine Zp (Zk ?_)
  exact Zh [_] ⟨rfl, trivial⟩ ⟨congrArg Value.bool (by first | rfl | exact absurd rfl M | exact absurd rfl n | exact absurd rfl o | exact absurd Zbi p | exact absurd Zbg a | exact absurd rfl a), E⟩
 have d3 := ak
 have ak := Yc ak
 refine Zu ?_
 refine Zb (H2 _ _ ?_)
 refine Zf fun K7 H7 => ?_
 refine Zc (Za rfl rfl (Zg rfl) (Zl rfl rfl ?_))
 have F8 := u.ch0 C4
 refine Step.call (Zm (xs := [.tmp 17]) fk5 rfl) (Zby F8 om) fun d4 W9 cy => ?_
 obtain ⟨f, cf, rfl, C, c, cz, C9⟩ := cy
 have fM := C9.size
 have E := E.trans C9
 obtain ⟨Q, R, rfl, bD, e⟩ := C.opn
 refine Zl rfl rfl ?_
 refine Yl zr26 fun cA d5 cg cB fN => ?_
 have d6 := cB.size
 have E := E.trans cB
 have fO := cg.lt
 replace cg : Blk d5 cA 26 [(.slice none 0 0)] := cg
 refine Zl rfl rfl ?_
 refine Zq (off := 0) 1 cg sz26 rfl (us := [(.slice Q (f).length R)]) rfl rfl rfl rfl fun d7 au cC => ?_
 have d8 := cC.size
 have E := E.step cC (lS om)
 replace au : Blk d7 cA 26 [(.slice Q (f).length R)] := au
 refine Zd (Zb (H7 _ _ ?_))
 refine Zf fun fP d9 => ?_
 refine Zc (Za rfl rfl (Zr au.at_ agg26 sz26 rfl) (Zl rfl rfl ?_))
 have dm := (C.ch0 cB).ch cC (dS c e om)
 refine Step.call (Zm (xs := [.tmp 20]) fk6 rfl) (Zdr dm.ls om) fun ea fQ cD => ?_
 obtain ⟨ci, cj, rfl, D, j, F, k, ai, ck⟩ := cD
 have eb := ck.size
 have E := E.trans ck
 obtain ⟨S, T, rfl, bE, l⟩ := D.opn
 obtain ⟨U, V, rfl, bF, m⟩ := F.opn
 have ec := Zlm f
 refine Za rfl rfl (Zg rfl) (Za rfl rfl (Yk rfl rfl) (Za rfl rfl (Yk rfl rfl) (Zl rfl rfl ?_)))
 refine Yl zr26 fun dn ed cl bA fR => ?_
 have ee := bA.size
 have E := E.trans bA
 have fS := cl.lt
 replace cl : Blk ed dn 26 [(.slice none 0 0)] := cl
 refine Zl rfl rfl ?_
 refine Yl zr26 fun dp ef cm bn fT => ?_
 have eg := bn.size
 have E := E.trans bn
 have fU := cm.lt
 replace cm : Blk ef dp 26 [(.slice none 0 0)] := cm
 refine Zl rfl rfl ?_
 have eh := cl.ch0 bn
 refine Zq (off := 0) 1 eh sz26 rfl (us := [(.slice S ((Xt f).1).length T)]) rfl rfl rfl rfl fun ei aB bp => ?_
 have ej := bp.size
 have E := E.step bp (lS om)
 replace aB : Blk ei dn 26 [(.slice S ((Xt f).1).length T)] := aB
 refine Zl rfl rfl ?_
 have ek := cm.ch bp (nS om)
 refine Zq (off := 0) 1 ek sz26 rfl (us := [(.slice U ((Xt f).2).length V)]) rfl rfl rfl rfl fun el aC bq => ?_
 have em := bq.size
 have E := E.step bq (lS om)
 replace aC : Blk el dp 26 [(.slice U ((Xt f).2).length V)] := aC
 refine Zd (Zb (d9 _ _ ?_))
 refine Zf fun fV en => ?_
 refine Zc ?_
 have dq := ((((au.ch0 ck).ch0 bA).ch0 bn).ch bp (nS om)).ch bq (nS om)
 refine Za rfl rfl (Zr dq.at_ agg26 sz26 rfl) (Zl rfl rfl ?_)
 have dr := ((((dm.ch0 ck).ch0 bA).ch0 bn).ch bp (dS c e om)).ch bq (dS c e om)
 refine Step.call (Zm (xs := [.tmp 25]) fk7 rfl) (Zdt dr.ls om) fun eo fW cE => ?_
 obtain ⟨cn, co, rfl, G, z, H, A, aj, bf⟩ := cE
 have ep := bf.size
 have E := E.trans bf
 obtain ⟨X, Y, rfl, bG, I⟩ := G.opn
 obtain ⟨Z, aa, rfl, bH, J⟩ := H.opn
 refine Za rfl rfl (Zg rfl) (Za rfl rfl (Yk rfl rfl) (Za rfl rfl (Yk rfl rfl) (Zl rfl rfl ?_)))
 refine Yl zr26 fun ds er cp aY fX => ?_
 have es := aY.size
 have E := E.trans aY
 have fY := cp.lt
 replace cp : Blk er ds 26 [(.slice none 0 0)] := cp
 refine Zl rfl rfl ?_
 refine Yl zr26 fun dt et cq aD fZ => ?_
 have eu := aD.size
 have E := E.trans aD
 have f0 := cq.lt
 replace cq : Blk et dt 26 [(.slice none 0 0)] := cq
 refine Zl rfl rfl ?_
 have ew := cp.ch0 aD
 refine Zq (off := 0) 1 ew sz26 rfl (us := [(.slice X ((Xt f).1).length Y)]) rfl rfl rfl rfl fun ex aE aF => ?_
 have ey := aF.size
 have E := E.step aF (lS om)
 replace aE : Blk ex ds 26 [(.slice X ((Xt f).1).length Y)] := aE
 refine Zl rfl rfl ?_
 have ez := cq.ch aF (nS om)
 refine Zq (off := 0) 1 ez sz26 rfl (us := [(.slice Z ((Xt f).2).length aa)]) rfl rfl rfl rfl fun eA aG aH => ?_
 have eB := aH.size
 have E := E.step aH (lS om)
 replace aG : Blk eA dt 26 [(.slice Z ((Xt f).2).length aa)] := aG
 refine Zd (Zb (en _ _ ?_))
 refine Zf fun f1 eC => ?_
 refine Zf fun f2 du => ?_
 refine Xm [] 24 mixed rfl fun bB az => ?_
 have eD := az.size
 have E := E.trans az
 have dv := ((((((aB.ch bq (nS om)).ch0 bf).ch0 aY).ch0 aD).ch aF (nS om)).ch aH (nS om)).ch0 az
 refine dT 0 rfl rfl rfl (Xj dv.at_ (fun i hi => absurd hi List.not_mem_nil) agg26 sz26 rfl ?_)
 have eE := (aE.ch aH (nS om)).ch0 az
 refine dT 1 rfl rfl rfl (Xj eE.at_ (fun i hi => absurd hi List.not_mem_nil) agg26 sz26 rfl ?_)
 refine dO 2 (Yf rfl rfl rfl ?_)
 have dw := (((((((((D.ch0 bA).ch0 bn).ch bp (dS j l om)).ch bq (dS j l om)).ch0 bf).ch0 aY).ch0 aD).ch aF (dS j l om)).ch aH (dS j l om)).ch0 az
 have eF := ((((G.ch0 aY).ch0 aD).ch aF (dS z I om)).ch aH (dS z I om)).ch0 az
 refine Step.call (Zm (xs := [.tmp 29, .tmp 30]) fk8 rfl) (Xq dw.ls eF.ls ) fun cF eG a2 => ?_
 replace a2 : cF = .bool (true) ∧ _ := ⟨a2.1.trans (congrArg Value.bool (decide_eq_true rfl)), a2.2⟩
 obtain ⟨rfl, aI⟩ := a2
 have eH := aI.size
 have E := E.trans aI
 have bg : Ch [] bB eG := ((Ch.refl _ _).trans aI)
 refine ⟨bg, ?_⟩
 refine dV 3 rfl rfl rfl (fun _ => Zav rfl) (dV 4 rfl rfl rfl (fun _ => Zg rfl) ?_)
 have cG := (((((aC.ch0 bf).ch0 aY).ch0 aD).ch aF (nS om)).ch aH (nS om)).ch0 az
 refine dT 5 rfl rfl rfl (Xj cG.at_ (fun i hi => absurd hi List.not_mem_nil) agg26 sz26 rfl ?_)
 have eI := aG.ch0 az
 refine dT 6 rfl rfl rfl (Xj eI.at_ (fun i hi => absurd hi List.not_mem_nil) agg26 sz26 rfl ?_)
 refine dO 7 (Yf rfl rfl rfl ?_)
 have cH := ((((((((((F.ch0 bA).ch0 bn).ch bp (dS k m om)).ch bq (dS k m om)).ch0 bf).ch0 aY).ch0 aD).ch aF (dS k m om)).ch aH (dS k m om)).ch0 az).ch0 aI
 have eJ := (((((H.ch0 aY).ch0 aD).ch aF (dS A J om)).ch aH (dS A J om)).ch0 az).ch0 aI
 refine Step.call (Zm (xs := [.tmp 34, .tmp 35]) fk8 rfl) (Xq cH.ls eJ.ls ) fun cI eK a3 => ?_
 replace a3 : cI = .bool (true) ∧ _ := ⟨a3.1.trans (congrArg Value.bool (decide_eq_true rfl)), a3.2⟩
 obtain ⟨rfl, aJ⟩ := a3
 have eL := aJ.size
 have E := E.trans aJ
 have bh : Ch [] bB eK := (bg.trans aJ)
 refine ⟨bh, ?_⟩
 refine dV 8 rfl rfl rfl (fun _ => Zav rfl) (dV 9 rfl rfl rfl (fun _ => Ya rfl rfl) (dV 10 rfl rfl rfl (fun _ => Zg rfl) ?_))
 have bI := (((((dq.ch0 bf).ch0 aY).ch0 aD).ch aF (nS om)).ch aH (nS om)).ch0 az
 refine dT 11 rfl rfl rfl (Xj bI.at_ (fun i hi => absurd hi List.not_mem_nil) agg26 sz26 rfl ?_)
 refine dT 13 rfl rfl rfl (Xj bI.at_ (fun i hi => absurd hi List.not_mem_nil) agg26 sz26 rfl ?_)
 refine dO 12 (Yf rfl rfl rfl ?_)
 have dx := (((((((dr.ch0 bf).ch0 aY).ch0 aD).ch aF (dS c e om)).ch aH (dS c e om)).ch0 az).ch0 aI).ch0 aJ
 refine Step.call (Zm (xs := [.tmp 40]) fk9 rfl) (Qu dx.ls om) fun eM eN cJ => ?_
 obtain ⟨rfl, aK⟩ := cJ
 have eO := aK.size
 have E := E.trans aK
 have bi : Ch [] bB eN := (bh.trans aK)
 refine ⟨bi, ?_⟩
 refine dO 14 (Yf rfl rfl rfl ?_)
 have dy := dx.ch0 aK
 refine Step.call (Zm (xs := [.tmp 42]) fk10 rfl) (Zag dy.ls ) fun eP eQ cK => ?_
 obtain ⟨rfl, aL⟩ := cK
 have eR := aL.size
 have E := E.trans aL
 have bj : Ch [] bB eQ := (bi.trans aL)
 refine ⟨bj, ?_⟩
 refine dV 15 rfl rfl rfl (fun _ => Zit un4 rfl rfl) (dV 16 rfl rfl rfl (fun _ => Ya rfl rfl) (dV 17 rfl rfl rfl (fun _ => Zg rfl) ?_))
 refine Zle (d := 46) rfl (fun n => ?_) (fun n => ?_)
 ·have cL := n
  have n := bf_e (Xv n)
  refine dK 18 rfl rfl rfl (dK 19 rfl rfl rfl (dK 20 rfl rfl rfl (dK 21 rfl rfl rfl (dK 22 rfl rfl rfl (dV 23 rfl rfl rfl (fun _ => Ye rfl rfl) ?_)))))
  refine Yo (by kernel_rfl) ?_
  refine Zb (du _ _ ?_)
  refine Yz rfl ?_
  refine Zf fun f3 eS => ?_
  refine Zc (Za rfl rfl (Ze rfl) (Zd (Zb (eS _ _ ?_))))
  refine Zp (Zk ?_)
  exact Zh [_] ⟨rfl, trivial⟩ ⟨congrArg Value.bool (by first | rfl | exact absurd rfl M | exact absurd rfl n | exact absurd rfl o | exact absurd Zbi p | exact absurd Zbg a | exact absurd rfl a), E⟩
 have cL := n
 have n := bt_e (Xw n)
 refine dT 18 rfl rfl rfl (Xj bI.at_ (fun i hi => absurd hi List.not_mem_nil) agg26 sz26 rfl ?_)
 refine dT 20 rfl rfl rfl (Xj bI.at_ (fun i hi => absurd hi List.not_mem_nil) agg26 sz26 rfl ?_)
 refine dO 19 (Yf rfl rfl rfl ?_)
 have dz := dy.ch0 aL
 refine Step.call (Zm (xs := [.tmp 47]) fk11 rfl) (Zap dz.ls om) fun eT eU cM => ?_
 obtain ⟨rfl, aM⟩ := cM
 have eV := aM.size
 have E := E.trans aM
 have bk : Ch [] bB eU := (bj.trans aM)
 refine ⟨bk, ?_⟩
 refine dO 21 (Yf rfl rfl rfl ?_)
 have dA := dz.ch0 aM
 refine Step.call (Zm (xs := [.tmp 49]) fk12 rfl) (Xi dA.ls ) fun eW bC cN => ?_
 obtain ⟨rfl, aN⟩ := cN
 have eX := aN.size
 have E := E.trans aN
 have bJ : Ch [] bB bC := (bk.trans aN)
 refine ⟨bJ, ?_⟩
 refine dV 22 rfl rfl rfl (fun _ => Zit un4 rfl rfl) (dV 23 rfl rfl rfl (fun _ => Ya rfl rfl) ?_)
 refine Yo (by kernel_rfl) ?_
 refine Zb (du _ _ ?_)
 refine Zs rfl (fun o => ?_) (fun o => ?_)
 ·have cO := o
  have o := bf_e (Xv o)
  refine Zf fun f4 eY => ?_
  refine Zc (Za rfl rfl (Ze rfl) (Zd (Zb (eY _ _ ?_))))
  refine Zp (Zk ?_)
  exact Zh [_] ⟨rfl, trivial⟩ ⟨congrArg Value.bool (by first | rfl | exact absurd rfl M | exact absurd rfl n | exact absurd rfl o | exact absurd Zbi p | exact absurd Zbg a | exact absurd rfl a), E⟩
 have cO := o
 have o := bt_e (Xw o)
 refine Zu ?_
 refine Zb (eC _ _ ?_)
 refine Zf fun f5 eZ => ?_
 refine Zf fun e0 e1 => ?_
 have av : ∀ (lj : KL) (al : World) , Go.KLib.Sub [(2, (.bool false)), (3, (.pointer (some ⟨cA, 0, none⟩))), (72, (.bool false))] lj → Ch [] bC al → e0 lj al := by
  intro lj al  bK B 
  refine e1 _ _ (Zoh bK ?_)
  have bL := B.size
  have E := E.trans B
  refine Zat rfl ?_
  refine Zu ?_
  refine Zb (eZ _ _ ?_)
  refine Zf fun f6 e2 => ?_
  refine Zc ?_
  have dB := ((((((bI.ch0 aI).ch0 aJ).ch0 aK).ch0 aL).ch0 aM).ch0 aN).ch0 B
  refine Za rfl rfl (Zr dB.at_ agg26 sz26 rfl) (Zl rfl rfl ?_)
  have dC := (dA.ch0 aN).ch0 B
  refine Step.call (Zm (xs := [.tmp 74]) fk13 rfl) (Zao dC.ls om) fun e3 f7 cP => ?_
  obtain ⟨cr, rfl, K, ab, ct⟩ := cP
  have e4 := ct.size
  have E := E.trans ct
  obtain ⟨ac, ad, rfl, bM, am⟩ := K.opn
  have e5 := Zks f
  refine Za rfl rfl (Zg rfl) (Za rfl rfl (Yk rfl rfl) (Za rfl rfl (Yk rfl rfl) (Zl rfl rfl ?_)))
  refine Yl zr26 fun dD e6 cu bN f8 => ?_
  have e7 := bN.size
  have E := E.trans bN
  have f9 := cu.lt
  replace cu : Blk e6 dD 26 [(.slice none 0 0)] := cu
  refine Zl rfl rfl ?_
  refine Zq (off := 0) 1 cu sz26 rfl (us := [(.slice ac ((revE f).1).length ad)]) rfl rfl rfl rfl fun e8 aO bO => ?_
  have e9 := bO.size
  have E := E.step bO (lS om)
  replace aO : Blk e8 dD 26 [(.slice ac ((revE f).1).length ad)] := aO
  refine Za rfl rfl (Ze rfl) (Zd (Zb (e2 _ _ ?_)))
  refine Zf fun ga fa => ?_
  refine Zf fun gb fb => ?_
  refine Zc (Za rfl rfl (Zg rfl) ?_)
  have cQ := ((dB.ch0 ct).ch0 bN).ch bO (nS om)
  refine Za rfl rfl (Zr cQ.at_ agg26 sz26 rfl) (Zl rfl rfl ?_)
  have cR := ((dC.ch0 ct).ch0 bN).ch bO (dS c e om)
  refine Step.call (Zm (xs := [.tmp 79]) fk10 rfl) (Zag cR.ls ) fun fc gc cS => ?_
  obtain ⟨rfl, bm⟩ := cS
  have fd := bm.size
  have E := E.trans bm
  refine Za rfl rfl (Zit un4 rfl rfl) (Zd (Zb (fb _ _ ?_)))
  refine Zs rfl (fun p => ?_) (fun p => ?_)
  ·have cT := p
   have p := bf_e (Xv p)
   refine Zf fun gd fe => ?_
   refine Zc (Za rfl rfl (Ze rfl) (Zd (Zb (fe _ _ ?_))))
   refine Zp (Zk ?_)
   exact Zh [_] ⟨rfl, trivial⟩ ⟨congrArg Value.bool (by first | rfl | exact absurd rfl M | exact absurd rfl n | exact absurd rfl o | exact absurd Zbi p | exact absurd Zbg a | exact absurd rfl a), E⟩
  have cT := p
  have p := bt_e (Xw p)
  refine Zu ?_
  refine Zb (fa _ _ ?_)
  refine Zf fun ge dE => ?_
  refine Zf fun gf ff => ?_
  refine Zc (Za rfl rfl (Zg rfl) (Zd (Zb (ff _ _ ?_))))
  refine Zs rfl (fun a4 => ?_) (fun a4 => ?_)
  ·have cU := a4
   refine Zf fun gg fg => ?_
   refine Zc ?_
   have fh := aO.ch0 bm
   refine Za rfl rfl (Zr fh.at_ agg26 sz26 rfl) (Zl rfl rfl ?_)
   have fi := ((K.ch0 bN).ch bO (dS ab am om)).ch0 bm
   refine Step.call (Zm (xs := [.tmp 84]) fk13 rfl) (Zao fi.ls om) fun fj gh cV => ?_
   obtain ⟨cv, rfl, L, ae, cw⟩ := cV
   have fk := cw.size
   have E := E.trans cw
   obtain ⟨af, ag, rfl, bP, an⟩ := L.opn
   refine Za rfl rfl (Zg rfl) (Za rfl rfl (Yk rfl rfl) (Za rfl rfl (Yk rfl rfl) (Zl rfl rfl ?_)))
   refine Yl zr26 fun bQ fl a5 bR fm => ?_
   have fn := bR.size
   have E := E.trans bR
   have fo := a5.lt
   replace a5 : Blk fl bQ 26 [(.slice none 0 0)] := a5
   refine Zl rfl rfl ?_
   refine Zq (off := 0) 1 a5 sz26 rfl (us := [(.slice af ((revE ((revE f).1)).1).length ag)]) rfl rfl rfl rfl fun fp aP bS => ?_
   have fq := bS.size
   have E := E.step bS (lS om)
   replace aP : Blk fp bQ 26 [(.slice af ((revE ((revE f).1)).1).length ag)] := aP
   refine Za rfl rfl (Ze rfl) (Zd (Zb (fg _ _ ?_)))
   refine Zf fun gi fr => ?_
   refine Zc (Za rfl rfl (Zr aP.at_ agg26 sz26 rfl) ?_)
   have dF := (((cQ.ch0 bm).ch0 cw).ch0 bR).ch bS (nS om)
   refine Za rfl rfl (Zr dF.at_ agg26 sz26 rfl) (Zl rfl rfl ?_)
   have fs := (L.ch0 bR).ch bS (dS ae an om)
   have dG := (((cR.ch0 bm).ch0 cw).ch0 bR).ch bS (dS c e om)
   refine Step.call (Zm (xs := [.tmp 88, .tmp 89]) fk8 rfl) (Xq fs.ls dG.ls ) fun cW ft a6 => ?_
   replace a6 : cW = .bool (true) ∧ _ := ⟨a6.1.trans (congrArg Value.bool (decide_eq_true (Zmz a4))), a6.2⟩
   obtain ⟨rfl, a7⟩ := a6
   have dH := a7.size
   have E := E.trans a7
   refine Za rfl rfl (Zav rfl) (Zd (Zb (fr _ _ ?_)))
   refine Zat rfl ?_
   refine Zu ?_
   refine Zb (dE _ _ ?_)
   refine Zf fun fu cX => ?_
   refine Zc ?_
   have bT := dF.ch0 a7
   refine Za rfl rfl (Zr bT.at_ agg26 sz26 rfl) (Zl rfl rfl ?_)
   have bU := dG.ch0 a7
   refine Step.call (Zm (xs := [.tmp 92]) fk14 rfl) (Zab bU.ls om) fun cY fv br => ?_
   obtain ⟨rfl, a8⟩ := br
   have dI := a8.size
   have E := E.trans a8
   have cZ := Zix f
   refine Za rfl rfl (Ze rfl) (Zd (Zb (cX _ _ ?_)))
   refine Zf fun fw c0 => ?_
   refine Zc (Za rfl rfl (Zg rfl) (Zl rfl rfl ?_))
   refine Step.call (Zm (xs := [.tmp 95]) fk15 rfl) (Zbd (exR f) (hG.ch E) om) fun c1 fx bs => ?_
   obtain ⟨a9, rfl, h, q, ba⟩ := bs
   have dJ := ba.size
   have E := E.trans ba
   obtain ⟨r, s, rfl, aQ, x⟩ := h.opn
   refine Za rfl rfl (Zg rfl) (Za rfl rfl (Yk rfl rfl) (Za rfl rfl (Yk rfl rfl) (Zl rfl rfl ?_)))
   refine Yl zr26 fun aR c2 O aS c3 => ?_
   have dL := aS.size
   have E := E.trans aS
   have c4 := O.lt
   replace O : Blk c2 aR 26 [(.slice none 0 0)] := O
   refine Zl rfl rfl ?_
   refine Zq (off := 0) 1 O sz26 rfl (us := [(.slice r ((Xp (exR f)).1).length s)]) rfl rfl rfl rfl fun c5 ao aT => ?_
   have dM := aT.size
   have E := E.step aT (lS om)
   replace ao : Blk c5 aR 26 [(.slice r ((Xp (exR f)).1).length s)] := ao
   refine Za rfl rfl (Ze rfl) (Zd (Zb (c0 _ _ ?_)))
   refine Zf fun fy bu => ?_
   refine Zc (Za rfl rfl (Zg rfl) ?_)
   have bV := (((bT.ch0 a8).ch0 ba).ch0 aS).ch aT (nS om)
   refine Za rfl rfl (Zr bV.at_ agg26 sz26 rfl) (Zl rfl rfl ?_)
   have bW := (((bU.ch0 a8).ch0 ba).ch0 aS).ch aT (dS c e om)
   refine Step.call (Zm (xs := [.tmp 100]) fk12 rfl) (Xi bW.ls ) fun bX fz aU => ?_
   obtain ⟨rfl, aw⟩ := aU
   have dN := aw.size
   have E := E.trans aw
   refine Za rfl rfl (Zlq un4 rfl rfl) (Za rfl rfl (Zg rfl) ?_)
   refine Yi (d := 103) rfl (fun a => ?_) (fun a => ?_)
   ·have bY := a
    have a := bt_e a
    refine Za rfl rfl (Zg rfl) (Za rfl rfl (Zav rfl) (Za rfl rfl (Zg rfl) ?_))
    refine Yi (d := 106) rfl (fun g => ?_) (fun g => ?_)
    ·have bZ := g
     have g := Xv g
     refine Zj rfl rfl (Zj rfl rfl (Zj rfl rfl (Za rfl rfl (Ye rfl rfl) (Za rfl rfl (Ye rfl rfl) (Za rfl rfl (Ze rfl) (Zd (Zb (bu _ _ ?_))))))))
     refine Zp ?_
     exact Zh [_] ⟨rfl, trivial⟩ ⟨congrArg Value.bool (by first | rfl | exact absurd rfl M | exact absurd rfl n | exact absurd rfl o | exact absurd Zbi p | exact absurd Zbg a | exact absurd rfl a), E⟩
    have bZ := g
    have g := Xw g
    have c6 := ao.ch0 aw
    refine Za rfl rfl (Zr c6.at_ agg26 sz26 rfl) ?_
    have c7 := bV.ch0 aw
    refine Za rfl rfl (Zr c7.at_ agg26 sz26 rfl) (Zl rfl rfl ?_)
    have c8 := ((h.ch0 aS).ch aT (dS q x om)).ch0 aw
    have c9 := bW.ch0 aw
    refine Step.call (Zm (xs := [.tmp 107, .tmp 108]) fk8 rfl) (Xq c8.ls c9.ls ) fun aV fA y => ?_
    replace y : aV = .bool (true) ∧ _ := ⟨y.1.trans (congrArg Value.bool (decide_eq_true (Zhv g))), y.2⟩
    obtain ⟨rfl, b0⟩ := y
    have dP := b0.size
    have E := E.trans b0
    refine Za rfl rfl (Ya rfl rfl) (Za rfl rfl (Ye rfl rfl) (Za rfl rfl (Ze rfl) (Zd (Zb (bu _ _ ?_)))))
    refine Zp ?_
    exact Zh [_] ⟨rfl, trivial⟩ ⟨congrArg Value.bool (by first | rfl | exact absurd rfl M | exact absurd rfl n | exact absurd rfl o | exact absurd Zbi p | exact absurd Zbg a | exact absurd rfl a), E⟩
   have bY := a
   have a := bf_e a
   refine Zj rfl rfl (Zj rfl rfl (Zj rfl rfl (Zj rfl rfl (Zj rfl rfl (Zj rfl rfl (Zj rfl rfl (Za rfl rfl (Ya rfl rfl) ?_)))))))
   refine Za rfl rfl (Ze rfl) (Zd (Zb (bu _ _ ?_)))
   refine Zp ?_
   exact Zh [_] ⟨rfl, trivial⟩ ⟨congrArg Value.bool (by first | rfl | exact absurd rfl M | exact absurd rfl n | exact absurd rfl o | exact absurd Zbi p | exact absurd Zbg a | exact absurd rfl a), E⟩
  have cU := a4
  refine Zu ?_
  refine Zb (dE _ _ ?_)
  refine Zf fun fB da => ?_
  refine Zc ?_
  have b1 := cQ.ch0 bm
  refine Za rfl rfl (Zr b1.at_ agg26 sz26 rfl) (Zl rfl rfl ?_)
  have b2 := cR.ch0 bm
  refine Step.call (Zm (xs := [.tmp 92]) fk14 rfl) (Zab b2.ls om) fun cY fC br => ?_
  obtain ⟨rfl, bb⟩ := br
  have dQ := bb.size
  have E := E.trans bb
  have cZ := Zix f
  refine Za rfl rfl (Ze rfl) (Zd (Zb (da _ _ ?_)))
  refine Zf fun fD db => ?_
  refine Zc (Za rfl rfl (Zg rfl) (Zl rfl rfl ?_))
  refine Step.call (Zm (xs := [.tmp 95]) fk15 rfl) (Zbd (exR f) (hG.ch E) om) fun c1 fE bs => ?_
  obtain ⟨a9, rfl, h, q, bc⟩ := bs
  have dR := bc.size
  have E := E.trans bc
  obtain ⟨r, s, rfl, aQ, x⟩ := h.opn
  refine Za rfl rfl (Zg rfl) (Za rfl rfl (Yk rfl rfl) (Za rfl rfl (Yk rfl rfl) (Zl rfl rfl ?_)))
  refine Yl zr26 fun aR dc O aW c3 => ?_
  have dU := aW.size
  have E := E.trans aW
  have c4 := O.lt
  replace O : Blk dc aR 26 [(.slice none 0 0)] := O
  refine Zl rfl rfl ?_
  refine Zq (off := 0) 1 O sz26 rfl (us := [(.slice r ((Xp (exR f)).1).length s)]) rfl rfl rfl rfl fun dd ap aX => ?_
  have dW := aX.size
  have E := E.step aX (lS om)
  replace ap : Blk dd aR 26 [(.slice r ((Xp (exR f)).1).length s)] := ap
  refine Za rfl rfl (Ze rfl) (Zd (Zb (db _ _ ?_)))
  refine Zf fun fF bv => ?_
  refine Zc (Za rfl rfl (Zg rfl) ?_)
  have b3 := (((b1.ch0 bb).ch0 bc).ch0 aW).ch aX (nS om)
  refine Za rfl rfl (Zr b3.at_ agg26 sz26 rfl) (Zl rfl rfl ?_)
  have b4 := (((b2.ch0 bb).ch0 bc).ch0 aW).ch aX (dS c e om)
  refine Step.call (Zm (xs := [.tmp 100]) fk12 rfl) (Xi b4.ls ) fun bX fG aU => ?_
  obtain ⟨rfl, ax⟩ := aU
  have dX := ax.size
  have E := E.trans ax
  refine Za rfl rfl (Zlq un4 rfl rfl) (Za rfl rfl (Zg rfl) ?_)
  refine Yi (d := 103) rfl (fun a => ?_) (fun a => ?_)
  ·have b5 := a
   have a := bt_e a
   refine Za rfl rfl (Zg rfl) (Za rfl rfl (Zav rfl) (Za rfl rfl (Zg rfl) ?_))
   refine Yi (d := 106) rfl (fun g => ?_) (fun g => ?_)
   ·have b6 := g
    have g := Xv g
    refine Zj rfl rfl (Zj rfl rfl (Zj rfl rfl (Za rfl rfl (Ye rfl rfl) (Za rfl rfl (Ye rfl rfl) (Za rfl rfl (Ze rfl) (Zd (Zb (bv _ _ ?_))))))))
    refine Zp ?_
    exact Zh [_] ⟨rfl, trivial⟩ ⟨congrArg Value.bool (by first | rfl | exact absurd rfl M | exact absurd rfl n | exact absurd rfl o | exact absurd Zbi p | exact absurd Zbg a | exact absurd rfl a), E⟩
   have b6 := g
   have g := Xw g
   have de := ap.ch0 ax
   refine Za rfl rfl (Zr de.at_ agg26 sz26 rfl) ?_
   have df := b3.ch0 ax
   refine Za rfl rfl (Zr df.at_ agg26 sz26 rfl) (Zl rfl rfl ?_)
   have dg := ((h.ch0 aW).ch aX (dS q x om)).ch0 ax
   have dh := b4.ch0 ax
   refine Step.call (Zm (xs := [.tmp 107, .tmp 108]) fk8 rfl) (Xq dg.ls dh.ls ) fun aV fH y => ?_
   replace y : aV = .bool (true) ∧ _ := ⟨y.1.trans (congrArg Value.bool (decide_eq_true (Zhv g))), y.2⟩
   obtain ⟨rfl, b7⟩ := y
   have dY := b7.size
   have E := E.trans b7
   refine Za rfl rfl (Ya rfl rfl) (Za rfl rfl (Ye rfl rfl) (Za rfl rfl (Ze rfl) (Zd (Zb (bv _ _ ?_)))))
   refine Zp ?_
   exact Zh [_] ⟨rfl, trivial⟩ ⟨congrArg Value.bool (by first | rfl | exact absurd rfl M | exact absurd rfl n | exact absurd rfl o | exact absurd Zbi p | exact absurd Zbg a | exact absurd rfl a), E⟩
  have b5 := a
  have a := bf_e a
  refine Zj rfl rfl (Zj rfl rfl (Zj rfl rfl (Zj rfl rfl (Zj rfl rfl (Zj rfl rfl (Zj rfl rfl (Za rfl rfl (Ya rfl rfl) ?_)))))))
  refine Za rfl rfl (Ze rfl) (Zd (Zb (bv _ _ ?_)))
  refine Zp ?_
  exact Zh [_] ⟨rfl, trivial⟩ ⟨congrArg Value.bool (by first | rfl | exact absurd rfl M | exact absurd rfl n | exact absurd rfl o | exact absurd Zbi p | exact absurd Zbg a | exact absurd rfl a), E⟩
 refine Zc (Za rfl rfl (Zi fa26_0 rfl) ?_)
 have b8 := (((((dv.ch0 aI).ch0 aJ).ch0 aK).ch0 aL).ch0 aM).ch0 aN
 refine Za rfl rfl (Zo b8.at_ agg24 rfl rfl) (Za rfl rfl (Xk (by rw [el24]; rfl) rfl) (Za rfl rfl (Zfx rfl rfl) (Za rfl rfl (Zg rfl) ?_)))
 refine Yi (d := 57) rfl (fun ah => ?_) (fun ah => ?_)
 ·have b9 := ah
  have ah := Yb ah
  refine Za rfl rfl (Zr b8.at_ agg26 sz26 rfl) (Zl rfl rfl ?_)
  have di := (((((dw.ch0 aI).ch0 aJ).ch0 aK).ch0 aL).ch0 aM).ch0 aN
  refine Step.call (Zm (xs := [.tmp 58]) fk9 rfl) (Qu di.ls om) fun dj fI be => ?_
  replace be : dj = .bool (true) ∧ _ := ⟨be.1.trans (congrArg Value.bool (Zns ah)), be.2⟩
  obtain ⟨rfl, ay⟩ := be
  have dZ := ay.size
  have E := E.trans ay
  refine Za rfl rfl (Zav rfl) (Za rfl rfl (Ye rfl rfl) (Za rfl rfl (Zg rfl) (Za rfl rfl (Zi fa26_0 rfl) ?_)))
  have ca := ((((((cG.ch0 aI).ch0 aJ).ch0 aK).ch0 aL).ch0 aM).ch0 aN).ch0 ay
  refine Za rfl rfl (Zo ca.at_ agg24 rfl rfl) (Za rfl rfl (Xk (by rw [el24]; rfl) rfl) (Za rfl rfl (Zfx rfl rfl) (Za rfl rfl (Zg rfl) ?_)))
  refine Yi (d := 67) rfl (fun t => ?_) (fun t => ?_)
  ·have cb := t
   have t := Yb t
   refine Za rfl rfl (Zr ca.at_ agg26 sz26 rfl) (Zl rfl rfl ?_)
   have dk := (((((cH.ch0 aJ).ch0 aK).ch0 aL).ch0 aM).ch0 aN).ch0 ay
   refine Step.call (Zm (xs := [.tmp 68]) fk9 rfl) (Qu dk.ls om) fun bw fJ P => ?_
   replace P : bw = .bool (true) ∧ _ := ⟨P.1.trans (congrArg Value.bool (Zjh t)), P.2⟩
   obtain ⟨rfl, bx⟩ := P
   have d0 := bx.size
   have E := E.trans bx
   refine Za rfl rfl (Zav rfl) (Za rfl rfl (Ye rfl rfl) (Za rfl rfl (Ya rfl rfl) (Zd (Zb ?_))))
   exact av _ _  (Sub.cons rfl (Sub.cons rfl (Sub.cons (congrArg (fun b => some (Value.bool b)) (show false = false from rfl)) (Sub.nil _)))) (((Ch.refl [] bC).trans ay).trans bx) 
  have cb := t
  have t := Yc t
  refine Zj rfl rfl (Zj rfl rfl (Zj rfl rfl (Za rfl rfl (Ya rfl rfl) (Za rfl rfl (Ya rfl rfl) (Zd (Zb ?_))))))
  exact av _ _  (Sub.cons rfl (Sub.cons rfl (Sub.cons (congrArg (fun b => some (Value.bool b)) (show false = false from rfl)) (Sub.nil _)))) ((Ch.refl [] bC).trans ay) 
 have b9 := ah
 have ah := Yc ah
 refine Zj rfl rfl (Zj rfl rfl (Zj rfl rfl (Za rfl rfl (Ya rfl rfl) (Za rfl rfl (Zg rfl) (Za rfl rfl (Zi fa26_0 rfl) ?_)))))
 have cc := (((((cG.ch0 aI).ch0 aJ).ch0 aK).ch0 aL).ch0 aM).ch0 aN
 refine Za rfl rfl (Zo cc.at_ agg24 rfl rfl) (Za rfl rfl (Xk (by rw [el24]; rfl) rfl) (Za rfl rfl (Zfx rfl rfl) (Za rfl rfl (Zg rfl) ?_)))
 refine Yi (d := 67) rfl (fun t => ?_) (fun t => ?_)
 ·have cd := t
  have t := Yb t
  refine Za rfl rfl (Zr cc.at_ agg26 sz26 rfl) (Zl rfl rfl ?_)
  have dl := ((((cH.ch0 aJ).ch0 aK).ch0 aL).ch0 aM).ch0 aN
  refine Step.call (Zm (xs := [.tmp 68]) fk9 rfl) (Qu dl.ls om) fun bw fK P => ?_
  replace P : bw = .bool (true) ∧ _ := ⟨P.1.trans (congrArg Value.bool (Zjh t)), P.2⟩
  obtain ⟨rfl, bz⟩ := P
  have d1 := bz.size
  have E := E.trans bz
  refine Za rfl rfl (Zav rfl) (Za rfl rfl (Ye rfl rfl) (Za rfl rfl (Ya rfl rfl) (Zd (Zb ?_))))
  exact av _ _  (Sub.cons rfl (Sub.cons rfl (Sub.cons (congrArg (fun b => some (Value.bool b)) (show false = false from rfl)) (Sub.nil _)))) ((Ch.refl [] bC).trans bz) 
 have cd := t
 have t := Yc t
 refine Zj rfl rfl (Zj rfl rfl (Zj rfl rfl (Za rfl rfl (Ya rfl rfl) (Za rfl rfl (Ya rfl rfl) (Zd (Zb ?_))))))
 exact av _ _  (Sub.cons rfl (Sub.cons rfl (Sub.cons (congrArg (fun b => some (Value.bool b)) (show false = false from rfl)) (Sub.nil _)))) (Ch.refl [] bC) 

end Go.Proofs.YtmdgciibgjhidaaGreatDoor
