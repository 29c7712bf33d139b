/- The library of this proof: a logic of the code's forms, memory, data, and plain laws. It speaks of no program. -/
import Derived.WalkKit
import Derived.OrdersHeld
import Derived.WalkLawsBesides
import Derived.WalkSpells
import Derived.ProofKit
import Derived.Deep.Slices
import Derived.Deep.Fields
import Derived.Lib.SmallJoins
import Derived.Laws.Append
import Derived.Laws.CopyRow
import Derived.Laws.AppendOwn
import Derived.Laws.Small
import Derived.Shelf.Sort.Plain
import Derived.Shelf.Slices.CompactI
import Derived.Shelf.Slices.Delete
import Derived.Ground.NamesProg
import Derived.Ground.Names2Prog
import Derived.Shelf.Lay
import Derived.Shelf.Slices.In.SortNone
import Derived.MapKept
import Derived.Ground.SlsfProg
import Derived.Shelf.SlSortCmp.NoneTotal
import Derived.Laws.BytesString
import Derived.Laws.Strings2
import Derived.Laws.Concat
import Derived.Shelf.Strconv.Itoa3
import Derived.Shelf.Strings.OnBuilder
import Derived.Lib.Split
import Derived.Shelf.Strings.SplitShaped
import Derived.Lib.AppendZerosOnto
import Derived.Lib.Overlaps
import Derived.Handed
import Derived.ShapedOpen
import Derived.Test.YtkmhgeppenifoaaLibA

namespace Go.KLib
structure Chg where
 ins : Bool
 eid : Int
 ef : Int
 et : Int
 el : Int
 deriving DecidableEq
def Chg.cs (p : Chg) : List Value := [.bool p.ins, .int .i64 p.eid, .int .i64 p.ef, .int .i64 p.et, .int .i64 p.el]
theorem Chg.len (p : Chg) : p.cs.length = 5 := rfl
theorem Chg.one (x : Chg) : ∀ y ∈ x.cs, y.oneCell' = true := by intro y hy; simp [Chg.cs] at hy; rcases hy with rfl | rfl | rfl | rfl | rfl <;> rfl
def Chg.edge (c : Chg) : GEdge := ⟨c.eid, c.ef, c.et, c.el⟩
def Zbt (k : Int) (n : Nat) : List Chg := (List.range n).map fun (i : Nat) => ⟨decide ((k + 5 * i).tmod 3 = 0), k + 5 * i + 1, k + 5 * i + 2, k + 5 * i + 3, k + 5 * i + 4⟩
@[simp] theorem mkChg_len (k : Int) (n : Nat) : (Zbt k n).length = n := by simp [Zbt]
theorem Zjd (a : List Chg) {i : Nat} (hi : i < a.length) {kk k : Int} (h : kk = k + 5 * i) : (Zbt k i ++ a.drop i).set i ⟨decide (kk.tmod 3 = 0), kk + 1, kk + 1 + 1, kk + 1 + 1 + 1, kk + 1 + 1 + 1 + 1⟩ = Zbt k (i + 1) ++ a.drop (i + 1) := by
 subst h
 have h2 := Zca a (fun (q : Nat) => (⟨decide ((k + 5 * q).tmod 3 = 0), k + 5 * q + 1, k + 5 * q + 2, k + 5 * q + 3, k + 5 * q + 4⟩ : Chg)) hi
 unfold Zbt
 refine Eq.trans (congrArg _ ?_) h2
 simp only [Int.add_assoc]
 all_goals rfl
def insK (E : List GEdge) (id : Int) : Nat := (E.takeWhile fun x => decide (x.id < id)).length
def insL (E : List GEdge) (e : GEdge) : List GEdge := E.take (insK E e.id) ++ [e] ++ E.drop (insK E e.id)
def Zkn (V : List Int) (E : List GEdge) (e : GEdge) : Prop := Qq V E ∧ Xq ((V.length : Int) - 1) e ∧ eiR E e.id < 0 ∧ ¬ E.length = 12
noncomputable def Qr (V : List Int) (E : List GEdge) (e : GEdge) : List GEdge × Bool := bif tt (Zkn V E e) then (insL E e, true) else (E, false)
noncomputable def delR (V : List Int) (E : List GEdge) (id : Int) : List GEdge × Bool := bif tt (Qq V E ∧ 0 ≤ eiR E id) then (E.take (eiR E id).toNat ++ E.drop ((eiR E id).toNat + 1), true) else (E, false)
section
variable {V : List Int} {E : List GEdge} {e y : GEdge} {id : Int} {k : Nat}
theorem Xl (h : Zkn V E e) : Qr V E e = (insL E e, true) := by unfold Qr; rw [← Zaz h]; rfl
theorem Xn (h : ¬ Zkn V E e) : Qr V E e = (E, false) := by unfold Qr; rw [← Zs h]; rfl
theorem Zbu (h : Qq V E ∧ 0 ≤ eiR E id) : delR V E id = (E.take (eiR E id).toNat ++ E.drop ((eiR E id).toNat + 1), true) := by unfold delR; rw [← Zaz h]; rfl
theorem Zbj (h : ¬ (Qq V E ∧ 0 ≤ eiR E id)) : delR V E id = (E, false) := by unfold delR; rw [← Zs h]; rfl
def InsP (E : List GEdge) (id : Int) (k : Nat) : Prop := ∀ x ∈ E.take k, x.id < id
theorem Zil : InsP E id 0 := fun x h => by simp at h
theorem Zio (h : InsP E id k) (hy : E[k]? = some y) (hl : y.id < id) : InsP E id (k + 1) := fun x hx => by
 rw [Qv hy] at hx
 rcases List.mem_append.1 hx with q | q
 ·exact h x q
 rw [List.mem_singleton.1 q]; exact hl
theorem Zmq (h : InsP E id k) (hk : k ≤ E.length) : k ≤ insK E id := by
 unfold insK
 have e : E = E.take k ++ E.drop k := (List.take_append_drop k E).symm
 rw [e, List.takeWhile_append_of_pos (fun x hx => by simpa using h x hx), List.length_append, List.length_take]
 omega
theorem Qe (h : InsP E id k) (hy : E[k]? = some y) (hl : ¬ y.id < id) : insK E id = k := by
 have hk := (List.getElem?_eq_some_iff.1 hy).1
 unfold insK
 have ey : E[k] = y := (List.getElem?_eq_some_iff.1 hy).2
 have e : E = E.take k ++ y :: E.drop (k + 1) := by rw [← ey, List.getElem_cons_drop, List.take_append_drop]
 rw [e, List.takeWhile_append_of_pos (fun x hx => by simpa using h x hx), List.takeWhile_cons, if_neg (by simpa using hl), List.append_nil, List.length_take]
 omega
theorem Zag (h : InsP E id k) (hk : E.length ≤ k) (hk2 : k ≤ E.length) : insK E id = k := by
 have := Zmq h hk2
 have h2 : insK E id ≤ E.length := by unfold insK; exact (List.takeWhile_sublist _).length_le
 omega
end
theorem Zjl (E : List GEdge) (id : Int) : eiR E id = -1 ∨ (0 ≤ eiR E id ∧ eiR E id < E.length) := by
 by_cases h : eiR E id < 0
 ·left
  unfold eiR ixP at *
  split at h
  ·omega
  rename_i h2; rw [if_neg h2]
 right
 unfold eiR at *
 obtain ⟨k, x, e, hx, _, hk⟩ := Znd h
 rw [e]; omega
end Go.KLib

namespace Go.KLib
noncomputable def Zbo (V : List Int) (E : List GEdge) (c : Chg) : Option (List GEdge) :=
 bif c.ins then (bif (Qr V E c.edge).2 then some (Qr V E c.edge).1 else none)
 else bif decide (c.edge ∈ E) then (bif (delR V E c.eid).2 then some (delR V E c.eid).1 else none) else none
noncomputable def apL (V : List Int) (E : List GEdge) (l : List Chg) : Option (List GEdge) := l.foldlM (Zbo V) E
def ApOk (V : List Int) (E : List GEdge) (l : List Chg) (m : Nat) : Prop := Qq V E ∧ l.length ≤ m ∧ (apL V E l).isSome = true
noncomputable def apE (V : List Int) (E : List GEdge) (l : List Chg) (m : Nat) : List GEdge := bif tt (ApOk V E l m) then (apL V E l).getD E else E
section
variable {V : List Int} {E F : List GEdge} {c : Chg} {l : List Chg} {k m : Nat}
theorem Zgq (h : c.ins = true) (h2 : (Qr V E c.edge).2 = true) : Zbo V E c = some (Qr V E c.edge).1 := by unfold Zbo; rw [h, h2]; rfl
theorem Xt (h : c.ins = true) (h2 : (Qr V E c.edge).2 = false) : Zbo V E c = none := by unfold Zbo; rw [h, h2]; rfl
theorem Zgr (h : c.ins = false) (h1 : c.edge ∈ E) (h2 : (delR V E c.eid).2 = true) : Zbo V E c = some (delR V E c.eid).1 := by unfold Zbo; rw [h, h2, decide_eq_true h1]; rfl
theorem Xr (h : c.ins = false) (h2 : (delR V E c.eid).2 = false) : Zbo V E c = none := by
 unfold Zbo; rw [h, h2]; cases decide (c.edge ∈ E) <;> rfl
theorem Zap (h : c.ins = false) (h1 : ¬ c.edge ∈ E) : Zbo V E c = none := by unfold Zbo; rw [h, decide_eq_false h1]; rfl
theorem Zij {y : GEdge} (h : c.ins = false) (h0 : eiR E c.eid < 0 ∨ (E[(eiR E c.eid).toNat]? = some y ∧ ¬ y = c.edge)) : Zbo V E c = none := by
 by_cases hv : Qq V E
 ·refine Zap h fun hm => ?_
  obtain ⟨g1, _, g3⟩ := Znn hv hm
  have e : c.edge.id = c.eid := rfl
  rw [e] at g1 g3
  rcases h0 with h0 | ⟨h0, h1⟩
  ·omega
  rw [g3] at h0; injection h0 with h0; exact h1 h0.symm
 exact Xr h (by rw [Zbj fun q => hv q.1])
theorem Zba (h : c.ins = false) (h0 : eiR E c.eid < 0) : Zbo V E c = none := Zij (y := ⟨0, 0, 0, 0⟩) h (.inl h0)
theorem Zme {y : GEdge} (h : c.ins = false) (h0 : E[(eiR E c.eid).toNat]? = some y) (h1 : ¬ y = c.edge) : Zbo V E c = none := Zij h (.inr ⟨h0, h1⟩)
theorem Zkl {y : GEdge} (hy : E[k]? = some y) (h : y = c.edge) : c.edge ∈ E := by rw [← h]; exact Qy hy
theorem Zfg (V : List Int) (E : List GEdge) (e : GEdge) : (Qr V E e).1.length ≤ E.length + 1 := by
 by_cases h : Zkn V E e
 ·rw [Xl h]; unfold insL; simp only [List.length_append, List.length_take, List.length_drop, List.length_singleton]; omega
 rw [Xn h]; exact Nat.le_succ _
theorem Zfh (V : List Int) (E : List GEdge) (id : Int) : (delR V E id).1.length ≤ E.length := by
 by_cases h : Qq V E ∧ 0 ≤ eiR E id
 ·rw [Zbu h]; simp only [List.length_append, List.length_take, List.length_drop]; omega
 rw [Zbj h]; exact Nat.le_refl _
theorem Zay {y : GEdge} (h : c.ins = false) (h0 : E[(eiR E c.eid).toNat]? = some y) (h1 : ¬ [y.id, y.f, y.t, y.label] = [c.eid, c.ef, c.et, c.el]) : Zbo V E c = none := Zme h h0 fun e => h1 (by rw [e]; rfl)
theorem Zgl {y : GEdge} (hy : E[k]? = some y) (h : [y.id, y.f, y.t, y.label] = [c.eid, c.ef, c.et, c.el]) : c.edge ∈ E := Zkl hy (by
 obtain ⟨a, b, d, e⟩ := y
 simp only [List.cons.injEq, and_true] at h
 unfold Chg.edge; rw [h.1, h.2.1, h.2.2.1, h.2.2.2])
theorem Yy (h : apL V E (l.take k) = some F) (hc : l[k]? = some c) : apL V E (l.take (k + 1)) = Zbo V F c := by
 unfold apL at *
 rw [Qv hc, List.foldlM_append, h]
 show (Zbo V F c).bind _ = _
 cases Zbo V F c <;> rfl
theorem Xf (h : apL V E (l.take k) = none) : apL V E l = none := by
 have e : l = l.take k ++ l.drop k := (List.take_append_drop k l).symm
 unfold apL at *
 rw [e, List.foldlM_append, h]; rfl
theorem Xu (h : apL V E (l.take k) = some F) (hk : l.length ≤ k) : apL V E l = some F := by rwa [List.take_of_length_le hk] at h
theorem ap_y (hv : Qq V E) (hm : l.length ≤ m) (h : apL V E l = some F) : apE V E l m = F ∧ tt (ApOk V E l m) = true := by
 have q : ApOk V E l m := ⟨hv, hm, by rw [h]; rfl⟩
 unfold apE; rw [← Zaz q, h]; exact ⟨rfl, rfl⟩
theorem ap_n (h : ¬ ApOk V E l m) : apE V E l m = E ∧ tt (ApOk V E l m) = false := by
 unfold apE; rw [← Zs h]; exact ⟨rfl, rfl⟩
theorem Zaq (h : apL V E l = none) : ¬ ApOk V E l m := fun q => by have := q.2.2; rw [h] at this; cases this
end
end Go.KLib

namespace Go.KLib
open Go.Sort
section
variable {P : Program} {w : World} {l : KL} {dst : Option Tmp} {ty : TypeId} {pos : String} {aft : Array Go.Edge} {gd : Option (Nat × Bool)} {K : Value → World → Prop}
variable {e k n N m lo hi c L B : Nat} {v u sv : Value} {xs ys : List Value}
theorem Ow.ext {g off cap : Nat} (h : Ow w e k (.slice (some ⟨g, off, none⟩) n cap) n xs) (hc : n < cap) : ∃ z, z.length = k ∧ Ow w e k (.slice (some ⟨g, off, none⟩) (n + 1) cap) (n + 1) (xs ++ z) := by
 obtain ⟨hl, ⟨hv, _⟩ | ⟨g', off', cap', cur, hv, hg, hn, hm, hs, he⟩⟩ := h
 ·cases hv
 injection hv with hv h2 h3
 injection hv with hv; injection hv with h4 h5
 subst h3 h4 h5
 have hk : (n + 1) * k ≤ cap * k := Nat.mul_le_mul_right k hc
 rw [Nat.succ_mul] at hk
 have hcl : cur.toList.length = cur.size := Array.length_toList
 refine ⟨((cur.toList.drop off).drop (n * k)).take k, ?_, ?_, .inr ⟨g, off, cap, cur, rfl, hg, hc, hm, hs, ?_⟩⟩
 ·rw [List.length_take, List.length_drop, List.length_drop]; omega
 ·rw [List.length_append, hl, List.length_take, List.length_drop, List.length_drop, Nat.succ_mul]; omega
 rw [Nat.succ_mul, List.take_add, he]
theorem Zgo {β : Type} (C Z : List β) (off a t : Nat) (h : off + t ≤ C.length) (ha : a + Z.length ≤ t) : ((C.take (off + a) ++ Z ++ C.drop (off + a + Z.length)).drop off).take t = ((C.drop off).take t).take a ++ Z ++ ((C.drop off).take t).drop (a + Z.length) := by
 have e1 : (C.take (off + a) ++ Z ++ C.drop (off + a + Z.length)).drop off = (C.drop off).take a ++ (Z ++ C.drop (off + a + Z.length)) := by
  rw [List.append_assoc, List.drop_append_of_le_length (by rw [List.length_take]; omega), List.drop_take, show off + a - off = a by omega]
 have l1 : ((C.drop off).take a).length = a := by rw [List.length_take, List.length_drop]; omega
 rw [e1, List.take_append, l1, List.take_of_length_le (by omega : ((C.drop off).take a).length ≤ t), List.take_append, List.take_of_length_le (by omega : Z.length ≤ t - a), List.take_take, show min a t = a by omega, List.append_assoc]
 congr 2
 rw [List.drop_take, List.drop_drop, show off + (a + Z.length) = off + a + Z.length by omega, show t - (a + Z.length) = t - a - Z.length by omega]
theorem Zgt {x y : Operand} {t t' : TypeId} {e' : TypeId} (hs : Ow w e' k v N xs) (hu : u = cutV v k lo hi) (hlo : lo ≤ hi) (hhi : hi ≤ N) (ht : elB P t = some e) (hk : Zw P e = some k) (hsrc : Sl w L B k sv m ys) (hc : c = min m (hi - lo)) (h0 : 0 < c)
   (h1 : ∀ y ∈ ys.take (c * k), y.oneCell' = true) (hx : ev l x = some u) (hy : ev l y = some sv)
   (kk : ∀ w', Ow w' e' k v N (xs.take (lo * k) ++ ys.take (c * k) ++ xs.drop (lo * k + c * k)) → Ch (bl v) w w' → K (.int .i64 (c : Int)) w') :
   Step P l ⟨dst, .call { callee := .builtin .copy, args := #[x, y], argTypes := #[t, t'] }, ty, pos, aft, gd⟩ w K := by
 obtain ⟨hl, ⟨rfl, hN⟩ | ⟨g, off, cap, cur, rfl, hg, hn, hm, hf, ht2⟩⟩ := hs
 ·omega
 obtain ⟨hyl, A, sc, rfl, s1, s2, s3⟩ := hsrc
 obtain ⟨ad, rfl, hat⟩ := s3 (by omega)
 have hcl : ¬ cap = lo := by omega
 have hu2 : u = .slice (some ⟨g, off + lo * k, none⟩) (hi - lo) (cap - lo) := by
  rw [hu]; simp only [cutV, sliced]
  rw [if_neg hcl]
  simp [add_lit]
 have hck : c * k ≤ m * k := Nat.mul_le_mul_right k (by omega)
 have hyt : (ys.take (c * k)).length = c * k := by rw [List.length_take, hyl]; omega
 have hsum : lo * k + c * k ≤ N * k := by rw [← Nat.add_mul]; exact Nat.mul_le_mul_right k (by omega)
 have hcap : N * k ≤ cap * k := Nat.mul_le_mul_right k hn
 have hf1 := run_firstCells_some (P := P) (w := w) k c ad m sc (ys.take (c * k)) hyt (fun j v hj => by
  rw [List.getElem?_take] at hj
  split at hj
  ·exact hat.2 j v hj
  cases hj)
 have hst := run_storeCells_at (P := P) g (off + lo * k) e' (ys.take (c * k)) 0 cur w hg (by rw [hyt]; omega) h1
 refine Step.of (v := .int .i64 (c : Int)) (w' := w.setRow g (cur.toList.take (off + lo * k) ++ ys.take (c * k) ++ cur.toList.drop (off + lo * k + (ys.take (c * k)).length)).toArray) (fun ρ hρ => ?_) (kk _ ?_ (Ch.setRow w g _))
 ·have h2 := hρ _ _ hx
  have h3 := hρ _ _ hy
  rw [hu2] at h2
  simp only [Nat.add_zero] at hst
  have hmin : Nat.min m (hi - lo) = c := hc.symm
  simp [execOp, resolve, invoke, builtin, Builtin.copy_, run_underlying (Qd ht), h2, h3, Builtin.lenOf, hmin, Xz hk, hf1, hst, goInt]
 refine ⟨by simp only [List.length_append, List.length_take, List.length_drop, hl, hyl]; omega, .inr ⟨g, off, cap, _, rfl, Zac hg, hn, hm, ?_, ?_⟩⟩
 ·simp only [List.size_toArray, List.length_append, List.length_take, List.length_drop, Array.length_toList, hyl]; omega
 have hcl2 : cur.toList.length = cur.size := Array.length_toList
 have := Zgo cur.toList (ys.take (c * k)) off (lo * k) (N * k) (by omega) (by rw [hyt]; exact hsum)
 rw [ht2, hyt] at this
 rw [hyt]
 exact this
theorem Zhp {g off cap : Nat} (h : ¬ cap = lo) : cutV (.slice (some ⟨g, off, none⟩) n cap) k lo hi = .slice (some ⟨g, off + lo * k, none⟩) (hi - lo) (cap - lo) := by
 simp only [cutV, sliced]
 rw [if_neg h]
 simp [add_lit]
theorem Znl {x y : Operand} {t tn : TypeId} {kq kn : IntKind} {by_ g off cap : Nat} {z : Value} (ht : elB P t = some e) (hk : Zw P e = some k) (hb : Qc P e = some by_) (hz : Yx P e = some z) (hzs : z.cells.size = k) (hk0 : 0 < k) (htn : P.underlying tn = some (.int kn))
   (ho : Ow w e k (.slice (some ⟨g, off, none⟩) n cap) n xs) (h0 : 0 < m) (hgr : cap < n + m) (h63 : n + m ≤ 9223372036854775807) (hbytes : (n + m) * by_ ≤ 140737488355328) (hx : ev l x = some (.slice (some ⟨g, off, none⟩) n cap)) (hy : ev l y = some (.int kq (m : Int)))
   (kk : ∀ G w' Z, n + m ≤ G → Z.length = m * k → Ow w' e k (.slice (some ⟨w.heap.size, 0, none⟩) (n + m) G) (n + m) (xs ++ Z) → Ch [] w w' → K (.slice (some ⟨w.heap.size, 0, none⟩) (n + m) G) w') :
   Step P l ⟨dst, .call { callee := .builtin .append, args := #[x, y], argTypes := #[t, tn] }, ty, pos, aft, gd⟩ w K := by
 obtain ⟨i, hi, hiz, his, hib⟩ := Zgu hk hb hz
 have hel := Qd ht
 have hmx : n + m ≤ maxLen := by simp only [maxLen]; omega
 have hcells : ∀ j u, xs[j]? = some u → w.drew.cell? ((⟨g, off, none⟩ : Addr).add j) = some u := fun j u hu => by
  rw [add_lit]; exact Ow.cells ho rfl j u hu
 subst his hib
 have hold := run_firstCells_some (P := P) (w := w.drew) i.size n ⟨g, off, none⟩ n cap xs ho.1 hcells
 have hle : m * i.bytes ≤ (n + m) * i.bytes := Nat.mul_le_mul_right _ (by omega)
 have hr := Lib.run_append_grow_zeros (P := P) w t tn ty e i z kq kn hel htn hi hiz (some ⟨g, off, none⟩) n cap xs hold m h0 hk0 hgr (by omega) (by omega) (growslice_fits hgr hbytes)
 have hge := grownCap_ge w (n + m) cap e
 have hcm' : grownCap w (n + m) cap e ≤ maxLen := grownCap_le_maxLen w (n + m) cap e hmx
 refine Step.of (v := .slice (some ⟨w.heap.size, 0, none⟩) (n + m) (grownCap w (n + m) cap e)) (w' := w.drew.alloc (.cells (xs.toArray ++ Builtin.zeroCells z.cells m ++ Builtin.zeroCells z.cells (grownCap w (n + m) cap e - (n + m))) e)) (fun ρ hρ => ?_) (kk _ _ (Builtin.zeroCells z.cells m).toList hge (by rw [Array.length_toList, size_zeroCells, hzs]) ?_ ⟨rfl, rfl, rfl, by simp, fun j hj _ => heap_alloc_old w.drew _ hj⟩)
 ·have h2 := hρ _ _ hx
  have h3 := hρ _ _ hy
  simp only [execOp, resolve, invoke, builtin, h2, h3, Sem.run_bind, Sem.run_pure, Result.andThen_ok, List.map_toArray, List.map_cons, List.map_nil]
  rw [hr]; rfl
 refine ⟨by rw [List.length_append, ho.1, Array.length_toList, size_zeroCells, hzs, Nat.add_mul], .inr ⟨w.heap.size, 0, _, _, rfl, heap_alloc_new w.drew _, hge, hcm', ?_, ?_⟩⟩
 ·simp only [Array.size_append, List.size_toArray, size_zeroCells, hzs, ho.1, ← Nat.add_mul]
  refine Nat.le_of_eq ?_
  rw [Nat.zero_add]; congr 1; omega
 simp only [Array.toList_append, List.append_assoc, List.drop_zero]
 rw [← List.append_assoc]
 have hl : (n + m) * i.size = (xs ++ (Builtin.zeroCells z.cells m).toList).length := by rw [List.length_append, ho.1, Array.length_toList, size_zeroCells, hzs, Nat.add_mul]
 rw [hl]
 exact List.take_left
end
end Go.KLib

namespace Go.KLib
section
variable {S : Int} {A : List Bool} {N : List (List Int)} {r : List Int} {k i : Nat} {t : Int}
end
section
variable {l : List Token} {k : Nat} {y : Token}
end
end Go.KLib

namespace Go.KLib
open Go.Sort Go.RowKit Go.Shelf Go.Proofs
end Go.KLib
namespace Go
end Go

namespace Go.KLib
open Go.Sort
section
variable {P : Program} {w : World} {l : KL} {dst : Option Tmp} {ty : TypeId} {pos : String} {aft : Array Go.Edge} {gd : Option (Nat × Bool)} {K : Value → World → Prop}
variable {α : Type} {cs : α → List Value} {e k n lo hi i : Nat} {v : Value} {xs : List α} {C D : List Value}
theorem Zco {w' : World} {x : Operand} {t : TypeId} {Lo Hi : Option Operand} {A : Option Addr} {c : Nat} (ht : elB P t = some e) (hk : Zw P e = some k) (hx : ev l x = some (.slice A n c))
   (hL : bndB l Lo 0 lo) (hH : bndB l Hi n hi) (h1 : lo ≤ hi) (h2 : hi ≤ c) (hn : n ≤ c) : Qo P l ⟨dst, .slice t x Lo Hi none, ty, pos, aft, gd⟩ w' (cutV (.slice A n c) k lo hi) w' := fun ρ hρ => by
 have e1 := Zjv (P := P) (w := w') (A := A) (n := n) (c := c) ht hk (Lo.map ρ) (Hi.map ρ)
  (by cases Lo with
   | none => exact .inr ⟨rfl, hL⟩
   | some x => obtain ⟨q, i, h, rfl⟩ := hL; exact .inl ⟨q, by rw [Option.map_some, hρ _ _ h]⟩)
  (by cases Hi with
   | none => exact .inr ⟨rfl, hH⟩
   | some x => obtain ⟨q, i, h, rfl⟩ := hH; exact .inl ⟨q, by rw [Option.map_some, hρ _ _ h]⟩) h1 h2 hn
 simp only [execOp, hρ _ _ hx]
 simpa using congrArg (fun r => r.andThen fun v w => Result.ok (Next.value v) w) e1
theorem Znj {t : TypeId} {x : Operand} {A : Option Addr} {c : Nat} {w' : World} (ht : elB P t = some e) (hx : ev l x = some (.slice A n c)) :
   Qo P l ⟨dst, .call { callee := .builtin .cap, args := #[x], argTypes := #[t] }, ty, pos, aft, gd⟩ w' (.int .i64 (c : Int)) w' := fun ρ hρ => by
 simp [execOp, resolve, invoke, builtin, Builtin.cap_, run_underlying (Qd ht), hρ _ _ hx, goInt]
theorem s_ov {x y : Operand} {t r : TypeId} {ts : Array TypeId} {f : FuncId} {fn : Func} {a b o1 o2 la ca lb cb : Nat} {c1 c2 : Array Value} {e1 e2 : TypeId} (hf : P.funcs[f]? = some fn) (hname : (fn.name == "runtime.NumGoroutine") = false)
   (hbd : fn.body.isNone = true) (hn : Extern.findNext fn = none) (he : Extern.find fn = some (Extern.SlicesOverlaps.overlaps #[t, t] #[r])) (ht : elB P t = some e) (hk : Zw P e = some k)
   (hx : ev l x = some (.slice (some ⟨a, o1, none⟩) la ca)) (hy : ev l y = some (.slice (some ⟨b, o2, none⟩) lb cb)) (ha : w.heap[a]? = some (.cells c1 e1 (0, 0))) (hb : w.heap[b]? = some (.cells c2 e2 (0, 0))) (hne : a ≠ b) (h0 : c2.size ≠ 0)
   (kk : K (.bool false) w) : Step P l ⟨dst, .call { callee := .value (.func f), args := #[x, y], argTypes := ts }, ty, pos, aft, gd⟩ w K := by
 have hz : ∀ w : World, (Go.sizeOf e).run P w = .ok k w := fun w => Xz hk
 have hov := Lib.run_overlaps_apart (P := P) w t r e (Qd ht) k hz ⟨a, o1, none⟩ ⟨b, o2, none⟩ la ca lb cb hne e1 e2 c1.size c2.size (by simp [World.shape?, ha]) (by simp [World.shape?, hb]) h0 (by simp [World.frozen?, ha]) (by simp [World.frozen?, ha])
 refine Step.of (v := .bool false) (w' := w) (fun ρ hρ => ?_) kk
 have h1 : ρ (.func f) = .func (.func f) #[] #[] := hρ _ _ rfl
 have h2 := hρ _ _ hx
 have h3 := hρ _ _ hy
 have h4 := run_callFunc_extern (P := P) hf hname hbd hn he #[.slice (some ⟨a, o1, none⟩) la ca, .slice (some ⟨b, o2, none⟩) lb cb] w
 rw [hov] at h4
 simp [execOp, resolve, h1, h2, h3, Deferred.ofValue, invoke, h4]
theorem Ol.ow {A : Option Addr} {c : Nat} (h : Ol cs e k w (.slice A xs.length c) xs) : Ow w e k (.slice A xs.length c) xs.length (xs.flatMap cs) := h
end
section
variable {β : Type} {C X Z : List β} {i n k : Nat}
theorem Znk (hC : C.length = i * k) (hX : X.length = k) (hZ : k ≤ Z.length) : (C ++ Z).take (i * k) ++ X.take (1 * k) ++ (C ++ Z).drop (i * k + 1 * k) = C ++ X ++ Z.drop k := by
 rw [← hC, List.take_left, Nat.one_mul, ← hX, List.take_length, List.drop_append, List.drop_of_length_le (by omega), List.nil_append, show C.length + X.length - C.length = X.length by omega]
theorem Zno {D : List β} (hC : C.length = i * k) (hX : X.length = k) (hD : D.length = (n - i) * k) (hi : i ≤ n) (hZ : Z.length = (n + 1 - i) * k) : (C ++ X ++ Z.drop k).take ((i + 1) * k) ++ D.take ((n - i) * k) ++ (C ++ X ++ Z.drop k).drop ((i + 1) * k + (n - i) * k) = C ++ X ++ D := by
 have h1 : (C ++ X).length = (i + 1) * k := by rw [List.length_append, hC, hX, Nat.succ_mul]
 have hs : (i + 1) * k + (n - i) * k = (n + 1) * k := by rw [← Nat.add_mul]; congr 1; omega
 have hz : (n + 1 - i) * k = (n - i) * k + k := by rw [show n + 1 - i = (n - i) + 1 by omega, Nat.succ_mul]
 rw [← h1, List.take_left, ← hD, List.take_length, List.drop_of_length_le]
 ·rw [List.append_nil]
 simp only [List.length_append, List.length_drop, hZ, hz]; omega
theorem Znc {A Z : List β} (hA : A.length = n * k) (hZ : Z.length = k) (hi : i ≤ n) : (A ++ Z).take ((i + 1) * k) ++ ((A ++ Z).drop (i * k)).take ((n - i) * k) ++ (A ++ Z).drop ((i + 1) * k + (n - i) * k) = (A ++ Z).take ((i + 1) * k) ++ A.drop (i * k) := by
 have hs : (i + 1) * k + (n - i) * k = (n + 1) * k := by rw [← Nat.add_mul]; congr 1; omega
 have hm : i * k ≤ n * k := Nat.mul_le_mul_right k hi
 have hd : (n - i) * k = n * k - i * k := Nat.sub_mul ..
 have hx : (A ++ Z).drop ((n + 1) * k) = [] := List.drop_of_length_le (by rw [List.length_append, hA, hZ, Nat.succ_mul]; exact Nat.le_refl _)
 have h2 : ((A ++ Z).drop (i * k)).take ((n - i) * k) = A.drop (i * k) := by
  rw [List.drop_append_of_le_length (by omega), List.take_append_of_le_length (by rw [List.length_drop]; omega), List.take_of_length_le (by rw [List.length_drop]; omega)]
 rw [hs, hx, List.append_nil, h2]
theorem Znb {A : List β} (hA : A.length = n * k) (hZ : Z.length = k) (hX : X.length = k) (hi : i < n) : ((A ++ Z).take ((i + 1) * k) ++ A.drop (i * k)).take (i * k) ++ X.take (1 * k) ++ ((A ++ Z).take ((i + 1) * k) ++ A.drop (i * k)).drop (i * k + 1 * k) = A.take (i * k) ++ X ++ A.drop (i * k) := by
 have hm : (i + 1) * k ≤ n * k := Nat.mul_le_mul_right k hi
 have hs : (i + 1) * k = i * k + k := Nat.succ_mul ..
 rw [Nat.one_mul]
 conv => lhs; rw [← hX]
 rw [List.take_length, hX]
 have e1 : (A ++ Z).take ((i + 1) * k) = A.take ((i + 1) * k) := List.take_append_of_le_length (by omega)
 have l1 : (A.take ((i + 1) * k)).length = i * k + k := by rw [List.length_take]; omega
 rw [e1, List.take_append_of_le_length (by omega), List.take_take, show min (i * k) ((i + 1) * k) = i * k by omega, List.drop_append, l1, List.drop_of_length_le (by omega), List.nil_append, Nat.sub_self, List.drop_zero]
end
end Go.KLib

namespace Go.KLib
open Go.Sort
instance : Inhabited GEdge := ⟨⟨0, 0, 0, 0⟩⟩
section
variable {P : Program} {w : World} {l : KL} {dst : Option Tmp} {ty : TypeId} {pos : String} {aft : Array Go.Edge} {gd : Option (Nat × Bool)} {K : Value → World → Prop}
variable {α : Type} {cs : α → List Value} {e k n N m lo hi c i j : Nat} {v u sv : Value} {A : Option Addr} {xs ys : List Value} {X : List α}
theorem Zln (A : Option Addr) (n m c : Nat) : bl (.slice A n c) = bl (.slice A m c) := by cases A <;> simp [bl, Value.ownBlock]
theorem Ow.lec (h : Ow w e k (.slice A n c) n xs) : n ≤ c := by
 obtain ⟨_, A', c', hv, h1, _⟩ := h.sl
 injection hv with _ _ h3
 omega
theorem Ow.some (h : Ow w e k (.slice A n c) n xs) (h0 : 0 < n) : ∃ g off, A = some ⟨g, off, none⟩ := by
 obtain ⟨_, ⟨_, h1⟩ | ⟨g, off, cap, cur, hv, _⟩⟩ := h
 ·omega
 injection hv with h2 _ _
 exact ⟨g, off, h2⟩
theorem Zdm (h : Ow w e k (.slice A n c) n xs) (h0 : 0 < n) : cutV (.slice A n c) k 0 m = .slice A m c := by
 obtain ⟨g, off, rfl⟩ := h.some h0
 have := h.lec
 rw [Zhp (by omega)]; simp
theorem Ow.extA (h : Ow w e k (.slice A n c) n xs) (h0 : 0 < n) (hc : n < c) : ∃ z, z.length = k ∧ Ow w e k (.slice A (n + 1) c) (n + 1) (xs ++ z) := by
 obtain ⟨g, off, rfl⟩ := h.some h0
 exact h.ext hc
theorem Ow.cut0 (h : Ow w e k (.slice A n c) n xs) (h0 : 0 < n) (hi : i ≤ n) : Ow w e k (.slice A i c) i (xs.take (i * k)) := by
 have hk : i * k ≤ n * k := Nat.mul_le_mul_right k hi
 obtain ⟨hl, ⟨_, h1⟩ | ⟨g, off, cap, cur, hv, hg, hn, hm, hf, ht⟩⟩ := h
 ·omega
 injection hv with h2 _ h3
 subst h2 h3
 refine ⟨by rw [List.length_take, hl]; omega, .inr ⟨g, off, _, cur, rfl, hg, by omega, hm, hf, ?_⟩⟩
 rw [← ht, List.take_take, show min (i * k) (n * k) = i * k by omega]
theorem Ow.cutSl (h : Ow w e k v N xs) (h1 : lo ≤ hi) (h2 : hi ≤ N) : Sl w 0 w.heap.size k (cutV v k lo hi) (hi - lo) ((xs.drop (lo * k)).take ((hi - lo) * k)) := by
 have hk : lo * k + (hi - lo) * k ≤ N * k := by rw [← Nat.add_mul]; exact Nat.mul_le_mul_right k (by omega)
 obtain ⟨hl, A, c, rfl, hn, hm, hA⟩ := h.sl
 refine ⟨by rw [List.length_take, List.length_drop, hl]; omega, _, _, rfl, by omega, by omega, fun h0 => ?_⟩
 obtain ⟨ad, rfl, ha⟩ := hA (by omega)
 rw [if_neg (by omega)]
 exact ⟨ad.add (lo * k), rfl, ha.sub (lo * k) ((hi - lo) * k)⟩
theorem Zll {w' : World} {x : Operand} {t : TypeId} {Lo Hi : Option Operand} (ht : elB P t = some e) (hk : Zw P e = some k) (hx : ev l x = some (.slice A n c))
 (hL : bndB l Lo 0 lo) (hH : bndB l Hi n hi) (h1 : lo ≤ hi) (h2 : hi ≤ c) (hn : n ≤ c) (hv : cutV (.slice A n c) k lo hi = v) : Qo P l ⟨dst, .slice t x Lo Hi none, ty, pos, aft, gd⟩ w' v w' := hv ▸ Zco ht hk hx hL hH h1 h2 hn
theorem Znm {x a b d : Operand} {t : TypeId} {q1 q2 q3 : IntKind} {z1 z2 z3 : Int} (ht : elB P t = some e) (hk : Zw P e = some k) (hx : ev l x = some (.slice A n c)) (ha : ev l a = some (.int q1 z1)) (hb : ev l b = some (.int q2 z2)) (hd : ev l d = some (.int q3 z3))
   (h0 : 0 ≤ z1) (h1 : z1 ≤ z2) (h2 : z2 ≤ z3) (h3 : z3 ≤ c) (kk : K (sliced A z1.toNat z2.toNat z3.toNat k) w) : Step P l ⟨dst, .slice t x (some a) (some b) (some d), ty, pos, aft, gd⟩ w K := by
 refine Step.of (v := _) (w' := w) (fun ρ hρ => ?_) kk
 obtain ⟨hu, he⟩ := Zkc ht
 have hs : (sizeOf (P.elem t)).run P w = .ok k w := by rw [he]; exact Xz hk
 have e1 : (Instr.sliceAt t (.slice A n c) (some (.int q1 z1)) (some (.int q2 z2)) (some (.int q3 z3))).run P w = .ok (sliced A z1.toNat z2.toNat z3.toNat k) w := by
  rw [run_sliceAt_slice (P := P) (w := w) t _ _ _ _ hu, run_slice_lhm (P := P) (w := w) t A n c hu q1 q2 q3 z1 z2 z3 h0 h1 h2 h3, hs]; rfl
 unfold execOp
 simp only [Option.map_some, hρ _ _ hx, hρ _ _ ha, hρ _ _ hb, hρ _ _ hd, Sem.run_bind, e1, Result.andThen_ok, Sem.run_pure]
theorem Zmj {x y : Operand} {t tn : TypeId} {kq kn : IntKind} {by_ cap : Nat} {z : Value} {q : Int} (ht : elB P t = some e) (hk : Zw P e = some k) (hb : Qc P e = some by_) (hz : Yx P e = some z) (hzs : z.cells.size = k) (hk0 : 0 < k) (htn : P.underlying tn = some (.int kn))
   (ho : Ow w e k (.slice A n cap) n xs) (hA : ∃ g off, A = some ⟨g, off, none⟩) (hq : q = (m : Int)) (hN : n + m = N) (h0 : 0 < m) (hgr : cap < N) (h63 : N ≤ 9223372036854775807) (hbytes : N * by_ ≤ 140737488355328) (hx : ev l x = some (.slice A n cap)) (hy : ev l y = some (.int kq q))
   (kk : ∀ G w' Z, N ≤ G → Z.length = m * k → Ow w' e k (.slice (some ⟨w.heap.size, 0, none⟩) N G) N (xs ++ Z) → Ch [] w w' → K (.slice (some ⟨w.heap.size, 0, none⟩) N G) w') :
   Step P l ⟨dst, .call { callee := .builtin .append, args := #[x, y], argTypes := #[t, tn] }, ty, pos, aft, gd⟩ w K := by
 obtain ⟨g, off, rfl⟩ := hA
 subst hN hq
 exact Znl ht hk hb hz hzs hk0 htn ho h0 hgr h63 hbytes hx hy kk
theorem Zns {x y : Operand} {t r : TypeId} {ts : Array TypeId} {f : FuncId} {fn : Func} {e1 e2 c' : Nat} {A' : Option Addr} (hf : P.funcs[f]? = some fn) (hname : (fn.name == "runtime.NumGoroutine") = false)
   (hbd : fn.body.isNone = true) (hn : Extern.findNext fn = none) (he : Extern.find fn = some (Extern.SlicesOverlaps.overlaps #[t, t] #[r])) (ht : elB P t = some e) (hk : Zw P e = some k) (hk0 : 0 < k)
   (hv : Ow w e1 k (.slice A' m c') m ys) (h0 : 0 < m) (hs : Ow w e2 k v N xs) (hlo : lo < N) (hd : ∀ g ∈ bl v, g ∉ bl (.slice A' m c')) (hx : ev l x = some (.slice A' m c')) (hy : ev l y = some (cutV v k lo hi))
   (kk : K (.bool false) w) : Step P l ⟨dst, .call { callee := .value (.func f), args := #[x, y], argTypes := ts }, ty, pos, aft, gd⟩ w K := by
 obtain ⟨_, ⟨_, h1⟩ | ⟨a, o1, cap1, cur1, hv1, ha, hn1, hm1, hf1, _⟩⟩ := hv
 ·omega
 obtain ⟨_, ⟨_, h1⟩ | ⟨b, o2, cap2, cur2, rfl, hb, hn2, hm2, hf2, _⟩⟩ := hs
 ·omega
 injection hv1 with h2 _ h3
 subst h2 h3
 rw [Zhp (by omega)] at hy
 have hck : 1 * k ≤ cap2 * k := Nat.mul_le_mul_right k (by omega)
 refine s_ov hf hname hbd hn he ht hk hx hy ha hb ?_ ?_ kk
 ·rintro rfl
  exact hd a (by simp [bl, Value.ownBlock]) (by simp [bl, Value.ownBlock])
 omega
theorem Zlk {s v' : List α} {v : Value} (h : Ow w e k v (s.length + 1) ((s.flatMap cs).take (i * k) ++ v'.flatMap cs ++ (s.flatMap cs).drop (i * k))) (hv : v'.length = 1) (hi : i ≤ s.length) (hc : ∀ y, (cs y).length = k) : Ol cs e k w v (s.take i ++ v' ++ s.drop i) := by
 unfold Ol
 rw [List.flatMap_append, List.flatMap_append, Zdk hc, Zdo hc, show (s.take i ++ v' ++ s.drop i).length = s.length + 1 by simp only [List.length_append, List.length_take, List.length_drop]; omega]
 exact h
end
section
variable {β : Type} {Z : List β} {i n k : Nat}
theorem Zlt {A : List β} (hA : A.length = n * k) (hZ : Z.length = k) (hi : i ≤ n) : (A ++ Z).take ((i + 1) * k) ++ (((A ++ Z).drop (i * k)).take ((n + 1 - i) * k)).take ((n - i) * k) ++ (A ++ Z).drop ((i + 1) * k + (n - i) * k) = (A ++ Z).take ((i + 1) * k) ++ A.drop (i * k) := by
 have : (n - i) * k ≤ (n + 1 - i) * k := Nat.mul_le_mul_right k (by omega)
 rw [List.take_take, show min ((n - i) * k) ((n + 1 - i) * k) = (n - i) * k by omega]
 exact Znc hA hZ hi
theorem Zma {A : List β} (hA : A.length = n * k) (hZ : Z.length = k) (hi : i ≤ n) : (((A ++ Z).drop (i * k)).take ((n + 1 - i) * k)).take ((n - i) * k) = A.drop (i * k) := by
 have h1 : (n - i) * k ≤ (n + 1 - i) * k := Nat.mul_le_mul_right k (by omega)
 have hd : (n - i) * k = n * k - i * k := Nat.sub_mul ..
 have hm : i * k ≤ n * k := Nat.mul_le_mul_right k hi
 rw [List.take_take, show min ((n - i) * k) ((n + 1 - i) * k) = (n - i) * k by omega, List.drop_append_of_le_length (by omega), List.take_append_of_le_length (by rw [List.length_drop]; omega), List.take_of_length_le (by rw [List.length_drop]; omega)]
theorem Zdr {D : List β} (hD : D.length = n * k) : (D.drop (i * k)).take ((n - i) * k) = D.drop (i * k) := List.take_of_length_le (by rw [List.length_drop, hD, Nat.sub_mul]; exact Nat.le_refl _)
end
theorem Zin {α : Type} {cs : α → List Value} {s : List α} {m : Nat} (h1 : ∀ x, ∀ y ∈ cs x, y.oneCell' = true) : ∀ y ∈ (s.flatMap cs).drop m, y.oneCell' = true := fun y hy => by
 obtain ⟨a, _, ha⟩ := List.mem_flatMap.1 (List.mem_of_mem_drop hy)
 exact h1 a y ha
theorem Zip {α : Type} {cs : α → List Value} {s : List α} {m : Nat} (h1 : ∀ x, ∀ y ∈ cs x, y.oneCell' = true) : ∀ y ∈ (s.flatMap cs).take m, y.oneCell' = true := fun y hy => by
 obtain ⟨a, _, ha⟩ := List.mem_flatMap.1 (List.mem_of_mem_take hy)
 exact h1 a y ha
section
variable {P : Program} {w : World} {l : KL} {dst : Option Tmp} {ty : TypeId} {pos : String} {aft : Array Go.Edge} {gd : Option (Nat × Bool)} {K : Value → World → Prop}
variable {α : Type} {cs : α → List Value} {e k n m i j c by_ N : Nat} {z : Value} {A : Option Addr} {s : List α}
theorem Zmb {x y : Operand} {t : TypeId} (ht : elB P t = some e) (hk : Zw P e = some k) (hb : Qc P e = some by_) (hz : Yx P e = some z) (hs : Ol cs e k w (.slice A s.length c) s) (hc : ∀ x, (cs x).length = k) (h1 : ∀ x, ∀ y ∈ cs x, y.oneCell' = true)
   (hij : i ≤ j) (hj : j ≤ s.length) (h0 : 0 < s.length) (hN : i + (s.length - j) = N) (hx : ev l x = some (cutV (.slice A s.length c) k 0 i)) (hy : ev l y = some (cutV (.slice A s.length c) k j s.length))
   (kk : ∀ w', Ol cs e k w' (.slice A s.length c) (s.take i ++ s.drop j ++ s.drop N) → Ch (bl (.slice A s.length c)) w w' → K (.slice A N c) w') :
   Step P l ⟨dst, .call { callee := .builtin .append, args := #[x, y], argTypes := #[t, t] }, ty, pos, aft, gd⟩ w K := by
 subst hN
 obtain ⟨inf, hi, hiz, his, hib⟩ := Zgu hk hb hz
 have hel := Qd ht
 have hle := Ow.lec hs
 rw [Zdm hs h0] at hx
 have hsl := Ow.cutSl hs hj (Nat.le_refl s.length)
 obtain ⟨g, off, rfl⟩ := Ow.some hs h0
 obtain ⟨hl, ⟨_, h2⟩ | ⟨g', off', cap, cur, hv, hg, hn, hm, hf, htk⟩⟩ := hs
 ·omega
 injection hv with hv _ h3
 injection hv with hv; injection hv with hv1 hv2
 subst hv1 hv2 h3
 subst his
 obtain ⟨hyl, B, d, hB, hmc, hcm, hBA⟩ := hsl
 have hds : (((s.flatMap cs).drop (j * inf.size)).take ((s.length - j) * inf.size)) = (s.drop j).flatMap cs := by rw [Zdo hc, Zdr hl]
 rw [hds] at hyl hBA
 have hjl : i * inf.size + (s.length - j) * inf.size ≤ s.length * inf.size := by rw [← Nat.add_mul]; exact Nat.mul_le_mul_right _ (by omega)
 have hcl : s.length * inf.size ≤ c * inf.size := Nat.mul_le_mul_right _ hle
 have hb2 : ∃ ad, B = some ad ∧ ∀ q u, ((s.drop j).flatMap cs)[q]? = some u → w.cell? (ad.add q) = some u := by
  rcases Nat.eq_zero_or_pos (s.length - j) with h | h
  ·simp only [cutV, sliced, Option.map_some] at hB
   injection hB with hB _ _
   refine ⟨if c = j then ⟨g, off, none⟩ else (⟨g, off, none⟩ : Addr).add (j * inf.size), by rw [← hB]; by_cases h9 : c = j <;> simp [h9], fun q u hu => ?_⟩
   rw [List.drop_of_length_le (by omega)] at hu
   simp at hu
  obtain ⟨ad, h5, h6⟩ := hBA h
  exact ⟨ad, h5, h6.2⟩
 obtain ⟨ad, rfl, had⟩ := hb2
 rw [hB] at hy
 have hr := Zbi (P := P) (w := w) (t := t) (ty := ty) (c := d) (off := off) (n := i) (m := s.length - j) (cap := c) (news := (s.drop j).flatMap cs) hel hi hg hyl had (fun y hy => by obtain ⟨a, _, ha⟩ := List.mem_flatMap.1 hy; exact h1 a y ha) (by omega) (by omega)
 refine Step.of (v := .slice (some ⟨g, off, none⟩) (i + (s.length - j)) c) (w' := w.setRow g (cur.toList.take (off + i * inf.size) ++ (s.drop j).flatMap cs ++ cur.toList.drop (off + i * inf.size + ((s.drop j).flatMap cs).length)).toArray) (fun ρ hρ => ?_) (kk _ ?_ (Ch.setRow w g _))
 ·unfold execOp
  simp only [resolve, invoke, builtin, Sem.run_bind, Sem.run_pure, Result.andThen_ok, List.map_toArray, List.map_cons, List.map_nil, hρ _ _ hx, hρ _ _ hy, hr]
 have hlen : (s.take i ++ s.drop j ++ s.drop (i + (s.length - j))).length = s.length := by simp only [List.length_append, List.length_take, List.length_drop]; omega
 refine ⟨by rw [flat_len hc], .inr ⟨g, off, c, _, by rw [hlen], Zac hg, by omega, hm, ?_, ?_⟩⟩
 ·simp only [List.size_toArray, List.length_append, List.length_take, List.length_drop, Array.length_toList, hyl]; omega
 have hcl2 : cur.toList.length = cur.size := Array.length_toList
 have := Zgo cur.toList ((s.drop j).flatMap cs) off (i * inf.size) (s.length * inf.size) (by omega) (by rw [hyl]; exact hjl)
 rw [hlen, List.flatMap_append, List.flatMap_append, Zdk hc, Zdo hc s (i + (s.length - j)), ← htk]
 refine this.trans ?_
 rw [hyl, ← Nat.add_mul]
theorem Ol.short {X : List α} (h : Ol cs e k w (.slice A n c) X) (hn : X.length = n) (h0 : 0 < n) (hm : m ≤ n) (hc : ∀ x, (cs x).length = k) : Ol cs e k w (.slice A m c) (X.take m) := by
 subst hn
 have h2 := h.cut hc (Nat.zero_le m) hm
 rw [Zdm h h0] at h2
 simpa using h2
theorem Zmc (hij : i < s.length) (hN : N + 1 = s.length) : (s.take i ++ s.drop (i + 1) ++ s.drop N).length = s.length := by simp only [List.length_append, List.length_take, List.length_drop]; omega
theorem Zlb (Z : List α) (hij : i < s.length) (hN : N + 1 = s.length) : ((s.take i ++ s.drop (i + 1) ++ s.drop N).take N ++ Z).take N = s.take i ++ s.drop (i + 1) := by
 have h1 : (s.take i ++ s.drop (i + 1)).length = N := by simp only [List.length_append, List.length_take, List.length_drop]; omega
 have h2 : (s.take i ++ s.drop (i + 1) ++ s.drop N).take N = s.take i ++ s.drop (i + 1) := by rw [← h1, List.take_left]
 rw [h2, ← h1, List.take_left]
end
theorem Zgi {V : List Int} {E : List GEdge} {l : List Chg} {m : Nat} (hv : Qq V E) (hm : l.length ≤ m) : apE V E l m = (apL V E l).getD E ∧ tt (ApOk V E l m) = (apL V E l).isSome := by
 cases h : apL V E l with
 | some F => exact ap_y hv hm h
 | none => exact ap_n (Zaq h)
noncomputable def abg (G : List GD) (C : List Chg) : GD := match G[G.length - 1]? with
 | some z => ⟨z.V, apE z.V z.E C 6⟩
 | none => ⟨[], []⟩
def AbOk (F : Int) (G : List GD) (C : List Chg) : Prop := (Zbh F G ∧ ¬ lvR F G = 999) ∧ ∃ z, G[G.length - 1]? = some z ∧ ApOk z.V z.E C 6
noncomputable def abG (F : Int) (G : List GD) (C : List Chg) : List GD := bif tt (AbOk F G C) then (if 8 < G.length + 1 then (G ++ [abg G C]).drop 1 else G ++ [abg G C]) else G
noncomputable def abF (F : Int) (G : List GD) (C : List Chg) : Int := bif tt (AbOk F G C) then (if 8 < G.length + 1 then F + 1 else F) else F
section
variable {F : Int} {G : List GD} {C : List Chg} {z : GD} {i : Nat}
theorem Xe (h : ¬ lvR F G = 0) : Zbh F G := Classical.byContradiction fun q => h (lv_n q).symm
theorem Qf (h : lvR F G = 0) : ¬ Zbh F G := fun q => by have := lv_y q; have h1 := q.2.1; have h2 := q.2.2; omega
theorem Qm (h : ¬ Zbh F G) : ¬ AbOk F G C := fun q => h q.1.1
theorem Ql (h : lvR F G = 999) : ¬ AbOk F G C := fun q => q.1.2 h
theorem Qn (hz : G[G.length - 1]? = some z) (h : ¬ ApOk z.V z.E C 6) : ¬ AbOk F G C := fun q => by
 obtain ⟨y, hy, h2⟩ := q.2
 rw [hz] at hy; injection hy with hy; subst hy
 exact h h2
theorem Yd (h1 : Zbh F G) (h2 : ¬ lvR F G = 999) (hz : G[G.length - 1]? = some z) (h : ApOk z.V z.E C 6) : AbOk F G C := ⟨⟨h1, h2⟩, z, hz, h⟩
theorem Yc (h : ¬ AbOk F G C) : G = abG F G C ∧ F = abF F G C ∧ false = tt (AbOk F G C) := by
 unfold abG abF; rw [← Zs h]; exact ⟨rfl, rfl, rfl⟩
theorem Xg (h : AbOk F G C) (hz : G[G.length - 1]? = some z) (h8 : 8 < G.length + 1) : (G ++ [(⟨z.V, apE z.V z.E C 6⟩ : GD)]).drop 1 = abG F G C ∧ F + 1 = abF F G C ∧ true = tt (AbOk F G C) := by
 unfold abG abF abg; rw [← Zaz h, if_pos h8, if_pos h8, hz]; exact ⟨rfl, rfl, rfl⟩
theorem Xh (h : AbOk F G C) (hz : G[G.length - 1]? = some z) (h8 : ¬ 8 < G.length + 1) : G ++ [(⟨z.V, apE z.V z.E C 6⟩ : GD)] = abG F G C ∧ F = abF F G C ∧ true = tt (AbOk F G C) := by
 unfold abG abF abg; rw [← Zaz h, if_neg h8, if_neg h8, hz]; exact ⟨rfl, rfl, rfl⟩
end
theorem Zld {V : List Int} {E F : List GEdge} {c : Chg} (h : Zbo V E c = some F) : F.length ≤ E.length + 1 := by
 unfold Zbo at h
 have h1 := Zfg V E c.edge
 have h2 := Zfh V E c.eid
 cases hi : c.ins <;> rw [hi] at h
 ·cases hm : decide (c.edge ∈ E) <;> rw [hm] at h
  ·cases h
  cases hd : (delR V E c.eid).2 <;> rw [hd] at h
  ·cases h
  injection h with h; subst h; omega
 cases hd : (Qr V E c.edge).2 <;> rw [hd] at h
 ·cases h
 injection h with h; subst h; exact h1
theorem Zjs {V : List Int} : ∀ (l : List Chg) (E F : List GEdge), apL V E l = some F → F.length ≤ E.length + l.length
 | [], E, F, h => by
  have h : some E = some F := h
  injection h with h; subst h; simp
 | c :: l, E, F, h => by
  unfold apL at h
  rw [List.foldlM_cons] at h
  cases hs : Zbo V E c with
  | none => rw [hs] at h; cases h
  | some E' =>
   rw [hs] at h
   have h1 := Zld hs
   have h2 := Zjs l E' F h
   rw [List.length_cons]; omega
theorem Zlv (V : List Int) (E : List GEdge) (l : List Chg) (m : Nat) : (apE V E l m).length ≤ E.length + m := by
 by_cases h : ApOk V E l m
 ·obtain ⟨hv, hm, hs⟩ := h
  obtain ⟨F, hF⟩ := Option.isSome_iff_exists.1 hs
  rw [(ap_y hv hm hF).1]
  have := Zjs l E F hF
  omega
 rw [(ap_n h).1]; omega
theorem Zmk (F : Int) (G : List GD) (C : List Chg) : (abG F G C).length ≤ G.length + 1 ∧ Xi (abG F G C) ≤ Xi G + 23 := by
 by_cases h : AbOk F G C
 ·obtain ⟨⟨hv, _⟩, z, hz, _⟩ := id h
  have hg := Zjp hv hz
  have ha := Zlv z.V z.E C 6
  have hs : Xi (G ++ [(⟨z.V, apE z.V z.E C 6⟩ : GD)]) ≤ Xi G + 23 := by
   unfold Xi; rw [List.map_append, List.sum_append]; simp; omega
  have hd : Xi ((G ++ [(⟨z.V, apE z.V z.E C 6⟩ : GD)]).drop 1) ≤ Xi (G ++ [(⟨z.V, apE z.V z.E C 6⟩ : GD)]) := by
   have e : Xi (G ++ [(⟨z.V, apE z.V z.E C 6⟩ : GD)]) = Xi ((G ++ [(⟨z.V, apE z.V z.E C 6⟩ : GD)]).take 1) + Xi ((G ++ [(⟨z.V, apE z.V z.E C 6⟩ : GD)]).drop 1) := by
    unfold Xi; rw [← List.sum_append, ← List.map_append, List.take_append_drop]
   omega
  by_cases h8 : 8 < G.length + 1
  ·rw [← (Xg h hz h8).1]; exact ⟨by simp, by omega⟩
  rw [← (Xh h hz h8).1]; exact ⟨by simp, hs⟩
 rw [← (Yc h).1]; exact ⟨by omega, by omega⟩
theorem Zhv : ∀ (a : List GD), Xx a ≤ 4 * Xi a
 | [] => by simp [Xx]
 | x :: a => by
  have := Zhv a
  unfold Xx Xi at *
  simp only [List.map_cons, List.sum_cons]; omega
section
open Go.ChangeShapes Go.WideShapes Go.ChangeAt Go.RowKit Go.Deep Go.Joins
variable {H : Type} {enc : TypeId × Value → H} {P : Program} {w : World} {base : Nat} {spare : Nat → Bool} {held : Bool}
def chgB (P : Program) (t : TypeId) : Bool := P.cellsOf t == 5 && match P.underlying t with
 | some (.struct fs) => (match fs.toList with
  | [f0, f1] => f0.offset == 0 && P.cellsOf f0.type == 1 && (match P.underlying f0.type with | some .bool => true | _ => false) && f1.offset == 1 && P.cellsOf f1.type == 4 && Zfd P f1.type 4
  | _ => false)
 | _ => false
theorem Zkx {t : TypeId} {fuel : Nat} {cs : List Value} {x : DataW H × List MemPlace} (hb : chgB P t = true) (h : DataW.trod enc P w base spare held fuel t cs = some x) : ∃ p : Chg, cs = p.cs := by
 unfold chgB at hb
 cases hu : P.underlying t with
 | none => simp [hu] at hb
 | some d =>
  cases d with
  | struct fs =>
   obtain ⟨fs⟩ := fs
   match fs, hb, hu with
   | [f0, f1], hb, hu =>
    simp only [hu, Bool.and_eq_true, beq_iff_eq] at hb
    obtain ⟨h0, ⟨⟨⟨⟨⟨a1, a2⟩, a3⟩, a4⟩, a5⟩, a6⟩⟩ := hb
    obtain ⟨y0, y1, n, _, hl, g0, g1⟩ := trod_struct2 hu h
    rw [a1, a2] at g0
    rw [a4, a5] at g1
    have hbool : P.underlying f0.type = some .bool := by split at a3; assumption; cases a3
    obtain ⟨b, hb0, _⟩ := DataW.trod_bool hbool g0
    obtain ⟨p, hp⟩ := Zgp a6 g1
    refine ⟨⟨b, p.id, p.f, p.t, p.label⟩, ?_⟩
    match cs, hl.trans h0 with
    | [c0, c1, c2, c3, c4], _ =>
     have e0 : [c0] = [Value.bool b] := hb0
     have e1 : [c1, c2, c3, c4] = p.cs := hp
     injection e0 with e0
     show c0 :: [c1, c2, c3, c4] = _
     rw [e0, e1]; rfl
   | [], hb, hu => simp [hu] at hb
   | [_], hb, hu => simp [hu] at hb
   | _ :: _ :: _ :: _, hb, hu => simp [hu] at hb
  | _ => simp [hu] at hb
end
end Go.KLib

namespace Go.KLib
section
variable {V : List Int} {E F : List GEdge} {e : GEdge} {c : Chg} {l : List Chg} {m i : Nat}
end
section
variable {F : Int} {G H : List GD} {C : List Chg} {x z : GD} {n v : Int}
end
end Go.KLib

namespace Go.KLib
theorem om {P : Prop} (h : P := by omega) : P := h
theorem bd {P : Prop} (h : P := by first | omega | (simp only [List.length_append, List.length_nil, List.length_cons, List.length_replicate, List.length_set, List.length_reverse, List.length_map] at *; omega) | (simp at *; omega)) : P := h
section
variable {α : Type} {cs : α → List Value} {e k : Nat} {w : World} {v : Value} {xs : List α} {L B b c lo hi : Nat} {P : Nat → Prop}
theorem Ol.opn (h : Ol cs e k w v xs) : ∃ A C, v = .slice A xs.length C ∧ xs.length ≤ 9223372036854775807 ∧ ∀ g ∈ bl v, g < w.heap.size := by
 obtain ⟨A, C, e⟩ := h.val
 exact ⟨A, C, e, h.len, h.lt⟩
theorem nS (h : b ≠ c) : b ∉ [c] := fun q => h (List.mem_singleton.1 q)
theorem lS (h : lo ≤ b) : ∀ i ∈ [b], lo ≤ i ∨ P i := fun i q => .inl (by rw [List.mem_singleton.1 q]; exact h)
theorem oS (h : P b) : ∀ i ∈ [b], P i := fun i q => by rw [List.mem_singleton.1 q]; exact h
theorem dS (h1 : Lo lo v) (h2 : ∀ g ∈ bl v, g < hi) (h : b < lo ∨ hi ≤ b) : ∀ g ∈ bl v, g ∉ [b] := fun g hg hm => by
 have q := List.mem_singleton.1 hm
 have a := h1 g hg
 have z := h2 g hg
 omega
end
section
variable {P : Program} {N : Nat} {ops : Array Oper} {Q : Po} {l : KL} {w : World} {o : Oper} {S : World → Prop} {fuel : Nat} {listed : Array Bool} {v : Value}
theorem dT (i : Nat) (hi : ops[i]? = some o) (hd : dOk N o.dst = true) (hg : Zep ops l o = some true) (h : Tk P S l o fun v => DR P N ops Q S fuel (listed.setIfInBounds i true) (pu l o.dst v) w) (hk : Zej ops listed i = true := by kernel_rfl) : DR P N ops Q S (fuel + 1) listed l w := DR_s i hi hk hd hg h
theorem dV (i : Nat) (hi : ops[i]? = some o) (hd : dOk N o.dst = true) (hg : Zep ops l o = some true) (hv : ∀ w, Qo P l o w v w) (h : DR P N ops Q S fuel (listed.setIfInBounds i true) (pu l o.dst v) w) (hk : Zej ops listed i = true := by kernel_rfl) : DR P N ops Q S (fuel + 1) listed l w := DR_s i hi hk hd hg (t_v hv h)
theorem dK (i : Nat) (hi : ops[i]? = some o) (hd : dOk N o.dst = true) (hg : Zep ops l o = some false) (h : DR P N ops Q S fuel (listed.setIfInBounds i true) (pu l o.dst undef) w) (hk : Zej ops listed i = true := by kernel_rfl) : DR P N ops Q S (fuel + 1) listed l w := Zmi i hi hk hd hg h
theorem dO (i : Nat) (h : DO P N ops Q S fuel listed i l w) (hr : Region.ready .any ops listed = [i] := by kernel_rfl) : DR P N ops Q S (fuel + 1) listed l w := Zmy i hr h
end
section
variable {l l9 : KL}
theorem sC1 {t0 : Nat} {v0 : Value} (h0 : look l9 t0 = some v0) (h : Sub l l9) : Sub ((t0, v0) :: l) l9 := (Sub.cons h0 h)
theorem sC2 {t0 t1 : Nat} {v0 v1 : Value} (h0 : look l9 t0 = some v0) (h1 : look l9 t1 = some v1) (h : Sub l l9) : Sub ((t0, v0) :: (t1, v1) :: l) l9 := (Sub.cons h0 (Sub.cons h1 h))
theorem sC4 {t0 t1 t2 t3 : Nat} {v0 v1 v2 v3 : Value} (h0 : look l9 t0 = some v0) (h1 : look l9 t1 = some v1) (h2 : look l9 t2 = some v2) (h3 : look l9 t3 = some v3) (h : Sub l l9) : Sub ((t0, v0) :: (t1, v1) :: (t2, v2) :: (t3, v3) :: l) l9 := (Sub.cons h0 (Sub.cons h1 (Sub.cons h2 (Sub.cons h3 h))))
theorem sC8 {t0 t1 t2 t3 t4 t5 t6 t7 : Nat} {v0 v1 v2 v3 v4 v5 v6 v7 : Value} (h0 : look l9 t0 = some v0) (h1 : look l9 t1 = some v1) (h2 : look l9 t2 = some v2) (h3 : look l9 t3 = some v3) (h4 : look l9 t4 = some v4) (h5 : look l9 t5 = some v5) (h6 : look l9 t6 = some v6) (h7 : look l9 t7 = some v7) (h : Sub l l9) : Sub ((t0, v0) :: (t1, v1) :: (t2, v2) :: (t3, v3) :: (t4, v4) :: (t5, v5) :: (t6, v6) :: (t7, v7) :: l) l9 := (Sub.cons h0 (Sub.cons h1 (Sub.cons h2 (Sub.cons h3 (Sub.cons h4 (Sub.cons h5 (Sub.cons h6 (Sub.cons h7 h))))))))
end
end Go.KLib

