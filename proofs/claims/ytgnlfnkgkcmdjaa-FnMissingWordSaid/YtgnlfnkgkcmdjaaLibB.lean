/- The library of this proof: a logic of the code's forms, memory, data, and plain laws. It speaks of no program. -/
import Derived.WalkKit
import Derived.OrdersHeld
import Derived.WalkLawsBesides
import Derived.WalkSpells
import Derived.ProofKit
import Derived.Deep.Slices
import Derived.Deep.Fields
import Derived.Lib.SmallJoins
import Derived.Laws.Append
import Derived.Laws.CopyRow
import Derived.Laws.AppendOwn
import Derived.Laws.Small
import Derived.Shelf.Sort.Plain
import Derived.Shelf.Slices.CompactI
import Derived.Shelf.Slices.Delete
import Derived.Ground.NamesProg
import Derived.Ground.Names2Prog
import Derived.Shelf.Lay
import Derived.Shelf.Slices.In.SortNone
import Derived.MapKept
import Derived.Ground.SlsfProg
import Derived.Shelf.SlSortCmp.NoneTotal
import Derived.Laws.BytesString
import Derived.Laws.Strings2
import Derived.Laws.Concat
import Derived.Test.YtgnlfnkgkcmdjaaLibA

namespace Go.KLib
structure Qt (T : Type) where
 x : T
 s : Sv
abbrev Qs := Qt St2
abbrev Qi := Qt Int
def Qs.cs (q : Qs) : List Value := [.int .i64 q.x.a, .int .i64 q.x.b, .slice q.s.A q.s.n q.s.c]
def Qi.cs (q : Qi) : List Value := [.int .i64 q.x, .slice q.s.A q.s.n q.s.c]
theorem Qs.len (s : Qs) : (Qs.cs s).length = 3 := rfl
theorem Qi.len (s : Qi) : (Qi.cs s).length = 2 := rfl
theorem Qs.one (x : Qs) : ∀ y ∈ Qs.cs x, y.oneCell' = true := by intro y hy; simp [Qs.cs] at hy; rcases hy with rfl | rfl | rfl <;> rfl
theorem Qi.one (x : Qi) : ∀ y ∈ Qi.cs x, y.oneCell' = true := by intro y hy; simp [Qi.cs] at hy; rcases hy with rfl | rfl <;> rfl
section
variable {T : Type}
def zq (E : List (T × List Int)) (V : List Sv) : List (Qt T) := List.zipWith (fun e s => ⟨e.1, s⟩) E V
theorem Zde {E : List (T × List Int)} {V : List Sv} (h : V.length = E.length) : (zq E V).length = E.length := by simp [zq, h]
theorem Zui {E : List (T × List Int)} {V : List Sv} {e : T × List Int} {s : Sv} (h : V.length = E.length) : zq (E ++ [e]) (V ++ [s]) = zq E V ++ [⟨e.1, s⟩] := by
 unfold zq; rw [List.zipWith_append h.symm]; rfl
theorem Zvy {E : List (T × List Int)} {V : List Sv} {k : Nat} {y : Qt T} (h : ((zq E V).drop k)[0]? = some y) : ∃ x u s, E[k]? = some (x, u) ∧ V[k]? = some s ∧ y = ⟨x, s⟩ := by
 rw [List.getElem?_drop, Nat.add_zero] at h
 unfold zq at h
 rw [List.getElem?_zipWith] at h
 rcases hE : E[k]? with _ | ⟨x, u⟩
 ·rw [hE] at h; simp at h
 rcases hV : V[k]? with _ | s
 ·rw [hE, hV] at h; simp at h
 rw [hE, hV] at h; simp at h; exact ⟨x, u, s, rfl, rfl, h.symm⟩
theorem Zhr {E : List (T × List Int)} {V : List Sv} {k : Nat} {e : T × List Int} {s : Sv} (h : V.length = E.length) (hk : k ≤ E.length) : (zq (E ++ [e]) (V ++ [s])).drop k = (zq E V).drop k ++ [⟨e.1, s⟩] := by
 rw [Zui h, List.drop_append_of_le_length (by rw [Zde h]; exact hk)]
end
section
variable {T : Type} [DecidableEq T] {nx : T → Nat → T} {t0 : T} {ts : T → Bool}
theorem bx_y {e : T × List Int} {E : List (T × List Int)} {m : Nat} (h : nx e.1 m ∈ (bx nx e E m).map (·.1)) : bx nx e E (m + 1) = bx nx e E m := by
 show (if _ then _ else _) = _
 rw [if_pos h]
theorem bx_n {e : T × List Int} {E : List (T × List Int)} {m : Nat} (h : ¬ nx e.1 m ∈ (bx nx e E m).map (·.1)) : bx nx e E (m + 1) = bx nx e E m ++ [(nx e.1 m, e.2 ++ [(m : Int)])] := by
 show (if _ then _ else _) = _
 rw [if_neg h]
theorem Zmm {e : T × List Int} {E : List (T × List Int)} {n : Nat} (hE : ∀ x ∈ E, x.2.length ≤ n) (he : e.2.length < n) : ∀ m, ∀ x ∈ bx nx e E m, x.2.length ≤ n
 | 0 => hE
 | m + 1 => by
  unfold bx; split
  ·exact Zmm hE he m
  intro x hx
  rcases List.mem_append.1 hx with hx | hx
  ·exact Zmm hE he m x hx
  rw [List.mem_singleton.1 hx]; simp; omega
theorem Zjt : ∀ k, ∀ x ∈ bE nx t0 k, x.2.length ≤ k
 | 0 => fun x hx => by rw [show bE nx t0 0 = [(t0, [])] from rfl, List.mem_singleton] at hx; rw [hx]; exact Nat.le_refl _
 | k + 1 => by
  have ih := Zjt k
  rcases hq : (bE nx t0 k)[k]? with _ | e
  ·rw [Zfs (List.getElem?_eq_none_iff.1 hq)]; intro x hx; have := ih x hx; omega
  rw [Zah hq]
  have := ih e (Yv hq)
  exact Zmm (fun x hx => by have := ih x hx; omega) (by omega) 9
theorem Zam {k : Nat} {e : T × List Int} (h : (bE nx t0 k)[k]? = some e) (ht : ts e.1 = true) (hf : ∀ j x, j < k → (bE nx t0 j)[j]? = some x → ts x.1 = false) : BRes nx t0 ts (e.2, true) := .inl ⟨rfl, k, e, h, ht, rfl, hf⟩
theorem Zag {k : Nat} (h : (bE nx t0 k).length ≤ k) (hf : ∀ j x, j < k → (bE nx t0 j)[j]? = some x → ts x.1 = false) : BRes nx t0 ts ([], false) := .inr ⟨rfl, k, h, hf⟩
theorem Zdx {k : Nat} {e : T × List Int} (hf : ∀ j x, j < k → (bE nx t0 j)[j]? = some x → ts x.1 = false) (h : (bE nx t0 k)[k]? = some e) (ht : ts e.1 = false) : ∀ j x, j < k + 1 → (bE nx t0 j)[j]? = some x → ts x.1 = false := by
 intro j x hj hx
 rcases Nat.lt_or_ge j k with q | q
 ·exact hf j x q hx
 have : j = k := by omega
 subst this; rw [h] at hx; injection hx with hx; rw [← hx]; exact ht
end
def nxI (N : List (List Int)) (s : Int) (k : Nat) : Int := Yd N s k
def nxS (N M : List (List Int)) (s : St2) (k : Nat) : St2 := ⟨Yd N s.a k, Yd M s.b k⟩
def tsD (A B : List Bool) (only : Bool) (x : St2) : Bool := (Qy B x.b && !Qy A x.a) || (Qy A x.a && !Qy B x.b && !only)
def inA (A : List Bool) (x : Int) : Prop := -1 ≤ x ∧ x ≤ (A.length : Int) - 1
def inS (A B : List Bool) (x : St2) : Prop := inA A x.a ∧ inA B x.b
section
variable {SA SB : Int} {A B : List Bool} {N M : List (List Int)}
theorem Zjv (e : Yz SA A N) {s : Int} (hs : inA A s) (k : Nat) : ∀ x ∈ bE (nxI N) s k, inA A x.1 :=
 Zky (Q := inA A) hs (fun t k ht _ => Zex e ht) k
theorem Zhx (e : Yz SA A N) (e' : Yz SB B M) {s : St2} (hs : inS A B s) (k : Nat) : ∀ x ∈ bE (nxS N M) s k, inS A B x.1 :=
 by
 refine Zky (Q := inS A B) hs (fun t j ht _ => ?_) k
 have h1 : inA A (Yd N t.a j) := Zex e ht.1
 have h2 : inA B (Yd M t.b j) := Zex e' ht.2
 exact ⟨h1, h2⟩
theorem lenI (e : Yz SA A N) {s : Int} (hs : inA A s) (k : Nat) : (bE (nxI N) s k).length ≤ 13 := by
 have h1 := e.1
 have := Zic (fun x : Int => (x + 1).toNat) 13 (Zhf (nx := nxI N) (t0 := s) k) (fun x hx y hy h => by
  obtain ⟨a, ha, rfl⟩ := List.mem_map.1 hx
  obtain ⟨b, hb, rfl⟩ := List.mem_map.1 hy
  have p := Zjv e hs k a ha
  have q := Zjv e hs k b hb
  unfold inA at p q
  omega) (fun x hx => by
  obtain ⟨a, ha, rfl⟩ := List.mem_map.1 hx
  have p := Zjv e hs k a ha
  unfold inA at p
  omega)
 simpa using this
theorem lenS (e : Yz SA A N) (e' : Yz SB B M) {s : St2} (hs : inS A B s) (k : Nat) : (bE (nxS N M) s k).length ≤ 169 := by
 have h1 := e.1
 have h2 := e'.1
 have := Zic (fun x : St2 => (x.a + 1).toNat * 13 + (x.b + 1).toNat) 169 (Zhf (nx := nxS N M) (t0 := s) k) (fun x hx y hy h => by
  obtain ⟨a, ha, rfl⟩ := List.mem_map.1 hx
  obtain ⟨b, hb, rfl⟩ := List.mem_map.1 hy
  have p := Zhx e e' hs k a ha
  have q := Zhx e e' hs k b hb
  unfold inS inA at p q
  have h3 : a.1.a = b.1.a := by omega
  have h4 : a.1.b = b.1.b := by omega
  obtain ⟨⟨_, _⟩, _⟩ := a
  obtain ⟨⟨_, _⟩, _⟩ := b
  simp only at h3 h4
  rw [h3, h4]) (fun x hx => by
  obtain ⟨a, ha, rfl⟩ := List.mem_map.1 hx
  have p := Zhx e e' hs k a ha
  unfold inS inA at p
  omega)
 simpa using this
theorem Zwj (s : St2) (v : List Int) : (runT (nxS N M) s v).b = runT (nxI M) s.b v := by
 induction v using Zcz with
 | h0 => rfl
 | h1 v c ih => rw [Zca, Zca]; show Yd M _ _ = Yd M _ _; rw [ih]
theorem Zwn (s : St2) (v : List Int) : (runT (nxS N M) s v).a = runT (nxI N) s.a v := by
 induction v using Zcz with
 | h0 => rfl
 | h1 v c ih => rw [Zca, Zca]; show Yd N _ _ = Yd N _ _; rw [ih]
end
def difF (A : List Bool) (N : List (List Int)) (B : List Bool) (M : List (List Int)) (s : St2) (only : Bool) (v : List Int) : Bool := tsD A B only (runT (nxS N M) s v)
noncomputable def difR (A : List Bool) (N : List (List Int)) (B : List Bool) (M : List (List Int)) (s : St2) (only : Bool) : List Int × Bool := lwF (difF A N B M s only)
noncomputable def msR (SA : Int) (A : List Bool) (N : List (List Int)) (SB : Int) (B : List Bool) (M : List (List Int)) : List Int × Bool := by
 classical exact if Yz SA A N ∧ Yz SB B M then difR A N B M ⟨SA, SB⟩ true else ([], false)
noncomputable def saR (S : Int) (A : List Bool) (N : List (List Int)) : List Int × Bool := by
 classical exact if Yz S A N then lwF (fun v => Qy A (runT (nxI N) S v)) else ([], false)
section
variable {SA SB s t : Int} {A B : List Bool} {N M : List (List Int)}
theorem Zfn (h : Yz SA A N) (h' : Yz SB B M) : msR SA A N SB B M = difR A N B M ⟨SA, SB⟩ true := by unfold msR; rw [if_pos ⟨h, h'⟩]
theorem Zbn (h : ¬ (Yz SA A N ∧ Yz SB B M)) : msR SA A N SB B M = ([], false) := by unfold msR; rw [if_neg h]
theorem Zwl (h : Yz SA A N) : saR SA A N = lwF (fun v => Qy A (runT (nxI N) SA v)) := by unfold saR; rw [if_pos h]
theorem Yu (h : ¬ Yz SA A N) : saR SA A N = ([], false) := by unfold saR; rw [if_neg h]
theorem Zav {r : List Int × Bool} {only : Bool} {x : St2} (h : BRes (nxS N M) x (tsD A B only) r) : r = difR A N B M x only := Zpl h
end
structure GNode where
 a : Int
 b : Int
 apart : Bool
 frm : Int
 by_ : Int
def GNode.cs (p : GNode) : List Value := [.int .i64 p.a, .int .i64 p.b, .bool p.apart, .int .i64 p.frm, .int .i64 p.by_]
theorem GNode.len (p : GNode) : p.cs.length = 5 := rfl
theorem GNode.one (x : GNode) : ∀ y ∈ x.cs, y.oneCell' = true := by intro y hy; simp [GNode.cs] at hy; rcases hy with rfl | rfl | rfl | rfl | rfl <;> rfl
structure NdR (L : List GNode) (E : List (St2 × List Int)) : Prop where
 len : L.length = E.length
 at_ : ∀ (i : Nat) (n : GNode) (x : St2 × List Int), L[i]? = some n → E[i]? = some x → n.a = x.1.a ∧ n.b = x.1.b ∧ n.apart = false ∧ (i = 0 → x.2 = [])
 frm : ∀ (i : Nat) (n : GNode) (x : St2 × List Int), L[i]? = some n → E[i]? = some x → 0 < i → 0 ≤ n.frm ∧ n.frm < (i : Int) ∧ ∃ y, E[n.frm.toNat]? = some y ∧ x.2 = y.2 ++ [n.by_]
theorem Zwm {s : St2} : NdR [⟨s.a, s.b, false, 0, 0⟩] [(s, [])] := by
 refine ⟨rfl, fun i n x hn hx => ?_, fun i n x hn hx hi => ?_⟩
 ·cases i with
  | zero => simp at hn hx; subst hn hx; exact ⟨rfl, rfl, rfl, fun _ => rfl⟩
  | succ i => simp at hn
 cases i with
 | zero => omega
 | succ i => simp at hn
theorem Zsm {L : List GNode} {E : List (St2 × List Int)} (h : NdR L E) {x y : St2 × List Int} {k m : Nat} (hk : E[k]? = some y) (hx : x.2 = y.2 ++ [(m : Int)]) : NdR (L ++ [⟨x.1.a, x.1.b, false, k, m⟩]) (E ++ [x]) := by
 have hk1 := (List.getElem?_eq_some_iff.1 hk).1
 have hl := h.len
 refine ⟨by simp [hl], fun i n z hn hz => ?_, fun i n z hn hz hi => ?_⟩
 ·rcases Zad hn with ⟨a1, a2⟩ | ⟨a1, a2⟩
  ·rcases Zad hz with ⟨b1, b2⟩ | ⟨b1, b2⟩
   ·exact h.at_ i n z a2 b2
   omega
  rcases Zad hz with ⟨b1, b2⟩ | ⟨b1, b2⟩
  ·omega
  subst a2 b2; exact ⟨rfl, rfl, rfl, fun e => by omega⟩
 rcases Zad hn with ⟨a1, a2⟩ | ⟨a1, a2⟩
 ·rcases Zad hz with ⟨b1, b2⟩ | ⟨b1, b2⟩
  ·obtain ⟨c1, c2, w, c3, c4⟩ := h.frm i n z a2 b2 hi
   exact ⟨c1, c2, w, by rw [List.getElem?_append_left (by omega)]; exact c3, c4⟩
  omega
 rcases Zad hz with ⟨b1, b2⟩ | ⟨b1, b2⟩
 ·omega
 subst a2 b2
 refine ⟨by simp, by simp; omega, y, ?_, hx⟩
 simp only [Int.toNat_natCast]
 rw [List.getElem?_append_left hk1]; exact hk
def hasN (L : List GNode) (z : GNode) (k : Nat) : Prop := ∃ i n, i < k ∧ L[i]? = some n ∧ n.a = z.a ∧ n.b = z.b ∧ n.apart = z.apart
theorem Zpr {L : List GNode} {E : List (St2 × List Int)} (h : NdR L E) {z : GNode} (hz : z.apart = false) : hasN L z L.length ↔ (⟨z.a, z.b⟩ : St2) ∈ E.map (·.1) := by
 have hl := h.len
 constructor
 ·rintro ⟨i, n, hi, hn, h1, h2, _⟩
  have hx : E[i]? = some (E[i]'(by omega)) := List.getElem?_eq_getElem _
  have := h.at_ i n _ hn hx
  refine List.mem_map.2 ⟨_, Yv hx, ?_⟩
  have e1 : (E[i]'(by omega)).1.a = z.a := by rw [← this.1, h1]
  have e2 : (E[i]'(by omega)).1.b = z.b := by rw [← this.2.1, h2]
  rw [← e1, ← e2]
 intro hm
 obtain ⟨x, hx, he⟩ := List.mem_map.1 hm
 obtain ⟨i, hi1, hi2⟩ := List.getElem_of_mem hx
 have hn : L[i]? = some (L[i]'(by omega)) := List.getElem?_eq_getElem _
 have hxx : E[i]? = some x := List.getElem?_eq_some_iff.2 ⟨hi1, hi2⟩
 have := h.at_ i _ x hn hxx
 exact ⟨i, _, by omega, hn, by rw [this.1, he], by rw [this.2.1, he], by rw [this.2.2.1, hz]⟩
theorem Zjw {L : List GNode} {z n : GNode} {k : Nat} (h : ¬ hasN L z k) (hn : L[k]? = some n) (hb : ¬ (n.a = z.a ∧ n.b = z.b ∧ n.apart = z.apart)) : ¬ hasN L z (k + 1) := by
 rintro ⟨i, m, hi, hm, hq⟩
 rcases Nat.lt_or_ge i k with q | q
 ·exact h ⟨i, m, q, hm, hq⟩
 have : i = k := by omega
 subst this; rw [hn] at hm; injection hm with hm; subst hm; exact hb hq
theorem Zrw {L : List GNode} {z : GNode} : ¬ hasN L z 0 := by rintro ⟨i, n, hi, _⟩; omega
theorem Zpx {L : List GNode} {z n : GNode} {k : Nat} (hn : L[k]? = some n) (h1 : n.a = z.a) (h2 : n.b = z.b) (h3 : n.apart = z.apart) : hasN L z L.length := ⟨k, n, (List.getElem?_eq_some_iff.1 hn).1, hn, h1, h2, h3⟩
theorem Zpy {L : List GNode} {z : GNode} {k : Nat} (h : ¬ hasN L z k) (hk : L.length ≤ k) : ¬ hasN L z L.length := by
 rintro ⟨i, n, hi, hq⟩; exact h ⟨i, n, by omega, hq⟩
def ndw (E : List (St2 × List Int)) (k : Int) : List Int := ((E[k.toNat]?).map (·.2)).getD []
theorem Zmf {E : List (St2 × List Int)} {k : Nat} {x : St2 × List Int} (h : E[k]? = some x) : ndw E k = x.2 := by simp [ndw, h]
theorem Zso {L : List GNode} {E : List (St2 × List Int)} {k : Int} (h : NdR L E) (hk : k ≤ 0) (hl : 0 < L.length) : ndw E k = [] := by
 have e : k.toNat = 0 := by omega
 have hl2 := h.len
 have hx : E[0]? = some (E[0]'(by omega)) := List.getElem?_eq_getElem _
 have hn : L[0]? = some (L[0]'hl) := List.getElem?_eq_getElem _
 unfold ndw; rw [e, hx]
 exact (h.at_ 0 _ _ hn hx).2.2.2 rfl
theorem Zsb {L : List GNode} {E : List (St2 × List Int)} {k : Int} {n : GNode} (h : NdR L E) (hk : 0 < k) (hn : L[k.toNat]? = some n) : ndw E k = ndw E n.frm ++ [n.by_] ∧ 0 ≤ n.frm ∧ n.frm < k := by
 have hl := h.len
 have hi := (List.getElem?_eq_some_iff.1 hn).1
 have hx : E[k.toNat]? = some (E[k.toNat]'(by omega)) := List.getElem?_eq_getElem _
 obtain ⟨a, b, y, c, d⟩ := h.frm _ _ _ hn hx (by omega)
 refine ⟨?_, a, by omega⟩
 unfold ndw; rw [hx, c]; exact d
theorem Zum {E : List (St2 × List Int)} {k : Int} {m : Nat} (h : ∀ x ∈ E, x.2.length ≤ m) : (ndw E k).length ≤ m := by
 unfold ndw
 rcases hx : E[k.toNat]? with _ | x
 ·simp
 exact h x (Yv hx)
theorem Ztm {T : Type} {E : List (T × List Int)} {V : List Sv} {k : Nat} {y : Qt T} {e lo hi : Nat} {w : World} (h : ((zq E V).drop k)[0]? = some y) (o : Od ics e 1 w lo hi V (E.map (·.2))) :
   ∃ x u A C, E[k]? = some (x, u) ∧ V[k]? = some ⟨A, u.length, C⟩ ∧ y = ⟨x, ⟨A, u.length, C⟩⟩ ∧ Ls ics 1 w 0 w.heap.size (.slice A u.length C) u := by
 obtain ⟨x, u, s, h1, h2, h3⟩ := Zvy h
 obtain ⟨u', h4, h5⟩ := o.get h2
 rw [List.getElem?_map, h1] at h4
 simp at h4
 subst h4
 have h6 := h5.eqn
 obtain ⟨A, n, C⟩ := s
 subst h6
 exact ⟨x, u, A, C, h1, h2, h3, h5⟩
theorem Zkv {T : Type} {E : List (T × List Int)} {V : List Sv} {k : Nat} (hV : V.length = E.length) (h : ¬ 0 < ((zq E V).drop k).length) : E.length ≤ k := by
 rw [List.length_drop, Zde hV] at h; omega
theorem Od.one_nil {e lo hi : Nat} {w : World} : Od ics e 1 w lo hi [⟨none, 0, 0⟩] [([] : List Int)] := by
 refine ⟨rfl, fun i v x a b => ?_, fun i j u v a b hij => ?_⟩
 ·cases i with
  | zero => simp at a b; subst a b; exact ⟨Ol.nil _, fun g hg => by cases hg⟩
  | succ i => simp at a
 cases j with
 | zero => omega
 | succ j => simp at b
theorem Zqe {v : Value} : Sep v [⟨none, 0, 0⟩] := fun u hu g hg => by rw [List.mem_singleton.1 hu] at hg; cases hg
section
variable {T : Type} [DecidableEq T] {nx : T → Nat → T} {t0 : T}
theorem Zep {k m : Nat} {e : T × List Int} (h : (bE nx t0 k)[k]? = some e) : k < (bx nx e (bE nx t0 k) m).length := by
 have h1 := (List.getElem?_eq_some_iff.1 h).1
 have h2 := Zvl (nx := nx) e (bE nx t0 k) m
 omega
theorem Zvb (e : T × List Int) (E : List (T × List Int)) (m : Nat) : ∀ d, (bx nx e E m).length ≤ (bx nx e E (m + d)).length
 | 0 => Nat.le_refl _
 | d + 1 => by
  refine Nat.le_trans (Zvb e E m d) ?_
  show _ ≤ (if _ then _ else _ : List _).length
  split
  ·exact Nat.le_refl _
  simp
theorem Zev {k m : Nat} {e : T × List Int} (h : (bE nx t0 k)[k]? = some e) (hm : m ≤ 9) : (bx nx e (bE nx t0 k) m).length ≤ (bE nx t0 (k + 1)).length := by
 rw [Zah h]
 have := Zvb (nx := nx) e (bE nx t0 k) m (9 - m)
 rwa [show m + (9 - m) = 9 by omega] at this
end
theorem Zwq {L : List GNode} {E : List (St2 × List Int)} (h : NdR L E) {k : Nat} {n : GNode} (hn : L[k]? = some n) : ∃ x, E[k]? = some x ∧ n.a = x.1.a ∧ n.b = x.1.b ∧ n.apart = false := by
 have hl := h.len
 have hi := (List.getElem?_eq_some_iff.1 hn).1
 have hx : E[k]? = some (E[k]'(by omega)) := List.getElem?_eq_getElem _
 have := h.at_ _ _ _ hn hx
 exact ⟨_, hx, this.1, this.2.1, this.2.2.1⟩
section
variable {N M : List (List Int)} {L : List GNode} {E : List (St2 × List Int)} {e : St2 × List Int} {m k : Nat} {a b fr by_ : Int}
theorem Zix (h : NdR L (bx (nxS N M) e E m)) (ha : a = Yd N e.1.a m) (hb : b = Yd M e.1.b m) (hh : hasN L ⟨a, b, false, fr, by_⟩ L.length) : NdR L (bx (nxS N M) e E (m + 1)) := by
 subst ha hb
 rw [bx_y ((Zpr h rfl).1 hh)]; exact h
theorem Zjb (h : NdR L (bx (nxS N M) e E m)) (ha : a = Yd N e.1.a m) (hb : b = Yd M e.1.b m) (hh : ¬ hasN L ⟨a, b, false, fr, by_⟩ L.length) (hk : E[k]? = some e) : NdR (L ++ [⟨a, b, false, k, m⟩]) (bx (nxS N M) e E (m + 1)) := by
 subst ha hb
 rw [bx_n (fun q => hh ((Zpr h rfl).2 q))]
 exact Zsm h (x := (nxS N M e.1 m, e.2 ++ [(m : Int)])) (Zby hk) rfl
end
theorem Zgm {L : List GNode} {E : List (St2 × List Int)} (h : NdR L E) {k : Nat} {n : GNode} (hn : L[k]? = some n) : ∃ x fr by_, E[k]? = some x ∧ n = ⟨x.1.a, x.1.b, false, fr, by_⟩ := by
 obtain ⟨x, h1, h2, h3, h4⟩ := Zwq h hn
 obtain ⟨_, _, _, fr, by_⟩ := n
 simp only at h2 h3 h4
 subst h2 h3 h4
 exact ⟨x, fr, by_, h1, rfl⟩
theorem Zht {T : Type} {E : List (T × List Int)} {V : List Sv} {k : Nat} {x : T} {u : List Int} {A : Option Addr} {C e lo hi : Nat} {w : World} (o : Od ics e 1 w lo hi V (E.map (·.2))) (hv : V[k]? = some ⟨A, u.length, C⟩) (he : E[k]? = some (x, u)) :
   Ls ics 1 w 0 w.heap.size (.slice A u.length C) u := by
 obtain ⟨u', h4, h5⟩ := o.get hv
 rw [List.getElem?_map, he] at h4
 simp at h4
 subst h4
 exact h5
theorem Zhv {α : Type} {V : List α} {k : Nat} {s x : α} (h : V[k]? = some s) : (V ++ [x])[k]? = some s := by rw [List.getElem?_append_left (List.getElem?_eq_some_iff.1 h).1]; exact h
noncomputable def saF (A : List Bool) (N : List (List Int)) (s : Int) : List Int × Bool := lwF (fun v => Qy A (runT (nxI N) s v))
theorem Zji {A : List Bool} {N : List (List Int)} {r : List Int × Bool} {x : Int} (h : BRes (nxI N) x (Qy A) r) : r = saF A N x := Zpl h
theorem Zol {S : Int} {A : List Bool} {N : List (List Int)} (h : Yz S A N) : saR S A N = saF A N S := Zwl h
section
variable {T : Type} [DecidableEq T] {nx : T → Nat → T} {t0 : T} {ts : T → Bool}
theorem Zpt {n : Nat} (hn : ∀ k, (bE nx t0 k).length ≤ n) : ∃ r, BRes nx t0 ts r ∧ r.1.length ≤ n := by
 have h : ∀ m, (∃ k e, (bE nx t0 k)[k]? = some e ∧ ts e.1 = true ∧ ∀ j x, j < k → (bE nx t0 j)[j]? = some x → ts x.1 = false) ∨ ∀ j x, j < m → (bE nx t0 j)[j]? = some x → ts x.1 = false := by
  intro m
  induction m with
  | zero => exact .inr fun j _ hj => absurd hj (by omega)
  | succ m ih =>
   rcases ih with h | h
   ·exact .inl h
   rcases hq : (bE nx t0 m)[m]? with _ | e
   ·refine .inr fun j x hj hx => ?_
    rcases Nat.lt_or_ge j m with q | q
    ·exact h j x q hx
    rw [show j = m by omega, hq] at hx; cases hx
   cases ht : ts e.1 with
   | true => exact .inl ⟨m, e, hq, ht, h⟩
   | false => exact .inr (Zdx h hq ht)
 rcases h n with ⟨k, e, h1, h2, h3⟩ | h
 ·refine ⟨_, Zam h1 h2 h3, ?_⟩
  have a := Zjt k e (Yv h1)
  have b := (List.getElem?_eq_some_iff.1 h1).1
  have c := hn k
  simp only; omega
 exact ⟨_, Zag (hn n) h, by simp⟩
end
section
variable {SA SB s t : Int} {A B : List Bool} {N M : List (List Int)}
theorem Zbk (h : Yz SA A N) : inA A SA := by have h1 := h.2.1; unfold inA; omega
theorem Ztz (h : Yz SA A N) (h' : Yz SB B M) {x : St2} (hx : inS A B x) (o : Bool) : Zei (difF A N B M x o) (difR A N B M x o) ∧ (difR A N B M x o).1.length ≤ 169 := by
 obtain ⟨r, h1, h2⟩ := Zpt (ts := tsD A B o) (lenS h h' hx)
 rw [← Zav h1]; exact ⟨Zfu h1, h2⟩
theorem Zvq (h : Yz SA A N) {x : Int} (hx : inA A x) : Zei (fun v => Qy A (runT (nxI N) x v)) (saF A N x) ∧ (saF A N x).1.length ≤ 169 := by
 obtain ⟨r, h1, h2⟩ := Zpt (ts := Qy A) (lenI h hx)
 rw [← Zji h1]; exact ⟨Zfu h1, by omega⟩
end
def IncP (aS : Int) (aA : List Bool) (aN : List (List Int)) (bS : Int) (bA : List Bool) (bN : List (List Int)) : Prop := Yz aS aA aN ∧ Yz bS bA bN ∧ (msR aS aA aN bS bA bN).2 = false
theorem Zlu {aS bS : Int} {aA bA : List Bool} {aN bN : List (List Int)} (h : Yz aS aA aN) (h' : Yz bS bA bN) : (!(msR aS aA aN bS bA bN).2) = tt (IncP aS aA aN bS bA bN) := by
 cases hq : (msR aS aA aN bS bA bN).2
 ·exact Zq ⟨h, h', hq⟩
 exact Zo fun q => by have q2 := q.2.2; rw [hq] at q2; cases q2
theorem Zho {aS bS : Int} {aA bA : List Bool} {aN bN : List (List Int)} (h : ¬ Yz aS aA aN) : false = tt (IncP aS aA aN bS bA bN) := Zo fun q => h q.1
theorem Zhp {aS bS : Int} {aA bA : List Bool} {aN bN : List (List Int)} (h : ¬ Yz bS bA bN) : false = tt (IncP aS aA aN bS bA bN) := Zo fun q => h q.2.1
theorem Zvg (N M : List (List Int)) (x : St2) : ∀ k, ∀ y ∈ bE (nxS N M) x k, y.2.length ≤ k := Zjt
theorem Zwe (N : List (List Int)) (x : Int) : ∀ k, ∀ y ∈ bE (nxI N) x k, y.2.length ≤ k := Zjt
end Go.KLib

namespace Go.KLib
theorem Qx {z : Value} {n b c : Nat} {R : List Nat} (h : ∀ g ∈ bl z, n ≤ g ∨ g ∈ b :: R) (hb : b ∉ bl z) (hn : c < n) (hr : c ∉ R) : c ∉ bl z := fun hm => by
 rcases h _ hm with q | q
 ·omega
 rcases List.mem_cons.1 q with q | q
 ·exact hb (q ▸ hm)
 exact hr q
theorem nin2 {c : Nat} {A B : List Nat} (h : c ∉ A) (k : c ∉ B) : c ∉ A ++ B := fun q => by
 rcases List.mem_append.1 q with q | q
 ·exact h q
 exact k q
theorem Zwd {z : Value} {n b m : Nat} {R W : List Nat} (h : ∀ g ∈ bl z, n ≤ g ∨ g ∈ b :: R) (hb : b ∉ bl z) (hn : m ≤ n) (hr : ∀ g ∈ R, m ≤ g ∨ g ∈ W) : ∀ g ∈ bl z, m ≤ g ∨ g ∈ W := fun g hm => by
 rcases h _ hm with q | q
 ·left; omega
 rcases List.mem_cons.1 q with q | q
 ·exact absurd (q ▸ hm) hb
 exact hr _ q
theorem all2 {A B : List Nat} {p : Nat → Prop} (h : ∀ g ∈ A, p g) (k : ∀ g ∈ B, p g) : ∀ g ∈ A ++ B, p g := fun g q => by
 rcases List.mem_append.1 q with q | q
 ·exact h g q
 exact k g q
theorem Zed {z : Value} {n b L : Nat} {R : List Nat} (h : ∀ g ∈ bl z, n ≤ g ∨ g ∈ b :: R) (hb : b ∉ bl z) (hn : L ≤ n) (hr : ∀ g ∈ R, L ≤ g) : Lo L z := fun g hm => by
 rcases h _ hm with q | q
 ·omega
 rcases List.mem_cons.1 q with q | q
 ·exact absurd (q ▸ hm) hb
 exact hr _ q
theorem Zsr (a b : Int) : ior a b = ior b a := by unfold ior; rw [BitVec.or_comm]
theorem Zce {z : Value} {n b : Nat} {R W : List Nat} {w0 w1 : World} (E : Ch W w0 w1) (h : ∀ g ∈ bl z, n ≤ g ∨ g ∈ b :: R) (hb : b ∉ bl z) (hn : w0.heap.size ≤ n) (hr : ∀ g ∈ R, w0.heap.size ≤ g ∨ g ∈ W) : ∀ g ∈ bl z, w0.heap.size ≤ g ∨ g ∈ W := Zwd h hb hn hr
theorem Qv {v : Value} {L W b : Nat} (lo : Lo L v) (hi : ∀ g ∈ bl v, g < W) (h : b < L ∨ W ≤ b) : b ∉ bl v := fun hm => by
 have h1 := lo _ hm
 have h2 := hi _ hm
 omega
theorem nin3 {a b : Nat} {A B : List Nat} (h : b ≠ a) (hA : b ∉ A) (hB : b ∉ B) : b ∉ a :: (A ++ B) := fun hm => by
 rcases List.mem_cons.1 hm with q | q
 ·exact h q
 exact nin2 hA hB q
theorem lwr3 {v v' : Value} {L B La Lb a : Nat} (h : a < L ∨ B ≤ a) (lo : Lo La v) (hA : B ≤ La) (lo' : Lo Lb v') (hB : B ≤ Lb) : ∀ i ∈ a :: (bl v ++ bl v'), i < L ∨ B ≤ i := fun i hm => by
 rcases List.mem_cons.1 hm with q | q
 ·omega
 rcases List.mem_append.1 q with q | q
 ·have h1 := lo _ q
  omega
 have h1 := lo' _ q
 omega
theorem Zbs {v : Value} {W b : Nat} (hi : ∀ g ∈ bl v, g < W) (h : W ≤ b) : b ∉ bl v := fun hm => by
 have h2 := hi _ hm
 omega
theorem Ow.lsB {e : TypeId} {k n B : Nat} {w : World} {v : Value} {xs : List Value} (h : Ow w e k v n xs) (hi : ∀ g ∈ bl v, g < B) : Sl w 0 B k v n xs := by
 refine ⟨h.1, ?_⟩
 have hc := fun g off cap => h.cells (g := g) (off := off) (cap := cap)
 rcases h.2 with ⟨rfl, rfl⟩ | ⟨g, off, cap, cur, rfl, hg, h1, h2, h3, _⟩
 ·exact ⟨none, 0, rfl, Nat.le_refl _, Nat.zero_le _, fun h => absurd h (by omega)⟩
 exact ⟨_, cap, rfl, h1, h2, fun _ => ⟨_, rfl, ⟨Nat.zero_le _, hi g (by simp [bl, Value.ownBlock])⟩, fun j u hu => by rw [add_lit]; exact hc g off cap rfl j u hu⟩⟩
theorem Ol.lsB {α : Type} {cs : α → List Value} {e : TypeId} {k B : Nat} {w : World} {v : Value} {xs : List α} (h : Ol cs e k w v xs) (hi : ∀ g ∈ bl v, g < B) : Ls cs k w 0 B v xs := Ow.lsB h hi
theorem ne1 {a b : Nat} (h : a ≠ b) : a ∉ [b] := fun hm => h (List.mem_singleton.1 hm)
theorem tfr1 {L B b : Nat} (h : b < L ∨ B ≤ b) : ∀ i ∈ [b], i < L ∨ B ≤ i := fun i hi => by
 have h1 := List.mem_singleton.1 hi
 omega
theorem oneL {W b : Nat} {X : List Nat} (h : W ≤ b) : ∀ i ∈ [b], W ≤ i ∨ i ∈ X := fun i hi => by
 have h1 := List.mem_singleton.1 hi
 left
 omega
theorem mAL {a : Nat} {A : List Nat} (B : List Nat) (h : a ∈ A) : a ∈ A ++ B := List.mem_append_left B h
theorem mAR {b : Nat} (A : List Nat) {B : List Nat} (h : b ∈ B) : b ∈ A ++ B := List.mem_append_right A h
theorem mSg {a b : Nat} : a ∈ [b] ↔ a = b := List.mem_singleton
theorem mCo {a : Nat} (y : Nat) {l : List Nat} (h : a ∈ l) : a ∈ y :: l := List.mem_cons_of_mem y h
theorem rbA {α : Type} {c : Prop} [Decidable c] {a b : α} (h : c) : (if c then a else b) = a := if_pos h
theorem rbB {α : Type} {c : Bool} {a b : α} (h : c = false) : (if c then a else b) = b := by rw [h]; rfl
theorem rbC {c : Prop} [Decidable c] {a b d : Int} (h : c) : (if c then ior a b else d) = ior b a := by rw [if_pos h, Zsr]
theorem rbD {α : Type} {c : Prop} [Decidable c] {a b : α} (h : c) : a = (if c then a else b) := (if_pos h).symm
theorem rbE {c : Prop} [Decidable c] {a b d : Int} (h : c) : ior b a = (if c then ior a b else d) := (rbC h).symm
def lkN (l f : Int) (F : List Int) : Nat → List Int
 | 0 => F
 | k + 1 => if iand (ishr l k) 1 = 1 then (lkN l f F k).set k (ior ((lkN l f F k).getD k 0) f) else lkN l f F k
theorem Zhy (l f : Int) (F : List Int) : ∀ k, (lkN l f F k).length = F.length
 | 0 => rfl
 | k + 1 => by unfold lkN; split <;> simp [Zhy l f F k]
theorem Zvh {l f y : Int} {F : List Int} {k : Nat} (h : iand (ishr l k) 1 = 1) (hy : (lkN l f F k)[k]? = some y) : (lkN l f F k).set k (ior y f) = lkN l f F (k + 1) := by
 show _ = if _ then _ else _
 rw [if_pos h, Qd hy]
theorem Zvd {l f : Int} {F : List Int} {k : Nat} (h : ¬ iand (ishr l k) 1 = 1) : lkN l f F k = lkN l f F (k + 1) := by
 show _ = if _ then _ else _
 rw [if_neg h]
def lkL (l f : Int) (F : List Int) : List Int := lkN l f F F.length
theorem Zju (l f : Int) (F : List Int) : (lkL l f F).length = F.length := Zhy _ _ _ _
structure BPd where
 L : List Int
 F : List Int
 f : Int
 l : Int
 n : Bool
def bpT : Tr → List Int → List Int → BPd
 | .l0 t, L, F => if t.kind = 2 then ⟨L, F, 0, 0, true⟩ else if t.kind = 3 then ⟨L ++ [t.letter], F ++ [0], ishl 1 L.length, ishl 1 L.length, false⟩ else ⟨L, F, 0, 0, false⟩
 | .l1 t x, L, F => if t.kind = 6 then ⟨(bpT x L F).L, lkL (bpT x L F).l (bpT x L F).f (bpT x L F).F, (bpT x L F).f, (bpT x L F).l, true⟩ else ⟨L, F, 0, 0, false⟩
 | .l2 t x y, L, F =>
  if t.kind = 4 then
   ⟨(bpT y (bpT x L F).L (bpT x L F).F).L, lkL (bpT x L F).l (bpT y (bpT x L F).L (bpT x L F).F).f (bpT y (bpT x L F).L (bpT x L F).F).F,
    if (bpT x L F).n then ior (bpT x L F).f (bpT y (bpT x L F).L (bpT x L F).F).f else (bpT x L F).f,
    if (bpT y (bpT x L F).L (bpT x L F).F).n then ior (bpT x L F).l (bpT y (bpT x L F).L (bpT x L F).F).l else (bpT y (bpT x L F).L (bpT x L F).F).l,
    (bpT x L F).n && (bpT y (bpT x L F).L (bpT x L F).F).n⟩
  else if t.kind = 5 then
   ⟨(bpT y (bpT x L F).L (bpT x L F).F).L, (bpT y (bpT x L F).L (bpT x L F).F).F, ior (bpT x L F).f (bpT y (bpT x L F).L (bpT x L F).F).f, ior (bpT x L F).l (bpT y (bpT x L F).L (bpT x L F).F).l,
    (bpT x L F).n || (bpT y (bpT x L F).L (bpT x L F).F).n⟩
  else ⟨L, F, 0, 0, false⟩
theorem Zdq : ∀ (t : Tr) (L F : List Int), (bpT t L F).L.length ≤ L.length + t.sz ∧ (bpT t L F).F.length ≤ F.length + t.sz
 | .l0 t, L, F => by unfold bpT; repeat' split; all_goals simp [Tr.sz]
 | .l1 t x, L, F => by
  have h := Zdq x L F
  unfold bpT; split
  ·simp only [Zju, Tr.sz]; omega
  simp only [Tr.sz]; omega
 | .l2 t x y, L, F => by
  have h := Zdq x L F
  have k := Zdq y (bpT x L F).L (bpT x L F).F
  unfold bpT; repeat' split
  all_goals (simp only [Zju, Tr.sz]; omega)
section
variable {t ta tb : Tr} {L F : List Int}
theorem bp2 (hok : Okd t) (h : t.tok.kind = 2) : bpT t L F = ⟨L, F, 0, 0, true⟩ := by
 have ha := hok.ar
 cases t with
 | l0 t => simp only [Tr.tok] at h; unfold bpT; rw [if_pos h]
 | l1 t x => simp only [Tr.tok, Tr.kids] at h ha; rw [Zdl (by rw [ha]; simp), h] at ha; simp [arK] at ha
 | l2 t x y => simp only [Tr.tok, Tr.kids] at h ha; rw [Zdl (by rw [ha]; simp), h] at ha; simp [arK] at ha
theorem bp3 (hok : Okd t) (h : t.tok.kind = 3) : bpT t L F = ⟨L ++ [t.tok.letter], F ++ [0], ishl 1 L.length, ishl 1 L.length, false⟩ := by
 have ha := hok.ar
 cases t with
 | l0 t => simp only [Tr.tok] at h ⊢; unfold bpT; rw [if_neg (by omega), if_pos h]
 | l1 t x => simp only [Tr.tok, Tr.kids] at h ha; rw [Zdl (by rw [ha]; simp), h] at ha; simp [arK] at ha
 | l2 t x y => simp only [Tr.tok, Tr.kids] at h ha; rw [Zdl (by rw [ha]; simp), h] at ha; simp [arK] at ha
theorem bp4 (hok : Okd t) (h : t.tok.kind = 4) (h0 : t.kids[0]? = some ta) (h1 : t.kids[1]? = some tb) :
   bpT t L F = ⟨(bpT tb (bpT ta L F).L (bpT ta L F).F).L, lkL (bpT ta L F).l (bpT tb (bpT ta L F).L (bpT ta L F).F).f (bpT tb (bpT ta L F).L (bpT ta L F).F).F,
       if (bpT ta L F).n then ior (bpT ta L F).f (bpT tb (bpT ta L F).L (bpT ta L F).F).f else (bpT ta L F).f,
       if (bpT tb (bpT ta L F).L (bpT ta L F).F).n then ior (bpT ta L F).l (bpT tb (bpT ta L F).L (bpT ta L F).F).l else (bpT tb (bpT ta L F).L (bpT ta L F).F).l,
       (bpT ta L F).n && (bpT tb (bpT ta L F).L (bpT ta L F).F).n⟩ := by
 cases t with
 | l0 t => simp [Tr.kids] at h0
 | l1 t x => simp [Tr.kids] at h1
 | l2 t x y =>
  simp [Tr.kids] at h0 h1; subst h0 h1
  simp only [Tr.tok] at h
  rw [bpT, if_pos h]
theorem bp5 (hok : Okd t) (h : t.tok.kind = 5) (h0 : t.kids[0]? = some ta) (h1 : t.kids[1]? = some tb) :
   bpT t L F = ⟨(bpT tb (bpT ta L F).L (bpT ta L F).F).L, (bpT tb (bpT ta L F).L (bpT ta L F).F).F, ior (bpT ta L F).f (bpT tb (bpT ta L F).L (bpT ta L F).F).f, ior (bpT ta L F).l (bpT tb (bpT ta L F).L (bpT ta L F).F).l,
       (bpT ta L F).n || (bpT tb (bpT ta L F).L (bpT ta L F).F).n⟩ := by
 cases t with
 | l0 t => simp [Tr.kids] at h0
 | l1 t x => simp [Tr.kids] at h1
 | l2 t x y =>
  simp [Tr.kids] at h0 h1; subst h0 h1
  simp only [Tr.tok] at h
  rw [bpT, if_neg (by omega), if_pos h]
theorem bp6 (hok : Okd t) (h : t.tok.kind = 6) (h0 : t.kids[0]? = some ta) :
   bpT t L F = ⟨(bpT ta L F).L, lkL (bpT ta L F).l (bpT ta L F).f (bpT ta L F).F, (bpT ta L F).f, (bpT ta L F).l, true⟩ := by
 have ha := hok.ar
 cases t with
 | l0 t => simp [Tr.kids] at h0
 | l1 t x =>
  simp [Tr.kids] at h0; subst h0
  simp only [Tr.tok] at h
  rw [bpT, if_pos h]
 | l2 t x y => simp only [Tr.tok, Tr.kids] at h ha; rw [Zdl (by rw [ha]; simp), h] at ha; simp [arK] at ha
theorem bp0 (h : t.tok.kind ≠ 2 ∧ t.tok.kind ≠ 3 ∧ t.tok.kind ≠ 4 ∧ t.tok.kind ≠ 5 ∧ t.tok.kind ≠ 6) : bpT t L F = ⟨L, F, 0, 0, false⟩ := by
 obtain ⟨h2, h3, h4, h5, h6⟩ := h
 cases t with
 | l0 t => simp only [Tr.tok] at *; rw [bpT, if_neg h2, if_neg h3]
 | l1 t x => simp only [Tr.tok] at *; rw [bpT, if_neg h6]
 | l2 t x y => simp only [Tr.tok] at *; rw [bpT, if_neg h4, if_neg h5]
end
def cntL (l : List Token) : Nat := l.countP fun t => decide (t.kind = 3)
theorem Zsz {l : List Token} {k : Nat} {y : Token} (h : l[k]? = some y) (hk : y.kind = 3) : cntL (l.take (k + 1)) = cntL (l.take k) + 1 := by
 unfold cntL; rw [Zaw h, List.countP_append]; simp [hk]
theorem Zss {l : List Token} {k : Nat} {y : Token} (h : l[k]? = some y) (hk : ¬ y.kind = 3) : cntL (l.take (k + 1)) = cntL (l.take k) := by
 unfold cntL; rw [Zaw h, List.countP_append]; simp [hk]
theorem Zue (l : List Token) : cntL l ≤ l.length := List.countP_le_length
def bpE (e : List Token) : BPd × Bool :=
 if (expE e).2 = true ∧ cntL (expE e).1 ≤ 20 then
  match Zbt (expE e).1 with
  | some t => (bpT t [] [], true)
  | none => (⟨[], [], 0, 0, false⟩, false)
 else (⟨[], [], 0, 0, false⟩, false)
theorem Zap {e : List Token} (h : ¬ ((expE e).2 = true ∧ cntL (expE e).1 ≤ 20)) : bpE e = (⟨[], [], 0, 0, false⟩, false) := by unfold bpE; rw [if_neg h]
theorem Zcw {e : List Token} {t : Tr} (h : (expE e).2 = true) (h1 : cntL (expE e).1 ≤ 20) (ht : Zbt (expE e).1 = some t) : bpE e = (bpT t [] [], true) := by unfold bpE; rw [if_pos ⟨h, h1⟩, ht]
theorem Zte {x : Tr} (hx : Okd x) : ∀ (low : Int) (h : Nat), Okd (timT x low h)
 | _, 0 => by show arT _ = 0; rfl
 | low, h + 1 => by
  have ih := Zte hx (if low - 1 > 0 then low - 1 else 0) h
  unfold timT
  split
  ·exact ⟨rfl, hx, ih⟩
  exact ⟨rfl, ⟨rfl, hx, ih⟩, rfl⟩
theorem Zjd : ∀ {t : Tr}, Okd t → Okd (Qe t)
 | .l0 _, h => h
 | .l1 t a, h => by
  have ih := Zjd h.2
  unfold Qe
  split
  ·exact Zte ih _ _
  exact ⟨h.1, ih⟩
 | .l2 t a b, h => ⟨h.1, Zjd h.2.1, Zjd h.2.2⟩
theorem Zqy {e : List Token} (h : (expE e).2 = true) : ∃ t, Zbt (expE e).1 = some t ∧ Okd t ∧ (expE e).1 = t.flat ∧ (expE e).1.length ≤ 400 := by
 have hl := Zmu e
 cases hi : ivE e with
 | false => rw [Zej hi] at h; cases h
 | true =>
  obtain ⟨t, h1, h2, _, h4⟩ := Ztq hi
  by_cases hb : Qz t ≤ 5000
  ·by_cases hs : (Qe t).sz ≤ 400
   ·have e1 := Zeh h1 h4 hb hs
    rw [e1] at hl ⊢
    exact ⟨Qe t, Zft (Zjd h2), Zjd h2, rfl, hl⟩
   rw [Zck h1 hs] at h; cases h
  rw [Zcm h1 hb] at h; cases h
end Go.KLib

namespace Go.KLib
def grow (n : Nat) (f : Nat → Nat → Bool) (i : Nat) : List Bool := (List.range n).map (f i)
def grd (n : Nat) (f : Nat → Nat → Bool) : List (List Bool) := (List.range n).map (grow n f)
section
variable {n i j : Nat} {f g : Nat → Nat → Bool}
def idM (s : Bool) : Nat → Nat → Bool := fun i j => s && decide (i = j)
def oeM (A B : Nat → Nat → Bool) : Nat → Nat → Bool := fun i j => A i j || B i j
def mulM (n : Nat) (A B : Nat → Nat → Bool) : Nat → Nat → Bool := fun i j => (List.range n).any fun k => A i k && B k j
def Tri (A : Nat → Nat → Bool) : Prop := ∀ i j, j < i → A i j = false
theorem Tri.id (s : Bool) : Tri (idM s) := fun i j h => by simp [idM]; intro _; omega
theorem Tri.or {A B : Nat → Nat → Bool} (a : Tri A) (b : Tri B) : Tri (oeM A B) := fun i j h => by simp [oeM, a i j h, b i j h]
theorem Tri.mul {A B : Nat → Nat → Bool} (a : Tri A) (b : Tri B) : Tri (mulM n A B) := fun i j h => by
 unfold mulM
 rw [List.any_eq_false]
 intro k _
 by_cases hk : k < i
 ·rw [a i k hk]; simp
 rw [b k j (by omega)]; simp
end
section
variable {n i j k : Nat} {A B : Nat → Nat → Bool}
end
section
variable {n k : Nat} {A : Nat → Nat → Bool} {low : Int}
def powM (n : Nat) (A : Nat → Nat → Bool) : Nat → Nat → Nat → Bool
 | 0 => idM true
 | k + 1 => mulM n (powM n A k) A
def repM (n : Nat) (A : Nat → Nat → Bool) (low : Int) (k : Nat) : Nat → Nat → Bool := fun i j => (List.range k).any fun m => decide (low ≤ (m : Int)) && powM n A m i j
end
theorem Zvt {o : Value} {g i : Nat} (h : i ∉ bl o) (hg : bl o = [g]) : i < g ∨ g + 1 ≤ i := by
 rw [hg] at h
 have : i ≠ g := fun e => h (List.mem_singleton.2 e)
 omega
theorem Ol.lsE {α : Type} {cs : α → List Value} {e k : Nat} {w : World} {v : Value} {xs : List α} (h : Ol cs e k w v xs) (hn : 0 < xs.length) : ∃ g, bl v = [g] ∧ Ls cs k w g (g + 1) v xs := by
 have hc := fun g off cap => Ow.cells (g := g) (off := off) (cap := cap) h
 rcases h.2 with ⟨rfl, h0⟩ | ⟨g, off, cap, cur, rfl, hg, h1, h2, h3, _⟩
 ·omega
 exact ⟨g, by simp [bl, Value.ownBlock], h.1, _, cap, rfl, h1, h2, fun _ => ⟨_, rfl, ⟨Nat.le_refl _, Nat.lt_succ_self _⟩, fun j u hu => by rw [add_lit]; exact hc g off cap rfl j u hu⟩⟩
theorem Od.eq {α : Type} {cs : α → List Value} {e k : Nat} {w : World} {lo hi : Nat} {vs : List Sv} {xs ys : List (List α)} (h : Od cs e k w lo hi vs xs) (he : xs = ys) : Od cs e k w lo hi vs ys := he ▸ h
end Go.KLib

namespace Go.KLib
section
variable {n i j k m : Nat} {A : Nat → Nat → Bool} {w : List Int} {c : Int}
def ltM (c : Int) (w : List Int) : Nat → Nat → Bool := fun i j => decide (j = i + 1) && decide (w[i]? = some c)
end
def mtT (w : List Int) : Tr → Nat → Nat → Bool
 | .l0 t => if t.kind = 2 then idM true else if t.kind = 3 then ltM t.letter w else idM false
 | .l1 t x => if t.kind = 6 then repM (w.length + 1) (mtT w x) 0 (w.length + 1) else if t.kind = 7 then repM (w.length + 1) (mtT w x) t.low (t.high + 1).toNat else idM false
 | .l2 t x y => if t.kind = 4 then mulM (w.length + 1) (mtT w x) (mtT w y) else if t.kind = 5 then oeM (mtT w x) (mtT w y) else idM false
section
variable {t ta tb : Tr} {w : List Int}
end
end Go.KLib

namespace Go.KLib
theorem Ol.lsR {α : Type} {cs : α → List Value} {e k lo hi : Nat} {w : World} {v : Value} {xs : List α} (h : Ol cs e k w v xs) (hl : Lo lo v) (hh : ∀ g ∈ bl v, g < hi) : Ls cs k w lo hi v xs := by
 have hc := fun g off cap => Ow.cells (g := g) (off := off) (cap := cap) h
 rcases h.2 with ⟨rfl, h0⟩ | ⟨g, off, cap, cur, rfl, hg, h1, h2, h3, _⟩
 ·exact ⟨h.1, none, 0, by rw [h0], by omega, Nat.zero_le _, fun h => absurd h (by omega)⟩
 have hb : g ∈ bl (.slice (some ⟨g, off, none⟩) xs.length cap) := by simp [bl, Value.ownBlock]
 exact ⟨h.1, _, cap, rfl, h1, h2, fun _ => ⟨_, rfl, ⟨hl g hb, hh g hb⟩, fun j u hu => by rw [add_lit]; exact hc g off cap rfl j u hu⟩⟩
def RT (w : World) (H : Nat) (b : List Nat) (wd : List Int) (vs : List Sv) (st : List Tr) : Prop :=
 vs.length = st.length ∧ ∀ (i : Nat) (v : Sv) (t : Tr), vs[i]? = some v → st.reverse[i]? = some t →
  ∃ us lo hi, Ls Sv.cs 1 w lo hi v.v us ∧ Rd bcs 1 w lo hi us (grd (wd.length + 1) (mtT wd t)) ∧ hi ≤ H ∧ ∀ g ∈ b, g < lo ∨ hi ≤ g
section
variable {w w' : World} {H H' : Nat} {b b' ws : List Nat} {wd : List Int} {vs : List Sv} {st : List Tr}
theorem RT.nil : RT w H b wd [] [] := ⟨rfl, fun _ _ _ h => by simp at h⟩
theorem RT.ch (h : RT w H b wd vs st) (c : Ch ws w w') (hw : ∀ i ∈ ws, H ≤ i ∨ i ∈ b) : RT w' H b wd vs st := ⟨h.1, fun i v t hv ht => by
 obtain ⟨us, lo, hi, h1, h2, h3, h4⟩ := h.2 i v t hv ht
 have hd : ∀ i ∈ ws, i < lo ∨ hi ≤ i := fun i hi' => by
  rcases hw i hi' with q | q
  ·right; omega
  exact h4 i q
 exact ⟨us, lo, hi, h1.ch c hd, h2.ch c hd, h3, h4⟩⟩
theorem RT.ch0 (h : RT w H b wd vs st) (c : Ch [] w w') : RT w' H b wd vs st := h.ch c (by simp)
theorem RT.get (h : RT w H b wd vs st) {i : Nat} {y : Sv} (hy : vs[i]? = some y) : ∃ t us lo hi, st.reverse[i]? = some t ∧ Ls Sv.cs 1 w lo hi y.v us ∧ Rd bcs 1 w lo hi us (grd (wd.length + 1) (mtT wd t)) ∧ hi ≤ H := by
 have hi : i < st.reverse.length := by
  have := (List.getElem?_eq_some_iff.1 hy).1
  rw [List.length_reverse]; have := h.1; omega
 obtain ⟨us, lo, hi', h1, h2, h3, _⟩ := h.2 i y _ hy (List.getElem?_eq_getElem hi)
 exact ⟨_, us, lo, hi', List.getElem?_eq_getElem hi, h1, h2, h3⟩
theorem RT.take (h : RT w H b wd vs st) {k : Nat} (hk : k ≤ st.length) : RT w H b wd (vs.take (vs.length - k)) (st.drop k) := by
 refine ⟨by rw [List.length_take, List.length_drop, h.1]; omega, fun i v t hv ht => ?_⟩
 have h9 := h.1
 rw [List.getElem?_take] at hv
 split at hv
 ·rename_i hi
  refine h.2 i v t hv ?_
  have e : st.reverse = (st.drop k).reverse ++ (st.take k).reverse := by rw [← List.reverse_append, List.take_append_drop]
  rw [e, List.getElem?_append_left (by rw [List.length_reverse, List.length_drop]; omega)]
  exact ht
 cases hv
theorem RT.add (h : RT w H b wd vs st) {v : Sv} {t : Tr} {us : List Sv} {lo hi : Nat} (h1 : Ls Sv.cs 1 w lo hi v.v us) (h2 : Rd bcs 1 w lo hi us (grd (wd.length + 1) (mtT wd t))) (h3 : hi ≤ H') (hH : H ≤ H')
   (hb : ∀ g ∈ b', g < lo ∨ hi ≤ g) (ho : ∀ g ∈ b', g ∈ b ∨ H ≤ g) : RT w H' b' wd (vs ++ [v]) (t :: st) := by
 refine ⟨by simp [h.1], fun i x u hx hu => ?_⟩
 have h9 := h.1
 rw [List.reverse_cons] at hu
 by_cases hi' : i < vs.length
 ·rw [List.getElem?_append_left hi'] at hx
  rw [List.getElem?_append_left (by rw [List.length_reverse]; omega)] at hu
  obtain ⟨us, l, r, a1, a2, a3, a4⟩ := h.2 i x u hx hu
  refine ⟨us, l, r, a1, a2, by omega, fun g hg => ?_⟩
  rcases ho g hg with q | q
  ·exact a4 g q
  right; omega
 have e : i = vs.length := by
  have := (List.getElem?_eq_some_iff.1 hx).1
  simp at this; omega
 subst e
 rw [List.getElem?_append_right (Nat.le_refl _), Nat.sub_self] at hx
 rw [List.getElem?_append_right (by rw [List.length_reverse]; omega), List.length_reverse, h9, Nat.sub_self] at hu
 simp at hx hu; subst hx hu
 exact ⟨us, lo, hi, h1, h2, h3, hb⟩
theorem RT.eq {vs' : List Sv} (h : RT w H b wd vs st) (e : vs = vs') : RT w H b wd vs' st := e ▸ h
end
section
variable {st s2 : List Tr} {y : Token} {l : List Token} {i : Nat} {t : Tr}
end
section
variable {w : List Int} {y : Token} {a b : Tr}
end
section
variable {e : List Token} {w : List Int} {t : Tr}
end
end Go.KLib

namespace Go.KLib
def R9 : List Int := (List.range 9).map fun (i : Nat) => (i : Int)
def letT : Tr → List Int
 | .l0 t => if t.kind = 3 then [t.letter] else []
 | .l1 _ a => letT a
 | .l2 _ a b => letT a ++ letT b
theorem Od.skip {α : Type} {cs : α → List Value} {e k : Nat} {w : World} {lo hi : Nat} {vs us : List Sv} {v : Sv} {xs ys : List (List α)} {x : List α} (h : Od cs e k w lo hi (vs ++ v :: us) (xs ++ x :: ys)) (hl : vs.length = xs.length) : Od cs e k w lo hi (vs ++ us) (xs ++ ys) := by
 have g1 : ∀ {β : Type} (a b : List β) (c : β) (i : Nat) (u : β), (a ++ b)[i]? = some u → (a ++ c :: b)[if i < a.length then i else i + 1]? = some u := by
  intro β a b c i u hu
  by_cases hi : i < a.length
  ·rw [if_pos hi, List.getElem?_append_left hi]; rwa [List.getElem?_append_left hi] at hu
  rw [if_neg hi, List.getElem?_append_right (by omega)]
  rw [List.getElem?_append_right (by omega)] at hu
  rw [show i + 1 - a.length = (i - a.length) + 1 by omega, List.getElem?_cons_succ]; exact hu
 refine ⟨by have := h.1; simp at this ⊢; omega, fun i v' x' a b => ?_, fun i j u u' a b hij => ?_⟩
 ·have a' := g1 _ _ v _ _ a
  have b' := g1 _ _ x _ _ b
  rw [← hl] at b'
  exact h.2.1 _ _ _ a' b'
 have a' := g1 _ _ v _ _ a
 have b' := g1 _ _ v _ _ b
 exact h.2.2 _ _ _ _ a' b' (by split <;> split <;> omega)
theorem Zoz {α : Type} {l : List α} {i : Nat} {y : α} (h : l[i]? = some y) : l.drop i = y :: l.drop (i + 1) := by
 obtain ⟨hi, e⟩ := List.getElem?_eq_some_iff.1 h
 rw [List.drop_eq_getElem_cons hi, e]
theorem Od.app {α : Type} {cs : α → List Value} {e k : Nat} {w : World} {lo hi lo2 hi2 : Nat} {vs us : List Sv} {xs ys : List (List α)} (h : Od cs e k w lo hi vs xs) (h2 : Od cs e k w lo2 hi2 us ys) (hh : hi ≤ lo2) (hl : lo ≤ lo2) (hu : hi ≤ hi2) : Od cs e k w lo hi2 (vs ++ us) (xs ++ ys) := by
 have h9 := h.1
 have k9 := h2.1
 refine ⟨by simp [h9, k9], fun i v x a b => ?_, fun i j u v a b hij => ?_⟩
 ·by_cases hi' : i < vs.length
  ·rw [List.getElem?_append_left hi'] at a
   rw [List.getElem?_append_left (by omega)] at b
   obtain ⟨o, r⟩ := h.2.1 i v x a b
   exact ⟨o, fun g hg => by have := r g hg; omega⟩
  rw [List.getElem?_append_right (by omega)] at a
  rw [List.getElem?_append_right (by omega)] at b
  rw [h9] at a
  obtain ⟨o, r⟩ := h2.2.1 _ v x a b
  exact ⟨o, fun g hg => by have := r g hg; omega⟩
 by_cases hi' : i < vs.length
 ·rw [List.getElem?_append_left hi'] at a
  by_cases hj : j < vs.length
  ·rw [List.getElem?_append_left hj] at b
   exact h.2.2 i j u v a b hij
  rw [List.getElem?_append_right (by omega)] at b
  intro g hg hm
  have r1 := h.rng (List.mem_of_getElem? a) hg
  have r2 := h2.rng (List.mem_of_getElem? b) hm
  omega
 rw [List.getElem?_append_right (by omega)] at a
 rw [List.getElem?_append_right (by omega)] at b
 exact h2.2.2 _ _ u v a b (by omega)
section
variable {L : List Int} {t : Tr} {W : List (List Int)} {P : List Int → Bool} {y : List Int} {i j k m : Nat}
end
end Go.KLib

namespace Go.KLib
def bst (l : List UInt8) : Value := .string ⟨l.toArray⟩
def bys (l : List UInt8) : ByteArray := ⟨l.toArray⟩
theorem Zcx (l : List UInt8) : bst l = .string (bys l) := rfl
theorem Zrt (l : List UInt8) : (bys l).toList = l := ByteArray.toList_mk l
theorem Zrv (l : List UInt8) : (bys l).size = l.length := rfl
def scs (s : List UInt8) : List Value := [bst s]
theorem Zeq (s : List UInt8) : (scs s).length = 1 := rfl
theorem Zpe (s : List UInt8) : ∀ v ∈ scs s, v.oneCell' = true := fun v hv => by rw [List.mem_singleton.1 hv]; rfl
def ucs (n : Int) : List Value := [.int .u8 n]
theorem Zhq (n : Int) : (ucs n).length = 1 := rfl
def bat (s : List UInt8) (i : Nat) : Int := ((s.getD i 0).toNat : Int)
theorem Zme (s : List UInt8) (i : Nat) : 0 ≤ bat s i ∧ bat s i ≤ 255 := by
 have := (s.getD i 0).toNat_lt
 unfold bat; omega
theorem Zsv (s : List UInt8) (i : Nat) : -9223372036854775808 ≤ bat s i ∧ bat s i ≤ 9223372036854775807 := by have := Zme s i; omega
def w8 (x : Int) : Int := IntKind.u8.wrap x
section
variable {P : Program} {w : World} {l : KL} {dst : Option Tmp} {ty : TypeId} {pos : String} {aft : Array Go.Edge} {gd : Option (Nat × Bool)} {x y z : Operand} {xt yt : TypeId} {a b : Int} {k : IntKind} {s t : List UInt8}
theorem Zqb (hx : ev l x = some (.int .i64 a)) (hy : ev l y = some (.int .i64 b)) : Qu P l ⟨dst, .binOp .mul xt x y yt, ty, pos, aft, gd⟩ w (.int .i64 (w64 (a * b))) w := Ztj hx hy
theorem Zhn (h : s.length + t.length ≤ 9223372036854775807) (hx : ev l x = some (bst s)) (hy : ev l y = some (bst t)) : Qu P l ⟨dst, .binOp .add xt x y yt, ty, pos, aft, gd⟩ w (bst (s ++ t)) w := fun ρ hρ => by
 have e := run_string_add_sum (P := P) w (bys s) (bys t) h
 rw [show bys s ++ bys t = bys (s ++ t) from ByteArray.mk_append_mk s t] at e
 rw [Zcx] at hx hy
 simp [execOp, hρ _ _ hx, hρ _ _ hy, eqGuard, binOp, e, Zcx]
theorem Zst (hx : ev l x = some (bst s)) (hy : ev l y = some (bst t)) : Qu P l ⟨dst, .binOp .eql xt x y yt, ty, pos, aft, gd⟩ w (.bool (decide (s = t))) w := fun ρ hρ => by
 have e : (s == t) = decide (s = t) := by by_cases h : s = t <;> simp [h]
 rw [Zcx] at hx hy
 simp [execOp, hρ _ _ hx, hρ _ _ hy, eqGuard, binOp, Op.stringOp, Zrt, e]
theorem Ztf {t : TypeId} (ht : P.underlying t = some .string) (h : ev l x = some (bst s)) :
   Qu P l ⟨dst, .call { callee := .builtin .len, args := #[x], argTypes := #[t] }, ty, pos, aft, gd⟩ w (.int .i64 s.length) w := fun ρ hρ => by
 rw [Zcx] at h
 simp [execOp, resolve, invoke, builtin, Builtin.len_, run_underlying ht, hρ _ _ h, goInt, Zrv]
theorem Zdy {t : TypeId} {i : Int} (h0 : 0 ≤ i ∧ i < s.length) (ht : P.underlying t = some .string) (hx : ev l x = some (bst s)) (hy : ev l y = some (.int k i)) :
   Qu P l ⟨dst, .index t x y, ty, pos, aft, gd⟩ w (.int .u8 (bat s i.toNat)) w := fun ρ hρ => by
 have e := run_index_string (P := P) w t (bys s) k i ht
 rw [dif_pos (show 0 ≤ i ∧ i < ((bys s).size : Int) from h0)] at e
 have hlt : i.toNat < s.length := by omega
 have e2 : (bys s)[i.toNat]'(by show i.toNat < s.length; exact hlt) = s.getD i.toNat 0 := by
  show s.toArray[i.toNat]'(by simpa using hlt) = _
  simp [List.getD_eq_getElem?_getD, hlt]
 rw [Zcx] at hx
 rw [e2] at e
 simp [execOp, hρ _ _ hx, hρ _ _ hy, e, bat]
theorem Zvw {t : TypeId} {i j : Int} {k' : IntKind} (h0 : 0 ≤ i ∧ i ≤ j ∧ j ≤ s.length) (ht : P.underlying t = some .string) (hx : ev l x = some (bst s)) (hy : ev l y = some (.int k i)) (hz : ev l z = some (.int k' j)) :
   Qu P l ⟨dst, .slice t x (some y) (some z) none, ty, pos, aft, gd⟩ w (bst ((s.drop i.toNat).take (j.toNat - i.toNat))) w := fun ρ hρ => by
 have e := run_slice_string (P := P) w t (bys s) k k' i j ht h0.1 h0.2.1 h0.2.2
 rw [show (bys s).extract i.toNat j.toNat = bys ((s.drop i.toNat).take (j.toNat - i.toNat)) from ByteArray.extract_mk s _ _] at e
 rw [Zcx] at hx
 simp [execOp, hρ _ _ hx, hρ _ _ hy, hρ _ _ hz, Instr.sliceAt, run_underlying ht, e, Zcx]
theorem Zua {t : TypeId} {i : Int} (h0 : 0 ≤ i ∧ i ≤ s.length) (ht : P.underlying t = some .string) (hx : ev l x = some (bst s)) (hy : ev l y = some (.int k i)) :
   Qu P l ⟨dst, .slice t x (some y) none none, ty, pos, aft, gd⟩ w (bst (s.drop i.toNat)) w := fun ρ hρ => by
 have e := run_slice_string_l (P := P) w t (bys s) ht k i h0.1 h0.2
 rw [show (bys s).extract i.toNat (bys s).size = bys (s.drop i.toNat) from by
  rw [show (bys s).extract i.toNat (bys s).size = bys ((s.drop i.toNat).take (s.length - i.toNat)) from ByteArray.extract_mk s _ _, List.take_of_length_le (by simp)]] at e
 rw [Zcx] at hx
 simp [execOp, hρ _ _ hx, hρ _ _ hy, Instr.sliceAt, run_underlying ht, e, Zcx]
theorem Zqu (ns : List Int) : ∀ (s : ByteArray), (ns.foldl (fun r n => r.push (UInt8.ofNat n.toNat)) s).data.toList = s.data.toList ++ ns.map fun n => UInt8.ofNat n.toNat := by
 induction ns with
 | nil => intro s; simp
 | cons n ns ih => intro s; simp only [List.foldl_cons, ih]; simp [ByteArray.push]
def u8s (ns : List Int) : List UInt8 := ns.map fun n => UInt8.ofNat n.toNat
theorem Zjg {src d e : TypeId} {ns : List Int} {v : Value} {L B : Nat} (hs : Ls ucs 1 w L B v ns) (h1 : elB P src = some e) (h2 : P.underlying e = some (.int .u8)) (h3 : P.underlying d = some .string) (hx : ev l x = some v) :
   Qu P l ⟨dst, .convert src d x, ty, pos, aft, gd⟩ w (bst (u8s ns)) w := fun ρ hρ => by
 obtain ⟨hl, A, c, rfl, hc, hm, hA⟩ := hs
 have hcv := fun a n c => run_convert_bytes_string (P := P) w src d e a n c (Zbu h1) h2 h3
 have fm : ∀ ns : List Int, ns.flatMap ucs = ns.map (Value.int .u8) := fun ns => by induction ns with | nil => rfl | cons n ns ih => simp [ucs, ih]
 have fp : ∀ ns : List Int, ns.foldl (fun r n => r.push (UInt8.ofNat n.toNat)) ByteArray.empty = bys (u8s ns) := fun ns => by
  apply ByteArray.ext
  apply Array.toList_inj.1
  rw [Zqu]; simp [bys, u8s]
 by_cases hn : ns = []
 ·subst hn
  have hk : (Conv.bytesToString (.slice A ([] : List Int).length c)).run P w = .ok (bst (u8s [])) w := by
   cases A with
   | none => simp [Conv.bytesToString]; rfl
   | some a =>
    have := run_bytesToString (P := P) w a 0 c [] (by simp [loadCells, loadCellsFrom])
    rw [fp] at this
    exact this
  simp only [execOp, hρ _ _ hx, Sem.run_bind, hcv, hk, Result.andThen_ok, Sem.run_pure]
 obtain ⟨a, rfl, _, hcell⟩ := hA (by have := List.length_pos_iff.2 hn; omega)
 have hk := run_bytesToString (P := P) w a ns.length c ns (by
  have := run_loadCells_list (P := P) w a (ns.map (Value.int .u8)) (fun j v hj => hcell j v (by rw [fm]; exact hj))
  simpa using this)
 rw [fp] at hk
 simp only [execOp, hρ _ _ hx, Sem.run_bind, hcv, hk, Result.andThen_ok, Sem.run_pure]
 rfl
end
end Go.KLib

namespace Go.KLib
open Go.Sort Go.RowKit Go.Shelf Go.Proofs
section
variable {B : Nat → Prop} {S : Int} {N : List (List Int)} {n j s k f : Nat} {l : List Bool} {r : List Int} {y : Int}
end
section
variable {S : Int} {A : List Bool} {N : List (List Int)} {us : List Int} {i : Nat} {y : Int}
end
end Go.KLib

namespace Go.KLib
def Cu (w : World) (b : Nat) : Prop := ∃ (v : Value) (xs : List Int) (t : TypeId) (i h : Int), Blk w b t [v, .int .i64 i, .int .i64 h] ∧ Ls ucs 1 w 0 b v xs ∧ 0 ≤ i ∧ i ≤ xs.length
theorem Cu.lt {w : World} {b : Nat} (h : Cu w b) : b < w.heap.size := by obtain ⟨_, _, _, _, _, h, _⟩ := h; exact h.lt
theorem Cu.ch {w w' : World} {b : Nat} {ws : List Nat} (h : Cu w b) (c : Ch ws w w') (hw : ∀ i ∈ ws, b < i) : Cu w' b := by
 obtain ⟨v, xs, t, i, k, h1, h2, h3⟩ := h
 exact ⟨v, xs, t, i, k, h1.ch c (fun hm => by have := hw _ hm; omega), Sl.ch h2 c (fun j hj => .inr (by have := hw _ hj; omega)), h3⟩
theorem Cu.ch0 {w w' : World} {b : Nat} (h : Cu w b) (c : Ch [] w w') : Cu w' b := h.ch c (fun _ hm => by cases hm)
theorem Zup (x : Int) (m : Nat) (hm : m < 9223372036854775808) : 0 ≤ iand x m ∧ iand x m ≤ m := by
 unfold iand
 have h : (BitVec.ofInt IntKind.i64.bits x &&& BitVec.ofInt IntKind.i64.bits (m : Int)).toNat ≤ m := by
  rw [BitVec.toNat_and]
  refine Nat.le_trans Nat.and_le_right ?_
  rw [BitVec.toNat_ofInt]
  show ((m : Int) % (2 ^ 64 : Nat)).toNat ≤ m
  have : (m : Int) % ((2 ^ 64 : Nat) : Int) = m := Int.emod_eq_of_lt (by omega) (by omega)
  rw [this]; simp
 rw [IntWalk.i64_in _ (by omega)]
 omega
theorem Zpd (x : Int) : 0 ≤ iand x 255 ∧ iand x 255 ≤ 255 := Zup x 255 (by decide)
theorem Zkb {x n : Int} (h : 0 ≤ x) (hn : 0 < n) : 0 ≤ x.tmod n ∧ x.tmod n < n := ⟨Int.tmod_nonneg _ h, Int.tmod_lt_of_pos _ hn⟩
def letS : List (List UInt8) := [[97], [97, 45], [98], [98, 45], [99], [99, 45], [48], [49], [50]]
def fmtL (n : Int) : List UInt8 := if 0 ≤ n ∧ n ≤ 8 then letS.getD n.toNat [] else []
theorem Zvm {n : Int} {y : List UInt8} (h : 0 ≤ n ∧ n ≤ 8) (hy : letS[n.toNat]? = some y) : y = fmtL n := by unfold fmtL; rw [if_pos h, Qd hy]
theorem Zvv {n : Int} (h : ¬ (0 ≤ n ∧ n ≤ 8)) : [] = fmtL n := by unfold fmtL; rw [if_neg h]
def ltrI (s : List UInt8) (k : Nat) : Option Nat := (List.range k).find? fun i => decide (letS.getD i [] = s)
def plR (s : List UInt8) : Int × Bool := match ltrI s 9 with | some i => ((i : Int), true) | none => (0, false)
theorem Zqf {s : List UInt8} : ltrI s 0 = none := rfl
theorem Zwa {s : List UInt8} {k : Nat} (h : ltrI s k = none) (hk : k < 9) (hn : ¬ fmtL k = s) : ltrI s (k + 1) = none := by
 unfold ltrI at *
 rw [List.range_succ, List.find?_append, h]
 unfold fmtL at hn
 rw [if_pos (by omega), Int.toNat_natCast, List.getD_eq_getElem?_getD] at hn
 simp [hn]
theorem Zln {p : Nat → Bool} {k i : Nat} (h : (List.range k).find? p = none) (hp : p k = true) (hi : k < i) : (List.range i).find? p = some k := by
 have e : List.range i = List.range k ++ (k :: (List.range' (k + 1) (i - (k + 1)))) := by
  rw [List.range_eq_range', List.range_eq_range', show k :: List.range' (k + 1) (i - (k + 1)) = List.range' k (i - k) from by
   rw [show i - k = (i - (k + 1)) + 1 by omega, List.range'_succ]]
  have := List.range'_append (s := 0) (m := k) (n := i - k) (step := 1)
  rw [Nat.one_mul, Nat.zero_add, show k + (i - k) = i by omega] at this
  exact this.symm
 rw [e, List.find?_append, h, List.find?_cons]
 simp [hp]
theorem Zrc {s : List UInt8} {k : Nat} (h : ltrI s k = none) (hk : k < 9) (hy : fmtL k = s) : ((k : Int), true) = plR s := by
 unfold fmtL at hy
 rw [if_pos (by omega), Int.toNat_natCast, List.getD_eq_getElem?_getD] at hy
 have : ltrI s 9 = some k := Zln h (by simp [hy]) hk
 unfold plR; rw [this]
theorem Zrh {s : List UInt8} {k : Nat} (h : ltrI s k = none) (hk : ¬ (k : Int) < 9) (hk2 : k ≤ 9) : ((0 : Int), false) = plR s := by
 obtain rfl : k = 9 := by omega
 unfold plR; rw [h]
def Qr : List UInt8 → Int → List UInt8 → List (List UInt8)
 | [], _, cur => [cur]
 | c :: s, sep, cur => if (c.toNat : Int) = sep then cur :: Qr s sep [] else Qr s sep (cur ++ [c])
theorem Zhj : ∀ (s : List UInt8) (sep : Int) (cur : List UInt8), (Qr s sep cur).length ≤ s.length + 1
 | [], _, _ => by simp [Qr]
 | c :: s, sep, cur => by
  unfold Qr; split
  ·have := Zhj s sep []; simp; omega
  have := Zhj s sep (cur ++ [c]); simp; omega
theorem Zqc {s : List UInt8} {i : Nat} (h : i < s.length) : ∃ c, s[i]? = some c ∧ bat s i = (c.toNat : Int) := ⟨s[i], List.getElem?_eq_getElem h, by unfold bat; rw [List.getD_eq_getElem?_getD, List.getElem?_eq_getElem h]; rfl⟩
theorem Zpk {s : List UInt8} {sep : Int} {i f : Nat} {out : List (List UInt8)} (h : out ++ Qr (s.drop i) sep ((s.drop f).take (i - f)) = Qr s sep []) (hi : i < s.length) (hc : bat s i = sep) :
   (out ++ [(s.drop f).take (i - f)]) ++ Qr (s.drop (i + 1)) sep ((s.drop (i + 1)).take (i + 1 - (i + 1))) = Qr s sep [] := by
 obtain ⟨c, h1, h2⟩ := Zqc hi
 rw [← h, Zoz h1]
 show _ = out ++ (if (c.toNat : Int) = sep then _ else _)
 rw [if_pos (by omega)]
 simp
theorem Zmz {s : List UInt8} {sep : Int} {i f : Nat} {out : List (List UInt8)} (h : out ++ Qr (s.drop i) sep ((s.drop f).take (i - f)) = Qr s sep []) (hi : i < s.length) (hf : f ≤ i) (hc : ¬ bat s i = sep) :
   out ++ Qr (s.drop (i + 1)) sep ((s.drop f).take (i + 1 - f)) = Qr s sep [] := by
 obtain ⟨c, h1, h2⟩ := Zqc hi
 rw [← h, Zoz h1]
 show _ = out ++ (if (c.toNat : Int) = sep then _ else _)
 rw [if_neg (by omega), show i + 1 - f = (i - f) + 1 by omega]
 congr 2
 rw [Zaw (xs := s.drop f) (by rw [List.getElem?_drop, show f + (i - f) = i by omega]; exact h1)]
theorem Zuf {s : List UInt8} {sep : Int} {i f : Nat} {out : List (List UInt8)} (h : out ++ Qr (s.drop i) sep ((s.drop f).take (i - f)) = Qr s sep []) (hi : s.length ≤ i) : out ++ [s.drop f] = Qr s sep [] := by
 rw [← h, List.drop_of_length_le hi, Qr, List.take_of_length_le (by rw [List.length_drop]; omega)]
theorem Zsq {s : List UInt8} {sep : Int} : ([] : List (List UInt8)) ++ Qr (s.drop 0) sep ((s.drop 0).take (0 - 0)) = Qr s sep [] := by simp
theorem Zwk {x : Int} (h : 0 ≤ x ∧ x ≤ 255) : w8 x = x := by
 unfold w8 IntKind.wrap
 simp [IntKind.signed, IntKind.bits]
 omega
def dgF : Nat → Nat → List UInt8
 | 0, _ => []
 | f + 1, n => if n = 0 then [] else dgF f (n / 10) ++ [UInt8.ofNat (48 + n % 10)]
theorem Znc : ∀ (f g n : Nat), n < 10 ^ f → n < 10 ^ g → dgF f n = dgF g n
 | 0, 0, _, _, _ => rfl
 | 0, g + 1, n, h, _ => by
  have : n = 0 := by simpa using h
  subst this; simp [dgF]
 | f + 1, 0, n, _, h => by
  have : n = 0 := by simpa using h
  subst this; simp [dgF]
 | f + 1, g + 1, n, h, k => by
  unfold dgF
  split
  ·rfl
  rw [Znc f g (n / 10) (by rw [Nat.pow_succ] at h; omega) (by rw [Nat.pow_succ] at k; omega)]
theorem Zmh : ∀ f n, (dgF f n).length ≤ f
 | 0, _ => by simp [dgF]
 | f + 1, n => by
  unfold dgF; split
  ·simp
  have := Zmh f (n / 10); simp; omega
def fmtI (n : Int) : List UInt8 := if n = 0 then [48] else if n < 0 then 45 :: dgF 20 n.natAbs else dgF 20 n.natAbs
theorem Znd (n : Int) : (fmtI n).length ≤ 21 := by
 have := Zmh 20 n.natAbs
 unfold fmtI; split
 ·simp
 split
 ·simp; omega
 omega
theorem Zpi {m : Int} {d : Int} {out : List UInt8} {n : Int} (h : dgF 20 m.natAbs ++ out = dgF 20 n.natAbs) (hm : ¬ m = 0) (hb : -9223372036854775808 ≤ m ∧ m ≤ 9223372036854775807) (hd : d = m.tmod 10 ∨ d = -(m.tmod 10)) (h0 : 0 ≤ d) :
   dgF 20 (m.tdiv 10).natAbs ++ (u8s [w8 (48 + d)] ++ out) = dgF 20 n.natAbs := by
 have e1 : (m.tdiv 10).natAbs = m.natAbs / 10 := Int.natAbs_tdiv m 10
 have e2 : (m.tmod 10).natAbs = m.natAbs % 10 := Int.natAbs_tmod m 10
 have hd2 : d.toNat = m.natAbs % 10 := by rcases hd with e | e <;> omega
 have hd3 : d ≤ 9 := by omega
 rw [← h, e1]
 have e3 : dgF 20 m.natAbs = dgF 19 (m.natAbs / 10) ++ [UInt8.ofNat (48 + m.natAbs % 10)] := by
  rw [dgF, if_neg (by omega)]
 rw [e3, Znc 19 20 (m.natAbs / 10) (by omega) (by omega), List.append_assoc]
 congr 1
 show [UInt8.ofNat (w8 (48 + d)).toNat] ++ out = _
 rw [Zwk (by omega), show (48 + d).toNat = 48 + m.natAbs % 10 by omega]
theorem Zta {out : List UInt8} {n : Int} {m : Int} (h : dgF 20 m.natAbs ++ out = dgF 20 n.natAbs) (hm : m = 0) : out = dgF 20 n.natAbs := by
 subst hm; simpa [dgF] using h
theorem Zvs {n : Int} (h : n = 0) : [48] = fmtI n := by unfold fmtI; rw [if_pos h]
theorem Zrn {n : Int} {out : List UInt8} (h : n < 0) (ho : out = dgF 20 n.natAbs) : [45] ++ out = fmtI n := by unfold fmtI; rw [if_neg (by omega), if_pos h, ho]; rfl
theorem Zrz {n : Int} {out : List UInt8} (h : ¬ n < 0) (h0 : ¬ n = 0) (ho : out = dgF 20 n.natAbs) : out = fmtI n := by unfold fmtI; rw [if_neg h0, if_neg h, ho]
def tokS (t : Token) : List UInt8 :=
 if t.kind = 1 then [33] else if t.kind = 2 then [40, 41] else if t.kind = 3 then fmtL t.letter else if t.kind = 4 then [46] else if t.kind = 5 then [124] else if t.kind = 6 then [42]
 else (((([123] : List UInt8) ++ fmtI t.low) ++ [44]) ++ fmtI t.high) ++ [125]
def rdK (s : List UInt8) (k : Nat) : Option Nat := (List.range k).find? fun i => decide (1 ≤ i ∧ i ≠ 3 ∧ tokS ⟨(i : Int), 0, 0, 0⟩ = s)
theorem Zrl {s : List UInt8} : rdK s 1 = none := by simp [rdK, List.range_succ]
theorem Zva {s : List UInt8} {k : Nat} (h : rdK s k = none) (hn : k = 3 ∨ ¬ tokS ⟨(k : Int), 0, 0, 0⟩ = s) : rdK s (k + 1) = none := by
 unfold rdK at *
 rw [List.range_succ, List.find?_append, h]
 rcases hn with hn | hn <;> simp [hn]
def rdT (s : List UInt8) : Token := match rdK s 7 with
 | some i => ⟨(i : Int), 0, 0, 0⟩
 | none => if (plR s).2 = true then ⟨3, (plR s).1, 0, 0⟩ else if s.length = 5 ∧ bat s 0 = 123 ∧ bat s 2 = 44 ∧ bat s 4 = 125 then ⟨7, 0, bat s 1 - 48, bat s 3 - 48⟩ else ⟨0, 0, 0, 0⟩
theorem Zlv {s : List UInt8} {k : Nat} (h : rdK s k = none) (h1 : 1 ≤ k) (h3 : ¬ k = 3) (h6 : k ≤ 6) (hy : tokS ⟨(k : Int), 0, 0, 0⟩ = s) : ⟨(k : Int), 0, 0, 0⟩ = rdT s := by
 have : rdK s 7 = some k := Zln h (by simp [hy, h1, h3]) (by omega)
 unfold rdT; rw [this]
theorem Zal {s : List UInt8} {k : Nat} (h : rdK s k = none) (h6 : ¬ (k : Int) ≤ 6) (h7 : k ≤ 7) : rdK s 7 = none := by
 obtain rfl : k = 7 := by omega
 exact h
theorem Zly {s : List UInt8} (h : rdK s 7 = none) (hp : (plR s).2 = true) : ⟨3, (plR s).1, 0, 0⟩ = rdT s := by unfold rdT; rw [h]; simp [hp]
theorem Zlx {s : List UInt8} (h : rdK s 7 = none) (hp : (plR s).2 = false) (hc : s.length = 5 ∧ bat s 0 = 123 ∧ bat s 2 = 44 ∧ bat s 4 = 125) : ⟨7, 0, bat s 1 - 48, bat s 3 - 48⟩ = rdT s := by unfold rdT; rw [h]; simp [hp, hc]
theorem Zlw {s : List UInt8} (h : rdK s 7 = none) (hp : (plR s).2 = false) (hc : ¬ (s.length = 5 ∧ bat s 0 = 123 ∧ bat s 2 = 44 ∧ bat s 4 = 125)) : ⟨0, 0, 0, 0⟩ = rdT s := by unfold rdT; rw [h]; simp only [hp]; rw [if_neg (by simp), if_neg hc]
def parS (s : List UInt8) : List Token × Bool := if ivE (((Qr s 32 []).take 25).map rdT) = true then (((Qr s 32 []).take 25).map rdT, true) else ([], false)
theorem Zac {α : Type} {l : List α} {i : Nat} (h : l.length ≤ i ∨ 25 ≤ i) (h2 : i ≤ 25) : l.take i = l.take 25 := by
 rcases h with h | h
 ·rw [List.take_of_length_le h, List.take_of_length_le (by omega)]
 rw [show i = 25 by omega]
theorem Zgj {s : List UInt8} {ts : List Token} (ht : ts = ((Qr s 32 []).take 25).map rdT) (h : ivE ts = true) : parS s = (ts, true) := by unfold parS; rw [← ht, if_pos h]
theorem Zgl {s : List UInt8} {ts : List Token} (ht : ts = ((Qr s 32 []).take 25).map rdT) (h : ivE ts = false) : parS s = ([], false) := by unfold parS; rw [← ht, if_neg (by rw [h]; simp)]
theorem Zdb {α β : Type} {f : α → β} {l : List α} {i : Nat} {y : α} (h : l[i]? = some y) : (l.take i).map f ++ [f y] = (l.take (i + 1)).map f := by rw [Zaw h, List.map_append]; rfl
def Zsu : List (List UInt8) := [[97], [97, 32, 98, 32, 46], [97, 32, 42], [97, 32, 98, 32, 124, 32, 42], [97, 32, 97, 45, 32, 46], [97, 32, 42, 32, 98, 32, 46], [97, 32, 98, 32, 42, 32, 46, 32, 99, 32, 46], [97, 32, 97, 32, 124, 32, 42], [97, 32, 98, 32, 46, 32, 42], [48, 32, 97, 32, 46, 32, 42], [97, 32, 49, 32, 46, 32, 98, 32, 46], [97, 32, 123, 48, 44, 50, 125], [97, 32, 98, 32, 124, 32, 123, 49, 44, 51, 125], [40, 41], [33], [97, 45, 32, 42, 32, 97, 32, 46], [97, 32, 98, 45, 32, 46, 32, 42, 32, 99, 32, 124], [97, 32, 42, 32, 97, 32, 42, 32, 46], [97, 32, 48, 32, 124, 32, 42, 32, 98, 32, 46], [97, 32, 97, 32, 46, 32, 42], [97, 32, 98, 32, 46, 32, 98, 32, 97, 32, 46, 32, 124, 32, 42]]
theorem Zsk : ∀ x ∈ Zsu, 1 ≤ (parS x).1.length ∧ (parS x).1.length ≤ 24 := by decide +kernel
end Go.KLib

namespace Go.KLib
section
variable {P : Program} {w : World} {l : KL} {dst : Option Tmp} {ty : TypeId} {pos : String} {aft : Array Go.Edge} {gd : Option (Nat × Bool)} {x y : Operand} {xt yt : TypeId} {a b : Int} {k : IntKind}
theorem Zwf {t : TypeId} (h : -9223372036854775808 ≤ -a ∧ -a ≤ 9223372036854775807) (hx : ev l x = some (.int .i64 a)) : Qu P l ⟨dst, .unOp .neg t x, ty, pos, aft, gd⟩ w (.int .i64 (-a)) w := fun ρ hρ => by
 have e : IntKind.i64.wrap (-a) = -a := IntWalk.i64_in _ h
 simp [execOp, hρ _ _ hx, Op.unary, Op.intArith, e]
theorem Zvf (hb : ¬ b = 0) (h : -9223372036854775808 ≤ a.tdiv b ∧ a.tdiv b ≤ 9223372036854775807) (hx : ev l x = some (.int .i64 a)) (hy : ev l y = some (.int .i64 b)) :
   Qu P l ⟨dst, .binOp .quo xt x y yt, ty, pos, aft, gd⟩ w (.int .i64 (a.tdiv b)) w := fun ρ hρ => by
 have e := IntWalk.i64_in _ h
 simp [execOp, hρ _ _ hx, hρ _ _ hy, eqGuard, binOp, Op.intDiv, hb, e]
end
theorem td10 {m : Int} (h : -9223372036854775808 ≤ m ∧ m ≤ 9223372036854775807) : -9223372036854775808 ≤ m.tdiv 10 ∧ m.tdiv 10 ≤ 9223372036854775807 := by
 have e1 : (m.tdiv 10).natAbs = m.natAbs / 10 := Int.natAbs_tdiv m 10
 omega
theorem Zvj {m : Int} (h : ¬ m = 0) : (m.tdiv 10).natAbs < m.natAbs := by
 have e1 : (m.tdiv 10).natAbs = m.natAbs / 10 := Int.natAbs_tdiv m 10
 omega
theorem tm10 (m : Int) : -9 ≤ m.tmod 10 ∧ m.tmod 10 ≤ 9 := by
 have e2 : (m.tmod 10).natAbs = m.natAbs % 10 := Int.natAbs_tmod m 10
 omega
theorem Zql : ∀ x ∈ Zsu, x.length ≤ 20 := by decide
theorem Zdo {t : Token} {d : Int} (h : d = 0) : 1 ≤ [t].length ∧ [t].length + 1 ≤ 2 ^ (d.toNat + 1) := by subst h; simp
theorem Ztl {d d1 : Int} (hd : d1 = d - 1) (h0 : 0 ≤ d1) : 2 ^ (d.toNat + 1) = 2 * 2 ^ (d1.toNat + 1) := by
 rw [show d.toNat + 1 = (d1.toNat + 1) + 1 by omega, Nat.pow_succ, Nat.mul_comm]
theorem Zbp {a b : List Token} {t : Token} {d d1 : Int} (ha : 1 ≤ a.length ∧ a.length + 1 ≤ 2 ^ (d1.toNat + 1)) (hb : 1 ≤ b.length ∧ b.length + 1 ≤ 2 ^ (d1.toNat + 1)) (hd : d1 = d - 1) (h0 : 0 ≤ d1) : 1 ≤ (a ++ b ++ [t]).length ∧ (a ++ b ++ [t]).length + 1 ≤ 2 ^ (d.toNat + 1) := by
 rw [Ztl hd h0]; simp only [List.length_append, List.length_singleton]; omega
theorem Zbo {a : List Token} {t : Token} {d d1 : Int} (ha : 1 ≤ a.length ∧ a.length + 1 ≤ 2 ^ (d1.toNat + 1)) (hd : d1 = d - 1) (h0 : 0 ≤ d1) : 1 ≤ (a ++ [] ++ [t]).length ∧ (a ++ [] ++ [t]).length + 1 ≤ 2 ^ (d.toNat + 1) := by
 rw [Ztl hd h0]; simp only [List.length_append, List.length_singleton, List.length_nil]; omega
theorem Zhl {n : Nat} {d : Int} (h : 1 ≤ n ∧ n + 1 ≤ 2 ^ (d.toNat + 1)) (h0 : d ≤ 3) : 1 ≤ n ∧ n ≤ 15 := by
 have : 2 ^ (d.toNat + 1) ≤ 2 ^ 4 := Nat.pow_le_pow_right (by decide) (by omega)
 omega
end Go.KLib

namespace Go.KLib
open Go.ChangeShapes Go.WideShapes Go.ChangeAt Go.RowKit Go.Deep Go.Joins
section
variable {H : Type} {enc : TypeId × Value → H} {P : Program} {w : World} {base : Nat} {spare : Nat → Bool} {held : Bool}
theorem Zvr {t : TypeId} {fuel : Nat} {cs : List Value} {x : DataW H × List MemPlace} (ht : P.underlying t = some (.int .u8)) (h : DataW.trod enc P w base spare held fuel t cs = some x) : ∃ n : Int, cs = ucs n := by
 obtain ⟨n, hn, _⟩ := DataW.trod_int ht h
 exact ⟨n, hn⟩
end
end Go.KLib

namespace Go.KLib
def Pw (L : List Int → Prop) : Nat → List Int → Prop
 | 0, w => w = []
 | k + 1, w => ∃ u v, w = u ++ v ∧ Pw L k u ∧ L v
def Lg : Tr → List Int → Prop
 | .l0 t => fun w => if t.kind = 2 then w = [] else if t.kind = 3 then w = [t.letter] else False
 | .l1 t x => fun w => if t.kind = 6 then ∃ k, Pw (Lg x) k w else if t.kind = 7 then ∃ k : Nat, t.low ≤ (k : Int) ∧ (k : Int) ≤ t.high ∧ Pw (Lg x) k w else False
 | .l2 t x y => fun w => if t.kind = 4 then ∃ u v, w = u ++ v ∧ Lg x u ∧ Lg y v else if t.kind = 5 then Lg x w ∨ Lg y w else False
section
variable {w : List Int} {i j k n : Nat} {A B : Nat → Nat → Bool} {L M : List Int → Prop}
end
section
variable {L M : List Int → Prop} {w u v : List Int} {k m : Nat}
theorem Pw.app (h : Pw L k u) : ∀ {m : Nat} {v : List Int}, Pw L m v → Pw L (k + m) (u ++ v)
 | 0, v, h2 => by rw [show v = [] from h2, List.append_nil]; exact h
 | m + 1, v, ⟨a, b, e, h2, h3⟩ => ⟨u ++ a, b, by rw [e, List.append_assoc], h.app h2, h3⟩
theorem Pw.one : Pw L 1 w ↔ L w := ⟨fun ⟨a, b, e, h, k⟩ => by rw [e, show a = [] from h]; exact k, fun h => ⟨[], w, rfl, rfl, h⟩⟩
theorem Pw.cons (h : L u) (k1 : Pw L k v) : Pw L (k + 1) (u ++ v) := by
 have := (Pw.one.2 h).app k1
 rwa [Nat.add_comm 1 k] at this
theorem Pw.nil (h : L []) : ∀ k, Pw L k []
 | 0 => rfl
 | k + 1 => ⟨[], [], rfl, Pw.nil h k, h⟩
theorem Pw.uncons : ∀ {k : Nat} {w : List Int}, Pw L (k + 1) w → ∃ u v, w = u ++ v ∧ L u ∧ Pw L k v
 | 0, w, h => ⟨w, [], by simp, Pw.one.1 h, rfl⟩
 | k + 1, w, ⟨a, b, e, h, h2⟩ => by
  obtain ⟨u, v, e2, h3, h4⟩ := Pw.uncons h
  exact ⟨u, v ++ b, by rw [e, e2, List.append_assoc], h3, v, b, rfl, h4, h2⟩
theorem Pw.mono (h : ∀ w, L w → M w) : ∀ {k : Nat} {w : List Int}, Pw L k w → Pw M k w
 | 0, _, h1 => h1
 | _ + 1, _, ⟨a, b, e, h1, h2⟩ => ⟨a, b, e, h1.mono h, h b h2⟩
theorem Pw.first {x : Int} : ∀ {k : Nat} {w : List Int}, Pw L k (x :: w) → ∃ u v m, w = u ++ v ∧ L (x :: u) ∧ Pw L m v ∧ m + 1 ≤ k ∧ (m + 1 = k ∨ L [])
 | 0, w, h => by cases h
 | k + 1, w, h => by
  obtain ⟨u, v, e, h1, h2⟩ := Pw.uncons h
  cases u with
  | nil =>
   simp only [List.nil_append] at e; subst e
   obtain ⟨u, v, m, e, a, b, c, _⟩ := Pw.first h2
   exact ⟨u, v, m, e, a, b, by omega, .inr h1⟩
  | cons y u =>
   simp only [List.cons_append, List.cons.injEq] at e
   obtain ⟨rfl, e⟩ := e
   exact ⟨u, v, k, e, h1, h2, Nat.le_refl _, .inl rfl⟩
end
def Ex (e : List Token) (L : List Int → Prop) : Prop := ∃ t, Okd t ∧ e = t.flat ∧ ∀ w, Lg t w ↔ L w
section
variable {a b : List Token} {L M N : List Int → Prop}
theorem Ex.of {t : Tr} (h : Okd t) : Ex t.flat (Lg t) := ⟨t, h, rfl, fun _ => Iff.rfl⟩
theorem Ex.isE (h : Ex a L) : isE a = true := by
 obtain ⟨t, h1, h2, _⟩ := h
 unfold Go.KLib.isE; rw [h2, Zft h1]; rfl
theorem Ex.single {t : Token} (h : Ex a L) (hl : a = [t]) : arT t = 0 ∧ ∀ w, L w ↔ Lg (.l0 t) w := by
 obtain ⟨x, h1, h2, h3⟩ := h
 rw [hl] at h2
 cases x with
 | l0 y =>
  simp only [Tr.flat, List.cons.injEq, and_true] at h2
  subst h2
  exact ⟨h1, fun w => (h3 w).symm⟩
 | l1 y q =>
  have := congrArg List.length h2
  rw [Tr.flat_len] at this
  have := q.sz_pos
  simp [Tr.sz] at *; omega
 | l2 y q r =>
  have := congrArg List.length h2
  rw [Tr.flat_len] at this
  have := q.sz_pos
  have := r.sz_pos
  simp [Tr.sz] at *; omega
theorem Zvi {e : List Token} {k : Int} (h : isK e k = true) : ∃ y, e = [y] ∧ y.kind = k := by
 unfold isK at h
 simp only [decide_eq_true_eq] at h
 obtain ⟨h1, h2⟩ := h
 match e, h1 with
 | [y], _ => exact ⟨y, rfl, h2⟩
theorem Ex.k1 (h : Ex a L) (hk : isK a 1 = true) : ∀ w, ¬ L w := fun w hw => by
 obtain ⟨y, rfl, hy⟩ := Zvi hk
 have := (h.single rfl).2 w
 rw [this] at hw
 simp [Lg, hy] at hw
theorem Ex.k2 (h : Ex a L) (hk : isK a 2 = true) : ∀ w, L w ↔ w = [] := fun w => by
 obtain ⟨y, rfl, hy⟩ := Zvi hk
 rw [(h.single rfl).2 w]
 simp [Lg, hy]
end
section
variable {e a b : List Token} {L M : List Int → Prop} {w : List Int}
end
end Go.KLib

namespace Go.KLib
section
variable {e : List Token} {n : Int} {w u : List Int} {i : Nat}
end
end Go.KLib

namespace Go.KLib
def Rn (E : Nat → Nat → Prop) (La : Nat → Int → Prop) : Nat → List Int → Nat → Prop
 | p, [], q => p = q
 | p, c :: w, q => ∃ r, E p r ∧ La r c ∧ Rn E La r w q
section
variable {E E' Ex Ey : Nat → Nat → Prop} {La : Nat → Int → Prop} {f l fx lx fy ly sx : Nat → Prop} {n nx ny : Prop} {p q r : Nat} {u v w : List Int}
theorem Rn.app : ∀ {u : List Int} {p : Nat}, Rn E La p u q → Rn E La q v r → Rn E La p (u ++ v) r
 | [], p, h, k => by rw [show p = q from h]; exact k
 | c :: u, p, ⟨s, a, b, h⟩, k => ⟨s, a, b, h.app k⟩
theorem Rn.mono (h : ∀ p q, E p q → E' p q) : ∀ {w : List Int} {p : Nat}, Rn E La p w q → Rn E' La p w q
 | [], _, e => e
 | _ :: _, _, ⟨s, a, b, k⟩ => ⟨s, h _ _ a, b, k.mono h⟩
end
end Go.KLib

namespace Go.KLib
def bt (m : Int) (p : Nat) : Prop := m.toNat.testBit p = true
instance {m : Int} {p : Nat} : Decidable (bt m p) := inferInstanceAs (Decidable (_ = true))
def okm (m : Int) (n : Nat) : Prop := 0 ≤ m ∧ m.toNat < 2 ^ n
section
variable {a b m l f : Int} {n k p q s : Nat} {F L : List Int}
theorem okm.up (h : okm m n) (hn : n ≤ k) : okm m k := ⟨h.1, Nat.lt_of_lt_of_le h.2 (Nat.pow_le_pow_right (by decide) hn)⟩
end
def NoR : Tr → Prop
 | .l0 _ => True
 | .l1 t x => ¬ t.kind = 7 ∧ NoR x
 | .l2 _ x y => NoR x ∧ NoR y
end Go.KLib

namespace Go.KLib
end Go.KLib

namespace Go.KLib
section
variable {a zs : List (List Int)} {i j : Nat} {x y : List Int} {k kk : Int}
end
section
variable {a : List (List Int)} {i : Nat} {k kk : Int}
end
end Go.KLib

namespace Go.KLib
section
variable {a b m set nx c last f : Int} {n k p q s : Nat} {F L : List Int} {nl : Bool}
variable {l : Int} {w : List Int}
theorem Rn.snoc {E : Nat → Nat → Prop} {La : Nat → Int → Prop} : ∀ {v : List Int} {p : Nat}, Rn E La p (v ++ [c]) q ↔ ∃ j, Rn E La p v j ∧ E j q ∧ La q c
 | [], p => ⟨fun ⟨r, h1, h2, h3⟩ => by rw [show r = q from h3] at h1 h2; exact ⟨p, rfl, h1, h2⟩, fun ⟨j, h1, h2, h3⟩ => by rw [show p = j from h1]; exact ⟨q, h2, h3, rfl⟩⟩
 | d :: v, p => by
  constructor
  ·rintro ⟨r, h1, h2, h3⟩
   obtain ⟨j, h4, h5⟩ := Rn.snoc.1 h3
   exact ⟨j, ⟨r, h1, h2, h4⟩, h5⟩
  rintro ⟨j, ⟨r, h1, h2, h4⟩, h5⟩
  exact ⟨r, h1, h2, Rn.snoc.2 ⟨j, h4, h5⟩⟩
end
end Go.KLib

namespace Go.KLib
section
variable {w : List Int} {x t : Tr} {e : List Token}
theorem Pw.congr {L M : List Int → Prop} (h : ∀ w, L w ↔ M w) {k : Nat} : Pw L k w ↔ Pw M k w := ⟨Pw.mono fun w => (h w).1, Pw.mono fun w => (h w).2⟩
theorem Zpa (hx : NoR x) : ∀ (h : Nat) (low : Int), NoR (timT x low h)
 | 0, _ => trivial
 | h + 1, low => by
  have ih := Zpa hx h (if low - 1 > 0 then low - 1 else 0)
  unfold timT
  split
  ·exact ⟨hx, ih⟩
  exact ⟨⟨hx, ih⟩, trivial⟩
theorem Zjq : ∀ t : Tr, NoR (Qe t)
 | .l0 _ => trivial
 | .l1 t a => by
  have ih := Zjq a
  unfold Qe
  split
  ·exact Zpa ih _ _
  rename_i h; exact ⟨h, ih⟩
 | .l2 t a b => ⟨Zjq a, Zjq b⟩
theorem bp_L : ∀ (t : Tr) (L F : List Int), Okd t → NoR t → (bpT t L F).L = L ++ letT t
 | .l0 t, L, F, _, _ => by
  unfold bpT letT
  by_cases h2 : t.kind = 2
  ·rw [if_pos h2, if_neg (by omega)]; simp
  by_cases h3 : t.kind = 3
  ·rw [if_neg h2, if_pos h3, if_pos h3]
  rw [if_neg h2, if_neg h3, if_neg h3]; simp
 | .l1 t x, L, F, h, hn => by
  have h6 : t.kind = 6 := by
   have h1 : arT t = 1 := h.1
   have h2 := hn.1
   rw [Zdl (by omega)] at h1
   unfold arK at h1
   split at h1
   ·cases h1
   split at h1
   ·omega
   cases h1
  unfold bpT letT
  rw [if_pos h6]; exact bp_L x L F h.2 hn.2
 | .l2 t x y, L, F, h, hn => by
  have h45 : t.kind = 4 ∨ t.kind = 5 := by
   have h1 : arT t = 2 := h.1
   rw [Zdl (by omega)] at h1
   unfold arK at h1
   split at h1
   ·assumption
   split at h1
   ·cases h1
   cases h1
  have hx := bp_L x L F h.2.1 hn.1
  have hy := bp_L y (bpT x L F).L (bpT x L F).F h.2.2 hn.2
  unfold bpT letT
  rcases h45 with h4 | h5
  ·rw [if_pos h4]; simp only; rw [hy, hx, List.append_assoc]
  rw [if_neg (by omega), if_pos h5]; simp only; rw [hy, hx, List.append_assoc]
theorem Zhg : ∀ t : Tr, Okd t → (letT t).length = cntL t.flat
 | .l0 t, _ => by unfold letT cntL Tr.flat; by_cases h : t.kind = 3 <;> simp [h]
 | .l1 t a, h => by
  have ih := Zhg a h.2
  have hk : ¬ t.kind = 3 := fun e => by
   have h1 : arT t = 1 := h.1
   rw [Zdl (by omega), e] at h1
   simp [arK] at h1
  unfold letT; rw [ih]; unfold cntL; rw [Tr.flat, List.countP_append]; simp [hk]
 | .l2 t a b, h => by
  have ih := Zhg a h.2.1
  have ih2 := Zhg b h.2.2
  have hk : ¬ t.kind = 3 := fun e => by
   have h1 : arT t = 2 := h.1
   rw [Zdl (by omega), e] at h1
   simp [arK] at h1
  unfold letT; rw [List.length_append, ih, ih2]; unfold cntL; rw [Tr.flat, List.countP_append, List.countP_append]; simp [hk]
end
end Go.KLib

namespace Go.KLib
section
variable {S : Int} {A : List Bool} {N : List (List Int)} {C : List Int} {s t n : Nat}
theorem Zds {T : Type} (nx : T → Nat → T) (t0 : T) (c : Int) (v : List Int) : runT nx t0 (c :: v) = runT nx (nx t0 c.toNat) v := rfl
theorem Zkg {c : Int} {v : List Int} : okW (c :: v) ↔ (0 ≤ c ∧ c ≤ 8) ∧ okW v :=
 ⟨fun h => ⟨h c (List.mem_cons_self ..), fun x hx => h x (List.mem_cons_of_mem _ hx)⟩, fun h x hx => by
  rcases List.mem_cons.1 hx with e | e
  ·rw [e]; exact h.1
  exact h.2 x e⟩
theorem Zrs {x : Int} (h : x < 0) (k : Nat) : nxI N x k = -1 := by unfold nxI Yd; rw [if_pos (.inl h)]
theorem Zjm : ∀ (v : List Int) (x : Int), x < 0 → Qy A (runT (nxI N) x v) = false
 | [], x, h => by show Qy A x = false; exact (Zhm (by omega)).symm
 | c :: v, x, h => by rw [Zds, Zrs h]; exact Zjm v (-1) (by omega)
theorem Zow {x : Int} (hx : 0 ≤ x) {k : Nat} (hk : k ≤ 8) : nxI N x k = (N.getD x.toNat []).getD k 0 := by
 unfold nxI Yd; rw [if_neg (by omega)]; rfl
theorem Zor (h : Yz S A N) (hs : s < A.length) {k : Nat} (hk : k ≤ 8) : ∃ r, N[s]? = some r ∧ r[k]? = some (nxI N s k) := by
 have hN := h.2.2.1
 have hr : N[s]? = some (N[s]'(by omega)) := List.getElem?_eq_getElem _
 have hl := (Xy h.2 hr).1
 refine ⟨_, hr, ?_⟩
 rw [Zow (Int.natCast_nonneg s) hk, Int.toNat_natCast, Qd hr, List.getD_eq_getElem?_getD, List.getElem?_eq_getElem (by omega)]
 rfl
theorem Zoq (h : Yz S A N) (hs : s < A.length) {k : Nat} (hk : k ≤ 8) : -1 ≤ nxI N s k ∧ nxI N s k ≤ (A.length : Int) - 1 := by
 obtain ⟨r, h1, h2⟩ := Zor h hs hk
 exact Zaq h.2 h1 h2
theorem Zms {s : Nat} : Qy A (s : Int) = A.getD s false := by unfold Qy; simp
theorem Zug (h : Yz S A N) : ∀ {s : Nat}, Cl (Zbm A) (Zbq N) s → ∃ v, okW v ∧ Qy A (runT (nxI N) (s : Int) v) = true := fun hc => by
 induction hc with
 | @base s hb => exact ⟨[], Zmb, by show Qy A (s : Int) = true; rw [Zms]; exact Qd hb⟩
 | @step s t he hk ih =>
  obtain ⟨v, hv, ha⟩ := ih
  obtain ⟨i, r, h1, h2⟩ := he
  have hl := (Xy h.2 h1).1
  have hi := (List.getElem?_eq_some_iff.1 h2).1
  have hN := h.2.2.1
  have hs := (List.getElem?_eq_some_iff.1 h1).1
  obtain ⟨r', h3, h4⟩ := Zor h (s := s) (by omega) (k := i) (by omega)
  rw [h1] at h3; injection h3 with h3; subst h3
  rw [h2] at h4; injection h4 with h4
  exact ⟨(i : Int) :: v, Zkg.2 ⟨by omega, hv⟩, by rw [Zds, Int.toNat_natCast, ← h4]; exact ha⟩
theorem Zpw (h : Yz S A N) : ∀ (v : List Int) (s : Nat), s < A.length → okW v → Qy A (runT (nxI N) (s : Int) v) = true → Cl (Zbm A) (Zbq N) s
 | [], s, hs, _, ha => by
  have e : Qy A (s : Int) = true := ha
  rw [Zms] at e
  refine .base ?_
  show A[s]? = some true
  rw [List.getD_eq_getElem?_getD, List.getElem?_eq_getElem hs] at e
  rw [List.getElem?_eq_getElem hs]; exact congrArg some e
 | c :: v, s, hs, hv, ha => by
  rw [Zkg] at hv
  rw [Zds] at ha
  have hk : c.toNat ≤ 8 := by omega
  obtain ⟨r, h1, h2⟩ := Zor h hs hk
  have hr := Zoq h hs hk
  rcases Int.lt_or_le (nxI N s c.toNat) 0 with hn | hn
  ·rw [Zjm v _ hn] at ha; cases ha
  obtain ⟨t, e⟩ := Int.eq_ofNat_of_zero_le hn
  rw [e] at ha h2
  exact .step ⟨_, r, h1, h2⟩ (Zpw h v t (by omega) hv.2 ha)
theorem Zhd (h : Yz S A N) (hs : s < A.length) : (Yn A N).getD s false = true ↔ ∃ v, okW v ∧ Qy A (runT (nxI N) (s : Int) v) = true := by
 have e : (Yn A N).getD s false = tt (Cl (Zbm A) (Zbq N) s) := by unfold Yn; exact Qd (Zpv hs)
 rw [e, Zgn]
 exact ⟨Zug h, fun ⟨v, h1, h2⟩ => Zpw h v s hs h1 h2⟩
theorem Zkz (C : List Int) (N : List (List Int)) : ∀ m s, s < m → (C.getD s 0 < 0 → (rfn C N m).2[s]? = some (-1)) ∧
   (¬ C.getD s 0 < 0 → keyC C (N.getD s []) (C.getD s 0) ∈ (rfn C N m).1 ∧ (rfn C N m).2[s]? = some ((rfn C N m).1.idxOf (keyC C (N.getD s []) (C.getD s 0)) : Int))
 | 0, _, h => absurd h (by omega)
 | m + 1, s, h => by
  have hl := (Zet C N m).1
  by_cases e : s = m
  ·subst e
   rcases Zcs C N s with ⟨h1, e⟩ | ⟨h1, hk, e⟩ | ⟨h1, hk, e⟩ <;> rw [e]
   ·refine ⟨fun _ => ?_, fun q => absurd h1 q⟩
    simp [List.getElem?_append, hl]
   ·refine ⟨fun q => absurd q h1, fun _ => ⟨hk, ?_⟩⟩
    simp [List.getElem?_append, hl]
   refine ⟨fun q => absurd q h1, fun _ => ⟨by simp, ?_⟩⟩
   rw [List.idxOf_append, if_neg hk, List.getElem?_append_right (by omega), hl]
   simp
  have ih := Zkz C N m s (by omega)
  have g : ∀ x, ((rfn C N m).2 ++ [x])[s]? = (rfn C N m).2[s]? := fun x => List.getElem?_append_left (by omega)
  rcases Zcs C N m with ⟨h1, e⟩ | ⟨h1, hk, e⟩ | ⟨h1, hk, e⟩ <;> rw [e] <;> simp only [g]
  ·exact ih
  ·exact ih
  refine ⟨ih.1, fun q => ?_⟩
  obtain ⟨a, b⟩ := ih.2 q
  exact ⟨List.mem_append_left _ a, by rw [b, List.idxOf_append, if_pos a]⟩
theorem Zmi (hs : s < n) : (rfn C N n).2.getD s 0 < 0 ↔ C.getD s 0 < 0 := by
 have h := Zkz C N n s hs
 by_cases e : C.getD s 0 < 0
 ·rw [Qd (h.1 e)]; exact ⟨fun _ => e, fun _ => by omega⟩
 rw [Qd (h.2 e).2]; exact ⟨fun q => by omega, fun q => absurd q e⟩
theorem Zpu (hs : s < n) (ht : t < n) : (rfn C N n).2.getD s 0 = (rfn C N n).2.getD t 0 ↔ (C.getD s 0 < 0 ∧ C.getD t 0 < 0) ∨ (¬ C.getD s 0 < 0 ∧ ¬ C.getD t 0 < 0 ∧ keyC C (N.getD s []) (C.getD s 0) = keyC C (N.getD t []) (C.getD t 0)) := by
 have h := Zkz C N n s hs
 have g := Zkz C N n t ht
 by_cases e : C.getD s 0 < 0 <;> by_cases f : C.getD t 0 < 0
 ·rw [Qd (h.1 e), Qd (g.1 f)]; exact ⟨fun _ => .inl ⟨e, f⟩, fun _ => rfl⟩
 ·rw [Qd (h.1 e), Qd (g.2 f).2]
  exact ⟨fun q => by omega, fun q => q.elim (fun q => absurd q.2 f) fun q => absurd e q.1⟩
 ·rw [Qd (h.2 e).2, Qd (g.1 f)]
  exact ⟨fun q => by omega, fun q => q.elim (fun q => absurd q.1 e) fun q => absurd f q.2.1⟩
 rw [Qd (h.2 e).2, Qd (g.2 f).2]
 obtain ⟨a1, _⟩ := h.2 e
 obtain ⟨a2, _⟩ := g.2 f
 constructor
 ·intro q
  refine .inr ⟨e, f, ?_⟩
  have i1 := List.idxOf_lt_length_of_mem a1
  have i2 := List.idxOf_lt_length_of_mem a2
  have q' : (rfn C N n).1.idxOf (keyC C (N.getD s []) (C.getD s 0)) = (rfn C N n).1.idxOf (keyC C (N.getD t []) (C.getD t 0)) := by omega
  rw [← List.getElem_idxOf i1, ← List.getElem_idxOf i2]
  simp only [q']
 rintro (q | q)
 ·exact absurd q.1 e
 rw [q.2.2]
theorem Znr (h0 : C.length = n) (hs : s < n) : ∀ i, (Xp N C n i).getD s 0 < 0 ↔ C.getD s 0 < 0
 | 0 => Iff.rfl
 | i + 1 => (Zmi hs).trans (Znr h0 hs i)
theorem Zfq (hs : s < A.length) : (Xq A (Yn A N) A.length).getD s 0 = if (Yn A N).getD s false = false then -1 else if A.getD s false then 1 else 0 := by
 unfold Xq
 exact Qd (by rw [List.getElem?_map, List.getElem?_range hs]; rfl)
theorem Zfa (hs : s < A.length) : (Xq A (Yn A N) A.length).getD s 0 < 0 ↔ (Yn A N).getD s false = false := by
 rw [Zfq hs]
 by_cases h : (Yn A N).getD s false = false
 ·rw [if_pos h]; exact ⟨fun _ => h, fun _ => by omega⟩
 rw [if_neg h]; exact ⟨fun q => by split at q <;> omega, fun q => absurd q h⟩
theorem Zus (h : Yz S A N) (hs : s < A.length) (hd : (Yn A N).getD s false = false) {v : List Int} (hv : okW v) : Qy A (runT (nxI N) (s : Int) v) = false := by
 cases e : Qy A (runT (nxI N) (s : Int) v) with
 | false => rfl
 | true => rw [(Zhd h hs).2 ⟨v, hv, e⟩] at hd; cases hd
theorem Ztc (h : Yz S A N) (hs : s < A.length) : (N.getD s []).length = 9 := by
 have hN := h.2.2.1
 have hr : N[s]? = some (N[s]'(by omega)) := List.getElem?_eq_getElem _
 rw [Qd hr]; exact (Xy h.2 hr).1
theorem apart (h : Yz S A N) : ∀ i s t, s < A.length → t < A.length → (Xp N (Xq A (Yn A N) A.length) A.length i).getD s 0 ≠ (Xp N (Xq A (Yn A N) A.length) A.length i).getD t 0 → ∃ v, okW v ∧ Qy A (runT (nxI N) (s : Int) v) ≠ Qy A (runT (nxI N) (t : Int) v)
 | i, s, t, hs, ht, hne => by
  have h0 := Zbi A (Yn A N) A.length
  have one : ∀ s t : Nat, s < A.length → t < A.length → (Yn A N).getD s false = true → (Yn A N).getD t false = false → ∃ v, okW v ∧ Qy A (runT (nxI N) (s : Int) v) ≠ Qy A (runT (nxI N) (t : Int) v) := fun s t hs ht a b => by
   obtain ⟨v, hv, e⟩ := (Zhd h hs).1 a
   exact ⟨v, hv, by rw [e, Zus h ht b hv]; decide⟩
  cases a : (Yn A N).getD s false <;> cases b : (Yn A N).getD t false
  ·exfalso
   have e1 := (Znr (N := N) h0 hs i).2 ((Zfa hs).2 a)
   have e2 := (Znr (N := N) h0 ht i).2 ((Zfa ht).2 b)
   cases i with
   | zero =>
    have e1' := Zfq (N := N) hs
    have e2' := Zfq (N := N) ht
    rw [if_pos a] at e1'; rw [if_pos b] at e2'
    exact hne (e1'.trans e2'.symm)
   | succ i => exact hne ((Zpu hs ht).2 (.inl ⟨(Zmi hs).1 e1, (Zmi ht).1 e2⟩))
  ·obtain ⟨v, hv, e⟩ := one t s ht hs b a
   exact ⟨v, hv, fun q => e q.symm⟩
  ·exact one s t hs ht a b
  have n1 : ∀ i, ¬ (Xp N (Xq A (Yn A N) A.length) A.length i).getD s 0 < 0 := fun i q => by
   have := (Zfa hs).1 ((Znr (N := N) h0 hs i).1 q); rw [a] at this; cases this
  have n2 : ∀ i, ¬ (Xp N (Xq A (Yn A N) A.length) A.length i).getD t 0 < 0 := fun i q => by
   have := (Zfa ht).1 ((Znr (N := N) h0 ht i).1 q); rw [b] at this; cases this
  cases i with
  | zero =>
   refine ⟨[], Zmb, fun q => hne ?_⟩
   have q' : Qy A (s : Int) = Qy A (t : Int) := q
   rw [Zms, Zms] at q'
   show (Xq A (Yn A N) A.length).getD s 0 = (Xq A (Yn A N) A.length).getD t 0
   rw [Zfq hs, Zfq ht, a, b, q']
  | succ i =>
   by_cases hc : (Xp N (Xq A (Yn A N) A.length) A.length i).getD s 0 = (Xp N (Xq A (Yn A N) A.length) A.length i).getD t 0
   ·have hk : (N.getD s []).map (keyE (Xp N (Xq A (Yn A N) A.length) A.length i)) ≠ (N.getD t []).map (keyE (Xp N (Xq A (Yn A N) A.length) A.length i)) := fun q =>
     hne ((Zpu hs ht).2 (.inr ⟨n1 i, n2 i, by unfold keyC; rw [hc, q]⟩))
    have l1 := Ztc h hs
    have l2 := Ztc h ht
    have ⟨k, hk9, hq⟩ : ∃ k, k < 9 ∧ keyE (Xp N (Xq A (Yn A N) A.length) A.length i) ((N.getD s []).getD k 0) ≠ keyE (Xp N (Xq A (Yn A N) A.length) A.length i) ((N.getD t []).getD k 0) := by
     apply Classical.byContradiction
     intro hh
     refine hk (List.ext_getElem (by rw [List.length_map, List.length_map, l1, l2]) fun k g1 g2 => ?_)
     have g3 : k < 9 := by rwa [List.length_map, l1] at g1
     rw [List.getElem_map, List.getElem_map]
     apply Classical.byContradiction
     intro hn
     refine hh ⟨k, g3, ?_⟩
     rwa [List.getD_eq_getElem?_getD, List.getElem?_eq_getElem (by omega), Option.getD_some, List.getD_eq_getElem?_getD (l := N.getD t []), List.getElem?_eq_getElem (by omega), Option.getD_some]
    have hx : nxI N s k = (N.getD s []).getD k 0 := by rw [Zow (Int.natCast_nonneg s) (by omega), Int.toNat_natCast]
    have hy : nxI N t k = (N.getD t []).getD k 0 := by rw [Zow (Int.natCast_nonneg t) (by omega), Int.toNat_natCast]
    rw [← hx, ← hy] at hq
    have r1 := Zoq h hs (k := k) (by omega)
    have r2 := Zoq h ht (k := k) (by omega)
    have fin : (∃ v, okW v ∧ Qy A (runT (nxI N) (nxI N s k) v) ≠ Qy A (runT (nxI N) (nxI N t k) v)) → ∃ v, okW v ∧ Qy A (runT (nxI N) (s : Int) v) ≠ Qy A (runT (nxI N) (t : Int) v) := fun ⟨v, hv, e⟩ =>
     ⟨(k : Int) :: v, Zkg.2 ⟨by omega, hv⟩, by rw [Zds, Zds, Int.toNat_natCast]; exact e⟩
    apply fin
    have lv : ∀ x : Nat, x < A.length → keyE (Xp N (Xq A (Yn A N) A.length) A.length i) (x : Int) ≠ -1 → ∃ v, okW v ∧ Qy A (runT (nxI N) (x : Int) v) = true := fun x hx hk => by
     refine (Zhd h hx).1 ?_
     cases e : (Yn A N).getD x false with
     | true => rfl
     | false =>
      exfalso
      refine hk ?_
      unfold keyE; rw [if_neg (by omega), Int.toNat_natCast]
      cases i with
      | zero => have := Zfq (N := N) hx; rw [if_pos e] at this; exact this
      | succ i => exact Qd ((Zkz _ N A.length x hx).1 ((Znr (N := N) h0 hx i).2 ((Zfa hx).2 e)))
    have km : ∀ x : Int, x < 0 → keyE (Xp N (Xq A (Yn A N) A.length) A.length i) x = -1 := fun x hx => by unfold keyE; rw [if_pos hx]
    rcases Int.lt_or_le (nxI N s k) 0 with p1 | p1 <;> rcases Int.lt_or_le (nxI N t k) 0 with p2 | p2
    ·exact absurd ((km _ p1).trans (km _ p2).symm) hq
    ·obtain ⟨y, ey⟩ := Int.eq_ofNat_of_zero_le p2
     rw [km _ p1, ey] at hq
     obtain ⟨v, hv, e⟩ := lv y (by omega) (fun q => hq q.symm)
     exact ⟨v, hv, by rw [Zjm v _ p1, ey, e]; decide⟩
    ·obtain ⟨y, ey⟩ := Int.eq_ofNat_of_zero_le p1
     rw [km _ p2, ey] at hq
     obtain ⟨v, hv, e⟩ := lv y (by omega) hq
     exact ⟨v, hv, by rw [Zjm v _ p2, ey, e]; decide⟩
    obtain ⟨x, ex⟩ := Int.eq_ofNat_of_zero_le p1
    obtain ⟨y, ey⟩ := Int.eq_ofNat_of_zero_le p2
    rw [ex, ey] at hq ⊢
    refine apart h i x y (by omega) (by omega) fun q => hq ?_
    unfold keyE; rw [if_neg (by omega), if_neg (by omega), Int.toNat_natCast, Int.toNat_natCast]; exact q
   exact apart h i s t hs ht hc
 termination_by i => i
theorem Zsl {f : List Int → Bool} {r : List Int × Bool} (h : Zei f r) : r.2 = true ↔ ∃ v, okW v ∧ f v = true := by
 rcases h with ⟨h1, h2, h3, _⟩ | ⟨h1, h2⟩
 ·exact ⟨fun _ => ⟨_, h2, h3⟩, fun _ => h1⟩
 rw [h1]; exact ⟨fun q => (Bool.false_ne_true q).elim, fun ⟨v, a, b⟩ => by rw [h2 v a] at b; cases b⟩
theorem Ztb {w : List Int} (h : ∀ c ∈ w, (0 : Int) ≤ c) : ∀ k, k ≤ w.length → runA N S w k = runT (nxI N) S (w.take k)
 | 0, _ => by simp [runT, runA]
 | k + 1, hk => by
  have hw : w[k]? = some w[k] := List.getElem?_eq_getElem _
  rw [Zhc hw, Zaw hw, Zca, Ztb h k (by omega)]
  unfold nxI; rw [Int.toNat_of_nonneg (h _ (List.getElem_mem _))]
theorem Zmt (h : Yz S A N) {w : List Int} (hw : okW w) : Qy A (rwR S A N w) = Qy A (runT (nxI N) S w) := by
 rw [← Zfr h, Ztb (fun c hc => (hw c hc).1) _ (Nat.le_refl _), List.take_of_length_le (Nat.le_refl _)]
end
end Go.KLib

namespace Go.KLib
section
variable {α : Type} {cs : α → List Value} {e k lo hi hi' : Nat} {w w' : World} {vs : List Sv} {xs : List (List α)} {ws : List Nat}
theorem Od.put {i : Nat} {v v' : Sv} {x x' : List α} (h : Od cs e k w lo hi vs xs) (hv : vs[i]? = some v) (hx : xs[i]? = some x) (c : Ch ws w w') (hw : ∀ g ∈ ws, g ∈ bl v.v) (ho : Ol cs e k w' v'.v x') (hb : ∀ g ∈ bl v'.v, g ∈ bl v.v ∨ (hi ≤ g ∧ g < hi')) (hh : hi ≤ hi') (hl : lo ≤ hi) : Od cs e k w' lo hi' (vs.set i v') (xs.set i x') := by
 have i1 := (List.getElem?_eq_some_iff.1 hv).1
 have i2 := (List.getElem?_eq_some_iff.1 hx).1
 have old : ∀ g ∈ bl v.v, lo ≤ g ∧ g < hi := (h.2.1 i v x hv hx).2
 refine ⟨by simp [h.1], fun j u y a b => ?_, fun j1 j2 u1 u2 a b hj => ?_⟩
 ·rw [List.getElem?_set] at a b
  by_cases e1 : i = j
  ·subst e1
   rw [if_pos rfl, if_pos i1] at a
   rw [if_pos rfl, if_pos i2] at b
   injection a with a; injection b with b; subst a; subst b
   exact ⟨ho, fun g hg => by
    rcases hb g hg with q | q
    ·have := old g q; omega
    omega⟩
  rw [if_neg e1] at a b
  have t := h.2.1 j u y a b
  refine ⟨t.1.ch c fun g hg hm => ?_, fun g hg => by have := t.2 g hg; omega⟩
  rcases Nat.lt_or_gt_of_ne e1 with h1 | h1
  ·exact h.2.2 i j v u hv a h1 g (hw g hm) hg
  exact h.2.2 j i u v a hv h1 g hg (hw g hm)
 rw [List.getElem?_set] at a b
 have rng : ∀ (j : Nat) (u : Sv), vs[j]? = some u → ∀ g ∈ bl u.v, lo ≤ g ∧ g < hi := fun j u hu => by
  obtain ⟨_, _, _, r⟩ := h.ownget hu; exact r
 by_cases e1 : i = j1 <;> by_cases e2 : i = j2
 ·omega
 ·subst e1
  rw [if_pos rfl, if_pos i1] at a; rw [if_neg e2] at b
  injection a with a; subst a
  intro g hg hm
  rcases hb g hg with q | q
  ·exact h.2.2 i j2 v u2 hv b hj g q hm
  have := rng j2 u2 b g hm; omega
 ·subst e2
  rw [if_pos rfl, if_pos i1] at b; rw [if_neg e1] at a
  injection b with b; subst b
  intro g hg hm
  rcases hb g hm with q | q
  ·exact h.2.2 j1 i u1 v a hv hj g hg q
  have := rng j1 u1 a g hg; omega
 rw [if_neg e1] at a; rw [if_neg e2] at b
 exact h.2.2 j1 j2 u1 u2 a b hj
theorem Sep.put {o : Value} {i : Nat} {v v' : Sv} (h : Sep o vs) (hv : vs[i]? = some v) (hb : ∀ g ∈ bl v'.v, g ∈ bl v.v ∨ (hi ≤ g ∧ g < hi')) (ho : ∀ g ∈ bl o, g < hi) : Sep o (vs.set i v') := fun u hu g hg hm => by
 rcases List.mem_or_eq_of_mem_set hu with q | q
 ·exact h u q g hg hm
 subst q
 rcases hb g hg with q | q
 ·exact h v (Yv hv) g q hm
 have := ho g hm; omega
end
structure GStp where
 ed : Int
 bk : Bool
 deriving DecidableEq
structure PStep where
 edge : Int
 back : Bool
 node : Int
 state : Int
 deriving DecidableEq
structure Arc where
 edge : Int
 back : Bool
 letter : Int
 to_ : Int
 deriving DecidableEq
def GStp.cs (p : GStp) : List Value := [.int .i64 p.ed, .bool p.bk]
def PStep.cs (p : PStep) : List Value := [.int .i64 p.edge, .bool p.back, .int .i64 p.node, .int .i64 p.state]
def Arc.cs (p : Arc) : List Value := [.int .i64 p.edge, .bool p.back, .int .i64 p.letter, .int .i64 p.to_]
theorem GStp.len (p : GStp) : p.cs.length = 2 := rfl
theorem PStep.len (p : PStep) : p.cs.length = 4 := rfl
theorem Arc.len (p : Arc) : p.cs.length = 4 := rfl
theorem GStp.one (x : GStp) : ∀ y ∈ x.cs, y.oneCell' = true := by intro y hy; simp [GStp.cs] at hy; rcases hy with rfl | rfl <;> rfl
theorem PStep.one (x : PStep) : ∀ y ∈ x.cs, y.oneCell' = true := by intro y hy; simp [PStep.cs] at hy; rcases hy with rfl | rfl | rfl | rfl <;> rfl
theorem Arc.one (x : Arc) : ∀ y ∈ x.cs, y.oneCell' = true := by intro y hy; simp [Arc.cs] at hy; rcases hy with rfl | rfl | rfl | rfl <;> rfl
theorem Zjr : ∀ (t : Tr) (L F : List Int), (bpT t L F).F.length + L.length = (bpT t L F).L.length + F.length
 | .l0 t, L, F => by
  unfold bpT
  by_cases h2 : t.kind = 2
  ·rw [if_pos h2]; simp only; omega
  rw [if_neg h2]
  by_cases h3 : t.kind = 3
  ·rw [if_pos h3]; simp only [List.length_append, List.length_singleton]; omega
  rw [if_neg h3]; simp only; omega
 | .l1 t x, L, F => by
  have h := Zjr x L F
  unfold bpT; split
  ·simp only [Zju]; omega
  simp only; omega
 | .l2 t x y, L, F => by
  have h := Zjr x L F
  have k := Zjr y (bpT x L F).L (bpT x L F).F
  unfold bpT
  by_cases h4 : t.kind = 4
  ·rw [if_pos h4]; simp only [Zju]; omega
  rw [if_neg h4]
  by_cases h5 : t.kind = 5
  ·rw [if_pos h5]; simp only; omega
  rw [if_neg h5]; simp only; omega
theorem Zvn (e : List Token) : (bpE e).1.F.length = (bpE e).1.L.length ∧ (bpE e).1.L.length ≤ 20 := by
 by_cases hc : (expE e).2 = true ∧ cntL (expE e).1 ≤ 20
 ·have hv : ivE e = true := by
   cases hi : ivE e with
   | true => rfl
   | false => have := hc.1; rw [Zej hi] at this; cases this
  obtain ⟨t0, h1, h2, h3, h4⟩ := Ztq hv
  have hb : Qz t0 ≤ 5000 := by
   apply Classical.byContradiction
   intro hn; have := hc.1; rw [Zcm h1 hn] at this; cases this
  have hz : (Qe t0).sz ≤ 400 := by
   apply Classical.byContradiction
   intro hn; have := hc.1; rw [Zck h1 hn] at this; cases this
  have e1 := Zeh h1 h4 hb hz
  have ok := Zjd h2
  have ht : Zbt (expE e).1 = some (Qe t0) := by rw [e1]; exact Zft ok
  have e2 := Zcw hc.1 hc.2 ht
  rw [e2]
  simp only
  have eL := bp_L (Qe t0) [] [] ok (Zjq t0)
  rw [List.nil_append] at eL
  have hlen : (bpT (Qe t0) [] []).L.length ≤ 20 := by
   rw [eL, Zhg _ ok]
   have := hc.2; rw [e1] at this; exact this
  have hf := Zjr (Qe t0) [] []
  simp only [List.length_nil] at hf
  exact ⟨by omega, hlen⟩
 rw [Zap hc]; exact ⟨rfl, Nat.zero_le _⟩
section
variable {S s t x y : Int} {A : List Bool} {N : List (List Int)}
end
end Go.KLib

namespace Go.KLib
section
variable {S aS bS : Int} {A aA bA : List Bool} {N aN bN : List (List Int)}
theorem Zes (h : (msR aS aA aN bS bA bN).2 = true) : okW (msR aS aA aN bS bA bN).1 ∧ Qy aA (rwR aS aA aN (msR aS aA aN bS bA bN).1) = false ∧ Qy bA (rwR bS bA bN (msR aS aA aN bS bA bN).1) = true := by
 by_cases hv : Yz aS aA aN ∧ Yz bS bA bN
 ·have e := Zfn hv.1 hv.2
  have g := (Ztz hv.1 hv.2 (x := ⟨aS, bS⟩) ⟨Zbk hv.1, Zbk hv.2⟩ true).1
  rw [← e] at g
  rcases g with ⟨_, g2, g3, _⟩ | ⟨g1, _⟩
  ·refine ⟨g2, ?_⟩
   rw [Zmt hv.1 g2, Zmt hv.2 g2]
   unfold difF tsD at g3
   rw [Zwn, Zwj] at g3
   simp only [Bool.not_true, Bool.and_false, Bool.or_false, Bool.and_eq_true, Bool.not_eq_true'] at g3
   exact ⟨g3.2, g3.1⟩
  rw [g1] at h; cases h
 rw [Zbn hv] at h; cases h
theorem Zjy (h : Yz S A N) : Zei (fun v => Qy A (runT (nxI N) S v)) (saR S A N) := by
 rw [Zol h]; exact (Zvq h (Zbk h)).1
theorem Zdp (h : (saR S A N).2 = true) : Qy A (rwR S A N (saR S A N).1) = true := by
 by_cases hv : Yz S A N
 ·rcases Zjy hv with ⟨_, g2, g3, _⟩ | ⟨g1, _⟩
  ·rw [Zmt hv g2]; exact g3
  rw [g1] at h; cases h
 rw [Yu hv] at h; cases h
theorem Zrb (h : Yz S A N) : emR S A N = !(saR S A N).2 := by
 have h0 := h.2.1
 obtain ⟨s, hs⟩ := Int.eq_ofNat_of_zero_le h0.1
 have hl : s < A.length := by omega
 have hy : (Yn A N)[S.toNat]? = some ((Yn A N).getD s false) := by
  rw [hs, Int.toNat_natCast, List.getD_eq_getElem?_getD, List.getElem?_eq_getElem (by rw [Zdt]; exact hl)]; rfl
 rw [← em_y h hy]
 congr 1
 rw [Bool.eq_iff_iff, Zhd h hl, Zsl (Zjy h), hs]
theorem Qb (h : (saR bS bA bN).2 = true) (h' : (msR aS aA aN bS bA bN).2 = true) : (saR bS bA bN).1.length ≤ (msR aS aA aN bS bA bN).1.length := by
 obtain ⟨h1, _, h3⟩ := Zes h'
 by_cases hv : Yz bS bA bN
 ·rcases Zjy hv with ⟨_, g2, _, g4⟩ | ⟨g1, _⟩
  ·refine Zoa g2 h1 ?_
   rcases Nat.lt_or_ge (val (msR aS aA aN bS bA bN).1) (val (saR bS bA bN).1) with q | q
   ·have := g4 _ h1 q
    simp only at this
    rw [Zmt hv h1, this] at h3; cases h3
   exact q
  rw [g1] at h; cases h
 rw [Yu hv] at h; cases h
theorem Zuz : tt (IncP aS aA aN bS bA bN) = (tt (Yz aS aA aN) && (tt (Yz bS bA bN) && !(msR aS aA aN bS bA bN).2)) := by
 by_cases h : Yz aS aA aN
 ·by_cases h' : Yz bS bA bN
  ·rw [← Zlu h h', ← Zq h, ← Zq h']; rfl
  rw [← Zhp h', ← Zq h, ← Zo h']; rfl
 rw [← Zho h, ← Zo h]; rfl
end
theorem Zvc (C : List Int) : ∀ s, mxC C s ≤ s
 | 0 => Nat.le_refl _
 | s + 1 => by
  have := Zvc C s
  unfold mxC; split <;> omega
theorem Zut {N : List (List Int)} {D0 : List Int} {n : Nat} : ∀ c ∈ clsF N D0 n, -1 ≤ c ∧ c < (n : Int) := by
 intro c hc
 obtain ⟨s, hs, rfl⟩ := List.getElem_of_mem hc
 have hl := Zno N D0 n
 have hcan := (Zjo (Xp N D0 n (n + 1)) N n).1 s (by omega)
 have e : (rfn (Xp N D0 n (n + 1)) N n).2.getD s 0 = (clsF N D0 n)[s] := by
  show (clsF N D0 n).getD s 0 = _
  rw [List.getD_eq_getElem?_getD, List.getElem?_eq_getElem hs]; rfl
 rw [e] at hcan
 have := Zvc (rfn (Xp N D0 n (n + 1)) N n).2 s
 rcases hcan with q | q <;> omega
theorem Zpg {l : List Int} (h : l.Nodup) (hr : ∀ c ∈ l, -1 ≤ c ∧ c ≤ 11) : l.length ≤ 13 := by
 have := Zic (fun x : Int => (x + 1).toNat) 13 h (fun x hx y hy e => by have a := hr x hx; have b := hr y hy; omega) (fun x hx => by have a := hr x hx; omega)
 simpa using this
theorem Zhb {l : List Int} {x : Int} (h : l.Nodup) (hx : x ∉ l) : (l ++ [x]).Nodup := by
 rw [List.nodup_append]
 exact ⟨h, by simp, fun a ha b hb e => by rw [List.mem_singleton.1 hb] at e; exact hx (e ▸ ha)⟩
theorem Zcg {l : List Int} {x : Int} {p : Int → Prop} (h : ∀ c ∈ l, p c) (hx : p x) : ∀ c ∈ l ++ [x], p c := fun c hc => by
 rcases List.mem_append.1 hc with q | q
 ·exact h c q
 rw [List.mem_singleton.1 q]; exact hx
end Go.KLib

namespace Go.KLib
def Zhw (k : Int) (n : Nat) : List PStep := (List.range n).map fun (i : Nat) => ⟨k + 4 * i, decide ((k + 4 * i + 1).tmod 3 = 0), k + 4 * i + 2, k + 4 * i + 3⟩
@[simp] theorem mkPStep_len (k : Int) (n : Nat) : (Zhw k n).length = n := by simp [Zhw]
theorem Ztn (a : List PStep) {i : Nat} (hi : i < a.length) {kk k : Int} (h : kk = k + 4 * i) : (Zhw k i ++ a.drop i).set i ⟨kk, decide ((kk + 1).tmod 3 = 0), kk + 1 + 1, kk + 1 + 1 + 1⟩ = Zhw k (i + 1) ++ a.drop (i + 1) := by
 subst h
 have h2 := Zje a (fun (q : Nat) => (⟨k + 4 * q, decide ((k + 4 * q + 1).tmod 3 = 0), k + 4 * q + 2, k + 4 * q + 3⟩ : PStep)) hi
 unfold Zhw
 refine Eq.trans (congrArg _ ?_) h2
 simp only [Int.add_assoc]
 all_goals rfl
section
variable {V : List Int} {E : List GEdge} {node : Int} {k : Nat} {e y : GEdge}
end
section
variable {S : Int} {A : List Bool} {N : List (List Int)} {x v m : Int}
end
section
variable {V : List Int} {E : List GEdge} {S node s : Int} {A : List Bool} {N : List (List Int)}
end
end Go.KLib

namespace Go.KLib
section
variable {V : List Int} {E : List GEdge} {node s : Int} {k : Nat} {e y : GEdge} {S : Int} {A : List Bool} {N : List (List Int)}
variable {c q : Nat} {x m t : Int} {r : List Int}
end
section
variable {N : List (List Int)} {x v m z : Int} {l : List Int} {k : Nat} {q : Int}
end
end Go.KLib

namespace Go.KLib
theorem om {P : Prop} (h : P := by omega) : P := h
theorem bd {P : Prop} (h : P := by first | omega | (simp only [List.length_append, List.length_nil, List.length_cons, List.length_replicate, List.length_set, List.length_reverse, List.length_map] at *; omega) | (simp at *; omega)) : P := h
section
variable {α : Type} {cs : α → List Value} {e k : Nat} {w : World} {v : Value} {xs : List α} {L B b c lo hi : Nat} {P : Nat → Prop}
theorem Ol.opn (h : Ol cs e k w v xs) : ∃ A C, v = .slice A xs.length C ∧ xs.length ≤ 9223372036854775807 ∧ ∀ g ∈ bl v, g < w.heap.size := by
 obtain ⟨A, C, e⟩ := h.val
 exact ⟨A, C, e, h.len, h.lt⟩
theorem nS (h : b ≠ c) : b ∉ [c] := fun q => h (List.mem_singleton.1 q)
theorem lS (h : lo ≤ b) : ∀ i ∈ [b], lo ≤ i ∨ P i := fun i q => .inl (by rw [List.mem_singleton.1 q]; exact h)
theorem oS (h : P b) : ∀ i ∈ [b], P i := fun i q => by rw [List.mem_singleton.1 q]; exact h
theorem dS (h1 : Lo lo v) (h2 : ∀ g ∈ bl v, g < hi) (h : b < lo ∨ hi ≤ b) : ∀ g ∈ bl v, g ∉ [b] := fun g hg hm => by
 have q := List.mem_singleton.1 hm
 have a := h1 g hg
 have z := h2 g hg
 omega
end
section
variable {P : Program} {N : Nat} {ops : Array Oper} {Q : Po} {l : KL} {w : World} {o : Oper} {S : World → Prop} {fuel : Nat} {listed : Array Bool} {v : Value}
theorem dT (i : Nat) (hi : ops[i]? = some o) (hd : dOk N o.dst = true) (hg : Zgv ops l o = some true) (h : Tk P S l o fun v => DR P N ops Q S fuel (listed.setIfInBounds i true) (pu l o.dst v) w) (hk : Zgh ops listed i = true := by kernel_rfl) : DR P N ops Q S (fuel + 1) listed l w := DR_s i hi hk hd hg h
theorem dV (i : Nat) (hi : ops[i]? = some o) (hd : dOk N o.dst = true) (hg : Zgv ops l o = some true) (hv : ∀ w, Qu P l o w v w) (h : DR P N ops Q S fuel (listed.setIfInBounds i true) (pu l o.dst v) w) (hk : Zgh ops listed i = true := by kernel_rfl) : DR P N ops Q S (fuel + 1) listed l w := DR_s i hi hk hd hg (t_v hv h)
theorem dK (i : Nat) (hi : ops[i]? = some o) (hd : dOk N o.dst = true) (hg : Zgv ops l o = some false) (h : DR P N ops Q S fuel (listed.setIfInBounds i true) (pu l o.dst undef) w) (hk : Zgh ops listed i = true := by kernel_rfl) : DR P N ops Q S (fuel + 1) listed l w := Zun i hi hk hd hg h
theorem dO (i : Nat) (h : DO P N ops Q S fuel listed i l w) (hr : Region.ready .any ops listed = [i] := by kernel_rfl) : DR P N ops Q S (fuel + 1) listed l w := Zvu i hr h
end
section
variable {l l9 : KL}
theorem sC1 {t0 : Nat} {v0 : Value} (h0 : look l9 t0 = some v0) (h : Sub l l9) : Sub ((t0, v0) :: l) l9 := (Sub.cons h0 h)
theorem sC2 {t0 t1 : Nat} {v0 v1 : Value} (h0 : look l9 t0 = some v0) (h1 : look l9 t1 = some v1) (h : Sub l l9) : Sub ((t0, v0) :: (t1, v1) :: l) l9 := (Sub.cons h0 (Sub.cons h1 h))
theorem sC4 {t0 t1 t2 t3 : Nat} {v0 v1 v2 v3 : Value} (h0 : look l9 t0 = some v0) (h1 : look l9 t1 = some v1) (h2 : look l9 t2 = some v2) (h3 : look l9 t3 = some v3) (h : Sub l l9) : Sub ((t0, v0) :: (t1, v1) :: (t2, v2) :: (t3, v3) :: l) l9 := (Sub.cons h0 (Sub.cons h1 (Sub.cons h2 (Sub.cons h3 h))))
theorem sC8 {t0 t1 t2 t3 t4 t5 t6 t7 : Nat} {v0 v1 v2 v3 v4 v5 v6 v7 : Value} (h0 : look l9 t0 = some v0) (h1 : look l9 t1 = some v1) (h2 : look l9 t2 = some v2) (h3 : look l9 t3 = some v3) (h4 : look l9 t4 = some v4) (h5 : look l9 t5 = some v5) (h6 : look l9 t6 = some v6) (h7 : look l9 t7 = some v7) (h : Sub l l9) : Sub ((t0, v0) :: (t1, v1) :: (t2, v2) :: (t3, v3) :: (t4, v4) :: (t5, v5) :: (t6, v6) :: (t7, v7) :: l) l9 := (Sub.cons h0 (Sub.cons h1 (Sub.cons h2 (Sub.cons h3 (Sub.cons h4 (Sub.cons h5 (Sub.cons h6 (Sub.cons h7 h))))))))
end
end Go.KLib

