/- The library of this proof: a logic of the code's forms, memory, data, and plain laws. It speaks of no program. -/
import Derived.WalkKit
import Derived.OrdersHeld
import Derived.WalkLawsBesides
import Derived.WalkSpells
import Derived.ProofKit
import Derived.Deep.Slices
import Derived.Deep.Fields
import Derived.Lib.SmallJoins
import Derived.Laws.Append
import Derived.Laws.CopyRow
import Derived.Laws.AppendOwn
import Derived.Laws.Small
import Derived.Shelf.Sort.Plain
import Derived.Shelf.Slices.CompactI
import Derived.Shelf.Slices.Delete
import Derived.Ground.NamesProg
import Derived.Ground.Names2Prog
import Derived.Shelf.Lay
import Derived.Shelf.Slices.In.SortNone
import Derived.MapKept
import Derived.Ground.SlsfProg
import Derived.Shelf.SlSortCmp.NoneTotal
import Derived.Laws.BytesString
import Derived.Laws.Strings2
import Derived.Laws.Concat
import Derived.Test.YtmjldcgddhnmpaaLibA
import Derived.Test.YtmjldcgddhnmpaaLibB

/- Searches for a word: the queue's entries, the nodes of the reference's list, and what is known of both. -/
namespace Go.KLib

/-- an entry of the queue: a place and the slice of its word -/
structure Qt (T : Type) where
  x : T
  s : Sv
abbrev Qs := Qt St2
abbrev Qi := Qt Int
def Qs.cs (q : Qs) : List Value := [.int .i64 q.x.a, .int .i64 q.x.b, .slice q.s.A q.s.n q.s.c]
def Qi.cs (q : Qi) : List Value := [.int .i64 q.x, .slice q.s.A q.s.n q.s.c]
theorem Qs.len (s : Qs) : (Qs.cs s).length = 3 := rfl
theorem Qi.len (s : Qi) : (Qi.cs s).length = 2 := rfl
theorem Qs.one (x : Qs) : ∀ y ∈ Qs.cs x, y.oneCell' = true := by intro y hy; simp [Qs.cs] at hy; rcases hy with rfl | rfl | rfl <;> rfl
theorem Qi.one (x : Qi) : ∀ y ∈ Qi.cs x, y.oneCell' = true := by intro y hy; simp [Qi.cs] at hy; rcases hy with rfl | rfl <;> rfl

section
variable {T : Type}
def zq (E : List (T × List Int)) (V : List Sv) : List (Qt T) := List.zipWith (fun e s => ⟨e.1, s⟩) E V
theorem zq_len {E : List (T × List Int)} {V : List Sv} (h : V.length = E.length) : (zq E V).length = E.length := by simp [zq, h]
theorem zq_snoc {E : List (T × List Int)} {V : List Sv} {e : T × List Int} {s : Sv} (h : V.length = E.length) : zq (E ++ [e]) (V ++ [s]) = zq E V ++ [⟨e.1, s⟩] := by
  unfold zq; rw [List.zipWith_append h.symm]; rfl
theorem zq_get {E : List (T × List Int)} {V : List Sv} {k : Nat} {y : Qt T} (h : ((zq E V).drop k)[0]? = some y) : ∃ x u s, E[k]? = some (x, u) ∧ V[k]? = some s ∧ y = ⟨x, s⟩ := by
  rw [List.getElem?_drop, Nat.add_zero] at h
  unfold zq at h
  rw [List.getElem?_zipWith] at h
  rcases hE : E[k]? with _ | ⟨x, u⟩
  · rw [hE] at h; simp at h
  · rcases hV : V[k]? with _ | s
    · rw [hE, hV] at h; simp at h
    · rw [hE, hV] at h; simp at h; exact ⟨x, u, s, rfl, rfl, h.symm⟩
theorem zq_drop {E : List (T × List Int)} {V : List Sv} {k : Nat} {e : T × List Int} {s : Sv} (h : V.length = E.length) (hk : k ≤ E.length) : (zq (E ++ [e]) (V ++ [s])).drop k = (zq E V).drop k ++ [⟨e.1, s⟩] := by
  rw [zq_snoc h, List.drop_append_of_le_length (by rw [zq_len h]; exact hk)]
end

section
variable {T : Type} [DecidableEq T] {nx : T → Nat → T} {t0 : T} {ts : T → Bool}
theorem bx_y {e : T × List Int} {E : List (T × List Int)} {m : Nat} (h : nx e.1 m ∈ (bx nx e E m).map (·.1)) : bx nx e E (m + 1) = bx nx e E m := by
  show (if _ then _ else _) = _
  rw [if_pos h]
theorem bx_n {e : T × List Int} {E : List (T × List Int)} {m : Nat} (h : ¬ nx e.1 m ∈ (bx nx e E m).map (·.1)) : bx nx e E (m + 1) = bx nx e E m ++ [(nx e.1 m, e.2 ++ [(m : Int)])] := by
  show (if _ then _ else _) = _
  rw [if_neg h]
theorem bE_1 : 1 ≤ (bE nx t0 0).length := Nat.le_refl _
theorem bE_le : ∀ k, k ≤ (bE nx t0 k).length ∨ (bE nx t0 k).length ≤ k := fun k => Nat.le_total _ _
theorem bx_wlen {e : T × List Int} {E : List (T × List Int)} {n : Nat} (hE : ∀ x ∈ E, x.2.length ≤ n) (he : e.2.length < n) : ∀ m, ∀ x ∈ bx nx e E m, x.2.length ≤ n
  | 0 => hE
  | m + 1 => by
    unfold bx; split
    · exact bx_wlen hE he m
    · intro x hx
      rcases List.mem_append.1 hx with hx | hx
      · exact bx_wlen hE he m x hx
      · rw [List.mem_singleton.1 hx]; simp; omega
theorem bE_wlen : ∀ k, ∀ x ∈ bE nx t0 k, x.2.length ≤ k
  | 0 => fun x hx => by rw [show bE nx t0 0 = [(t0, [])] from rfl, List.mem_singleton] at hx; rw [hx]; exact Nat.le_refl _
  | k + 1 => by
    have ih := bE_wlen k
    rcases hq : (bE nx t0 k)[k]? with _ | e
    · rw [bE_stop (List.getElem?_eq_none_iff.1 hq)]; intro x hx; have := ih x hx; omega
    · rw [bE_succ hq]
      have := ih e (mem_of_get hq)
      exact bx_wlen (fun x hx => by have := ih x hx; omega) (by omega) 9
theorem bres_hit {k : Nat} {e : T × List Int} (h : (bE nx t0 k)[k]? = some e) (ht : ts e.1 = true) (hf : ∀ j x, j < k → (bE nx t0 j)[j]? = some x → ts x.1 = false) : BRes nx t0 ts (e.2, true) := .inl ⟨rfl, k, e, h, ht, rfl, hf⟩
theorem bres_none {k : Nat} (h : (bE nx t0 k).length ≤ k) (hf : ∀ j x, j < k → (bE nx t0 j)[j]? = some x → ts x.1 = false) : BRes nx t0 ts ([], false) := .inr ⟨rfl, k, h, hf⟩
theorem fst_step {k : Nat} {e : T × List Int} (hf : ∀ j x, j < k → (bE nx t0 j)[j]? = some x → ts x.1 = false) (h : (bE nx t0 k)[k]? = some e) (ht : ts e.1 = false) : ∀ j x, j < k + 1 → (bE nx t0 j)[j]? = some x → ts x.1 = false := by
  intro j x hj hx
  rcases Nat.lt_or_ge j k with q | q
  · exact hf j x q hx
  · have : j = k := by omega
    subst this; rw [h] at hx; injection hx with hx; rw [← hx]; exact ht
end

/-! ### The places of automata -/
def nxI (N : List (List Int)) (s : Int) (k : Nat) : Int := moveA N s k
def nxS (N M : List (List Int)) (s : St2) (k : Nat) : St2 := ⟨moveA N s.a k, moveA M s.b k⟩
def tsD (A B : List Bool) (only : Bool) (x : St2) : Bool := (accA B x.b && !accA A x.a) || (accA A x.a && !accA B x.b && !only)
def inA (A : List Bool) (x : Int) : Prop := -1 ≤ x ∧ x ≤ (A.length : Int) - 1
def inS (A B : List Bool) (x : St2) : Prop := inA A x.a ∧ inA B x.b
section
variable {SA SB : Int} {A B : List Bool} {N M : List (List Int)}
theorem inI_all (e : ValidA SA A N) {s : Int} (hs : inA A s) (k : Nat) : ∀ x ∈ bE (nxI N) s k, inA A x.1 :=
  bE_all (Q := inA A) hs (fun t k ht _ => move_rng e ht) k
theorem inS_all (e : ValidA SA A N) (e' : ValidA SB B M) {s : St2} (hs : inS A B s) (k : Nat) : ∀ x ∈ bE (nxS N M) s k, inS A B x.1 :=
  by
  refine bE_all (Q := inS A B) hs (fun t j ht _ => ?_) k
  have h1 : inA A (moveA N t.a j) := move_rng e ht.1
  have h2 : inA B (moveA M t.b j) := move_rng e' ht.2
  exact ⟨h1, h2⟩
theorem lenI (e : ValidA SA A N) {s : Int} (hs : inA A s) (k : Nat) : (bE (nxI N) s k).length ≤ 13 := by
  have h1 := e.1
  have := nodup_map (fun x : Int => (x + 1).toNat) 13 (bE_nodup (nx := nxI N) (t0 := s) k) (fun x hx y hy h => by
    obtain ⟨a, ha, rfl⟩ := List.mem_map.1 hx
    obtain ⟨b, hb, rfl⟩ := List.mem_map.1 hy
    have p := inI_all e hs k a ha
    have q := inI_all e hs k b hb
    unfold inA at p q
    omega) (fun x hx => by
    obtain ⟨a, ha, rfl⟩ := List.mem_map.1 hx
    have p := inI_all e hs k a ha
    unfold inA at p
    omega)
  simpa using this
theorem lenS (e : ValidA SA A N) (e' : ValidA SB B M) {s : St2} (hs : inS A B s) (k : Nat) : (bE (nxS N M) s k).length ≤ 169 := by
  have h1 := e.1
  have h2 := e'.1
  have := nodup_map (fun x : St2 => (x.a + 1).toNat * 13 + (x.b + 1).toNat) 169 (bE_nodup (nx := nxS N M) (t0 := s) k) (fun x hx y hy h => by
    obtain ⟨a, ha, rfl⟩ := List.mem_map.1 hx
    obtain ⟨b, hb, rfl⟩ := List.mem_map.1 hy
    have p := inS_all e e' hs k a ha
    have q := inS_all e e' hs k b hb
    unfold inS inA at p q
    have h3 : a.1.a = b.1.a := by omega
    have h4 : a.1.b = b.1.b := by omega
    obtain ⟨⟨_, _⟩, _⟩ := a
    obtain ⟨⟨_, _⟩, _⟩ := b
    simp only at h3 h4
    rw [h3, h4]) (fun x hx => by
    obtain ⟨a, ha, rfl⟩ := List.mem_map.1 hx
    have p := inS_all e e' hs k a ha
    unfold inS inA at p
    omega)
  simpa using this
theorem run_b (s : St2) (v : List Int) : (runT (nxS N M) s v).b = runT (nxI M) s.b v := by
  induction v using snoc_ind with
  | h0 => rfl
  | h1 v c ih => rw [runT_snoc, runT_snoc]; show moveA M _ _ = moveA M _ _; rw [ih]
theorem run_a (s : St2) (v : List Int) : (runT (nxS N M) s v).a = runT (nxI N) s.a v := by
  induction v using snoc_ind with
  | h0 => rfl
  | h1 v c ih => rw [runT_snoc, runT_snoc]; show moveA N _ _ = moveA N _ _; rw [ih]
end
/-- which words tell two places apart -/
def difF (A : List Bool) (N : List (List Int)) (B : List Bool) (M : List (List Int)) (s : St2) (only : Bool) (v : List Int) : Bool := tsD A B only (runT (nxS N M) s v)
noncomputable def difR (A : List Bool) (N : List (List Int)) (B : List Bool) (M : List (List Int)) (s : St2) (only : Bool) : List Int × Bool := lwF (difF A N B M s only)
noncomputable def msR (SA : Int) (A : List Bool) (N : List (List Int)) (SB : Int) (B : List Bool) (M : List (List Int)) : List Int × Bool := by
  classical exact if ValidA SA A N ∧ ValidA SB B M then difR A N B M ⟨SA, SB⟩ true else ([], false)
noncomputable def dwR (S : Int) (A : List Bool) (N : List (List Int)) (s t : Int) : List Int × Bool := by
  classical exact if ValidA S A N ∧ (0 ≤ s ∧ s ≤ (A.length : Int) - 1) ∧ (0 ≤ t ∧ t ≤ (A.length : Int) - 1) then difR A N A N ⟨s, t⟩ false else ([], false)
noncomputable def saR (S : Int) (A : List Bool) (N : List (List Int)) : List Int × Bool := by
  classical exact if ValidA S A N then lwF (fun v => accA A (runT (nxI N) S v)) else ([], false)
section
variable {SA SB s t : Int} {A B : List Bool} {N M : List (List Int)}
theorem msR_y (h : ValidA SA A N) (h' : ValidA SB B M) : msR SA A N SB B M = difR A N B M ⟨SA, SB⟩ true := by unfold msR; rw [if_pos ⟨h, h'⟩]
theorem msR_n (h : ¬ (ValidA SA A N ∧ ValidA SB B M)) : msR SA A N SB B M = ([], false) := by unfold msR; rw [if_neg h]
theorem dwR_y (h : ValidA SA A N) (h1 : 0 ≤ s ∧ s ≤ (A.length : Int) - 1) (h2 : 0 ≤ t ∧ t ≤ (A.length : Int) - 1) : dwR SA A N s t = difR A N A N ⟨s, t⟩ false := by unfold dwR; rw [if_pos ⟨h, h1, h2⟩]
theorem dwR_n (h : ¬ (ValidA SA A N ∧ (0 ≤ s ∧ s ≤ (A.length : Int) - 1) ∧ (0 ≤ t ∧ t ≤ (A.length : Int) - 1))) : dwR SA A N s t = ([], false) := by unfold dwR; rw [if_neg h]
theorem saR_y (h : ValidA SA A N) : saR SA A N = lwF (fun v => accA A (runT (nxI N) SA v)) := by unfold saR; rw [if_pos h]
theorem saR_n (h : ¬ ValidA SA A N) : saR SA A N = ([], false) := by unfold saR; rw [if_neg h]
theorem dif_eq {r : List Int × Bool} {only : Bool} {x : St2} (h : BRes (nxS N M) x (tsD A B only) r) : r = difR A N B M x only := bres_lw h
theorem acc_false (x : Int) : accA [false] x = false := by
  unfold accA
  rcases h : x.toNat with _ | n <;> simp
theorem sa_nothing {M0 : List (List Int)} (h : ValidA 0 [false] M0) : msR 0 [false] M0 SA A N = saR SA A N := by
  by_cases hv : ValidA SA A N
  · rw [msR_y h hv, saR_y hv]
    unfold difR
    congr 1
    funext v
    unfold difF tsD
    rw [acc_false, run_b]; simp
  · rw [msR_n (fun q => hv q.2), saR_n hv]
end

/-! ### The reference's list -/
structure GNode where
  a : Int
  b : Int
  apart : Bool
  frm : Int
  by_ : Int
def GNode.cs (p : GNode) : List Value := [.int .i64 p.a, .int .i64 p.b, .bool p.apart, .int .i64 p.frm, .int .i64 p.by_]
theorem GNode.len (p : GNode) : p.cs.length = 5 := rfl
theorem GNode.one (x : GNode) : ∀ y ∈ x.cs, y.oneCell' = true := by intro y hy; simp [GNode.cs] at hy; rcases hy with rfl | rfl | rfl | rfl | rfl <;> rfl
/-- the nodes of the list are the places in their order; each names the node that it was found from -/
structure NdR (L : List GNode) (E : List (St2 × List Int)) : Prop where
  len : L.length = E.length
  at_ : ∀ (i : Nat) (n : GNode) (x : St2 × List Int), L[i]? = some n → E[i]? = some x → n.a = x.1.a ∧ n.b = x.1.b ∧ n.apart = false ∧ (i = 0 → x.2 = [])
  frm : ∀ (i : Nat) (n : GNode) (x : St2 × List Int), L[i]? = some n → E[i]? = some x → 0 < i → 0 ≤ n.frm ∧ n.frm < (i : Int) ∧ ∃ y, E[n.frm.toNat]? = some y ∧ x.2 = y.2 ++ [n.by_]
theorem ndr_0 {s : St2} : NdR [⟨s.a, s.b, false, 0, 0⟩] [(s, [])] := by
  refine ⟨rfl, fun i n x hn hx => ?_, fun i n x hn hx hi => ?_⟩
  · cases i with
    | zero => simp at hn hx; subst hn hx; exact ⟨rfl, rfl, rfl, fun _ => rfl⟩
    | succ i => simp at hn
  · cases i with
    | zero => omega
    | succ i => simp at hn
theorem ndr_snoc {L : List GNode} {E : List (St2 × List Int)} (h : NdR L E) {x y : St2 × List Int} {k m : Nat} (hk : E[k]? = some y) (hx : x.2 = y.2 ++ [(m : Int)]) : NdR (L ++ [⟨x.1.a, x.1.b, false, k, m⟩]) (E ++ [x]) := by
  have hk1 := (List.getElem?_eq_some_iff.1 hk).1
  have hl := h.len
  refine ⟨by simp [hl], fun i n z hn hz => ?_, fun i n z hn hz hi => ?_⟩
  · rcases get_snoc hn with ⟨a1, a2⟩ | ⟨a1, a2⟩
    · rcases get_snoc hz with ⟨b1, b2⟩ | ⟨b1, b2⟩
      · exact h.at_ i n z a2 b2
      · omega
    · rcases get_snoc hz with ⟨b1, b2⟩ | ⟨b1, b2⟩
      · omega
      · subst a2 b2; exact ⟨rfl, rfl, rfl, fun e => by omega⟩
  · rcases get_snoc hn with ⟨a1, a2⟩ | ⟨a1, a2⟩
    · rcases get_snoc hz with ⟨b1, b2⟩ | ⟨b1, b2⟩
      · obtain ⟨c1, c2, w, c3, c4⟩ := h.frm i n z a2 b2 hi
        exact ⟨c1, c2, w, by rw [List.getElem?_append_left (by omega)]; exact c3, c4⟩
      · omega
    · rcases get_snoc hz with ⟨b1, b2⟩ | ⟨b1, b2⟩
      · omega
      · subst a2 b2
        refine ⟨by simp, by simp; omega, y, ?_, hx⟩
        simp only [Int.toNat_natCast]
        rw [List.getElem?_append_left hk1]; exact hk
def hasN (L : List GNode) (z : GNode) (k : Nat) : Prop := ∃ i n, i < k ∧ L[i]? = some n ∧ n.a = z.a ∧ n.b = z.b ∧ n.apart = z.apart
theorem has_mem {L : List GNode} {E : List (St2 × List Int)} (h : NdR L E) {z : GNode} (hz : z.apart = false) : hasN L z L.length ↔ (⟨z.a, z.b⟩ : St2) ∈ E.map (·.1) := by
  have hl := h.len
  constructor
  · rintro ⟨i, n, hi, hn, h1, h2, _⟩
    have hx : E[i]? = some (E[i]'(by omega)) := List.getElem?_eq_getElem _
    have := h.at_ i n _ hn hx
    refine List.mem_map.2 ⟨_, mem_of_get hx, ?_⟩
    have e1 : (E[i]'(by omega)).1.a = z.a := by rw [← this.1, h1]
    have e2 : (E[i]'(by omega)).1.b = z.b := by rw [← this.2.1, h2]
    rw [← e1, ← e2]
  · intro hm
    obtain ⟨x, hx, he⟩ := List.mem_map.1 hm
    obtain ⟨i, hi1, hi2⟩ := List.getElem_of_mem hx
    have hn : L[i]? = some (L[i]'(by omega)) := List.getElem?_eq_getElem _
    have hxx : E[i]? = some x := List.getElem?_eq_some_iff.2 ⟨hi1, hi2⟩
    have := h.at_ i _ x hn hxx
    exact ⟨i, _, by omega, hn, by rw [this.1, he], by rw [this.2.1, he], by rw [this.2.2.1, hz]⟩
theorem has_step {L : List GNode} {z n : GNode} {k : Nat} (h : ¬ hasN L z k) (hn : L[k]? = some n) (hb : ¬ (n.a = z.a ∧ n.b = z.b ∧ n.apart = z.apart)) : ¬ hasN L z (k + 1) := by
  rintro ⟨i, m, hi, hm, hq⟩
  rcases Nat.lt_or_ge i k with q | q
  · exact h ⟨i, m, q, hm, hq⟩
  · have : i = k := by omega
    subst this; rw [hn] at hm; injection hm with hm; subst hm; exact hb hq
theorem has_zero {L : List GNode} {z : GNode} : ¬ hasN L z 0 := by rintro ⟨i, n, hi, _⟩; omega
theorem has_hit {L : List GNode} {z n : GNode} {k : Nat} (hn : L[k]? = some n) (h1 : n.a = z.a) (h2 : n.b = z.b) (h3 : n.apart = z.apart) : hasN L z L.length := ⟨k, n, (List.getElem?_eq_some_iff.1 hn).1, hn, h1, h2, h3⟩
theorem has_end {L : List GNode} {z : GNode} {k : Nat} (h : ¬ hasN L z k) (hk : L.length ≤ k) : ¬ hasN L z L.length := by
  rintro ⟨i, n, hi, hq⟩; exact h ⟨i, n, by omega, hq⟩
/-- the word of a node -/
def ndw (E : List (St2 × List Int)) (k : Int) : List Int := ((E[k.toNat]?).map (·.2)).getD []
theorem ndw_get {E : List (St2 × List Int)} {k : Nat} {x : St2 × List Int} (h : E[k]? = some x) : ndw E k = x.2 := by simp [ndw, h]
theorem ndw_zero {L : List GNode} {E : List (St2 × List Int)} {k : Int} (h : NdR L E) (hk : k ≤ 0) (hl : 0 < L.length) : ndw E k = [] := by
  have e : k.toNat = 0 := by omega
  have hl2 := h.len
  have hx : E[0]? = some (E[0]'(by omega)) := List.getElem?_eq_getElem _
  have hn : L[0]? = some (L[0]'hl) := List.getElem?_eq_getElem _
  unfold ndw; rw [e, hx]
  exact (h.at_ 0 _ _ hn hx).2.2.2 rfl
theorem ndw_step {L : List GNode} {E : List (St2 × List Int)} {k : Int} {n : GNode} (h : NdR L E) (hk : 0 < k) (hn : L[k.toNat]? = some n) : ndw E k = ndw E n.frm ++ [n.by_] ∧ 0 ≤ n.frm ∧ n.frm < k := by
  have hl := h.len
  have hi := (List.getElem?_eq_some_iff.1 hn).1
  have hx : E[k.toNat]? = some (E[k.toNat]'(by omega)) := List.getElem?_eq_getElem _
  obtain ⟨a, b, y, c, d⟩ := h.frm _ _ _ hn hx (by omega)
  refine ⟨?_, a, by omega⟩
  unfold ndw; rw [hx, c]; exact d
theorem ndw_len {E : List (St2 × List Int)} {k : Int} {m : Nat} (h : ∀ x ∈ E, x.2.length ≤ m) : (ndw E k).length ≤ m := by
  unfold ndw
  rcases hx : E[k.toNat]? with _ | x
  · simp
  · exact h x (mem_of_get hx)
/-- the queue's first entry, with its word -/
theorem zq_row {T : Type} {E : List (T × List Int)} {V : List Sv} {k : Nat} {y : Qt T} {e lo hi : Nat} {w : World} (h : ((zq E V).drop k)[0]? = some y) (o : Od ics e 1 w lo hi V (E.map (·.2))) :
    ∃ x u A C, E[k]? = some (x, u) ∧ V[k]? = some ⟨A, u.length, C⟩ ∧ y = ⟨x, ⟨A, u.length, C⟩⟩ ∧ Ls ics 1 w 0 w.heap.size (.slice A u.length C) u := by
  obtain ⟨x, u, s, h1, h2, h3⟩ := zq_get h
  obtain ⟨u', h4, h5⟩ := o.get h2
  rw [List.getElem?_map, h1] at h4
  simp at h4
  subst h4
  have h6 := h5.eqn
  obtain ⟨A, n, C⟩ := s
  subst h6
  exact ⟨x, u, A, C, h1, h2, h3, h5⟩
theorem zq_has {T : Type} {E : List (T × List Int)} {V : List Sv} {k : Nat} (hV : V.length = E.length) (h : 0 < ((zq E V).drop k).length) : k < E.length := by
  rw [List.length_drop, zq_len hV] at h; omega
theorem zq_no {T : Type} {E : List (T × List Int)} {V : List Sv} {k : Nat} (hV : V.length = E.length) (h : ¬ 0 < ((zq E V).drop k).length) : E.length ≤ k := by
  rw [List.length_drop, zq_len hV] at h; omega
theorem Od.one_nil {e lo hi : Nat} {w : World} : Od ics e 1 w lo hi [⟨none, 0, 0⟩] [([] : List Int)] := by
  refine ⟨rfl, fun i v x a b => ?_, fun i j u v a b hij => ?_⟩
  · cases i with
    | zero => simp at a b; subst a b; exact ⟨Ol.nil _, fun g hg => by cases hg⟩
    | succ i => simp at a
  · cases j with
    | zero => omega
    | succ j => simp at b
theorem nil1Sep {v : Value} : Sep v [⟨none, 0, 0⟩] := fun u hu g hg => by rw [List.mem_singleton.1 hu] at hg; cases hg
section
variable {T : Type} [DecidableEq T] {nx : T → Nat → T} {t0 : T}
theorem bx_lt {k m : Nat} {e : T × List Int} (h : (bE nx t0 k)[k]? = some e) : k < (bx nx e (bE nx t0 k) m).length := by
  have h1 := (List.getElem?_eq_some_iff.1 h).1
  have h2 := bx_len (nx := nx) e (bE nx t0 k) m
  omega
theorem bx_up (e : T × List Int) (E : List (T × List Int)) (m : Nat) : ∀ d, (bx nx e E m).length ≤ (bx nx e E (m + d)).length
  | 0 => Nat.le_refl _
  | d + 1 => by
    refine Nat.le_trans (bx_up e E m d) ?_
    show _ ≤ (if _ then _ else _ : List _).length
    split
    · exact Nat.le_refl _
    · simp
theorem bx_le9 {k m : Nat} {e : T × List Int} (h : (bE nx t0 k)[k]? = some e) (hm : m ≤ 9) : (bx nx e (bE nx t0 k) m).length ≤ (bE nx t0 (k + 1)).length := by
  rw [bE_succ h]
  have := bx_up (nx := nx) e (bE nx t0 k) m (9 - m)
  rwa [show m + (9 - m) = 9 by omega] at this
end
theorem nd_at {L : List GNode} {E : List (St2 × List Int)} (h : NdR L E) {k : Nat} {n : GNode} (hn : L[k]? = some n) : ∃ x, E[k]? = some x ∧ n.a = x.1.a ∧ n.b = x.1.b ∧ n.apart = false := by
  have hl := h.len
  have hi := (List.getElem?_eq_some_iff.1 hn).1
  have hx : E[k]? = some (E[k]'(by omega)) := List.getElem?_eq_getElem _
  have := h.at_ _ _ _ hn hx
  exact ⟨_, hx, this.1, this.2.1, this.2.2.1⟩
section
variable {N M : List (List Int)} {L : List GNode} {E : List (St2 × List Int)} {e : St2 × List Int} {m k : Nat} {a b fr by_ : Int}
theorem nd_old (h : NdR L (bx (nxS N M) e E m)) (ha : a = moveA N e.1.a m) (hb : b = moveA M e.1.b m) (hh : hasN L ⟨a, b, false, fr, by_⟩ L.length) : NdR L (bx (nxS N M) e E (m + 1)) := by
  subst ha hb
  rw [bx_y ((has_mem h rfl).1 hh)]; exact h
theorem nd_new (h : NdR L (bx (nxS N M) e E m)) (ha : a = moveA N e.1.a m) (hb : b = moveA M e.1.b m) (hh : ¬ hasN L ⟨a, b, false, fr, by_⟩ L.length) (hk : E[k]? = some e) : NdR (L ++ [⟨a, b, false, k, m⟩]) (bx (nxS N M) e E (m + 1)) := by
  subst ha hb
  rw [bx_n (fun q => hh ((has_mem h rfl).2 q))]
  exact ndr_snoc h (x := (nxS N M e.1 m, e.2 ++ [(m : Int)])) (bx_get hk) rfl
end
theorem nd_lit {L : List GNode} {E : List (St2 × List Int)} (h : NdR L E) {k : Nat} {n : GNode} (hn : L[k]? = some n) : ∃ x fr by_, E[k]? = some x ∧ n = ⟨x.1.a, x.1.b, false, fr, by_⟩ := by
  obtain ⟨x, h1, h2, h3, h4⟩ := nd_at h hn
  obtain ⟨_, _, _, fr, by_⟩ := n
  simp only at h2 h3 h4
  subst h2 h3 h4
  exact ⟨x, fr, by_, h1, rfl⟩
theorem zq_word {T : Type} {E : List (T × List Int)} {V : List Sv} {k : Nat} {x : T} {u : List Int} {A : Option Addr} {C e lo hi : Nat} {w : World} (o : Od ics e 1 w lo hi V (E.map (·.2))) (hv : V[k]? = some ⟨A, u.length, C⟩) (he : E[k]? = some (x, u)) :
    Ls ics 1 w 0 w.heap.size (.slice A u.length C) u := by
  obtain ⟨u', h4, h5⟩ := o.get hv
  rw [List.getElem?_map, he] at h4
  simp at h4
  subst h4
  exact h5
theorem get_app {α : Type} {V : List α} {k : Nat} {s x : α} (h : V[k]? = some s) : (V ++ [x])[k]? = some s := by rw [List.getElem?_append_left (List.getElem?_eq_some_iff.1 h).1]; exact h
noncomputable def saF (A : List Bool) (N : List (List Int)) (s : Int) : List Int × Bool := lwF (fun v => accA A (runT (nxI N) s v))
theorem sa_eq {A : List Bool} {N : List (List Int)} {r : List Int × Bool} {x : Int} (h : BRes (nxI N) x (accA A) r) : r = saF A N x := bres_lw h
theorem saR_F {S : Int} {A : List Bool} {N : List (List Int)} (h : ValidA S A N) : saR S A N = saF A N S := saR_y h
theorem difR_len {A B : List Bool} {N M : List (List Int)} {s : St2} {o : Bool} {r : List Int × Bool} (h : BRes (nxS N M) s (tsD A B o) r) {n : Nat} (hr : r.1.length ≤ n) : (difR A N B M s o).1.length ≤ n := by rw [← dif_eq h]; exact hr
section
variable {T : Type} [DecidableEq T] {nx : T → Nat → T} {t0 : T} {ts : T → Bool}
/-- the search ends, with a word of bounded length -/
theorem bres_ex {n : Nat} (hn : ∀ k, (bE nx t0 k).length ≤ n) : ∃ r, BRes nx t0 ts r ∧ r.1.length ≤ n := by
  have h : ∀ m, (∃ k e, (bE nx t0 k)[k]? = some e ∧ ts e.1 = true ∧ ∀ j x, j < k → (bE nx t0 j)[j]? = some x → ts x.1 = false) ∨ ∀ j x, j < m → (bE nx t0 j)[j]? = some x → ts x.1 = false := by
    intro m
    induction m with
    | zero => exact .inr fun j _ hj => absurd hj (by omega)
    | succ m ih =>
      rcases ih with h | h
      · exact .inl h
      · rcases hq : (bE nx t0 m)[m]? with _ | e
        · refine .inr fun j x hj hx => ?_
          rcases Nat.lt_or_ge j m with q | q
          · exact h j x q hx
          · rw [show j = m by omega, hq] at hx; cases hx
        · cases ht : ts e.1 with
          | true => exact .inl ⟨m, e, hq, ht, h⟩
          | false => exact .inr (fst_step h hq ht)
  rcases h n with ⟨k, e, h1, h2, h3⟩ | h
  · refine ⟨_, bres_hit h1 h2 h3, ?_⟩
    have a := bE_wlen k e (mem_of_get h1)
    have b := (List.getElem?_eq_some_iff.1 h1).1
    have c := hn k
    simp only; omega
  · exact ⟨_, bres_none (hn n) h, by simp⟩
end
section
variable {SA SB s t : Int} {A B : List Bool} {N M : List (List Int)}
theorem inA_start (h : ValidA SA A N) : inA A SA := by have h1 := h.2.1; unfold inA; omega
theorem inA_of (h : 0 ≤ s ∧ s ≤ (A.length : Int) - 1) : inA A s := by unfold inA; omega
theorem difR_ex (h : ValidA SA A N) (h' : ValidA SB B M) {x : St2} (hx : inS A B x) (o : Bool) : LeastW (difF A N B M x o) (difR A N B M x o) ∧ (difR A N B M x o).1.length ≤ 169 := by
  obtain ⟨r, h1, h2⟩ := bres_ex (ts := tsD A B o) (lenS h h' hx)
  rw [← dif_eq h1]; exact ⟨bres_least h1, h2⟩
theorem saF_ex (h : ValidA SA A N) {x : Int} (hx : inA A x) : LeastW (fun v => accA A (runT (nxI N) x v)) (saF A N x) ∧ (saF A N x).1.length ≤ 169 := by
  obtain ⟨r, h1, h2⟩ := bres_ex (ts := accA A) (lenI h hx)
  rw [← sa_eq h1]; exact ⟨bres_least h1, by omega⟩
end
theorem msR_len (SA : Int) (A : List Bool) (N : List (List Int)) (SB : Int) (B : List Bool) (M : List (List Int)) : (msR SA A N SB B M).1.length ≤ 169 := by
  by_cases h : ValidA SA A N ∧ ValidA SB B M
  · rw [msR_y h.1 h.2]; exact (difR_ex h.1 h.2 ⟨inA_start h.1, inA_start h.2⟩ _).2
  · rw [msR_n h]; simp
theorem dwR_len (S : Int) (A : List Bool) (N : List (List Int)) (s t : Int) : (dwR S A N s t).1.length ≤ 169 := by
  by_cases h : ValidA S A N ∧ (0 ≤ s ∧ s ≤ (A.length : Int) - 1) ∧ (0 ≤ t ∧ t ≤ (A.length : Int) - 1)
  · rw [dwR_y h.1 h.2.1 h.2.2]; exact (difR_ex h.1 h.1 ⟨inA_of h.2.1, inA_of h.2.2⟩ _).2
  · rw [dwR_n h]; simp
theorem saR_len (S : Int) (A : List Bool) (N : List (List Int)) : (saR S A N).1.length ≤ 169 := by
  by_cases h : ValidA S A N
  · rw [saR_F h]; exact (saF_ex h (inA_start h)).2
  · rw [saR_n h]; simp
/-- the automaton that accepts no word -/
theorem nothing_row (x : Int) (h : x ∈ List.replicate 9 (-1 : Int)) : x = -1 := (List.mem_replicate.1 h).2
theorem nothing_ok : ValidA 0 [false] [List.replicate 9 (-1 : Int)] := by
  refine ⟨by simp, by simp, by simp, fun i r hi hr => ?_⟩
  cases i with
  | zero =>
    simp at hr; subst hr
    refine ⟨rfl, fun j x _ hx => ?_⟩
    rw [nothing_row x (mem_of_get hx)]; simp
  | succ i => simp at hr
def IncP (aS : Int) (aA : List Bool) (aN : List (List Int)) (bS : Int) (bA : List Bool) (bN : List (List Int)) : Prop := ValidA aS aA aN ∧ ValidA bS bA bN ∧ (msR aS aA aN bS bA bN).2 = false
theorem inc_e {aS bS : Int} {aA bA : List Bool} {aN bN : List (List Int)} (h : ValidA aS aA aN) (h' : ValidA bS bA bN) : (!(msR aS aA aN bS bA bN).2) = tt (IncP aS aA aN bS bA bN) := by
  cases hq : (msR aS aA aN bS bA bN).2
  · exact tt_true ⟨h, h', hq⟩
  · exact tt_false fun q => by have q2 := q.2.2; rw [hq] at q2; cases q2
theorem inc_n1 {aS bS : Int} {aA bA : List Bool} {aN bN : List (List Int)} (h : ¬ ValidA aS aA aN) : false = tt (IncP aS aA aN bS bA bN) := tt_false fun q => h q.1
theorem inc_n2 {aS bS : Int} {aA bA : List Bool} {aN bN : List (List Int)} (h : ¬ ValidA bS bA bN) : false = tt (IncP aS aA aN bS bA bN) := tt_false fun q => h q.2.1
theorem wlenS (N M : List (List Int)) (x : St2) : ∀ k, ∀ y ∈ bE (nxS N M) x k, y.2.length ≤ k := bE_wlen
theorem wlenI (N : List (List Int)) (x : Int) : ∀ k, ∀ y ∈ bE (nxI N) x k, y.2.length ≤ k := bE_wlen
end Go.KLib

/- The position automaton of a tree. -/
namespace Go.KLib

theorem DR_three {P : Program} {N : Nat} {ops : Array Oper} {Q : Po} {l : KL} {w : World} {S : World → Prop} {fuel : Nat} {listed : Array Bool} (i j m : Nat) (hr : Region.ready .any ops listed = [i, j, m])
    (h1 : DO P N ops Q S fuel listed i l w) (h2 : DO P N ops Q S fuel listed j l w) (h3 : DO P N ops Q S fuel listed m l w) : DR P N ops Q S (fuel + 1) listed l w :=
  DR_all hr (by simp) (by
    intro k hk
    rcases List.mem_cons.1 hk with rfl | hk
    · exact h1
    · rcases List.mem_cons.1 hk with rfl | hk
      · exact h2
      · rw [List.mem_singleton.1 hk]; exact h3)
theorem nbOld {z : Value} {n b c : Nat} {R : List Nat} (h : ∀ g ∈ bl z, n ≤ g ∨ g ∈ b :: R) (hb : b ∉ bl z) (hn : c < n) (hr : c ∉ R) : c ∉ bl z := fun hm => by
  rcases h _ hm with q | q
  · omega
  · rcases List.mem_cons.1 q with q | q
    · exact hb (q ▸ hm)
    · exact hr q
theorem nin2 {c : Nat} {A B : List Nat} (h : c ∉ A) (k : c ∉ B) : c ∉ A ++ B := fun q => by
  rcases List.mem_append.1 q with q | q
  · exact h q
  · exact k q
theorem inOld {z : Value} {n b m : Nat} {R W : List Nat} (h : ∀ g ∈ bl z, n ≤ g ∨ g ∈ b :: R) (hb : b ∉ bl z) (hn : m ≤ n) (hr : ∀ g ∈ R, m ≤ g ∨ g ∈ W) : ∀ g ∈ bl z, m ≤ g ∨ g ∈ W := fun g hm => by
  rcases h _ hm with q | q
  · left; omega
  · rcases List.mem_cons.1 q with q | q
    · exact absurd (q ▸ hm) hb
    · exact hr _ q
theorem all2 {A B : List Nat} {p : Nat → Prop} (h : ∀ g ∈ A, p g) (k : ∀ g ∈ B, p g) : ∀ g ∈ A ++ B, p g := fun g q => by
  rcases List.mem_append.1 q with q | q
  · exact h g q
  · exact k g q
theorem loOld {z : Value} {n b L : Nat} {R : List Nat} (h : ∀ g ∈ bl z, n ≤ g ∨ g ∈ b :: R) (hb : b ∉ bl z) (hn : L ≤ n) (hr : ∀ g ∈ R, L ≤ g) : Lo L z := fun g hm => by
  rcases h _ hm with q | q
  · omega
  · rcases List.mem_cons.1 q with q | q
    · exact absurd (q ▸ hm) hb
    · exact hr _ q
theorem ior_comm (a b : Int) : ior a b = ior b a := by unfold ior; rw [BitVec.or_comm]
theorem inOldE {z : Value} {n b : Nat} {R W : List Nat} {w0 w1 : World} (E : Ch W w0 w1) (h : ∀ g ∈ bl z, n ≤ g ∨ g ∈ b :: R) (hb : b ∉ bl z) (hn : w0.heap.size ≤ n) (hr : ∀ g ∈ R, w0.heap.size ≤ g ∨ g ∈ W) : ∀ g ∈ bl z, w0.heap.size ≤ g ∨ g ∈ W := inOld h hb hn hr
theorem no_in {v : Value} {L W b : Nat} (lo : Lo L v) (hi : ∀ g ∈ bl v, g < W) (h : b < L ∨ W ≤ b) : b ∉ bl v := fun hm => by
  have h1 := lo _ hm
  have h2 := hi _ hm
  omega
theorem nin3 {a b : Nat} {A B : List Nat} (h : b ≠ a) (hA : b ∉ A) (hB : b ∉ B) : b ∉ a :: (A ++ B) := fun hm => by
  rcases List.mem_cons.1 hm with q | q
  · exact h q
  · exact nin2 hA hB q
theorem lwr3 {v v' : Value} {L B La Lb a : Nat} (h : a < L ∨ B ≤ a) (lo : Lo La v) (hA : B ≤ La) (lo' : Lo Lb v') (hB : B ≤ Lb) : ∀ i ∈ a :: (bl v ++ bl v'), i < L ∨ B ≤ i := fun i hm => by
  rcases List.mem_cons.1 hm with q | q
  · omega
  · rcases List.mem_append.1 q with q | q
    · have h1 := lo _ q
      omega
    · have h1 := lo' _ q
      omega
theorem no_hi {v : Value} {W b : Nat} (hi : ∀ g ∈ bl v, g < W) (h : W ≤ b) : b ∉ bl v := fun hm => by
  have h2 := hi _ hm
  omega
theorem Ow.lsB {e : TypeId} {k n B : Nat} {w : World} {v : Value} {xs : List Value} (h : Ow w e k v n xs) (hi : ∀ g ∈ bl v, g < B) : Sl w 0 B k v n xs := by
  refine ⟨h.1, ?_⟩
  have hc := fun g off cap => h.cells (g := g) (off := off) (cap := cap)
  rcases h.2 with ⟨rfl, rfl⟩ | ⟨g, off, cap, cur, rfl, hg, h1, h2, h3, _⟩
  · exact ⟨none, 0, rfl, Nat.le_refl _, Nat.zero_le _, fun h => absurd h (by omega)⟩
  · exact ⟨_, cap, rfl, h1, h2, fun _ => ⟨_, rfl, ⟨Nat.zero_le _, hi g (by simp [bl, Value.ownBlock])⟩, fun j u hu => by rw [add_lit]; exact hc g off cap rfl j u hu⟩⟩
theorem Ol.lsB {α : Type} {cs : α → List Value} {e : TypeId} {k B : Nat} {w : World} {v : Value} {xs : List α} (h : Ol cs e k w v xs) (hi : ∀ g ∈ bl v, g < B) : Ls cs k w 0 B v xs := Ow.lsB h hi
theorem ne1 {a b : Nat} (h : a ≠ b) : a ∉ [b] := fun hm => h (List.mem_singleton.1 hm)
theorem tfr1 {L B b : Nat} (h : b < L ∨ B ≤ b) : ∀ i ∈ [b], i < L ∨ B ≤ i := fun i hi => by
  have h1 := List.mem_singleton.1 hi
  omega
theorem oneL {W b : Nat} {X : List Nat} (h : W ≤ b) : ∀ i ∈ [b], W ≤ i ∨ i ∈ X := fun i hi => by
  have h1 := List.mem_singleton.1 hi
  left
  omega
theorem inL {v : Value} {L W : Nat} {X : List Nat} (lo : Lo L v) (h : W ≤ L) : ∀ i ∈ bl v, W ≤ i ∨ i ∈ X := fun i hi => .inl (Nat.le_trans h (lo _ hi))
theorem all3 {a : Nat} {A B : List Nat} {p : Nat → Prop} (h : p a) (hA : ∀ g ∈ A, p g) (hB : ∀ g ∈ B, p g) : ∀ g ∈ a :: (A ++ B), p g := fun g q => by
  rcases List.mem_cons.1 q with q | q
  · exact q ▸ h
  · exact all2 hA hB g q
theorem inCall {z : Value} {n b m : Nat} {l r X : List Nat} (h : ∀ g ∈ bl z, n ≤ g ∨ g ∈ b :: (l ++ r)) (hn : m ≤ n) (hb : m ≤ b ∨ b ∈ X) (hl : ∀ g ∈ l, m ≤ g ∨ g ∈ X) (hr : ∀ g ∈ r, m ≤ g ∨ g ∈ X) : ∀ g ∈ bl z, m ≤ g ∨ g ∈ X := fun g hg => by
  rcases h g hg with q | q
  · left; omega
  · exact all3 (p := fun g => m ≤ g ∨ g ∈ X) hb hl hr g q
theorem mAL {a : Nat} {A : List Nat} (B : List Nat) (h : a ∈ A) : a ∈ A ++ B := List.mem_append_left B h
theorem mAR {b : Nat} (A : List Nat) {B : List Nat} (h : b ∈ B) : b ∈ A ++ B := List.mem_append_right A h
theorem mSg {a b : Nat} : a ∈ [b] ↔ a = b := List.mem_singleton
theorem mCo {a : Nat} (y : Nat) {l : List Nat} (h : a ∈ l) : a ∈ y :: l := List.mem_cons_of_mem y h
theorem rbA {α : Type} {c : Prop} [Decidable c] {a b : α} (h : c) : (if c then a else b) = a := if_pos h
theorem rbB {α : Type} {c : Bool} {a b : α} (h : c = false) : (if c then a else b) = b := by rw [h]; rfl
theorem rbC {c : Prop} [Decidable c] {a b d : Int} (h : c) : (if c then ior a b else d) = ior b a := by rw [if_pos h, ior_comm]
theorem rbD {α : Type} {c : Prop} [Decidable c] {a b : α} (h : c) : a = (if c then a else b) := (if_pos h).symm
theorem rbE {c : Prop} [Decidable c] {a b d : Int} (h : c) : ior b a = (if c then ior a b else d) := (rbC h).symm
def lkN (l f : Int) (F : List Int) : Nat → List Int
  | 0 => F
  | k + 1 => if iand (ishr l k) 1 = 1 then (lkN l f F k).set k (ior ((lkN l f F k).getD k 0) f) else lkN l f F k
theorem lkN_len (l f : Int) (F : List Int) : ∀ k, (lkN l f F k).length = F.length
  | 0 => rfl
  | k + 1 => by unfold lkN; split <;> simp [lkN_len l f F k]
theorem lkN_y {l f y : Int} {F : List Int} {k : Nat} (h : iand (ishr l k) 1 = 1) (hy : (lkN l f F k)[k]? = some y) : (lkN l f F k).set k (ior y f) = lkN l f F (k + 1) := by
  show _ = if _ then _ else _
  rw [if_pos h, getD_of hy]
theorem lkN_n {l f : Int} {F : List Int} {k : Nat} (h : ¬ iand (ishr l k) 1 = 1) : lkN l f F k = lkN l f F (k + 1) := by
  show _ = if _ then _ else _
  rw [if_neg h]
def lkL (l f : Int) (F : List Int) : List Int := lkN l f F F.length
theorem lkL_len (l f : Int) (F : List Int) : (lkL l f F).length = F.length := lkN_len _ _ _ _

structure BPd where
  L : List Int
  F : List Int
  f : Int
  l : Int
  n : Bool
def bpT : Tr → List Int → List Int → BPd
  | .l0 t, L, F => if t.kind = 2 then ⟨L, F, 0, 0, true⟩ else if t.kind = 3 then ⟨L ++ [t.letter], F ++ [0], ishl 1 L.length, ishl 1 L.length, false⟩ else ⟨L, F, 0, 0, false⟩
  | .l1 t x, L, F => if t.kind = 6 then ⟨(bpT x L F).L, lkL (bpT x L F).l (bpT x L F).f (bpT x L F).F, (bpT x L F).f, (bpT x L F).l, true⟩ else ⟨L, F, 0, 0, false⟩
  | .l2 t x y, L, F =>
    if t.kind = 4 then
      ⟨(bpT y (bpT x L F).L (bpT x L F).F).L, lkL (bpT x L F).l (bpT y (bpT x L F).L (bpT x L F).F).f (bpT y (bpT x L F).L (bpT x L F).F).F,
        if (bpT x L F).n then ior (bpT x L F).f (bpT y (bpT x L F).L (bpT x L F).F).f else (bpT x L F).f,
        if (bpT y (bpT x L F).L (bpT x L F).F).n then ior (bpT x L F).l (bpT y (bpT x L F).L (bpT x L F).F).l else (bpT y (bpT x L F).L (bpT x L F).F).l,
        (bpT x L F).n && (bpT y (bpT x L F).L (bpT x L F).F).n⟩
    else if t.kind = 5 then
      ⟨(bpT y (bpT x L F).L (bpT x L F).F).L, (bpT y (bpT x L F).L (bpT x L F).F).F, ior (bpT x L F).f (bpT y (bpT x L F).L (bpT x L F).F).f, ior (bpT x L F).l (bpT y (bpT x L F).L (bpT x L F).F).l,
        (bpT x L F).n || (bpT y (bpT x L F).L (bpT x L F).F).n⟩
    else ⟨L, F, 0, 0, false⟩
theorem bpT_len : ∀ (t : Tr) (L F : List Int), (bpT t L F).L.length ≤ L.length + t.sz ∧ (bpT t L F).F.length ≤ F.length + t.sz
  | .l0 t, L, F => by unfold bpT; repeat' split; all_goals simp [Tr.sz]
  | .l1 t x, L, F => by
    have h := bpT_len x L F
    unfold bpT; split
    · simp only [lkL_len, Tr.sz]; omega
    · simp only [Tr.sz]; omega
  | .l2 t x y, L, F => by
    have h := bpT_len x L F
    have k := bpT_len y (bpT x L F).L (bpT x L F).F
    unfold bpT; repeat' split
    all_goals (simp only [lkL_len, Tr.sz]; omega)
section
variable {t ta tb : Tr} {L F : List Int}
theorem bp2 (hok : Okd t) (h : t.tok.kind = 2) : bpT t L F = ⟨L, F, 0, 0, true⟩ := by
  have ha := hok.ar
  cases t with
  | l0 t => simp only [Tr.tok] at h; unfold bpT; rw [if_pos h]
  | l1 t x => simp only [Tr.tok, Tr.kids] at h ha; rw [arT_ok (by rw [ha]; simp), h] at ha; simp [arK] at ha
  | l2 t x y => simp only [Tr.tok, Tr.kids] at h ha; rw [arT_ok (by rw [ha]; simp), h] at ha; simp [arK] at ha
theorem bp3 (hok : Okd t) (h : t.tok.kind = 3) : bpT t L F = ⟨L ++ [t.tok.letter], F ++ [0], ishl 1 L.length, ishl 1 L.length, false⟩ := by
  have ha := hok.ar
  cases t with
  | l0 t => simp only [Tr.tok] at h ⊢; unfold bpT; rw [if_neg (by omega), if_pos h]
  | l1 t x => simp only [Tr.tok, Tr.kids] at h ha; rw [arT_ok (by rw [ha]; simp), h] at ha; simp [arK] at ha
  | l2 t x y => simp only [Tr.tok, Tr.kids] at h ha; rw [arT_ok (by rw [ha]; simp), h] at ha; simp [arK] at ha
theorem bp4 (hok : Okd t) (h : t.tok.kind = 4) (h0 : t.kids[0]? = some ta) (h1 : t.kids[1]? = some tb) :
    bpT t L F = ⟨(bpT tb (bpT ta L F).L (bpT ta L F).F).L, lkL (bpT ta L F).l (bpT tb (bpT ta L F).L (bpT ta L F).F).f (bpT tb (bpT ta L F).L (bpT ta L F).F).F,
        if (bpT ta L F).n then ior (bpT ta L F).f (bpT tb (bpT ta L F).L (bpT ta L F).F).f else (bpT ta L F).f,
        if (bpT tb (bpT ta L F).L (bpT ta L F).F).n then ior (bpT ta L F).l (bpT tb (bpT ta L F).L (bpT ta L F).F).l else (bpT tb (bpT ta L F).L (bpT ta L F).F).l,
        (bpT ta L F).n && (bpT tb (bpT ta L F).L (bpT ta L F).F).n⟩ := by
  cases t with
  | l0 t => simp [Tr.kids] at h0
  | l1 t x => simp [Tr.kids] at h1
  | l2 t x y =>
    simp [Tr.kids] at h0 h1; subst h0 h1
    simp only [Tr.tok] at h
    rw [bpT, if_pos h]
theorem bp5 (hok : Okd t) (h : t.tok.kind = 5) (h0 : t.kids[0]? = some ta) (h1 : t.kids[1]? = some tb) :
    bpT t L F = ⟨(bpT tb (bpT ta L F).L (bpT ta L F).F).L, (bpT tb (bpT ta L F).L (bpT ta L F).F).F, ior (bpT ta L F).f (bpT tb (bpT ta L F).L (bpT ta L F).F).f, ior (bpT ta L F).l (bpT tb (bpT ta L F).L (bpT ta L F).F).l,
        (bpT ta L F).n || (bpT tb (bpT ta L F).L (bpT ta L F).F).n⟩ := by
  cases t with
  | l0 t => simp [Tr.kids] at h0
  | l1 t x => simp [Tr.kids] at h1
  | l2 t x y =>
    simp [Tr.kids] at h0 h1; subst h0 h1
    simp only [Tr.tok] at h
    rw [bpT, if_neg (by omega), if_pos h]
theorem bp6 (hok : Okd t) (h : t.tok.kind = 6) (h0 : t.kids[0]? = some ta) :
    bpT t L F = ⟨(bpT ta L F).L, lkL (bpT ta L F).l (bpT ta L F).f (bpT ta L F).F, (bpT ta L F).f, (bpT ta L F).l, true⟩ := by
  have ha := hok.ar
  cases t with
  | l0 t => simp [Tr.kids] at h0
  | l1 t x =>
    simp [Tr.kids] at h0; subst h0
    simp only [Tr.tok] at h
    rw [bpT, if_pos h]
  | l2 t x y => simp only [Tr.tok, Tr.kids] at h ha; rw [arT_ok (by rw [ha]; simp), h] at ha; simp [arK] at ha
theorem bp0 (h : t.tok.kind ≠ 2 ∧ t.tok.kind ≠ 3 ∧ t.tok.kind ≠ 4 ∧ t.tok.kind ≠ 5 ∧ t.tok.kind ≠ 6) : bpT t L F = ⟨L, F, 0, 0, false⟩ := by
  obtain ⟨h2, h3, h4, h5, h6⟩ := h
  cases t with
  | l0 t => simp only [Tr.tok] at *; rw [bpT, if_neg h2, if_neg h3]
  | l1 t x => simp only [Tr.tok] at *; rw [bpT, if_neg h6]
  | l2 t x y => simp only [Tr.tok] at *; rw [bpT, if_neg h4, if_neg h5]
end
def cntL (l : List Token) : Nat := l.countP fun t => decide (t.kind = 3)
theorem cntL_y {l : List Token} {k : Nat} {y : Token} (h : l[k]? = some y) (hk : y.kind = 3) : cntL (l.take (k + 1)) = cntL (l.take k) + 1 := by
  unfold cntL; rw [take_snoc h, List.countP_append]; simp [hk]
theorem cntL_n {l : List Token} {k : Nat} {y : Token} (h : l[k]? = some y) (hk : ¬ y.kind = 3) : cntL (l.take (k + 1)) = cntL (l.take k) := by
  unfold cntL; rw [take_snoc h, List.countP_append]; simp [hk]
theorem cntL_le (l : List Token) : cntL l ≤ l.length := List.countP_le_length
def bpE (e : List Token) : BPd × Bool :=
  if (expE e).2 = true ∧ cntL (expE e).1 ≤ 20 then
    match treeL (expE e).1 with
    | some t => (bpT t [] [], true)
    | none => (⟨[], [], 0, 0, false⟩, false)
  else (⟨[], [], 0, 0, false⟩, false)
theorem bpE_n {e : List Token} (h : ¬ ((expE e).2 = true ∧ cntL (expE e).1 ≤ 20)) : bpE e = (⟨[], [], 0, 0, false⟩, false) := by unfold bpE; rw [if_neg h]
theorem bpE_y {e : List Token} {t : Tr} (h : (expE e).2 = true) (h1 : cntL (expE e).1 ≤ 20) (ht : treeL (expE e).1 = some t) : bpE e = (bpT t [] [], true) := by unfold bpE; rw [if_pos ⟨h, h1⟩, ht]
theorem tim_ok {x : Tr} (hx : Okd x) : ∀ (low : Int) (h : Nat), Okd (timT x low h)
  | _, 0 => by show arT _ = 0; rfl
  | low, h + 1 => by
    have ih := tim_ok hx (if low - 1 > 0 then low - 1 else 0) h
    unfold timT
    split
    · exact ⟨rfl, hx, ih⟩
    · exact ⟨rfl, ⟨rfl, hx, ih⟩, rfl⟩
theorem exp_ok : ∀ {t : Tr}, Okd t → Okd (expT t)
  | .l0 _, h => h
  | .l1 t a, h => by
    have ih := exp_ok h.2
    unfold expT
    split
    · exact tim_ok ih _ _
    · exact ⟨h.1, ih⟩
  | .l2 t a b, h => ⟨h.1, exp_ok h.2.1, exp_ok h.2.2⟩
theorem expE_tree {e : List Token} (h : (expE e).2 = true) : ∃ t, treeL (expE e).1 = some t ∧ Okd t ∧ (expE e).1 = t.flat ∧ (expE e).1.length ≤ 400 := by
  have hl := expE_len e
  cases hi : ivE e with
  | false => rw [expE_n hi] at h; cases h
  | true =>
    obtain ⟨t, h1, h2, _, h4⟩ := ivE_y hi
    by_cases hb : bndT t ≤ 5000
    · by_cases hs : (expT t).sz ≤ 400
      · have e1 := expE_y h1 h4 hb hs
        rw [e1] at hl ⊢
        exact ⟨expT t, treeL_flat (exp_ok h2), exp_ok h2, rfl, hl⟩
      · rw [expE_n3 h1 hs] at h; cases h
    · rw [expE_n2 h1 hb] at h; cases h
theorem bpE_len (e : List Token) : (bpE e).1.L.length ≤ 400 ∧ (bpE e).1.F.length ≤ 400 := by
  by_cases h : (expE e).2 = true ∧ cntL (expE e).1 ≤ 20
  · obtain ⟨t, h1, h2, h3, h4⟩ := expE_tree h.1
    rw [bpE_y h.1 h.2 h1]
    have := bpT_len t [] []
    have h5 := t.flat_len
    rw [h3] at h4
    simp at this
    exact ⟨by simp only; omega, by simp only; omega⟩
  · rw [bpE_n h]; simp
end Go.KLib

namespace Go.KLib
/-! Squares of truth values: which places of a word a part stands between. -/
def grow (n : Nat) (f : Nat → Nat → Bool) (i : Nat) : List Bool := (List.range n).map (f i)
def grd (n : Nat) (f : Nat → Nat → Bool) : List (List Bool) := (List.range n).map (grow n f)
section
variable {n i j : Nat} {f g : Nat → Nat → Bool}
theorem grow_len : (grow n f i).length = n := by simp [grow]
theorem grd_len : (grd n f).length = n := by simp [grd]
theorem grow_get (h : j < n) : (grow n f i)[j]? = some (f i j) := by simp [grow, h]
theorem grd_get (h : i < n) : (grd n f)[i]? = some (grow n f i) := by simp [grd, h]
theorem grd_row {M : List (List Bool)} {ys : List Bool} (hM : M = grd n f) (h : M[i]? = some ys) : i < n ∧ ys = grow n f i := by
  subst hM
  by_cases hi : i < n
  · rw [grd_get hi] at h; cases h; exact ⟨hi, rfl⟩
  · rw [List.getElem?_eq_none (by rw [grd_len]; omega)] at h; cases h
theorem row_len {M : List (List Bool)} {ys : List Bool} (hM : M = grd n f) (h : M[i]? = some ys) : ys.length = n := by rw [(grd_row hM h).2, grow_len]
theorem grd_y {M : List (List Bool)} {ys : List Bool} {y : Bool} (hM : M = grd n f) (h : M[i]? = some ys) (hy : ys[j]? = some y) : y = f i j := by
  obtain ⟨h1, rfl⟩ := grd_row hM h
  by_cases hj : j < n
  · rw [grow_get hj] at hy; cases hy; rfl
  · rw [List.getElem?_eq_none (by rw [grow_len]; omega)] at hy; cases hy
theorem grow_eq (h : ∀ q, q < n → f i q = g i q) : grow n f i = grow n g i := by
  unfold grow
  exact List.map_congr_left fun q hq => h q (List.mem_range.1 hq)
theorem grd_eq (h : ∀ p q, p < n → q < n → f p q = g p q) : grd n f = grd n g := by
  unfold grd
  exact List.map_congr_left fun p hp => grow_eq fun q hq => h p q (List.mem_range.1 hp) hq
theorem grd_set {v : Bool} {M : List (List Bool)} {ys : List Bool} (hM : M = grd n f) (hy : M[i]? = some ys) (hv : g i j = v) (ho : ∀ p q, p < n → q < n → ¬(p = i ∧ q = j) → g p q = f p q) :
    M.set i (ys.set j v) = grd n g := by
  obtain ⟨hi, rfl⟩ := grd_row hM hy
  subst hM
  apply List.ext_getElem?
  intro p
  by_cases hp : p < n
  · rw [grd_get hp]
    rw [List.getElem?_set]
    by_cases e : i = p
    · subst e
      rw [if_pos rfl, if_pos (by rw [grd_len]; exact hi)]
      congr 1
      apply List.ext_getElem?
      intro q
      by_cases hq : q < n
      · rw [grow_get hq, List.getElem?_set]
        by_cases e2 : j = q
        · subst e2; rw [if_pos rfl, if_pos (by rw [grow_len]; exact hq), hv]
        · rw [if_neg e2, grow_get hq, ho i q hp hq (fun h => e2 h.2.symm)]
      · rw [List.getElem?_eq_none (by rw [List.length_set, grow_len]; omega), List.getElem?_eq_none (by rw [grow_len]; omega)]
    · rw [if_neg e, grd_get hp]
      congr 1
      exact (grow_eq fun q hq => ho p q hp hq (fun h => e h.1.symm)).symm
  · rw [List.getElem?_eq_none (by rw [List.length_set, grd_len]; omega), List.getElem?_eq_none (by rw [grd_len]; omega)]
/-- the square that only keeps or drops everything in its place -/
def idM (s : Bool) : Nat → Nat → Bool := fun i j => s && decide (i = j)
theorem row_id {s : Bool} : (List.replicate n false).set i s = grow n (idM s) i := by
  apply List.ext_getElem?
  intro q
  rw [List.getElem?_set]
  by_cases e : i = q
  · subst e
    by_cases hi : i < n
    · rw [if_pos rfl, if_pos (by simpa using hi), grow_get hi]; simp [idM]
    · rw [if_pos rfl, if_neg (by simpa using hi), List.getElem?_eq_none (by rw [grow_len]; omega)]
  · rw [if_neg e]
    by_cases hq : q < n
    · rw [grow_get hq]; simp [idM, e, hq]
    · rw [List.getElem?_eq_none (by simp; omega), List.getElem?_eq_none (by rw [grow_len]; omega)]
def oeM (A B : Nat → Nat → Bool) : Nat → Nat → Bool := fun i j => A i j || B i j
def mulM (n : Nat) (A B : Nat → Nat → Bool) : Nat → Nat → Bool := fun i j => (List.range n).any fun k => A i k && B k j
def Tri (A : Nat → Nat → Bool) : Prop := ∀ i j, j < i → A i j = false
theorem Tri.id (s : Bool) : Tri (idM s) := fun i j h => by simp [idM]; intro _; omega
theorem Tri.or {A B : Nat → Nat → Bool} (a : Tri A) (b : Tri B) : Tri (oeM A B) := fun i j h => by simp [oeM, a i j h, b i j h]
theorem Tri.mul {A B : Nat → Nat → Bool} (a : Tri A) (b : Tri B) : Tri (mulM n A B) := fun i j h => by
  unfold mulM
  rw [List.any_eq_false]
  intro k _
  by_cases hk : k < i
  · rw [a i k hk]; simp
  · rw [b k j (by omega)]; simp
/-- what is filled in, row by row, up to a place -/
def upt (R : Nat → Nat → Bool) (i j : Nat) : Nat → Nat → Bool := fun p q => (decide (p < i) || (decide (p = i) && decide (q < j))) && R p q
theorem upt_zero {R : Nat → Nat → Bool} : grd n (idM false) = grd n (upt R 0 0) := grd_eq fun p q _ _ => by simp [idM, upt]
theorem upt_step {R : Nat → Nat → Bool} {v : Bool} {M : List (List Bool)} {ys : List Bool} (hM : M = grd n (upt R i j)) (hy : M[i]? = some ys) (hv : R i j = v) :
    M.set i (ys.set j v) = grd n (upt R i (j + 1)) := grd_set hM hy (by simp [upt, hv]) fun p q _ _ hn => by
  unfold upt
  by_cases h1 : p = i
  · subst h1
    have h2 : q ≠ j := fun h => hn ⟨rfl, h⟩
    have h3 : (q < j + 1) = (q < j) := by simp; omega
    simp [h3]
  · simp [h1]
theorem upt_row {R : Nat → Nat → Bool} {k : Nat} (hk : n ≤ k) : grd n (upt R i k) = grd n (upt R (i + 1) 0) := grd_eq fun p q _ hq => by
  unfold upt
  have h3 : (p < i + 1) = (p < i ∨ p = i) := by simp; omega
  have h4 : q < k := by omega
  simp [h3, h4]
theorem upt_all {R : Nat → Nat → Bool} {k : Nat} (hk : n ≤ k) : grd n (upt R k 0) = grd n R := grd_eq fun p q hp _ => by
  have h4 : p < k := by omega
  simp [upt, h4]
theorem upt_tri {R : Nat → Nat → Bool} (h : Tri R) : grd n (upt R i 0) = grd n (upt R i i) := grd_eq fun p q _ _ => by
  unfold upt
  by_cases h1 : p = i
  · subst h1
    by_cases h2 : q < p
    · simp [h2, h p q h2]
    · simp [h2]
  · simp [h1]
end
section
variable {n i j k : Nat} {A B : Nat → Nat → Bool}
/-- the product, filled in up to a place -/
def mupt (n : Nat) (A B : Nat → Nat → Bool) (i k j : Nat) : Nat → Nat → Bool := fun p q =>
  (decide (p < i) && mulM n A B p q) || (decide (p = i) && (((List.range k).any fun m => A i m && B m q) || (decide (q < j) && (A i k && B k q))))
theorem mupt_zero : grd n (idM false) = grd n (mupt n A B 0 0 0) := grd_eq fun p q _ _ => by simp [idM, mupt]
theorem mupt_step {v : Bool} {M : List (List Bool)} {ys : List Bool} (hM : M = grd n (mupt n A B i k j)) (hy : M[i]? = some ys) (hA : A i k = true) (hv : v = (mupt n A B i k j i j || B k j)) :
    M.set i (ys.set j v) = grd n (mupt n A B i k (j + 1)) := grd_set hM hy (by rw [hv]; simp [mupt, hA]) fun p q _ _ hn => by
  unfold mupt
  by_cases h1 : p = i
  · subst h1
    have h2 : q ≠ j := fun h => hn ⟨rfl, h⟩
    have h3 : (q < j + 1) = (q < j) := by simp; omega
    simp [h3]
  · simp [h1]
theorem mupt_row (h : n ≤ j ∨ A i k = false) : grd n (mupt n A B i k j) = grd n (mupt n A B i (k + 1) 0) := grd_eq fun p q _ hq => by
  unfold mupt
  rw [List.range_succ, List.any_append]
  by_cases h1 : p = i
  · subst h1
    rcases h with h | h
    · have h3 : q < j := by omega
      simp [h3]
    · simp [h]
  · simp [h1]
theorem mupt_next (h : k = n) : grd n (mupt n A B i k 0) = grd n (mupt n A B (i + 1) 0 0) := grd_eq fun p q _ _ => by
  unfold mupt
  have h3 : (p < i + 1) = (p < i ∨ p = i) := by simp; omega
  by_cases h1 : p = i
  · subst h1
    subst h
    simp [mulM]
  · have h2 : ¬ p = i := h1
    simp [h3, h2]
theorem mupt_all (h : n ≤ i) : grd n (mupt n A B i 0 0) = grd n (mulM n A B) := grd_eq fun p q hp _ => by
  have h3 : p < i := by omega
  have h4 : ¬ p = i := by omega
  simp [mupt, h3, h4]
theorem mupt_triA (h : Tri A) : grd n (mupt n A B i 0 0) = grd n (mupt n A B i i 0) := grd_eq fun p q _ _ => by
  have h4 : ((List.range i).any fun m => A i m && B m q) = false := by
    rw [List.any_eq_false]; intro m hm; rw [h i m (List.mem_range.1 hm)]; simp
  simp [mupt, h4]
theorem mupt_triB (h : Tri B) : grd n (mupt n A B i k 0) = grd n (mupt n A B i k k) := grd_eq fun p q _ _ => by
  by_cases h1 : q < k
  · simp [mupt, h k q h1]
  · simp [mupt, h1]
end
section
variable {n k : Nat} {A : Nat → Nat → Bool} {low : Int}
def powM (n : Nat) (A : Nat → Nat → Bool) : Nat → Nat → Nat → Bool
  | 0 => idM true
  | k + 1 => mulM n (powM n A k) A
def repM (n : Nat) (A : Nat → Nat → Bool) (low : Int) (k : Nat) : Nat → Nat → Bool := fun i j => (List.range k).any fun m => decide (low ≤ (m : Int)) && powM n A m i j
theorem pow_tri (h : Tri A) : ∀ k, Tri (powM n A k)
  | 0 => Tri.id true
  | k + 1 => (pow_tri h k).mul h
theorem rep_tri (h : Tri A) : Tri (repM n A low k) := fun i j hij => by
  unfold repM
  rw [List.any_eq_false]
  intro m _
  rw [pow_tri h m i j hij]; simp
theorem rep_zero : grd n (idM false) = grd n (repM n A low 0) := grd_eq fun p q _ _ => by simp [idM, repM]
theorem pw_succ : grd n (mulM n (powM n A k) A) = grd n (powM n A (k + 1)) := by rw [powM]
theorem rep_y (h : low ≤ (k : Int)) : grd n (oeM (repM n A low k) (powM n A k)) = grd n (repM n A low (k + 1)) := grd_eq fun p q _ _ => by
  unfold repM oeM
  rw [List.range_succ, List.any_append]
  simp [h]
theorem rep_n (h : ¬ low ≤ (k : Int)) : grd n (repM n A low k) = grd n (repM n A low (k + 1)) := grd_eq fun p q _ _ => by
  unfold repM
  rw [List.range_succ, List.any_append]
  simp [h]
end
theorem ne_blk {o : Value} {g i : Nat} (h : i ∉ bl o) (hg : bl o = [g]) : i < g ∨ g + 1 ≤ i := by
  rw [hg] at h
  have : i ≠ g := fun e => h (List.mem_singleton.2 e)
  omega
theorem Ol.lsE {α : Type} {cs : α → List Value} {e k : Nat} {w : World} {v : Value} {xs : List α} (h : Ol cs e k w v xs) (hn : 0 < xs.length) : ∃ g, bl v = [g] ∧ Ls cs k w g (g + 1) v xs := by
  have hc := fun g off cap => Ow.cells (g := g) (off := off) (cap := cap) h
  rcases h.2 with ⟨rfl, h0⟩ | ⟨g, off, cap, cur, rfl, hg, h1, h2, h3, _⟩
  · omega
  · exact ⟨g, by simp [bl, Value.ownBlock], h.1, _, cap, rfl, h1, h2, fun _ => ⟨_, rfl, ⟨Nat.le_refl _, Nat.lt_succ_self _⟩, fun j u hu => by rw [add_lit]; exact hc g off cap rfl j u hu⟩⟩
theorem Od.eq {α : Type} {cs : α → List Value} {e k : Nat} {w : World} {lo hi : Nat} {vs : List Sv} {xs ys : List (List α)} (h : Od cs e k w lo hi vs xs) (he : xs = ys) : Od cs e k w lo hi vs ys := he ▸ h
end Go.KLib

namespace Go.KLib
/-! Between which places of a word the words of an expression stand. -/
section
variable {n i j k m : Nat} {A : Nat → Nat → Bool} {w : List Int} {c : Int}
def ltM (c : Int) (w : List Int) : Nat → Nat → Bool := fun i j => decide (j = i + 1) && decide (w[i]? = some c)
theorem Tri.ltr : Tri (ltM c w) := fun i j h => by simp [ltM]; intro h2; omega
def lupt (c : Int) (w : List Int) (m : Nat) : Nat → Nat → Bool := fun p q => decide (p < m) && ltM c w p q
theorem lupt_zero : grd n (idM false) = grd n (lupt c w 0) := grd_eq fun p q _ _ => by simp [idM, lupt]
theorem lupt_step {v : Bool} {y : Int} {M : List (List Bool)} {ys : List Bool} (hM : M = grd n (lupt c w i)) (hy : M[i]? = some ys) (hw : w[i]? = some y) (hv : v = decide (y = c)) :
    M.set i (ys.set (i + 1) v) = grd n (lupt c w (i + 1)) := grd_set hM hy (by rw [hv]; simp [lupt, ltM, hw]) fun p q _ _ hn => by
  unfold lupt ltM
  by_cases h1 : p = i
  · subst h1
    have h2 : ¬ q = p + 1 := fun h => hn ⟨rfl, h⟩
    simp [h2]
  · have h3 : (p < i + 1) = (p < i) := by simp; omega
    simp [h3]
theorem lupt_all (hn : n = w.length + 1) (h : m = w.length) : grd n (lupt c w m) = grd n (ltM c w) := grd_eq fun p q hp _ => by
  unfold lupt ltM
  by_cases h1 : p < m
  · simp [h1]
  · have : w[p]? = none := List.getElem?_eq_none (by omega)
    simp [this]
/-- round by round: one part more -/
def srM (n : Nat) (A : Nat → Nat → Bool) : Nat → Nat → Nat → Bool
  | 0 => idM true
  | m + 1 => oeM (srM n A m) (mulM n (srM n A m) A)
theorem st_succ : grd n (oeM (srM n A m) (mulM n (srM n A m) A)) = grd n (srM n A (m + 1)) := by rw [srM]
theorem st_tri (h : Tri A) : ∀ m, Tri (srM n A m)
  | 0 => Tri.id true
  | m + 1 => (st_tri h m).or ((st_tri h m).mul h)
theorem mul_iff {A B : Nat → Nat → Bool} : mulM n A B i j = true ↔ ∃ k, k < n ∧ A i k = true ∧ B k j = true := by
  unfold mulM
  rw [List.any_eq_true]
  exact ⟨fun ⟨k, hk, h⟩ => ⟨k, List.mem_range.1 hk, by simpa using h⟩, fun ⟨k, hk, h⟩ => ⟨k, List.mem_range.2 hk, by simpa using h⟩⟩
theorem st_iff : ∀ (m : Nat) (i j : Nat), srM n A m i j = true ↔ ∃ k, k ≤ m ∧ powM n A k i j = true
  | 0, i, j => ⟨fun h => ⟨0, Nat.le_refl _, h⟩, fun ⟨k, hk, h⟩ => by
      have e : k = 0 := by omega
      subst e
      exact h⟩
  | m + 1, i, j => by
    have ih := fun i j => st_iff m i j
    rw [srM]
    show (srM n A m i j || mulM n (srM n A m) A i j) = true ↔ _
    rw [Bool.or_eq_true, ih, mul_iff]
    constructor
    · rintro (⟨k, hk, h⟩ | ⟨x, hx, h1, h2⟩)
      · exact ⟨k, by omega, h⟩
      · obtain ⟨k, hk, h⟩ := (ih i x).1 h1
        exact ⟨k + 1, by omega, by rw [powM]; exact mul_iff.2 ⟨x, hx, h, h2⟩⟩
    · rintro ⟨k, hk, h⟩
      cases k with
      | zero => exact .inl ⟨0, by omega, h⟩
      | succ k =>
        rw [powM] at h
        obtain ⟨x, hx, h1, h2⟩ := mul_iff.1 h
        exact .inr ⟨x, hx, (ih i x).2 ⟨k, by omega, h1⟩, h2⟩
/-- more parts than places: one of them is empty -/
theorem pow_less (hA : Tri A) : ∀ (k i j : Nat), powM n A (k + 1) i j = true → j < i + (k + 1) → powM n A k i j = true
  | 0, i, j, h, hj => by
    rw [powM] at h
    obtain ⟨x, hx, h1, h2⟩ := mul_iff.1 h
    have e1 : i = x := by simpa [powM, idM] using h1
    subst e1
    have h3 : ¬ j < i := fun hh => by rw [hA i j hh] at h2; cases h2
    have e2 : i = j := by omega
    simp [powM, idM, e2]
  | k + 1, i, j, h, hj => by
    rw [powM] at h
    obtain ⟨x, hx, h1, h2⟩ := mul_iff.1 h
    have h3 : ¬ j < x := fun hh => by rw [hA x j hh] at h2; cases h2
    by_cases e : x = j
    · exact e ▸ h1
    · rw [powM]
      exact mul_iff.2 ⟨x, hx, pow_less hA k i x h1 (by omega), h2⟩
theorem rep0_iff : repM n A 0 k i j = true ↔ ∃ m, m < k ∧ powM n A m i j = true := by
  unfold repM
  rw [List.any_eq_true]
  exact ⟨fun ⟨m, hm, h⟩ => ⟨m, List.mem_range.1 hm, by simpa using h⟩, fun ⟨m, hm, h⟩ => ⟨m, List.mem_range.2 hm, by simpa using h⟩⟩
theorem st_rep (hA : Tri A) (hm : m = n) : grd n (srM n A m) = grd n (repM n A 0 n) := grd_eq fun p q hp hq => by
  subst hm
  rw [Bool.eq_iff_iff, st_iff, rep0_iff]
  constructor
  · rintro ⟨k, hk, h⟩
    by_cases e : k = m
    · subst e
      cases k with
      | zero => omega
      | succ k => exact ⟨k, by omega, pow_less hA k p q h (by omega)⟩
    · exact ⟨k, by omega, h⟩
  · rintro ⟨k, hk, h⟩
    exact ⟨k, by omega, h⟩
end
/-- between which places of a word an expression's words stand -/
def mtT (w : List Int) : Tr → Nat → Nat → Bool
  | .l0 t => if t.kind = 2 then idM true else if t.kind = 3 then ltM t.letter w else idM false
  | .l1 t x => if t.kind = 6 then repM (w.length + 1) (mtT w x) 0 (w.length + 1) else if t.kind = 7 then repM (w.length + 1) (mtT w x) t.low (t.high + 1).toNat else idM false
  | .l2 t x y => if t.kind = 4 then mulM (w.length + 1) (mtT w x) (mtT w y) else if t.kind = 5 then oeM (mtT w x) (mtT w y) else idM false
theorem mt_tri (w : List Int) : ∀ t, Tri (mtT w t)
  | .l0 t => by unfold mtT; split; exact Tri.id _; split; exact Tri.ltr; exact Tri.id _
  | .l1 t x => by
    have h := mt_tri w x
    unfold mtT; split; exact rep_tri h; split; exact rep_tri h; exact Tri.id _
  | .l2 t x y => by
    have h := mt_tri w x
    have k := mt_tri w y
    unfold mtT; split; exact h.mul k; split; exact h.or k; exact Tri.id _
section
variable {t ta tb : Tr} {w : List Int}
theorem mt2 (hok : Okd t) (h : t.tok.kind = 2) : mtT w t = idM true := by
  have ha := hok.ar
  cases t with
  | l0 t => simp only [Tr.tok] at h; unfold mtT; rw [if_pos h]
  | l1 t x => simp only [Tr.tok, Tr.kids] at h ha; rw [arT_ok (by rw [ha]; simp), h] at ha; simp [arK] at ha
  | l2 t x y => simp only [Tr.tok, Tr.kids] at h ha; rw [arT_ok (by rw [ha]; simp), h] at ha; simp [arK] at ha
theorem mt3 (hok : Okd t) (h : t.tok.kind = 3) : mtT w t = ltM t.tok.letter w := by
  have ha := hok.ar
  cases t with
  | l0 t => simp only [Tr.tok] at h ⊢; unfold mtT; rw [if_neg (by omega), if_pos h]
  | l1 t x => simp only [Tr.tok, Tr.kids] at h ha; rw [arT_ok (by rw [ha]; simp), h] at ha; simp [arK] at ha
  | l2 t x y => simp only [Tr.tok, Tr.kids] at h ha; rw [arT_ok (by rw [ha]; simp), h] at ha; simp [arK] at ha
theorem mt4 (h : t.tok.kind = 4) (h0 : t.kids[0]? = some ta) (h1 : t.kids[1]? = some tb) : mtT w t = mulM (w.length + 1) (mtT w ta) (mtT w tb) := by
  cases t with
  | l0 t => simp [Tr.kids] at h0
  | l1 t x => simp [Tr.kids] at h1
  | l2 t x y =>
    simp [Tr.kids] at h0 h1; subst h0 h1
    simp only [Tr.tok] at h
    rw [mtT, if_pos h]
theorem mt5 (h : t.tok.kind = 5) (h0 : t.kids[0]? = some ta) (h1 : t.kids[1]? = some tb) : mtT w t = oeM (mtT w ta) (mtT w tb) := by
  cases t with
  | l0 t => simp [Tr.kids] at h0
  | l1 t x => simp [Tr.kids] at h1
  | l2 t x y =>
    simp [Tr.kids] at h0 h1; subst h0 h1
    simp only [Tr.tok] at h
    rw [mtT, if_neg (by omega), if_pos h]
theorem mt6 (hok : Okd t) (h : t.tok.kind = 6) (h0 : t.kids[0]? = some ta) : mtT w t = repM (w.length + 1) (mtT w ta) 0 (w.length + 1) := by
  have ha := hok.ar
  cases t with
  | l0 t => simp [Tr.kids] at h0
  | l1 t x =>
    simp [Tr.kids] at h0; subst h0
    simp only [Tr.tok] at h
    rw [mtT, if_pos h]
  | l2 t x y => simp only [Tr.tok, Tr.kids] at h ha; rw [arT_ok (by rw [ha]; simp), h] at ha; simp [arK] at ha
theorem mt7 (hok : Okd t) (h : t.tok.kind = 7) (h0 : t.kids[0]? = some ta) : mtT w t = repM (w.length + 1) (mtT w ta) t.tok.low (t.tok.high + 1).toNat := by
  have ha := hok.ar
  cases t with
  | l0 t => simp [Tr.kids] at h0
  | l1 t x =>
    simp [Tr.kids] at h0; subst h0
    simp only [Tr.tok] at h ⊢
    rw [mtT, if_neg (by omega), if_pos h]
  | l2 t x y => simp only [Tr.tok, Tr.kids] at h ha; rw [arT_ok (by rw [ha]; simp), h] at ha; simp [arK] at ha
theorem mt0 (h : t.tok.kind ≠ 2 ∧ t.tok.kind ≠ 3 ∧ t.tok.kind ≠ 4 ∧ t.tok.kind ≠ 5 ∧ t.tok.kind ≠ 6 ∧ t.tok.kind ≠ 7) : mtT w t = idM false := by
  obtain ⟨h2, h3, h4, h5, h6, h7⟩ := h
  cases t with
  | l0 t => simp only [Tr.tok] at *; rw [mtT, if_neg h2, if_neg h3]
  | l1 t x => simp only [Tr.tok] at *; rw [mtT, if_neg h6, if_neg h7]
  | l2 t x y => simp only [Tr.tok] at *; rw [mtT, if_neg h4, if_neg h5]
end
end Go.KLib

namespace Go.KLib
/-! The reference's stack of squares. -/
theorem Ol.lsR {α : Type} {cs : α → List Value} {e k lo hi : Nat} {w : World} {v : Value} {xs : List α} (h : Ol cs e k w v xs) (hl : Lo lo v) (hh : ∀ g ∈ bl v, g < hi) : Ls cs k w lo hi v xs := by
  have hc := fun g off cap => Ow.cells (g := g) (off := off) (cap := cap) h
  rcases h.2 with ⟨rfl, h0⟩ | ⟨g, off, cap, cur, rfl, hg, h1, h2, h3, _⟩
  · exact ⟨h.1, none, 0, by rw [h0], by omega, Nat.zero_le _, fun h => absurd h (by omega)⟩
  · have hb : g ∈ bl (.slice (some ⟨g, off, none⟩) xs.length cap) := by simp [bl, Value.ownBlock]
    exact ⟨h.1, _, cap, rfl, h1, h2, fun _ => ⟨_, rfl, ⟨hl g hb, hh g hb⟩, fun j u hu => by rw [add_lit]; exact hc g off cap rfl j u hu⟩⟩
theorem Od.rdR {α : Type} {cs : α → List Value} {e k lo hi : Nat} {w : World} {vs : List Sv} {xs : List (List α)} (h : Od cs e k w lo hi vs xs) : Rd cs k w lo hi vs xs := by
  refine ⟨h.1, fun i v x hv hx => ?_⟩
  obtain ⟨x', hx', ho, hr⟩ := h.ownget hv
  rw [hx] at hx'; cases hx'
  exact ho.lsR (fun g hg => (hr g hg).1) (fun g hg => (hr g hg).2)
/-- vs are squares, and they tell where the words of the trees of st stand; no block of b is theirs -/
def RT (w : World) (H : Nat) (b : List Nat) (wd : List Int) (vs : List Sv) (st : List Tr) : Prop :=
  vs.length = st.length ∧ ∀ (i : Nat) (v : Sv) (t : Tr), vs[i]? = some v → st.reverse[i]? = some t →
    ∃ us lo hi, Ls Sv.cs 1 w lo hi v.v us ∧ Rd bcs 1 w lo hi us (grd (wd.length + 1) (mtT wd t)) ∧ hi ≤ H ∧ ∀ g ∈ b, g < lo ∨ hi ≤ g
section
variable {w w' : World} {H H' : Nat} {b b' ws : List Nat} {wd : List Int} {vs : List Sv} {st : List Tr}
theorem RT.nil : RT w H b wd [] [] := ⟨rfl, fun _ _ _ h => by simp at h⟩
theorem RT.ch (h : RT w H b wd vs st) (c : Ch ws w w') (hw : ∀ i ∈ ws, H ≤ i ∨ i ∈ b) : RT w' H b wd vs st := ⟨h.1, fun i v t hv ht => by
  obtain ⟨us, lo, hi, h1, h2, h3, h4⟩ := h.2 i v t hv ht
  have hd : ∀ i ∈ ws, i < lo ∨ hi ≤ i := fun i hi' => by
    rcases hw i hi' with q | q
    · right; omega
    · exact h4 i q
  exact ⟨us, lo, hi, h1.ch c hd, h2.ch c hd, h3, h4⟩⟩
theorem RT.ch0 (h : RT w H b wd vs st) (c : Ch [] w w') : RT w' H b wd vs st := h.ch c (by simp)
theorem RT.get (h : RT w H b wd vs st) {i : Nat} {y : Sv} (hy : vs[i]? = some y) : ∃ t us lo hi, st.reverse[i]? = some t ∧ Ls Sv.cs 1 w lo hi y.v us ∧ Rd bcs 1 w lo hi us (grd (wd.length + 1) (mtT wd t)) ∧ hi ≤ H := by
  have hi : i < st.reverse.length := by
    have := (List.getElem?_eq_some_iff.1 hy).1
    rw [List.length_reverse]; have := h.1; omega
  obtain ⟨us, lo, hi', h1, h2, h3, _⟩ := h.2 i y _ hy (List.getElem?_eq_getElem hi)
  exact ⟨_, us, lo, hi', List.getElem?_eq_getElem hi, h1, h2, h3⟩
theorem RT.take (h : RT w H b wd vs st) {k : Nat} (hk : k ≤ st.length) : RT w H b wd (vs.take (vs.length - k)) (st.drop k) := by
  refine ⟨by rw [List.length_take, List.length_drop, h.1]; omega, fun i v t hv ht => ?_⟩
  have h9 := h.1
  rw [List.getElem?_take] at hv
  split at hv
  · rename_i hi
    refine h.2 i v t hv ?_
    have e : st.reverse = (st.drop k).reverse ++ (st.take k).reverse := by rw [← List.reverse_append, List.take_append_drop]
    rw [e, List.getElem?_append_left (by rw [List.length_reverse, List.length_drop]; omega)]
    exact ht
  · cases hv
theorem RT.add (h : RT w H b wd vs st) {v : Sv} {t : Tr} {us : List Sv} {lo hi : Nat} (h1 : Ls Sv.cs 1 w lo hi v.v us) (h2 : Rd bcs 1 w lo hi us (grd (wd.length + 1) (mtT wd t))) (h3 : hi ≤ H') (hH : H ≤ H')
    (hb : ∀ g ∈ b', g < lo ∨ hi ≤ g) (ho : ∀ g ∈ b', g ∈ b ∨ H ≤ g) : RT w H' b' wd (vs ++ [v]) (t :: st) := by
  refine ⟨by simp [h.1], fun i x u hx hu => ?_⟩
  have h9 := h.1
  rw [List.reverse_cons] at hu
  by_cases hi' : i < vs.length
  · rw [List.getElem?_append_left hi'] at hx
    rw [List.getElem?_append_left (by rw [List.length_reverse]; omega)] at hu
    obtain ⟨us, l, r, a1, a2, a3, a4⟩ := h.2 i x u hx hu
    refine ⟨us, l, r, a1, a2, by omega, fun g hg => ?_⟩
    rcases ho g hg with q | q
    · exact a4 g q
    · right; omega
  · have e : i = vs.length := by
      have := (List.getElem?_eq_some_iff.1 hx).1
      simp at this; omega
    subst e
    rw [List.getElem?_append_right (Nat.le_refl _), Nat.sub_self] at hx
    rw [List.getElem?_append_right (by rw [List.length_reverse]; omega), List.length_reverse, h9, Nat.sub_self] at hu
    simp at hx hu; subst hx hu
    exact ⟨us, lo, hi, h1, h2, h3, hb⟩
theorem RT.eq {vs' : List Sv} (h : RT w H b wd vs st) (e : vs = vs') : RT w H b wd vs' st := e ▸ h
end
section
variable {st s2 : List Tr} {y : Token} {l : List Token} {i : Nat} {t : Tr}
theorem prs_go (hl : treeL l = some t) (hp : prs [] (l.take i) = some st) (hy : l[i]? = some y) : ∃ s2, push st y = some s2 ∧ prs [] (l.take (i + 1)) = some s2 := by
  have h := prs_snoc hp hy
  cases hq : push st y with
  | some s2 => exact ⟨s2, rfl, by rw [h, hq]⟩
  | none =>
    rw [hq] at h
    have := prs_stop h
    unfold treeL at hl; rw [this] at hl; cases hl
theorem prs_fin (hl : treeL l = some t) (hp : prs [] (l.take i) = some st) (hi : l.length ≤ i) : st = [t] := by
  have h := prs_end hp hi
  unfold treeL at hl
  rw [h] at hl
  match st, hl with
  | [u], hl => cases hl; rfl
theorem push_ar (h : push st y = some s2) : arT y = arK y.kind ∧ 0 ≤ arT y := by
  have h0 : 0 ≤ arT y := by
    unfold push at h
    split at h
    · omega
    · split at h
      · omega
      · split at h
        · omega
        · cases h
  exact ⟨arT_ok h0, h0⟩
theorem push_k0 (h : push st y = some s2) (hk : arK y.kind = 0) : s2 = .l0 y :: st := by
  have e := (push_ar h).1
  unfold push at h
  rw [if_pos (by omega)] at h
  cases h; rfl
theorem push_k1 (h : push st y = some s2) (hk : arK y.kind = 1) : ∃ a r, st = a :: r ∧ s2 = .l1 y a :: r := by
  have e := (push_ar h).1
  unfold push at h
  rw [if_neg (by omega), if_pos (by omega)] at h
  match st, h with
  | a :: r, h => cases h; exact ⟨a, r, rfl, rfl⟩
theorem push_k2 (h : push st y = some s2) (hk : arK y.kind = 2) : ∃ a b r, st = b :: a :: r ∧ s2 = .l2 y a b :: r := by
  have e := (push_ar h).1
  unfold push at h
  rw [if_neg (by omega), if_neg (by omega), if_pos (by omega)] at h
  match st, h with
  | b :: a :: r, h => cases h; exact ⟨a, b, r, rfl, rfl⟩
theorem push_hi (h : push st y = some s2) (hk : y.kind = 7) : y.high ≤ 3 := by
  have e := (push_ar h).2
  unfold arT at e
  rw [if_neg (by omega), if_neg (by omega), if_neg (by omega), if_neg (by omega), if_pos hk] at e
  split at e
  · omega
  · omega
theorem top1 {a : Tr} {r : List Tr} {j : Nat} {u : Tr} (hj : j = r.length) (h : (a :: r).reverse[j]? = some u) : u = a := by
  subst hj
  rw [List.reverse_cons, List.getElem?_append_right (by simp), List.length_reverse, Nat.sub_self] at h
  simpa using h.symm
theorem top2 {a c : Tr} {r : List Tr} {j : Nat} {u : Tr} (hj : j = r.length) (h : (c :: a :: r).reverse[j]? = some u) : u = a := by
  subst hj
  rw [List.reverse_cons, List.getElem?_append_left (by simp)] at h
  exact top1 rfl h
end
section
variable {w : List Int} {y : Token} {a b : Tr}
theorem ml2 (h : y.kind = 2) : mtT w (.l0 y) = idM true := by rw [mtT, if_pos h]
theorem ml3 (h : y.kind = 3) : mtT w (.l0 y) = ltM y.letter w := by rw [mtT, if_neg (by omega), if_pos h]
theorem ml0 (h : y.kind ≠ 2 ∧ y.kind ≠ 3) : mtT w (.l0 y) = idM false := by rw [mtT, if_neg h.1, if_neg h.2]
theorem ml4 (h : y.kind = 4) : mtT w (.l2 y a b) = mulM (w.length + 1) (mtT w a) (mtT w b) := by rw [mtT, if_pos h]
theorem ml5 (h : y.kind = 5) : mtT w (.l2 y a b) = oeM (mtT w a) (mtT w b) := by rw [mtT, if_neg (by omega), if_pos h]
theorem ml6 (h : y.kind = 6) : mtT w (.l1 y a) = repM (w.length + 1) (mtT w a) 0 (w.length + 1) := by rw [mtT, if_pos h]
theorem ml7 (h : y.kind = 7) : mtT w (.l1 y a) = repM (w.length + 1) (mtT w a) y.low (y.high + 1).toNat := by rw [mtT, if_neg (by omega), if_pos h]
end
theorem fin_mt {w : List Int} {t u : Tr} {ys : List Bool} {x : Bool} (hu : [t].reverse[0]? = some u) (h : (grd (w.length + 1) (mtT w u))[0]? = some ys) (hx : ys[w.length]? = some x) : x = mtT w t 0 w.length := by
  have e : u = t := top1 rfl hu
  subst e
  exact grd_y rfl h hx
theorem set_last {vs : List Sv} {v : Sv} {j : Nat} (hj : j + 1 = vs.length) : vs.take (vs.length - 1) ++ [v] = vs.set j v := by
  apply List.ext_getElem?
  intro i
  rw [List.getElem?_set]
  by_cases e : j = i
  · subst e
    rw [if_pos rfl, if_pos (by omega), List.getElem?_append_right (by rw [List.length_take]; omega), List.length_take]
    rw [show j - min (vs.length - 1) vs.length = 0 by omega]; rfl
  · rw [if_neg e]
    by_cases hi : i < j
    · rw [List.getElem?_append_left (by rw [List.length_take]; omega), List.getElem?_take, if_pos (by omega)]
    · rw [List.getElem?_eq_none (by rw [List.length_append, List.length_take, List.length_singleton]; omega), List.getElem?_eq_none (by omega)]
/-- whether an expression takes a word -/
noncomputable def mwE (e : List Token) (w : List Int) : Bool := ivE e && tt (IsWd w) && (match treeL e with | some t => mtT w t 0 w.length | none => false)
section
variable {e : List Token} {w : List Int} {t : Tr}
theorem mwE_n1 (h : ivE e = false) : mwE e w = false := by unfold mwE; rw [h]; rfl
theorem mwE_n2 (h : ¬ IsWd w) : mwE e w = false := by unfold mwE; rw [← tt_false h]; simp
theorem mwE_y (h : ivE e = true) (hw : IsWd w) (ht : treeL e = some t) : mwE e w = mtT w t 0 w.length := by unfold mwE; rw [h, ← tt_true hw, ht]; rfl
end
end Go.KLib

namespace Go.KLib
/-! All words up to a length. -/
def extW (L : List Int) (w : List Int) : List (List Int) := L.map fun c => w ++ [c]
/-- the words of a length over some letters, in order -/
def wdL (L : List Int) : Nat → List (List Int)
  | 0 => [[]]
  | k + 1 => (wdL L k).flatMap (extW L)
def R9 : List Int := (List.range 9).map fun (i : Nat) => (i : Int)
theorem flat_if {α β : Type} (a : α → Bool) (f : α → List β) : ∀ l : List α, (l.filter a).flatMap f = l.flatMap fun w => bif a w then f w else []
  | [] => rfl
  | x :: l => by
    rw [List.filter_cons, List.flatMap_cons, ← flat_if a f l]
    cases h : a x <;> simp
theorem ext_filter (L : List Int) (q : Int → Bool) (w : List Int) : (extW L w).filter (fun v => v.all q) = bif w.all q then extW (L.filter q) w else [] := by
  unfold extW
  rw [List.filter_map]
  cases h : w.all q with
  | true =>
    have e : ((fun v : List Int => v.all q) ∘ fun c => w ++ [c]) = q := by funext c; simp [List.all_append, h]
    rw [e]; rfl
  | false =>
    have e : ((fun v : List Int => v.all q) ∘ fun c => w ++ [c]) = fun _ => false := by funext c; simp only [Function.comp, List.all_append, h, Bool.false_and]
    rw [e]; simp
theorem wdL_filter (L : List Int) (q : Int → Bool) : ∀ k, wdL (L.filter q) k = (wdL L k).filter fun v => v.all q
  | 0 => rfl
  | k + 1 => by
    have ih := wdL_filter L q k
    rw [wdL, wdL, ih, flat_if, List.filter_flatMap]
    congr 1
    funext w
    rw [ext_filter]
theorem wdL_len {L : List Int} : ∀ {k : Nat} {w : List Int}, w ∈ wdL L k → w.length = k
  | 0, w, h => by simp [wdL] at h; subst h; rfl
  | k + 1, w, h => by
    rw [wdL, List.mem_flatMap] at h
    obtain ⟨v, hv, hw⟩ := h
    unfold extW at hw
    obtain ⟨c, _, rfl⟩ := List.mem_map.1 hw
    rw [List.length_append, wdL_len hv]; rfl
theorem wdL_size (L : List Int) : ∀ k, (wdL L k).length = L.length ^ k
  | 0 => rfl
  | k + 1 => by
    rw [wdL, List.length_flatMap]
    have e : ((wdL L k).map fun a => (extW L a).length) = (wdL L k).map fun _ => L.length := List.map_congr_left fun a _ => by simp [extW]
    rw [e, Nat.pow_succ, ← wdL_size L k]
    generalize wdL L k = l
    induction l with
    | nil => simp
    | cons x l ih => simp only [List.map_cons, List.sum_cons, ih, List.length_cons]; rw [Nat.succ_mul]; omega
theorem filt_sub {α : Type} (P q : α → Bool) (l : List α) (h : ∀ x ∈ l, P x = true → q x = true) : (l.filter q).filter P = l.filter P := by
  rw [List.filter_filter]
  exact List.filter_congr fun x hx => by
    cases hp : P x with
    | false => rfl
    | true => rw [h x hx hp]; rfl
/-- the words of a length that an expression takes: with all letters, or with its own alone -/
theorem words_same (q : Int → Bool) (P : List Int → Bool) (k : Nat) (h : ∀ w, P w = true → w.all q = true) : (wdL (R9.filter q) k).filter P = (wdL R9 k).filter P := by
  rw [wdL_filter]
  exact filt_sub P _ _ fun w _ hp => h w hp
/-- the letters of a tree -/
def letT : Tr → List Int
  | .l0 t => if t.kind = 3 then [t.letter] else []
  | .l1 _ a => letT a
  | .l2 _ a b => letT a ++ letT b
theorem pow_lets {n : Nat} {A : Nat → Nat → Bool} {w : List Int} {S : List Int} (hA : ∀ i j, A i j = true → i ≤ j ∧ ∀ p c, i ≤ p → p < j → w[p]? = some c → c ∈ S) :
    ∀ (k i j : Nat), powM n A k i j = true → i ≤ j ∧ ∀ p c, i ≤ p → p < j → w[p]? = some c → c ∈ S
  | 0, i, j, h => by
    have e : i = j := by simpa [powM, idM] using h
    subst e
    exact ⟨Nat.le_refl _, fun p c h1 h2 => by omega⟩
  | k + 1, i, j, h => by
    rw [powM] at h
    obtain ⟨x, _, h1, h2⟩ := mul_iff.1 h
    obtain ⟨a1, a2⟩ := pow_lets hA k i x h1
    obtain ⟨b1, b2⟩ := hA x j h2
    exact ⟨by omega, fun p c q1 q2 q3 => by
      by_cases e : p < x
      · exact a2 p c q1 e q3
      · exact b2 p c (by omega) q2 q3⟩
theorem rep_lets {n : Nat} {A : Nat → Nat → Bool} {w : List Int} {S : List Int} {low : Int} {k : Nat} (hA : ∀ i j, A i j = true → i ≤ j ∧ ∀ p c, i ≤ p → p < j → w[p]? = some c → c ∈ S) (i j : Nat) (h : repM n A low k i j = true) :
    i ≤ j ∧ ∀ p c, i ≤ p → p < j → w[p]? = some c → c ∈ S := by
  unfold repM at h
  obtain ⟨m, _, hm⟩ := List.any_eq_true.1 h
  rw [Bool.and_eq_true] at hm
  exact pow_lets hA m i j hm.2
theorem mt_lets (w : List Int) : ∀ (t : Tr) (i j : Nat), mtT w t i j = true → i ≤ j ∧ ∀ p c, i ≤ p → p < j → w[p]? = some c → c ∈ letT t
  | .l0 t, i, j, h => by
    unfold mtT at h
    split at h
    · have e : i = j := by simpa [idM] using h
      exact ⟨by omega, fun p c h1 h2 => by omega⟩
    · split at h
      · rename_i hk
        have h2 : j = i + 1 ∧ w[i]? = some t.letter := by simpa [ltM] using h
        refine ⟨by omega, fun p c q1 q2 q3 => ?_⟩
        have e : p = i := by omega
        subst e
        rw [h2.2] at q3; cases q3
        unfold letT; rw [if_pos hk]; exact List.mem_singleton.2 rfl
      · simp [idM] at h
  | .l1 t a, i, j, h => by
    have ih := mt_lets w a
    unfold mtT at h
    split at h
    · exact rep_lets (S := letT a) ih i j h
    · split at h
      · exact rep_lets (S := letT a) ih i j h
      · simp [idM] at h
  | .l2 t a b, i, j, h => by
    have ia := mt_lets w a
    have ib := mt_lets w b
    unfold mtT at h
    split at h
    · obtain ⟨x, _, h1, h2⟩ := mul_iff.1 h
      obtain ⟨a1, a2⟩ := ia i x h1
      obtain ⟨b1, b2⟩ := ib x j h2
      exact ⟨by omega, fun p c q1 q2 q3 => by
        unfold letT
        by_cases e : p < x
        · exact List.mem_append_left _ (a2 p c q1 e q3)
        · exact List.mem_append_right _ (b2 p c (by omega) q2 q3)⟩
    · split at h
      · have h2 : mtT w a i j = true ∨ mtT w b i j = true := by simpa [oeM] using h
        unfold letT
        rcases h2 with h2 | h2
        · obtain ⟨a1, a2⟩ := ia i j h2
          exact ⟨a1, fun p c q1 q2 q3 => List.mem_append_left _ (a2 p c q1 q2 q3)⟩
        · obtain ⟨a1, a2⟩ := ib i j h2
          exact ⟨a1, fun p c q1 q2 q3 => List.mem_append_right _ (a2 p c q1 q2 q3)⟩
      · simp [idM] at h
theorem mt_all {w : List Int} {t : Tr} {q : Int → Bool} (hq : ∀ c ∈ letT t, q c = true) (h : mtT w t 0 w.length = true) : w.all q = true := by
  rw [List.all_eq_true]
  intro c hc
  obtain ⟨p, hp, e⟩ := List.getElem_of_mem hc
  exact hq c ((mt_lets w t 0 w.length h).2 p c (Nat.zero_le _) hp (by rw [List.getElem?_eq_getElem hp, e]))
theorem letT_flat : ∀ (t : Tr) (c : Int), c ∈ letT t → ∃ y ∈ t.flat, y.kind = 3 ∧ y.letter = c
  | .l0 t, c, h => by
    unfold letT at h
    split at h
    · rename_i hk
      exact ⟨t, by simp [Tr.flat], hk, (List.mem_singleton.1 h).symm⟩
    · cases h
  | .l1 t a, c, h => by
    obtain ⟨y, hy, h2⟩ := letT_flat a c h
    exact ⟨y, by simp [Tr.flat, hy], h2⟩
  | .l2 t a b, c, h => by
    unfold letT at h
    rcases List.mem_append.1 h with h | h
    · obtain ⟨y, hy, h2⟩ := letT_flat a c h
      exact ⟨y, by simp [Tr.flat, hy], h2⟩
    · obtain ⟨y, hy, h2⟩ := letT_flat b c h
      exact ⟨y, by simp [Tr.flat, hy], h2⟩
/-- rows of one's own: one is dropped -/
theorem Od.skip {α : Type} {cs : α → List Value} {e k : Nat} {w : World} {lo hi : Nat} {vs us : List Sv} {v : Sv} {xs ys : List (List α)} {x : List α} (h : Od cs e k w lo hi (vs ++ v :: us) (xs ++ x :: ys)) (hl : vs.length = xs.length) : Od cs e k w lo hi (vs ++ us) (xs ++ ys) := by
  have g1 : ∀ {β : Type} (a b : List β) (c : β) (i : Nat) (u : β), (a ++ b)[i]? = some u → (a ++ c :: b)[if i < a.length then i else i + 1]? = some u := by
    intro β a b c i u hu
    by_cases hi : i < a.length
    · rw [if_pos hi, List.getElem?_append_left hi]; rwa [List.getElem?_append_left hi] at hu
    · rw [if_neg hi, List.getElem?_append_right (by omega)]
      rw [List.getElem?_append_right (by omega)] at hu
      rw [show i + 1 - a.length = (i - a.length) + 1 by omega, List.getElem?_cons_succ]; exact hu
  refine ⟨by have := h.1; simp at this ⊢; omega, fun i v' x' a b => ?_, fun i j u u' a b hij => ?_⟩
  · have a' := g1 _ _ v _ _ a
    have b' := g1 _ _ x _ _ b
    rw [← hl] at b'
    exact h.2.1 _ _ _ a' b'
  · have a' := g1 _ _ v _ _ a
    have b' := g1 _ _ v _ _ b
    exact h.2.2 _ _ _ _ a' b' (by split <;> split <;> omega)
theorem R9_pow {n : Nat} (h : n ≤ 3) : R9.length ^ n ≤ 729 := by
  have e : R9.length = 9 := rfl
  rw [e]
  match n, h with
  | 0, _ => decide
  | 1, _ => decide
  | 2, _ => decide
  | 3, _ => decide
theorem ext_step {W : List (List Int)} {i k : Nat} {y : List Int} (hy : W[i]? = some y) (hk : k < 9) :
    (W.take i).flatMap (extW R9) ++ (extW R9 y).take k ++ [y ++ [((k : Nat) : Int)]] = (W.take i).flatMap (extW R9) ++ (extW R9 y).take (k + 1) := by
  rw [List.append_assoc]
  congr 1
  have e : (extW R9 y)[k]? = some (y ++ [((k : Nat) : Int)]) := by simp [extW, R9, hk]
  rw [take_snoc e]
theorem ext_all {W : List (List Int)} {i k : Nat} {y : List Int} (hy : W[i]? = some y) (hk : 9 ≤ k) :
    (W.take i).flatMap (extW R9) ++ (extW R9 y).take k = (W.take (i + 1)).flatMap (extW R9) := by
  have e : (extW R9 y).length = 9 := by simp [extW, R9]
  rw [take_snoc hy, List.flatMap_append, List.take_of_length_le (l := extW R9 y) (by omega)]
  simp
theorem wd_end {L : Int} {i : Nat} (h : 1 ≤ L) (hi : (wdL R9 (L - 1).toNat).length ≤ i) : ((wdL R9 (L - 1).toNat).take i).flatMap (extW R9) = wdL R9 L.toNat := by
  rw [List.take_of_length_le hi, show L.toNat = (L - 1).toNat + 1 by omega]
  rfl
theorem drop_of {α : Type} {l : List α} {i : Nat} {y : α} (h : l[i]? = some y) : l.drop i = y :: l.drop (i + 1) := by
  obtain ⟨hi, e⟩ := List.getElem?_eq_some_iff.1 h
  rw [List.drop_eq_getElem_cons hi, e]
theorem Od.eq2 {α : Type} {cs : α → List Value} {e k : Nat} {w : World} {lo hi : Nat} {vs vs' : List Sv} {xs ys : List (List α)} (h : Od cs e k w lo hi vs xs) (hv : vs = vs') (he : xs = ys) : Od cs e k w lo hi vs' ys := hv ▸ he ▸ h
theorem Od.app {α : Type} {cs : α → List Value} {e k : Nat} {w : World} {lo hi lo2 hi2 : Nat} {vs us : List Sv} {xs ys : List (List α)} (h : Od cs e k w lo hi vs xs) (h2 : Od cs e k w lo2 hi2 us ys) (hh : hi ≤ lo2) (hl : lo ≤ lo2) (hu : hi ≤ hi2) : Od cs e k w lo hi2 (vs ++ us) (xs ++ ys) := by
  have h9 := h.1
  have k9 := h2.1
  refine ⟨by simp [h9, k9], fun i v x a b => ?_, fun i j u v a b hij => ?_⟩
  · by_cases hi' : i < vs.length
    · rw [List.getElem?_append_left hi'] at a
      rw [List.getElem?_append_left (by omega)] at b
      obtain ⟨o, r⟩ := h.2.1 i v x a b
      exact ⟨o, fun g hg => by have := r g hg; omega⟩
    · rw [List.getElem?_append_right (by omega)] at a
      rw [List.getElem?_append_right (by omega)] at b
      rw [h9] at a
      obtain ⟨o, r⟩ := h2.2.1 _ v x a b
      exact ⟨o, fun g hg => by have := r g hg; omega⟩
  · by_cases hi' : i < vs.length
    · rw [List.getElem?_append_left hi'] at a
      by_cases hj : j < vs.length
      · rw [List.getElem?_append_left hj] at b
        exact h.2.2 i j u v a b hij
      · rw [List.getElem?_append_right (by omega)] at b
        intro g hg hm
        have r1 := h.rng (List.mem_of_getElem? a) hg
        have r2 := h2.rng (List.mem_of_getElem? b) hm
        omega
    · rw [List.getElem?_append_right (by omega)] at a
      rw [List.getElem?_append_right (by omega)] at b
      exact h2.2.2 _ _ u v a b (by omega)
/-- the words that a tree takes, shorter than a bound, out of some letters -/
def wuT (L : List Int) (t : Tr) (m : Nat) : List (List Int) := (List.range m).flatMap fun k => (wdL L k).filter fun w => mtT w t 0 w.length
theorem wuT_succ {L : List Int} {t : Tr} {m : Nat} : wuT L t (m + 1) = wuT L t m ++ (wdL L m).filter fun w => mtT w t 0 w.length := by
  unfold wuT
  rw [List.range_succ, List.flatMap_append]
  simp
def wuR (e : List Token) (n : Int) : List (List Int) := if ivE e = true ∧ 0 ≤ n ∧ n ≤ 3 then (match treeL e with | some t => wuT R9 t (n + 1).toNat | none => []) else []
theorem wuR_n {e : List Token} {n : Int} (h : ¬ (ivE e = true ∧ 0 ≤ n ∧ n ≤ 3)) : [] = wuR e n := by unfold wuR; rw [if_neg h]
theorem wuR_y {e : List Token} {n : Int} {t : Tr} {m : Nat} (h : ivE e = true) (h1 : 0 ≤ n ∧ n ≤ 3) (ht : treeL e = some t) (hm : m = (n + 1).toNat) : wuT R9 t m = wuR e n := by
  subst hm
  unfold wuR; rw [if_pos ⟨h, h1⟩, ht]
theorem wu_keep {W : List (List Int)} {X : List (List Int)} {P : List Int → Bool} {i : Nat} {y : List Int} (hy : W[i]? = some y) (hp : P y = true) : X ++ (W.take i).filter P ++ W.drop i = X ++ (W.take (i + 1)).filter P ++ W.drop (i + 1) := by
  rw [take_snoc hy, List.filter_append, drop_of hy]
  simp [hp]
theorem wu_drop {W : List (List Int)} {X : List (List Int)} {P : List Int → Bool} {i : Nat} {y : List Int} (hy : W[i]? = some y) (hp : P y = false) : X ++ (W.take i).filter P ++ W.drop (i + 1) = X ++ (W.take (i + 1)).filter P ++ W.drop (i + 1) := by
  rw [take_snoc hy, List.filter_append]
  simp [hp]
theorem subSep {o : Value} {vs us : List Sv} (h : Sep o vs) (hs : ∀ u ∈ us, u ∈ vs) : Sep o us := fun u hu => h u (hs u hu)
theorem appSep {o : Value} {vs us : List Sv} (h : Sep o vs) (k : Sep o us) : Sep o (vs ++ us) := fun u hu => (List.mem_append.1 hu).elim (h u) (k u)
theorem wuT_le {t : Tr} : ∀ {m : Nat}, m ≤ 4 → (wuT R9 t m).length ≤ m * 729
  | 0, _ => Nat.zero_le _
  | m + 1, h => by
    have ih := wuT_le (t := t) (m := m) (by omega)
    have h1 := List.length_filter_le (fun w => mtT w t 0 w.length) (wdL R9 m)
    have h2 := wdL_size R9 m
    have h3 := R9_pow (n := m) (by omega)
    rw [wuT_succ, List.length_append]
    omega
theorem wu_le {t : Tr} {m i : Nat} {W : List (List Int)} {P : List Int → Bool} (h : m ≤ 4) (hi : i ≤ W.length) : (wuT R9 t m ++ (W.take i).filter P).length ≤ 2916 + W.length := by
  have h1 := wuT_le (t := t) h
  have h2 := List.length_filter_le P (W.take i)
  rw [List.length_append]
  rw [List.length_take] at h2
  omega
def wuS (e : List Token) (n : Int) : List (List Int) := if ivE e = true ∧ 0 ≤ n ∧ n ≤ 3 then (match treeL e with | some t => wuT (alphR e) t (n + 1).toNat | none => []) else []
theorem wuS_n {e : List Token} {n : Int} (h : ¬ (ivE e = true ∧ 0 ≤ n ∧ n ≤ 3)) : [] = wuS e n := by unfold wuS; rw [if_neg h]
theorem wuS_y {e : List Token} {n : Int} {t : Tr} {m : Nat} (h : ivE e = true) (h1 : 0 ≤ n ∧ n ≤ 3) (ht : treeL e = some t) (hm : m = (n + 1).toNat) : wuT (alphR e) t m = wuS e n := by
  subst hm
  unfold wuS; rw [if_pos ⟨h, h1⟩, ht]
theorem ext_stepL {L : List Int} {W : List (List Int)} {i j : Nat} {y y2 : List Int} {c : Int} (hy : W[i]? = some y) (hy2 : W[i]? = some y2) (hc : L[j]? = some c) :
    (W.take i).flatMap (extW L) ++ (extW L y).take j ++ [y2 ++ [c]] = (W.take i).flatMap (extW L) ++ (extW L y).take (j + 1) := by
  obtain rfl := get_uniq hy hy2
  rw [List.append_assoc]
  congr 1
  have e : (extW L y)[j]? = some (y ++ [c]) := by simp [extW, hc]
  rw [take_snoc e]
section
variable {L : List Int} {t : Tr} {W : List (List Int)} {P : List Int → Bool} {y : List Int} {i j k m : Nat}
theorem wdL_le (h : L.length ≤ 400) (hk : k ≤ 3) : (wdL L k).length ≤ 64000000 := by
  rw [wdL_size]
  have h1 : L.length ^ k ≤ 400 ^ k := Nat.pow_le_pow_left h k
  have h2 : 400 ^ k ≤ 400 ^ 3 := Nat.pow_le_pow_right (by decide) hk
  have h3 : (400 : Nat) ^ 3 = 64000000 := by decide
  omega
theorem wuTL_le (h : L.length ≤ 400) : ∀ {m : Nat}, m ≤ 4 → (wuT L t m).length ≤ m * 64000000
  | 0, _ => Nat.zero_le _
  | m + 1, hm => by
    have ih := wuTL_le h (m := m) (by omega)
    have h1 := List.length_filter_le (fun w => mtT w t 0 w.length) (wdL L m)
    have h2 := wdL_le (k := m) h (by omega)
    rw [wuT_succ, List.length_append]
    omega
theorem wuL_le (h : L.length ≤ 400) (hm : m ≤ 4) : (wuT L t m ++ (W.take i).filter P).length ≤ 256000000 + W.length := by
  have h1 := wuTL_le (t := t) h hm
  have h2 := List.length_filter_le P (W.take i)
  rw [List.length_append]
  rw [List.length_take] at h2
  omega
theorem flatL_le (h : L.length ≤ 400) : ((W.take i).flatMap (extW L)).length ≤ 400 * W.length := by
  have key : ∀ V : List (List Int), (V.flatMap (extW L)).length ≤ 400 * V.length := fun V => by
    induction V with
    | nil => simp
    | cons x V ih =>
      rw [List.flatMap_cons, List.length_append, List.length_cons]
      have : (extW L x).length = L.length := by simp [extW]
      omega
  have h1 := key (W.take i)
  rw [List.length_take] at h1
  omega
theorem flatJ_le (h : L.length ≤ 400) : ((W.take i).flatMap (extW L) ++ (extW L y).take j).length ≤ 400 * W.length + 400 := by
  have h1 := flatL_le (W := W) (i := i) h
  have h2 : (extW L y).length = L.length := by simp [extW]
  rw [List.length_append, List.length_take]
  omega
end
theorem ext_allL {L : List Int} {W : List (List Int)} {i k : Nat} {y : List Int} (hy : W[i]? = some y) (hk : L.length ≤ k) :
    (W.take i).flatMap (extW L) ++ (extW L y).take k = (W.take (i + 1)).flatMap (extW L) := by
  have e : (extW L y).length = L.length := by simp [extW]
  rw [take_snoc hy, List.flatMap_append, List.take_of_length_le (l := extW L y) (by omega)]
  simp
end Go.KLib

/- Strings: what the model's operations on strings yield, told by lists of bytes; arithmetic that wraps. -/
namespace Go.KLib
def bst (l : List UInt8) : Value := .string ⟨l.toArray⟩
def bys (l : List UInt8) : ByteArray := ⟨l.toArray⟩
theorem bst_def (l : List UInt8) : bst l = .string (bys l) := rfl
theorem bys_list (l : List UInt8) : (bys l).toList = l := ByteArray.toList_mk l
theorem bys_size (l : List UInt8) : (bys l).size = l.length := rfl
def scs (s : List UInt8) : List Value := [bst s]
theorem scs_len (s : List UInt8) : (scs s).length = 1 := rfl
theorem scs_one (s : List UInt8) : ∀ v ∈ scs s, v.oneCell' = true := fun v hv => by rw [List.mem_singleton.1 hv]; rfl
def ucs (n : Int) : List Value := [.int .u8 n]
theorem ucs_len (n : Int) : (ucs n).length = 1 := rfl
def bat (s : List UInt8) (i : Nat) : Int := ((s.getD i 0).toNat : Int)
theorem bat_rng (s : List UInt8) (i : Nat) : 0 ≤ bat s i ∧ bat s i ≤ 255 := by
  have := (s.getD i 0).toNat_lt
  unfold bat; omega
theorem bat_cv (s : List UInt8) (i : Nat) : -9223372036854775808 ≤ bat s i ∧ bat s i ≤ 9223372036854775807 := by have := bat_rng s i; omega
theorem ucs_one (n : Int) : ∀ v ∈ ucs n, v.oneCell' = true := fun v hv => by rw [List.mem_singleton.1 hv]; rfl
def w8 (x : Int) : Int := IntKind.u8.wrap x
def bLt (a b : List UInt8) : Bool := Op.bytesLess a b

section
variable {P : Program} {w : World} {l : KL} {dst : Option Tmp} {ty : TypeId} {pos : String} {aft : Array Go.Edge} {gd : Option (Nat × Bool)} {x y z : Operand} {xt yt : TypeId} {a b : Int} {k : IntKind} {s t : List UInt8}
theorem r_mul64 (hx : ev l x = some (.int .i64 a)) (hy : ev l y = some (.int .i64 b)) : Runs P l ⟨dst, .binOp .mul xt x y yt, ty, pos, aft, gd⟩ w (.int .i64 (w64 (a * b))) w := r_mulW hx hy
theorem r_sub8 (hx : ev l x = some (.int .u8 a)) (hy : ev l y = some (.int .u8 b)) : Runs P l ⟨dst, .binOp .sub xt x y yt, ty, pos, aft, gd⟩ w (.int .u8 (w8 (a - b))) w := r_subW hx hy
theorem r_add8 (hx : ev l x = some (.int .u8 a)) (hy : ev l y = some (.int .u8 b)) : Runs P l ⟨dst, .binOp .add xt x y yt, ty, pos, aft, gd⟩ w (.int .u8 (w8 (a + b))) w := r_addW hx hy
theorem r_sAdd (h : s.length + t.length ≤ 9223372036854775807) (hx : ev l x = some (bst s)) (hy : ev l y = some (bst t)) : Runs P l ⟨dst, .binOp .add xt x y yt, ty, pos, aft, gd⟩ w (bst (s ++ t)) w := fun ρ hρ => by
  have e := run_string_add_sum (P := P) w (bys s) (bys t) h
  rw [show bys s ++ bys t = bys (s ++ t) from ByteArray.mk_append_mk s t] at e
  rw [bst_def] at hx hy
  simp [execOp, hρ _ _ hx, hρ _ _ hy, eqGuard, binOp, e, bst_def]
theorem r_sEql (hx : ev l x = some (bst s)) (hy : ev l y = some (bst t)) : Runs P l ⟨dst, .binOp .eql xt x y yt, ty, pos, aft, gd⟩ w (.bool (decide (s = t))) w := fun ρ hρ => by
  have e : (s == t) = decide (s = t) := by by_cases h : s = t <;> simp [h]
  rw [bst_def] at hx hy
  simp [execOp, hρ _ _ hx, hρ _ _ hy, eqGuard, binOp, Op.stringOp, bys_list, e]
theorem r_sNeq (hx : ev l x = some (bst s)) (hy : ev l y = some (bst t)) : Runs P l ⟨dst, .binOp .neq xt x y yt, ty, pos, aft, gd⟩ w (.bool (!decide (s = t))) w := fun ρ hρ => by
  have e : (s == t) = decide (s = t) := by by_cases h : s = t <;> simp [h]
  rw [bst_def] at hx hy
  simp [execOp, hρ _ _ hx, hρ _ _ hy, eqGuard, binOp, Op.stringOp, bys_list, e]
theorem r_lenB {t : TypeId} (ht : P.underlying t = some .string) (h : ev l x = some (bst s)) :
    Runs P l ⟨dst, .call { callee := .builtin .len, args := #[x], argTypes := #[t] }, ty, pos, aft, gd⟩ w (.int .i64 s.length) w := fun ρ hρ => by
  rw [bst_def] at h
  simp [execOp, resolve, invoke, builtin, Builtin.len_, run_underlying ht, hρ _ _ h, goInt, bys_size]
theorem r_sIndex {t : TypeId} {i : Int} (h0 : 0 ≤ i ∧ i < s.length) (ht : P.underlying t = some .string) (hx : ev l x = some (bst s)) (hy : ev l y = some (.int k i)) :
    Runs P l ⟨dst, .index t x y, ty, pos, aft, gd⟩ w (.int .u8 (bat s i.toNat)) w := fun ρ hρ => by
  have e := run_index_string (P := P) w t (bys s) k i ht
  rw [dif_pos (show 0 ≤ i ∧ i < ((bys s).size : Int) from h0)] at e
  have hlt : i.toNat < s.length := by omega
  have e2 : (bys s)[i.toNat]'(by show i.toNat < s.length; exact hlt) = s.getD i.toNat 0 := by
    show s.toArray[i.toNat]'(by simpa using hlt) = _
    simp [List.getD_eq_getElem?_getD, hlt]
  rw [bst_def] at hx
  rw [e2] at e
  simp [execOp, hρ _ _ hx, hρ _ _ hy, e, bat]
theorem r_sCut {t : TypeId} {i j : Int} {k' : IntKind} (h0 : 0 ≤ i ∧ i ≤ j ∧ j ≤ s.length) (ht : P.underlying t = some .string) (hx : ev l x = some (bst s)) (hy : ev l y = some (.int k i)) (hz : ev l z = some (.int k' j)) :
    Runs P l ⟨dst, .slice t x (some y) (some z) none, ty, pos, aft, gd⟩ w (bst ((s.drop i.toNat).take (j.toNat - i.toNat))) w := fun ρ hρ => by
  have e := run_slice_string (P := P) w t (bys s) k k' i j ht h0.1 h0.2.1 h0.2.2
  rw [show (bys s).extract i.toNat j.toNat = bys ((s.drop i.toNat).take (j.toNat - i.toNat)) from ByteArray.extract_mk s _ _] at e
  rw [bst_def] at hx
  simp [execOp, hρ _ _ hx, hρ _ _ hy, hρ _ _ hz, Instr.sliceAt, run_underlying ht, e, bst_def]
theorem r_sCutL {t : TypeId} {i : Int} (h0 : 0 ≤ i ∧ i ≤ s.length) (ht : P.underlying t = some .string) (hx : ev l x = some (bst s)) (hy : ev l y = some (.int k i)) :
    Runs P l ⟨dst, .slice t x (some y) none none, ty, pos, aft, gd⟩ w (bst (s.drop i.toNat)) w := fun ρ hρ => by
  have e := run_slice_string_l (P := P) w t (bys s) ht k i h0.1 h0.2
  rw [show (bys s).extract i.toNat (bys s).size = bys (s.drop i.toNat) from by
    rw [show (bys s).extract i.toNat (bys s).size = bys ((s.drop i.toNat).take (s.length - i.toNat)) from ByteArray.extract_mk s _ _, List.take_of_length_le (by simp)]] at e
  rw [bst_def] at hx
  simp [execOp, hρ _ _ hx, hρ _ _ hy, Instr.sliceAt, run_underlying ht, e, bst_def]
theorem r_sCutH {t : TypeId} {j : Int} (h0 : 0 ≤ j ∧ j ≤ s.length) (ht : P.underlying t = some .string) (hx : ev l x = some (bst s)) (hz : ev l z = some (.int k j)) :
    Runs P l ⟨dst, .slice t x none (some z) none, ty, pos, aft, gd⟩ w (bst (s.take j.toNat)) w := fun ρ hρ => by
  have e := run_slice_string_h (P := P) w t (bys s) ht k j h0.1 h0.2
  rw [show (bys s).extract 0 j.toNat = bys (s.take j.toNat) from by
    rw [show (bys s).extract 0 j.toNat = bys ((s.drop 0).take (j.toNat - 0)) from ByteArray.extract_mk s _ _]; simp] at e
  rw [bst_def] at hx
  simp [execOp, hρ _ _ hx, hρ _ _ hz, Instr.sliceAt, run_underlying ht, e, bst_def]
theorem fold_push (ns : List Int) : ∀ (s : ByteArray), (ns.foldl (fun r n => r.push (UInt8.ofNat n.toNat)) s).data.toList = s.data.toList ++ ns.map fun n => UInt8.ofNat n.toNat := by
  induction ns with
  | nil => intro s; simp
  | cons n ns ih => intro s; simp only [List.foldl_cons, ih]; simp [ByteArray.push]
def u8s (ns : List Int) : List UInt8 := ns.map fun n => UInt8.ofNat n.toNat
/-- []byte to string. -/
theorem r_bytesStr {src d e : TypeId} {ns : List Int} {v : Value} {L B : Nat} (hs : Ls ucs 1 w L B v ns) (h1 : elB P src = some e) (h2 : P.underlying e = some (.int .u8)) (h3 : P.underlying d = some .string) (hx : ev l x = some v) :
    Runs P l ⟨dst, .convert src d x, ty, pos, aft, gd⟩ w (bst (u8s ns)) w := fun ρ hρ => by
  obtain ⟨hl, A, c, rfl, hc, hm, hA⟩ := hs
  have hcv := fun a n c => run_convert_bytes_string (P := P) w src d e a n c (elB_spec h1) h2 h3
  have fm : ∀ ns : List Int, ns.flatMap ucs = ns.map (Value.int .u8) := fun ns => by induction ns with | nil => rfl | cons n ns ih => simp [ucs, ih]
  have fp : ∀ ns : List Int, ns.foldl (fun r n => r.push (UInt8.ofNat n.toNat)) ByteArray.empty = bys (u8s ns) := fun ns => by
    apply ByteArray.ext
    apply Array.toList_inj.1
    rw [fold_push]; simp [bys, u8s]
  by_cases hn : ns = []
  · subst hn
    have hk : (Conv.bytesToString (.slice A ([] : List Int).length c)).run P w = .ok (bst (u8s [])) w := by
      cases A with
      | none => simp [Conv.bytesToString]; rfl
      | some a =>
        have := run_bytesToString (P := P) w a 0 c [] (by simp [loadCells, loadCellsFrom])
        rw [fp] at this
        exact this
    simp only [execOp, hρ _ _ hx, Sem.run_bind, hcv, hk, Result.andThen_ok, Sem.run_pure]
  · obtain ⟨a, rfl, _, hcell⟩ := hA (by have := List.length_pos_iff.2 hn; omega)
    have hk := run_bytesToString (P := P) w a ns.length c ns (by
      have := run_loadCells_list (P := P) w a (ns.map (Value.int .u8)) (fun j v hj => hcell j v (by rw [fm]; exact hj))
      simpa using this)
    rw [fp] at hk
    simp only [execOp, hρ _ _ hx, Sem.run_bind, hcv, hk, Result.andThen_ok, Sem.run_pure]
    rfl
end
end Go.KLib

/- Languages that are finite: no useful state lies on a circle; taking away what has no onward way ends with nothing left. -/
namespace Go.KLib
open Go.Sort Go.RowKit Go.Shelf Go.Proofs
theorem delete_ctr {P : Program} {ρ : Ren} {w : World} {e : TypeId} {v : Value} {a : List Int} {i : Nat} (L : Lays2.n23 P ρ) (h : Ol ics e 1 w v a) (hi : i < a.length) (hb : a.length ≤ 9223372036854775807) :
    Ctr P (ρ.f 23) #[v, .int .i64 (i : Int), .int .i64 ((i : Int) + 1)] w (fun u w' => Ol ics e 1 w' u (a.take i ++ a.drop (i + 1)) ∧ bl u = bl v ∧ Ch (bl v) w w') := by
  rcases ol_cases h with ⟨rfl, rfl⟩ | ⟨g, off, cap, rfl⟩
  · simp at hi
  · obtain ⟨_, hg, hc, hm, hH⟩ := ol_holds h
    have hm' : cap ≤ 9223372036854775807 := Nat.le_trans hm (by decide)
    refine (Any.slices_Delete_int L g off cap i (i + 1) a w hH hc hm' (by omega) (by omega)).mono ?_
    rintro x w' ⟨rfl, q, rfl⟩
    have hl : (a.take i ++ a.drop (i + 1)).length = a.length - 1 := by simp; omega
    refine ⟨_, rfl, ?_, rfl, ?_⟩
    · have := ol_put (m := q) (os := #[]) (ys := a.take i ++ a.drop (i + 1) ++ List.replicate (i + 1 - i) 0) h (by simp; omega)
      rw [grow_empty] at this
      have h2 := ol_pre this
      rw [hl] at h2
      rw [show a.length - (i + 1 - i) = a.length - 1 by omega]
      exact h2
    · have := ch_put (w := w) (g := g) (off := off) (m := q) (d := (a.take i ++ a.drop (i + 1) ++ List.replicate (i + 1 - i) 0).toArray) (os := #[]) hg
      rw [grow_empty] at this
      exact this

/-! ### onward from a state -/
def OnB (N : List (List Int)) (f s : Nat) : Prop := EdgeA N f s
noncomputable def onwL (N : List (List Int)) (f n : Nat) : List Bool := clL (OnB N f) (BackA N) n
def Cyc (N : List (List Int)) (s : Nat) : Prop := Cl (OnB N s) (BackA N) s
noncomputable def ifR (S : Int) (A : List Bool) (N : List (List Int)) : Bool := tt (ValidA S A N ∧ ∀ s ∈ usfR S A N, ¬ Cyc N s.toNat)
section
variable {B : Nat → Prop} {S : Int} {N : List (List Int)} {n j s k f : Nat} {l : List Bool} {r : List Int} {y : Int}
/-- The rows below s have been gone through. -/
def FUpB (B : Nat → Prop) (N : List (List Int)) (j : Nat) (l : List Bool) (s : Nat) : Prop := ∀ q t, q < s → EdgeA N q t → ClN B (BackA N) j q → l[t]? = some true
def FRowB (B : Nat → Prop) (N : List (List Int)) (j : Nat) (l : List Bool) (s k : Nat) : Prop := ∀ (i t : Nat) (r : List Int), i < k → N[s]? = some r → r[i]? = some (t : Int) → ClN B (BackA N) j s → l[t]? = some true
theorem fupB_zero : FUpB B N j l 0 := fun _ _ h => absurd h (by omega)
theorem frowB_zero : FRowB B N j l s 0 := fun _ _ _ h => absurd h (by omega)
theorem fupB_set {i : Nat} (h : FUpB B N j l s) : FUpB B N j (l.set i true) s := fun q t a b c => set_true (h q t a b c)
theorem frowB_hit {i : Nat} (h : FRowB B N j l s k) (hr : N[s]? = some r) (hy : r[k]? = some y) (hi : y = (i : Int)) (hl : i < l.length) : FRowB B N j (l.set i true) s (k + 1) := fun q t r' hq hr' ht hc => by
  rw [hr] at hr'; cases hr'
  by_cases e : q = k
  · subst e; rw [hy] at ht; injection ht with ht; obtain rfl : t = i := by omega
    exact set_here hl
  · exact set_true (h q t r (by omega) hr ht hc)
theorem frowB_miss (h : FRowB B N j l s k) (hr : N[s]? = some r) (hy : r[k]? = some y) (hn : ∀ t : Nat, y = t → ¬ l[s]? = some true) (ha : ClAbove B (BackA N) l j) : FRowB B N j l s (k + 1) := fun q t r' hq hr' ht hc => by
  rw [hr] at hr'; cases hr'
  by_cases e : q = k
  · subst e; rw [hy] at ht; injection ht with ht; exact absurd (ha s hc) (hn t ht)
  · exact h q t r (by omega) hr ht hc
theorem frowB_any (h : FRowB B N j l s k) (hn : ¬ l[s]? = some true) (ha : ClAbove B (BackA N) l j) : FRowB B N j l s (k + 1) := fun _ _ _ _ _ _ hc => absurd (ha s hc) hn
theorem fupB_row (h : FUpB B N j l s) (hk : FRowB B N j l s k) (hr : ∀ r, N[s]? = some r → r.length ≤ k) : FUpB B N j l (s + 1) := fun q t hq he hc => by
  by_cases e : q = s
  · subst e
    obtain ⟨i, r, h1, h2⟩ := he
    exact hk i t r (by have := hr r h1; have := (List.getElem?_eq_some_iff.1 h2).1; omega) h1 h2 hc
  · exact h q t (by omega) he hc
theorem froundB_up (ha : ClAbove B (BackA N) l j) (h : FUpB B N j l s) (hs : N.length ≤ s) : ClAbove B (BackA N) l (j + 1) := fun q hq => by
  rcases hq with hq | ⟨t, he, hc⟩
  · exact ha q hq
  · obtain ⟨i, r, h1, h2⟩ := he
    exact h t q (by have := (List.getElem?_eq_some_iff.1 h1).1; omega) ⟨i, r, h1, h2⟩ hc
theorem onw_of_rounds {A : List Bool} (hv : FitsA S A N) (hl : l.length = A.length) (h1 : ClBelow (OnB N f) (BackA N) l) (h2 : ClAbove (OnB N f) (BackA N) l j) (hj : A.length = j) : l = onwL N f A.length :=
  cl_of_rounds hl (fun s h => edge_lt hv h) (fun s t h => edge_lt hv h) h1 (hj ▸ h2)
/-- the first row has been gone through up to k -/
def On1 (N : List (List Int)) (f : Nat) (l : List Bool) (k : Nat) : Prop := ∀ (i t : Nat) (r : List Int), i < k → N[f]? = some r → r[i]? = some (t : Int) → l[t]? = some true
theorem on1_zero : On1 N f l 0 := fun _ _ _ h => absurd h (by omega)
theorem on1_hit {i : Nat} (h : On1 N f l k) (hr : N[f]? = some r) (hy : r[k]? = some y) (hi : y = (i : Int)) (hl : i < l.length) : On1 N f (l.set i true) (k + 1) := fun q t r' hq hr' ht => by
  rw [hr] at hr'; cases hr'
  by_cases e : q = k
  · subst e; rw [hy] at ht; injection ht with ht; obtain rfl : t = i := by omega
    exact set_here hl
  · exact set_true (h q t r (by omega) hr ht)
theorem on1_miss (h : On1 N f l k) (hr : N[f]? = some r) (hy : r[k]? = some y) (hn : ¬ 0 ≤ y) : On1 N f l (k + 1) := fun q t r' hq hr' ht => by
  rw [hr] at hr'; cases hr'
  by_cases e : q = k
  · subst e; rw [hy] at ht; injection ht with ht; omega
  · exact h q t r (by omega) hr ht
theorem on1_all (h : On1 N f l k) (hr : ∀ r, N[f]? = some r → r.length ≤ k) : ClAbove (OnB N f) (BackA N) l 0 := fun s hs => by
  obtain ⟨i, r, h1, h2⟩ := hs
  exact h i s r (by have := hr r h1; have := (List.getElem?_eq_some_iff.1 h2).1; omega) h1 h2
theorem on_base {m : Nat} : ClBelow (OnB N f) (BackA N) (List.replicate m false) := fun s hs => by
  rw [List.getElem?_replicate] at hs; split at hs <;> simp at hs
theorem onw_get {b : Bool} (hb : (onwL N f n)[s]? = some b) : b = tt (Cl (OnB N f) (BackA N) s) := by
  have hs : s < n := by have := (List.getElem?_eq_some_iff.1 hb).1; unfold onwL at this; rwa [clL_len] at this
  unfold onwL at hb
  rw [clL_get hs] at hb; injection hb with hb; exact hb.symm
theorem onw_len : (onwL N f n).length = n := clL_len
end
section
variable {S : Int} {A : List Bool} {N : List (List Int)} {us : List Int} {i : Nat} {y : Int}
theorem if_no (h : ¬ ValidA S A N) : false = ifR S A N := tt_false (fun c => h c.1)
theorem if_hit {s : Nat} (hy : (usfR S A N)[i]? = some y) (hs : y = (s : Int)) (h : tt (Cl (OnB N s) (BackA N) s) = true) : false = ifR S A N := tt_false fun c => by
  have := c.2 y (List.mem_of_getElem? hy)
  rw [hs, Int.toNat_natCast] at this
  exact this (tt_iff.1 h)
def NoC (N : List (List Int)) (l : List Int) (k : Nat) : Prop := ∀ x ∈ l.take k, ¬ Cyc N x.toNat
theorem noc_zero {l : List Int} : NoC N l 0 := fun x hx => by simp at hx
theorem noc_step {l : List Int} {k : Nat} (h : NoC N l k) (hy : l[k]? = some y) (hn : ¬ Cyc N y.toNat) : NoC N l (k + 1) := fun x hx => by
  rw [take_snoc hy] at hx
  rcases List.mem_append.1 hx with hx | hx
  · exact h x hx
  · rw [List.mem_singleton.1 hx]; exact hn
theorem if_all {k : Nat} (hv : ValidA S A N) (h : NoC N (usfR S A N) k) (hk : (usfR S A N).length ≤ k) : true = ifR S A N := tt_true ⟨hv, fun s hs => h s (by rw [List.take_of_length_le hk]; exact hs)⟩
/-- no way on from s into us -/
def stk (N : List (List Int)) (us : List Int) (s : Int) : Bool := !(N.getD s.toNat []).any fun t => decide (t ∈ us)
/-- all that was taken away lies on no circle -/
structure Lft (S : Int) (A : List Bool) (N : List (List Int)) (us : List Int) : Prop where
  sub : ∀ x ∈ us, x ∈ usfR S A N
  gone : ∀ x ∈ usfR S A N, x ∉ us → ¬ Cyc N x.toNat
theorem lft_0 : Lft S A N (usfR S A N) := ⟨fun _ h => h, fun _ h k => absurd h k⟩
theorem ixP_lt {β : Type} {p : β → Bool} {l : List β} (h : ixP p l < 0) : ∀ x ∈ l, p x = false := fun x hx => by
  unfold ixP at h
  split at h
  · omega
  · rename_i hn
    cases hp : p x with
    | false => rfl
    | true => exact absurd (List.any_eq_true.2 ⟨x, hx, hp⟩) hn
theorem ixP_ge {β : Type} {p : β → Bool} {l : List β} (h : ¬ ixP p l < 0) : ∃ (k : Nat) (x : β), ixP p l = (k : Int) ∧ l[k]? = some x ∧ p x = true ∧ k < l.length := by
  unfold ixP at h ⊢
  split at h
  · rename_i hy
    rw [if_pos hy]
    have hk : l.findIdx p < l.length := List.findIdx_lt_length.2 (List.any_eq_true.1 hy)
    exact ⟨l.findIdx p, l[l.findIdx p], rfl, List.getElem?_eq_getElem hk, List.findIdx_getElem, hk⟩
  · omega
theorem any_ix {β : Type} {p : β → Bool} {l : List β} : decide (0 ≤ ixP p l) = l.any p := by
  unfold ixP
  split
  · rename_i h; rw [h]; simp
  · rename_i h; simp at h; simp; exact h
theorem usf_mem {x : Int} : x ∈ usfR S A N ↔ ValidA S A N ∧ ∃ k : Nat, k < A.length ∧ x = (k : Int) ∧ Cl (ReachB S) (BackA N) k ∧ Cl (LiveB A) (EdgeA N) k := by
  have key : ∀ k : Nat, k < A.length → ((reachL S A.length N).getD k false && (liveL A N).getD k false) = tt (Cl (ReachB S) (BackA N) k ∧ Cl (LiveB A) (EdgeA N) k) := fun k hk => by
    unfold reachL liveL
    rw [List.getD_eq_getElem?_getD, List.getD_eq_getElem?_getD, clL_get hk, clL_get hk]
    simp only [Option.getD_some]
    rw [Bool.eq_iff_iff, Bool.and_eq_true, tt_iff, tt_iff, tt_iff]
  constructor
  · intro h
    have hv : ValidA S A N := Classical.byContradiction fun hn => by rw [← usfR_n hn] at h; cases h
    rw [← usfR_y hv rfl] at h
    unfold usfP at h
    obtain ⟨k, hk, rfl⟩ := List.mem_map.1 h
    obtain ⟨h1, h2⟩ := List.mem_filter.1 hk
    have h1 := List.mem_range.1 h1
    rw [key k h1] at h2
    exact ⟨hv, k, h1, rfl, tt_iff.1 h2⟩
  · rintro ⟨hv, k, hk, rfl, h⟩
    rw [← usfR_y hv rfl]
    unfold usfP
    exact List.mem_map.2 ⟨k, List.mem_filter.2 ⟨List.mem_range.2 hk, by rw [key k hk]; exact tt_iff.2 h⟩, rfl⟩
theorem on_first {s u : Nat} (h : Cl (OnB N s) (BackA N) u) : ∃ t, EdgeA N s t ∧ (t = u ∨ Cl (OnB N t) (BackA N) u) := by
  induction h with
  | base h => exact ⟨_, h, .inl rfl⟩
  | step h _ ih =>
    obtain ⟨t, h1, h2⟩ := ih
    rcases h2 with h2 | h2
    · subst h2; exact ⟨t, h1, .inr (.base h)⟩
    · exact ⟨t, h1, .inr (.step h h2)⟩
theorem on_cons {s t u : Nat} (h : EdgeA N s t) (k : Cl (OnB N t) (BackA N) u) : Cl (OnB N s) (BackA N) u := by
  induction k with
  | base k => exact .step k (.base h)
  | step k _ ih => exact .step k ih
theorem on_reach {s u : Nat} (h : Cl (ReachB S) (BackA N) s) (k : Cl (OnB N s) (BackA N) u) : Cl (ReachB S) (BackA N) u := by
  induction k with
  | base k => exact .step k h
  | step k _ ih => exact .step k ih
theorem on_live {s u : Nat} (h : Cl (LiveB A) (EdgeA N) u) (k : Cl (OnB N s) (BackA N) u) : Cl (LiveB A) (EdgeA N) s := by
  have key : ∀ u, Cl (OnB N s) (BackA N) u → Cl (LiveB A) (EdgeA N) u → Cl (LiveB A) (EdgeA N) s := fun u hk => by
    induction hk with
    | base k => exact fun h => .step k h
    | step k _ ih => exact fun h => ih (.step k h)
  exact key u k h
theorem cyc_usf {x : Int} {t : Nat} (hx : x ∈ usfR S A N) (h : EdgeA N x.toNat t) (k : Cl (OnB N t) (BackA N) x.toNat) : (t : Int) ∈ usfR S A N ∧ Cyc N t := by
  obtain ⟨hv, s, hs, rfl, h1, h2⟩ := usf_mem.1 hx
  rw [Int.toNat_natCast] at h k
  exact ⟨usf_mem.2 ⟨hv, t, edge_lt hv.2 h, rfl, .step h h1, on_live h2 k⟩, .step h k⟩
theorem edge_mem {s t : Nat} (h : EdgeA N s t) : (t : Int) ∈ N.getD s [] := by
  obtain ⟨i, r, h1, h2⟩ := h
  rw [List.getD_eq_getElem?_getD, h1]
  exact List.mem_of_getElem? h2
theorem lft_step {x : Int} (h : Lft S A N us) (hx : us[i]? = some x) (hs : stk N us x = true) : Lft S A N (us.take i ++ us.drop (i + 1)) := by
  have e : us = us.take i ++ x :: us.drop (i + 1) := by
    have := (List.take_append_drop i us).symm
    rwa [drop_of hx] at this
  have hmx : x ∈ us := List.mem_of_getElem? hx
  have nox : ∀ t : Nat, EdgeA N x.toNat t → (t : Int) ∉ us := fun t ht hm => by
    unfold stk at hs
    have : (N.getD x.toNat []).any (fun t => decide (t ∈ us)) = true := List.any_eq_true.2 ⟨t, edge_mem ht, decide_eq_true hm⟩
    rw [this] at hs; cases hs
  refine ⟨fun y hy => h.sub y ?_, fun y hy hn => ?_⟩
  · rcases List.mem_append.1 hy with hy | hy
    · exact List.mem_of_mem_take hy
    · exact List.mem_of_mem_drop hy
  · by_cases hyu : y ∈ us
    · have hyx : y = x := by
        rw [e] at hyu
        rcases List.mem_append.1 hyu with q | q
        · exact absurd (List.mem_append_left _ q) hn
        · rcases List.mem_cons.1 q with q | q
          · exact q
          · exact absurd (List.mem_append_right _ q) hn
      subst hyx
      intro hc
      obtain ⟨t, h1, h2⟩ := on_first hc
      rcases h2 with h2 | h2
      · subst h2
        have := nox _ h1
        rw [Int.toNat_of_nonneg] at this
        · exact this hmx
        · obtain ⟨_, s, _, e9, _⟩ := usf_mem.1 hy; omega
      · have := cyc_usf hy h1 h2
        exact h.gone _ this.1 (nox t h1) this.2
    · exact h.gone y hy hyu
theorem lft_end (hv : ValidA S A N) (h : Lft S A N us) (he : us.length = 0) : true = ifR S A N := by
  have e := List.eq_nil_of_length_eq_zero he
  subst e
  exact tt_true ⟨hv, fun s hs => h.gone s hs (by simp)⟩
theorem lft_stuck {x : Int} (h : Lft S A N us) (hx : us[0]? = some x) (hs : ixP (stk N us) us < 0) : false = ifR S A N := tt_false fun c => by
  have hns := ixP_lt hs
  have hv := c.1
  have key : ∀ (m s : Nat), ((List.range A.length).filter fun u => tt (Cl (OnB N s) (BackA N) u)).length < m → (s : Int) ∈ us → False := by
    intro m
    induction m with
    | zero => intro s hm; omega
    | succ m ih =>
      intro s hm hsu
      have h1 := hns _ hsu
      unfold stk at h1
      rw [Bool.not_eq_false', List.any_eq_true] at h1
      obtain ⟨t, ht, htu⟩ := h1
      have htu := of_decide_eq_true htu
      obtain ⟨_, t', ht', rfl, _⟩ := usf_mem.1 (h.sub t htu)
      have hedge : EdgeA N s t' := by
        rw [Int.toNat_natCast, List.getD_eq_getElem?_getD] at ht
        cases hr : N[s]? with
        | none => rw [hr] at ht; cases ht
        | some r =>
          rw [hr] at ht
          obtain ⟨i, hi⟩ := List.getElem?_of_mem ht
          exact ⟨i, r, hr, hi⟩
      refine ih t' ?_ htu
      have hnc := c.2 _ (h.sub _ htu)
      rw [Int.toNat_natCast] at hnc
      have := filter_lt (p := fun u => tt (Cl (OnB N t') (BackA N) u)) (q := fun u => tt (Cl (OnB N s) (BackA N) u)) (List.range A.length) (fun u _ hu => tt_iff.2 (on_cons hedge (tt_iff.1 hu)))
        ⟨t', List.mem_range.2 ht', (tt_false hnc).symm, tt_iff.2 (.base hedge)⟩
      omega
  have hm := List.mem_of_getElem? hx
  obtain ⟨_, s, _, rfl, _⟩ := usf_mem.1 (h.sub x hm)
  exact key _ s (Nat.lt_succ_self _) hm
end
end Go.KLib

/- Drawn data: the cursor that the drawing functions share; strings of expressions, read by the reference. -/
namespace Go.KLib
/-- a cursor over a code: which bytes and which state is not told -/
def Cu (w : World) (b : Nat) : Prop := ∃ (v : Value) (xs : List Int) (t : TypeId) (i h : Int), Blk w b t [v, .int .i64 i, .int .i64 h] ∧ Ls ucs 1 w 0 b v xs ∧ 0 ≤ i ∧ i ≤ xs.length
theorem Cu.lt {w : World} {b : Nat} (h : Cu w b) : b < w.heap.size := by obtain ⟨_, _, _, _, _, h, _⟩ := h; exact h.lt
theorem Cu.ch {w w' : World} {b : Nat} {ws : List Nat} (h : Cu w b) (c : Ch ws w w') (hw : ∀ i ∈ ws, b < i) : Cu w' b := by
  obtain ⟨v, xs, t, i, k, h1, h2, h3⟩ := h
  exact ⟨v, xs, t, i, k, h1.ch c (fun hm => by have := hw _ hm; omega), Sl.ch h2 c (fun j hj => .inr (by have := hw _ hj; omega)), h3⟩
theorem Cu.ch0 {w w' : World} {b : Nat} (h : Cu w b) (c : Ch [] w w') : Cu w' b := h.ch c (fun _ hm => by cases hm)
theorem iand_le (x : Int) (m : Nat) (hm : m < 9223372036854775808) : 0 ≤ iand x m ∧ iand x m ≤ m := by
  unfold iand
  have h : (BitVec.ofInt IntKind.i64.bits x &&& BitVec.ofInt IntKind.i64.bits (m : Int)).toNat ≤ m := by
    rw [BitVec.toNat_and]
    refine Nat.le_trans Nat.and_le_right ?_
    rw [BitVec.toNat_ofInt]
    show ((m : Int) % (2 ^ 64 : Nat)).toNat ≤ m
    have : (m : Int) % ((2 ^ 64 : Nat) : Int) = m := Int.emod_eq_of_lt (by omega) (by omega)
    rw [this]; simp
  rw [IntWalk.i64_in _ (by omega)]
  omega
theorem iand255 (x : Int) : 0 ≤ iand x 255 ∧ iand x 255 ≤ 255 := iand_le x 255 (by decide)
theorem tmod_rng {x n : Int} (h : 0 ≤ x) (hn : 0 < n) : 0 ≤ x.tmod n ∧ x.tmod n < n := ⟨Int.tmod_nonneg _ h, Int.tmod_lt_of_pos _ hn⟩

/-! ### Strings of expressions -/
def letS : List (List UInt8) := [[97], [97, 45], [98], [98, 45], [99], [99, 45], [48], [49], [50]]
def fmtL (n : Int) : List UInt8 := if 0 ≤ n ∧ n ≤ 8 then letS.getD n.toNat [] else []
theorem fmtL_y {n : Int} {y : List UInt8} (h : 0 ≤ n ∧ n ≤ 8) (hy : letS[n.toNat]? = some y) : y = fmtL n := by unfold fmtL; rw [if_pos h, getD_of hy]
theorem fmtL_n {n : Int} (h : ¬ (0 ≤ n ∧ n ≤ 8)) : [] = fmtL n := by unfold fmtL; rw [if_neg h]
theorem fmtL_len (n : Int) : (fmtL n).length ≤ 2 := by
  unfold fmtL
  split
  · rename_i h
    have : ∀ k, k < 9 → (letS.getD k []).length ≤ 2 := by decide
    exact this _ (by omega)
  · simp
def ltrI (s : List UInt8) (k : Nat) : Option Nat := (List.range k).find? fun i => decide (letS.getD i [] = s)
def plR (s : List UInt8) : Int × Bool := match ltrI s 9 with | some i => ((i : Int), true) | none => (0, false)
theorem ltrI_zero {s : List UInt8} : ltrI s 0 = none := rfl
theorem ltrI_n {s : List UInt8} {k : Nat} (h : ltrI s k = none) (hk : k < 9) (hn : ¬ fmtL k = s) : ltrI s (k + 1) = none := by
  unfold ltrI at *
  rw [List.range_succ, List.find?_append, h]
  unfold fmtL at hn
  rw [if_pos (by omega), Int.toNat_natCast, List.getD_eq_getElem?_getD] at hn
  simp [hn]
theorem find_more {p : Nat → Bool} {k i : Nat} (h : (List.range k).find? p = none) (hp : p k = true) (hi : k < i) : (List.range i).find? p = some k := by
  have e : List.range i = List.range k ++ (k :: (List.range' (k + 1) (i - (k + 1)))) := by
    rw [List.range_eq_range', List.range_eq_range', show k :: List.range' (k + 1) (i - (k + 1)) = List.range' k (i - k) from by
      rw [show i - k = (i - (k + 1)) + 1 by omega, List.range'_succ]]
    have := List.range'_append (s := 0) (m := k) (n := i - k) (step := 1)
    rw [Nat.one_mul, Nat.zero_add, show k + (i - k) = i by omega] at this
    exact this.symm
  rw [e, List.find?_append, h, List.find?_cons]
  simp [hp]
theorem plR_y {s : List UInt8} {k : Nat} (h : ltrI s k = none) (hk : k < 9) (hy : fmtL k = s) : ((k : Int), true) = plR s := by
  unfold fmtL at hy
  rw [if_pos (by omega), Int.toNat_natCast, List.getD_eq_getElem?_getD] at hy
  have : ltrI s 9 = some k := find_more h (by simp [hy]) hk
  unfold plR; rw [this]
theorem plR_n {s : List UInt8} {k : Nat} (h : ltrI s k = none) (hk : ¬ (k : Int) < 9) (hk2 : k ≤ 9) : ((0 : Int), false) = plR s := by
  obtain rfl : k = 9 := by omega
  unfold plR; rw [h]
/-- the pieces between the signs -/
def cutR : List UInt8 → Int → List UInt8 → List (List UInt8)
  | [], _, cur => [cur]
  | c :: s, sep, cur => if (c.toNat : Int) = sep then cur :: cutR s sep [] else cutR s sep (cur ++ [c])
theorem cutR_len : ∀ (s : List UInt8) (sep : Int) (cur : List UInt8), (cutR s sep cur).length ≤ s.length + 1
  | [], _, _ => by simp [cutR]
  | c :: s, sep, cur => by
    unfold cutR; split
    · have := cutR_len s sep []; simp; omega
    · have := cutR_len s sep (cur ++ [c]); simp; omega
theorem bat_get {s : List UInt8} {i : Nat} (h : i < s.length) : ∃ c, s[i]? = some c ∧ bat s i = (c.toNat : Int) := ⟨s[i], List.getElem?_eq_getElem h, by unfold bat; rw [List.getD_eq_getElem?_getD, List.getElem?_eq_getElem h]; rfl⟩
theorem cut_hit {s : List UInt8} {sep : Int} {i f : Nat} {out : List (List UInt8)} (h : out ++ cutR (s.drop i) sep ((s.drop f).take (i - f)) = cutR s sep []) (hi : i < s.length) (hc : bat s i = sep) :
    (out ++ [(s.drop f).take (i - f)]) ++ cutR (s.drop (i + 1)) sep ((s.drop (i + 1)).take (i + 1 - (i + 1))) = cutR s sep [] := by
  obtain ⟨c, h1, h2⟩ := bat_get hi
  rw [← h, drop_of h1]
  show _ = out ++ (if (c.toNat : Int) = sep then _ else _)
  rw [if_pos (by omega)]
  simp
theorem cut_miss {s : List UInt8} {sep : Int} {i f : Nat} {out : List (List UInt8)} (h : out ++ cutR (s.drop i) sep ((s.drop f).take (i - f)) = cutR s sep []) (hi : i < s.length) (hf : f ≤ i) (hc : ¬ bat s i = sep) :
    out ++ cutR (s.drop (i + 1)) sep ((s.drop f).take (i + 1 - f)) = cutR s sep [] := by
  obtain ⟨c, h1, h2⟩ := bat_get hi
  rw [← h, drop_of h1]
  show _ = out ++ (if (c.toNat : Int) = sep then _ else _)
  rw [if_neg (by omega), show i + 1 - f = (i - f) + 1 by omega]
  congr 2
  rw [take_snoc (xs := s.drop f) (by rw [List.getElem?_drop, show f + (i - f) = i by omega]; exact h1)]
theorem cut_end {s : List UInt8} {sep : Int} {i f : Nat} {out : List (List UInt8)} (h : out ++ cutR (s.drop i) sep ((s.drop f).take (i - f)) = cutR s sep []) (hi : s.length ≤ i) : out ++ [s.drop f] = cutR s sep [] := by
  rw [← h, List.drop_of_length_le hi, cutR, List.take_of_length_le (by rw [List.length_drop]; omega)]
theorem cut_zero {s : List UInt8} {sep : Int} : ([] : List (List UInt8)) ++ cutR (s.drop 0) sep ((s.drop 0).take (0 - 0)) = cutR s sep [] := by simp
theorem w8_in {x : Int} (h : 0 ≤ x ∧ x ≤ 255) : w8 x = x := by
  unfold w8 IntKind.wrap
  simp [IntKind.signed, IntKind.bits]
  omega
/-! whole numbers -/
def dgF : Nat → Nat → List UInt8
  | 0, _ => []
  | f + 1, n => if n = 0 then [] else dgF f (n / 10) ++ [UInt8.ofNat (48 + n % 10)]
theorem dgF_fuel : ∀ (f g n : Nat), n < 10 ^ f → n < 10 ^ g → dgF f n = dgF g n
  | 0, 0, _, _, _ => rfl
  | 0, g + 1, n, h, _ => by
    have : n = 0 := by simpa using h
    subst this; simp [dgF]
  | f + 1, 0, n, _, h => by
    have : n = 0 := by simpa using h
    subst this; simp [dgF]
  | f + 1, g + 1, n, h, k => by
    unfold dgF
    split
    · rfl
    · rw [dgF_fuel f g (n / 10) (by rw [Nat.pow_succ] at h; omega) (by rw [Nat.pow_succ] at k; omega)]
theorem dgF_len : ∀ f n, (dgF f n).length ≤ f
  | 0, _ => by simp [dgF]
  | f + 1, n => by
    unfold dgF; split
    · simp
    · have := dgF_len f (n / 10); simp; omega
def fmtI (n : Int) : List UInt8 := if n = 0 then [48] else if n < 0 then 45 :: dgF 20 n.natAbs else dgF 20 n.natAbs
theorem fmtI_len (n : Int) : (fmtI n).length ≤ 21 := by
  have := dgF_len 20 n.natAbs
  unfold fmtI; split
  · simp
  · split
    · simp; omega
    · omega
/-- one digit more -/
theorem dg_step {m : Int} {d : Int} {out : List UInt8} {n : Int} (h : dgF 20 m.natAbs ++ out = dgF 20 n.natAbs) (hm : ¬ m = 0) (hb : -9223372036854775808 ≤ m ∧ m ≤ 9223372036854775807) (hd : d = m.tmod 10 ∨ d = -(m.tmod 10)) (h0 : 0 ≤ d) :
    dgF 20 (m.tdiv 10).natAbs ++ (u8s [w8 (48 + d)] ++ out) = dgF 20 n.natAbs := by
  have e1 : (m.tdiv 10).natAbs = m.natAbs / 10 := Int.natAbs_tdiv m 10
  have e2 : (m.tmod 10).natAbs = m.natAbs % 10 := Int.natAbs_tmod m 10
  have hd2 : d.toNat = m.natAbs % 10 := by rcases hd with e | e <;> omega
  have hd3 : d ≤ 9 := by omega
  rw [← h, e1]
  have e3 : dgF 20 m.natAbs = dgF 19 (m.natAbs / 10) ++ [UInt8.ofNat (48 + m.natAbs % 10)] := by
    rw [dgF, if_neg (by omega)]
  rw [e3, dgF_fuel 19 20 (m.natAbs / 10) (by omega) (by omega), List.append_assoc]
  congr 1
  show [UInt8.ofNat (w8 (48 + d)).toNat] ++ out = _
  rw [w8_in (by omega), show (48 + d).toNat = 48 + m.natAbs % 10 by omega]
theorem dg_end {out : List UInt8} {n : Int} {m : Int} (h : dgF 20 m.natAbs ++ out = dgF 20 n.natAbs) (hm : m = 0) : out = dgF 20 n.natAbs := by
  subst hm; simpa [dgF] using h
theorem fmtI_0 {n : Int} (h : n = 0) : [48] = fmtI n := by unfold fmtI; rw [if_pos h]
theorem fmtI_neg {n : Int} {out : List UInt8} (h : n < 0) (ho : out = dgF 20 n.natAbs) : [45] ++ out = fmtI n := by unfold fmtI; rw [if_neg (by omega), if_pos h, ho]; rfl
theorem fmtI_pos {n : Int} {out : List UInt8} (h : ¬ n < 0) (h0 : ¬ n = 0) (ho : out = dgF 20 n.natAbs) : out = fmtI n := by unfold fmtI; rw [if_neg h0, if_neg h, ho]
/-! tokens -/
def tokS (t : Token) : List UInt8 :=
  if t.kind = 1 then [33] else if t.kind = 2 then [40, 41] else if t.kind = 3 then fmtL t.letter else if t.kind = 4 then [46] else if t.kind = 5 then [124] else if t.kind = 6 then [42]
  else (((([123] : List UInt8) ++ fmtI t.low) ++ [44]) ++ fmtI t.high) ++ [125]
theorem tokS_len (t : Token) : (tokS t).length ≤ 45 := by
  have h1 := fmtL_len t.letter
  have h2 := fmtI_len t.low
  have h3 := fmtI_len t.high
  unfold tokS
  repeat' split
  all_goals first | omega | (simp; done) | (simp; omega)
def rdK (s : List UInt8) (k : Nat) : Option Nat := (List.range k).find? fun i => decide (1 ≤ i ∧ i ≠ 3 ∧ tokS ⟨(i : Int), 0, 0, 0⟩ = s)
theorem rdK_zero {s : List UInt8} : rdK s 1 = none := by simp [rdK, List.range_succ]
theorem rdK_n {s : List UInt8} {k : Nat} (h : rdK s k = none) (hn : k = 3 ∨ ¬ tokS ⟨(k : Int), 0, 0, 0⟩ = s) : rdK s (k + 1) = none := by
  unfold rdK at *
  rw [List.range_succ, List.find?_append, h]
  rcases hn with hn | hn <;> simp [hn]
def rdT (s : List UInt8) : Token := match rdK s 7 with
  | some i => ⟨(i : Int), 0, 0, 0⟩
  | none => if (plR s).2 = true then ⟨3, (plR s).1, 0, 0⟩ else if s.length = 5 ∧ bat s 0 = 123 ∧ bat s 2 = 44 ∧ bat s 4 = 125 then ⟨7, 0, bat s 1 - 48, bat s 3 - 48⟩ else ⟨0, 0, 0, 0⟩
theorem rdT_k {s : List UInt8} {k : Nat} (h : rdK s k = none) (h1 : 1 ≤ k) (h3 : ¬ k = 3) (h6 : k ≤ 6) (hy : tokS ⟨(k : Int), 0, 0, 0⟩ = s) : ⟨(k : Int), 0, 0, 0⟩ = rdT s := by
  have : rdK s 7 = some k := find_more h (by simp [hy, h1, h3]) (by omega)
  unfold rdT; rw [this]
theorem rdK_end {s : List UInt8} {k : Nat} (h : rdK s k = none) (h6 : ¬ (k : Int) ≤ 6) (h7 : k ≤ 7) : rdK s 7 = none := by
  obtain rfl : k = 7 := by omega
  exact h
theorem rdT_l {s : List UInt8} (h : rdK s 7 = none) (hp : (plR s).2 = true) : ⟨3, (plR s).1, 0, 0⟩ = rdT s := by unfold rdT; rw [h]; simp [hp]
theorem rdT_r {s : List UInt8} (h : rdK s 7 = none) (hp : (plR s).2 = false) (hc : s.length = 5 ∧ bat s 0 = 123 ∧ bat s 2 = 44 ∧ bat s 4 = 125) : ⟨7, 0, bat s 1 - 48, bat s 3 - 48⟩ = rdT s := by unfold rdT; rw [h]; simp [hp, hc]
theorem rdT_0 {s : List UInt8} (h : rdK s 7 = none) (hp : (plR s).2 = false) (hc : ¬ (s.length = 5 ∧ bat s 0 = 123 ∧ bat s 2 = 44 ∧ bat s 4 = 125)) : ⟨0, 0, 0, 0⟩ = rdT s := by unfold rdT; rw [h]; simp only [hp]; rw [if_neg (by simp), if_neg hc]
def parS (s : List UInt8) : List Token × Bool := if ivE (((cutR s 32 []).take 25).map rdT) = true then (((cutR s 32 []).take 25).map rdT, true) else ([], false)
theorem parS_len (s : List UInt8) : (parS s).1.length ≤ 25 := by
  unfold parS; split
  · simp; omega
  · simp
theorem take_stop {α : Type} {l : List α} {i : Nat} (h : l.length ≤ i ∨ 25 ≤ i) (h2 : i ≤ 25) : l.take i = l.take 25 := by
  rcases h with h | h
  · rw [List.take_of_length_le h, List.take_of_length_le (by omega)]
  · rw [show i = 25 by omega]
theorem parS_y {s : List UInt8} {ts : List Token} (ht : ts = ((cutR s 32 []).take 25).map rdT) (h : ivE ts = true) : parS s = (ts, true) := by unfold parS; rw [← ht, if_pos h]
theorem parS_n {s : List UInt8} {ts : List Token} (ht : ts = ((cutR s 32 []).take 25).map rdT) (h : ivE ts = false) : parS s = ([], false) := by unfold parS; rw [← ht, if_neg (by rw [h]; simp)]
theorem map_take_step {α β : Type} {f : α → β} {l : List α} {i : Nat} {y : α} (h : l[i]? = some y) : (l.take i).map f ++ [f y] = (l.take (i + 1)).map f := by rw [take_snoc h, List.map_append]; rfl
/-- the expressions that are drawn by name -/
def knownS : List (List UInt8) := [[97], [97, 32, 98, 32, 46], [97, 32, 42], [97, 32, 98, 32, 124, 32, 42], [97, 32, 97, 45, 32, 46], [97, 32, 42, 32, 98, 32, 46], [97, 32, 98, 32, 42, 32, 46, 32, 99, 32, 46], [97, 32, 97, 32, 124, 32, 42], [97, 32, 98, 32, 46, 32, 42], [48, 32, 97, 32, 46, 32, 42], [97, 32, 49, 32, 46, 32, 98, 32, 46], [97, 32, 123, 48, 44, 50, 125], [97, 32, 98, 32, 124, 32, 123, 49, 44, 51, 125], [40, 41], [33], [97, 45, 32, 42, 32, 97, 32, 46], [97, 32, 98, 45, 32, 46, 32, 42, 32, 99, 32, 124], [97, 32, 42, 32, 97, 32, 42, 32, 46], [97, 32, 48, 32, 124, 32, 42, 32, 98, 32, 46], [97, 32, 97, 32, 46, 32, 42], [97, 32, 98, 32, 46, 32, 98, 32, 97, 32, 46, 32, 124, 32, 42]]
theorem known_ok : ∀ x ∈ knownS, 1 ≤ (parS x).1.length ∧ (parS x).1.length ≤ 24 := by decide +kernel
end Go.KLib

/- The words of an expression: matching by squares is membership in them; what joined expressions and derivatives hold. -/
namespace Go.KLib
def Pw (L : List Int → Prop) : Nat → List Int → Prop
  | 0, w => w = []
  | k + 1, w => ∃ u v, w = u ++ v ∧ Pw L k u ∧ L v
def Lg : Tr → List Int → Prop
  | .l0 t => fun w => if t.kind = 2 then w = [] else if t.kind = 3 then w = [t.letter] else False
  | .l1 t x => fun w => if t.kind = 6 then ∃ k, Pw (Lg x) k w else if t.kind = 7 then ∃ k : Nat, t.low ≤ (k : Int) ∧ (k : Int) ≤ t.high ∧ Pw (Lg x) k w else False
  | .l2 t x y => fun w => if t.kind = 4 then ∃ u v, w = u ++ v ∧ Lg x u ∧ Lg y v else if t.kind = 5 then Lg x w ∨ Lg y w else False
theorem Lg6 {t : Token} {x : Tr} {w : List Int} (h : t.kind = 6) : Lg (.l1 t x) w ↔ ∃ k, Pw (Lg x) k w := by simp only [Lg, if_pos h]
theorem Lg7 {t : Token} {x : Tr} {w : List Int} (h : t.kind = 7) : Lg (.l1 t x) w ↔ ∃ k : Nat, t.low ≤ (k : Int) ∧ (k : Int) ≤ t.high ∧ Pw (Lg x) k w := by simp only [Lg, if_neg (show ¬ t.kind = 6 by omega), if_pos h]
theorem Lg4 {t : Token} {x y : Tr} {w : List Int} (h : t.kind = 4) : Lg (.l2 t x y) w ↔ ∃ u v, w = u ++ v ∧ Lg x u ∧ Lg y v := by simp only [Lg, if_pos h]
theorem Lg5 {t : Token} {x y : Tr} {w : List Int} (h : t.kind = 5) : Lg (.l2 t x y) w ↔ Lg x w ∨ Lg y w := by simp only [Lg, if_neg (show ¬ t.kind = 4 by omega), if_pos h]
def seg (w : List Int) (i j : Nat) : List Int := (w.drop i).take (j - i)
section
variable {w : List Int} {i j k n : Nat} {A B : Nat → Nat → Bool} {L M : List Int → Prop}
theorem seg_nil (hi : i ≤ j) (hj : j ≤ w.length) : seg w i j = [] ↔ i = j := by
  unfold seg
  rw [← List.length_eq_zero_iff, List.length_take, List.length_drop]; omega
theorem seg_len (hi : i ≤ j) (hj : j ≤ w.length) : (seg w i j).length = j - i := by
  unfold seg; rw [List.length_take, List.length_drop]; omega
theorem seg_app (h1 : i ≤ k) (h2 : k ≤ j) : seg w i j = seg w i k ++ seg w k j := by
  unfold seg
  have e : j - i = (k - i) + (j - k) := by omega
  rw [e, List.take_add, List.drop_drop, show i + (k - i) = k by omega]
theorem seg_split {u v : List Int} (hi : i ≤ j) (hj : j ≤ w.length) (h : seg w i j = u ++ v) : seg w i (i + u.length) = u ∧ seg w (i + u.length) j = v ∧ i + u.length ≤ j := by
  have hl := congrArg List.length h
  rw [seg_len hi hj, List.length_append] at hl
  have h2 := seg_app (w := w) (i := i) (k := i + u.length) (j := j) (by omega) (by omega)
  have h3 : (seg w i (i + u.length)).length = u.length := by rw [seg_len (by omega) (by omega)]; omega
  rw [h] at h2
  obtain ⟨a, b⟩ := List.append_inj h2 (by rw [h3])
  exact ⟨a.symm, b.symm, by omega⟩
theorem seg_all : seg w 0 w.length = w := by simp [seg]
theorem seg_one {c : Int} (hi : i ≤ j) (hj : j ≤ w.length) : seg w i j = [c] ↔ j = i + 1 ∧ w[i]? = some c := by
  constructor
  · intro h
    have hl := congrArg List.length h
    rw [seg_len hi hj] at hl
    simp only [List.length_singleton] at hl
    refine ⟨by omega, ?_⟩
    have h2 : (seg w i j)[0]? = some c := by rw [h]; rfl
    unfold seg at h2
    rw [List.getElem?_take, if_pos (by omega), List.getElem?_drop] at h2
    exact h2
  · rintro ⟨rfl, h⟩
    unfold seg
    rw [show i + 1 - i = 1 by omega, List.drop_eq_getElem?_toList_append]
    rw [h]; rfl
theorem id_lg (hi : i ≤ j) (hj : j ≤ w.length) : idM true i j = true ↔ seg w i j = [] := by
  rw [seg_nil hi hj]; simp [idM]
theorem mul_lg (hn : n = w.length + 1) (ta : Tri A) (tb : Tri B) (hA : ∀ i j, i ≤ j → j ≤ w.length → (A i j = true ↔ L (seg w i j))) (hB : ∀ i j, i ≤ j → j ≤ w.length → (B i j = true ↔ M (seg w i j))) (hi : i ≤ j) (hj : j ≤ w.length) :
    mulM n A B i j = true ↔ ∃ u v, seg w i j = u ++ v ∧ L u ∧ M v := by
  rw [mul_iff]
  constructor
  · rintro ⟨k, hk, h1, h2⟩
    have e1 : i ≤ k := Nat.le_of_not_lt fun h => by rw [ta i k h] at h1; cases h1
    have e2 : k ≤ j := Nat.le_of_not_lt fun h => by rw [tb k j h] at h2; cases h2
    exact ⟨_, _, seg_app e1 e2, (hA i k e1 (by omega)).1 h1, (hB k j e2 hj).1 h2⟩
  · rintro ⟨u, v, h, h1, h2⟩
    obtain ⟨a, b, c⟩ := seg_split hi hj h
    exact ⟨i + u.length, by omega, (hA _ _ (by omega) (by omega)).2 (by rw [a]; exact h1), (hB _ _ c hj).2 (by rw [b]; exact h2)⟩
theorem pow_lg (hn : n = w.length + 1) (ta : Tri A) (hA : ∀ i j, i ≤ j → j ≤ w.length → (A i j = true ↔ L (seg w i j))) : ∀ (k i j : Nat), i ≤ j → j ≤ w.length → (powM n A k i j = true ↔ Pw L k (seg w i j))
  | 0, i, j, hi, hj => id_lg hi hj
  | k + 1, i, j, hi, hj => by
    rw [powM, mul_lg hn (pow_tri ta k) ta (pow_lg hn ta hA k) hA hi hj]; rfl
theorem pow_down (ta : Tri A) (hj : j < n) : ∀ k, powM n A k i j = true → ∃ m, m < n ∧ powM n A m i j = true
  | 0, h => ⟨0, by omega, h⟩
  | k + 1, h => by
    by_cases hk : k + 1 < n
    · exact ⟨k + 1, hk, h⟩
    · exact pow_down ta hj k (pow_less ta k i j h (by omega))
theorem rep_iff {low : Int} : repM n A low k i j = true ↔ ∃ m : Nat, m < k ∧ low ≤ (m : Int) ∧ powM n A m i j = true := by
  unfold repM
  rw [List.any_eq_true]
  exact ⟨fun ⟨m, hm, h⟩ => ⟨m, List.mem_range.1 hm, by simpa using h⟩, fun ⟨m, hm, h⟩ => ⟨m, List.mem_range.2 hm, by simpa using h⟩⟩
end
theorem idF (i j : Nat) : idM false i j = false := by simp [idM]
theorem mt_lg {w : List Int} : ∀ (t : Tr) (i j : Nat), i ≤ j → j ≤ w.length → (mtT w t i j = true ↔ Lg t (seg w i j))
  | .l0 t, i, j, hi, hj => by
    unfold mtT Lg
    by_cases h2 : t.kind = 2
    · rw [if_pos h2, if_pos h2]; exact id_lg hi hj
    · by_cases h3 : t.kind = 3
      · rw [if_neg h2, if_pos h3, if_neg h2, if_pos h3, seg_one hi hj]; simp [ltM]
      · rw [if_neg h2, if_neg h3, if_neg h2, if_neg h3, idF]; simp
  | .l1 t x, i, j, hi, hj => by
    have ih := mt_lg (w := w) x
    have tx := mt_tri w x
    unfold mtT Lg
    by_cases h6 : t.kind = 6
    · rw [if_pos h6, if_pos h6, rep_iff]
      constructor
      · rintro ⟨m, _, _, h⟩; exact ⟨m, (pow_lg rfl tx ih m i j hi hj).1 h⟩
      · rintro ⟨m, h⟩
        obtain ⟨q, hq, h⟩ := pow_down (i := i) (n := w.length + 1) tx (by omega) m ((pow_lg rfl tx ih m i j hi hj).2 h)
        exact ⟨q, hq, by omega, h⟩
    · by_cases h7 : t.kind = 7
      · rw [if_neg h6, if_pos h7, if_neg h6, if_pos h7, rep_iff]
        constructor
        · rintro ⟨m, h1, h2, h⟩; exact ⟨m, h2, by omega, (pow_lg rfl tx ih m i j hi hj).1 h⟩
        · rintro ⟨m, h1, h2, h⟩; exact ⟨m, by omega, h1, (pow_lg rfl tx ih m i j hi hj).2 h⟩
      · rw [if_neg h6, if_neg h7, if_neg h6, if_neg h7, idF]; simp
  | .l2 t x y, i, j, hi, hj => by
    have ih := mt_lg (w := w) x
    have ih2 := mt_lg (w := w) y
    unfold mtT Lg
    by_cases h4 : t.kind = 4
    · rw [if_pos h4, if_pos h4]; exact mul_lg rfl (mt_tri w x) (mt_tri w y) ih ih2 hi hj
    · by_cases h5 : t.kind = 5
      · rw [if_neg h4, if_pos h5, if_neg h4, if_pos h5]
        show (mtT w x i j || mtT w y i j) = true ↔ _
        rw [Bool.or_eq_true, ih i j hi hj, ih2 i j hi hj]
      · rw [if_neg h4, if_neg h5, if_neg h4, if_neg h5, idF]; simp
theorem mt_w {w : List Int} {t : Tr} : mtT w t 0 w.length = true ↔ Lg t w := by
  rw [mt_lg t 0 w.length (Nat.zero_le _) (Nat.le_refl _), seg_all]

/-! ### Powers -/
section
variable {L M : List Int → Prop} {w u v : List Int} {k m : Nat}
theorem Pw.app (h : Pw L k u) : ∀ {m : Nat} {v : List Int}, Pw L m v → Pw L (k + m) (u ++ v)
  | 0, v, h2 => by rw [show v = [] from h2, List.append_nil]; exact h
  | m + 1, v, ⟨a, b, e, h2, h3⟩ => ⟨u ++ a, b, by rw [e, List.append_assoc], h.app h2, h3⟩
theorem Pw.one : Pw L 1 w ↔ L w := ⟨fun ⟨a, b, e, h, k⟩ => by rw [e, show a = [] from h]; exact k, fun h => ⟨[], w, rfl, rfl, h⟩⟩
theorem Pw.cons (h : L u) (k1 : Pw L k v) : Pw L (k + 1) (u ++ v) := by
  have := (Pw.one.2 h).app k1
  rwa [Nat.add_comm 1 k] at this
theorem Pw.nil (h : L []) : ∀ k, Pw L k []
  | 0 => rfl
  | k + 1 => ⟨[], [], rfl, Pw.nil h k, h⟩
theorem Pw.pad (h : L []) (h1 : Pw L k w) (hm : k ≤ m) : Pw L m w := by
  have := h1.app (Pw.nil h (m - k))
  rwa [List.append_nil, Nat.add_sub_cancel' hm] at this
theorem Pw.uncons : ∀ {k : Nat} {w : List Int}, Pw L (k + 1) w → ∃ u v, w = u ++ v ∧ L u ∧ Pw L k v
  | 0, w, h => ⟨w, [], by simp, Pw.one.1 h, rfl⟩
  | k + 1, w, ⟨a, b, e, h, h2⟩ => by
    obtain ⟨u, v, e2, h3, h4⟩ := Pw.uncons h
    exact ⟨u, v ++ b, by rw [e, e2, List.append_assoc], h3, v, b, rfl, h4, h2⟩
theorem Pw.mono (h : ∀ w, L w → M w) : ∀ {k : Nat} {w : List Int}, Pw L k w → Pw M k w
  | 0, _, h1 => h1
  | _ + 1, _, ⟨a, b, e, h1, h2⟩ => ⟨a, b, e, h1.mono h, h b h2⟩
/-- the first part that is not empty -/
theorem Pw.first {x : Int} : ∀ {k : Nat} {w : List Int}, Pw L k (x :: w) → ∃ u v m, w = u ++ v ∧ L (x :: u) ∧ Pw L m v ∧ m + 1 ≤ k ∧ (m + 1 = k ∨ L [])
  | 0, w, h => by cases h
  | k + 1, w, h => by
    obtain ⟨u, v, e, h1, h2⟩ := Pw.uncons h
    cases u with
    | nil =>
      simp only [List.nil_append] at e; subst e
      obtain ⟨u, v, m, e, a, b, c, _⟩ := Pw.first h2
      exact ⟨u, v, m, e, a, b, by omega, .inr h1⟩
    | cons y u =>
      simp only [List.cons_append, List.cons.injEq] at e
      obtain ⟨rfl, e⟩ := e
      exact ⟨u, v, k, e, h1, h2, Nat.le_refl _, .inl rfl⟩
end

/-! ### Joined expressions -/
def Ex (e : List Token) (L : List Int → Prop) : Prop := ∃ t, Okd t ∧ e = t.flat ∧ ∀ w, Lg t w ↔ L w
section
variable {a b : List Token} {L M N : List Int → Prop}
theorem Ex.iff (h : Ex a L) (k : ∀ w, L w ↔ M w) : Ex a M := let ⟨t, h1, h2, h3⟩ := h; ⟨t, h1, h2, fun w => (h3 w).trans (k w)⟩
theorem Ex.of {t : Tr} (h : Okd t) : Ex t.flat (Lg t) := ⟨t, h, rfl, fun _ => Iff.rfl⟩
theorem Ex.isE (h : Ex a L) : isE a = true := by
  obtain ⟨t, h1, h2, _⟩ := h
  unfold Go.KLib.isE; rw [h2, treeL_flat h1]; rfl
theorem Ex.single {t : Token} (h : Ex a L) (hl : a = [t]) : arT t = 0 ∧ ∀ w, L w ↔ Lg (.l0 t) w := by
  obtain ⟨x, h1, h2, h3⟩ := h
  rw [hl] at h2
  cases x with
  | l0 y =>
    simp only [Tr.flat, List.cons.injEq, and_true] at h2
    subst h2
    exact ⟨h1, fun w => (h3 w).symm⟩
  | l1 y q =>
    have := congrArg List.length h2
    rw [Tr.flat_len] at this
    have := q.sz_pos
    simp [Tr.sz] at *; omega
  | l2 y q r =>
    have := congrArg List.length h2
    rw [Tr.flat_len] at this
    have := q.sz_pos
    have := r.sz_pos
    simp [Tr.sz] at *; omega
theorem ex1 : Ex [⟨1, 0, 0, 0⟩] (fun _ => False) := ⟨.l0 ⟨1, 0, 0, 0⟩, by simp [Okd, arT], rfl, fun w => by simp [Lg]⟩
theorem ex2 : Ex [⟨2, 0, 0, 0⟩] (fun w => w = []) := ⟨.l0 ⟨2, 0, 0, 0⟩, by simp [Okd, arT], rfl, fun w => by simp [Lg]⟩
theorem Ex.cat (h : Ex a L) (k : Ex b M) : Ex (a ++ b ++ [⟨4, 0, 0, 0⟩]) (fun w => ∃ u v, w = u ++ v ∧ L u ∧ M v) := by
  obtain ⟨t, h1, h2, h3⟩ := h
  obtain ⟨s, k1, k2, k3⟩ := k
  refine ⟨.l2 ⟨4, 0, 0, 0⟩ t s, ⟨by simp [arT], h1, k1⟩, by rw [h2, k2]; rfl, fun w => ?_⟩
  simp only [Lg, if_true]
  exact ⟨fun ⟨u, v, e, p, q⟩ => ⟨u, v, e, (h3 u).1 p, (k3 v).1 q⟩, fun ⟨u, v, e, p, q⟩ => ⟨u, v, e, (h3 u).2 p, (k3 v).2 q⟩⟩
theorem Ex.uni (h : Ex a L) (k : Ex b M) : Ex (a ++ b ++ [⟨5, 0, 0, 0⟩]) (fun w => L w ∨ M w) := by
  obtain ⟨t, h1, h2, h3⟩ := h
  obtain ⟨s, k1, k2, k3⟩ := k
  refine ⟨.l2 ⟨5, 0, 0, 0⟩ t s, ⟨by simp [arT], h1, k1⟩, by rw [h2, k2]; rfl, fun w => ?_⟩
  simp [Lg, h3, k3]
theorem isK_t {e : List Token} {k : Int} (h : isK e k = true) : ∃ y, e = [y] ∧ y.kind = k := by
  unfold isK at h
  simp only [decide_eq_true_eq] at h
  obtain ⟨h1, h2⟩ := h
  match e, h1 with
  | [y], _ => exact ⟨y, rfl, h2⟩
theorem Ex.k1 (h : Ex a L) (hk : isK a 1 = true) : ∀ w, ¬ L w := fun w hw => by
  obtain ⟨y, rfl, hy⟩ := isK_t hk
  have := (h.single rfl).2 w
  rw [this] at hw
  simp [Lg, hy] at hw
theorem Ex.k2 (h : Ex a L) (hk : isK a 2 = true) : ∀ w, L w ↔ w = [] := fun w => by
  obtain ⟨y, rfl, hy⟩ := isK_t hk
  rw [(h.single rfl).2 w]
  simp [Lg, hy]
theorem Ex.catE (h : Ex a L) (k : Ex b M) : Ex (catE a b) (fun w => ∃ u v, w = u ++ v ∧ L u ∧ M v) := by
  unfold Go.KLib.catE
  by_cases h1 : isK a 1 = true
  · rw [h1]; exact ex1.iff fun w => ⟨False.elim, fun ⟨u, v, _, p, _⟩ => h.k1 h1 u p⟩
  by_cases h2 : isK b 1 = true
  · rw [h2, Bool.or_true]; exact ex1.iff fun w => ⟨False.elim, fun ⟨u, v, _, _, p⟩ => k.k1 h2 v p⟩
  rw [if_neg (by simp [h1, h2])]
  by_cases h3 : isK a 2 = true
  · rw [if_pos h3]
    exact k.iff fun w => ⟨fun p => ⟨[], w, rfl, (h.k2 h3 _).2 rfl, p⟩, fun ⟨u, v, e, p, q⟩ => by rw [e, (h.k2 h3 u).1 p]; exact q⟩
  rw [if_neg h3]
  by_cases h4 : isK b 2 = true
  · rw [if_pos h4]
    exact h.iff fun w => ⟨fun p => ⟨w, [], by simp, p, (k.k2 h4 _).2 rfl⟩, fun ⟨u, v, e, p, q⟩ => by rw [e, (k.k2 h4 v).1 q, List.append_nil]; exact p⟩
  rw [if_neg h4]
  exact h.cat k
theorem Ex.uniq (h : Ex a L) (k : Ex a M) : ∀ w, L w ↔ M w := fun w => by
  obtain ⟨t, h1, h2, h3⟩ := h
  obtain ⟨s, k1, k2, k3⟩ := k
  have e : t = s := by
    have p := treeL_flat h1
    have q := treeL_flat k1
    rw [← h2] at p; rw [← k2, p] at q
    injection q
  subst e
  rw [← h3, k3]
theorem Ex.uniE (h : Ex a L) (k : Ex b M) : Ex (uniE a b) (fun w => L w ∨ M w) := by
  unfold Go.KLib.uniE
  by_cases h1 : isK a 1 = true
  · rw [h1]; exact k.iff fun w => ⟨.inr, fun p => p.elim (fun q => (h.k1 h1 w q).elim) id⟩
  by_cases h2 : a = b
  · subst h2
    rw [if_pos (by simp)]
    exact k.iff fun w => ⟨.inr, fun p => p.elim (fun q => (h.uniq k w).1 q) id⟩
  rw [if_neg (by simp [h1, h2])]
  by_cases h3 : isK b 1 = true
  · rw [if_pos h3]; exact h.iff fun w => ⟨.inl, fun p => p.elim id fun q => (k.k1 h3 w q).elim⟩
  rw [if_neg h3]
  exact h.uni k
theorem Ex.star (h : Ex a L) : Ex (a ++ [⟨6, 0, 0, 0⟩]) (fun w => ∃ k, Pw L k w) := by
  obtain ⟨t, h1, h2, h3⟩ := h
  refine ⟨.l1 ⟨6, 0, 0, 0⟩ t, ⟨by simp [arT], h1⟩, by rw [h2]; rfl, fun w => ?_⟩
  simp only [Lg, if_true]
  exact ⟨fun ⟨k, p⟩ => ⟨k, p.mono fun w => (h3 w).1⟩, fun ⟨k, p⟩ => ⟨k, p.mono fun w => (h3 w).2⟩⟩
theorem Ex.starE (h : Ex a L) : Ex (starE a) (fun w => ∃ k, Pw L k w) := by
  unfold Go.KLib.starE
  by_cases h1 : isK a 1 = true
  · rw [h1]
    refine ex2.iff fun w => ⟨fun e => ⟨0, e⟩, fun ⟨k, p⟩ => ?_⟩
    cases k with
    | zero => exact p
    | succ k => obtain ⟨u, v, _, _, q⟩ := p; exact (h.k1 h1 v q).elim
  by_cases h2 : isK a 2 = true
  · rw [h2, Bool.or_true]
    refine ex2.iff fun w => ⟨fun e => ⟨0, e⟩, fun ⟨k, p⟩ => ?_⟩
    have : ∀ (k : Nat) (w : List Int), Pw L k w → w = [] := fun k => by
      induction k with
      | zero => exact fun w p => p
      | succ k ih => rintro w ⟨u, v, e, p, q⟩; rw [e, ih u p, (h.k2 h2 v).1 q]; rfl
    exact this k w p
  rw [if_neg (by simp [h1, h2])]
  split
  · rename_i hs
    obtain ⟨t, o1, o2, o3⟩ := id h
    obtain ⟨x, c, rfl⟩ : ∃ x c, t = .l1 x c := by
      have hl : (a.getD (a.length - 1) ⟨0, 0, 0, 0⟩) = t.tok := by
        rw [o2]
        cases t <;> simp [Tr.flat, Tr.tok, List.getD_eq_getElem?_getD]
      have hk : t.tok.kind = 6 := by rw [← hl]; exact hs.2
      obtain ⟨x, c, e⟩ := o1.one (.inl hk)
      exact ⟨x, c, e⟩
    have hk : x.kind = 6 := by
      have hl : (a.getD (a.length - 1) ⟨0, 0, 0, 0⟩) = x := by rw [o2]; simp [Tr.flat, List.getD_eq_getElem?_getD]
      rw [← hl]; exact hs.2
    have hL : ∀ w, L w ↔ ∃ k, Pw (Lg c) k w := fun w => by rw [← o3]; simp only [Lg, if_pos hk]
    refine h.iff fun w => ⟨fun p => ⟨1, Pw.one.2 p⟩, fun ⟨k, p⟩ => ?_⟩
    have : ∀ (k : Nat) (w : List Int), Pw L k w → L w := fun k => by
      induction k with
      | zero => rintro w rfl; exact (hL _).2 ⟨0, rfl⟩
      | succ k ih =>
        rintro w ⟨u, v, e, p, q⟩
        obtain ⟨m1, p1⟩ := (hL u).1 (ih u p)
        obtain ⟨m2, p2⟩ := (hL v).1 q
        rw [e]; exact (hL _).2 ⟨m1 + m2, p1.app p2⟩
    exact this k w p
  · exact h.star
theorem Ex.repE {low high : Int} (h : Ex a L) (h1 : 0 ≤ low ∧ low ≤ high ∧ high ≤ 3) : Ex (repE a low high) (fun w => ∃ k : Nat, low ≤ (k : Int) ∧ (k : Int) ≤ high ∧ Pw L k w) := by
  unfold Go.KLib.repE
  split
  · rename_i e
    refine ex2.iff fun w => ⟨fun e => ⟨0, by omega, by omega, e⟩, fun ⟨k, _, h2, p⟩ => ?_⟩
    have : k = 0 := by omega
    subst this; exact p
  · split
    · rename_i e
      refine h.iff fun w => ⟨fun p => ⟨1, by omega, by omega, Pw.one.2 p⟩, fun ⟨k, _, h2, p⟩ => ?_⟩
      have : k = 1 := by omega
      subst this; exact Pw.one.1 p
    · rename_i e1 e2
      obtain ⟨t, o1, o2, o3⟩ := h
      refine ⟨.l1 ⟨7, 0, low, high⟩ t, ⟨?_, o1⟩, by rw [o2]; rfl, fun w => ?_⟩
      · unfold arT; simp; omega
      · simp only [Lg, show ¬ ((7 : Int) = 6) by omega, if_false, if_true]
        exact ⟨fun ⟨k, a, b, p⟩ => ⟨k, a, b, p.mono fun w => (o3 w).1⟩, fun ⟨k, a, b, p⟩ => ⟨k, a, b, p.mono fun w => (o3 w).2⟩⟩
end

/-! ### Derivatives -/
theorem null_lg : ∀ t : Tr, Okd t → (nullT t = true ↔ Lg t [])
  | .l0 t, h => by
    unfold nullT Lg
    by_cases h2 : t.kind = 2
    · simp [h2]
    · by_cases h3 : t.kind = 3
      · simp [h3]
      · simp [h2, h3]
  | .l1 t a, h => by
    have ih := null_lg a h.2
    have h67 : t.kind = 6 ∨ t.kind = 7 := by
      have h1 : arT t = 1 := h.1
      rw [arT_ok (by omega)] at h1
      unfold arK at h1
      split at h1
      · cases h1
      · split at h1
        · assumption
        · cases h1
    unfold nullT Lg
    rcases h67 with h6 | h7
    · rw [if_pos h6]; simp only [h6, decide_true, Bool.true_or, true_iff]; exact ⟨0, rfl⟩
    · have h6 : ¬ t.kind = 6 := by omega
      have r7 := Okd.r7 h (show (Tr.l1 t a).tok.kind = 7 from h7)
      simp only [Tr.tok] at r7
      rw [if_neg h6, if_pos h7]
      simp only [h6, decide_false, Bool.false_or, Bool.or_eq_true, decide_eq_true_eq, ih]
      constructor
      · rintro (e | e)
        · exact ⟨0, by omega, by omega, rfl⟩
        · exact ⟨t.high.toNat, by omega, by omega, Pw.nil e _⟩
      · rintro ⟨k, a1, a2, p⟩
        cases k with
        | zero => left; omega
        | succ k =>
          right
          obtain ⟨u, v, e, _, q⟩ := p
          have := List.append_eq_nil_iff.1 e.symm
          rw [this.2] at q; exact q
  | .l2 t a b, h => by
    have ih := null_lg a h.2.1
    have ih2 := null_lg b h.2.2
    have h45 : t.kind = 4 ∨ t.kind = 5 := by
      have h1 : arT t = 2 := h.1
      rw [arT_ok (by omega)] at h1
      unfold arK at h1
      split at h1
      · assumption
      · split at h1
        · cases h1
        · cases h1
    unfold nullT Lg
    rcases h45 with h4 | h5
    · rw [if_pos h4, if_pos h4, Bool.and_eq_true, ih, ih2]
      constructor
      · rintro ⟨p, q⟩; exact ⟨[], [], rfl, p, q⟩
      · rintro ⟨u, v, e, p, q⟩
        have := List.append_eq_nil_iff.1 e.symm
        rw [this.1] at p; rw [this.2] at q; exact ⟨p, q⟩
    · have h4 : ¬ t.kind = 4 := by omega
      rw [if_neg h4, if_neg h4, if_pos h5, Bool.or_eq_true, ih, ih2]
theorem der_lg (x : Int) : ∀ t : Tr, Okd t → Ex (derT x t) (fun w => Lg t (x :: w))
  | .l0 t, h => by
    unfold derT
    by_cases h3 : t.kind = 3 ∧ t.letter = x
    · rw [if_pos h3]
      refine ex2.iff fun w => ?_
      have : ¬ t.kind = 2 := by omega
      simp [Lg, this, h3.1, h3.2]
    · rw [if_neg h3]
      refine ex1.iff fun w => ?_
      unfold Lg
      by_cases h2 : t.kind = 2
      · simp [h2]
      · by_cases h4 : t.kind = 3
        · simp only [h2, h4, if_false, if_true, false_iff]
          intro e
          injection e with e1 e2
          exact h3 ⟨h4, e1.symm⟩
        · simp [h2, h4]
  | .l1 t a, h => by
    have ih := der_lg x a h.2
    have h67 : t.kind = 6 ∨ t.kind = 7 := by
      have h1 : arT t = 1 := h.1
      rw [arT_ok (by omega)] at h1
      unfold arK at h1
      split at h1
      · cases h1
      · split at h1
        · assumption
        · cases h1
    unfold derT
    rcases h67 with h6 | h7
    · rw [if_pos h6]
      have hs : Ex (a.flat ++ [t]) (Lg (.l1 t a)) := Ex.of (t := .l1 t a) h
      refine (ih.catE hs).iff fun w => ?_
      simp only [Lg6 h6]
      constructor
      · rintro ⟨u, v, e, p, k, q⟩; exact ⟨k + 1, by rw [e]; exact Pw.cons (u := x :: u) p q⟩
      · rintro ⟨k, p⟩
        obtain ⟨u, v, m, e, q, r, _⟩ := p.first
        exact ⟨u, v, e, q, m, r⟩
    · have h6 : ¬ t.kind = 6 := by omega
      have r7 := Okd.r7 h (show (Tr.l1 t a).tok.kind = 7 from h7)
      simp only [Tr.tok] at r7
      rw [if_neg h6]
      have hr := (Ex.of h.2).repE (low := if t.low - 1 > 0 then t.low - 1 else 0) (high := t.high - 1) (by split <;> omega)
      refine (ih.catE hr).iff fun w => ?_
      simp only [Lg7 h7]
      constructor
      · rintro ⟨u, v, e, p, k, q1, q2, q⟩
        exact ⟨k + 1, by split at q1 <;> omega, by omega, by rw [e]; exact Pw.cons (u := x :: u) p q⟩
      · rintro ⟨k, k1, k2, p⟩
        obtain ⟨u, v, m, e, q, r, hm, hn⟩ := p.first
        rcases hn with hn | hn
        · exact ⟨u, v, e, q, m, by split <;> omega, by omega, r⟩
        · exact ⟨u, v, e, q, k - 1, by split <;> omega, by omega, r.pad hn (by omega)⟩
  | .l2 t a b, h => by
    have ih := der_lg x a h.2.1
    have ih2 := der_lg x b h.2.2
    have h45 : t.kind = 4 ∨ t.kind = 5 := by
      have h1 : arT t = 2 := h.1
      rw [arT_ok (by omega)] at h1
      unfold arK at h1
      split at h1
      · assumption
      · split at h1
        · cases h1
        · cases h1
    have hb : Ex b.flat (Lg b) := Ex.of h.2.2
    unfold derT
    rcases h45 with h4 | h5
    · rw [if_pos h4]
      have hc := ih.catE hb
      have key : ∀ w, (∃ u v, x :: w = u ++ v ∧ Lg a u ∧ Lg b v) ↔ (∃ u v, w = u ++ v ∧ Lg a (x :: u) ∧ Lg b v) ∨ (Lg a [] ∧ Lg b (x :: w)) := fun w => by
        constructor
        · rintro ⟨u, v, e, p, q⟩
          cases u with
          | nil => right; simp only [List.nil_append] at e; rw [e]; exact ⟨p, q⟩
          | cons y u =>
            simp only [List.cons_append, List.cons.injEq] at e
            obtain ⟨rfl, e⟩ := e
            exact .inl ⟨u, v, e, p, q⟩
        · rintro (⟨u, v, e, p, q⟩ | ⟨p, q⟩)
          · exact ⟨x :: u, v, by rw [e]; rfl, p, q⟩
          · exact ⟨[], x :: w, rfl, p, q⟩
      by_cases hn : nullT a = true
      · rw [if_pos hn]
        refine (hc.uniE ih2).iff fun w => ?_
        simp only [Lg4 h4]
        rw [key w]
        exact ⟨fun p => p.elim .inl fun q => .inr ⟨(null_lg a h.2.1).1 hn, q⟩, fun p => p.elim .inl fun q => .inr q.2⟩
      · rw [if_neg hn]
        refine hc.iff fun w => ?_
        simp only [Lg4 h4]
        rw [key w]
        exact ⟨.inl, fun p => p.elim id fun q => (hn ((null_lg a h.2.1).2 q.1)).elim⟩
    · have h4 : ¬ t.kind = 4 := by omega
      rw [if_neg h4]
      refine (ih.uniE ih2).iff fun w => ?_
      simp only [Lg5 h5]
/-- derivatives by the letters of a word: what is left -/
theorem derW_lg : ∀ (w : List Int) (e r : List Token) (L : List Int → Prop), Ex e L → derW e w = some r → Ex r (fun v => L (w ++ v))
  | [], e, r, L, h, hd => by simp [derW] at hd; subst hd; exact h
  | x :: w, e, r, L, h, hd => by
    simp only [derW] at hd
    split at hd
    · rename_i hy
      obtain ⟨t, h1, h2, h3⟩ := id h
      have ht : treeL e = some t := by rw [h2]; exact treeL_flat h1
      have e1 : (derE e x).1 = derT x t := by
        unfold derE at hy ⊢; rw [ht] at hy ⊢
        simp only at hy ⊢
        split at hy
        · rename_i hc; rw [if_pos hc]
        · cases hy
      rw [e1] at hd
      have := derW_lg w _ r _ ((der_lg x t h1).iff fun v => h3 (x :: v)) hd
      exact this
    · cases hd
theorem dw_law {e : List Token} {w : List Int} (h1 : (dwE e w).2 = true) (h2 : ivE e = true) (h3 : IsWd w) : nullE (dwE e w).1 = mwE e w := by
  obtain ⟨t, ht, hok, hf, _⟩ := ivE_y h2
  unfold dwE at h1 ⊢
  split at h1
  · rename_i hc
    rw [if_pos hc]
    cases hd : derW e w with
    | none => rw [hd] at h1; cases h1
    | some r =>
      have := derW_lg w e r (Lg t) ⟨t, hok, hf, fun _ => Iff.rfl⟩ hd
      obtain ⟨s, s1, s2, s3⟩ := this
      simp only
      rw [mwE_y h2 h3 ht, Bool.eq_iff_iff, mt_w, ← nullE_y (t := s) (by rw [s2]; exact treeL_flat s1), null_lg s s1, s3]
      show Lg t (w ++ []) ↔ _
      rw [List.append_nil]
  · cases h1
/-- a letter that does not stand in an expression: nothing is left -/
theorem der_no {x : Int} : ∀ t : Tr, x ∉ letT t → derT x t = [⟨1, 0, 0, 0⟩]
  | .l0 t, h => by
    unfold derT
    rw [if_neg]
    rintro ⟨h3, rfl⟩
    apply h; unfold letT; rw [if_pos h3]; exact List.mem_singleton.2 rfl
  | .l1 t a, h => by
    have ih := der_no a (by unfold letT at h; exact h)
    unfold derT; rw [ih]
    split <;> simp [catE, isK]
  | .l2 t a b, h => by
    unfold letT at h
    have iha := der_no a (fun k => h (List.mem_append_left _ k))
    have ihb := der_no b (fun k => h (List.mem_append_right _ k))
    unfold derT; rw [iha, ihb]
    have e1 : catE [⟨1, 0, 0, 0⟩] b.flat = [⟨1, 0, 0, 0⟩] := by simp [catE, isK]
    rw [e1]
    repeat' split
    all_goals simp [uniE, isK]
/-! ### What whole expressions hold -/
section
variable {e a b : List Token} {L M : List Int → Prop} {w : List Int}
theorem nullE_ex (h : Ex e L) : nullE e = true ↔ L [] := by
  obtain ⟨t, h1, h2, h3⟩ := h
  rw [← nullE_y (t := t) (by rw [h2]; exact treeL_flat h1), null_lg t h1, h3]
theorem mwE_ex (h : Ex e L) (hv : ivE e = true) (hw : IsWd w) : mwE e w = true ↔ L w := by
  obtain ⟨t, h1, h2, h3⟩ := h
  rw [mwE_y hv hw (t := t) (by rw [h2]; exact treeL_flat h1), mt_w, h3]
theorem ivE_ex (h : ivE e = true) : ∃ L, Ex e L := by
  obtain ⟨t, _, ok, f, _⟩ := ivE_y h
  exact ⟨Lg t, t, ok, f, fun _ => Iff.rfl⟩
theorem isE_ex (h : isE e = true) : ∃ L, Ex e L := by
  obtain ⟨t, _, ok, f⟩ := isE_y h
  exact ⟨Lg t, t, ok, f, fun _ => Iff.rfl⟩
theorem cat_isE (ha : ivE a = true) (hb : ivE b = true) : isE (catE a b) = true := by
  obtain ⟨L, h⟩ := ivE_ex ha; obtain ⟨M, k⟩ := ivE_ex hb; exact (h.catE k).isE
theorem uni_isE (ha : ivE a = true) (hb : ivE b = true) : isE (uniE a b) = true := by
  obtain ⟨L, h⟩ := ivE_ex ha; obtain ⟨M, k⟩ := ivE_ex hb; exact (h.uniE k).isE
theorem star_isE (ha : ivE a = true) : isE (starE a) = true := by
  obtain ⟨L, h⟩ := ivE_ex ha; exact h.starE.isE
theorem cat_null (ha : ivE a = true) (hb : ivE b = true) : nullE (catE a b) = (nullE a && nullE b) := by
  obtain ⟨L, h⟩ := ivE_ex ha; obtain ⟨M, k⟩ := ivE_ex hb
  rw [Bool.eq_iff_iff, nullE_ex (h.catE k), Bool.and_eq_true, nullE_ex h, nullE_ex k]
  constructor
  · rintro ⟨u, v, e, p, q⟩
    obtain ⟨rfl, rfl⟩ := List.append_eq_nil_iff.1 e.symm
    exact ⟨p, q⟩
  · rintro ⟨p, q⟩; exact ⟨[], [], rfl, p, q⟩
theorem uni_null (ha : ivE a = true) (hb : ivE b = true) : nullE (uniE a b) = (nullE a || nullE b) := by
  obtain ⟨L, h⟩ := ivE_ex ha; obtain ⟨M, k⟩ := ivE_ex hb
  rw [Bool.eq_iff_iff, nullE_ex (h.uniE k), Bool.or_eq_true, nullE_ex h, nullE_ex k]
theorem star_null (ha : ivE a = true) : nullE (starE a) = true := by
  obtain ⟨L, h⟩ := ivE_ex ha
  exact (nullE_ex h.starE).2 ⟨0, rfl⟩
theorem uni_mw (ha : ivE a = true) (hb : ivE b = true) (hu : ivE (uniE a b) = true) (hw : IsWd w) : mwE (uniE a b) w = (mwE a w || mwE b w) := by
  obtain ⟨L, h⟩ := ivE_ex ha; obtain ⟨M, k⟩ := ivE_ex hb
  rw [Bool.eq_iff_iff, mwE_ex (h.uniE k) hu hw, Bool.or_eq_true, mwE_ex h ha hw, mwE_ex k hb hw]
theorem alph_letT {t : Tr} {x : Int} (h : treeL e = some t) (hx : 0 ≤ x ∧ x ≤ 8) (hn : x ∉ alphR e) : x ∉ letT t := fun hm => hn (by
  have hi : isE e = true := by unfold isE; rw [h]; rfl
  obtain ⟨y, hy, hk, hl⟩ := letT_flat t x hm
  rw [(treeL_ok h).2] at hy
  have hL : ((x.toNat : Nat) : Int) ∈ letL e e.length := by
    unfold letL
    rw [List.take_length]
    exact List.mem_map.2 ⟨y, List.mem_filter.2 ⟨hy, by simp [hk]⟩, by omega⟩
  have hb := (letm_bit (isE_letOk hi) x.toNat e.length).2 hL
  unfold alphR
  rw [hi]
  show x ∈ bitsL (letM e e.length) 30
  unfold bitsL
  exact List.mem_map.2 ⟨x.toNat, List.mem_filter.2 ⟨List.mem_range.2 (by omega), hb⟩, by omega⟩)
/-- the derivative by a letter that stands nowhere holds nothing -/
theorem der_none {x : Int} (h : (derE e x).2 = true) (hn : x ∉ alphR e) : alphR (derE e x).1 = [] ∧ nullE (derE e x).1 = false := by
  unfold derE at h ⊢
  cases ht : treeL e with
  | none => rw [ht] at h; cases h
  | some t =>
    rw [ht] at h
    simp only at h ⊢
    split at h
    · rename_i hc
      rw [if_pos hc, der_no t (alph_letT ht hc.2.1 hn)]
      constructor
      · unfold alphR
        rw [ex1.isE]
        show bitsL 0 30 = []
        decide
      · rfl
    · cases h
end
end Go.KLib

/- Words up to a length: their order, and that no matched word lacks. -/
namespace Go.KLib
/-- the order of words of one length -/
def lexI : List Int → List Int → Int
  | [], [] => 0
  | [], _ :: _ => -1
  | _ :: _, [] => 1
  | x :: a, y :: b => if x < y then -1 else if y < x then 1 else lexI a b
def cmpWd (a b : List Int) : Int := if a.length < b.length then -1 else if b.length < a.length then 1 else lexI a b
theorem lexI_step {a b : List Int} {i : Nat} {x y : Int} (ha : a[i]? = some x) (hb : b[i]? = some y) (h1 : ¬ x < y) (h2 : ¬ y < x) (h : lexI (a.drop i) (b.drop i) = lexI a b) : lexI (a.drop (i + 1)) (b.drop (i + 1)) = lexI a b := by
  rw [drop_of ha, drop_of hb] at h
  rw [← h, lexI, if_neg h1, if_neg h2]
theorem lexI_lt {a b : List Int} {i : Nat} {x y : Int} (ha : a[i]? = some x) (hb : b[i]? = some y) (h1 : x < y) (h : lexI (a.drop i) (b.drop i) = lexI a b) : -1 = lexI a b := by
  rw [drop_of ha, drop_of hb] at h
  rw [← h, lexI, if_pos h1]
theorem lexI_gt {a b : List Int} {i : Nat} {x y : Int} (ha : a[i]? = some x) (hb : b[i]? = some y) (h1 : y < x) (h : lexI (a.drop i) (b.drop i) = lexI a b) : 1 = lexI a b := by
  rw [drop_of ha, drop_of hb] at h
  rw [← h, lexI, if_neg (by omega), if_pos h1]
theorem lexI_end {a b : List Int} {i : Nat} (hi : a.length ≤ i ∨ b.length ≤ i) (hk : i ≤ a.length ∧ i ≤ b.length) (h : lexI (a.drop i) (b.drop i) = lexI a b) : (if a.length < b.length then -1 else if b.length < a.length then 1 else 0 : Int) = lexI a b := by
  rw [← h]
  by_cases h1 : a.length ≤ i
  · rw [List.drop_of_length_le h1]
    cases hb : b.drop i with
    | nil => have := congrArg List.length hb; simp at this; rw [if_neg (by omega), if_neg (by omega)]; rfl
    | cons y l => have := congrArg List.length hb; simp at this; rw [if_pos (by omega)]; rfl
  · rw [List.drop_of_length_le (l := b) (by omega)]
    cases ha : a.drop i with
    | nil => have := congrArg List.length ha; simp at this; omega
    | cons y l => have := congrArg List.length ha; simp at this; rw [if_neg (by omega), if_pos (by omega)]; rfl
theorem lexI_rng : ∀ a b : List Int, -1 ≤ lexI a b ∧ lexI a b ≤ 1
  | [], [] => by simp [lexI]
  | [], _ :: _ => by simp [lexI]
  | _ :: _, [] => by simp [lexI]
  | x :: a, y :: b => by
    have := lexI_rng a b
    unfold lexI; split
    · omega
    · split <;> omega
theorem val_fold : ∀ (w : List Int) (a : Nat), w.foldl (fun a c => 9 * a + c.toNat + 1) a = a * 9 ^ w.length + val w
  | [], a => by simp [val]
  | c :: w, a => by
    have h1 := val_fold w (9 * a + c.toNat + 1)
    have h2 := val_fold w (9 * 0 + c.toNat + 1)
    have h3 : val (c :: w) = w.foldl (fun a c => 9 * a + c.toNat + 1) (9 * 0 + c.toNat + 1) := rfl
    rw [List.foldl_cons, h1, h3, h2, List.length_cons, Nat.pow_succ]
    simp only [Nat.add_mul, Nat.mul_zero, Nat.zero_add]
    have : 9 * a * 9 ^ w.length = a * (9 ^ w.length * 9) := by rw [Nat.mul_comm 9 a, Nat.mul_assoc, Nat.mul_comm 9]
    omega
theorem val_cons (c : Int) (w : List Int) : val (c :: w) = (c.toNat + 1) * 9 ^ w.length + val w := by
  have h3 : val (c :: w) = w.foldl (fun a c => 9 * a + c.toNat + 1) (9 * 0 + c.toNat + 1) := rfl
  rw [h3, val_fold]; simp
theorem rep9_pow : ∀ n, 8 * rep9 n + 1 = 9 ^ n
  | 0 => rfl
  | n + 1 => by have := rep9_pow n; rw [Nat.pow_succ, rep9]; omega
theorem lex_val : ∀ {a b : List Int}, okW a → okW b → a.length = b.length → val a < val b → lexI a b = -1
  | [], [], _, _, _, h => by simp at h
  | [], _ :: _, _, _, h, _ => by simp at h
  | _ :: _, [], _, _, h, _ => by simp at h
  | x :: a, y :: b, ha, hb, hl, h => by
    have hl' : a.length = b.length := by simpa using hl
    have ha' : okW a := fun c hc => ha c (List.mem_cons_of_mem _ hc)
    have hb' : okW b := fun c hc => hb c (List.mem_cons_of_mem _ hc)
    have hx := ha x (by simp)
    have hy := hb y (by simp)
    rw [val_cons, val_cons, hl'] at h
    have va := val_len ha'
    have vb := val_len hb'
    rw [hl'] at va
    have hp := rep9_pow b.length
    unfold lexI
    by_cases h1 : x < y
    · rw [if_pos h1]
    · by_cases h2 : y < x
      · exfalso
        have h3 : (y.toNat + 1) + 1 ≤ x.toNat + 1 := by omega
        have h4 := Nat.mul_le_mul_right (9 ^ b.length) h3
        rw [Nat.add_mul (y.toNat + 1) 1, Nat.one_mul] at h4
        omega
      · rw [if_neg h1, if_neg h2]
        have : x = y := by omega
        subst this
        exact lex_val ha' hb' hl' (by omega)
theorem cmp_val {a b : List Int} (ha : okW a) (hb : okW b) (h : val a < val b) : cmpWd a b < 0 := by
  have hl := len_of_val ha hb (Nat.le_of_lt h)
  unfold cmpWd
  by_cases h1 : a.length < b.length
  · rw [if_pos h1]; omega
  · rw [if_neg h1, if_neg (by omega), lex_val ha hb (by omega) h]; omega
theorem R9_ok {c : Int} (h : c ∈ R9) : 0 ≤ c ∧ c ≤ 8 := by
  unfold R9 at h
  obtain ⟨i, hi, rfl⟩ := List.mem_map.1 h
  have := List.mem_range.1 hi
  omega
theorem wd_ok : ∀ {k : Nat} {w : List Int}, w ∈ wdL R9 k → okW w
  | 0, w, h => by rw [List.mem_singleton.1 h]; exact okW_nil
  | k + 1, w, h => by
    obtain ⟨u, hu, hw⟩ := List.mem_flatMap.1 h
    obtain ⟨c, hc, rfl⟩ := List.mem_map.1 hw
    exact okW_snoc.2 ⟨wd_ok hu, R9_ok hc⟩
theorem wdl_all : ∀ (w : List Int), okW w → w ∈ wdL R9 w.length := fun w => by
  induction w using snoc_ind with
  | h0 => intro _; exact List.mem_singleton.2 rfl
  | h1 u c ih =>
    intro h
    obtain ⟨h1, h2⟩ := okW_snoc.1 h
    rw [List.length_append, List.length_singleton]
    refine List.mem_flatMap.2 ⟨u, ih h1, List.mem_map.2 ⟨c, ?_, rfl⟩⟩
    unfold R9
    exact List.mem_map.2 ⟨c.toNat, List.mem_range.2 (by omega), by omega⟩
theorem wd_srt : ∀ k, (wdL R9 k).Pairwise fun a b => val a < val b
  | 0 => List.pairwise_singleton _ _
  | k + 1 => by
    refine List.pairwise_flatMap.2 ⟨fun w _ => ?_, (wd_srt k).imp fun {a b} hab => ?_⟩
    · refine List.pairwise_map.2 ?_
      have : R9.Pairwise fun c d => c.toNat < d.toNat := by decide
      exact this.imp fun {c d} h => by rw [val_snoc, val_snoc]; omega
    · intro x hx y hy
      obtain ⟨c, hc, rfl⟩ := List.mem_map.1 hx
      obtain ⟨d, hd, rfl⟩ := List.mem_map.1 hy
      have := R9_ok hc
      rw [val_snoc, val_snoc]; omega
theorem wu_srt {t : Tr} {m : Nat} : (wuT R9 t m).Pairwise fun a b => val a < val b := by
  refine List.pairwise_flatMap.2 ⟨fun k _ => (wd_srt k).filter _, ?_⟩
  refine List.pairwise_lt_range.imp fun {i j} hij => ?_
  intro x hx y hy
  have h1 := (List.mem_filter.1 hx).1
  have h2 := (List.mem_filter.1 hy).1
  refine Nat.lt_of_not_le fun q => ?_
  have := len_of_val (wd_ok h2) (wd_ok h1) q
  rw [wdL_len h1, wdL_len h2] at this; omega
section
variable {e : List Token} {n : Int} {w u : List Int} {i : Nat}
theorem wu_mem (h : w ∈ wuR e n) : (w.length : Int) ≤ n ∧ okW w ∧ mwE e w = true := by
  unfold wuR at h
  split at h
  · rename_i hc
    obtain ⟨t, ht, _⟩ := ivE_y hc.1
    rw [ht] at h
    obtain ⟨k, hk, hw⟩ := List.mem_flatMap.1 h
    obtain ⟨h1, h2⟩ := List.mem_filter.1 hw
    have hl := wdL_len h1
    have hk' := List.mem_range.1 hk
    have ok := wd_ok h1
    refine ⟨by omega, ok, ?_⟩
    have hd : IsWd w := ⟨fun j x hj hx => ok x (List.mem_of_getElem? hx), by omega⟩
    rw [mwE_y hc.1 hd ht]; exact h2
  · cases h
theorem wu_adj {x y : List Int} (hx : (wuR e n)[i - 1]? = some x) (hy : (wuR e n)[i]? = some y) (hi : 0 < i) : cmpWd x y < 0 := by
  refine cmp_val (wu_mem (List.mem_of_getElem? hx)).2.1 (wu_mem (List.mem_of_getElem? hy)).2.1 ?_
  unfold wuR at hx hy
  split at hx
  · rename_i hc
    obtain ⟨t, ht, _⟩ := ivE_y hc.1
    rw [if_pos hc, ht] at hy
    rw [ht] at hx
    obtain ⟨b1, e1⟩ := List.getElem?_eq_some_iff.1 hx
    obtain ⟨b2, e2⟩ := List.getElem?_eq_some_iff.1 hy
    have := List.pairwise_iff_getElem.1 (wu_srt (t := t) (m := (n + 1).toNat)) (i - 1) i b1 b2 (by omega)
    rw [e1, e2] at this; exact this
  · simp at hx
theorem wu_has (hl : (w.length : Int) ≤ n) (hn : n ≤ 3) (h : mwE e w = true) : w ∈ wuR e n := by
  unfold mwE at h
  simp only [Bool.and_eq_true] at h
  obtain ⟨⟨h1, h2⟩, h3⟩ := h
  obtain ⟨t, ht, _⟩ := ivE_y h1
  have hw := tt_iff.1 h2
  unfold wuR
  rw [if_pos ⟨h1, by omega, hn⟩, ht]
  rw [ht] at h3
  have ok : okW w := fun c hc => by
    obtain ⟨j, hj⟩ := List.getElem?_of_mem hc
    exact wd_val hw hj
  exact List.mem_flatMap.2 ⟨w.length, List.mem_range.2 (by omega), List.mem_filter.2 ⟨wdl_all w ok, h3⟩⟩
end
end Go.KLib

/- The position automaton of an expression takes the expression's words. -/
namespace Go.KLib
def Rn (E : Nat → Nat → Prop) (La : Nat → Int → Prop) : Nat → List Int → Nat → Prop
  | p, [], q => p = q
  | p, c :: w, q => ∃ r, E p r ∧ La r c ∧ Rn E La r w q
def Ac (E : Nat → Nat → Prop) (La : Nat → Int → Prop) (f l : Nat → Prop) (n : Prop) : List Int → Prop
  | [] => n
  | c :: w => ∃ p q, f p ∧ La p c ∧ Rn E La p w q ∧ l q
section
variable {E E' Ex Ey : Nat → Nat → Prop} {La : Nat → Int → Prop} {f l fx lx fy ly sx : Nat → Prop} {n nx ny : Prop} {p q r : Nat} {u v w : List Int}
theorem Rn.app : ∀ {u : List Int} {p : Nat}, Rn E La p u q → Rn E La q v r → Rn E La p (u ++ v) r
  | [], p, h, k => by rw [show p = q from h]; exact k
  | c :: u, p, ⟨s, a, b, h⟩, k => ⟨s, a, b, h.app k⟩
theorem Rn.mono (h : ∀ p q, E p q → E' p q) : ∀ {w : List Int} {p : Nat}, Rn E La p w q → Rn E' La p w q
  | [], _, e => e
  | _ :: _, _, ⟨s, a, b, k⟩ => ⟨s, h _ _ a, b, k.mono h⟩
/-- round again -/
theorem ac_star : Ac (fun p q => E p q ∨ (l p ∧ f q)) La f l True w ↔ ∃ k, Pw (Ac E La f l n) k w := by
  constructor
  · intro h
    have key : ∀ (w : List Int) (p q : Nat), Rn (fun p q => E p q ∨ (l p ∧ f q)) La p w q → l q → ∃ u v, w = u ++ v ∧ (∃ q1, Rn E La p u q1 ∧ l q1) ∧ ∃ k, Pw (Ac E La f l n) k v := by
      intro w
      induction w with
      | nil => intro p q h hl; exact ⟨[], [], rfl, ⟨p, rfl, by rw [show p = q from h]; exact hl⟩, 0, rfl⟩
      | cons c w ih =>
        rintro p q ⟨s, a, b, h⟩ hl
        obtain ⟨u, v, e, ⟨q1, h1, h2⟩, k, h3⟩ := ih s q h hl
        rcases a with a | ⟨a1, a2⟩
        · exact ⟨c :: u, v, by rw [e]; rfl, ⟨q1, ⟨s, a, b, h1⟩, h2⟩, k, h3⟩
        · exact ⟨[], c :: w, rfl, ⟨p, rfl, a1⟩, k + 1, by rw [e]; exact Pw.cons (u := c :: u) (show Ac E La f l n (c :: u) from ⟨s, q1, a2, b, h1, h2⟩) h3⟩
    cases w with
    | nil => exact ⟨0, rfl⟩
    | cons c w =>
      obtain ⟨p, q, h1, h2, h3, h4⟩ := h
      obtain ⟨u, v, e, ⟨q1, h5, h6⟩, k, h7⟩ := key w p q h3 h4
      exact ⟨k + 1, by rw [e]; exact Pw.cons (u := c :: u) (show Ac E La f l n (c :: u) from ⟨p, q1, h1, h2, h5, h6⟩) h7⟩
  · rintro ⟨k, h⟩
    induction k generalizing w with
    | zero => rw [show w = [] from h]; trivial
    | succ k ih =>
      obtain ⟨u, v, e, h1, h2⟩ := Pw.uncons h
      have h3 := ih h2
      cases u with
      | nil => rw [e]; exact h3
      | cons c u =>
        obtain ⟨p, q, a1, a2, a3, a4⟩ := h1
        have a5 := a3.mono (E' := fun p q => E p q ∨ (l p ∧ f q)) (fun _ _ => .inl)
        rw [e]
        cases v with
        | nil => rw [List.append_nil]; exact ⟨p, q, a1, a2, a5, a4⟩
        | cons d v =>
          obtain ⟨p2, q2, b1, b2, b3, b4⟩ := h3
          exact ⟨p, q2, a1, a2, a5.app (v := d :: v) ⟨p2, .inr ⟨a4, b1⟩, b2, b3⟩, b4⟩
/-- one behind the other -/
theorem ac_cat (hx : ∀ p q, Ex p q → sx p ∧ sx q) (hy : ∀ p q, Ey p q → ¬ sx p ∧ ¬ sx q) (hfx : ∀ p, fx p → sx p) (hlx : ∀ p, lx p → sx p) (hfy : ∀ p, fy p → ¬ sx p) (hly : ∀ p, ly p → ¬ sx p) :
    Ac (fun p q => Ex p q ∨ Ey p q ∨ (lx p ∧ fy q)) La (fun p => fx p ∨ (nx ∧ fy p)) (fun p => ly p ∨ (ny ∧ lx p)) (nx ∧ ny) w ↔ ∃ u v, w = u ++ v ∧ Ac Ex La fx lx nx u ∧ Ac Ey La fy ly ny v := by
  have ky : ∀ (w : List Int) (p q : Nat), ¬ sx p → Rn (fun p q => Ex p q ∨ Ey p q ∨ (lx p ∧ fy q)) La p w q → Rn Ey La p w q ∧ ¬ sx q := by
    intro w
    induction w with
    | nil => intro p q hp h; exact ⟨h, by rw [← show p = q from h]; exact hp⟩
    | cons c w ih =>
      rintro p q hp ⟨s, a, b, h⟩
      rcases a with a | a | a
      · exact (hp (hx _ _ a).1).elim
      · have := ih s q (hy _ _ a).2 h
        exact ⟨⟨s, a, b, this.1⟩, this.2⟩
      · exact (hp (hlx _ a.1)).elim
  have kx : ∀ (w : List Int) (p q : Nat), sx p → Rn (fun p q => Ex p q ∨ Ey p q ∨ (lx p ∧ fy q)) La p w q → (sx q ∧ Rn Ex La p w q) ∨ (¬ sx q ∧ ∃ u c v p1 p2, w = u ++ c :: v ∧ Rn Ex La p u p1 ∧ lx p1 ∧ fy p2 ∧ La p2 c ∧ Rn Ey La p2 v q) := by
    intro w
    induction w with
    | nil => intro p q hp h; exact .inl ⟨by rw [← show p = q from h]; exact hp, h⟩
    | cons c w ih =>
      rintro p q hp ⟨s, a, b, h⟩
      rcases a with a | a | a
      · rcases ih s q (hx _ _ a).2 h with ⟨h1, h2⟩ | ⟨h1, u, d, v, p1, p2, e, h2, h3, h4, h5, h6⟩
        · exact .inl ⟨h1, s, a, b, h2⟩
        · exact .inr ⟨h1, c :: u, d, v, p1, p2, by rw [e]; rfl, ⟨s, a, b, h2⟩, h3, h4, h5, h6⟩
      · exact ((hy _ _ a).1 hp).elim
      · have := ky w s q (hfy _ a.2) h
        exact .inr ⟨this.2, [], c, w, p, s, rfl, rfl, a.1, a.2, b, this.1⟩
  constructor
  · intro h
    cases w with
    | nil => exact ⟨[], [], rfl, h.1, h.2⟩
    | cons c w =>
      obtain ⟨p, q, h1, h2, h3, h4⟩ := h
      rcases h1 with h1 | ⟨h0, h1⟩
      · rcases kx w p q (hfx _ h1) h3 with ⟨k1, k2⟩ | ⟨k1, u, d, v, p1, p2, e, k2, k3, k4, k5, k6⟩
        · rcases h4 with h4 | ⟨h4, h5⟩
          · exact (hly _ h4 k1).elim
          · exact ⟨c :: w, [], by simp, ⟨p, q, h1, h2, k2, h5⟩, h4⟩
        · rcases h4 with h4 | ⟨h4, h5⟩
          · exact ⟨c :: u, d :: v, by rw [e]; rfl, ⟨p, p1, h1, h2, k2, k3⟩, ⟨p2, q, k4, k5, k6, h4⟩⟩
          · exact (k1 (hlx _ h5)).elim
      · have k := ky w p q (hfy _ h1) h3
        rcases h4 with h4 | ⟨h4, h5⟩
        · exact ⟨[], c :: w, rfl, h0, ⟨p, q, h1, h2, k.1, h4⟩⟩
        · exact (k.2 (hlx _ h5)).elim
  · rintro ⟨u, v, e, h1, h2⟩
    rw [e]
    cases u with
    | nil =>
      cases v with
      | nil => exact ⟨h1, h2⟩
      | cons d v =>
        obtain ⟨p, q, a1, a2, a3, a4⟩ := h2
        exact ⟨p, q, .inr ⟨h1, a1⟩, a2, a3.mono fun _ _ h => .inr (.inl h), .inl a4⟩
    | cons c u =>
      obtain ⟨p, q, a1, a2, a3, a4⟩ := h1
      have a5 := a3.mono (E' := fun p q => Ex p q ∨ Ey p q ∨ (lx p ∧ fy q)) fun _ _ h => .inl h
      cases v with
      | nil => rw [List.append_nil]; exact ⟨p, q, .inl a1, a2, a5, .inr ⟨h2, a4⟩⟩
      | cons d v =>
        obtain ⟨p2, q2, b1, b2, b3, b4⟩ := h2
        exact ⟨p, q2, .inl a1, a2, a5.app (v := d :: v) ⟨p2, .inr (.inr ⟨a4, b1⟩), b2, b3.mono fun _ _ h => .inr (.inl h)⟩, .inl b4⟩
/-- either -/
theorem ac_uni (hx : ∀ p q, Ex p q → sx p ∧ sx q) (hy : ∀ p q, Ey p q → ¬ sx p ∧ ¬ sx q) (hfx : ∀ p, fx p → sx p) (hlx : ∀ p, lx p → sx p) (hfy : ∀ p, fy p → ¬ sx p) (hly : ∀ p, ly p → ¬ sx p) :
    Ac (fun p q => Ex p q ∨ Ey p q) La (fun p => fx p ∨ fy p) (fun p => lx p ∨ ly p) (nx ∨ ny) w ↔ Ac Ex La fx lx nx w ∨ Ac Ey La fy ly ny w := by
  have ky : ∀ (w : List Int) (p q : Nat), ¬ sx p → Rn (fun p q => Ex p q ∨ Ey p q) La p w q → Rn Ey La p w q ∧ ¬ sx q := by
    intro w
    induction w with
    | nil => intro p q hp h; exact ⟨h, by rw [← show p = q from h]; exact hp⟩
    | cons c w ih =>
      rintro p q hp ⟨s, a, b, h⟩
      rcases a with a | a
      · exact (hp (hx _ _ a).1).elim
      · have := ih s q (hy _ _ a).2 h
        exact ⟨⟨s, a, b, this.1⟩, this.2⟩
  have kx : ∀ (w : List Int) (p q : Nat), sx p → Rn (fun p q => Ex p q ∨ Ey p q) La p w q → Rn Ex La p w q ∧ sx q := by
    intro w
    induction w with
    | nil => intro p q hp h; exact ⟨h, by rw [← show p = q from h]; exact hp⟩
    | cons c w ih =>
      rintro p q hp ⟨s, a, b, h⟩
      rcases a with a | a
      · have := ih s q (hx _ _ a).2 h
        exact ⟨⟨s, a, b, this.1⟩, this.2⟩
      · exact ((hy _ _ a).1 hp).elim
  cases w with
  | nil => exact Iff.rfl
  | cons c w =>
    constructor
    · rintro ⟨p, q, h1, h2, h3, h4⟩
      rcases h1 with h1 | h1
      · have k := kx w p q (hfx _ h1) h3
        rcases h4 with h4 | h4
        · exact .inl ⟨p, q, h1, h2, k.1, h4⟩
        · exact (hly _ h4 k.2).elim
      · have k := ky w p q (hfy _ h1) h3
        rcases h4 with h4 | h4
        · exact (k.2 (hlx _ h4)).elim
        · exact .inr ⟨p, q, h1, h2, k.1, h4⟩
    · rintro (⟨p, q, h1, h2, h3, h4⟩ | ⟨p, q, h1, h2, h3, h4⟩)
      · exact ⟨p, q, .inl h1, h2, h3.mono fun _ _ => .inl, .inl h4⟩
      · exact ⟨p, q, .inr h1, h2, h3.mono fun _ _ => .inr, .inr h4⟩
/-- with other signs for the same -/
theorem ac_same {f' l' : Nat → Prop} {n' : Prop} (hE : ∀ p q, E p q ↔ E' p q) (hf : ∀ p, f p ↔ f' p) (hl : ∀ p, l p ↔ l' p) (hn : n ↔ n') : Ac E La f l n w ↔ Ac E' La f' l' n' w := by
  have e1 : E = E' := funext fun p => funext fun q => propext (hE p q)
  have e2 : f = f' := funext fun p => propext (hf p)
  have e3 : l = l' := funext fun p => propext (hl p)
  have e4 : n = n' := propext hn
  rw [e1, e2, e3, e4]
end
end Go.KLib

/- Positions of an expression as masks: what they take is the expression's language. -/
namespace Go.KLib
def bt (m : Int) (p : Nat) : Prop := m.toNat.testBit p = true
instance {m : Int} {p : Nat} : Decidable (bt m p) := inferInstanceAs (Decidable (_ = true))
def okm (m : Int) (n : Nat) : Prop := 0 ≤ m ∧ m.toNat < 2 ^ n
section
variable {a b m l f : Int} {n k p q s : Nat} {F L : List Int}
theorem okm.up (h : okm m n) (hn : n ≤ k) : okm m k := ⟨h.1, Nat.lt_of_lt_of_le h.2 (Nat.pow_le_pow_right (by decide) hn)⟩
theorem okm.lt62 (h : okm m n) (hn : n ≤ 60) : m < 4611686018427387904 := by
  have h1 := (h.up hn).2
  have h2 : (2 : Nat) ^ 60 = 1152921504606846976 := by decide
  have := h.1
  omega
theorem bt_lt (h : okm m n) (hb : bt m p) : p < n := by
  refine Nat.lt_of_not_le fun hp => ?_
  have := Nat.testBit_lt_two_pow (Nat.lt_of_lt_of_le h.2 (Nat.pow_le_pow_right (by decide) hp))
  unfold bt at hb; rw [this] at hb; cases hb
theorem bt0 : ¬ bt 0 p := by simp [bt]
theorem okm0 : okm 0 n := ⟨Int.le_refl _, Nat.two_pow_pos n⟩
theorem ok_or (ha : okm a n) (hb : okm b n) (hn : n ≤ 60) : okm (ior a b) n := by
  obtain ⟨x, rfl⟩ := Int.eq_ofNat_of_zero_le ha.1
  obtain ⟨y, rfl⟩ := Int.eq_ofNat_of_zero_le hb.1
  rw [ior_nat (by have := ha.lt62 hn; omega) (by have := hb.lt62 hn; omega)]
  exact ⟨by omega, by rw [Int.toNat_natCast]; exact Nat.or_lt_two_pow ha.2 hb.2⟩
theorem bt_or (ha : okm a n) (hb : okm b n) (hn : n ≤ 60) : bt (ior a b) p ↔ bt a p ∨ bt b p := by
  obtain ⟨x, rfl⟩ := Int.eq_ofNat_of_zero_le ha.1
  obtain ⟨y, rfl⟩ := Int.eq_ofNat_of_zero_le hb.1
  rw [ior_nat (by have := ha.lt62 hn; omega) (by have := hb.lt62 hn; omega)]
  unfold bt
  simp [Nat.testBit_or]
theorem ok_one (hs : s < n) (hn : n ≤ 60) : okm (ishl 1 s) n := by
  rw [ishl_one (by omega)]
  exact ⟨Int.natCast_nonneg _, by rw [Int.toNat_natCast]; exact Nat.pow_lt_pow_right (by decide) hs⟩
theorem bt_one (hs : s < 60) : bt (ishl 1 s) p ↔ p = s := by
  rw [ishl_one (by omega)]
  unfold bt
  rw [Int.toNat_natCast, Nat.testBit_two_pow]
  simp [eq_comm]
theorem bt_iff (h : okm m n) (hn : n ≤ 60) (hp : p ≤ 64) : iand (ishr m p) 1 = 1 ↔ bt m p := by
  have h1 := h.lt62 hn
  constructor
  · intro e; exact bit_y e h.1 h1 hp
  · intro e
    apply Classical.byContradiction
    intro hc
    have := bit_n hc h.1 h1 hp
    unfold bt at e; rw [this] at e; cases e
theorem lk_get (hl : okm l n) (hn : n ≤ 60) : ∀ k, k ≤ F.length → k ≤ 60 → ∀ p, (lkN l f F k).getD p 0 = if p < k ∧ bt l p then ior (F.getD p 0) f else F.getD p 0
  | 0, _, _, p => by simp [lkN]
  | k + 1, hk, hk2, p => by
    have ih := lk_get hl hn k (by omega) (by omega)
    have hlen := lkN_len l f F k
    rw [lkN]
    by_cases hb : bt l k
    · rw [if_pos ((bt_iff hl hn (by omega)).2 hb), List.getD_eq_getElem?_getD, List.getElem?_set]
      by_cases e : k = p
      · subst e
        rw [if_pos rfl, if_pos (by omega), if_pos ⟨by omega, hb⟩, ih k, if_neg (by omega)]; rfl
      · rw [if_neg e, ← List.getD_eq_getElem?_getD, ih p]
        by_cases hc : p < k ∧ bt l p
        · rw [if_pos hc, if_pos ⟨by omega, hc.2⟩]
        · rw [if_neg hc, if_neg (fun c => hc ⟨by omega, c.2⟩)]
    · rw [if_neg (fun c => hb ((bt_iff hl hn (by omega)).1 c)), ih p]
      by_cases hc : p < k ∧ bt l p
      · rw [if_pos hc, if_pos ⟨by omega, hc.2⟩]
      · rw [if_neg hc, if_neg]
        rintro ⟨c1, c2⟩
        have : p ≠ k := fun e => hb (e ▸ c2)
        exact hc ⟨by omega, c2⟩
theorem lkL_get (hl : okm l n) (hn : n ≤ 60) (hF : F.length = n) (p : Nat) : (lkL l f F).getD p 0 = if bt l p then ior (F.getD p 0) f else F.getD p 0 := by
  unfold lkL
  rw [lk_get hl hn F.length (Nat.le_refl _) (by omega) p]
  by_cases hb : bt l p
  · rw [if_pos ⟨by rw [hF]; exact bt_lt hl hb, hb⟩, if_pos hb]
  · rw [if_neg (fun c => hb c.2), if_neg hb]
end
def NoR : Tr → Prop
  | .l0 _ => True
  | .l1 t x => ¬ t.kind = 7 ∧ NoR x
  | .l2 _ x y => NoR x ∧ NoR y
def Ed (F : List Int) (m : Nat) (p q : Nat) : Prop := m ≤ p ∧ bt (F.getD p 0) q
structure Gk (L : List Int) (F : List Int) (t : Tr) (r : BPd) : Prop where
  X : ∃ X, r.L = L ++ X
  len : r.F.length = r.L.length
  old : ∀ p, p < L.length → r.F.getD p 0 = F.getD p 0
  f1 : okm r.f r.L.length
  f2 : ∀ p, bt r.f p → L.length ≤ p
  l1 : okm r.l r.L.length
  l2 : ∀ p, bt r.l p → L.length ≤ p
  F1 : ∀ p, L.length ≤ p → okm (r.F.getD p 0) r.L.length
  F2 : ∀ p q, L.length ≤ p → bt (r.F.getD p 0) q → L.length ≤ q
  ac : ∀ La : Nat → Int → Prop, (∀ p c, L.length ≤ p → p < r.L.length → (La p c ↔ r.L[p]? = some c)) → ∀ w, Ac (Ed r.F L.length) La (bt r.f) (bt r.l) (r.n = true) w ↔ Lg t w
theorem Gk.le {L F : List Int} {t : Tr} {r : BPd} (h : Gk L F t r) : L.length ≤ r.L.length := by
  obtain ⟨X, hX⟩ := h.X
  rw [hX, List.length_append]; omega
theorem getD_over {F : List Int} {p : Nat} (h : F.length ≤ p) : F.getD p 0 = 0 := by
  rw [List.getD_eq_getElem?_getD, List.getElem?_eq_none h]; rfl
theorem bp_gk : ∀ (t : Tr) (L F : List Int), Okd t → NoR t → F.length = L.length → (bpT t L F).L.length ≤ 50 → Gk L F t (bpT t L F)
  | .l0 t, L, F, hok, _, hF, hb => by
    unfold bpT at hb ⊢
    by_cases h2 : t.kind = 2
    · rw [if_pos h2]
      refine ⟨⟨[], by simp⟩, hF, fun _ _ => rfl, okm0, fun p h => (bt0 h).elim, okm0, fun p h => (bt0 h).elim, fun p hp => ?_, fun p q hp h => ?_, fun La _ w => ?_⟩
      · show okm (F.getD p 0) _; rw [getD_over (by omega)]; exact okm0
      · replace h : bt (F.getD p 0) q := h; rw [getD_over (by omega)] at h; exact (bt0 h).elim
      · simp only [Lg, if_pos h2]
        cases w with
        | nil => simp [Ac]
        | cons c w => simp only [Ac]; exact ⟨fun ⟨p, q, h, _⟩ => (bt0 h).elim, fun h => by cases h⟩
    · by_cases h3 : t.kind = 3
      · rw [if_neg h2, if_pos h3] at hb ⊢
        simp only [List.length_append, List.length_singleton] at hb
        have e0 : (F ++ [0]).getD L.length 0 = 0 := by rw [List.getD_eq_getElem?_getD, ← hF]; simp
        have e1 : ∀ p, L.length ≤ p → (F ++ [0]).getD p 0 = 0 := fun p hp => by
          by_cases e : p = L.length
          · rw [e, e0]
          · exact getD_over (by simp; omega)
        refine ⟨⟨[t.letter], rfl⟩, by simp [hF], fun p hp => ?_, ?_, fun p h => ?_, ?_, fun p h => ?_, fun p hp => ?_, fun p q hp h => ?_, fun La hLa w => ?_⟩
        · show (F ++ [0]).getD p 0 = _
          rw [List.getD_eq_getElem?_getD, List.getElem?_append_left (by omega), ← List.getD_eq_getElem?_getD]
        · exact ok_one (by simp) (by simp; omega)
        · rw [(bt_one (by omega)).1 h]; exact Nat.le_refl _
        · exact ok_one (by simp) (by simp; omega)
        · rw [(bt_one (by omega)).1 h]; exact Nat.le_refl _
        · show okm ((F ++ [0]).getD p 0) _; rw [e1 p hp]; exact okm0
        · replace h : bt ((F ++ [0]).getD p 0) q := h; rw [e1 p hp] at h; exact (bt0 h).elim
        · have hl := hLa L.length
          simp only [List.length_append, List.length_singleton] at hl
          simp only [Lg, if_neg h2, if_pos h3]
          cases w with
          | nil => simp [Ac]
          | cons c w =>
            simp only [Ac]
            constructor
            · rintro ⟨p, q, h4, h5, h6, h7⟩
              have hp := (bt_one (by omega)).1 h4
              subst hp
              have h8 := (hl c (Nat.le_refl _) (by omega)).1 h5
              simp at h8
              cases w with
              | nil => rw [h8]
              | cons d w =>
                obtain ⟨r, h9, _⟩ := h6
                have := h9.2
                rw [e0] at this
                exact (bt0 this).elim
            · intro e
              injection e with e1 e2
              subst e1 e2
              exact ⟨L.length, L.length, (bt_one (by omega)).2 rfl, (hl _ (Nat.le_refl _) (by omega)).2 (by simp), rfl, (bt_one (by omega)).2 rfl⟩
      · rw [if_neg h2, if_neg h3]
        refine ⟨⟨[], by simp⟩, hF, fun _ _ => rfl, okm0, fun p h => (bt0 h).elim, okm0, fun p h => (bt0 h).elim, fun p hp => ?_, fun p q hp h => ?_, fun La _ w => ?_⟩
        · show okm (F.getD p 0) _; rw [getD_over (by omega)]; exact okm0
        · replace h : bt (F.getD p 0) q := h; rw [getD_over (by omega)] at h; exact (bt0 h).elim
        · simp only [Lg, if_neg h2, if_neg h3]
          cases w with
          | nil => simp [Ac]
          | cons c w => simp only [Ac]; exact ⟨fun ⟨p, q, h, _⟩ => (bt0 h).elim, fun h => h.elim⟩
  | .l1 t x, L, F, hok, hnr, hF, hb => by
    have h6 : t.kind = 6 := by
      have h1 : arT t = 1 := hok.1
      have h2 := hnr.1
      rw [arT_ok (by omega)] at h1
      unfold arK at h1
      split at h1
      · cases h1
      · split at h1
        · omega
        · cases h1
    unfold bpT at hb ⊢
    rw [if_pos h6] at hb ⊢
    have g := bp_gk x L F hok.2 hnr.2 hF hb
    have hle := g.le
    have hn : (bpT x L F).L.length ≤ 60 := by simp only at hb; omega
    have hg := lkL_get (f := (bpT x L F).f) g.l1 hn g.len
    refine ⟨g.X, by simp only [lkL_len]; exact g.len, fun p hp => ?_, g.f1, g.f2, g.l1, g.l2, fun p hp => ?_, fun p q hp h => ?_, fun La hLa w => ?_⟩
    · simp only; rw [hg, if_neg (fun c => by have := g.l2 p c; omega)]; exact g.old p hp
    · simp only; rw [hg]; split
      · exact ok_or (g.F1 p hp) g.f1 hn
      · exact g.F1 p hp
    · simp only at h; rw [hg] at h
      split at h
      · rcases (bt_or (g.F1 p hp) g.f1 hn).1 h with h | h
        · exact g.F2 p q hp h
        · exact g.f2 q h
      · exact g.F2 p q hp h
    · have hE : ∀ p q, Ed (lkL (bpT x L F).l (bpT x L F).f (bpT x L F).F) L.length p q ↔ (Ed (bpT x L F).F L.length p q ∨ (bt (bpT x L F).l p ∧ bt (bpT x L F).f q)) := fun p q => by
        unfold Ed
        rw [hg]
        by_cases hb : bt (bpT x L F).l p
        · have hp := g.l2 p hb
          rw [if_pos hb, bt_or (g.F1 p hp) g.f1 hn]
          simp [hp, hb]
        · rw [if_neg hb]; simp [hb]
      rw [ac_same hE (fun _ => Iff.rfl) (fun _ => Iff.rfl) (show (true = true) ↔ True by simp), ac_star]
      simp only [Lg, if_pos h6]
      have e : Ac (Ed (bpT x L F).F L.length) La (bt (bpT x L F).f) (bt (bpT x L F).l) ((bpT x L F).n = true) = Lg x := funext fun w => propext (g.ac La hLa w)
      rw [e]
  | .l2 t x y, L, F, hok, hnr, hF, hb => by
    have h45 : t.kind = 4 ∨ t.kind = 5 := by
      have h1 : arT t = 2 := hok.1
      rw [arT_ok (by omega)] at h1
      unfold arK at h1
      split at h1
      · assumption
      · split at h1
        · cases h1
        · cases h1
    have hbL : (bpT y (bpT x L F).L (bpT x L F).F).L.length ≤ 50 := by
      unfold bpT at hb
      rcases h45 with h4 | h5
      · rw [if_pos h4] at hb; exact hb
      · rw [if_neg (by omega), if_pos h5] at hb; exact hb
    have hbx : (bpT x L F).L.length ≤ (bpT y (bpT x L F).L (bpT x L F).F).L.length := by
      have : ∀ (t : Tr) (L F : List Int), L.length ≤ (bpT t L F).L.length := fun t => by
        induction t with
        | l0 t =>
          intro L F; unfold bpT
          by_cases h2 : t.kind = 2
          · rw [if_pos h2]; exact Nat.le_refl _
          · by_cases h3 : t.kind = 3
            · rw [if_neg h2, if_pos h3]; simp
            · rw [if_neg h2, if_neg h3]; exact Nat.le_refl _
        | l1 t x ih =>
          intro L F; unfold bpT
          by_cases h6 : t.kind = 6
          · rw [if_pos h6]; exact ih L F
          · rw [if_neg h6]; exact Nat.le_refl _
        | l2 t x y ih1 ih2 =>
          intro L F
          have h1 := ih1 L F
          have h2 := ih2 (bpT x L F).L (bpT x L F).F
          unfold bpT
          by_cases h4 : t.kind = 4
          · rw [if_pos h4]; simp only; omega
          · by_cases h5 : t.kind = 5
            · rw [if_neg h4, if_pos h5]; simp only; omega
            · rw [if_neg h4, if_neg h5]; exact Nat.le_refl _
      exact this y _ _
    have gx := bp_gk x L F hok.2.1 hnr.1 hF (by omega)
    have gy := bp_gk y (bpT x L F).L (bpT x L F).F hok.2.2 hnr.2 gx.len hbL
    generalize hX : bpT x L F = rx at *
    generalize hY : bpT y rx.L rx.F = ry at *
    have hn : ry.L.length ≤ 60 := by omega
    have lx := gx.le
    have ly := gy.le
    obtain ⟨X, eX⟩ := gx.X
    obtain ⟨Y, eY⟩ := gy.X
    have xf := gx.f1.up ly
    have xl := gx.l1.up ly
    have hxy : ∀ p, L.length ≤ p → ry.F.getD p 0 = rx.F.getD p 0 ∨ rx.L.length ≤ p := fun p _ => by
      by_cases h : p < rx.L.length
      · exact .inl (gy.old p h)
      · exact .inr (by omega)
    have okY : ∀ p, L.length ≤ p → okm (ry.F.getD p 0) ry.L.length := fun p hp => by
      by_cases h : p < rx.L.length
      · rw [gy.old p h]; exact (gx.F1 p hp).up ly
      · exact gy.F1 p (by omega)
    have geY : ∀ p q, L.length ≤ p → bt (ry.F.getD p 0) q → L.length ≤ q := fun p q hp h => by
      by_cases h2 : p < rx.L.length
      · rw [gy.old p h2] at h; exact gx.F2 p q hp h
      · have := gy.F2 p q (by omega) h; omega
    have oldY : ∀ p, p < L.length → ry.F.getD p 0 = F.getD p 0 := fun p hp => by rw [gy.old p (by omega), gx.old p hp]
    have edX : ∀ p q, Ed rx.F L.length p q → p < rx.L.length ∧ q < rx.L.length := fun p q h => by
      constructor
      · refine Nat.lt_of_not_le fun hp => ?_
        have := h.2
        rw [getD_over (by rw [gx.len]; exact hp)] at this
        exact bt0 this
      · exact bt_lt (gx.F1 p h.1) h.2
    have edY : ∀ p q, Ed ry.F rx.L.length p q → ¬ p < rx.L.length ∧ ¬ q < rx.L.length := fun p q h => ⟨by have := h.1; omega, by have := gy.F2 p q h.1 h.2; omega⟩
    have split : ∀ p q, Ed ry.F L.length p q ↔ (Ed rx.F L.length p q ∨ Ed ry.F rx.L.length p q) := fun p q => by
      unfold Ed
      by_cases h : p < rx.L.length
      · rw [gy.old p h]
        exact ⟨fun k => .inl k, fun k => k.elim id (fun k => by have := k.1; omega)⟩
      · rw [getD_over (F := rx.F) (by rw [gx.len]; omega)]
        exact ⟨fun k => .inr ⟨by omega, k.2⟩, fun k => k.elim (fun k => (bt0 k.2).elim) fun k => ⟨by omega, k.2⟩⟩
    have acX : ∀ La : Nat → Int → Prop, (∀ p c, L.length ≤ p → p < ry.L.length → (La p c ↔ ry.L[p]? = some c)) → ∀ w, Ac (Ed rx.F L.length) La (bt rx.f) (bt rx.l) (rx.n = true) w ↔ Lg x w := fun La hLa =>
      gx.ac La fun p c h1 h2 => by rw [hLa p c h1 (by omega), eY, List.getElem?_append_left h2]
    have acY : ∀ La : Nat → Int → Prop, (∀ p c, L.length ≤ p → p < ry.L.length → (La p c ↔ ry.L[p]? = some c)) → ∀ w, Ac (Ed ry.F rx.L.length) La (bt ry.f) (bt ry.l) (ry.n = true) w ↔ Lg y w := fun La hLa =>
      gy.ac La fun p c h1 h2 => hLa p c (by omega) h2
    unfold bpT
    rw [hX, hY]
    rcases h45 with h4 | h5
    · rw [if_pos h4]
      have hg := lkL_get (f := ry.f) xl hn gy.len
      refine ⟨⟨X ++ Y, by simp only; rw [eY, eX, List.append_assoc]⟩, by simp only [lkL_len]; exact gy.len, fun p hp => ?_, ?_, fun p h => ?_, ?_, fun p h => ?_, fun p hp => ?_, fun p q hp h => ?_, fun La hLa w => ?_⟩
      · simp only; rw [hg, if_neg (fun c => by have := gx.l2 p c; omega)]; exact oldY p hp
      · simp only; split
        · exact ok_or xf gy.f1 hn
        · exact xf
      · simp only at h
        split at h
        · rcases (bt_or xf gy.f1 hn).1 h with h | h
          · exact gx.f2 p h
          · have := gy.f2 p h; omega
        · exact gx.f2 p h
      · simp only; split
        · exact ok_or xl gy.l1 hn
        · exact gy.l1
      · simp only at h
        split at h
        · rcases (bt_or xl gy.l1 hn).1 h with h | h
          · exact gx.l2 p h
          · have := gy.l2 p h; omega
        · have := gy.l2 p h; omega
      · simp only; rw [hg]; split
        · exact ok_or (okY p hp) gy.f1 hn
        · exact okY p hp
      · simp only at h; rw [hg] at h
        split at h
        · rcases (bt_or (okY p hp) gy.f1 hn).1 h with h | h
          · exact geY p q hp h
          · have := gy.f2 q h; omega
        · exact geY p q hp h
      · have hE : ∀ p q, Ed (lkL rx.l ry.f ry.F) L.length p q ↔ (Ed rx.F L.length p q ∨ Ed ry.F rx.L.length p q ∨ (bt rx.l p ∧ bt ry.f q)) := fun p q => by
          have h0 : Ed (lkL rx.l ry.f ry.F) L.length p q ↔ (Ed ry.F L.length p q ∨ (bt rx.l p ∧ bt ry.f q)) := by
            unfold Ed
            rw [hg]
            by_cases hb : bt rx.l p
            · have hp := gx.l2 p hb
              rw [if_pos hb, bt_or (okY p hp) gy.f1 hn]
              simp [hp, hb]
            · rw [if_neg hb]; simp [hb]
          rw [h0, split, or_assoc]
        have hf : ∀ p, bt (if rx.n = true then ior rx.f ry.f else rx.f) p ↔ (bt rx.f p ∨ (rx.n = true ∧ bt ry.f p)) := fun p => by
          split
          · rename_i hq; rw [bt_or xf gy.f1 hn]; simp [hq]
          · rename_i hq; simp [hq]
        have hl : ∀ p, bt (if ry.n = true then ior rx.l ry.l else ry.l) p ↔ (bt ry.l p ∨ (ry.n = true ∧ bt rx.l p)) := fun p => by
          split
          · rename_i hq; rw [bt_or xl gy.l1 hn]; simp [hq, or_comm]
          · rename_i hq; simp [hq]
        rw [ac_same hE hf hl (show (rx.n && ry.n) = true ↔ (rx.n = true ∧ ry.n = true) by simp),
          ac_cat (sx := fun p => p < rx.L.length) edX edY (fun p h => bt_lt gx.f1 h) (fun p h => bt_lt gx.l1 h) (fun p h => by have := gy.f2 p h; omega) (fun p h => by have := gy.l2 p h; omega)]
        simp only [Lg, if_pos h4]
        exact ⟨fun ⟨u, v, e, p, q⟩ => ⟨u, v, e, (acX La hLa u).1 p, (acY La hLa v).1 q⟩, fun ⟨u, v, e, p, q⟩ => ⟨u, v, e, (acX La hLa u).2 p, (acY La hLa v).2 q⟩⟩
    · rw [if_neg (by omega), if_pos h5]
      refine ⟨⟨X ++ Y, by simp only; rw [eY, eX, List.append_assoc]⟩, gy.len, oldY, ok_or xf gy.f1 hn, fun p h => ?_, ok_or xl gy.l1 hn, fun p h => ?_, okY, geY, fun La hLa w => ?_⟩
      · rcases (bt_or xf gy.f1 hn).1 h with h | h
        · exact gx.f2 p h
        · have := gy.f2 p h; omega
      · rcases (bt_or xl gy.l1 hn).1 h with h | h
        · exact gx.l2 p h
        · have := gy.l2 p h; omega
      · rw [ac_same split (fun p => bt_or xf gy.f1 hn) (fun p => bt_or xl gy.l1 hn) (show (rx.n || ry.n) = true ↔ (rx.n = true ∨ ry.n = true) by simp),
          ac_uni (sx := fun p => p < rx.L.length) edX edY (fun p h => bt_lt gx.f1 h) (fun p h => bt_lt gx.l1 h) (fun p h => by have := gy.f2 p h; omega) (fun p h => by have := gy.l2 p h; omega), acX La hLa, acY La hLa]
        simp only [Lg, if_neg (show ¬ t.kind = 4 by omega), if_pos h5]
end Go.KLib

