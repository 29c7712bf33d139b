/- Searches for a word: the queue's entries, the nodes of the reference's list, and what is known of both. -/
import Derived.Test.YthcoliemlekojaaJR
namespace Go.KLib

/-- an entry of the queue: a place and the slice of its word -/
structure Qt (T : Type) where
  x : T
  s : Sv
abbrev Qs := Qt St2
abbrev Qi := Qt Int
def Qs.cs (q : Qs) : List Value := [.int .i64 q.x.a, .int .i64 q.x.b, .slice q.s.A q.s.n q.s.c]
def Qi.cs (q : Qi) : List Value := [.int .i64 q.x, .slice q.s.A q.s.n q.s.c]
theorem Qs.len (s : Qs) : (Qs.cs s).length = 3 := rfl
theorem Qi.len (s : Qi) : (Qi.cs s).length = 2 := rfl
theorem Qs.one (x : Qs) : ∀ y ∈ Qs.cs x, y.oneCell' = true := by intro y hy; simp [Qs.cs] at hy; rcases hy with rfl | rfl | rfl <;> rfl
theorem Qi.one (x : Qi) : ∀ y ∈ Qi.cs x, y.oneCell' = true := by intro y hy; simp [Qi.cs] at hy; rcases hy with rfl | rfl <;> rfl

section
variable {T : Type}
def zq (E : List (T × List Int)) (V : List Sv) : List (Qt T) := List.zipWith (fun e s => ⟨e.1, s⟩) E V
theorem zq_len {E : List (T × List Int)} {V : List Sv} (h : V.length = E.length) : (zq E V).length = E.length := by simp [zq, h]
theorem zq_snoc {E : List (T × List Int)} {V : List Sv} {e : T × List Int} {s : Sv} (h : V.length = E.length) : zq (E ++ [e]) (V ++ [s]) = zq E V ++ [⟨e.1, s⟩] := by
  unfold zq; rw [List.zipWith_append h.symm]; rfl
theorem zq_get {E : List (T × List Int)} {V : List Sv} {k : Nat} {y : Qt T} (h : ((zq E V).drop k)[0]? = some y) : ∃ x u s, E[k]? = some (x, u) ∧ V[k]? = some s ∧ y = ⟨x, s⟩ := by
  rw [List.getElem?_drop, Nat.add_zero] at h
  unfold zq at h
  rw [List.getElem?_zipWith] at h
  rcases hE : E[k]? with _ | ⟨x, u⟩
  · rw [hE] at h; simp at h
  · rcases hV : V[k]? with _ | s
    · rw [hE, hV] at h; simp at h
    · rw [hE, hV] at h; simp at h; exact ⟨x, u, s, rfl, rfl, h.symm⟩
theorem zq_drop {E : List (T × List Int)} {V : List Sv} {k : Nat} {e : T × List Int} {s : Sv} (h : V.length = E.length) (hk : k ≤ E.length) : (zq (E ++ [e]) (V ++ [s])).drop k = (zq E V).drop k ++ [⟨e.1, s⟩] := by
  rw [zq_snoc h, List.drop_append_of_le_length (by rw [zq_len h]; exact hk)]
end

section
variable {T : Type} [DecidableEq T] {nx : T → Nat → T} {t0 : T} {ts : T → Bool}
theorem bx_y {e : T × List Int} {E : List (T × List Int)} {m : Nat} (h : nx e.1 m ∈ (bx nx e E m).map (·.1)) : bx nx e E (m + 1) = bx nx e E m := by
  show (if _ then _ else _) = _
  rw [if_pos h]
theorem bx_n {e : T × List Int} {E : List (T × List Int)} {m : Nat} (h : ¬ nx e.1 m ∈ (bx nx e E m).map (·.1)) : bx nx e E (m + 1) = bx nx e E m ++ [(nx e.1 m, e.2 ++ [(m : Int)])] := by
  show (if _ then _ else _) = _
  rw [if_neg h]
theorem bE_1 : 1 ≤ (bE nx t0 0).length := Nat.le_refl _
theorem bE_le : ∀ k, k ≤ (bE nx t0 k).length ∨ (bE nx t0 k).length ≤ k := fun k => Nat.le_total _ _
theorem bx_wlen {e : T × List Int} {E : List (T × List Int)} {n : Nat} (hE : ∀ x ∈ E, x.2.length ≤ n) (he : e.2.length < n) : ∀ m, ∀ x ∈ bx nx e E m, x.2.length ≤ n
  | 0 => hE
  | m + 1 => by
    unfold bx; split
    · exact bx_wlen hE he m
    · intro x hx
      rcases List.mem_append.1 hx with hx | hx
      · exact bx_wlen hE he m x hx
      · rw [List.mem_singleton.1 hx]; simp; omega
theorem bE_wlen : ∀ k, ∀ x ∈ bE nx t0 k, x.2.length ≤ k
  | 0 => fun x hx => by rw [show bE nx t0 0 = [(t0, [])] from rfl, List.mem_singleton] at hx; rw [hx]; exact Nat.le_refl _
  | k + 1 => by
    have ih := bE_wlen k
    rcases hq : (bE nx t0 k)[k]? with _ | e
    · rw [bE_stop (List.getElem?_eq_none_iff.1 hq)]; intro x hx; have := ih x hx; omega
    · rw [bE_succ hq]
      have := ih e (mem_of_get hq)
      exact bx_wlen (fun x hx => by have := ih x hx; omega) (by omega) 9
theorem bres_hit {k : Nat} {e : T × List Int} (h : (bE nx t0 k)[k]? = some e) (ht : ts e.1 = true) (hf : ∀ j x, j < k → (bE nx t0 j)[j]? = some x → ts x.1 = false) : BRes nx t0 ts (e.2, true) := .inl ⟨rfl, k, e, h, ht, rfl, hf⟩
theorem bres_none {k : Nat} (h : (bE nx t0 k).length ≤ k) (hf : ∀ j x, j < k → (bE nx t0 j)[j]? = some x → ts x.1 = false) : BRes nx t0 ts ([], false) := .inr ⟨rfl, k, h, hf⟩
theorem fst_step {k : Nat} {e : T × List Int} (hf : ∀ j x, j < k → (bE nx t0 j)[j]? = some x → ts x.1 = false) (h : (bE nx t0 k)[k]? = some e) (ht : ts e.1 = false) : ∀ j x, j < k + 1 → (bE nx t0 j)[j]? = some x → ts x.1 = false := by
  intro j x hj hx
  rcases Nat.lt_or_ge j k with q | q
  · exact hf j x q hx
  · have : j = k := by omega
    subst this; rw [h] at hx; injection hx with hx; rw [← hx]; exact ht
end

/-! ### The places of automata -/
def nxI (N : List (List Int)) (s : Int) (k : Nat) : Int := moveA N s k
def nxS (N M : List (List Int)) (s : St2) (k : Nat) : St2 := ⟨moveA N s.a k, moveA M s.b k⟩
def tsD (A B : List Bool) (only : Bool) (x : St2) : Bool := (accA B x.b && !accA A x.a) || (accA A x.a && !accA B x.b && !only)
def inA (A : List Bool) (x : Int) : Prop := -1 ≤ x ∧ x ≤ (A.length : Int) - 1
def inS (A B : List Bool) (x : St2) : Prop := inA A x.a ∧ inA B x.b
section
variable {SA SB : Int} {A B : List Bool} {N M : List (List Int)}
theorem inI_all (e : ValidA SA A N) {s : Int} (hs : inA A s) (k : Nat) : ∀ x ∈ bE (nxI N) s k, inA A x.1 :=
  bE_all (Q := inA A) hs (fun t k ht _ => move_rng e ht) k
theorem inS_all (e : ValidA SA A N) (e' : ValidA SB B M) {s : St2} (hs : inS A B s) (k : Nat) : ∀ x ∈ bE (nxS N M) s k, inS A B x.1 :=
  by
  refine bE_all (Q := inS A B) hs (fun t j ht _ => ?_) k
  have h1 : inA A (moveA N t.a j) := move_rng e ht.1
  have h2 : inA B (moveA M t.b j) := move_rng e' ht.2
  exact ⟨h1, h2⟩
theorem lenI (e : ValidA SA A N) {s : Int} (hs : inA A s) (k : Nat) : (bE (nxI N) s k).length ≤ 13 := by
  have h1 := e.1
  have := nodup_map (fun x : Int => (x + 1).toNat) 13 (bE_nodup (nx := nxI N) (t0 := s) k) (fun x hx y hy h => by
    obtain ⟨a, ha, rfl⟩ := List.mem_map.1 hx
    obtain ⟨b, hb, rfl⟩ := List.mem_map.1 hy
    have p := inI_all e hs k a ha
    have q := inI_all e hs k b hb
    unfold inA at p q
    omega) (fun x hx => by
    obtain ⟨a, ha, rfl⟩ := List.mem_map.1 hx
    have p := inI_all e hs k a ha
    unfold inA at p
    omega)
  simpa using this
theorem lenS (e : ValidA SA A N) (e' : ValidA SB B M) {s : St2} (hs : inS A B s) (k : Nat) : (bE (nxS N M) s k).length ≤ 169 := by
  have h1 := e.1
  have h2 := e'.1
  have := nodup_map (fun x : St2 => (x.a + 1).toNat * 13 + (x.b + 1).toNat) 169 (bE_nodup (nx := nxS N M) (t0 := s) k) (fun x hx y hy h => by
    obtain ⟨a, ha, rfl⟩ := List.mem_map.1 hx
    obtain ⟨b, hb, rfl⟩ := List.mem_map.1 hy
    have p := inS_all e e' hs k a ha
    have q := inS_all e e' hs k b hb
    unfold inS inA at p q
    have h3 : a.1.a = b.1.a := by omega
    have h4 : a.1.b = b.1.b := by omega
    obtain ⟨⟨_, _⟩, _⟩ := a
    obtain ⟨⟨_, _⟩, _⟩ := b
    simp only at h3 h4
    rw [h3, h4]) (fun x hx => by
    obtain ⟨a, ha, rfl⟩ := List.mem_map.1 hx
    have p := inS_all e e' hs k a ha
    unfold inS inA at p
    omega)
  simpa using this
theorem run_b (s : St2) (v : List Int) : (runT (nxS N M) s v).b = runT (nxI M) s.b v := by
  induction v using snoc_ind with
  | h0 => rfl
  | h1 v c ih => rw [runT_snoc, runT_snoc]; show moveA M _ _ = moveA M _ _; rw [ih]
theorem run_a (s : St2) (v : List Int) : (runT (nxS N M) s v).a = runT (nxI N) s.a v := by
  induction v using snoc_ind with
  | h0 => rfl
  | h1 v c ih => rw [runT_snoc, runT_snoc]; show moveA N _ _ = moveA N _ _; rw [ih]
end
/-- which words tell two places apart -/
def difF (A : List Bool) (N : List (List Int)) (B : List Bool) (M : List (List Int)) (s : St2) (only : Bool) (v : List Int) : Bool := tsD A B only (runT (nxS N M) s v)
noncomputable def difR (A : List Bool) (N : List (List Int)) (B : List Bool) (M : List (List Int)) (s : St2) (only : Bool) : List Int × Bool := lwF (difF A N B M s only)
noncomputable def msR (SA : Int) (A : List Bool) (N : List (List Int)) (SB : Int) (B : List Bool) (M : List (List Int)) : List Int × Bool := by
  classical exact if ValidA SA A N ∧ ValidA SB B M then difR A N B M ⟨SA, SB⟩ true else ([], false)
noncomputable def dwR (S : Int) (A : List Bool) (N : List (List Int)) (s t : Int) : List Int × Bool := by
  classical exact if ValidA S A N ∧ (0 ≤ s ∧ s ≤ (A.length : Int) - 1) ∧ (0 ≤ t ∧ t ≤ (A.length : Int) - 1) then difR A N A N ⟨s, t⟩ false else ([], false)
noncomputable def saR (S : Int) (A : List Bool) (N : List (List Int)) : List Int × Bool := by
  classical exact if ValidA S A N then lwF (fun v => accA A (runT (nxI N) S v)) else ([], false)
section
variable {SA SB s t : Int} {A B : List Bool} {N M : List (List Int)}
theorem msR_y (h : ValidA SA A N) (h' : ValidA SB B M) : msR SA A N SB B M = difR A N B M ⟨SA, SB⟩ true := by unfold msR; rw [if_pos ⟨h, h'⟩]
theorem msR_n (h : ¬ (ValidA SA A N ∧ ValidA SB B M)) : msR SA A N SB B M = ([], false) := by unfold msR; rw [if_neg h]
theorem dwR_y (h : ValidA SA A N) (h1 : 0 ≤ s ∧ s ≤ (A.length : Int) - 1) (h2 : 0 ≤ t ∧ t ≤ (A.length : Int) - 1) : dwR SA A N s t = difR A N A N ⟨s, t⟩ false := by unfold dwR; rw [if_pos ⟨h, h1, h2⟩]
theorem dwR_n (h : ¬ (ValidA SA A N ∧ (0 ≤ s ∧ s ≤ (A.length : Int) - 1) ∧ (0 ≤ t ∧ t ≤ (A.length : Int) - 1))) : dwR SA A N s t = ([], false) := by unfold dwR; rw [if_neg h]
theorem saR_y (h : ValidA SA A N) : saR SA A N = lwF (fun v => accA A (runT (nxI N) SA v)) := by unfold saR; rw [if_pos h]
theorem saR_n (h : ¬ ValidA SA A N) : saR SA A N = ([], false) := by unfold saR; rw [if_neg h]
theorem dif_eq {r : List Int × Bool} {only : Bool} {x : St2} (h : BRes (nxS N M) x (tsD A B only) r) : r = difR A N B M x only := bres_lw h
theorem acc_false (x : Int) : accA [false] x = false := by
  unfold accA
  rcases h : x.toNat with _ | n <;> simp
theorem sa_nothing {M0 : List (List Int)} (h : ValidA 0 [false] M0) : msR 0 [false] M0 SA A N = saR SA A N := by
  by_cases hv : ValidA SA A N
  · rw [msR_y h hv, saR_y hv]
    unfold difR
    congr 1
    funext v
    unfold difF tsD
    rw [acc_false, run_b]; simp
  · rw [msR_n (fun q => hv q.2), saR_n hv]
end

/-! ### The reference's list -/
structure GNode where
  a : Int
  b : Int
  apart : Bool
  frm : Int
  by_ : Int
def GNode.cs (p : GNode) : List Value := [.int .i64 p.a, .int .i64 p.b, .bool p.apart, .int .i64 p.frm, .int .i64 p.by_]
theorem GNode.len (p : GNode) : p.cs.length = 5 := rfl
theorem GNode.one (x : GNode) : ∀ y ∈ x.cs, y.oneCell' = true := by intro y hy; simp [GNode.cs] at hy; rcases hy with rfl | rfl | rfl | rfl | rfl <;> rfl
/-- the nodes of the list are the places in their order; each names the node that it was found from -/
structure NdR (L : List GNode) (E : List (St2 × List Int)) : Prop where
  len : L.length = E.length
  at_ : ∀ (i : Nat) (n : GNode) (x : St2 × List Int), L[i]? = some n → E[i]? = some x → n.a = x.1.a ∧ n.b = x.1.b ∧ n.apart = false ∧ (i = 0 → x.2 = [])
  frm : ∀ (i : Nat) (n : GNode) (x : St2 × List Int), L[i]? = some n → E[i]? = some x → 0 < i → 0 ≤ n.frm ∧ n.frm < (i : Int) ∧ ∃ y, E[n.frm.toNat]? = some y ∧ x.2 = y.2 ++ [n.by_]
theorem ndr_0 {s : St2} : NdR [⟨s.a, s.b, false, 0, 0⟩] [(s, [])] := by
  refine ⟨rfl, fun i n x hn hx => ?_, fun i n x hn hx hi => ?_⟩
  · cases i with
    | zero => simp at hn hx; subst hn hx; exact ⟨rfl, rfl, rfl, fun _ => rfl⟩
    | succ i => simp at hn
  · cases i with
    | zero => omega
    | succ i => simp at hn
theorem ndr_snoc {L : List GNode} {E : List (St2 × List Int)} (h : NdR L E) {x y : St2 × List Int} {k m : Nat} (hk : E[k]? = some y) (hx : x.2 = y.2 ++ [(m : Int)]) : NdR (L ++ [⟨x.1.a, x.1.b, false, k, m⟩]) (E ++ [x]) := by
  have hk1 := (List.getElem?_eq_some_iff.1 hk).1
  have hl := h.len
  refine ⟨by simp [hl], fun i n z hn hz => ?_, fun i n z hn hz hi => ?_⟩
  · rcases get_snoc hn with ⟨a1, a2⟩ | ⟨a1, a2⟩
    · rcases get_snoc hz with ⟨b1, b2⟩ | ⟨b1, b2⟩
      · exact h.at_ i n z a2 b2
      · omega
    · rcases get_snoc hz with ⟨b1, b2⟩ | ⟨b1, b2⟩
      · omega
      · subst a2 b2; exact ⟨rfl, rfl, rfl, fun e => by omega⟩
  · rcases get_snoc hn with ⟨a1, a2⟩ | ⟨a1, a2⟩
    · rcases get_snoc hz with ⟨b1, b2⟩ | ⟨b1, b2⟩
      · obtain ⟨c1, c2, w, c3, c4⟩ := h.frm i n z a2 b2 hi
        exact ⟨c1, c2, w, by rw [List.getElem?_append_left (by omega)]; exact c3, c4⟩
      · omega
    · rcases get_snoc hz with ⟨b1, b2⟩ | ⟨b1, b2⟩
      · omega
      · subst a2 b2
        refine ⟨by simp, by simp; omega, y, ?_, hx⟩
        simp only [Int.toNat_natCast]
        rw [List.getElem?_append_left hk1]; exact hk
def hasN (L : List GNode) (z : GNode) (k : Nat) : Prop := ∃ i n, i < k ∧ L[i]? = some n ∧ n.a = z.a ∧ n.b = z.b ∧ n.apart = z.apart
theorem has_mem {L : List GNode} {E : List (St2 × List Int)} (h : NdR L E) {z : GNode} (hz : z.apart = false) : hasN L z L.length ↔ (⟨z.a, z.b⟩ : St2) ∈ E.map (·.1) := by
  have hl := h.len
  constructor
  · rintro ⟨i, n, hi, hn, h1, h2, _⟩
    have hx : E[i]? = some (E[i]'(by omega)) := List.getElem?_eq_getElem _
    have := h.at_ i n _ hn hx
    refine List.mem_map.2 ⟨_, mem_of_get hx, ?_⟩
    have e1 : (E[i]'(by omega)).1.a = z.a := by rw [← this.1, h1]
    have e2 : (E[i]'(by omega)).1.b = z.b := by rw [← this.2.1, h2]
    rw [← e1, ← e2]
  · intro hm
    obtain ⟨x, hx, he⟩ := List.mem_map.1 hm
    obtain ⟨i, hi1, hi2⟩ := List.getElem_of_mem hx
    have hn : L[i]? = some (L[i]'(by omega)) := List.getElem?_eq_getElem _
    have hxx : E[i]? = some x := List.getElem?_eq_some_iff.2 ⟨hi1, hi2⟩
    have := h.at_ i _ x hn hxx
    exact ⟨i, _, by omega, hn, by rw [this.1, he], by rw [this.2.1, he], by rw [this.2.2.1, hz]⟩
theorem has_step {L : List GNode} {z n : GNode} {k : Nat} (h : ¬ hasN L z k) (hn : L[k]? = some n) (hb : ¬ (n.a = z.a ∧ n.b = z.b ∧ n.apart = z.apart)) : ¬ hasN L z (k + 1) := by
  rintro ⟨i, m, hi, hm, hq⟩
  rcases Nat.lt_or_ge i k with q | q
  · exact h ⟨i, m, q, hm, hq⟩
  · have : i = k := by omega
    subst this; rw [hn] at hm; injection hm with hm; subst hm; exact hb hq
theorem has_zero {L : List GNode} {z : GNode} : ¬ hasN L z 0 := by rintro ⟨i, n, hi, _⟩; omega
theorem has_hit {L : List GNode} {z n : GNode} {k : Nat} (hn : L[k]? = some n) (h1 : n.a = z.a) (h2 : n.b = z.b) (h3 : n.apart = z.apart) : hasN L z L.length := ⟨k, n, (List.getElem?_eq_some_iff.1 hn).1, hn, h1, h2, h3⟩
theorem has_end {L : List GNode} {z : GNode} {k : Nat} (h : ¬ hasN L z k) (hk : L.length ≤ k) : ¬ hasN L z L.length := by
  rintro ⟨i, n, hi, hq⟩; exact h ⟨i, n, by omega, hq⟩
/-- the word of a node -/
def ndw (E : List (St2 × List Int)) (k : Int) : List Int := ((E[k.toNat]?).map (·.2)).getD []
theorem ndw_get {E : List (St2 × List Int)} {k : Nat} {x : St2 × List Int} (h : E[k]? = some x) : ndw E k = x.2 := by simp [ndw, h]
theorem ndw_zero {L : List GNode} {E : List (St2 × List Int)} {k : Int} (h : NdR L E) (hk : k ≤ 0) (hl : 0 < L.length) : ndw E k = [] := by
  have e : k.toNat = 0 := by omega
  have hl2 := h.len
  have hx : E[0]? = some (E[0]'(by omega)) := List.getElem?_eq_getElem _
  have hn : L[0]? = some (L[0]'hl) := List.getElem?_eq_getElem _
  unfold ndw; rw [e, hx]
  exact (h.at_ 0 _ _ hn hx).2.2.2 rfl
theorem ndw_step {L : List GNode} {E : List (St2 × List Int)} {k : Int} {n : GNode} (h : NdR L E) (hk : 0 < k) (hn : L[k.toNat]? = some n) : ndw E k = ndw E n.frm ++ [n.by_] ∧ 0 ≤ n.frm ∧ n.frm < k := by
  have hl := h.len
  have hi := (List.getElem?_eq_some_iff.1 hn).1
  have hx : E[k.toNat]? = some (E[k.toNat]'(by omega)) := List.getElem?_eq_getElem _
  obtain ⟨a, b, y, c, d⟩ := h.frm _ _ _ hn hx (by omega)
  refine ⟨?_, a, by omega⟩
  unfold ndw; rw [hx, c]; exact d
theorem ndw_len {E : List (St2 × List Int)} {k : Int} {m : Nat} (h : ∀ x ∈ E, x.2.length ≤ m) : (ndw E k).length ≤ m := by
  unfold ndw
  rcases hx : E[k.toNat]? with _ | x
  · simp
  · exact h x (mem_of_get hx)
/-- the queue's first entry, with its word -/
theorem zq_row {T : Type} {E : List (T × List Int)} {V : List Sv} {k : Nat} {y : Qt T} {e lo hi : Nat} {w : World} (h : ((zq E V).drop k)[0]? = some y) (o : Od ics e 1 w lo hi V (E.map (·.2))) :
    ∃ x u A C, E[k]? = some (x, u) ∧ V[k]? = some ⟨A, u.length, C⟩ ∧ y = ⟨x, ⟨A, u.length, C⟩⟩ ∧ Ls ics 1 w 0 w.heap.size (.slice A u.length C) u := by
  obtain ⟨x, u, s, h1, h2, h3⟩ := zq_get h
  obtain ⟨u', h4, h5⟩ := o.get h2
  rw [List.getElem?_map, h1] at h4
  simp at h4
  subst h4
  have h6 := h5.eqn
  obtain ⟨A, n, C⟩ := s
  subst h6
  exact ⟨x, u, A, C, h1, h2, h3, h5⟩
theorem zq_has {T : Type} {E : List (T × List Int)} {V : List Sv} {k : Nat} (hV : V.length = E.length) (h : 0 < ((zq E V).drop k).length) : k < E.length := by
  rw [List.length_drop, zq_len hV] at h; omega
theorem zq_no {T : Type} {E : List (T × List Int)} {V : List Sv} {k : Nat} (hV : V.length = E.length) (h : ¬ 0 < ((zq E V).drop k).length) : E.length ≤ k := by
  rw [List.length_drop, zq_len hV] at h; omega
theorem Od.one_nil {e lo hi : Nat} {w : World} : Od ics e 1 w lo hi [⟨none, 0, 0⟩] [([] : List Int)] := by
  refine ⟨rfl, fun i v x a b => ?_, fun i j u v a b hij => ?_⟩
  · cases i with
    | zero => simp at a b; subst a b; exact ⟨Ol.nil _, fun g hg => by cases hg⟩
    | succ i => simp at a
  · cases j with
    | zero => omega
    | succ j => simp at b
theorem nil1Sep {v : Value} : Sep v [⟨none, 0, 0⟩] := fun u hu g hg => by rw [List.mem_singleton.1 hu] at hg; cases hg
section
variable {T : Type} [DecidableEq T] {nx : T → Nat → T} {t0 : T}
theorem bx_lt {k m : Nat} {e : T × List Int} (h : (bE nx t0 k)[k]? = some e) : k < (bx nx e (bE nx t0 k) m).length := by
  have h1 := (List.getElem?_eq_some_iff.1 h).1
  have h2 := bx_len (nx := nx) e (bE nx t0 k) m
  omega
theorem bx_up (e : T × List Int) (E : List (T × List Int)) (m : Nat) : ∀ d, (bx nx e E m).length ≤ (bx nx e E (m + d)).length
  | 0 => Nat.le_refl _
  | d + 1 => by
    refine Nat.le_trans (bx_up e E m d) ?_
    show _ ≤ (if _ then _ else _ : List _).length
    split
    · exact Nat.le_refl _
    · simp
theorem bx_le9 {k m : Nat} {e : T × List Int} (h : (bE nx t0 k)[k]? = some e) (hm : m ≤ 9) : (bx nx e (bE nx t0 k) m).length ≤ (bE nx t0 (k + 1)).length := by
  rw [bE_succ h]
  have := bx_up (nx := nx) e (bE nx t0 k) m (9 - m)
  rwa [show m + (9 - m) = 9 by omega] at this
end
theorem nd_at {L : List GNode} {E : List (St2 × List Int)} (h : NdR L E) {k : Nat} {n : GNode} (hn : L[k]? = some n) : ∃ x, E[k]? = some x ∧ n.a = x.1.a ∧ n.b = x.1.b ∧ n.apart = false := by
  have hl := h.len
  have hi := (List.getElem?_eq_some_iff.1 hn).1
  have hx : E[k]? = some (E[k]'(by omega)) := List.getElem?_eq_getElem _
  have := h.at_ _ _ _ hn hx
  exact ⟨_, hx, this.1, this.2.1, this.2.2.1⟩
section
variable {N M : List (List Int)} {L : List GNode} {E : List (St2 × List Int)} {e : St2 × List Int} {m k : Nat} {a b fr by_ : Int}
theorem nd_old (h : NdR L (bx (nxS N M) e E m)) (ha : a = moveA N e.1.a m) (hb : b = moveA M e.1.b m) (hh : hasN L ⟨a, b, false, fr, by_⟩ L.length) : NdR L (bx (nxS N M) e E (m + 1)) := by
  subst ha hb
  rw [bx_y ((has_mem h rfl).1 hh)]; exact h
theorem nd_new (h : NdR L (bx (nxS N M) e E m)) (ha : a = moveA N e.1.a m) (hb : b = moveA M e.1.b m) (hh : ¬ hasN L ⟨a, b, false, fr, by_⟩ L.length) (hk : E[k]? = some e) : NdR (L ++ [⟨a, b, false, k, m⟩]) (bx (nxS N M) e E (m + 1)) := by
  subst ha hb
  rw [bx_n (fun q => hh ((has_mem h rfl).2 q))]
  exact ndr_snoc h (x := (nxS N M e.1 m, e.2 ++ [(m : Int)])) (bx_get hk) rfl
end
theorem nd_lit {L : List GNode} {E : List (St2 × List Int)} (h : NdR L E) {k : Nat} {n : GNode} (hn : L[k]? = some n) : ∃ x fr by_, E[k]? = some x ∧ n = ⟨x.1.a, x.1.b, false, fr, by_⟩ := by
  obtain ⟨x, h1, h2, h3, h4⟩ := nd_at h hn
  obtain ⟨_, _, _, fr, by_⟩ := n
  simp only at h2 h3 h4
  subst h2 h3 h4
  exact ⟨x, fr, by_, h1, rfl⟩
theorem zq_word {T : Type} {E : List (T × List Int)} {V : List Sv} {k : Nat} {x : T} {u : List Int} {A : Option Addr} {C e lo hi : Nat} {w : World} (o : Od ics e 1 w lo hi V (E.map (·.2))) (hv : V[k]? = some ⟨A, u.length, C⟩) (he : E[k]? = some (x, u)) :
    Ls ics 1 w 0 w.heap.size (.slice A u.length C) u := by
  obtain ⟨u', h4, h5⟩ := o.get hv
  rw [List.getElem?_map, he] at h4
  simp at h4
  subst h4
  exact h5
theorem get_app {α : Type} {V : List α} {k : Nat} {s x : α} (h : V[k]? = some s) : (V ++ [x])[k]? = some s := by rw [List.getElem?_append_left (List.getElem?_eq_some_iff.1 h).1]; exact h
noncomputable def saF (A : List Bool) (N : List (List Int)) (s : Int) : List Int × Bool := lwF (fun v => accA A (runT (nxI N) s v))
theorem sa_eq {A : List Bool} {N : List (List Int)} {r : List Int × Bool} {x : Int} (h : BRes (nxI N) x (accA A) r) : r = saF A N x := bres_lw h
theorem saR_F {S : Int} {A : List Bool} {N : List (List Int)} (h : ValidA S A N) : saR S A N = saF A N S := saR_y h
theorem difR_len {A B : List Bool} {N M : List (List Int)} {s : St2} {o : Bool} {r : List Int × Bool} (h : BRes (nxS N M) s (tsD A B o) r) {n : Nat} (hr : r.1.length ≤ n) : (difR A N B M s o).1.length ≤ n := by rw [← dif_eq h]; exact hr
section
variable {T : Type} [DecidableEq T] {nx : T → Nat → T} {t0 : T} {ts : T → Bool}
/-- the search ends, with a word of bounded length -/
theorem bres_ex {n : Nat} (hn : ∀ k, (bE nx t0 k).length ≤ n) : ∃ r, BRes nx t0 ts r ∧ r.1.length ≤ n := by
  have h : ∀ m, (∃ k e, (bE nx t0 k)[k]? = some e ∧ ts e.1 = true ∧ ∀ j x, j < k → (bE nx t0 j)[j]? = some x → ts x.1 = false) ∨ ∀ j x, j < m → (bE nx t0 j)[j]? = some x → ts x.1 = false := by
    intro m
    induction m with
    | zero => exact .inr fun j _ hj => absurd hj (by omega)
    | succ m ih =>
      rcases ih with h | h
      · exact .inl h
      · rcases hq : (bE nx t0 m)[m]? with _ | e
        · refine .inr fun j x hj hx => ?_
          rcases Nat.lt_or_ge j m with q | q
          · exact h j x q hx
          · rw [show j = m by omega, hq] at hx; cases hx
        · cases ht : ts e.1 with
          | true => exact .inl ⟨m, e, hq, ht, h⟩
          | false => exact .inr (fst_step h hq ht)
  rcases h n with ⟨k, e, h1, h2, h3⟩ | h
  · refine ⟨_, bres_hit h1 h2 h3, ?_⟩
    have a := bE_wlen k e (mem_of_get h1)
    have b := (List.getElem?_eq_some_iff.1 h1).1
    have c := hn k
    simp only; omega
  · exact ⟨_, bres_none (hn n) h, by simp⟩
end
section
variable {SA SB s t : Int} {A B : List Bool} {N M : List (List Int)}
theorem inA_start (h : ValidA SA A N) : inA A SA := by have h1 := h.2.1; unfold inA; omega
theorem inA_of (h : 0 ≤ s ∧ s ≤ (A.length : Int) - 1) : inA A s := by unfold inA; omega
theorem difR_ex (h : ValidA SA A N) (h' : ValidA SB B M) {x : St2} (hx : inS A B x) (o : Bool) : LeastW (difF A N B M x o) (difR A N B M x o) ∧ (difR A N B M x o).1.length ≤ 169 := by
  obtain ⟨r, h1, h2⟩ := bres_ex (ts := tsD A B o) (lenS h h' hx)
  rw [← dif_eq h1]; exact ⟨bres_least h1, h2⟩
theorem saF_ex (h : ValidA SA A N) {x : Int} (hx : inA A x) : LeastW (fun v => accA A (runT (nxI N) x v)) (saF A N x) ∧ (saF A N x).1.length ≤ 169 := by
  obtain ⟨r, h1, h2⟩ := bres_ex (ts := accA A) (lenI h hx)
  rw [← sa_eq h1]; exact ⟨bres_least h1, by omega⟩
end
theorem msR_len (SA : Int) (A : List Bool) (N : List (List Int)) (SB : Int) (B : List Bool) (M : List (List Int)) : (msR SA A N SB B M).1.length ≤ 169 := by
  by_cases h : ValidA SA A N ∧ ValidA SB B M
  · rw [msR_y h.1 h.2]; exact (difR_ex h.1 h.2 ⟨inA_start h.1, inA_start h.2⟩ _).2
  · rw [msR_n h]; simp
theorem dwR_len (S : Int) (A : List Bool) (N : List (List Int)) (s t : Int) : (dwR S A N s t).1.length ≤ 169 := by
  by_cases h : ValidA S A N ∧ (0 ≤ s ∧ s ≤ (A.length : Int) - 1) ∧ (0 ≤ t ∧ t ≤ (A.length : Int) - 1)
  · rw [dwR_y h.1 h.2.1 h.2.2]; exact (difR_ex h.1 h.1 ⟨inA_of h.2.1, inA_of h.2.2⟩ _).2
  · rw [dwR_n h]; simp
theorem saR_len (S : Int) (A : List Bool) (N : List (List Int)) : (saR S A N).1.length ≤ 169 := by
  by_cases h : ValidA S A N
  · rw [saR_F h]; exact (saF_ex h (inA_start h)).2
  · rw [saR_n h]; simp
/-- the automaton that accepts no word -/
theorem nothing_row (x : Int) (h : x ∈ List.replicate 9 (-1 : Int)) : x = -1 := (List.mem_replicate.1 h).2
theorem nothing_ok : ValidA 0 [false] [List.replicate 9 (-1 : Int)] := by
  refine ⟨by simp, by simp, by simp, fun i r hi hr => ?_⟩
  cases i with
  | zero =>
    simp at hr; subst hr
    refine ⟨rfl, fun j x _ hx => ?_⟩
    rw [nothing_row x (mem_of_get hx)]; simp
  | succ i => simp at hr
def IncP (aS : Int) (aA : List Bool) (aN : List (List Int)) (bS : Int) (bA : List Bool) (bN : List (List Int)) : Prop := ValidA aS aA aN ∧ ValidA bS bA bN ∧ (msR aS aA aN bS bA bN).2 = false
theorem inc_e {aS bS : Int} {aA bA : List Bool} {aN bN : List (List Int)} (h : ValidA aS aA aN) (h' : ValidA bS bA bN) : (!(msR aS aA aN bS bA bN).2) = tt (IncP aS aA aN bS bA bN) := by
  cases hq : (msR aS aA aN bS bA bN).2
  · exact tt_true ⟨h, h', hq⟩
  · exact tt_false fun q => by have q2 := q.2.2; rw [hq] at q2; cases q2
theorem inc_n1 {aS bS : Int} {aA bA : List Bool} {aN bN : List (List Int)} (h : ¬ ValidA aS aA aN) : false = tt (IncP aS aA aN bS bA bN) := tt_false fun q => h q.1
theorem inc_n2 {aS bS : Int} {aA bA : List Bool} {aN bN : List (List Int)} (h : ¬ ValidA bS bA bN) : false = tt (IncP aS aA aN bS bA bN) := tt_false fun q => h q.2.1
theorem wlenS (N M : List (List Int)) (x : St2) : ∀ k, ∀ y ∈ bE (nxS N M) x k, y.2.length ≤ k := bE_wlen
theorem wlenI (N : List (List Int)) (x : Int) : ∀ k, ∀ y ∈ bE (nxI N) x k, y.2.length ≤ k := bE_wlen
end Go.KLib
