/- Graphs. -/
import Derived.Test.YthcoliemlekojaaJC
namespace Go.KLib

def EdgeOk (n : Int) (e : GEdge) : Prop := (1 ≤ e.id ∧ e.id ≤ 99) ∧ (0 ≤ e.f ∧ e.f ≤ n) ∧ (0 ≤ e.t ∧ e.t ≤ n) ∧ (0 ≤ e.label ∧ e.label ≤ 2)
def ValsP (V : List Int) (k : Nat) : Prop := ∀ (i : Nat) (v : Int), i < k → V[i]? = some v → 0 ≤ v ∧ v ≤ 2
def EdgesP (n : Int) (E : List GEdge) (k : Nat) : Prop := ∀ (i : Nat) (e : GEdge), i < k → E[i]? = some e → EdgeOk n e ∧ ∀ d, 0 < i → E[i - 1]? = some d → d.id < e.id
def ValidG (V : List Int) (E : List GEdge) : Prop := ValsP V V.length ∧ EdgesP ((V.length : Int) - 1) E E.length ∧ (1 ≤ V.length ∧ V.length ≤ 5) ∧ E.length ≤ 12
theorem vals_zero (V : List Int) : ValsP V 0 := fun _ _ h => absurd h (by omega)
theorem vals_step {V : List Int} {k : Nat} {y : Int} (h : ValsP V k) (hy : V[k]? = some y) (h1 : 0 ≤ y ∧ y ≤ 2) : ValsP V (k + 1) := fun i v hi hv => by
  by_cases e : i = k
  · subst e; rw [hy] at hv; injection hv with hv; subst hv; exact h1
  · exact h i v (by omega) hv
theorem vals_val {V : List Int} {k : Nat} {y : Int} {E : List GEdge} (h : ValidG V E) (hy : V[k]? = some y) : 0 ≤ y ∧ y ≤ 2 := h.1 k y (List.getElem?_eq_some_iff.1 hy).1 hy
theorem edges_zero (n : Int) (E : List GEdge) : EdgesP n E 0 := fun _ _ h => absurd h (by omega)
theorem edges_step {n : Int} {E : List GEdge} {k : Nat} {y d : GEdge} (h : EdgesP n E k) (hy : E[k]? = some y) (h1 : EdgeOk n y) (hd : E[k - 1]? = some d) (h2 : d.id < y.id) : EdgesP n E (k + 1) := fun i e hi he => by
  by_cases q : i = k
  · subst q; rw [hy] at he; injection he with he; subst he
    exact ⟨h1, fun d' _ hd' => by rw [hd] at hd'; injection hd' with hd'; subst hd'; exact h2⟩
  · exact h i e (by omega) he
theorem edges_step0 {n : Int} {E : List GEdge} {k : Nat} {y : GEdge} (h : EdgesP n E k) (hy : E[k]? = some y) (h1 : EdgeOk n y) (h0 : ¬ 0 < k) : EdgesP n E (k + 1) := fun i e hi he => by
  by_cases q : i = k
  · subst q; rw [hy] at he; injection he with he; subst he
    exact ⟨h1, fun d' h3 => absurd h3 h0⟩
  · exact h i e (by omega) he
theorem edge_val {V : List Int} {k : Nat} {y : GEdge} {E : List GEdge} (h : ValidG V E) (hy : E[k]? = some y) : EdgeOk ((V.length : Int) - 1) y := (h.2.1 k y (List.getElem?_eq_some_iff.1 hy).1 hy).1
theorem gedge_lt {V : List Int} {k : Nat} {y d : GEdge} {E : List GEdge} (h : ValidG V E) (hy : E[k]? = some y) (h0 : 0 < k) (hd : E[k - 1]? = some d) : d.id < y.id := (h.2.1 k y (List.getElem?_eq_some_iff.1 hy).1 hy).2 d h0 hd
theorem gedge_lt2 {V : List Int} {k j : Nat} {y d : GEdge} {E : List GEdge} (h : ValidG V E) (hy : E[k]? = some y) (hd : E[j]? = some d) (hj : j + 1 = k) : d.id < y.id := by
  subst hj; exact gedge_lt h hy (by omega) hd
theorem edges_stepj {n : Int} {E : List GEdge} {k j : Nat} {y d : GEdge} (h : EdgesP n E k) (hy : E[k]? = some y) (h1 : EdgeOk n y) (hd : E[j]? = some d) (hj : j + 1 = k) (h2 : d.id < y.id) : EdgesP n E (k + 1) := by
  subst hj; exact edges_step h hy h1 hd h2
theorem vg_y {V : List Int} {E : List GEdge} {k q : Nat} (hv : ValsP V k) (hk : V.length ≤ k) (he : EdgesP ((V.length : Int) - 1) E q) (hq : E.length ≤ q) (h : 1 ≤ V.length ∧ V.length ≤ 5) : decide ((E.length : Int) ≤ 12) = tt (ValidG V E) := by
  rw [tt_dec]
  exact tt_eq ⟨fun h2 => ⟨fun i v hi hx => hv i v (by omega) hx, fun i e hi hx => he i e (by omega) hx, h, by omega⟩, fun h2 => by have := h2.2.2.2; omega⟩
/-! ### Acceptance at a node -/
theorem clo_pow {S : Int} {A : List Bool} {N : List (List Int)} {c : Int} (hv : ValidA S A N) : ∀ {f s m}, (-1 ≤ s ∧ s ≤ (A.length : Int) - 1) → m < 2 ^ A.length → clo N c f s m < 2 ^ A.length
  | 0, _, _, _, h => h
  | f + 1, s, m, hs, h => by
    unfold clo
    cases hc : decide (0 ≤ s) && !m.testBit s.toNat
    · exact h
    · simp only [cond_true]
      rw [Bool.and_eq_true, decide_eq_true_eq] at hc
      exact clo_pow hv (move_rng hv hs) (Nat.or_lt_two_pow h (Nat.pow_lt_pow_right (by decide) (by have := hc.1; omega)))
theorem cloR_pow {S : Int} {A : List Bool} {N : List (List Int)} {c s : Int} (hv : ValidA S A N) (hs : -1 ≤ s ∧ s ≤ (A.length : Int) - 1) : cloR N c s < 2 ^ A.length := clo_pow hv hs (Nat.pow_pos (by decide))
theorem bitsL_mem {m k : Nat} {x : Int} : x ∈ bitsL m k ↔ 0 ≤ x ∧ x.toNat < k ∧ m.testBit x.toNat = true := by
  unfold bitsL
  rw [List.mem_map]
  constructor
  · rintro ⟨i, hi, rfl⟩
    rw [List.mem_filter, List.mem_range] at hi
    simp only [Int.toNat_natCast]
    exact ⟨by omega, hi.1, hi.2⟩
  · rintro ⟨h0, h1, h2⟩
    exact ⟨x.toNat, by rw [List.mem_filter, List.mem_range]; exact ⟨h1, h2⟩, by omega⟩
theorem bits_lt {m n : Nat} {x : Int} (hm : m < 2 ^ n) (hx : x ∈ bitsL m 30) : 0 ≤ x ∧ x.toNat < n := by
  obtain ⟨h0, _, h2⟩ := bitsL_mem.1 hx
  refine ⟨h0, ?_⟩
  rcases Nat.lt_or_ge x.toNat n with h | h
  · exact h
  · rw [Nat.testBit_lt_two_pow (Nat.lt_of_lt_of_le hm (Nat.pow_le_pow_right (by decide) h))] at h2; cases h2
/-- one of the first k states of the set accepts -/
def AccP (A : List Bool) (m k : Nat) : Prop := ∀ q, q < k → m.testBit q = true → A[q]? ≠ some true
def accN (A : List Bool) (m : Nat) : Bool := (bitsL m 30).any fun q => A.getD q.toNat false
end Go.KLib
