/- Graphs. -/
import Derived.Test.YtgpmbjchmphhaaaJC
namespace Go.KLib

def EdgeOk (n : Int) (e : GEdge) : Prop := (1 ≤ e.id ∧ e.id ≤ 99) ∧ (0 ≤ e.f ∧ e.f ≤ n) ∧ (0 ≤ e.t ∧ e.t ≤ n) ∧ (0 ≤ e.label ∧ e.label ≤ 2)
def ValsP (V : List Int) (k : Nat) : Prop := ∀ (i : Nat) (v : Int), i < k → V[i]? = some v → 0 ≤ v ∧ v ≤ 2
def EdgesP (n : Int) (E : List GEdge) (k : Nat) : Prop := ∀ (i : Nat) (e : GEdge), i < k → E[i]? = some e → EdgeOk n e ∧ ∀ d, 0 < i → E[i - 1]? = some d → d.id < e.id
def ValidG (V : List Int) (E : List GEdge) : Prop := ValsP V V.length ∧ EdgesP ((V.length : Int) - 1) E E.length ∧ (1 ≤ V.length ∧ V.length ≤ 5) ∧ E.length ≤ 12
theorem vals_zero (V : List Int) : ValsP V 0 := fun _ _ h => absurd h (by omega)
theorem vals_step {V : List Int} {k : Nat} {y : Int} (h : ValsP V k) (hy : V[k]? = some y) (h1 : 0 ≤ y ∧ y ≤ 2) : ValsP V (k + 1) := fun i v hi hv => by
  by_cases e : i = k
  · subst e; rw [hy] at hv; injection hv with hv; subst hv; exact h1
  · exact h i v (by omega) hv
theorem vals_val {V : List Int} {k : Nat} {y : Int} {E : List GEdge} (h : ValidG V E) (hy : V[k]? = some y) : 0 ≤ y ∧ y ≤ 2 := h.1 k y (List.getElem?_eq_some_iff.1 hy).1 hy
theorem edges_zero (n : Int) (E : List GEdge) : EdgesP n E 0 := fun _ _ h => absurd h (by omega)
theorem edges_step {n : Int} {E : List GEdge} {k : Nat} {y d : GEdge} (h : EdgesP n E k) (hy : E[k]? = some y) (h1 : EdgeOk n y) (hd : E[k - 1]? = some d) (h2 : d.id < y.id) : EdgesP n E (k + 1) := fun i e hi he => by
  by_cases q : i = k
  · subst q; rw [hy] at he; injection he with he; subst he
    exact ⟨h1, fun d' _ hd' => by rw [hd] at hd'; injection hd' with hd'; subst hd'; exact h2⟩
  · exact h i e (by omega) he
theorem edges_step0 {n : Int} {E : List GEdge} {k : Nat} {y : GEdge} (h : EdgesP n E k) (hy : E[k]? = some y) (h1 : EdgeOk n y) (h0 : ¬ 0 < k) : EdgesP n E (k + 1) := fun i e hi he => by
  by_cases q : i = k
  · subst q; rw [hy] at he; injection he with he; subst he
    exact ⟨h1, fun d' h3 => absurd h3 h0⟩
  · exact h i e (by omega) he
theorem edge_val {V : List Int} {k : Nat} {y : GEdge} {E : List GEdge} (h : ValidG V E) (hy : E[k]? = some y) : EdgeOk ((V.length : Int) - 1) y := (h.2.1 k y (List.getElem?_eq_some_iff.1 hy).1 hy).1
theorem gedge_lt {V : List Int} {k : Nat} {y d : GEdge} {E : List GEdge} (h : ValidG V E) (hy : E[k]? = some y) (h0 : 0 < k) (hd : E[k - 1]? = some d) : d.id < y.id := (h.2.1 k y (List.getElem?_eq_some_iff.1 hy).1 hy).2 d h0 hd
end Go.KLib
