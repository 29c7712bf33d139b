/- Words and runs: what the loops over letters compute. -/
import Derived.Test.YthcoliemlekojaaKH
namespace Go.KLib

def WdP (l : List Int) (k : Nat) : Prop := ∀ i x, i < k → l[i]? = some x → isL x
def IsWd (l : List Int) : Prop := WdP l l.length ∧ l.length ≤ 8
theorem wd_zero (l : List Int) : WdP l 0 := fun _ _ h => absurd h (by omega)
theorem wd_step {l : List Int} {k : Nat} {y : Int} (h : WdP l k) (hy : l[k]? = some y) (h1 : isL y) : WdP l (k + 1) := fun i x hi hx => by
  by_cases e : i = k
  · subst e; rw [hy] at hx; cases hx; exact h1
  · exact h i x (by omega) hx
theorem wd_all {l : List Int} {k : Nat} (h : WdP l k) (h1 : l.length ≤ k) : WdP l l.length := fun i x hi => h i x (by omega)
theorem wd_val {l : List Int} (e : IsWd l) {k : Nat} {y : Int} (hy : l[k]? = some y) : isL y := e.1 k y (List.getElem?_eq_some_iff.1 hy).1 hy

def runP (L : List Int) (a : Int) (F w : List Int) : Nat → Int
  | 0 => 1
  | k + 1 => afterP L a F (runP L a F w k) (w.getD k 0)
theorem run_step {L F w : List Int} {a s y : Int} {k : Nat} (h : s = runP L a F w k) (hy : w[k]? = some y) : afterP L a F s y = runP L a F w (k + 1) := by
  rw [runP, List.getD_eq_getElem?_getD, hy, h]; rfl
end Go.KLib
