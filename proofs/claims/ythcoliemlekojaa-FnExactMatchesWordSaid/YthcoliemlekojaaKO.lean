/- Automata on words; the order of words. -/
import Derived.Test.YthcoliemlekojaaKN
namespace Go.KLib

def moveA (N : List (List Int)) (s x : Int) : Int := if s < 0 ∨ ¬ (0 ≤ x ∧ x ≤ 8) then -1 else (N.getD s.toNat []).getD x.toNat 0
def runA (N : List (List Int)) (S : Int) (w : List Int) : Nat → Int
  | 0 => S
  | k + 1 => moveA N (runA N S w k) (w.getD k 0)
theorem move_y {N : List (List Int)} {s x t : Int} {r : List Int} (h0 : 0 ≤ s) (hx : 0 ≤ x ∧ x ≤ 8) (hr : N[s.toNat]? = some r) (ht : r[x.toNat]? = some t) : t = moveA N s x := by
  unfold moveA
  rw [if_neg (by omega)]
  simp [List.getD_eq_getElem?_getD, hr, ht]
theorem move_n {N : List (List Int)} {s x : Int} (h : s < 0 ∨ ¬ (0 ≤ x ∧ x ≤ 8)) : -1 = moveA N s x := by unfold moveA; rw [if_pos h]
theorem run_succ {N : List (List Int)} {S y : Int} {w : List Int} {k : Nat} (hy : w[k]? = some y) : runA N S w (k + 1) = moveA N (runA N S w k) y := by
  rw [runA, List.getD_eq_getElem?_getD, hy]; rfl
theorem move_rng {S : Int} {A : List Bool} {N : List (List Int)} (e : ValidA S A N) {s x : Int} (hs : -1 ≤ s ∧ s ≤ (A.length : Int) - 1) : -1 ≤ moveA N s x ∧ moveA N s x ≤ (A.length : Int) - 1 := by
  unfold moveA
  split
  · have := e.2.1; omega
  · rename_i h
    have hl := e.2.2.1
    have h1 : s.toNat < N.length := by omega
    have h2 := List.getElem?_eq_getElem h1
    have h3 := fits_row e.2 h2
    have h4 : x.toNat < (N[s.toNat]).length := by rw [h3.1]; omega
    have h5 := List.getElem?_eq_getElem h4
    simp only [List.getD_eq_getElem?_getD, h2, Option.getD_some, h5]
    exact fits_el e.2 h2 h5
theorem run_rng {S : Int} {A : List Bool} {N : List (List Int)} (e : ValidA S A N) {s : Int} {w : List Int} (hs : -1 ≤ s ∧ s ≤ (A.length : Int) - 1) : ∀ k, -1 ≤ runA N s w k ∧ runA N s w k ≤ (A.length : Int) - 1
  | 0 => hs
  | k + 1 => move_rng e (run_rng e hs k)
theorem run_stay {N : List (List Int)} {S : Int} {w : List Int} {k : Nat} (h : runA N S w k = -1) : ∀ j, runA N S w (k + j) = -1
  | 0 => h
  | j + 1 => by
    rw [← Nat.add_assoc, runA, run_stay h j]
    exact (move_n (.inl (by omega))).symm
theorem run_dead {N : List (List Int)} {S m : Int} {w : List Int} {k : Nat} (hm : m = runA N S w k) (h0 : m = -1) (hk : k ≤ w.length) : m = runA N S w w.length := by
  have := run_stay (h0 ▸ hm).symm (w.length - k)
  rw [show k + (w.length - k) = w.length by omega] at this
  rw [this, h0]
theorem run_bad {N : List (List Int)} {S y : Int} {w : List Int} {k : Nat} (hy : w[k]? = some y) (h : ¬ (0 ≤ y ∧ y ≤ 8)) : -1 = runA N S w w.length := by
  have hk := (List.getElem?_eq_some_iff.1 hy).1
  exact run_dead (k := k + 1) (by rw [run_succ hy]; exact move_n (.inr h)) rfl (by omega)
noncomputable def rwR (S : Int) (A : List Bool) (N : List (List Int)) (w : List Int) : Int := bif tt (ValidA S A N) then runA N S w w.length else -1
theorem rwR_no {S : Int} {A : List Bool} {N : List (List Int)} {w : List Int} (h : ¬ ValidA S A N) : -1 = rwR S A N w := by
  unfold rwR; rw [← tt_false h]; rfl
theorem rwR_yes {S : Int} {A : List Bool} {N : List (List Int)} {w : List Int} (h : ValidA S A N) : runA N S w w.length = rwR S A N w := by
  unfold rwR; rw [← tt_true h]; rfl
theorem rwR_rng (S : Int) (A : List Bool) (N : List (List Int)) (w : List Int) : -1 ≤ rwR S A N w ∧ rwR S A N w ≤ (A.length : Int) - 1 := by
  by_cases h : ValidA S A N
  · rw [← rwR_yes h]; exact run_rng h (by have := h.2.1; omega) _
  · rw [← rwR_no h]; omega
def accA (A : List Bool) (s : Int) : Bool := decide (0 ≤ s) && A.getD s.toNat false
theorem accA_y {A : List Bool} {s : Int} {y : Bool} (h : 0 ≤ s) (hy : A[s.toNat]? = some y) : y = accA A s := by
  unfold accA; rw [decide_eq_true h, List.getD_eq_getElem?_getD, hy]; rfl
theorem accA_n {A : List Bool} {s : Int} (h : ¬ 0 ≤ s) : false = accA A s := by
  unfold accA; rw [decide_eq_false h]; rfl

/-! ### The order of words -/
def cmpL : List Int → List Int → Int
  | [], [] => 0
  | [], _ :: _ => -1
  | _ :: _, [] => 1
  | x :: xs, y :: ys => if x < y then -1 else if y < x then 1 else cmpL xs ys
theorem cmpL_eq : ∀ {a b : List Int}, cmpL a b = 0 ↔ a = b
  | [], [] => by simp [cmpL]
  | [], _ :: _ => by simp [cmpL]
  | _ :: _, [] => by simp [cmpL]
  | x :: xs, y :: ys => by
    unfold cmpL
    rw [List.cons.injEq, ← cmpL_eq (a := xs) (b := ys)]
    split
    · simp; omega
    · split
      · simp; omega
      · constructor
        · intro h; exact ⟨by omega, h⟩
        · intro h; exact h.2
theorem cmpL_drop : ∀ {a b : List Int} (k : Nat), a.take k = b.take k → cmpL a b = cmpL (a.drop k) (b.drop k)
  | _, _, 0, _ => rfl
  | [], [], _ + 1, _ => rfl
  | [], _ :: _, _ + 1, h => by simp at h
  | _ :: _, [], _ + 1, h => by simp at h
  | x :: xs, y :: ys, k + 1, h => by
    simp at h
    obtain ⟨rfl, h⟩ := h
    show (if x < x then -1 else if x < x then 1 else cmpL xs ys) = cmpL (xs.drop k) (ys.drop k)
    rw [if_neg (by omega), if_neg (by omega)]
    exact cmpL_drop k h
theorem drop_cons {α : Type} {a : List α} {k : Nat} {x : α} (h : a[k]? = some x) : a.drop k = x :: a.drop (k + 1) := by
  obtain ⟨hk, rfl⟩ := List.getElem?_eq_some_iff.1 h
  exact List.drop_eq_getElem_cons hk
theorem cmpL_lt {a b : List Int} {k : Nat} {x y : Int} (h : a.take k = b.take k) (ha : a[k]? = some x) (hb : b[k]? = some y) (hl : x < y) : -1 = cmpL a b := by
  rw [cmpL_drop k h, drop_cons ha, drop_cons hb, cmpL, if_pos hl]
theorem cmpL_gt {a b : List Int} {k : Nat} {x y : Int} (h : a.take k = b.take k) (ha : a[k]? = some x) (hb : b[k]? = some y) (hl : y < x) : 1 = cmpL a b := by
  rw [cmpL_drop k h, drop_cons ha, drop_cons hb, cmpL, if_neg (by omega), if_pos hl]
theorem cmpL_end {a b : List Int} {k : Nat} (h : a.take k = b.take k) (hk : k = a.length ∨ k = b.length) (hka : k ≤ a.length) (hkb : k ≤ b.length) : cmpL a b = if a.length < b.length then -1 else if b.length < a.length then 1 else 0 := by
  rw [cmpL_drop k h]
  rcases Nat.lt_or_ge k a.length with h1 | h1
  · have h2 : k = b.length := by omega
    rw [drop_cons (List.getElem?_eq_getElem h1), List.drop_eq_nil_of_le (Nat.le_of_eq h2.symm), if_neg (by omega), if_pos (by omega)]; rfl
  · rw [List.drop_eq_nil_of_le h1]
    rcases Nat.lt_or_ge k b.length with h3 | h3
    · rw [drop_cons (List.getElem?_eq_getElem h3), if_pos (by omega)]; rfl
    · rw [List.drop_eq_nil_of_le h3, if_neg (by omega), if_neg (by omega)]; rfl
end Go.KLib
