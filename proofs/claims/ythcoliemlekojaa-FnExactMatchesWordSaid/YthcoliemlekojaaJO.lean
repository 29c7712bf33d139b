/- Slices of graphs that are cut from the front. -/
import Derived.Test.YthcoliemlekojaaJN
namespace Go.KLib

theorem Od.dropN {α : Type} {cs : α → List Value} {e k : Nat} {w : World} {lo hi : Nat} {vs : List Sv} {xs : List (List α)} (h : Od cs e k w lo hi vs xs) (n : Nat) : Od cs e k w lo hi (vs.drop n) (xs.drop n) := by
  refine ⟨by rw [List.length_drop, List.length_drop, h.1], fun i v x a b => ?_, fun i j u v a b hij => ?_⟩
  · rw [List.getElem?_drop] at a b; exact h.2.1 _ v x a b
  · rw [List.getElem?_drop] at a b; exact h.2.2 _ _ u v a b (by omega)
theorem OdG.dropN {e1 e2 lo hi : Nat} {w : World} {vs : List Gv} {xs : List GD} (h : OdG e1 e2 w lo hi vs xs) (n : Nat) : OdG e1 e2 w lo hi (vs.drop n) (xs.drop n) := by
  refine ⟨by rw [List.length_drop, List.length_drop, h.1], ?_, ?_, fun u hu t ht => h.2.2.2 u (List.mem_of_mem_drop hu) t (List.mem_of_mem_drop ht)⟩
  · rw [List.map_drop, List.map_drop]; exact h.2.1.dropN n
  · rw [List.map_drop, List.map_drop]; exact h.2.2.1.dropN n
theorem SepH.dropN {o : Value} {vs : List Gv} (h : SepH o vs) (n : Nat) : SepH o (vs.drop n) := fun u hu => h u (List.mem_of_mem_drop hu)
theorem SepH.of {o o' : Value} {vs : List Gv} (h : SepH o vs) (e : bl o' = bl o) : SepH o' vs := fun u hu => ⟨fun g hg hm => (h u hu).1 g hg (e ▸ hm), fun g hg hm => (h u hu).2 g hg (e ▸ hm)⟩
noncomputable def chF (F : Int) (G : List GD) (n : Int) : Int := bif tt (gaP F G n) then n else F
noncomputable def chG (F : Int) (G : List GD) (n : Int) : List GD := bif tt (gaP F G n) then G.drop (n - F).toNat else G
theorem chF_y {F : Int} {G : List GD} {n : Int} (h : gaP F G n) : n = chF F G n := by unfold chF; rw [← tt_true h]; rfl
theorem chF_n {F : Int} {G : List GD} {n : Int} (h : ¬ gaP F G n) : F = chF F G n := by unfold chF; rw [← tt_false h]; rfl
theorem chG_y {F : Int} {G : List GD} {n : Int} (h : gaP F G n) : G.drop (n - F).toNat = chG F G n := by unfold chG; rw [← tt_true h]; rfl
theorem chG_n {F : Int} {G : List GD} {n : Int} (h : ¬ gaP F G n) : G = chG F G n := by unfold chG; rw [← tt_false h]; rfl
theorem gsize_drop (a : List GD) (n : Nat) : gsize (a.drop n) ≤ gsize a := by
  have e : gsize a = gsize (a.take n) + gsize (a.drop n) := by unfold gsize; rw [← List.sum_append, ← List.map_append, List.take_append_drop]
  omega
theorem ch_size (F : Int) (G : List GD) (n : Int) : (chG F G n).length ≤ G.length ∧ gsize (chG F G n) ≤ gsize G := by
  by_cases h : gaP F G n
  · rw [← chG_y h]; exact ⟨by rw [List.length_drop]; omega, gsize_drop _ _⟩
  · rw [← chG_n h]; exact ⟨Nat.le_refl _, Nat.le_refl _⟩
end Go.KLib
