/- Slices of graphs. -/
import Derived.Test.YthchonkpkgogjaaJE
namespace Go.KLib
open Go.ChangeShapes Go.WideShapes Go.ChangeAt Go.RowKit Go.Deep Go.Joins

/-- a graph's two rows, as they lie in a slice of graphs -/
structure Gv where
  v : Sv
  e : Sv
def Gv.cs (p : Gv) : List Value := [.slice p.v.A p.v.n p.v.c, .slice p.e.A p.e.n p.e.c]
theorem Gv.len (p : Gv) : p.cs.length = 2 := rfl
theorem Gv.one (x : Gv) : ∀ y ∈ x.cs, y.oneCell' = true := by intro y hy; simp [Gv.cs] at hy; rcases hy with rfl | rfl <;> rfl
structure GD where
  V : List Int
  E : List GEdge
def RdG (w : World) (L B : Nat) (vs : List Gv) (xs : List GD) : Prop :=
  vs.length = xs.length ∧ ∀ (i : Nat) (p : Gv) (x : GD), vs[i]? = some p → xs[i]? = some x → Ls ics 1 w L B p.v.v x.V ∧ Ls GEdge.cs 4 w L B p.e.v x.E
section
variable {L L' B B' : Nat} {w w' : World} {vs : List Gv} {xs : List GD} {ws : List Nat}
theorem RdG.ch (h : RdG w L B vs xs) (c : Ch ws w w') (hw : ∀ i ∈ ws, i < L ∨ B ≤ i) : RdG w' L B vs xs := ⟨h.1, fun i v x a b => ⟨(h.2 i v x a b).1.ch c hw, (h.2 i v x a b).2.ch c hw⟩⟩
theorem RdG.ch0 (h : RdG w L B vs xs) (c : Ch [] w w') : RdG w' L B vs xs := h.ch c (by simp)
theorem RdG.up (h : RdG w L B vs xs) (hL : L' ≤ L) (hB : B ≤ B') : RdG w L' B' vs xs := ⟨h.1, fun i v x a b => ⟨(h.2 i v x a b).1.up hL hB, (h.2 i v x a b).2.up hL hB⟩⟩
theorem RdG.here (h : RdG w L B vs xs) : RdG w L w.heap.size vs xs := ⟨h.1, fun i v x a b => ⟨(h.2 i v x a b).1.here (by decide), (h.2 i v x a b).2.here (by decide)⟩⟩
theorem RdG.nil : RdG w L B [] [] := ⟨rfl, fun _ _ _ h => by simp at h⟩
theorem RdG.snoc {p : Gv} {x : GD} (r : RdG w L B vs xs) (h1 : Ls ics 1 w L B p.v.v x.V) (h2 : Ls GEdge.cs 4 w L B p.e.v x.E) : RdG w L B (vs ++ [p]) (xs ++ [x]) := by
  refine ⟨by simp [r.1], fun i u y a b => ?_⟩
  rcases get_snoc a with ⟨a1, a2⟩ | ⟨a1, a2⟩
  · rcases get_snoc b with ⟨b1, b2⟩ | ⟨b1, b2⟩
    · exact r.2 i u y a2 b2
    · have := r.1; omega
  · rcases get_snoc b with ⟨b1, b2⟩ | ⟨b1, b2⟩
    · have := r.1; omega
    · subst a2 b2; exact ⟨h1, h2⟩
theorem RdG.get (h : RdG w L B vs xs) {i : Nat} {y : Gv} (hy : vs[i]? = some y) : ∃ x, xs[i]? = some x ∧ Ls ics 1 w L B y.v.v x.V ∧ Ls GEdge.cs 4 w L B y.e.v x.E := by
  have hi := (List.getElem?_eq_some_iff.1 hy).1
  have hx : xs[i]? = some (xs[i]'(by have := h.1; omega)) := List.getElem?_eq_getElem _
  exact ⟨_, hx, h.2 i y _ hy hx⟩
end
def gsize (xs : List GD) : Nat := (xs.map fun x => x.V.length + x.E.length).sum
theorem gsize_take {xs : List GD} {k : Nat} {y : GD} (h : xs[k]? = some y) : gsize (xs.take (k + 1)) = gsize (xs.take k) + (y.V.length + y.E.length) := by
  unfold gsize; rw [take_snoc h]; simp
theorem gsize_le {xs : List GD} {k : Nat} {y : GD} (h : xs[k]? = some y) : gsize (xs.take k) + (y.V.length + y.E.length) ≤ gsize xs := by
  rw [← gsize_take h]
  have e : gsize xs = gsize (xs.take (k + 1)) + gsize (xs.drop (k + 1)) := by
    unfold gsize; rw [← List.sum_append, ← List.map_append, List.take_append_drop]
  omega
/-! ### Histories -/
def SameV (G : List GD) (k : Nat) : Prop := ∀ (i : Nat) (x z : GD), i < k → G[i]? = some x → G[0]? = some z → ValidG x.V x.E ∧ x.V = z.V
def ValidH (F : Int) (G : List GD) : Prop := SameV G G.length ∧ (1 ≤ G.length ∧ G.length ≤ 8) ∧ (1 ≤ F ∧ F ≤ 999 - G.length + 1)
theorem same_zero (G : List GD) : SameV G 0 := fun _ _ _ h => absurd h (by omega)
theorem same_step {G : List GD} {k : Nat} {y z : GD} (h : SameV G k) (hy : G[k]? = some y) (hz : G[0]? = some z) (h1 : ValidG y.V y.E) (h2 : y.V = z.V) : SameV G (k + 1) := fun i x z' hi hx hz' => by
  by_cases q : i = k
  · subst q; rw [hy] at hx; injection hx with hx; subst hx; rw [hz] at hz'; injection hz' with hz'; subst hz'; exact ⟨h1, h2⟩
  · exact h i x z' (by omega) hx hz'
theorem valh_val {F : Int} {G : List GD} (h : ValidH F G) {k : Nat} {y : GD} (hy : G[k]? = some y) : ValidG y.V y.E := by
  have hk := (List.getElem?_eq_some_iff.1 hy).1
  exact (h.1 k y _ hk hy (List.getElem?_eq_getElem (by omega))).1
theorem valh_same {F : Int} {G : List GD} (h : ValidH F G) {k : Nat} {y z : GD} (hy : G[k]? = some y) (hz : G[0]? = some z) : y.V = z.V := by
  have hk := (List.getElem?_eq_some_iff.1 hy).1
  exact (h.1 k y z hk hy hz).2
noncomputable def lvR (F : Int) (G : List GD) : Int := bif tt (ValidH F G) then F + G.length - 1 else 0
theorem lv_y {F : Int} {G : List GD} (h : ValidH F G) : F + G.length - 1 = lvR F G := by unfold lvR; rw [← tt_true h]; rfl
theorem lv_n {F : Int} {G : List GD} (h : ¬ ValidH F G) : 0 = lvR F G := by unfold lvR; rw [← tt_false h]; rfl
end Go.KLib
