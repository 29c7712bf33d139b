/- Rows of rows of one's own; automata. -/
import Derived.Test.YthcoliemlekojaaKM
import Derived.Test.YthcoliemlekojaaKF
namespace Go.KLib
open Go.ChangeShapes Go.WideShapes Go.ChangeAt Go.RowKit Go.Deep Go.Joins

/-- Each slice of vs is a row of one's own that reads as the list in its place; their blocks lie in lo .. hi, no two in one. -/
def Od {α : Type} (cs : α → List Value) (e k : Nat) (w : World) (lo hi : Nat) (vs : List Sv) (xs : List (List α)) : Prop :=
  vs.length = xs.length ∧ (∀ (i : Nat) (v : Sv) (x : List α), vs[i]? = some v → xs[i]? = some x → Ol cs e k w v.v x ∧ ∀ g ∈ bl v.v, lo ≤ g ∧ g < hi) ∧
  ∀ (i j : Nat) (u v : Sv), vs[i]? = some u → vs[j]? = some v → i < j → ∀ g ∈ bl u.v, g ∉ bl v.v
section
variable {α : Type} {cs : α → List Value} {e k lo hi hi' : Nat} {w w' : World} {vs : List Sv} {xs : List (List α)} {ws : List Nat}
theorem Od.ch (h : Od cs e k w lo hi vs xs) (c : Ch ws w w') (hw : ∀ i ∈ ws, i < lo ∨ hi ≤ i) : Od cs e k w' lo hi vs xs :=
  ⟨h.1, fun i v x a b => ⟨(h.2.1 i v x a b).1.ch c fun g hg hm => by have h1 := (h.2.1 i v x a b).2 g hg; have h2 := hw g hm; omega, (h.2.1 i v x a b).2⟩, h.2.2⟩
theorem Od.ch0 (h : Od cs e k w lo hi vs xs) (c : Ch [] w w') : Od cs e k w' lo hi vs xs := h.ch c (by simp)
theorem Od.up {lo' : Nat} (h : Od cs e k w lo hi vs xs) (hl : lo' ≤ lo) (hh : hi ≤ hi') : Od cs e k w lo' hi' vs xs :=
  ⟨h.1, fun i v x a b => ⟨(h.2.1 i v x a b).1, fun g hg => by have h1 := (h.2.1 i v x a b).2 g hg; omega⟩, h.2.2⟩
theorem Od.rd (h : Od cs e k w lo hi vs xs) : Rd cs k w 0 w.heap.size vs xs := ⟨h.1, fun i v x a b => (h.2.1 i v x a b).1.ls⟩
theorem Od.get (h : Od cs e k w lo hi vs xs) {i : Nat} {y : Sv} (hy : vs[i]? = some y) : ∃ x, xs[i]? = some x ∧ Ls cs k w 0 w.heap.size y.v x := h.rd.get hy
theorem Od.nil : Od cs e k w lo hi [] ([] : List (List α)) := ⟨rfl, fun _ _ _ h => by simp at h, fun _ _ _ _ h => by simp at h⟩
theorem get_snoc {β : Type} {vs : List β} {v u : β} {i : Nat} (h : (vs ++ [v])[i]? = some u) : (i < vs.length ∧ vs[i]? = some u) ∨ (i = vs.length ∧ u = v) := by
  rcases Nat.lt_or_ge i vs.length with hl | hl
  · rw [List.getElem?_append_left hl] at h; exact .inl ⟨hl, h⟩
  · rw [List.getElem?_append_right hl] at h
    rcases Nat.eq_or_lt_of_le hl with he | he
    · rw [← he] at h; simp at h; exact .inr ⟨he.symm, h.symm⟩
    · rw [List.getElem?_eq_none (by simp; omega)] at h; cases h
theorem Od.snoc (h : Od cs e k w lo hi vs xs) {v : Sv} {x : List α} (ho : Ol cs e k w v.v x) (hl : Lo hi v.v) (hu : ∀ g ∈ bl v.v, g < hi') (hh : hi ≤ hi') (hlo : lo ≤ hi) : Od cs e k w lo hi' (vs ++ [v]) (xs ++ [x]) := by
  refine ⟨by simp [h.1], fun i u y a b => ?_, fun i j u u' a b hij => ?_⟩
  · rcases get_snoc a with ⟨a1, a2⟩ | ⟨a1, a2⟩
    · rcases get_snoc b with ⟨b1, b2⟩ | ⟨b1, b2⟩
      · exact ⟨(h.2.1 i u y a2 b2).1, fun g hg => by have h1 := (h.2.1 i u y a2 b2).2 g hg; omega⟩
      · have := h.1; omega
    · rcases get_snoc b with ⟨b1, b2⟩ | ⟨b1, b2⟩
      · have := h.1; omega
      · subst a2 b2; exact ⟨ho, fun g hg => ⟨by have := hl g hg; omega, hu g hg⟩⟩
  · rcases get_snoc b with ⟨b1, b2⟩ | ⟨b1, b2⟩
    · rcases get_snoc a with ⟨a1, a2⟩ | ⟨a1, a2⟩
      · exact h.2.2 i j u u' a2 b2 hij
      · omega
    · rcases get_snoc a with ⟨a1, a2⟩ | ⟨a1, a2⟩
      · subst b2
        intro g hg hm
        have hx : xs[i]? = some (xs[i]'(by have := h.1; omega)) := List.getElem?_eq_getElem _
        have h1 := (h.2.1 i u _ a2 hx).2 g hg
        have h2 := hl g hm
        omega
      · omega
end
theorem fill_sv {vs : List Sv} {k n : Nat} {z y : Sv} (hv : vs.length = k) (hk : k < n) : (vs ++ List.replicate (n - k) z).set k y = (vs ++ [y]) ++ List.replicate (n - (k + 1)) z := by
  subst hv
  rw [List.set_append_right _ _ (Nat.le_refl _), Nat.sub_self, show n - vs.length = (n - (vs.length + 1)) + 1 by omega, List.replicate_succ, List.set_cons_zero, List.append_assoc]; rfl
theorem take_snoc {β : Type} {xs : List β} {k : Nat} {y : β} (h : xs[k]? = some y) : xs.take (k + 1) = xs.take k ++ [y] := by rw [List.take_add_one, h]; rfl

theorem fl_add {α : Type} {xs : List (List α)} {k : Nat} {y : List α} (h : xs[k]? = some y) : (xs.take (k + 1)).flatten.length = (xs.take k).flatten.length + y.length := by
  rw [← fl_step h, List.length_append]
theorem fl_take {α : Type} {xs : List (List α)} {k : Nat} (h : xs.length ≤ k) : (xs.take k).flatten.length = xs.flatten.length := by rw [List.take_of_length_le h]
theorem get_uniq {β : Type} {xs : List β} {k : Nat} {a b : β} (h : xs[k]? = some a) (h' : xs[k]? = some b) : a = b := by rw [h] at h'; injection h'

section
variable {H : Type} {enc : TypeId × Value → H} {P : Program} {w : World} {base : Nat} {spare : Nat → Bool} {held : Bool}
/-- A slice that reads as data, with what is known of each element. -/
theorem open_lsG {α : Type} {G : α → Prop} {cs : α → List Value} {k : Nat} {t e : TypeId} {fuel : Nat} {v : Value} {x : DataW H × List MemPlace} (ht : P.underlying t = some (.slice e)) (hk : P.cellsOf e = k) (hk0 : 0 < k) (hc : ∀ x, (cs x).length = k)
    (he : ∀ fuel vs y, vs.length = k → DataW.trod enc P w base spare held fuel e vs = some y → ∃ x : α, vs = cs x ∧ G x) (h : DataW.trod enc P w base spare held fuel t [v] = some x) : ∃ xs : List α, Ls cs k w 0 w.heap.size v xs ∧ ∀ (i : Nat) (x : α), xs[i]? = some x → G x := by
  rcases open_slice ht h with ⟨h0, _⟩ | ⟨a, len, cap, m, n, D, Pl, h0, _, hl, hm, hmm, _, hi⟩
  · injection h0 with h0
    subst h0
    exact ⟨[], Ls.nil w _ _, fun i x hx => by simp at hx⟩
  · injection h0 with h0
    subst h0
    have hlm : len ≤ m := by rw [hmm]; split <;> omega
    obtain ⟨xs, hxl, hx⟩ := list_of (n := len) (Q := fun i (x : α) => (∀ j u, (cs x)[j]? = some u → w.cell? (a.add (i * k + j)) = some u) ∧ G x) fun i hlt => by
      obtain ⟨cs', hcs, htr⟩ := hi i (by omega)
      obtain ⟨_, hcl, hat⟩ := World.cells?_some hcs
      rw [hk] at hcl hat
      obtain ⟨y, hy, hG⟩ := he _ _ _ hcl htr
      refine ⟨y, fun j u hu => ?_, hG⟩
      have hj : j < k := by have := (List.getElem?_eq_some_iff.1 hu).1; rw [hc] at this; exact this
      have h1 := hat j hj
      rw [hy, hu, Go.KLib.add_add] at h1
      exact h1
    refine ⟨xs, Sl.here (L := 0) (B := a.block + 1) ⟨flat_len hc xs, some a, cap, by rw [hxl], by omega, hm, fun _ => ⟨a, rfl, ⟨Nat.zero_le _, Nat.lt_succ_self _⟩, fun j u hu => ?_⟩⟩ hk0, fun i x hix => (hx i x hix).2⟩
    have hjl : j < xs.length * k := by have := (List.getElem?_eq_some_iff.1 hu).1; rwa [flat_len hc] at this
    have hd : j / k < xs.length := Nat.div_lt_of_lt_mul (by rwa [Nat.mul_comm])
    have hg := flat_get hc xs (j / k) xs[j / k] (List.getElem?_eq_getElem hd)
    have h2 := (hx (j / k) xs[j / k] (List.getElem?_eq_getElem hd)).1 (j % k) u (by
      rw [← hg, List.getElem?_take, if_pos (Nat.mod_lt _ hk0), List.getElem?_drop, Nat.mul_comm, Nat.div_add_mod]
      exact hu)
    rwa [Nat.mul_comm, Nat.div_add_mod] at h2
theorem open_nest {α : Type} {cs : α → List Value} {k : Nat} {t e e2 : TypeId} {fuel : Nat} {v : Value} {x : DataW H × List MemPlace} (ht : P.underlying t = some (.slice e)) (h1 : P.cellsOf e = 1) (hu : P.underlying e = some (.slice e2)) (hk : P.cellsOf e2 = k) (hk0 : 0 < k) (hc : ∀ x, (cs x).length = k)
    (he : ∀ fuel vs y, vs.length = k → DataW.trod enc P w base spare held fuel e2 vs = some y → ∃ x : α, vs = cs x) (h : DataW.trod enc P w base spare held fuel t [v] = some x) : ∃ (vs : List Sv) (xs : List (List α)), Ls Sv.cs 1 w 0 w.heap.size v vs ∧ Rd cs k w 0 w.heap.size vs xs := by
  obtain ⟨vs, hv, hG⟩ := open_lsG (cs := Sv.cs) (k := 1) (G := fun s : Sv => ∃ xs : List α, Ls cs k w 0 w.heap.size s.v xs) ht h1 (by decide) Sv.len (fun fuel us y hl hy => by
    obtain ⟨u, rfl⟩ := list1 hl
    obtain ⟨xs, hxs⟩ := open_ls hu hk hk0 hc he hy
    obtain ⟨A, c, rfl⟩ := hxs.val
    exact ⟨⟨A, xs.length, c⟩, rfl, xs, hxs⟩) h
  obtain ⟨xs, hl, hx⟩ := list_of (n := vs.length) (Q := fun i (x : List α) => ∀ s : Sv, vs[i]? = some s → Ls cs k w 0 w.heap.size s.v x) fun i hi => by
    obtain ⟨x, hx⟩ := hG i vs[i] (List.getElem?_eq_getElem hi)
    exact ⟨x, fun s hs => by rw [List.getElem?_eq_getElem hi] at hs; injection hs with hs; subst hs; exact hx⟩
  exact ⟨vs, xs, hv, hl.symm, fun i s x a b => hx i x b s a⟩
end

/-! ### Automata -/
def RowP (n : Int) (r : List Int) (k : Nat) : Prop := ∀ (j : Nat) (t : Int), j < k → r[j]? = some t → -1 ≤ t ∧ t ≤ n - 1
def RowOk (n : Int) (r : List Int) : Prop := r.length = 9 ∧ RowP n r r.length
def RowsP (n : Int) (N : List (List Int)) (s : Nat) : Prop := ∀ (j : Nat) (r : List Int), j < s → N[j]? = some r → RowOk n r
def FitsA (S : Int) (A : List Bool) (N : List (List Int)) : Prop := (0 ≤ S ∧ S ≤ (A.length : Int) - 1) ∧ N.length = A.length ∧ RowsP A.length N N.length
def ValidA (S : Int) (A : List Bool) (N : List (List Int)) : Prop := A.length ≤ 12 ∧ FitsA S A N
theorem rowp_zero (n : Int) (r : List Int) : RowP n r 0 := fun _ _ h => absurd h (by omega)
theorem rowp_step {n : Int} {r : List Int} {k : Nat} {y : Int} (h : RowP n r k) (hy : r[k]? = some y) (h1 : -1 ≤ y ∧ y ≤ n - 1) : RowP n r (k + 1) := fun i x hi hx => by
  by_cases e : i = k
  · subst e; rw [hy] at hx; cases hx; exact h1
  · exact h i x (by omega) hx
theorem rowp_all {n : Int} {r : List Int} {k : Nat} (h : RowP n r k) (h1 : r.length ≤ k) : RowP n r r.length := fun i x hi => h i x (by omega)
theorem rows_zero (n : Int) (N : List (List Int)) : RowsP n N 0 := fun _ _ h => absurd h (by omega)
theorem rows_step {n : Int} {N : List (List Int)} {k : Nat} {y : List Int} (h : RowsP n N k) (hy : N[k]? = some y) (h1 : RowOk n y) : RowsP n N (k + 1) := fun i x hi hx => by
  by_cases e : i = k
  · subst e; rw [hy] at hx; cases hx; exact h1
  · exact h i x (by omega) hx
theorem rows_all {n : Int} {N : List (List Int)} {k : Nat} (h : RowsP n N k) (h1 : N.length ≤ k) : RowsP n N N.length := fun i x hi => h i x (by omega)
theorem fits_row {S : Int} {A : List Bool} {N : List (List Int)} (e : FitsA S A N) {k : Nat} {r : List Int} (h : N[k]? = some r) : RowOk A.length r :=
  e.2.2 k r (List.getElem?_eq_some_iff.1 h).1 h
theorem fits_el {S : Int} {A : List Bool} {N : List (List Int)} (e : FitsA S A N) {k j : Nat} {r : List Int} {t : Int} (h : N[k]? = some r) (ht : r[j]? = some t) : -1 ≤ t ∧ t ≤ (A.length : Int) - 1 :=
  (fits_row e h).2 j t (List.getElem?_eq_some_iff.1 ht).1 ht
theorem mul_bd {x n : Int} {a b : Int} (h : 0 ≤ x ∧ x ≤ a) (h' : 0 ≤ n ∧ n ≤ b) : 0 ≤ x * n ∧ x * n ≤ a * b :=
  ⟨Int.mul_nonneg h.1 h'.1, Int.mul_le_mul h.2 h'.2 h'.1 (by omega)⟩
noncomputable def pxR (S : Int) (A : List Bool) (N : List (List Int)) (node s : Int) : Int := bif tt (ValidA S A N ∧ (0 ≤ node ∧ node ≤ 4) ∧ (0 ≤ s ∧ s ≤ (A.length : Int) - 1)) then node * A.length + s else -1
theorem pxR_no {S : Int} {A : List Bool} {N : List (List Int)} {node s : Int} (h : ¬ (ValidA S A N ∧ (0 ≤ node ∧ node ≤ 4) ∧ (0 ≤ s ∧ s ≤ (A.length : Int) - 1))) : -1 = pxR S A N node s := by
  unfold pxR; rw [← tt_false h]; rfl
theorem pxR_yes {S : Int} {A : List Bool} {N : List (List Int)} {node s : Int} (h : ValidA S A N ∧ (0 ≤ node ∧ node ≤ 4) ∧ (0 ≤ s ∧ s ≤ (A.length : Int) - 1)) : node * A.length + s = pxR S A N node s := by
  unfold pxR; rw [← tt_true h]; rfl
end Go.KLib
