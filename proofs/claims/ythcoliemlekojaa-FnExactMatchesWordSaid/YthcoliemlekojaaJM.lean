/- Slices of graphs of one's own. -/
import Derived.Test.YthcoliemlekojaaJK
namespace Go.KLib

def SepG (vs : List Gv) : Prop := ∀ u ∈ vs, ∀ t ∈ vs, ∀ g ∈ bl u.v.v, g ∉ bl t.e.v
/-- Each entry's two rows are one's own and read as the graph in its place; their blocks lie in lo .. hi, no two in one. -/
def OdG (e1 e2 : Nat) (w : World) (lo hi : Nat) (vs : List Gv) (xs : List GD) : Prop :=
  vs.length = xs.length ∧ Od ics e1 1 w lo hi (vs.map (·.v)) (xs.map (·.V)) ∧ Od GEdge.cs e2 4 w lo hi (vs.map (·.e)) (xs.map (·.E)) ∧ SepG vs
section
variable {e1 e2 lo hi hi' : Nat} {w w' : World} {vs : List Gv} {xs : List GD} {ws : List Nat}
theorem OdG.ch (h : OdG e1 e2 w lo hi vs xs) (c : Ch ws w w') (hw : ∀ i ∈ ws, i < lo ∨ hi ≤ i) : OdG e1 e2 w' lo hi vs xs := ⟨h.1, h.2.1.ch c hw, h.2.2.1.ch c hw, h.2.2.2⟩
theorem OdG.ch0 (h : OdG e1 e2 w lo hi vs xs) (c : Ch [] w w') : OdG e1 e2 w' lo hi vs xs := h.ch c (by simp)
theorem OdG.up {lo' : Nat} (h : OdG e1 e2 w lo hi vs xs) (hl : lo' ≤ lo) (hh : hi ≤ hi') : OdG e1 e2 w lo' hi' vs xs := ⟨h.1, h.2.1.up hl hh, h.2.2.1.up hl hh, h.2.2.2⟩
theorem OdG.nil : OdG e1 e2 w lo hi [] [] := ⟨rfl, Od.nil, Od.nil, fun _ h => by cases h⟩
theorem map_get {α β : Type} {l : List α} {f : α → β} {i : Nat} {y : α} (h : l[i]? = some y) : (l.map f)[i]? = some (f y) := by rw [List.getElem?_map, h]; rfl
theorem OdG.get (h : OdG e1 e2 w lo hi vs xs) {i : Nat} {y : Gv} (hy : vs[i]? = some y) : ∃ x, xs[i]? = some x ∧ Ol ics e1 1 w y.v.v x.V ∧ Ol GEdge.cs e2 4 w y.e.v x.E ∧ (∀ g ∈ bl y.v.v, lo ≤ g ∧ g < hi) ∧ (∀ g ∈ bl y.e.v, lo ≤ g ∧ g < hi) ∧ (∀ g ∈ bl y.v.v, g ∉ bl y.e.v) := by
  have hi := (List.getElem?_eq_some_iff.1 hy).1
  have hx : xs[i]? = some (xs[i]'(by have := h.1; omega)) := List.getElem?_eq_getElem _
  have h1 := h.2.1.2.1 i _ _ (map_get (f := (·.v)) hy) (map_get (f := (·.V)) hx)
  have h2 := h.2.2.1.2.1 i _ _ (map_get (f := (·.e)) hy) (map_get (f := (·.E)) hx)
  exact ⟨_, hx, h1.1, h2.1, h1.2, h2.2, h.2.2.2 y (mem_of_get hy) y (mem_of_get hy)⟩
theorem OdG.rdg (h : OdG e1 e2 w lo hi vs xs) : RdG w lo hi vs xs := ⟨h.1, fun i p x a b => by
  obtain ⟨x', hx, o1, o2, r1, r2, _⟩ := h.get a
  rw [b] at hx; injection hx with hx; subst hx
  exact ⟨o1.within (fun g hg => (r1 g hg).1) (fun g hg => (r1 g hg).2) (Nat.le_refl _) (Nat.le_refl _), o2.within (fun g hg => (r2 g hg).1) (fun g hg => (r2 g hg).2) (Nat.le_refl _) (Nat.le_refl _)⟩⟩
theorem OdG.rng (h : OdG e1 e2 w lo hi vs xs) {u : Gv} (hu : u ∈ vs) : (∀ g ∈ bl u.v.v, lo ≤ g ∧ g < hi) ∧ (∀ g ∈ bl u.e.v, lo ≤ g ∧ g < hi) := by
  obtain ⟨i, hi, rfl⟩ := List.getElem_of_mem hu
  obtain ⟨x, _, _, _, r1, r2, _⟩ := h.get (List.getElem?_eq_getElem hi)
  exact ⟨r1, r2⟩
theorem OdG.snoc (h : OdG e1 e2 w lo hi vs xs) {p : Gv} {x : GD} (o1 : Ol ics e1 1 w p.v.v x.V) (o2 : Ol GEdge.cs e2 4 w p.e.v x.E) (l1 : Lo hi p.v.v) (l2 : Lo hi p.e.v) (u1 : ∀ g ∈ bl p.v.v, g < hi') (u2 : ∀ g ∈ bl p.e.v, g < hi') (hd : ∀ g ∈ bl p.v.v, g ∉ bl p.e.v) (hh : hi ≤ hi') (hlo : lo ≤ hi) : OdG e1 e2 w lo hi' (vs ++ [p]) (xs ++ [x]) := by
  refine ⟨by simp [h.1], ?_, ?_, fun u hu t ht g hg hm => ?_⟩
  · rw [List.map_append, List.map_append]; exact h.2.1.snoc o1 l1 u1 hh hlo
  · rw [List.map_append, List.map_append]; exact h.2.2.1.snoc o2 l2 u2 hh hlo
  · rcases List.mem_append.1 hu with hu | hu <;> rcases List.mem_append.1 ht with ht | ht
    · exact h.2.2.2 u hu t ht g hg hm
    · rw [List.mem_singleton.1 ht] at hm
      have a := ((h.rng hu).1 g hg).2; have b := l2 g hm; omega
    · rw [List.mem_singleton.1 hu] at hg
      have a := ((h.rng ht).2 g hm).2; have b := l1 g hg; omega
    · rw [List.mem_singleton.1 hu] at hg; rw [List.mem_singleton.1 ht] at hm; exact hd g hg hm
theorem set_selfx {α : Type} {l : List α} {i : Nat} {y : α} (h : l[i]? = some y) : l.set i y = l := by
  apply List.ext_getElem?
  intro j
  rw [List.getElem?_set]
  split
  · rename_i e; subst e; rw [if_pos (List.getElem?_eq_some_iff.1 h).1]; exact h.symm
  · rfl
theorem map_set_v {l : List GD} {i : Nat} {x : GD} {V' : List Int} (h : l[i]? = some x) : (l.set i ⟨V', x.E⟩).map (·.V) = (l.map (·.V)).set i V' ∧ (l.set i ⟨V', x.E⟩).map (·.E) = l.map (·.E) := by
  refine ⟨by rw [List.map_set], ?_⟩
  rw [List.map_set]
  exact set_selfx (map_get (f := (·.E)) h)
theorem map_set_e {l : List GD} {i : Nat} {x : GD} {E' : List GEdge} (h : l[i]? = some x) : (l.set i ⟨x.V, E'⟩).map (·.E) = (l.map (·.E)).set i E' ∧ (l.set i ⟨x.V, E'⟩).map (·.V) = l.map (·.V) := by
  refine ⟨by rw [List.map_set], ?_⟩
  rw [List.map_set]
  exact set_selfx (map_get (f := (·.V)) h)
theorem OdG.setV {i : Nat} {y : Gv} {x : GD} {V' : List Int} (h : OdG e1 e2 w lo hi vs xs) (hy : vs[i]? = some y) (hx : xs[i]? = some x) (c : Ch (bl y.v.v) w w') (ho : Ol ics e1 1 w' y.v.v V') : OdG e1 e2 w' lo hi vs (xs.set i ⟨V', x.E⟩) := by
  obtain ⟨m1, m2⟩ := map_set_v (V' := V') hx
  refine ⟨by simp [h.1], ?_, ?_, h.2.2.2⟩
  · rw [m1]; exact h.2.1.set (map_get (f := (·.v)) hy) (map_get (f := (·.V)) hx) c ho
  · rw [m2]
    refine h.2.2.1.chS c fun u hu g hg hm => ?_
    obtain ⟨t, ht, rfl⟩ := List.mem_map.1 hu
    exact h.2.2.2 y (mem_of_get hy) t ht g hm hg
theorem OdG.setE {i : Nat} {y : Gv} {x : GD} {E' : List GEdge} (h : OdG e1 e2 w lo hi vs xs) (hy : vs[i]? = some y) (hx : xs[i]? = some x) (c : Ch (bl y.e.v) w w') (ho : Ol GEdge.cs e2 4 w' y.e.v E') : OdG e1 e2 w' lo hi vs (xs.set i ⟨x.V, E'⟩) := by
  obtain ⟨m1, m2⟩ := map_set_e (E' := E') hx
  refine ⟨by simp [h.1], ?_, ?_, h.2.2.2⟩
  · rw [m2]
    refine h.2.1.chS c fun u hu g hg hm => ?_
    obtain ⟨t, ht, rfl⟩ := List.mem_map.1 hu
    exact h.2.2.2 t ht y (mem_of_get hy) g hg hm
  · rw [m1]; exact h.2.2.1.set (map_get (f := (·.e)) hy) (map_get (f := (·.E)) hx) c ho
theorem OdG.set2 {i : Nat} {y : Gv} {x : GD} {V' : List Int} {E' : List GEdge} (h : OdG e1 e2 w lo hi vs xs) (hy : vs[i]? = some y) (hx : xs[i]? = some x) (c : Ch (bl y.v.v ++ bl y.e.v) w w') (ho : Ol ics e1 1 w' y.v.v V') (ho2 : Ol GEdge.cs e2 4 w' y.e.v E') : OdG e1 e2 w' lo hi vs (xs.set i ⟨V', E'⟩) := by
  have hi' := (List.getElem?_eq_some_iff.1 hx).1
  have hdis : ∀ (j : Nat) (u : Gv), vs[j]? = some u → i ≠ j → (∀ g ∈ bl u.v.v, g ∉ bl y.v.v ++ bl y.e.v) ∧ (∀ g ∈ bl u.e.v, g ∉ bl y.v.v ++ bl y.e.v) := fun j u hu hne => by
    refine ⟨fun g hg hm => ?_, fun g hg hm => ?_⟩ <;> rcases List.mem_append.1 hm with hm | hm
    · rcases Nat.lt_or_gt_of_ne hne with q | q
      · exact h.2.1.2.2 i j _ _ (map_get hy) (map_get hu) q g hm hg
      · exact h.2.1.2.2 j i _ _ (map_get hu) (map_get hy) q g hg hm
    · exact h.2.2.2 u (mem_of_get hu) y (mem_of_get hy) g hg hm
    · exact h.2.2.2 y (mem_of_get hy) u (mem_of_get hu) g hm hg
    · rcases Nat.lt_or_gt_of_ne hne with q | q
      · exact h.2.2.1.2.2 i j _ _ (map_get hy) (map_get hu) q g hm hg
      · exact h.2.2.1.2.2 j i _ _ (map_get hu) (map_get hy) q g hg hm
  refine ⟨by simp [h.1], ⟨by simp [h.1], fun j a b ha hb => ?_, h.2.1.2.2⟩, ⟨by simp [h.1], fun j a b ha hb => ?_, h.2.2.1.2.2⟩, h.2.2.2⟩
  · rw [List.getElem?_map] at ha hb
    obtain ⟨u, hu, rfl⟩ := Option.map_eq_some_iff.1 ha
    obtain ⟨z, hz, rfl⟩ := Option.map_eq_some_iff.1 hb
    rw [List.getElem?_set] at hz
    by_cases e : i = j
    · subst e; rw [if_pos rfl, if_pos hi'] at hz; injection hz with hz; subst hz
      rw [hy] at hu; injection hu with hu; subst hu
      exact ⟨ho, (h.rng (mem_of_get hy)).1⟩
    · rw [if_neg e] at hz
      have := h.2.1.2.1 j _ _ (map_get (f := (·.v)) hu) (map_get (f := (·.V)) hz)
      exact ⟨this.1.ch c (hdis j u hu e).1, this.2⟩
  · rw [List.getElem?_map] at ha hb
    obtain ⟨u, hu, rfl⟩ := Option.map_eq_some_iff.1 ha
    obtain ⟨z, hz, rfl⟩ := Option.map_eq_some_iff.1 hb
    rw [List.getElem?_set] at hz
    by_cases e : i = j
    · subst e; rw [if_pos rfl, if_pos hi'] at hz; injection hz with hz; subst hz
      rw [hy] at hu; injection hu with hu; subst hu
      exact ⟨ho2, (h.rng (mem_of_get hy)).2⟩
    · rw [if_neg e] at hz
      have := h.2.2.1.2.1 j _ _ (map_get (f := (·.e)) hu) (map_get (f := (·.E)) hz)
      exact ⟨this.1.ch c (hdis j u hu e).2, this.2⟩
/-- no row of an entry shares the block of o -/
def SepH (o : Value) (vs : List Gv) : Prop := ∀ u ∈ vs, (∀ g ∈ bl u.v.v, g ∉ bl o) ∧ ∀ g ∈ bl u.e.v, g ∉ bl o
theorem OdG.sepH {o : Value} (h : OdG e1 e2 w lo hi vs xs) (ho : ∀ g ∈ bl o, g < lo ∨ hi ≤ g) : SepH o vs := fun u hu =>
  ⟨fun g hg hm => by have a := (h.rng hu).1 g hg; have b := ho g hm; omega, fun g hg hm => by have a := (h.rng hu).2 g hg; have b := ho g hm; omega⟩
theorem OdG.chH {o : Value} (h : OdG e1 e2 w lo hi vs xs) (c : Ch (bl o) w w') (hs : SepH o vs) : OdG e1 e2 w' lo hi vs xs :=
  ⟨h.1, h.2.1.chS c fun u hu g hg => by obtain ⟨t, ht, rfl⟩ := List.mem_map.1 hu; exact (hs t ht).1 g hg, h.2.2.1.chS c fun u hu g hg => by obtain ⟨t, ht, rfl⟩ := List.mem_map.1 hu; exact (hs t ht).2 g hg, h.2.2.2⟩
end
def gmark (xs : List GD) : Nat := (xs.map fun x => x.V.length + 4 * x.E.length).sum
theorem gmark_take {xs : List GD} {k : Nat} {y : GD} (h : xs[k]? = some y) : gmark (xs.take (k + 1)) = gmark (xs.take k) + (y.V.length + 4 * y.E.length) := by unfold gmark; rw [take_snoc h]; simp
theorem gmark_all {xs : List GD} {k : Nat} (h : xs.length ≤ k) : gmark (xs.take k) = gmark xs := by rw [List.take_of_length_le h]
theorem gmark_sz (xs : List GD) : gmark xs ≤ 4 * gsize xs := by
  induction xs with
  | nil => simp [gmark, gsize]
  | cons x xs ih => simp only [gmark, gsize, List.map_cons, List.sum_cons] at ih ⊢; omega
theorem gmark_le {xs : List GD} {k : Nat} {y : GD} (h : xs[k]? = some y) : gmark (xs.take k) + (y.V.length + 4 * y.E.length) ≤ 4 * gsize xs := by
  rw [← gmark_take h]
  have h1 := gmark_sz (xs.take (k + 1))
  have h2 := gsize_le h
  have h3 := gsize_take h
  omega
theorem set_el {l : List GD} {i : Nat} {x y : GD} {V : List Int} (hx : l[i]? = some x) (hy : (l.set i ⟨V, x.E⟩)[i]? = some y) : y = ⟨V, x.E⟩ := by
  rw [List.getElem?_set, if_pos rfl, if_pos (List.getElem?_eq_some_iff.1 hx).1] at hy
  injection hy with hy; exact hy.symm
/-! ### The graph at a version -/
def gaP (F : Int) (G : List GD) (n : Int) : Prop := ValidH F G ∧ (F ≤ n ∧ n ≤ lvR F G)
noncomputable def gaR (F : Int) (G : List GD) (n : Int) : GD := bif tt (gaP F G n) then G.getD (n - F).toNat ⟨[], []⟩ else ⟨[], []⟩
theorem ga_n {F : Int} {G : List GD} {n : Int} (h : ¬ gaP F G n) : (⟨[], []⟩ : GD) = gaR F G n := by unfold gaR; rw [← tt_false h]; rfl
theorem ga_y {F : Int} {G : List GD} {n : Int} {x : GD} (h1 : ValidH F G) (h2 : F ≤ n ∧ n ≤ lvR F G) (hx : G[(n - F).toNat]? = some x) : x = gaR F G n := by
  have hp : gaP F G n := ⟨h1, h2⟩
  unfold gaR; rw [← tt_true hp, List.getD_eq_getElem?_getD, hx]; rfl
theorem ga_len (F : Int) (G : List GD) (n : Int) : (gaR F G n).V.length ≤ 5 ∧ (gaR F G n).E.length ≤ 12 := by
  by_cases h : gaP F G n
  · rcases hq : G[(n - F).toNat]? with _ | x
    · unfold gaR; rw [← tt_true h, List.getD_eq_getElem?_getD, hq]; exact ⟨by simp, by simp⟩
    · rw [← ga_y h.1 h.2 hq]
      have := valh_val h.1 hq; exact ⟨this.2.2.1.2, this.2.2.2⟩
  · rw [← ga_n h]; exact ⟨by simp, by simp⟩
theorem lv_val {F : Int} {G : List GD} (h : ValidH F G) : lvR F G = F + G.length - 1 := (lv_y h).symm
theorem gd_len {F : Int} {G : List GD} (h : ValidH F G) {k : Nat} {x : GD} (hx : G[k]? = some x) : x.V.length ≤ 5 ∧ x.E.length ≤ 12 := by
  have := valh_val h hx; exact ⟨this.2.2.1.2, this.2.2.2⟩
end Go.KLib
