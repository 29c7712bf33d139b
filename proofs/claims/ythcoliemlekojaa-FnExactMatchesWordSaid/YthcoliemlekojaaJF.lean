/- Slices of graphs. -/
import Derived.Test.YthcoliemlekojaaJE
namespace Go.KLib
open Go.ChangeShapes Go.WideShapes Go.ChangeAt Go.RowKit Go.Deep Go.Joins

/-- a graph's two rows, as they lie in a slice of graphs -/
structure Gv where
  v : Sv
  e : Sv
def Gv.cs (p : Gv) : List Value := [.slice p.v.A p.v.n p.v.c, .slice p.e.A p.e.n p.e.c]
theorem Gv.len (p : Gv) : p.cs.length = 2 := rfl
theorem Gv.one (x : Gv) : ∀ y ∈ x.cs, y.oneCell' = true := by intro y hy; simp [Gv.cs] at hy; rcases hy with rfl | rfl <;> rfl
structure GD where
  V : List Int
  E : List GEdge
def RdG (w : World) (L B : Nat) (vs : List Gv) (xs : List GD) : Prop :=
  vs.length = xs.length ∧ ∀ (i : Nat) (p : Gv) (x : GD), vs[i]? = some p → xs[i]? = some x → Ls ics 1 w L B p.v.v x.V ∧ Ls GEdge.cs 4 w L B p.e.v x.E
section
variable {L L' B B' : Nat} {w w' : World} {vs : List Gv} {xs : List GD} {ws : List Nat}
theorem RdG.ch (h : RdG w L B vs xs) (c : Ch ws w w') (hw : ∀ i ∈ ws, i < L ∨ B ≤ i) : RdG w' L B vs xs := ⟨h.1, fun i v x a b => ⟨(h.2 i v x a b).1.ch c hw, (h.2 i v x a b).2.ch c hw⟩⟩
theorem RdG.ch0 (h : RdG w L B vs xs) (c : Ch [] w w') : RdG w' L B vs xs := h.ch c (by simp)
theorem RdG.up (h : RdG w L B vs xs) (hL : L' ≤ L) (hB : B ≤ B') : RdG w L' B' vs xs := ⟨h.1, fun i v x a b => ⟨(h.2 i v x a b).1.up hL hB, (h.2 i v x a b).2.up hL hB⟩⟩
theorem RdG.here (h : RdG w L B vs xs) : RdG w L w.heap.size vs xs := ⟨h.1, fun i v x a b => ⟨(h.2 i v x a b).1.here (by decide), (h.2 i v x a b).2.here (by decide)⟩⟩
theorem RdG.nil : RdG w L B [] [] := ⟨rfl, fun _ _ _ h => by simp at h⟩
theorem Ol.within {α : Type} {cs : α → List Value} {e k : Nat} {w : World} {v : Value} {xs : List α} {L B L0 B0 : Nat} (h : Ol cs e k w v xs) (hl : Lo L0 v) (hh : ∀ g ∈ bl v, g < B0) (h1 : L ≤ L0) (h2 : B0 ≤ B) : Ls cs k w L B v xs := by
  have hs := h.ls
  refine ⟨hs.1, ?_⟩
  obtain ⟨A, c, hv, h3, h4, h5⟩ := hs.2
  refine ⟨A, c, hv, h3, h4, fun hp => ?_⟩
  obtain ⟨ad, ha, hat⟩ := h5 hp
  have hm : ad.block ∈ bl v := by rw [hv, ha]; simp [bl, Value.ownBlock]
  exact ⟨ad, ha, ⟨Nat.le_trans h1 (hl _ hm), Nat.lt_of_lt_of_le (hh _ hm) h2⟩, hat.2⟩
theorem RdG.snoc {p : Gv} {x : GD} (r : RdG w L B vs xs) (h1 : Ls ics 1 w L B p.v.v x.V) (h2 : Ls GEdge.cs 4 w L B p.e.v x.E) : RdG w L B (vs ++ [p]) (xs ++ [x]) := by
  refine ⟨by simp [r.1], fun i u y a b => ?_⟩
  rcases get_snoc a with ⟨a1, a2⟩ | ⟨a1, a2⟩
  · rcases get_snoc b with ⟨b1, b2⟩ | ⟨b1, b2⟩
    · exact r.2 i u y a2 b2
    · have := r.1; omega
  · rcases get_snoc b with ⟨b1, b2⟩ | ⟨b1, b2⟩
    · have := r.1; omega
    · subst a2 b2; exact ⟨h1, h2⟩
theorem RdG.get (h : RdG w L B vs xs) {i : Nat} {y : Gv} (hy : vs[i]? = some y) : ∃ x, xs[i]? = some x ∧ Ls ics 1 w L B y.v.v x.V ∧ Ls GEdge.cs 4 w L B y.e.v x.E := by
  have hi := (List.getElem?_eq_some_iff.1 hy).1
  have hx : xs[i]? = some (xs[i]'(by have := h.1; omega)) := List.getElem?_eq_getElem _
  exact ⟨_, hx, h.2 i y _ hy hx⟩
end
theorem fill_gv {vs : List Gv} {z v : Gv} {k n : Nat} (hv : vs.length = k) (hk : k < n) : (vs ++ List.replicate (n - k) z).set k v = (vs ++ [v]) ++ List.replicate (n - (k + 1)) z := by
  rw [List.set_append, if_neg (by omega), hv, Nat.sub_self, show n - k = (n - (k + 1)) + 1 by omega, List.replicate_succ, List.set_cons_zero, List.append_assoc]; rfl
theorem GD.ext2 {a b : GD} (h1 : a.V = b.V) (h2 : a.E = b.E) : a = b := by cases a; cases b; simp_all
theorem RdG.at_ {w : World} {L B : Nat} {vs : List Gv} {xs : List GD} (h : RdG w L B vs xs) : vs.length = xs.length := h.1
def gsize (xs : List GD) : Nat := (xs.map fun x => x.V.length + x.E.length).sum
theorem gsize_all {xs : List GD} {k : Nat} (h : xs.length ≤ k) : gsize (xs.take k) = gsize xs := by rw [List.take_of_length_le h]
theorem gsize_take {xs : List GD} {k : Nat} {y : GD} (h : xs[k]? = some y) : gsize (xs.take (k + 1)) = gsize (xs.take k) + (y.V.length + y.E.length) := by
  unfold gsize; rw [take_snoc h]; simp
theorem gsize_le {xs : List GD} {k : Nat} {y : GD} (h : xs[k]? = some y) : gsize (xs.take k) + (y.V.length + y.E.length) ≤ gsize xs := by
  rw [← gsize_take h]
  have e : gsize xs = gsize (xs.take (k + 1)) + gsize (xs.drop (k + 1)) := by
    unfold gsize; rw [← List.sum_append, ← List.map_append, List.take_append_drop]
  omega
section
variable {H : Type} {enc : TypeId × Value → H} {P : Program} {w : World} {base : Nat} {spare : Nat → Bool} {held : Bool}
theorem open_nestG {t e e1 e2 : TypeId} {f1 f2 : Field} {fuel : Nat} {v : Value} {x : DataW H × List MemPlace} (ht : P.underlying t = some (.slice e)) (h2 : P.cellsOf e = 2) (hs : P.underlying e = some (.struct #[f1, f2])) (hone : oneCellFields P #[f1, f2] = true)
    (hu1 : P.underlying f1.type = some (.slice e1)) (hk1 : P.cellsOf e1 = 1) (hu2 : P.underlying f2.type = some (.slice e2)) (hk2 : P.cellsOf e2 = 4)
    (he1 : ∀ fuel vs y, vs.length = 1 → DataW.trod enc P w base spare held fuel e1 vs = some y → ∃ x : Int, vs = ics x) (he2 : ∀ fuel vs y, vs.length = 4 → DataW.trod enc P w base spare held fuel e2 vs = some y → ∃ x : GEdge, vs = x.cs)
    (h : DataW.trod enc P w base spare held fuel t [v] = some x) : ∃ (vs : List Gv) (xs : List GD), Ls Gv.cs 2 w 0 w.heap.size v vs ∧ RdG w 0 w.heap.size vs xs := by
  obtain ⟨vs, hv, hG⟩ := open_lsG (cs := Gv.cs) (k := 2) (G := fun s : Gv => ∃ X : GD, Ls ics 1 w 0 w.heap.size s.v.v X.V ∧ Ls GEdge.cs 4 w 0 w.heap.size s.e.v X.E) ht h2 (by decide) Gv.len (fun fuel us y hl hy => by
    obtain ⟨c1, c2, rfl⟩ := list2 hl
    obtain ⟨ys, n, _, _, _, hlen, hg⟩ := DataW.trod_struct hs hy
    obtain ⟨o1, k1⟩ := hone_of hone 0 f1 rfl
    obtain ⟨o2, k2⟩ := hone_of hone 1 f2 rfl
    have g1 := hg 0 f1 rfl
    have g2 := hg 1 f2 rfl
    rw [o1, k1] at g1
    rw [o2, k2] at g2
    have hy1 : ∃ y1, ys[0]? = some y1 := ⟨ys[0]'(by rw [hlen]; simp), List.getElem?_eq_getElem _⟩
    have hy2 : ∃ y2, ys[1]? = some y2 := ⟨ys[1]'(by rw [hlen]; simp), List.getElem?_eq_getElem _⟩
    obtain ⟨y1, hy1⟩ := hy1
    obtain ⟨y2, hy2⟩ := hy2
    rw [hy1] at g1
    rw [hy2] at g2
    obtain ⟨V, hV⟩ := open_ls hu1 hk1 (by decide) ics_len he1 (v := c1) g1
    obtain ⟨E, hE⟩ := open_ls hu2 hk2 (by decide) GEdge.len he2 (v := c2) g2
    obtain ⟨A, c, rfl⟩ := hV.val
    obtain ⟨A', c', rfl⟩ := hE.val
    exact ⟨⟨⟨A, V.length, c⟩, ⟨A', E.length, c'⟩⟩, rfl, ⟨V, E⟩, hV, hE⟩) h
  obtain ⟨xs, hl, hx⟩ := list_of (n := vs.length) (Q := fun i (x : GD) => ∀ s : Gv, vs[i]? = some s → Ls ics 1 w 0 w.heap.size s.v.v x.V ∧ Ls GEdge.cs 4 w 0 w.heap.size s.e.v x.E) fun i hi => by
    obtain ⟨x, hx⟩ := hG i vs[i] (List.getElem?_eq_getElem hi)
    exact ⟨x, fun s hs => by rw [List.getElem?_eq_getElem hi] at hs; injection hs with hs; subst hs; exact hx⟩
  exact ⟨vs, xs, hv, hl.symm, fun i s x a b => hx i x b s a⟩
end
/-! ### Histories -/
def SameV (G : List GD) (k : Nat) : Prop := ∀ (i : Nat) (x z : GD), i < k → G[i]? = some x → G[0]? = some z → ValidG x.V x.E ∧ x.V = z.V
def ValidH (F : Int) (G : List GD) : Prop := SameV G G.length ∧ (1 ≤ G.length ∧ G.length ≤ 8) ∧ (1 ≤ F ∧ F ≤ 999 - G.length + 1)
theorem same_zero (G : List GD) : SameV G 0 := fun _ _ _ h => absurd h (by omega)
theorem same_step {G : List GD} {k : Nat} {y z : GD} (h : SameV G k) (hy : G[k]? = some y) (hz : G[0]? = some z) (h1 : ValidG y.V y.E) (h2 : y.V = z.V) : SameV G (k + 1) := fun i x z' hi hx hz' => by
  by_cases q : i = k
  · subst q; rw [hy] at hx; injection hx with hx; subst hx; rw [hz] at hz'; injection hz' with hz'; subst hz'; exact ⟨h1, h2⟩
  · exact h i x z' (by omega) hx hz'
theorem valh_val {F : Int} {G : List GD} (h : ValidH F G) {k : Nat} {y : GD} (hy : G[k]? = some y) : ValidG y.V y.E := by
  have hk := (List.getElem?_eq_some_iff.1 hy).1
  exact (h.1 k y _ hk hy (List.getElem?_eq_getElem (by omega))).1
theorem valh_same {F : Int} {G : List GD} (h : ValidH F G) {k : Nat} {y z : GD} (hy : G[k]? = some y) (hz : G[0]? = some z) : y.V = z.V := by
  have hk := (List.getElem?_eq_some_iff.1 hy).1
  exact (h.1 k y z hk hy hz).2
theorem vh_y {F : Int} {G : List GD} {k : Nat} (hs : SameV G k) (hk : G.length ≤ k) (h1 : 1 ≤ G.length ∧ G.length ≤ 8) : decide (1 ≤ F ∧ F ≤ (999 - (G.length : Int)) + 1) = tt (ValidH F G) := by
  rw [tt_dec]
  exact tt_eq ⟨fun h => ⟨fun i x z hi hx hz => hs i x z (by omega) hx hz, h1, by omega⟩, fun h => by have := h.2.2; omega⟩
theorem vh_t {F : Int} {G : List GD} {k : Nat} (hs : SameV G k) (hk : G.length ≤ k) (h1 : 1 ≤ G.length ∧ G.length ≤ 8) (h2 : 1 ≤ F ∧ F ≤ (999 - (G.length : Int)) + 1) : true = tt (ValidH F G) := by
  rw [← vh_y hs hk h1, decide_eq_true h2]
noncomputable def lvR (F : Int) (G : List GD) : Int := bif tt (ValidH F G) then F + G.length - 1 else 0
theorem lv_y {F : Int} {G : List GD} (h : ValidH F G) : F + G.length - 1 = lvR F G := by unfold lvR; rw [← tt_true h]; rfl
theorem lv_n {F : Int} {G : List GD} (h : ¬ ValidH F G) : 0 = lvR F G := by unfold lvR; rw [← tt_false h]; rfl
end Go.KLib
