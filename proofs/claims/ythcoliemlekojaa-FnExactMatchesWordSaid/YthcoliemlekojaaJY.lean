import Derived.Test.YthcoliemlekojaaJX
namespace Go.KLib
/-! The reference's stack of squares. -/
theorem Ol.lsR {α : Type} {cs : α → List Value} {e k lo hi : Nat} {w : World} {v : Value} {xs : List α} (h : Ol cs e k w v xs) (hl : Lo lo v) (hh : ∀ g ∈ bl v, g < hi) : Ls cs k w lo hi v xs := by
  have hc := fun g off cap => Ow.cells (g := g) (off := off) (cap := cap) h
  rcases h.2 with ⟨rfl, h0⟩ | ⟨g, off, cap, cur, rfl, hg, h1, h2, h3, _⟩
  · exact ⟨h.1, none, 0, by rw [h0], by omega, Nat.zero_le _, fun h => absurd h (by omega)⟩
  · have hb : g ∈ bl (.slice (some ⟨g, off, none⟩) xs.length cap) := by simp [bl, Value.ownBlock]
    exact ⟨h.1, _, cap, rfl, h1, h2, fun _ => ⟨_, rfl, ⟨hl g hb, hh g hb⟩, fun j u hu => by rw [add_lit]; exact hc g off cap rfl j u hu⟩⟩
theorem Od.rdR {α : Type} {cs : α → List Value} {e k lo hi : Nat} {w : World} {vs : List Sv} {xs : List (List α)} (h : Od cs e k w lo hi vs xs) : Rd cs k w lo hi vs xs := by
  refine ⟨h.1, fun i v x hv hx => ?_⟩
  obtain ⟨x', hx', ho, hr⟩ := h.ownget hv
  rw [hx] at hx'; cases hx'
  exact ho.lsR (fun g hg => (hr g hg).1) (fun g hg => (hr g hg).2)
/-- vs are squares, and they tell where the words of the trees of st stand; no block of b is theirs -/
def RT (w : World) (H : Nat) (b : List Nat) (wd : List Int) (vs : List Sv) (st : List Tr) : Prop :=
  vs.length = st.length ∧ ∀ (i : Nat) (v : Sv) (t : Tr), vs[i]? = some v → st.reverse[i]? = some t →
    ∃ us lo hi, Ls Sv.cs 1 w lo hi v.v us ∧ Rd bcs 1 w lo hi us (grd (wd.length + 1) (mtT wd t)) ∧ hi ≤ H ∧ ∀ g ∈ b, g < lo ∨ hi ≤ g
section
variable {w w' : World} {H H' : Nat} {b b' ws : List Nat} {wd : List Int} {vs : List Sv} {st : List Tr}
theorem RT.nil : RT w H b wd [] [] := ⟨rfl, fun _ _ _ h => by simp at h⟩
theorem RT.ch (h : RT w H b wd vs st) (c : Ch ws w w') (hw : ∀ i ∈ ws, H ≤ i ∨ i ∈ b) : RT w' H b wd vs st := ⟨h.1, fun i v t hv ht => by
  obtain ⟨us, lo, hi, h1, h2, h3, h4⟩ := h.2 i v t hv ht
  have hd : ∀ i ∈ ws, i < lo ∨ hi ≤ i := fun i hi' => by
    rcases hw i hi' with q | q
    · right; omega
    · exact h4 i q
  exact ⟨us, lo, hi, h1.ch c hd, h2.ch c hd, h3, h4⟩⟩
theorem RT.ch0 (h : RT w H b wd vs st) (c : Ch [] w w') : RT w' H b wd vs st := h.ch c (by simp)
theorem RT.get (h : RT w H b wd vs st) {i : Nat} {y : Sv} (hy : vs[i]? = some y) : ∃ t us lo hi, st.reverse[i]? = some t ∧ Ls Sv.cs 1 w lo hi y.v us ∧ Rd bcs 1 w lo hi us (grd (wd.length + 1) (mtT wd t)) ∧ hi ≤ H := by
  have hi : i < st.reverse.length := by
    have := (List.getElem?_eq_some_iff.1 hy).1
    rw [List.length_reverse]; have := h.1; omega
  obtain ⟨us, lo, hi', h1, h2, h3, _⟩ := h.2 i y _ hy (List.getElem?_eq_getElem hi)
  exact ⟨_, us, lo, hi', List.getElem?_eq_getElem hi, h1, h2, h3⟩
theorem RT.take (h : RT w H b wd vs st) {k : Nat} (hk : k ≤ st.length) : RT w H b wd (vs.take (vs.length - k)) (st.drop k) := by
  refine ⟨by rw [List.length_take, List.length_drop, h.1]; omega, fun i v t hv ht => ?_⟩
  have h9 := h.1
  rw [List.getElem?_take] at hv
  split at hv
  · rename_i hi
    refine h.2 i v t hv ?_
    have e : st.reverse = (st.drop k).reverse ++ (st.take k).reverse := by rw [← List.reverse_append, List.take_append_drop]
    rw [e, List.getElem?_append_left (by rw [List.length_reverse, List.length_drop]; omega)]
    exact ht
  · cases hv
theorem RT.add (h : RT w H b wd vs st) {v : Sv} {t : Tr} {us : List Sv} {lo hi : Nat} (h1 : Ls Sv.cs 1 w lo hi v.v us) (h2 : Rd bcs 1 w lo hi us (grd (wd.length + 1) (mtT wd t))) (h3 : hi ≤ H') (hH : H ≤ H')
    (hb : ∀ g ∈ b', g < lo ∨ hi ≤ g) (ho : ∀ g ∈ b', g ∈ b ∨ H ≤ g) : RT w H' b' wd (vs ++ [v]) (t :: st) := by
  refine ⟨by simp [h.1], fun i x u hx hu => ?_⟩
  have h9 := h.1
  rw [List.reverse_cons] at hu
  by_cases hi' : i < vs.length
  · rw [List.getElem?_append_left hi'] at hx
    rw [List.getElem?_append_left (by rw [List.length_reverse]; omega)] at hu
    obtain ⟨us, l, r, a1, a2, a3, a4⟩ := h.2 i x u hx hu
    refine ⟨us, l, r, a1, a2, by omega, fun g hg => ?_⟩
    rcases ho g hg with q | q
    · exact a4 g q
    · right; omega
  · have e : i = vs.length := by
      have := (List.getElem?_eq_some_iff.1 hx).1
      simp at this; omega
    subst e
    rw [List.getElem?_append_right (Nat.le_refl _), Nat.sub_self] at hx
    rw [List.getElem?_append_right (by rw [List.length_reverse]; omega), List.length_reverse, h9, Nat.sub_self] at hu
    simp at hx hu; subst hx hu
    exact ⟨us, lo, hi, h1, h2, h3, hb⟩
theorem RT.eq {vs' : List Sv} (h : RT w H b wd vs st) (e : vs = vs') : RT w H b wd vs' st := e ▸ h
end
section
variable {st s2 : List Tr} {y : Token} {l : List Token} {i : Nat} {t : Tr}
theorem prs_go (hl : treeL l = some t) (hp : prs [] (l.take i) = some st) (hy : l[i]? = some y) : ∃ s2, push st y = some s2 ∧ prs [] (l.take (i + 1)) = some s2 := by
  have h := prs_snoc hp hy
  cases hq : push st y with
  | some s2 => exact ⟨s2, rfl, by rw [h, hq]⟩
  | none =>
    rw [hq] at h
    have := prs_stop h
    unfold treeL at hl; rw [this] at hl; cases hl
theorem prs_fin (hl : treeL l = some t) (hp : prs [] (l.take i) = some st) (hi : l.length ≤ i) : st = [t] := by
  have h := prs_end hp hi
  unfold treeL at hl
  rw [h] at hl
  match st, hl with
  | [u], hl => cases hl; rfl
theorem push_ar (h : push st y = some s2) : arT y = arK y.kind ∧ 0 ≤ arT y := by
  have h0 : 0 ≤ arT y := by
    unfold push at h
    split at h
    · omega
    · split at h
      · omega
      · split at h
        · omega
        · cases h
  exact ⟨arT_ok h0, h0⟩
theorem push_k0 (h : push st y = some s2) (hk : arK y.kind = 0) : s2 = .l0 y :: st := by
  have e := (push_ar h).1
  unfold push at h
  rw [if_pos (by omega)] at h
  cases h; rfl
theorem push_k1 (h : push st y = some s2) (hk : arK y.kind = 1) : ∃ a r, st = a :: r ∧ s2 = .l1 y a :: r := by
  have e := (push_ar h).1
  unfold push at h
  rw [if_neg (by omega), if_pos (by omega)] at h
  match st, h with
  | a :: r, h => cases h; exact ⟨a, r, rfl, rfl⟩
theorem push_k2 (h : push st y = some s2) (hk : arK y.kind = 2) : ∃ a b r, st = b :: a :: r ∧ s2 = .l2 y a b :: r := by
  have e := (push_ar h).1
  unfold push at h
  rw [if_neg (by omega), if_neg (by omega), if_pos (by omega)] at h
  match st, h with
  | b :: a :: r, h => cases h; exact ⟨a, b, r, rfl, rfl⟩
theorem push_hi (h : push st y = some s2) (hk : y.kind = 7) : y.high ≤ 3 := by
  have e := (push_ar h).2
  unfold arT at e
  rw [if_neg (by omega), if_neg (by omega), if_neg (by omega), if_neg (by omega), if_pos hk] at e
  split at e
  · omega
  · omega
theorem top1 {a : Tr} {r : List Tr} {j : Nat} {u : Tr} (hj : j = r.length) (h : (a :: r).reverse[j]? = some u) : u = a := by
  subst hj
  rw [List.reverse_cons, List.getElem?_append_right (by simp), List.length_reverse, Nat.sub_self] at h
  simpa using h.symm
theorem top2 {a c : Tr} {r : List Tr} {j : Nat} {u : Tr} (hj : j = r.length) (h : (c :: a :: r).reverse[j]? = some u) : u = a := by
  subst hj
  rw [List.reverse_cons, List.getElem?_append_left (by simp)] at h
  exact top1 rfl h
end
section
variable {w : List Int} {y : Token} {a b : Tr}
theorem ml2 (h : y.kind = 2) : mtT w (.l0 y) = idM true := by rw [mtT, if_pos h]
theorem ml3 (h : y.kind = 3) : mtT w (.l0 y) = ltM y.letter w := by rw [mtT, if_neg (by omega), if_pos h]
theorem ml0 (h : y.kind ≠ 2 ∧ y.kind ≠ 3) : mtT w (.l0 y) = idM false := by rw [mtT, if_neg h.1, if_neg h.2]
theorem ml4 (h : y.kind = 4) : mtT w (.l2 y a b) = mulM (w.length + 1) (mtT w a) (mtT w b) := by rw [mtT, if_pos h]
theorem ml5 (h : y.kind = 5) : mtT w (.l2 y a b) = oeM (mtT w a) (mtT w b) := by rw [mtT, if_neg (by omega), if_pos h]
theorem ml6 (h : y.kind = 6) : mtT w (.l1 y a) = repM (w.length + 1) (mtT w a) 0 (w.length + 1) := by rw [mtT, if_pos h]
theorem ml7 (h : y.kind = 7) : mtT w (.l1 y a) = repM (w.length + 1) (mtT w a) y.low (y.high + 1).toNat := by rw [mtT, if_neg (by omega), if_pos h]
end
theorem fin_mt {w : List Int} {t u : Tr} {ys : List Bool} {x : Bool} (hu : [t].reverse[0]? = some u) (h : (grd (w.length + 1) (mtT w u))[0]? = some ys) (hx : ys[w.length]? = some x) : x = mtT w t 0 w.length := by
  have e : u = t := top1 rfl hu
  subst e
  exact grd_y rfl h hx
theorem set_last {vs : List Sv} {v : Sv} {j : Nat} (hj : j + 1 = vs.length) : vs.take (vs.length - 1) ++ [v] = vs.set j v := by
  apply List.ext_getElem?
  intro i
  rw [List.getElem?_set]
  by_cases e : j = i
  · subst e
    rw [if_pos rfl, if_pos (by omega), List.getElem?_append_right (by rw [List.length_take]; omega), List.length_take]
    rw [show j - min (vs.length - 1) vs.length = 0 by omega]; rfl
  · rw [if_neg e]
    by_cases hi : i < j
    · rw [List.getElem?_append_left (by rw [List.length_take]; omega), List.getElem?_take, if_pos (by omega)]
    · rw [List.getElem?_eq_none (by rw [List.length_append, List.length_take, List.length_singleton]; omega), List.getElem?_eq_none (by omega)]
/-- whether an expression takes a word -/
noncomputable def mwE (e : List Token) (w : List Int) : Bool := ivE e && tt (IsWd w) && (match treeL e with | some t => mtT w t 0 w.length | none => false)
section
variable {e : List Token} {w : List Int} {t : Tr}
theorem mwE_n1 (h : ivE e = false) : mwE e w = false := by unfold mwE; rw [h]; rfl
theorem mwE_n2 (h : ¬ IsWd w) : mwE e w = false := by unfold mwE; rw [← tt_false h]; simp
theorem mwE_y (h : ivE e = true) (hw : IsWd w) (ht : treeL e = some t) : mwE e w = mtT w t 0 w.length := by unfold mwE; rw [h, ← tt_true hw, ht]; rfl
end
end Go.KLib
