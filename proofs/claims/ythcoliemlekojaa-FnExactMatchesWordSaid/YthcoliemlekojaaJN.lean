/- A new history. -/
import Derived.Test.YthcoliemlekojaaJM
namespace Go.KLib

noncomputable def nhF (V : List Int) (E : List GEdge) (n : Int) : Int := bif tt (ValidH n [⟨V, E⟩]) then n else 0
noncomputable def nhG (V : List Int) (E : List GEdge) (n : Int) : List GD := bif tt (ValidH n [⟨V, E⟩]) then [⟨V, E⟩] else []
theorem nhF_y {V : List Int} {E : List GEdge} {n : Int} (h : ValidH n [⟨V, E⟩]) : n = nhF V E n := by unfold nhF; rw [← tt_true h]; rfl
theorem nhF_n {V : List Int} {E : List GEdge} {n : Int} (h : ¬ ValidH n [⟨V, E⟩]) : 0 = nhF V E n := by unfold nhF; rw [← tt_false h]; rfl
theorem nhG_y {V : List Int} {E : List GEdge} {n : Int} (h : ValidH n [⟨V, E⟩]) : [⟨V, E⟩] = nhG V E n := by unfold nhG; rw [← tt_true h]; rfl
theorem nhG_n {V : List Int} {E : List GEdge} {n : Int} (h : ¬ ValidH n [⟨V, E⟩]) : [] = nhG V E n := by unfold nhG; rw [← tt_false h]; rfl
/-! ### marked graphs -/
def mkGS (k : Int) : List GD → List GD
  | [] => []
  | x :: xs => ⟨mkInt k x.V.length, mkGEdge (k + x.V.length) x.E.length⟩ :: mkGS (k + x.V.length + 4 * x.E.length) xs
theorem mkGS_len : ∀ (xs : List GD) (k : Int), (mkGS k xs).length = xs.length
  | [], _ => rfl
  | x :: xs, k => by unfold mkGS; rw [List.length_cons, mkGS_len xs, List.length_cons]
theorem mkGS_app : ∀ (xs ys : List GD) (k : Int), mkGS k (xs ++ ys) = mkGS k xs ++ mkGS (k + gmark xs) ys
  | [], ys, k => by simp [mkGS, gmark]
  | x :: xs, ys, k => by
    show (⟨mkInt k x.V.length, mkGEdge (k + x.V.length) x.E.length⟩ :: mkGS (k + x.V.length + 4 * x.E.length) (xs ++ ys) : List GD) = (⟨mkInt k x.V.length, mkGEdge (k + x.V.length) x.E.length⟩ :: mkGS (k + x.V.length + 4 * x.E.length) xs) ++ mkGS (k + gmark (x :: xs)) ys
    rw [mkGS_app xs ys, List.cons_append]
    have e : k + x.V.length + 4 * x.E.length + gmark xs = k + gmark (x :: xs) := by simp only [gmark, List.map_cons, List.sum_cons]; omega
    rw [e]
theorem mkGS_snoc {a : List GD} {i : Nat} {x : GD} (k : Int) (h : a[i]? = some x) : mkGS k (a.take (i + 1)) = mkGS k (a.take i) ++ [⟨mkInt (k + gmark (a.take i)) x.V.length, mkGEdge (k + gmark (a.take i) + x.V.length) x.E.length⟩] := by
  rw [take_snoc h, mkGS_app]; rfl
theorem mkGS_set {a zs : List GD} {i : Nat} {x : GD} {k kk : Int} (hz : zs = mkGS k (a.take i) ++ a.drop i) (h : a[i]? = some x) (hk : kk = k + gmark (a.take i)) : zs.set i ⟨mkInt kk x.V.length, mkGEdge (kk + x.V.length) x.E.length⟩ = mkGS k (a.take (i + 1)) ++ a.drop (i + 1) := by
  subst hz hk
  have hi := (List.getElem?_eq_some_iff.1 h).1
  have hl : (mkGS k (a.take i)).length = i := by rw [mkGS_len, List.length_take]; omega
  rw [mkGS_snoc k h, List.set_append_right _ _ (by omega), hl, Nat.sub_self, List.drop_eq_getElem_cons hi, List.set_cons_zero, List.append_assoc]; rfl
theorem mkGS_at {a zs : List GD} {i j : Nat} {x : GD} {k : Int} (hz : zs = mkGS k (a.take i) ++ a.drop i) (hi : i ≤ a.length) (hj : i ≤ j) (h : zs[j]? = some x) : a[j]? = some x := by
  subst hz
  have hl : (mkGS k (a.take i)).length = i := by rw [mkGS_len, List.length_take]; omega
  rw [List.getElem?_append_right (by omega), hl, List.getElem?_drop, show i + (j - i) = j by omega] at h; exact h
theorem mkGS_end {a zs : List GD} {i : Nat} {k : Int} (hz : zs = mkGS k (a.take i) ++ a.drop i) (hi : a.length ≤ i) : zs = mkGS k a := by
  rw [hz, List.take_of_length_le hi, List.drop_of_length_le hi, List.append_nil]
theorem gmark_mk : ∀ (a : List GD) (k : Int), gmark (mkGS k a) = gmark a
  | [], _ => rfl
  | x :: xs, k => by
    have := gmark_mk xs (k + x.V.length + 4 * x.E.length)
    simp only [gmark, mkGS, List.map_cons, List.sum_cons, mkInt_len, mkGEdge_len] at this ⊢
    omega
theorem held_pos {p : Prop} [Decidable p] {x : Int} (h : ¬ (if p then x else -1) < 0) : p ∧ (if p then x else -1) = x := by
  by_cases hp : p
  · exact ⟨hp, if_pos hp⟩
  · rw [if_neg hp] at h; exact absurd (by decide) h
theorem held_neg {p : Prop} [Decidable p] {x : Int} (h : (if p then x else -1) < 0) (hx : 0 ≤ x) : ¬ p := fun hp => by rw [if_pos hp] at h; omega
theorem mkGS_get {a : List GD} {i : Nat} {y : GD} {k : Int} (h : a[i]? = some y) : (mkGS k a)[i]? = some ⟨mkInt (k + gmark (a.take i)) y.V.length, mkGEdge (k + gmark (a.take i) + y.V.length) y.E.length⟩ := by
  have hi := (List.getElem?_eq_some_iff.1 h).1
  have hl : (mkGS k (a.take i)).length = i := by rw [mkGS_len, List.length_take]; omega
  have e : mkGS k a = mkGS k (a.take (i + 1)) ++ mkGS (k + gmark (a.take (i + 1))) (a.drop (i + 1)) := by rw [← mkGS_app, List.take_append_drop]
  rw [e, mkGS_snoc k h, List.getElem?_append_left (by simp; omega), List.getElem?_append_right (by omega), hl]; simp
theorem held_bad {a : List GD} {i : Nat} {y : GD} {k kk : Int} (h : a[i]? = some y) (hk : kk = k + gmark (a.take i)) (hn : ¬ (y.V = mkInt kk y.V.length ∧ y.E = mkGEdge (kk + y.V.length) y.E.length)) : ¬ a = mkGS k a := fun e => by
  have h2 := mkGS_get (k := k) h
  rw [← e, h] at h2
  injection h2 with h2
  apply hn
  subst hk
  exact ⟨congrArg (·.V) h2, congrArg (·.E) h2⟩
theorem held_gs {a : List GD} {i : Nat} {y : GD} {k kk : Int} (ht : a.take i = mkGS k (a.take i)) (h : a[i]? = some y) (hk : kk = k + gmark (a.take i)) (h1 : y.V = mkInt kk y.V.length) (h2 : y.E = mkGEdge (kk + y.V.length) y.E.length) : a.take (i + 1) = mkGS k (a.take (i + 1)) := by
  rw [mkGS_snoc k h, ← ht, take_snoc h, ← hk, ← h1, ← h2]
noncomputable def heldGR (k : Int) (a : List GD) : Int := bif tt (a = mkGS k a) then k + gmark a else -1
theorem heldGR_n {k : Int} {a : List GD} (h : ¬ a = mkGS k a) : -1 = heldGR k a := by unfold heldGR; rw [← tt_false h]; rfl
theorem heldGR_y {k kk : Int} {a : List GD} {i : Nat} (ht : a.take i = mkGS k (a.take i)) (hk : kk = k + gmark (a.take i)) (hi : a.length ≤ i) : kk = heldGR k a := by
  rw [List.take_of_length_le hi] at ht hk
  unfold heldGR; rw [← tt_true ht]; exact hk
theorem heldGR_neg {k : Int} {a : List GD} (h : heldGR k a < 0) (hk : 0 ≤ k) : -1 = heldGR k a := by
  by_cases e : a = mkGS k a
  · unfold heldGR at h; rw [← tt_true e] at h; simp only [cond_true] at h; omega
  · exact heldGR_n e
theorem heldGR_mk (k : Int) (a : List GD) : heldGR k (mkGS k a) = k + gmark (mkGS k a) := by
  have e : mkGS k a = mkGS k (mkGS k a) := by
    apply List.ext_getElem?
    intro i
    rcases hq : a[i]? with _ | y
    · have hl : a.length ≤ i := List.getElem?_eq_none_iff.1 hq
      rw [List.getElem?_eq_none (by rw [mkGS_len]; exact hl), List.getElem?_eq_none (by rw [mkGS_len, mkGS_len]; exact hl)]
    · have hl : (mkGS k a).take i = mkGS k (a.take i) := by
        have e2 : mkGS k a = mkGS k (a.take i) ++ mkGS (k + gmark (a.take i)) (a.drop i) := by rw [← mkGS_app, List.take_append_drop]
        have hn : (mkGS k (a.take i)).length = i := by rw [mkGS_len, List.length_take]; have := (List.getElem?_eq_some_iff.1 hq).1; omega
        rw [e2, List.take_append_of_le_length (by omega), List.take_of_length_le (by omega)]
      rw [mkGS_get (mkGS_get hq), mkGS_get hq, hl, gmark_mk]
      simp
  unfold heldGR; rw [← tt_true e]; rfl
theorem gsize_mk : ∀ (a : List GD) (k : Int), gsize (mkGS k a) = gsize a
  | [], _ => rfl
  | x :: xs, k => by
    have := gsize_mk xs (k + x.V.length + 4 * x.E.length)
    simp only [gsize, mkGS, List.map_cons, List.sum_cons, mkInt_len, mkGEdge_len] at this ⊢
    omega
theorem nh_size (V : List Int) (E : List GEdge) (n : Int) : (nhG V E n).length ≤ 1 ∧ gsize (nhG V E n) ≤ 17 := by
  by_cases h : ValidH n [⟨V, E⟩]
  · rw [← nhG_y h]
    have := valh_val h (k := 0) rfl
    have h1 := this.2.2.1.2; have h2 := this.2.2.2
    simp only [gsize, List.map_cons, List.map_nil, List.sum_cons, List.sum_nil, List.length_singleton]
    simp only at h1 h2
    omega
  · rw [← nhG_n h]; simp [gsize]
end Go.KLib
