/- The least word to a place: all places in the order in which they are found. -/
import Derived.Test.YthcoliemlekojaaJF
namespace Go.KLib

section
variable {T : Type} [DecidableEq T]
/-- what a place adds, letter by letter -/
def bx (nx : T → Nat → T) (e : T × List Int) (E : List (T × List Int)) : Nat → List (T × List Int)
  | 0 => E
  | k + 1 => if nx e.1 k ∈ (bx nx e E k).map (·.1) then bx nx e E k else bx nx e E k ++ [(nx e.1 k, e.2 ++ [(k : Int)])]
/-- the places that are known when the first k have been worked off -/
def bE (nx : T → Nat → T) (t0 : T) : Nat → List (T × List Int)
  | 0 => [(t0, [])]
  | k + 1 => match (bE nx t0 k)[k]? with
    | none => bE nx t0 k
    | some e => bx nx e (bE nx t0 k) 9
variable {nx : T → Nat → T} {t0 : T} {ts : T → Bool}
theorem bx_pre (e : T × List Int) (E : List (T × List Int)) : ∀ k, ∃ D, bx nx e E k = E ++ D
  | 0 => ⟨[], by simp [bx]⟩
  | k + 1 => by
    obtain ⟨D, h⟩ := bx_pre e E k
    unfold bx; split
    · exact ⟨D, h⟩
    · exact ⟨D ++ [(nx e.1 k, e.2 ++ [(k : Int)])], by rw [h, List.append_assoc]⟩
theorem bx_get {e : T × List Int} {E : List (T × List Int)} {k i : Nat} {x : T × List Int} (h : E[i]? = some x) : (bx nx e E k)[i]? = some x := by
  obtain ⟨D, hD⟩ := bx_pre (nx := nx) e E k
  rw [hD, List.getElem?_append_left (List.getElem?_eq_some_iff.1 h).1]; exact h
theorem bx_len (e : T × List Int) (E : List (T × List Int)) (k : Nat) : E.length ≤ (bx nx e E k).length := by
  obtain ⟨D, hD⟩ := bx_pre (nx := nx) e E k
  rw [hD, List.length_append]; omega
theorem bE_succ {k : Nat} {e : T × List Int} (h : (bE nx t0 k)[k]? = some e) : bE nx t0 (k + 1) = bx nx e (bE nx t0 k) 9 := by
  show (match (bE nx t0 k)[k]? with | none => _ | some e => _) = _
  rw [h]
theorem bE_stop {k : Nat} (h : (bE nx t0 k).length ≤ k) : bE nx t0 (k + 1) = bE nx t0 k := by
  show (match (bE nx t0 k)[k]? with | none => _ | some e => _) = _
  rw [List.getElem?_eq_none h]
theorem bE_get {i : Nat} {x : T × List Int} : ∀ {k j}, (bE nx t0 k)[i]? = some x → k ≤ j → (bE nx t0 j)[i]? = some x
  | k, j, h, hj => by
    induction j with
    | zero => rw [show k = 0 by omega] at h; exact h
    | succ j ih =>
      rcases Nat.eq_or_lt_of_le hj with e | e
      · rw [← e]; exact h
      · have h1 := ih (by omega)
        rcases hq : (bE nx t0 j)[j]? with _ | y
        · rw [bE_stop (List.getElem?_eq_none_iff.1 hq)]; exact h1
        · rw [bE_succ hq]; exact bx_get h1
/-- places are told apart -/
theorem bx_nodup {e : T × List Int} {E : List (T × List Int)} (h : (E.map (·.1)).Nodup) : ∀ k, ((bx nx e E k).map (·.1)).Nodup
  | 0 => h
  | k + 1 => by
    unfold bx; split
    · exact bx_nodup h k
    · rename_i hn
      rw [List.map_append, List.nodup_append]
      exact ⟨bx_nodup h k, by simp, fun a ha b hb hab => hn (by simp only [List.map_cons, List.map_nil, List.mem_singleton] at hb; rw [← hb, ← hab]; exact ha)⟩
theorem bE_nodup : ∀ k, ((bE nx t0 k).map (·.1)).Nodup
  | 0 => by simp [bE]
  | k + 1 => by
    rcases hq : (bE nx t0 k)[k]? with _ | y
    · rw [bE_stop (List.getElem?_eq_none_iff.1 hq)]; exact bE_nodup k
    · rw [bE_succ hq]; exact bx_nodup (bE_nodup k) 9
theorem bx_all {Q : T → Prop} {e : T × List Int} {E : List (T × List Int)} (h : ∀ x ∈ E, Q x.1) (he : ∀ k, k < 9 → Q (nx e.1 k)) : ∀ k, k ≤ 9 → ∀ x ∈ bx nx e E k, Q x.1
  | 0, _ => h
  | k + 1, hk => by
    unfold bx; split
    · exact bx_all h he k (by omega)
    · intro x hx
      rcases List.mem_append.1 hx with hx | hx
      · exact bx_all h he k (by omega) x hx
      · rw [List.mem_singleton.1 hx]; exact he k (by omega)
theorem bE_all {Q : T → Prop} (h0 : Q t0) (hn : ∀ t k, Q t → k < 9 → Q (nx t k)) : ∀ k, ∀ x ∈ bE nx t0 k, Q x.1
  | 0 => fun x hx => by rw [show bE nx t0 0 = [(t0, [])] from rfl, List.mem_singleton] at hx; rw [hx]; exact h0
  | k + 1 => by
    rcases hq : (bE nx t0 k)[k]? with _ | y
    · rw [bE_stop (List.getElem?_eq_none_iff.1 hq)]; exact bE_all h0 hn k
    · rw [bE_succ hq]
      exact bx_all (bE_all h0 hn k) (fun j hj => hn _ _ (bE_all h0 hn k y (mem_of_get hq)) hj) 9 (Nat.le_refl _)
/-- what the search gives -/
def BRes (nx : T → Nat → T) (t0 : T) (ts : T → Bool) (r : List Int × Bool) : Prop :=
  (r.2 = true ∧ ∃ k e, (bE nx t0 k)[k]? = some e ∧ ts e.1 = true ∧ r.1 = e.2 ∧ ∀ j x, j < k → (bE nx t0 j)[j]? = some x → ts x.1 = false) ∨
  (r = ([], false) ∧ ∃ k, (bE nx t0 k).length ≤ k ∧ ∀ j x, j < k → (bE nx t0 j)[j]? = some x → ts x.1 = false)
theorem bE_short : ∀ {k j : Nat}, (bE nx t0 k).length ≤ k → k ≤ j → bE nx t0 j = bE nx t0 k
  | k, j, h, hj => by
    induction j with
    | zero => rw [show k = 0 by omega]
    | succ j ih =>
      rcases Nat.eq_or_lt_of_le hj with e | e
      · rw [← e]
      · have h1 := ih (by omega)
        rw [bE_stop (by rw [h1]; omega), h1]
theorem bres_one {r s : List Int × Bool} (h : BRes nx t0 ts r) (g : BRes nx t0 ts s) : r = s := by
  rcases h with ⟨h1, k, e, h2, h3, h4, h5⟩ | ⟨h1, k, h2, h3⟩ <;> rcases g with ⟨g1, j, f, g2, g3, g4, g5⟩ | ⟨g1, j, g2, g3⟩
  · have hkj : k = j := by
      rcases Nat.lt_trichotomy k j with q | q | q
      · have := g5 k e q h2; rw [h3] at this; cases this
      · exact q
      · have := h5 j f q g2; rw [g3] at this; cases this
    subst hkj; rw [h2] at g2; injection g2 with g2; subst g2
    exact Prod.ext (by rw [h4, g4]) (by rw [h1, g1])
  · rcases Nat.lt_or_ge k j with q | q
    · have := g3 k e q h2; rw [h3] at this; cases this
    · have hl := (List.getElem?_eq_some_iff.1 h2).1
      rw [bE_short g2 q] at hl; omega
  · rcases Nat.lt_or_ge j k with q | q
    · have := h3 j f q g2; rw [g3] at this; cases this
    · have hl := (List.getElem?_eq_some_iff.1 g2).1
      rw [bE_short h2 q] at hl; omega
  · rw [h1, g1]
noncomputable def bR (nx : T → Nat → T) (t0 : T) (ts : T → Bool) : List Int × Bool := by
  classical exact if h : ∃ r, BRes nx t0 ts r then h.choose else ([], false)
theorem bR_eq {r : List Int × Bool} (h : BRes nx t0 ts r) : r = bR nx t0 ts := by
  unfold bR
  rw [dif_pos ⟨r, h⟩]
  exact bres_one h (Exists.choose_spec (⟨r, h⟩ : ∃ r, BRes nx t0 ts r))
end
end Go.KLib
