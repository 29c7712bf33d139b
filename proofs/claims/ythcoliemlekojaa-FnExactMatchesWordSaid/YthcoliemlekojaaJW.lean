import Derived.Test.YthcoliemlekojaaJV
namespace Go.KLib
/-! Squares of truth values: which places of a word a part stands between. -/
def grow (n : Nat) (f : Nat → Nat → Bool) (i : Nat) : List Bool := (List.range n).map (f i)
def grd (n : Nat) (f : Nat → Nat → Bool) : List (List Bool) := (List.range n).map (grow n f)
section
variable {n i j : Nat} {f g : Nat → Nat → Bool}
theorem grow_len : (grow n f i).length = n := by simp [grow]
theorem grd_len : (grd n f).length = n := by simp [grd]
theorem grow_get (h : j < n) : (grow n f i)[j]? = some (f i j) := by simp [grow, h]
theorem grd_get (h : i < n) : (grd n f)[i]? = some (grow n f i) := by simp [grd, h]
theorem grd_row {M : List (List Bool)} {ys : List Bool} (hM : M = grd n f) (h : M[i]? = some ys) : i < n ∧ ys = grow n f i := by
  subst hM
  by_cases hi : i < n
  · rw [grd_get hi] at h; cases h; exact ⟨hi, rfl⟩
  · rw [List.getElem?_eq_none (by rw [grd_len]; omega)] at h; cases h
theorem row_len {M : List (List Bool)} {ys : List Bool} (hM : M = grd n f) (h : M[i]? = some ys) : ys.length = n := by rw [(grd_row hM h).2, grow_len]
theorem grd_y {M : List (List Bool)} {ys : List Bool} {y : Bool} (hM : M = grd n f) (h : M[i]? = some ys) (hy : ys[j]? = some y) : y = f i j := by
  obtain ⟨h1, rfl⟩ := grd_row hM h
  by_cases hj : j < n
  · rw [grow_get hj] at hy; cases hy; rfl
  · rw [List.getElem?_eq_none (by rw [grow_len]; omega)] at hy; cases hy
theorem grow_eq (h : ∀ q, q < n → f i q = g i q) : grow n f i = grow n g i := by
  unfold grow
  exact List.map_congr_left fun q hq => h q (List.mem_range.1 hq)
theorem grd_eq (h : ∀ p q, p < n → q < n → f p q = g p q) : grd n f = grd n g := by
  unfold grd
  exact List.map_congr_left fun p hp => grow_eq fun q hq => h p q (List.mem_range.1 hp) hq
theorem grd_set {v : Bool} {M : List (List Bool)} {ys : List Bool} (hM : M = grd n f) (hy : M[i]? = some ys) (hv : g i j = v) (ho : ∀ p q, p < n → q < n → ¬(p = i ∧ q = j) → g p q = f p q) :
    M.set i (ys.set j v) = grd n g := by
  obtain ⟨hi, rfl⟩ := grd_row hM hy
  subst hM
  apply List.ext_getElem?
  intro p
  by_cases hp : p < n
  · rw [grd_get hp]
    rw [List.getElem?_set]
    by_cases e : i = p
    · subst e
      rw [if_pos rfl, if_pos (by rw [grd_len]; exact hi)]
      congr 1
      apply List.ext_getElem?
      intro q
      by_cases hq : q < n
      · rw [grow_get hq, List.getElem?_set]
        by_cases e2 : j = q
        · subst e2; rw [if_pos rfl, if_pos (by rw [grow_len]; exact hq), hv]
        · rw [if_neg e2, grow_get hq, ho i q hp hq (fun h => e2 h.2.symm)]
      · rw [List.getElem?_eq_none (by rw [List.length_set, grow_len]; omega), List.getElem?_eq_none (by rw [grow_len]; omega)]
    · rw [if_neg e, grd_get hp]
      congr 1
      exact (grow_eq fun q hq => ho p q hp hq (fun h => e h.1.symm)).symm
  · rw [List.getElem?_eq_none (by rw [List.length_set, grd_len]; omega), List.getElem?_eq_none (by rw [grd_len]; omega)]
/-- the square that only keeps or drops everything in its place -/
def idM (s : Bool) : Nat → Nat → Bool := fun i j => s && decide (i = j)
theorem row_id {s : Bool} : (List.replicate n false).set i s = grow n (idM s) i := by
  apply List.ext_getElem?
  intro q
  rw [List.getElem?_set]
  by_cases e : i = q
  · subst e
    by_cases hi : i < n
    · rw [if_pos rfl, if_pos (by simpa using hi), grow_get hi]; simp [idM]
    · rw [if_pos rfl, if_neg (by simpa using hi), List.getElem?_eq_none (by rw [grow_len]; omega)]
  · rw [if_neg e]
    by_cases hq : q < n
    · rw [grow_get hq]; simp [idM, e, hq]
    · rw [List.getElem?_eq_none (by simp; omega), List.getElem?_eq_none (by rw [grow_len]; omega)]
def oeM (A B : Nat → Nat → Bool) : Nat → Nat → Bool := fun i j => A i j || B i j
def mulM (n : Nat) (A B : Nat → Nat → Bool) : Nat → Nat → Bool := fun i j => (List.range n).any fun k => A i k && B k j
def Tri (A : Nat → Nat → Bool) : Prop := ∀ i j, j < i → A i j = false
theorem Tri.id (s : Bool) : Tri (idM s) := fun i j h => by simp [idM]; intro _; omega
theorem Tri.or {A B : Nat → Nat → Bool} (a : Tri A) (b : Tri B) : Tri (oeM A B) := fun i j h => by simp [oeM, a i j h, b i j h]
theorem Tri.mul {A B : Nat → Nat → Bool} (a : Tri A) (b : Tri B) : Tri (mulM n A B) := fun i j h => by
  unfold mulM
  rw [List.any_eq_false]
  intro k _
  by_cases hk : k < i
  · rw [a i k hk]; simp
  · rw [b k j (by omega)]; simp
/-- what is filled in, row by row, up to a place -/
def upt (R : Nat → Nat → Bool) (i j : Nat) : Nat → Nat → Bool := fun p q => (decide (p < i) || (decide (p = i) && decide (q < j))) && R p q
theorem upt_zero {R : Nat → Nat → Bool} : grd n (idM false) = grd n (upt R 0 0) := grd_eq fun p q _ _ => by simp [idM, upt]
theorem upt_step {R : Nat → Nat → Bool} {v : Bool} {M : List (List Bool)} {ys : List Bool} (hM : M = grd n (upt R i j)) (hy : M[i]? = some ys) (hv : R i j = v) :
    M.set i (ys.set j v) = grd n (upt R i (j + 1)) := grd_set hM hy (by simp [upt, hv]) fun p q _ _ hn => by
  unfold upt
  by_cases h1 : p = i
  · subst h1
    have h2 : q ≠ j := fun h => hn ⟨rfl, h⟩
    have h3 : (q < j + 1) = (q < j) := by simp; omega
    simp [h3]
  · simp [h1]
theorem upt_row {R : Nat → Nat → Bool} {k : Nat} (hk : n ≤ k) : grd n (upt R i k) = grd n (upt R (i + 1) 0) := grd_eq fun p q _ hq => by
  unfold upt
  have h3 : (p < i + 1) = (p < i ∨ p = i) := by simp; omega
  have h4 : q < k := by omega
  simp [h3, h4]
theorem upt_all {R : Nat → Nat → Bool} {k : Nat} (hk : n ≤ k) : grd n (upt R k 0) = grd n R := grd_eq fun p q hp _ => by
  have h4 : p < k := by omega
  simp [upt, h4]
theorem upt_tri {R : Nat → Nat → Bool} (h : Tri R) : grd n (upt R i 0) = grd n (upt R i i) := grd_eq fun p q _ _ => by
  unfold upt
  by_cases h1 : p = i
  · subst h1
    by_cases h2 : q < p
    · simp [h2, h p q h2]
    · simp [h2]
  · simp [h1]
end
section
variable {n i j k : Nat} {A B : Nat → Nat → Bool}
/-- the product, filled in up to a place -/
def mupt (n : Nat) (A B : Nat → Nat → Bool) (i k j : Nat) : Nat → Nat → Bool := fun p q =>
  (decide (p < i) && mulM n A B p q) || (decide (p = i) && (((List.range k).any fun m => A i m && B m q) || (decide (q < j) && (A i k && B k q))))
theorem mupt_zero : grd n (idM false) = grd n (mupt n A B 0 0 0) := grd_eq fun p q _ _ => by simp [idM, mupt]
theorem mupt_step {v : Bool} {M : List (List Bool)} {ys : List Bool} (hM : M = grd n (mupt n A B i k j)) (hy : M[i]? = some ys) (hA : A i k = true) (hv : v = (mupt n A B i k j i j || B k j)) :
    M.set i (ys.set j v) = grd n (mupt n A B i k (j + 1)) := grd_set hM hy (by rw [hv]; simp [mupt, hA]) fun p q _ _ hn => by
  unfold mupt
  by_cases h1 : p = i
  · subst h1
    have h2 : q ≠ j := fun h => hn ⟨rfl, h⟩
    have h3 : (q < j + 1) = (q < j) := by simp; omega
    simp [h3]
  · simp [h1]
theorem mupt_row (h : n ≤ j ∨ A i k = false) : grd n (mupt n A B i k j) = grd n (mupt n A B i (k + 1) 0) := grd_eq fun p q _ hq => by
  unfold mupt
  rw [List.range_succ, List.any_append]
  by_cases h1 : p = i
  · subst h1
    rcases h with h | h
    · have h3 : q < j := by omega
      simp [h3]
    · simp [h]
  · simp [h1]
theorem mupt_next (h : k = n) : grd n (mupt n A B i k 0) = grd n (mupt n A B (i + 1) 0 0) := grd_eq fun p q _ _ => by
  unfold mupt
  have h3 : (p < i + 1) = (p < i ∨ p = i) := by simp; omega
  by_cases h1 : p = i
  · subst h1
    subst h
    simp [mulM]
  · have h2 : ¬ p = i := h1
    simp [h3, h2]
theorem mupt_all (h : n ≤ i) : grd n (mupt n A B i 0 0) = grd n (mulM n A B) := grd_eq fun p q hp _ => by
  have h3 : p < i := by omega
  have h4 : ¬ p = i := by omega
  simp [mupt, h3, h4]
theorem mupt_triA (h : Tri A) : grd n (mupt n A B i 0 0) = grd n (mupt n A B i i 0) := grd_eq fun p q _ _ => by
  have h4 : ((List.range i).any fun m => A i m && B m q) = false := by
    rw [List.any_eq_false]; intro m hm; rw [h i m (List.mem_range.1 hm)]; simp
  simp [mupt, h4]
theorem mupt_triB (h : Tri B) : grd n (mupt n A B i k 0) = grd n (mupt n A B i k k) := grd_eq fun p q _ _ => by
  by_cases h1 : q < k
  · simp [mupt, h k q h1]
  · simp [mupt, h1]
end
section
variable {n k : Nat} {A : Nat → Nat → Bool} {low : Int}
def powM (n : Nat) (A : Nat → Nat → Bool) : Nat → Nat → Nat → Bool
  | 0 => idM true
  | k + 1 => mulM n (powM n A k) A
def repM (n : Nat) (A : Nat → Nat → Bool) (low : Int) (k : Nat) : Nat → Nat → Bool := fun i j => (List.range k).any fun m => decide (low ≤ (m : Int)) && powM n A m i j
theorem pow_tri (h : Tri A) : ∀ k, Tri (powM n A k)
  | 0 => Tri.id true
  | k + 1 => (pow_tri h k).mul h
theorem rep_tri (h : Tri A) : Tri (repM n A low k) := fun i j hij => by
  unfold repM
  rw [List.any_eq_false]
  intro m _
  rw [pow_tri h m i j hij]; simp
theorem rep_zero : grd n (idM false) = grd n (repM n A low 0) := grd_eq fun p q _ _ => by simp [idM, repM]
theorem pw_succ : grd n (mulM n (powM n A k) A) = grd n (powM n A (k + 1)) := by rw [powM]
theorem rep_y (h : low ≤ (k : Int)) : grd n (oeM (repM n A low k) (powM n A k)) = grd n (repM n A low (k + 1)) := grd_eq fun p q _ _ => by
  unfold repM oeM
  rw [List.range_succ, List.any_append]
  simp [h]
theorem rep_n (h : ¬ low ≤ (k : Int)) : grd n (repM n A low k) = grd n (repM n A low (k + 1)) := grd_eq fun p q _ _ => by
  unfold repM
  rw [List.range_succ, List.any_append]
  simp [h]
end
theorem ne_blk {o : Value} {g i : Nat} (h : i ∉ bl o) (hg : bl o = [g]) : i < g ∨ g + 1 ≤ i := by
  rw [hg] at h
  have : i ≠ g := fun e => h (List.mem_singleton.2 e)
  omega
theorem Ol.lsE {α : Type} {cs : α → List Value} {e k : Nat} {w : World} {v : Value} {xs : List α} (h : Ol cs e k w v xs) (hn : 0 < xs.length) : ∃ g, bl v = [g] ∧ Ls cs k w g (g + 1) v xs := by
  have hc := fun g off cap => Ow.cells (g := g) (off := off) (cap := cap) h
  rcases h.2 with ⟨rfl, h0⟩ | ⟨g, off, cap, cur, rfl, hg, h1, h2, h3, _⟩
  · omega
  · exact ⟨g, by simp [bl, Value.ownBlock], h.1, _, cap, rfl, h1, h2, fun _ => ⟨_, rfl, ⟨Nat.le_refl _, Nat.lt_succ_self _⟩, fun j u hu => by rw [add_lit]; exact hc g off cap rfl j u hu⟩⟩
theorem Od.eq {α : Type} {cs : α → List Value} {e k : Nat} {w : World} {lo hi : Nat} {vs : List Sv} {xs ys : List (List α)} (h : Od cs e k w lo hi vs xs) (he : xs = ys) : Od cs e k w lo hi vs ys := he ▸ h
end Go.KLib
