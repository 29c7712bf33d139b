import Derived.Test.YthcoliemlekojaaJW
namespace Go.KLib
/-! Between which places of a word the words of an expression stand. -/
section
variable {n i j k m : Nat} {A : Nat → Nat → Bool} {w : List Int} {c : Int}
def ltM (c : Int) (w : List Int) : Nat → Nat → Bool := fun i j => decide (j = i + 1) && decide (w[i]? = some c)
theorem Tri.ltr : Tri (ltM c w) := fun i j h => by simp [ltM]; intro h2; omega
def lupt (c : Int) (w : List Int) (m : Nat) : Nat → Nat → Bool := fun p q => decide (p < m) && ltM c w p q
theorem lupt_zero : grd n (idM false) = grd n (lupt c w 0) := grd_eq fun p q _ _ => by simp [idM, lupt]
theorem lupt_step {v : Bool} {y : Int} {M : List (List Bool)} {ys : List Bool} (hM : M = grd n (lupt c w i)) (hy : M[i]? = some ys) (hw : w[i]? = some y) (hv : v = decide (y = c)) :
    M.set i (ys.set (i + 1) v) = grd n (lupt c w (i + 1)) := grd_set hM hy (by rw [hv]; simp [lupt, ltM, hw]) fun p q _ _ hn => by
  unfold lupt ltM
  by_cases h1 : p = i
  · subst h1
    have h2 : ¬ q = p + 1 := fun h => hn ⟨rfl, h⟩
    simp [h2]
  · have h3 : (p < i + 1) = (p < i) := by simp; omega
    simp [h3]
theorem lupt_all (hn : n = w.length + 1) (h : m = w.length) : grd n (lupt c w m) = grd n (ltM c w) := grd_eq fun p q hp _ => by
  unfold lupt ltM
  by_cases h1 : p < m
  · simp [h1]
  · have : w[p]? = none := List.getElem?_eq_none (by omega)
    simp [this]
/-- round by round: one part more -/
def srM (n : Nat) (A : Nat → Nat → Bool) : Nat → Nat → Nat → Bool
  | 0 => idM true
  | m + 1 => oeM (srM n A m) (mulM n (srM n A m) A)
theorem st_succ : grd n (oeM (srM n A m) (mulM n (srM n A m) A)) = grd n (srM n A (m + 1)) := by rw [srM]
theorem st_tri (h : Tri A) : ∀ m, Tri (srM n A m)
  | 0 => Tri.id true
  | m + 1 => (st_tri h m).or ((st_tri h m).mul h)
theorem mul_iff {A B : Nat → Nat → Bool} : mulM n A B i j = true ↔ ∃ k, k < n ∧ A i k = true ∧ B k j = true := by
  unfold mulM
  rw [List.any_eq_true]
  exact ⟨fun ⟨k, hk, h⟩ => ⟨k, List.mem_range.1 hk, by simpa using h⟩, fun ⟨k, hk, h⟩ => ⟨k, List.mem_range.2 hk, by simpa using h⟩⟩
theorem st_iff : ∀ (m : Nat) (i j : Nat), srM n A m i j = true ↔ ∃ k, k ≤ m ∧ powM n A k i j = true
  | 0, i, j => ⟨fun h => ⟨0, Nat.le_refl _, h⟩, fun ⟨k, hk, h⟩ => by
      have e : k = 0 := by omega
      subst e
      exact h⟩
  | m + 1, i, j => by
    have ih := fun i j => st_iff m i j
    rw [srM]
    show (srM n A m i j || mulM n (srM n A m) A i j) = true ↔ _
    rw [Bool.or_eq_true, ih, mul_iff]
    constructor
    · rintro (⟨k, hk, h⟩ | ⟨x, hx, h1, h2⟩)
      · exact ⟨k, by omega, h⟩
      · obtain ⟨k, hk, h⟩ := (ih i x).1 h1
        exact ⟨k + 1, by omega, by rw [powM]; exact mul_iff.2 ⟨x, hx, h, h2⟩⟩
    · rintro ⟨k, hk, h⟩
      cases k with
      | zero => exact .inl ⟨0, by omega, h⟩
      | succ k =>
        rw [powM] at h
        obtain ⟨x, hx, h1, h2⟩ := mul_iff.1 h
        exact .inr ⟨x, hx, (ih i x).2 ⟨k, by omega, h1⟩, h2⟩
/-- more parts than places: one of them is empty -/
theorem pow_less (hA : Tri A) : ∀ (k i j : Nat), powM n A (k + 1) i j = true → j < i + (k + 1) → powM n A k i j = true
  | 0, i, j, h, hj => by
    rw [powM] at h
    obtain ⟨x, hx, h1, h2⟩ := mul_iff.1 h
    have e1 : i = x := by simpa [powM, idM] using h1
    subst e1
    have h3 : ¬ j < i := fun hh => by rw [hA i j hh] at h2; cases h2
    have e2 : i = j := by omega
    simp [powM, idM, e2]
  | k + 1, i, j, h, hj => by
    rw [powM] at h
    obtain ⟨x, hx, h1, h2⟩ := mul_iff.1 h
    have h3 : ¬ j < x := fun hh => by rw [hA x j hh] at h2; cases h2
    by_cases e : x = j
    · exact e ▸ h1
    · rw [powM]
      exact mul_iff.2 ⟨x, hx, pow_less hA k i x h1 (by omega), h2⟩
theorem rep0_iff : repM n A 0 k i j = true ↔ ∃ m, m < k ∧ powM n A m i j = true := by
  unfold repM
  rw [List.any_eq_true]
  exact ⟨fun ⟨m, hm, h⟩ => ⟨m, List.mem_range.1 hm, by simpa using h⟩, fun ⟨m, hm, h⟩ => ⟨m, List.mem_range.2 hm, by simpa using h⟩⟩
theorem st_rep (hA : Tri A) (hm : m = n) : grd n (srM n A m) = grd n (repM n A 0 n) := grd_eq fun p q hp hq => by
  subst hm
  rw [Bool.eq_iff_iff, st_iff, rep0_iff]
  constructor
  · rintro ⟨k, hk, h⟩
    by_cases e : k = m
    · subst e
      cases k with
      | zero => omega
      | succ k => exact ⟨k, by omega, pow_less hA k p q h (by omega)⟩
    · exact ⟨k, by omega, h⟩
  · rintro ⟨k, hk, h⟩
    exact ⟨k, by omega, h⟩
end
/-- between which places of a word an expression's words stand -/
def mtT (w : List Int) : Tr → Nat → Nat → Bool
  | .l0 t => if t.kind = 2 then idM true else if t.kind = 3 then ltM t.letter w else idM false
  | .l1 t x => if t.kind = 6 then repM (w.length + 1) (mtT w x) 0 (w.length + 1) else if t.kind = 7 then repM (w.length + 1) (mtT w x) t.low (t.high + 1).toNat else idM false
  | .l2 t x y => if t.kind = 4 then mulM (w.length + 1) (mtT w x) (mtT w y) else if t.kind = 5 then oeM (mtT w x) (mtT w y) else idM false
theorem mt_tri (w : List Int) : ∀ t, Tri (mtT w t)
  | .l0 t => by unfold mtT; split; exact Tri.id _; split; exact Tri.ltr; exact Tri.id _
  | .l1 t x => by
    have h := mt_tri w x
    unfold mtT; split; exact rep_tri h; split; exact rep_tri h; exact Tri.id _
  | .l2 t x y => by
    have h := mt_tri w x
    have k := mt_tri w y
    unfold mtT; split; exact h.mul k; split; exact h.or k; exact Tri.id _
section
variable {t ta tb : Tr} {w : List Int}
theorem mt2 (hok : Okd t) (h : t.tok.kind = 2) : mtT w t = idM true := by
  have ha := hok.ar
  cases t with
  | l0 t => simp only [Tr.tok] at h; unfold mtT; rw [if_pos h]
  | l1 t x => simp only [Tr.tok, Tr.kids] at h ha; rw [arT_ok (by rw [ha]; simp), h] at ha; simp [arK] at ha
  | l2 t x y => simp only [Tr.tok, Tr.kids] at h ha; rw [arT_ok (by rw [ha]; simp), h] at ha; simp [arK] at ha
theorem mt3 (hok : Okd t) (h : t.tok.kind = 3) : mtT w t = ltM t.tok.letter w := by
  have ha := hok.ar
  cases t with
  | l0 t => simp only [Tr.tok] at h ⊢; unfold mtT; rw [if_neg (by omega), if_pos h]
  | l1 t x => simp only [Tr.tok, Tr.kids] at h ha; rw [arT_ok (by rw [ha]; simp), h] at ha; simp [arK] at ha
  | l2 t x y => simp only [Tr.tok, Tr.kids] at h ha; rw [arT_ok (by rw [ha]; simp), h] at ha; simp [arK] at ha
theorem mt4 (h : t.tok.kind = 4) (h0 : t.kids[0]? = some ta) (h1 : t.kids[1]? = some tb) : mtT w t = mulM (w.length + 1) (mtT w ta) (mtT w tb) := by
  cases t with
  | l0 t => simp [Tr.kids] at h0
  | l1 t x => simp [Tr.kids] at h1
  | l2 t x y =>
    simp [Tr.kids] at h0 h1; subst h0 h1
    simp only [Tr.tok] at h
    rw [mtT, if_pos h]
theorem mt5 (h : t.tok.kind = 5) (h0 : t.kids[0]? = some ta) (h1 : t.kids[1]? = some tb) : mtT w t = oeM (mtT w ta) (mtT w tb) := by
  cases t with
  | l0 t => simp [Tr.kids] at h0
  | l1 t x => simp [Tr.kids] at h1
  | l2 t x y =>
    simp [Tr.kids] at h0 h1; subst h0 h1
    simp only [Tr.tok] at h
    rw [mtT, if_neg (by omega), if_pos h]
theorem mt6 (hok : Okd t) (h : t.tok.kind = 6) (h0 : t.kids[0]? = some ta) : mtT w t = repM (w.length + 1) (mtT w ta) 0 (w.length + 1) := by
  have ha := hok.ar
  cases t with
  | l0 t => simp [Tr.kids] at h0
  | l1 t x =>
    simp [Tr.kids] at h0; subst h0
    simp only [Tr.tok] at h
    rw [mtT, if_pos h]
  | l2 t x y => simp only [Tr.tok, Tr.kids] at h ha; rw [arT_ok (by rw [ha]; simp), h] at ha; simp [arK] at ha
theorem mt7 (hok : Okd t) (h : t.tok.kind = 7) (h0 : t.kids[0]? = some ta) : mtT w t = repM (w.length + 1) (mtT w ta) t.tok.low (t.tok.high + 1).toNat := by
  have ha := hok.ar
  cases t with
  | l0 t => simp [Tr.kids] at h0
  | l1 t x =>
    simp [Tr.kids] at h0; subst h0
    simp only [Tr.tok] at h ⊢
    rw [mtT, if_neg (by omega), if_pos h]
  | l2 t x y => simp only [Tr.tok, Tr.kids] at h ha; rw [arT_ok (by rw [ha]; simp), h] at ha; simp [arK] at ha
theorem mt0 (h : t.tok.kind ≠ 2 ∧ t.tok.kind ≠ 3 ∧ t.tok.kind ≠ 4 ∧ t.tok.kind ≠ 5 ∧ t.tok.kind ≠ 6 ∧ t.tok.kind ≠ 7) : mtT w t = idM false := by
  obtain ⟨h2, h3, h4, h5, h6, h7⟩ := h
  cases t with
  | l0 t => simp only [Tr.tok] at *; rw [mtT, if_neg h2, if_neg h3]
  | l1 t x => simp only [Tr.tok] at *; rw [mtT, if_neg h6, if_neg h7]
  | l2 t x y => simp only [Tr.tok] at *; rw [mtT, if_neg h4, if_neg h5]
end
end Go.KLib
