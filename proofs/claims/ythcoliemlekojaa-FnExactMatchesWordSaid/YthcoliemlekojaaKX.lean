/- Derivatives of expressions, expanded expressions. -/
import Derived.Test.YthcoliemlekojaaKV
namespace Go.KLib

theorem Okd.kk2 {x : Tr} (h : Okd x) (h2 : x.kids.length = 2) : ∃ a b, x.kids[0]? = some a ∧ x.kids[1]? = some b ∧ Okd a ∧ Okd b ∧ x.sz = a.sz + b.sz + 1 ∧ a.flat.length = a.sz ∧ b.flat.length = b.sz := by
  obtain ⟨k, a, b, rfl⟩ := Tr.k2 h2
  exact ⟨a, b, rfl, rfl, h.2.1, h.2.2, rfl, a.flat_len, b.flat_len⟩
theorem Okd.kk1 {x : Tr} (h : Okd x) (h2 : x.kids.length = 1) : ∃ a, x.kids[0]? = some a ∧ Okd a ∧ x.sz = a.sz + 1 ∧ a.flat.length = a.sz := by
  obtain ⟨k, a, rfl⟩ := Tr.k1 h2
  exact ⟨a, rfl, h.2, rfl, a.flat_len⟩
theorem derT_le (x : Int) (t : Tr) (h : t.sz ≤ 400) : (derT x t).length ≤ 160000 :=
  Nat.le_trans (derT_len x t) (Nat.mul_le_mul h h)
section
variable {q : Int} {x a b : Tr}
theorem der4t (h : Okd x) (hk : x.tok.kind = 4) (h0 : x.kids[0]? = some a) (h1 : x.kids[1]? = some b) (hn : nullT a = true) : uniE (catE (derT q a) b.flat) (derT q b) = derT q x := by
  rw [h.shape2 (by omega) h0 h1]; simp [derT, hk, hn]
theorem der4f (h : Okd x) (hk : x.tok.kind = 4) (h0 : x.kids[0]? = some a) (h1 : x.kids[1]? = some b) (hn : nullT a = false) : catE (derT q a) b.flat = derT q x := by
  rw [h.shape2 (by omega) h0 h1]; simp [derT, hk, hn]
theorem der5 (h : Okd x) (hk : x.tok.kind = 5) (h0 : x.kids[0]? = some a) (h1 : x.kids[1]? = some b) : uniE (derT q a) (derT q b) = derT q x := by
  rw [h.shape2 (by omega) h0 h1]; simp [derT, hk]
theorem der6 (h : Okd x) (hk : x.tok.kind = 6) (h0 : x.kids[0]? = some a) : catE (derT q a) x.flat = derT q x := by
  rw [h.shape1 (by omega) h0]; simp [derT, hk, Tr.flat]
theorem der7 (h : Okd x) (hk : x.tok.kind = 7) (h0 : x.kids[0]? = some a) : catE (derT q a) (repE a.flat (if x.tok.low - 1 > 0 then x.tok.low - 1 else 0) (x.tok.high - 1)) = derT q x := by
  rw [h.shape1 (by omega) h0]
  show catE (derT q a) (repE a.flat (if x.tok.low - 1 > 0 then x.tok.low - 1 else 0) (x.tok.high - 1)) = _
  have h6 : ¬ x.tok.kind = 6 := by omega
  simp only [derT, if_neg h6]
theorem der3 (h : Okd x) (hk : x.tok.kind = 3) (hl : x.tok.letter = q) : [⟨2, 0, 0, 0⟩] = derT q x := by
  rw [h.shape0 (by omega)]; simp [derT, hk, hl]
theorem der0 (h : Okd x) (hk : ¬ (x.tok.kind = 4 ∨ x.tok.kind = 5 ∨ x.tok.kind = 6 ∨ x.tok.kind = 7)) (hl : ¬ (x.tok.kind = 3 ∧ x.tok.letter = q)) : [⟨1, 0, 0, 0⟩] = derT q x := by
  rw [h.shape0 hk]; simp only [derT]; rw [if_neg hl]
theorem Okd.r7 (h : Okd x) (hk : x.tok.kind = 7) : (1 ≤ x.tok.high ∧ x.tok.high ≤ 3) ∧ 0 ≤ x.tok.low ∧ x.tok.low ≤ x.tok.high := by
  have h1 : arT x.tok = 1 := by rw [h.ar, h.len.2.1 (.inr hk)]; rfl
  unfold arT at h1
  rw [if_neg (by omega), if_neg (by omega), if_neg (by omega), if_neg (by omega), if_pos hk] at h1
  split at h1
  · rename_i h2; exact h2.2
  · cases h1
end
def derE (e : List Token) (x : Int) : List Token × Bool :=
  match treeL e with
  | some t => if e.length ≤ 400 ∧ (0 ≤ x ∧ x ≤ 8) ∧ (derT x t).length ≤ 400 then (derT x t, true) else ([], false)
  | none => ([], false)
section
variable {e : List Token} {x : Int} {t : Tr}
theorem derE_y (h : treeL e = some t) (h1 : e.length ≤ 400) (h2 : 0 ≤ x ∧ x ≤ 8) (h3 : (derT x t).length ≤ 400) : derE e x = (derT x t, true) := by unfold derE; rw [h]; simp [h1, h2, h3]
theorem derE_n1 (h : treeL e = none) : derE e x = ([], false) := by unfold derE; rw [h]
theorem derE_n2 (h : ¬ (e.length ≤ 400 ∧ (0 ≤ x ∧ x ≤ 8))) : derE e x = ([], false) := by
  unfold derE
  cases treeL e with
  | none => rfl
  | some t => simp only; rw [if_neg (fun c => h ⟨c.1, c.2.1⟩)]
theorem derE_n3 (h : treeL e = some t) (h3 : ¬ (derT x t).length ≤ 400) : derE e x = ([], false) := by
  unfold derE; rw [h]; simp only; rw [if_neg (fun c => h3 c.2.2)]
theorem derE_len (e : List Token) (x : Int) : (derE e x).1.length ≤ 400 := by
  unfold derE
  cases treeL e with
  | none => simp
  | some t =>
    simp only
    split
    · rename_i h; exact h.2.2
    · simp
end
/-- Derivatives by the letters of a word. -/
def derW (e : List Token) : List Int → Option (List Token)
  | [] => some e
  | x :: w => if (derE e x).2 = true then derW (derE e x).1 w else none
theorem derW_snoc : ∀ (w : List Int) (e : List Token) (x : Int), derW e (w ++ [x]) = (derW e w).bind fun r => if (derE r x).2 = true then some (derE r x).1 else none
  | [], e, x => rfl
  | y :: w, e, x => by
    simp only [List.cons_append, derW]
    split
    · exact derW_snoc w _ x
    · rfl
theorem derW_step {e r : List Token} {w : List Int} {k : Nat} {y : Int} (h : derW e (w.take k) = some r) (hy : w[k]? = some y) : derW e (w.take (k + 1)) = if (derE r y).2 = true then some (derE r y).1 else none := by
  rw [take_snoc hy, derW_snoc, h]; rfl
theorem derW_none {e r : List Token} {w : List Int} {k : Nat} {y : Int} (h : derW e (w.take k) = some r) (hy : w[k]? = some y) (hn : (derE r y).2 = false) : derW e w = none := by
  have h1 := derW_step h hy
  rw [if_neg (by rw [hn]; simp)] at h1
  have : ∀ (a b : List Int) (e : List Token), derW e a = none → derW e (a ++ b) = none := by
    intro a
    induction a with
    | nil => intro b e h; simp [derW] at h
    | cons c a ih =>
      intro b e h
      simp only [List.cons_append, derW] at h ⊢
      split
      · rename_i hc; rw [if_pos hc] at h; exact ih b _ h
      · rfl
  rw [← List.take_append_drop (k + 1) w]
  exact this _ _ _ h1
def dwE (e : List Token) (w : List Int) : List Token × Bool :=
  if isE e = true ∧ e.length ≤ 400 then (match derW e w with | some r => (r, true) | none => ([], false)) else ([], false)
theorem dwE_n1 {e : List Token} {w : List Int} (h : ¬ (isE e = true ∧ e.length ≤ 400)) : dwE e w = ([], false) := by unfold dwE; rw [if_neg h]
theorem dwE_n2 {e : List Token} {w : List Int} (h : isE e = true) (h1 : e.length ≤ 400) (hn : derW e w = none) : dwE e w = ([], false) := by unfold dwE; rw [if_pos ⟨h, h1⟩, hn]
theorem dwE_y {e r : List Token} {w : List Int} (h : isE e = true) (h1 : e.length ≤ 400) (hn : derW e w = some r) : dwE e w = (r, true) := by unfold dwE; rw [if_pos ⟨h, h1⟩, hn]
theorem derW_end {e r : List Token} {w : List Int} {k : Nat} (h : derW e (w.take k) = some r) (hk : w.length ≤ k) : derW e w = some r := by rwa [List.take_of_length_le hk] at h
theorem dwE_len (e : List Token) (w : List Int) : (dwE e w).1.length ≤ 400 := by
  unfold dwE
  split
  · rename_i h
    have key : ∀ (w : List Int) (e : List Token), e.length ≤ 400 → ∀ r, derW e w = some r → r.length ≤ 400 := by
      intro w
      induction w with
      | nil => intro e he r hr; simp [derW] at hr; subst hr; exact he
      | cons x w ih =>
        intro e he r hr
        simp only [derW] at hr
        split at hr
        · exact ih _ (derE_len e x) r hr
        · cases hr
    cases hr : derW e w with
    | none => simp
    | some r => exact key w e h.2 r hr
  · simp
end Go.KLib
