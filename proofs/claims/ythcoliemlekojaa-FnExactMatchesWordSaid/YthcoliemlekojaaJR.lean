/- Sets of pairs in ascending order: putting one in, sorting and compacting. -/
import Derived.Test.YthcoliemlekojaaJQ
namespace Go.KLib

def putP : List Pair → Pair → List Pair
  | [], p => [p]
  | x :: l, p => if x = p then x :: l else if cmpP p x < 0 then p :: x :: l else x :: putP l p
def psP (l : List Pair) : List Pair := l.foldl putP []
def SrtP (l : List Pair) : Prop := l.Pairwise lessP

theorem less_trans {a b c : Pair} (h : lessP a b) (k : lessP b c) : lessP a c := by unfold lessP at *; omega
theorem less_irr {a b : Pair} (h : lessP a b) : ¬ lessP b a := by unfold lessP at *; omega
theorem less_self {a : Pair} : ¬ lessP a a := by unfold lessP; omega
theorem less_tri {a b : Pair} (h : ¬ a = b) (k : ¬ lessP a b) : lessP b a := by
  have h1 : ¬ (a.f = b.f ∧ a.t = b.t) := fun e => h (by obtain ⟨_, _⟩ := a; obtain ⟨_, _⟩ := b; simp_all)
  unfold lessP at *; omega

theorem put_mem : ∀ {l : List Pair} {p x : Pair}, x ∈ putP l p ↔ x ∈ l ∨ x = p
  | [], p, x => by simp [putP]
  | y :: l, p, x => by
    unfold putP
    split
    · rename_i h
      constructor
      · intro q; exact .inl q
      · rintro (q | q)
        · exact q
        · rw [q, ← h]; exact List.mem_cons_self ..
    · split
      · simp only [List.mem_cons]
        constructor
        · rintro (q | q | q)
          · exact .inr q
          · exact .inl (.inl q)
          · exact .inl (.inr q)
        · rintro ((q | q) | q)
          · exact .inr (.inl q)
          · exact .inr (.inr q)
          · exact .inl q
      · rw [List.mem_cons, put_mem, List.mem_cons]
        constructor
        · rintro (q | q | q)
          · exact .inl (.inl q)
          · exact .inl (.inr q)
          · exact .inr q
        · rintro ((q | q) | q)
          · exact .inl q
          · exact .inr (.inl q)
          · exact .inr (.inr q)
theorem put_srt : ∀ {l : List Pair} {p : Pair}, SrtP l → SrtP (putP l p)
  | [], p, _ => by simp [putP, SrtP]
  | y :: l, p, h => by
    unfold SrtP at h ⊢
    rw [List.pairwise_cons] at h
    unfold putP
    split
    · exact List.pairwise_cons.2 h
    · rename_i hne
      split
      · rename_i hlt
        rw [cmpP_lt] at hlt
        refine List.pairwise_cons.2 ⟨fun x hx => ?_, List.pairwise_cons.2 h⟩
        rcases List.mem_cons.1 hx with q | q
        · rw [q]; exact hlt
        · exact less_trans hlt (h.1 x q)
      · rename_i hlt
        rw [cmpP_lt] at hlt
        refine List.pairwise_cons.2 ⟨fun x hx => ?_, put_srt h.2⟩
        rcases put_mem.1 hx with q | q
        · exact h.1 x q
        · rw [q]; exact less_tri (fun e => hne e.symm) hlt
theorem put_len : ∀ {l : List Pair} {p : Pair}, (putP l p).length ≤ l.length + 1
  | [], p => by simp [putP]
  | y :: l, p => by
    unfold putP
    split
    · simp
    · split
      · simp
      · have := put_len (l := l) (p := p); simp; omega
theorem put_same : ∀ {l : List Pair} {p : Pair} {k : Nat}, SrtP l → l[k]? = some p → putP l p = l
  | [], p, k, _, h => by simp at h
  | y :: l, p, k, hs, h => by
    unfold SrtP at hs
    rw [List.pairwise_cons] at hs
    unfold putP
    split
    · rfl
    · rename_i hne
      cases k with
      | zero => simp at h; exact absurd h hne
      | succ k =>
        simp at h
        have := hs.1 p (mem_of_get h)
        rw [if_neg (by rw [cmpP_lt]; exact less_irr this), put_same hs.2 h]
theorem put_at : ∀ {l : List Pair} {p : Pair} {k : Nat}, k ≤ l.length → (∀ i x, i < k → l[i]? = some x → lessP x p) → (∀ x, l[k]? = some x → ¬ x = p ∧ ¬ lessP x p) → putP l p = l.take k ++ [p] ++ l.drop k
  | [], p, k, hk, _, _ => by simp [putP]
  | y :: l, p, k, hk, h1, h2 => by
    unfold putP
    cases k with
    | zero =>
      have := h2 y rfl
      rw [if_neg this.1, if_pos ((cmpP_lt _ _).2 (less_tri this.1 this.2))]; simp
    | succ k =>
      have h := h1 0 y (by omega) rfl
      rw [if_neg (fun e => less_self (e ▸ h)), if_neg (by rw [cmpP_lt]; exact less_irr h)]
      rw [put_at (k := k) (by simpa using hk) (fun i x hi hx => h1 (i + 1) x (by omega) (by simpa using hx)) (fun x hx => h2 x (by simpa using hx))]
      simp
theorem srt_one : ∀ {l m : List Pair}, SrtP l → SrtP m → (∀ x, x ∈ l ↔ x ∈ m) → l = m
  | [], [], _, _, _ => rfl
  | [], y :: m, _, _, h => by have := (h y).2 (List.mem_cons_self ..); cases this
  | x :: l, [], _, _, h => by have := (h x).1 (List.mem_cons_self ..); cases this
  | x :: l, y :: m, hl, hm, h => by
    unfold SrtP at hl hm
    rw [List.pairwise_cons] at hl hm
    have hxy : x = y := by
      rcases List.mem_cons.1 ((h x).1 (List.mem_cons_self ..)) with q | q
      · exact q
      · rcases List.mem_cons.1 ((h y).2 (List.mem_cons_self ..)) with r | r
        · exact r.symm
        · exact absurd (hm.1 x q) (less_irr (hl.1 y r))
    subst hxy
    congr 1
    refine srt_one hl.2 hm.2 fun z => ⟨fun hz => ?_, fun hz => ?_⟩
    · rcases List.mem_cons.1 ((h z).1 (List.mem_cons_of_mem _ hz)) with q | q
      · exact absurd (q ▸ hl.1 z hz) less_self
      · exact q
    · rcases List.mem_cons.1 ((h z).2 (List.mem_cons_of_mem _ hz)) with q | q
      · exact absurd (q ▸ hm.1 z hz) less_self
      · exact q
theorem fold_srt : ∀ {l : List Pair} {a : List Pair}, SrtP a → SrtP (l.foldl putP a)
  | [], _, h => h
  | x :: l, _, h => fold_srt (l := l) (put_srt h)
theorem fold_mem : ∀ {l : List Pair} {a : List Pair} {x : Pair}, x ∈ l.foldl putP a ↔ x ∈ a ∨ x ∈ l
  | [], a, x => by simp
  | y :: l, a, x => by
    rw [List.foldl_cons, fold_mem, put_mem, List.mem_cons, or_assoc]
theorem fold_len : ∀ {l : List Pair} {a : List Pair}, (l.foldl putP a).length ≤ a.length + l.length
  | [], a => by simp
  | y :: l, a => by
    have h1 := fold_len (l := l) (a := putP a y)
    have h2 := put_len (l := a) (p := y)
    rw [List.foldl_cons, List.length_cons]; omega
theorem ps_srt (l : List Pair) : SrtP (psP l) := fold_srt List.Pairwise.nil
theorem ps_mem {l : List Pair} {x : Pair} : x ∈ psP l ↔ x ∈ l := by unfold psP; rw [fold_mem]; simp
theorem ps_len (l : List Pair) : (psP l).length ≤ l.length := by have := fold_len (l := l) (a := []); unfold psP; simpa using this

/-! ### Compacting -/
section
variable {α : Type} [DecidableEq α]
def cptN (l : List α) : Nat → List α
  | 0 => []
  | k + 1 => match l[k]? with
    | none => cptN l k
    | some y => if 0 < k ∧ l[k - 1]? = some y then cptN l k else cptN l k ++ [y]
def cpt (l : List α) : List α := cptN l l.length
theorem cptN_y {l : List α} {k : Nat} {x y : α} (hy : l[k + 1]? = some y) (hx : l[k]? = some x) (e : x = y) : cptN l (k + 2) = cptN l (k + 1) := by
  show (match l[k + 1]? with | none => _ | some y => _) = _
  rw [hy]; exact if_pos ⟨by omega, by rw [Nat.add_sub_cancel, hx, e]⟩
theorem cptN_n {l : List α} {k : Nat} {x y : α} (hy : l[k + 1]? = some y) (hx : l[k]? = some x) (e : ¬ x = y) : cptN l (k + 2) = cptN l (k + 1) ++ [y] := by
  show (match l[k + 1]? with | none => _ | some y => _) = _
  rw [hy]; exact if_neg (fun h => e (by have h2 := h.2; rw [Nat.add_sub_cancel, hx] at h2; injection h2))
theorem cptN_1 {l : List α} {y : α} (hy : l[0]? = some y) : cptN l 1 = [y] := by
  show (match l[0]? with | none => _ | some y => _) = _
  rw [hy]; simp [cptN]
theorem cptN_len (l : List α) : ∀ k, (cptN l k).length ≤ k
  | 0 => Nat.le_refl _
  | k + 1 => by
    have := cptN_len l k
    unfold cptN; split
    · omega
    · split
      · omega
      · simp; omega
theorem cptN_more {l : List α} : ∀ {k : Nat}, l.length ≤ k → cptN l k = cpt l
  | 0, h => by unfold cpt; rw [show l.length = 0 by omega]
  | k + 1, h => by
    rcases Nat.eq_or_lt_of_le h with e | e
    · unfold cpt; rw [e]
    · rw [← cptN_more (show l.length ≤ k by omega)]
      show (match l[k]? with | none => _ | some y => _) = _
      rw [List.getElem?_eq_none (by omega)]
theorem cptN_mem {l : List α} {x : α} : ∀ {k : Nat}, x ∈ cptN l k ↔ x ∈ l.take k
  | 0 => by simp [cptN]
  | k + 1 => by
    unfold cptN
    rcases hq : l[k]? with _ | y
    · simp only; rw [cptN_mem, List.take_of_length_le (by have := List.getElem?_eq_none_iff.1 hq; omega), List.take_of_length_le (by have := List.getElem?_eq_none_iff.1 hq; omega)]
    · simp only
      rw [List.take_add_one, hq]
      split
      · rename_i h
        rw [cptN_mem]
        simp only [Option.toList_some, List.mem_append, List.mem_singleton]
        constructor
        · exact .inl
        · rintro (q | q)
          · exact q
          · rw [q]
            have h2 := h.2
            obtain ⟨a1, a2⟩ := List.getElem?_eq_some_iff.1 h2
            exact List.mem_take_iff_getElem.2 ⟨k - 1, by have := h.1; omega, a2⟩
      · simp only [List.mem_append, List.mem_singleton, cptN_mem, Option.toList_some]
theorem cptN_srt {R : α → α → Prop} (ht : ∀ a b c, R a b → R b c → R a c) (hi : ∀ a b, R a b → ¬ R b a) {l : List α} (hl : l.Pairwise fun x y => R x y ∨ x = y) : ∀ k, (cptN l k).Pairwise R
  | 0 => List.Pairwise.nil
  | k + 1 => by
    have ih := cptN_srt ht hi hl k
    unfold cptN
    rcases hq : l[k]? with _ | y
    · exact ih
    · simp only
      split
      · exact ih
      · rename_i hn
        refine List.pairwise_append.2 ⟨ih, by simp, fun x hx z hz => ?_⟩
        rw [List.mem_singleton.1 hz]
        obtain ⟨i, hi1, hi2⟩ := List.mem_take_iff_getElem.1 (cptN_mem.1 hx)
        obtain ⟨b1, b2⟩ := List.getElem?_eq_some_iff.1 hq
        have P := List.pairwise_iff_getElem.1 hl
        have h1 := P i k (by omega) b1 (by omega)
        rw [hi2, b2] at h1
        rcases h1 with h1 | h1
        · exact h1
        · subst h1
          exfalso
          refine hn ⟨by omega, ?_⟩
          rw [List.getElem?_eq_some_iff]
          refine ⟨by omega, ?_⟩
          rcases Nat.lt_or_ge i (k - 1) with q | q
          · have c1 := P i (k - 1) (by omega) (by omega) q
            have c2 := P (k - 1) k (by omega) b1 (by omega)
            rw [hi2] at c1; rw [b2] at c2
            rcases c1 with c1 | c1
            · rcases c2 with c2 | c2
              · exact absurd c2 (hi _ _ c1)
              · exact c2
            · exact c1.symm
          · rw [← hi2]; congr 1; omega
end
theorem cpt_ps {l m : List Pair} (hm : m.Pairwise fun x y => lessP x y ∨ x = y) (hp : ∀ x, x ∈ m ↔ x ∈ l) : cpt m = psP l :=
  srt_one (cptN_srt (R := lessP) (fun _ _ _ h k => less_trans h k) (fun _ _ h => less_irr h) hm _) (ps_srt l) fun x => by unfold cpt; rw [cptN_mem, ps_mem, List.take_length, hp]

/-- what is left of a set of pairs -/
def subR (a b : List Pair) : List Pair := a.foldl (fun o p => if p ∈ b then o else putP o p) []
theorem sub_fold {b : List Pair} : ∀ {a o : List Pair}, a.foldl (fun o p => if p ∈ b then o else putP o p) o = (a.filter fun p => !decide (p ∈ b)).foldl putP o
  | [], o => rfl
  | x :: a, o => by
    by_cases h : x ∈ b
    · simp [h, sub_fold (a := a)]
    · simp [h, sub_fold (a := a)]
theorem sub_ps (a b : List Pair) : (psP a).filter (fun p => !decide (p ∈ b)) = subR a b := by
  unfold subR; rw [sub_fold]
  refine srt_one ((ps_srt a).filter _) (fold_srt List.Pairwise.nil) fun x => ?_
  rw [fold_mem]; simp [ps_mem]
theorem sub_step {a b : List Pair} {k : Nat} {p : Pair} (h : a[k]? = some p) : subR (a.take (k + 1)) b = if p ∈ b then subR (a.take k) b else putP (subR (a.take k) b) p := by
  rw [take_snoc h]; unfold subR; rw [List.foldl_append]; rfl
theorem sub_srt (a b : List Pair) : SrtP (subR a b) := by unfold subR; rw [sub_fold]; exact fold_srt List.Pairwise.nil
theorem sub_len (a b : List Pair) : (subR a b).length ≤ a.length := by rw [← sub_ps]; exact Nat.le_trans (List.length_filter_le _ _) (ps_len a)
theorem ps_step {a : List Pair} {k : Nat} {p : Pair} (h : a[k]? = some p) : psP (a.take (k + 1)) = putP (psP (a.take k)) p := by
  rw [take_snoc h]; unfold psP; rw [List.foldl_append]; rfl
theorem ps_step2 {a b : List Pair} {k : Nat} {p : Pair} (h : b[k]? = some p) : psP (a ++ b.take (k + 1)) = putP (psP (a ++ b.take k)) p := by
  rw [take_snoc h, ← List.append_assoc]; unfold psP; rw [List.foldl_append]; rfl
end Go.KLib
