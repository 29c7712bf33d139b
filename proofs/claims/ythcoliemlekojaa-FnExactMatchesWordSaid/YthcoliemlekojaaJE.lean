/- Classes of states: the refinement, and that both ways of stopping give the same. -/
import Derived.Test.YthcoliemlekojaaJD
namespace Go.KLib

theorem Od.rng {α : Type} {cs : α → List Value} {e k : Nat} {w : World} {lo hi : Nat} {vs : List Sv} {xs : List (List α)} (h : Od cs e k w lo hi vs xs) {u : Sv} (hu : u ∈ vs) {g : Nat} (hg : g ∈ bl u.v) : lo ≤ g ∧ g < hi := by
  obtain ⟨i, hi, rfl⟩ := List.getElem_of_mem hu
  obtain ⟨x, _, _, h3⟩ := h.ownget (List.getElem?_eq_getElem hi)
  exact h3 g hg
theorem asc_eq0 : ∀ {a b : List Int}, a.Pairwise (· < ·) → b.Pairwise (· < ·) → (∀ x, x ∈ a ↔ x ∈ b) → a = b
  | [], [], _, _, _ => rfl
  | [], y :: b, _, _, h => by have := (h y).2 (List.mem_cons_self ..); cases this
  | x :: a, [], _, _, h => by have := (h x).1 (List.mem_cons_self ..); cases this
  | x :: a, y :: b, ha, hb, h => by
    rw [List.pairwise_cons] at ha hb
    have e : x = y := by
      have h1 := (h x).1 (List.mem_cons_self ..)
      have h2 := (h y).2 (List.mem_cons_self ..)
      rcases List.mem_cons.1 h1 with h1 | h1
      · exact h1
      · rcases List.mem_cons.1 h2 with h2 | h2
        · exact h2.symm
        · have := hb.1 x h1; have := ha.1 y h2; omega
    subst e
    rw [asc_eq0 ha.2 hb.2 fun z => ?_]
    constructor
    · intro hz
      rcases List.mem_cons.1 ((h z).1 (List.mem_cons_of_mem _ hz)) with q | q
      · have := ha.1 z hz; omega
      · exact q
    · intro hz
      rcases List.mem_cons.1 ((h z).2 (List.mem_cons_of_mem _ hz)) with q | q
      · have := hb.1 z hz; omega
      · exact q
def keyE (C : List Int) (t : Int) : Int := if t < 0 then -1 else C.getD t.toNat 0
def keyC (C : List Int) (r : List Int) (c : Int) : List Int := c :: r.map (keyE C)
/-- the first place of x, or -1 -/
def ixL (K : List (List Int)) (x : List Int) : Int := if x ∈ K then (K.idxOf x : Int) else -1
/-- classes refined: the keys, and the new classes of the first s states -/
def rfn (C : List Int) (N : List (List Int)) : Nat → List (List Int) × List Int
  | 0 => ([], [])
  | s + 1 =>
    let p := rfn C N s
    let c := C.getD s 0
    if c < 0 then (p.1, p.2 ++ [-1])
    else if keyC C (N.getD s []) c ∈ p.1 then (p.1, p.2 ++ [(p.1.idxOf (keyC C (N.getD s []) c) : Int)])
    else (p.1 ++ [keyC C (N.getD s []) c], p.2 ++ [(p.1.length : Int)])
def mxC (C : List Int) : Nat → Nat
  | 0 => 0
  | s + 1 => if C.getD s 0 = (mxC C s : Int) then mxC C s + 1 else mxC C s
def CanC (C : List Int) (n : Nat) : Prop := ∀ s, s < n → C.getD s 0 = -1 ∨ (0 ≤ C.getD s 0 ∧ C.getD s 0 ≤ mxC C s)
section
variable {C : List Int} {N : List (List Int)}
theorem rfn_n {s : Nat} (h : C.getD s 0 < 0) : rfn C N (s + 1) = ((rfn C N s).1, (rfn C N s).2 ++ [-1]) := by
  show (if _ then _ else _) = _
  rw [if_pos h]
theorem rfn_o {s : Nat} (h : ¬ C.getD s 0 < 0) (hk : keyC C (N.getD s []) (C.getD s 0) ∈ (rfn C N s).1) : rfn C N (s + 1) = ((rfn C N s).1, (rfn C N s).2 ++ [((rfn C N s).1.idxOf (keyC C (N.getD s []) (C.getD s 0)) : Int)]) := by
  show (if _ then _ else _) = _
  rw [if_neg h, if_pos hk]
theorem rfn_new {s : Nat} (h : ¬ C.getD s 0 < 0) (hk : ¬ keyC C (N.getD s []) (C.getD s 0) ∈ (rfn C N s).1) : rfn C N (s + 1) = ((rfn C N s).1 ++ [keyC C (N.getD s []) (C.getD s 0)], (rfn C N s).2 ++ [((rfn C N s).1.length : Int)]) := by
  show (if _ then _ else _) = _
  rw [if_neg h, if_neg hk]
theorem rfn_cases (C : List Int) (N : List (List Int)) (s : Nat) :
    (C.getD s 0 < 0 ∧ rfn C N (s + 1) = ((rfn C N s).1, (rfn C N s).2 ++ [-1])) ∨
    (¬ C.getD s 0 < 0 ∧ keyC C (N.getD s []) (C.getD s 0) ∈ (rfn C N s).1 ∧ rfn C N (s + 1) = ((rfn C N s).1, (rfn C N s).2 ++ [((rfn C N s).1.idxOf (keyC C (N.getD s []) (C.getD s 0)) : Int)])) ∨
    (¬ C.getD s 0 < 0 ∧ ¬ keyC C (N.getD s []) (C.getD s 0) ∈ (rfn C N s).1 ∧ rfn C N (s + 1) = ((rfn C N s).1 ++ [keyC C (N.getD s []) (C.getD s 0)], (rfn C N s).2 ++ [((rfn C N s).1.length : Int)])) := by
  by_cases h : C.getD s 0 < 0
  · exact .inl ⟨h, rfn_n h⟩
  · by_cases hk : keyC C (N.getD s []) (C.getD s 0) ∈ (rfn C N s).1
    · exact .inr (.inl ⟨h, hk, rfn_o h hk⟩)
    · exact .inr (.inr ⟨h, hk, rfn_new h hk⟩)
theorem rfn_len (C : List Int) (N : List (List Int)) : ∀ s, (rfn C N s).2.length = s ∧ (rfn C N s).1.length ≤ s
  | 0 => ⟨rfl, Nat.le_refl _⟩
  | s + 1 => by
    obtain ⟨h1, h2⟩ := rfn_len C N s
    rcases rfn_cases C N s with ⟨_, e⟩ | ⟨_, _, e⟩ | ⟨_, _, e⟩ <;> rw [e] <;> simp <;> omega
theorem mx_append (C : List Int) (x : Int) : ∀ {s}, s ≤ C.length → mxC (C ++ [x]) s = mxC C s
  | 0, _ => rfl
  | s + 1, h => by
    have e : (C ++ [x]).getD s 0 = C.getD s 0 := by
      rw [List.getD_eq_getElem?_getD, List.getD_eq_getElem?_getD, List.getElem?_append_left (by omega)]
    unfold mxC; rw [e, mx_append C x (by omega : s ≤ C.length)]
theorem getD_at (C : List Int) (x : Int) : (C ++ [x]).getD C.length 0 = x := by simp [List.getD_eq_getElem?_getD]
theorem can_append {C : List Int} {x : Int} (h : CanC C C.length) (hx : x = -1 ∨ (0 ≤ x ∧ x ≤ mxC C C.length)) : CanC (C ++ [x]) (C.length + 1) := fun s hs => by
  rcases Nat.lt_or_ge s C.length with h1 | h1
  · have e : (C ++ [x]).getD s 0 = C.getD s 0 := by
      rw [List.getD_eq_getElem?_getD, List.getD_eq_getElem?_getD, List.getElem?_append_left (by omega)]
    rw [e, mx_append C x (by omega)]; exact h s h1
  · have e : s = C.length := by omega
    subst e; rw [getD_at, mx_append C x (Nat.le_refl _)]; exact hx
theorem mx_snoc (C : List Int) (x : Int) : mxC (C ++ [x]) (C.length + 1) = if x = (mxC C C.length : Int) then mxC C C.length + 1 else mxC C C.length := by
  show (if _ then _ else _) = _
  rw [getD_at, mx_append C x (Nat.le_refl _)]
/-- what comes out is numbered by first places -/
theorem rfn_can (C : List Int) (N : List (List Int)) : ∀ s, CanC (rfn C N s).2 s ∧ mxC (rfn C N s).2 s = (rfn C N s).1.length
  | 0 => ⟨fun _ h => absurd h (by omega), rfl⟩
  | s + 1 => by
    obtain ⟨h1, h2⟩ := rfn_can C N s
    have hl := (rfn_len C N s).1
    have hc : CanC (rfn C N s).2 (rfn C N s).2.length := by rw [hl]; exact h1
    have hm : mxC (rfn C N s).2 (rfn C N s).2.length = (rfn C N s).1.length := by rw [hl]; exact h2
    rcases rfn_cases C N s with ⟨_, e⟩ | ⟨_, hk, e⟩ | ⟨_, _, e⟩ <;> rw [e]
    · have a := can_append (x := -1) hc (.inl rfl); have b := mx_snoc (rfn C N s).2 (-1)
      rw [hl] at a b; refine ⟨a, ?_⟩; rw [b, h2, if_neg (by omega)]
    · have hi := List.idxOf_lt_length_of_mem hk
      have a := can_append (x := ((rfn C N s).1.idxOf (keyC C (N.getD s []) (C.getD s 0)) : Int)) hc (.inr ⟨by omega, by rw [hm]; omega⟩)
      have b := mx_snoc (rfn C N s).2 ((rfn C N s).1.idxOf (keyC C (N.getD s []) (C.getD s 0)) : Int)
      rw [hl] at a b; refine ⟨a, ?_⟩; rw [b, h2, if_neg (by omega)]
    · have a := can_append (x := ((rfn C N s).1.length : Int)) hc (.inr ⟨by omega, by rw [hm]; omega⟩)
      have b := mx_snoc (rfn C N s).2 ((rfn C N s).1.length : Int)
      rw [hl] at a b; refine ⟨a, ?_⟩; rw [b, h2, if_pos rfl]; simp
/-- the heads of the keys are classes that came; as many keys as classes: nothing was divided -/
theorem rfn_same {n : Nat} (hc : CanC C n) : ∀ {s}, s ≤ n → (∀ x ∈ (rfn C N s).1, ∃ c r, x = keyC C r c ∧ 0 ≤ c ∧ c < mxC C s) ∧ mxC C s ≤ (rfn C N s).1.length ∧
    ((rfn C N s).1.length = mxC C s → (rfn C N s).2 = (List.range s).map (fun i => C.getD i 0) ∧ ∀ (j : Nat) (x : List Int), (rfn C N s).1[j]? = some x → ∃ r, x = keyC C r j)
  | 0, _ => ⟨fun _ h => absurd h (by simp [rfn]), Nat.le_refl _, fun _ => ⟨rfl, fun _ _ h => by simp [rfn] at h⟩⟩
  | s + 1, hs => by
    obtain ⟨h1, h2, h3⟩ := rfn_same hc (by omega : s ≤ n)
    have hcs := hc s (by omega)
    have hm : mxC C (s + 1) = if C.getD s 0 = (mxC C s : Int) then mxC C s + 1 else mxC C s := rfl
    rcases rfn_cases C N s with ⟨h, e⟩ | ⟨h, hk, e⟩ | ⟨h, hk, e⟩ <;> rw [e]
    · rw [hm, if_neg (by omega)]
      refine ⟨h1, h2, fun e => ⟨?_, (h3 e).2⟩⟩
      rw [List.range_succ, List.map_append, ← (h3 e).1, List.map_singleton, show C.getD s 0 = -1 by omega]
    · obtain ⟨c, r, e1, e2, e3⟩ := h1 _ hk
      have ec : C.getD s 0 = c := (List.cons.inj e1).1
      have hlt : ¬ C.getD s 0 = (mxC C s : Int) := by omega
      rw [hm, if_neg hlt]
      refine ⟨h1, h2, fun e => ⟨?_, (h3 e).2⟩⟩
      have hi := List.idxOf_lt_length_of_mem hk
      obtain ⟨r', e4⟩ := (h3 e).2 _ _ (List.getElem?_eq_getElem hi)
      rw [List.getElem_idxOf hi] at e4
      have e5 : C.getD s 0 = ((rfn C N s).1.idxOf (keyC C (N.getD s []) (C.getD s 0)) : Int) := (List.cons.inj e4).1
      rw [List.range_succ, List.map_append, ← (h3 e).1, List.map_singleton, ← e5]
    · by_cases hq : C.getD s 0 = (mxC C s : Int)
      · rw [hm, if_pos hq]
        refine ⟨fun x hx => ?_, by simp only [List.length_append, List.length_singleton]; omega, fun e => ?_⟩
        · rcases List.mem_append.1 hx with hx | hx
          · obtain ⟨c, r, e1, e2, e3⟩ := h1 x hx; exact ⟨c, r, e1, e2, by omega⟩
          · rw [List.mem_singleton.1 hx]; exact ⟨_, _, rfl, by omega, by omega⟩
        · have e' : (rfn C N s).1.length = mxC C s := by simp only [List.length_append, List.length_singleton] at e; omega
          refine ⟨by rw [List.range_succ, List.map_append, ← (h3 e').1, List.map_singleton, hq, e'], fun j x hx => ?_⟩
          rcases get_snoc hx with ⟨a, b⟩ | ⟨a, b⟩
          · exact (h3 e').2 j x b
          · exact ⟨N.getD s [], by rw [b, a, e', ← hq]⟩
      · rw [hm, if_neg hq]
        refine ⟨fun x hx => ?_, by simp only [List.length_append, List.length_singleton]; omega, fun e => ?_⟩
        · rcases List.mem_append.1 hx with hx | hx
          · exact h1 x hx
          · rw [List.mem_singleton.1 hx]; exact ⟨_, _, rfl, by omega, by omega⟩
        · simp only [List.length_append, List.length_singleton] at e; omega
end
/-- the classes from round to round -/
def clsD (N : List (List Int)) (D0 : List Int) (n : Nat) : Nat → List Int
  | 0 => D0
  | i + 1 => (rfn (clsD N D0 n i) N n).2
def clsN (N : List (List Int)) (D0 : List Int) (n : Nat) (i : Nat) : Nat := (rfn (clsD N D0 n i) N n).1.length
section
variable {N : List (List Int)} {D0 : List Int} {n : Nat}
theorem clsD_len (h0 : D0.length = n) : ∀ i, (clsD N D0 n i).length = n
  | 0 => h0
  | i + 1 => (rfn_len _ N n).1
theorem cls_le (i : Nat) : clsN N D0 n i ≤ n := (rfn_len _ N n).2
theorem list_get (C : List Int) : (List.range C.length).map (fun i => C.getD i 0) = C := by
  apply List.ext_getElem?
  intro i
  rcases Nat.lt_or_ge i C.length with h | h
  · simp [h, List.getD_eq_getElem?_getD]
  · rw [List.getElem?_eq_none (by simpa using h), List.getElem?_eq_none h]
theorem cls_mono (i : Nat) : clsN N D0 n i ≤ clsN N D0 n (i + 1) := by
  have h := rfn_can (clsD N D0 n i) N n
  have h2 := (rfn_same (N := N) (C := clsD N D0 n (i + 1)) h.1 (Nat.le_refl n)).2.1
  have e : mxC (clsD N D0 n (i + 1)) n = clsN N D0 n i := h.2
  rw [e] at h2; exact h2
theorem cls_stop (h0 : D0.length = n) {i : Nat} (h : clsN N D0 n (i + 1) = clsN N D0 n i) : clsD N D0 n (i + 2) = clsD N D0 n (i + 1) := by
  have h1 := rfn_can (clsD N D0 n i) N n
  have e : mxC (clsD N D0 n (i + 1)) n = clsN N D0 n i := h1.2
  have h2 := (rfn_same (N := N) (C := clsD N D0 n (i + 1)) h1.1 (Nat.le_refl n)).2.2 (by rw [e]; exact h)
  have h3 : clsD N D0 n (i + 2) = (List.range n).map fun j => (clsD N D0 n (i + 1)).getD j 0 := h2.1
  rw [h3]
  have hl := clsD_len (N := N) h0 (i + 1)
  have := list_get (clsD N D0 n (i + 1))
  rw [hl] at this; exact this
theorem cls_stay {i : Nat} (h : clsD N D0 n (i + 1) = clsD N D0 n i) : ∀ d, clsD N D0 n (i + d) = clsD N D0 n i
  | 0 => rfl
  | d + 1 => by
    show (rfn (clsD N D0 n (i + d)) N n).2 = _
    rw [cls_stay h d]; exact h
theorem cls_grow {i : Nat} (h : ∀ j, j < i → clsN N D0 n (j + 1) ≠ clsN N D0 n j) : i ≤ clsN N D0 n i := by
  induction i with
  | zero => exact Nat.zero_le _
  | succ i ih =>
    have h1 := ih (fun j hj => h j (by omega))
    have h2 := h i (by omega)
    have h3 := cls_mono (N := N) (D0 := D0) (n := n) i
    omega
/-- behind as many rounds as there are states, and one, nothing changes -/
theorem cls_end (h0 : D0.length = n) (d : Nat) : clsD N D0 n (n + 2 + d) = clsD N D0 n (n + 2) := by
  by_cases h : ∀ j, j < n + 1 → clsN N D0 n (j + 1) ≠ clsN N D0 n j
  · have h1 := cls_grow h
    have h2 := cls_le (N := N) (D0 := D0) (n := n) (n + 1)
    omega
  · have ⟨j, hj, hq⟩ : ∃ j, j < n + 1 ∧ clsN N D0 n (j + 1) = clsN N D0 n j := by
      apply Classical.byContradiction; intro hh
      exact h fun j hj e => hh ⟨j, hj, e⟩
    have hs := cls_stop h0 hq
    have a := cls_stay hs (n + 2 + d - (j + 1)); have b := cls_stay hs (n + 2 - (j + 1))
    rw [show j + 1 + (n + 2 + d - (j + 1)) = n + 2 + d by omega] at a
    rw [show j + 1 + (n + 2 - (j + 1)) = n + 2 by omega] at b
    rw [a, b]
def clsF (N : List (List Int)) (D0 : List Int) (n : Nat) : List Int := clsD N D0 n (n + 2)
theorem cls_fix (h0 : D0.length = n) {i : Nat} (h : clsD N D0 n (i + 1) = clsD N D0 n i) : clsD N D0 n i = clsF N D0 n := by
  rcases Nat.lt_or_ge i (n + 2) with hi | hi
  · have a := cls_stay h (n + 2 - i)
    rw [show i + (n + 2 - i) = n + 2 by omega] at a; exact a.symm
  · have a := cls_end (N := N) h0 (i - (n + 2))
    rw [show n + 2 + (i - (n + 2)) = i by omega] at a; exact a
theorem cls_last (h0 : D0.length = n) : clsD N D0 n (n + 1) = clsF N D0 n := by
  by_cases h : ∀ j, j < n + 1 → clsN N D0 n (j + 1) ≠ clsN N D0 n j
  · have h1 := cls_grow h
    have h2 := cls_le (N := N) (D0 := D0) (n := n) (n + 1)
    omega
  · have ⟨j, hj, hq⟩ : ∃ j, j < n + 1 ∧ clsN N D0 n (j + 1) = clsN N D0 n j := by
      apply Classical.byContradiction; intro hh
      exact h fun j hj e => hh ⟨j, hj, e⟩
    have hs := cls_stop h0 hq
    have a := cls_stay hs (n + 1 - (j + 1)); have b := cls_stay hs (n + 2 - (j + 1))
    rw [show j + 1 + (n + 1 - (j + 1)) = n + 1 by omega] at a
    rw [show j + 1 + (n + 2 - (j + 1)) = n + 2 by omega] at b
    unfold clsF; rw [a, b]
theorem cls_cnt (h0 : D0.length = n) {i : Nat} (h : clsN N D0 n (i + 1) = clsN N D0 n i) : clsD N D0 n (i + 2) = clsF N D0 n := by
  have hs := cls_stop h0 h
  rw [hs]; exact cls_fix h0 hs
end
/-! ### acceptance at a node -/
def GoodP (V : List Int) (E : List GEdge) (S : Int) (A : List Bool) (N : List (List Int)) (node s : Int) : Prop := ValidG V E ∧ ValidA S A N ∧ (0 ≤ node ∧ node ≤ (V.length : Int) - 1) ∧ (0 ≤ s ∧ s ≤ (A.length : Int) - 1)
theorem good_y {V : List Int} {E : List GEdge} {S : Int} {A : List Bool} {N : List (List Int)} {node s : Int} (h1 : ValidG V E) (h2 : ValidA S A N) (h3 : 0 ≤ node ∧ node ≤ (V.length : Int) - 1) : decide (0 ≤ s ∧ s ≤ (A.length : Int) - 1) = tt (GoodP V E S A N node s) := by
  rw [tt_dec]; exact tt_eq ⟨fun h => ⟨h1, h2, h3, h⟩, fun h => h.2.2.2⟩
theorem acc_step1 {A : List Bool} {m k : Nat} {y : Bool} (h : AccP A m k) (hy : A[k]? = some y) (hb : y = false) : AccP A m (k + 1) := fun q hq hm => by
  by_cases e : q = k
  · subst e; rw [hy, hb]; intro hh; cases hh
  · exact h q (by omega) hm
theorem acc_step2 {A : List Bool} {m k : Nat} (h : AccP A m k) (hb : m.testBit k = false) : AccP A m (k + 1) := fun q hq hm => by
  by_cases e : q = k
  · subst e; rw [hb] at hm; cases hm
  · exact h q (by omega) hm
theorem acc_yes {A : List Bool} {m k : Nat} (hb : m.testBit k = true) (hk : k < 30) (hy : A[k]? = some true) : true = accN A m := by
  symm; unfold accN; rw [List.any_eq_true]
  exact ⟨(k : Int), bitsL_mem.2 ⟨by omega, by simpa using hk, by simpa using hb⟩, by rw [Int.toNat_natCast, List.getD_eq_getElem?_getD, hy]; rfl⟩
theorem acc_end {A : List Bool} {m k : Nat} (hm : m < 2 ^ A.length) (h : AccP A m k) (hk : A.length ≤ k) : false = accN A m := by
  symm; unfold accN; rw [List.any_eq_false]
  intro x hx hh
  have hl := bits_lt hm hx
  obtain ⟨_, _, hb⟩ := bitsL_mem.1 hx
  have := h x.toNat (by omega) hb
  rw [List.getD_eq_getElem?_getD] at hh
  rcases hq : A[x.toNat]? with _ | b
  · rw [hq] at hh; simp at hh
  · rw [hq] at hh this; simp at hh; subst hh; exact this rfl
theorem any_step {α : Type} {l : List α} {f : α → Bool} {k : Nat} {x : α} (h : (l.take k).any f = false) (hx : l[k]? = some x) (hf : f x = false) : (l.take (k + 1)).any f = false := by
  rw [take_snoc hx, List.any_append, h]; simp [hf]
theorem any_end {α : Type} {l : List α} {f : α → Bool} {k : Nat} (h : (l.take k).any f = false) (hk : l.length ≤ k) : l.any f = false := by rwa [List.take_of_length_le hk] at h
theorem any_hit {α : Type} {l : List α} {f : α → Bool} {k : Nat} {x : α} (hx : l[k]? = some x) (hf : f x = true) : l.any f = true := by
  rw [List.any_eq_true]; exact ⟨x, mem_of_get hx, hf⟩
def accF (A : List Bool) : Int → Bool := fun q => A.getD q.toNat false
theorem accF_get {A : List Bool} {q : Int} {b : Bool} (h : A[q.toNat]? = some b) : accF A q = b := by unfold accF; rw [List.getD_eq_getElem?_getD, h]; rfl
theorem accN_any (A : List Bool) (m : Nat) : accN A m = (bitsL m 30).any (accF A) := rfl
def accG (A : List Bool) (N : List (List Int)) (c : Int) : Int → Bool := fun x => accN A (cloR N c x)
theorem acc_one {A : List Bool} {N : List (List Int)} {c s : Int} (h0 : 0 ≤ s) (h1 : s < 12) : (bitsL (ishl 1 s).toNat 30).any (accG A N c) = accN A (cloR N c s) := by
  obtain ⟨k, rfl⟩ := Int.eq_ofNat_of_zero_le h0
  have e : (ishl 1 (k : Int)).toNat = 2 ^ k := by rw [ishl_one (by omega)]; exact Int.toNat_natCast _
  have e2 : bitsL (2 ^ k) 30 = [(k : Int)] := by
    refine asc_eq0 ?_ (by simp) fun x => ?_
    · unfold bitsL
      rw [List.pairwise_map]
      exact List.Pairwise.imp (fun h => by omega) ((List.pairwise_lt_range (n := 30)).filter _)
    · rw [bitsL_mem, List.mem_singleton, Nat.testBit_two_pow, decide_eq_true_eq]
      constructor
      · rintro ⟨a, b, c⟩; omega
      · rintro rfl; exact ⟨h0, by simp; omega, by simp⟩
  rw [e, e2]; simp [accG]
theorem ishl_pow {s : Int} {n : Nat} (h0 : 0 ≤ s) (h1 : s < n) (hn : n ≤ 12) : 0 ≤ ishl 1 s ∧ (ishl 1 s).toNat < 2 ^ n := by
  obtain ⟨k, rfl⟩ := Int.eq_ofNat_of_zero_le h0
  rw [ishl_one (by omega), Int.toNat_natCast]
  exact ⟨Int.natCast_nonneg _, Nat.pow_lt_pow_right (by decide) (by omega)⟩
theorem pow12 {n : Nat} (hn : n ≤ 12) : 2 ^ n ≤ 4096 := Nat.pow_le_pow_right (n := 2) (by decide) hn
noncomputable def atR (V : List Int) (E : List GEdge) (S : Int) (A : List Bool) (N : List (List Int)) (node s : Int) : Bool := bif tt (GoodP V E S A N node s) then accN A (cloR N (6 + V.getD node.toNat 0) s) else false
theorem atR_y {V : List Int} {E : List GEdge} {S : Int} {A : List Bool} {N : List (List Int)} {node s : Int} (h : GoodP V E S A N node s) : accN A (cloR N (6 + V.getD node.toNat 0) s) = atR V E S A N node s := by unfold atR; rw [← tt_true h]; rfl
theorem atR_n {V : List Int} {E : List GEdge} {S : Int} {A : List Bool} {N : List (List Int)} {node s : Int} (h : ¬ GoodP V E S A N node s) : false = atR V E S A N node s := by unfold atR; rw [← tt_false h]; rfl
def NodesP (V : List Int) (ns : List Int) (k : Nat) : Prop := ∀ (i : Nat) (x : Int), i < k → ns[i]? = some x → 0 ≤ x ∧ x ≤ (V.length : Int) - 1
theorem nodes_step {V ns : List Int} {k : Nat} {y : Int} (h : NodesP V ns k) (hy : ns[k]? = some y) (h1 : 0 ≤ y ∧ y ≤ (V.length : Int) - 1) : NodesP V ns (k + 1) := fun i x hi hx => by
  by_cases e : i = k
  · subst e; rw [hy] at hx; injection hx with hx; subst hx; exact h1
  · exact h i x (by omega) hx
def BothP (V : List Int) (E : List GEdge) (S : Int) (A : List Bool) (N : List (List Int)) (ns : List Int) : Prop := NodesP V ns ns.length ∧ ValidG V E ∧ ValidA S A N
theorem at_node {V : List Int} {node : Int} {i : Nat} {x : Int} (hi : i < [node].length) (hx : [node][i]? = some x) (h : 0 ≤ node ∧ node ≤ (V.length : Int) - 1) : 0 ≤ x ∧ x ≤ (V.length : Int) - 1 := by
  have e : i = 0 := by simpa using hi
  subst e; simp at hx; subst hx; exact h
theorem at_y {V : List Int} {E : List GEdge} {S : Int} {A : List Bool} {N : List (List Int)} {node s v : Int} (h : BothP V E S A N [node]) (hs : ValidA S A N ∧ (0 ≤ s ∧ s ≤ (A.length : Int) - 1)) (hv : V[node.toNat]? = some v) : (bitsL (ishl 1 s).toNat 30).any (accG A N (6 + v)) = atR V E S A N node s := by
  have h1 := h.2.2.1
  rw [acc_one (by omega) (by omega)]
  rw [← atR_y ⟨h.2.1, h.2.2, h.1 0 node (by simp) rfl, hs.2⟩, List.getD_eq_getElem?_getD, hv]; rfl
theorem both_node {V : List Int} {E : List GEdge} {S : Int} {A : List Bool} {N : List (List Int)} {node : Int} (h : BothP V E S A N [node]) : 0 ≤ node ∧ node ≤ (V.length : Int) - 1 := h.1 0 node (by simp) rfl
/-! ### the walks' words -/
def keyP (C : List Int) (N : List (List Int)) (s k : Nat) : List Int := C.getD s 0 :: ((N.getD s []).take k).map (keyE C)
section
variable {C : List Int} {N : List (List Int)} {s k : Nat} {r : List Int} {c t y : Int}
theorem getD_of {β : Type} {l : List β} {i : Nat} {x d : β} (h : l[i]? = some x) : l.getD i d = x := by rw [List.getD_eq_getElem?_getD, h]; rfl
theorem keyp_zero (hc : C[s]? = some c) : [c] = keyP C N s 0 := by unfold keyP; rw [getD_of hc]; rfl
theorem keyp_n (hr : N[s]? = some r) (ht : r[k]? = some t) (h : t < 0) : keyP C N s k ++ [-1] = keyP C N s (k + 1) := by
  unfold keyP; rw [getD_of hr, take_snoc ht, List.map_append]; simp [keyE, h]
theorem keyp_y (hr : N[s]? = some r) (ht : r[k]? = some t) (h : ¬ t < 0) (hy : C[t.toNat]? = some y) : keyP C N s k ++ [y] = keyP C N s (k + 1) := by
  unfold keyP; rw [getD_of hr, take_snoc ht, List.map_append]; simp [keyE, h, List.getD_eq_getElem?_getD, hy]
theorem keyp_m (hr : N[s]? = some r) (ht : r[k]? = some t) (h : ¬ 0 ≤ t) (h2 : -1 ≤ t) : keyP C N s k ++ [t] = keyP C N s (k + 1) := by
  rw [show t = -1 by omega] at ht ⊢; exact keyp_n hr ht (by decide)
theorem keyp_end (hr : N[s]? = some r) (hk : r.length ≤ k) : keyP C N s k = keyC C (N.getD s []) (C.getD s 0) := by
  unfold keyP keyC; rw [getD_of hr, List.take_of_length_le hk]
theorem keyp_len : (keyP C N s k).length ≤ k + 1 := by simp [keyP]; omega
end
/-- the place of x among the first k keys: the last one, as the reference looks; keys are told apart -/
theorem rfn_nodup (C : List Int) (N : List (List Int)) : ∀ s, (rfn C N s).1.Nodup
  | 0 => List.nodup_nil
  | s + 1 => by
    rcases rfn_cases C N s with ⟨_, e⟩ | ⟨_, _, e⟩ | ⟨_, hk, e⟩ <;> rw [e]
    · exact rfn_nodup C N s
    · exact rfn_nodup C N s
    · rw [List.nodup_append]
      exact ⟨rfn_nodup C N s, by simp, fun a ha b hb hab => hk (by rw [← List.mem_singleton.1 hb, ← hab]; exact ha)⟩
def LastP (K : List (List Int)) (x : List Int) (k : Nat) (a : Int) : Prop := (a = -1 ∧ ∀ i y, i < k → K[i]? = some y → y ≠ x) ∨ (0 ≤ a ∧ K[a.toNat]? = some x)
theorem lastp_zero (K : List (List Int)) (x : List Int) : LastP K x 0 (-1) := .inl ⟨rfl, fun _ _ h => absurd h (by omega)⟩
theorem lastp_hit {K : List (List Int)} {x y : List Int} {k : Nat} (hy : K[k]? = some y) (e : y = x) : LastP K x (k + 1) (k : Int) := .inr ⟨by omega, by rw [Int.toNat_natCast, hy, e]⟩
theorem lastp_miss {K : List (List Int)} {x y : List Int} {k : Nat} {a : Int} (h : LastP K x k a) (hy : K[k]? = some y) (e : y ≠ x) : LastP K x (k + 1) a := by
  rcases h with ⟨h1, h2⟩ | h
  · exact .inl ⟨h1, fun i z hi hz => by
      by_cases q : i = k
      · subst q; rw [hy] at hz; injection hz with hz; subst hz; exact e
      · exact h2 i z (by omega) hz⟩
  · exact .inr h
theorem lastp_ix {K : List (List Int)} {x : List Int} {k : Nat} {a : Int} (h : LastP K x k a) (hk : K.length ≤ k) (hn : K.Nodup) : a = ixL K x := by
  rcases h with ⟨h1, h2⟩ | ⟨h1, h2⟩
  · have : ¬ x ∈ K := fun hm => by
      obtain ⟨i, hi, e⟩ := List.getElem_of_mem hm
      exact h2 i _ (by omega) (List.getElem?_eq_getElem hi) e
    unfold ixL; rw [if_neg this]; exact h1
  · obtain ⟨hl, he⟩ := List.getElem?_eq_some_iff.1 h2
    have hm : x ∈ K := he ▸ List.getElem_mem hl
    unfold ixL; rw [if_pos hm]
    have hi := List.idxOf_lt_length_of_mem hm
    have e2 : K[K.idxOf x]? = some x := by rw [List.getElem?_eq_getElem hi, List.getElem_idxOf hi]
    have := (List.getElem?_inj hl hn).1 (h2.trans e2.symm)
    omega
theorem firstp_ix {K : List (List Int)} {x y : List Int} {k : Nat} (h : ∀ i y, i < k → K[i]? = some y → y ≠ x) (hy : K[k]? = some y) (e : y = x) (hn : K.Nodup) : (k : Int) = ixL K x := lastp_ix (.inr ⟨by omega, by rw [Int.toNat_natCast, hy, e]⟩ : LastP K x K.length k) (Nat.le_refl _) hn
theorem nonep_ix {K : List (List Int)} {x : List Int} {k : Nat} (h : ∀ i y, i < k → K[i]? = some y → y ≠ x) (hk : K.length ≤ k) (hn : K.Nodup) : -1 = ixL K x := lastp_ix (.inl ⟨rfl, h⟩) hk hn
section
variable {C : List Int} {N : List (List Int)} {s : Nat} {c : Int}
theorem rfn1_n (hc : C[s]? = some c) (h : c < 0) : (rfn C N (s + 1)).1 = (rfn C N s).1 := by rw [rfn_n (by rw [getD_of hc]; exact h)]
theorem rfn2_n (hc : C[s]? = some c) (h : c < 0) : (rfn C N s).2 ++ [-1] = (rfn C N (s + 1)).2 := by rw [rfn_n (by rw [getD_of hc]; exact h)]
theorem ix_mem {K : List (List Int)} {x : List Int} (h : ¬ ixL K x < 0) : x ∈ K := by
  apply Classical.byContradiction; intro hm; apply h; unfold ixL; rw [if_neg hm]; decide
theorem ix_nmem {K : List (List Int)} {x : List Int} (h : ixL K x < 0) : ¬ x ∈ K := fun hm => by unfold ixL at h; rw [if_pos hm] at h; omega
theorem rfn1_o (hc : C[s]? = some c) (h : ¬ c < 0) (hi : ¬ ixL (rfn C N s).1 (keyC C (N.getD s []) (C.getD s 0)) < 0) : (rfn C N (s + 1)).1 = (rfn C N s).1 := by rw [rfn_o (by rw [getD_of hc]; exact h) (ix_mem hi)]
theorem rfn2_o (hc : C[s]? = some c) (h : ¬ c < 0) (hi : ¬ ixL (rfn C N s).1 (keyC C (N.getD s []) (C.getD s 0)) < 0) : (rfn C N s).2 ++ [ixL (rfn C N s).1 (keyC C (N.getD s []) (C.getD s 0))] = (rfn C N (s + 1)).2 := by
  rw [rfn_o (by rw [getD_of hc]; exact h) (ix_mem hi)]; unfold ixL; rw [if_pos (ix_mem hi)]
theorem rfn1_new (hc : C[s]? = some c) (h : ¬ c < 0) (hi : ixL (rfn C N s).1 (keyC C (N.getD s []) (C.getD s 0)) < 0) : (rfn C N (s + 1)).1 = (rfn C N s).1 ++ [keyC C (N.getD s []) (C.getD s 0)] := by rw [rfn_new (by rw [getD_of hc]; exact h) (ix_nmem hi)]
theorem rfn2_new (hc : C[s]? = some c) (h : ¬ c < 0) (hi : ixL (rfn C N s).1 (keyC C (N.getD s []) (C.getD s 0)) < 0) : (rfn C N s).2 ++ [((rfn C N s).1.length : Int)] = (rfn C N (s + 1)).2 := by rw [rfn_new (by rw [getD_of hc]; exact h) (ix_nmem hi)]
end
section
variable {C : List Int} {N : List (List Int)} {s m : Nat} {c a : Int} {x : List Int}
theorem rf1_o (hc : C[s]? = some c) (h : ¬ c < 0) (ek : x = keyC C (N.getD s []) (C.getD s 0)) (ia : a = ixL (rfn C N s).1 x) (hi : ¬ a < 0) : (rfn C N (s + 1)).1 = (rfn C N s).1 := by subst ia ek; exact rfn1_o hc h hi
theorem rf2_o (hc : C[s]? = some c) (h : ¬ c < 0) (ek : x = keyC C (N.getD s []) (C.getD s 0)) (ia : a = ixL (rfn C N s).1 x) (hi : ¬ a < 0) : (rfn C N s).2 ++ [a] = (rfn C N (s + 1)).2 := by subst ia ek; exact rfn2_o hc h hi
theorem rf1_new (hc : C[s]? = some c) (h : ¬ c < 0) (ek : x = keyC C (N.getD s []) (C.getD s 0)) (ia : a = ixL (rfn C N s).1 x) (hi : a < 0) : (rfn C N (s + 1)).1 = (rfn C N s).1 ++ [x] := by subst ia ek; exact rfn1_new hc h hi
theorem rf2_new (hc : C[s]? = some c) (h : ¬ c < 0) (ek : x = keyC C (N.getD s []) (C.getD s 0)) (ia : a = ixL (rfn C N s).1 x) (hi : a < 0) (hm : m = (rfn C N s).1.length) : (rfn C N s).2 ++ [(m : Int)] = (rfn C N (s + 1)).2 := by subst ia ek hm; exact rfn2_new hc h hi
end
theorem nep_step {K : List (List Int)} {x z : List Int} {k : Nat} (h : ∀ i y, i < k → K[i]? = some y → y ≠ x) (hz : K[k]? = some z) (e : z ≠ x) : ∀ i y, i < k + 1 → K[i]? = some y → y ≠ x := fun i y hi hy => by
  by_cases q : i = k
  · subst q; rw [hz] at hy; injection hy with hy; subst hy; exact e
  · exact h i y (by omega) hy
def clsI (A L : List Bool) (k : Nat) : List Int := (List.range k).map fun s => if L.getD s false = false then -1 else if A.getD s false then 1 else 0
theorem clsi_step {A L : List Bool} {k : Nat} {a l : Bool} {x : Int} (ha : A[k]? = some a) (hl : L[k]? = some l) (hx : x = if l = false then -1 else if a then 1 else 0) : clsI A L k ++ [x] = clsI A L (k + 1) := by
  unfold clsI; rw [List.range_succ, List.map_append, List.map_singleton, getD_of ha, getD_of hl, hx]
theorem clsi_len (A L : List Bool) (k : Nat) : (clsI A L k).length = k := by simp [clsI]
theorem clsi_step2 {A L : List Bool} {k : Nat} {l : Bool} {x : Int} (hl : L[k]? = some l) (h : (l = false ∧ x = -1) ∨ (l = true ∧ ∃ a, A[k]? = some a ∧ x = if a then 1 else 0)) : clsI A L k ++ [x] = clsI A L (k + 1) := by
  unfold clsI; rw [List.range_succ, List.map_append, List.map_singleton, getD_of hl]
  rcases h with ⟨h1, h2⟩ | ⟨h1, a, h2, h3⟩
  · rw [h1, h2]; rfl
  · rw [h1, getD_of h2, h3]; rfl
def prevC (N : List (List Int)) (D0 : List Int) (n : Nat) : Nat → Int
  | 0 => -1
  | j + 1 => clsN N D0 n j
theorem prev_mono (N : List (List Int)) (D0 : List Int) (n : Nat) : ∀ j, prevC N D0 n j ≤ clsN N D0 n j ∧ -1 ≤ prevC N D0 n j
  | 0 => ⟨by simp only [prevC]; omega, by simp [prevC]⟩
  | j + 1 => ⟨by have := cls_mono (N := N) (D0 := D0) (n := n) j; simp only [prevC]; omega, by simp only [prevC]; omega⟩
theorem cls_ret {N : List (List Int)} {D0 : List Int} {n : Nat} (h0 : D0.length = n) {j : Nat} {m : Int} (hm : m = prevC N D0 n j) (h : (clsN N D0 n j : Int) = m) : clsD N D0 n (j + 1) = clsF N D0 n := by
  subst hm
  cases j with
  | zero => simp only [prevC] at h; omega
  | succ j => exact cls_cnt h0 (by simp only [prevC] at h; omega)
noncomputable def scR (S : Int) (A : List Bool) (N : List (List Int)) : List Int := bif tt (ValidA S A N) then clsF N (clsI A (liveL A N) A.length) A.length else []
theorem scR_n {S : Int} {A : List Bool} {N : List (List Int)} (h : ¬ ValidA S A N) : [] = scR S A N := by unfold scR; rw [← tt_false h]; rfl
theorem scR_y {S : Int} {A : List Bool} {N : List (List Int)} (h : ValidA S A N) : clsF N (clsI A (liveL A N) A.length) A.length = scR S A N := by unfold scR; rw [← tt_true h]; rfl
theorem clsF_len (N : List (List Int)) (D0 : List Int) (n : Nat) : (clsF N D0 n).length = n := (rfn_len _ N n).1
theorem scR_len (S : Int) (A : List Bool) (N : List (List Int)) : (scR S A N).length ≤ 12 := by
  by_cases h : ValidA S A N
  · rw [← scR_y h, clsF_len]; exact h.1
  · rw [← scR_n h]; simp
end Go.KLib
