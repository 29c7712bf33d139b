/- The least set that holds a base and is closed under a relation, on the numbers below n: by rounds, and by any list that is closed. -/
import Derived.Test.YthcoliemlekojaaKO
namespace Go.KLib

inductive Cl (B : Nat → Prop) (R : Nat → Nat → Prop) : Nat → Prop
  | base {s : Nat} (h : B s) : Cl B R s
  | step {s t : Nat} (h : R s t) (k : Cl B R t) : Cl B R s
def ClN (B : Nat → Prop) (R : Nat → Nat → Prop) : Nat → Nat → Prop
  | 0, s => B s
  | j + 1, s => ClN B R j s ∨ ∃ t, R s t ∧ ClN B R j t
noncomputable def clL (B : Nat → Prop) (R : Nat → Nat → Prop) (n : Nat) : List Bool := (List.range n).map fun s => tt (Cl B R s)

section
variable {B : Nat → Prop} {R : Nat → Nat → Prop} {n : Nat}
theorem clL_len : (clL B R n).length = n := by simp [clL]
theorem clL_get {s : Nat} (hs : s < n) : (clL B R n)[s]? = some (tt (Cl B R s)) := by simp [clL, hs]
theorem ClN.cl : ∀ {j s : Nat}, ClN B R j s → Cl B R s
  | 0, _, h => .base h
  | _ + 1, _, .inl h => h.cl
  | _ + 1, _, .inr ⟨_, h, k⟩ => .step h k.cl
theorem ClN.up {j s : Nat} (h : ClN B R j s) : ∀ i, ClN B R (j + i) s
  | 0 => h
  | i + 1 => .inl (h.up i)
theorem Cl.some_n {s : Nat} (h : Cl B R s) : ∃ j, ClN B R j s := by
  induction h with
  | base h => exact ⟨0, h⟩
  | step h _ ih => obtain ⟨j, k⟩ := ih; exact ⟨j + 1, .inr ⟨_, h, k⟩⟩
theorem stay {i : Nat} (hst : ∀ s, ClN B R (i + 1) s → ClN B R i s) : ∀ (m s : Nat), ClN B R (i + m) s → ClN B R i s
  | 0, _, h => h
  | m + 1, s, h => by
    rcases h with h | ⟨t, h, k⟩
    · exact stay hst m s h
    · exact hst s (.inr ⟨t, h, stay hst m t k⟩)
noncomputable def miss (B : Nat → Prop) (R : Nat → Nat → Prop) (n j : Nat) : Nat := ((List.range n).filter fun s => !tt (ClN B R j s)).length
theorem filter_le {α : Type} {p q : α → Bool} : ∀ (l : List α), (∀ x ∈ l, p x = true → q x = true) → (l.filter p).length ≤ (l.filter q).length
  | [], _ => Nat.le_refl _
  | x :: l, h => by
    have ih := filter_le l fun y hy => h y (List.mem_cons_of_mem _ hy)
    have h0 := h x (List.mem_cons_self ..)
    cases hp : p x <;> cases hq : q x <;> simp [hp, hq] <;> first | omega | (rw [hp] at h0; simp [hq] at h0)
theorem filter_lt {α : Type} {p q : α → Bool} : ∀ (l : List α), (∀ x ∈ l, p x = true → q x = true) → (∃ x ∈ l, p x = false ∧ q x = true) → (l.filter p).length < (l.filter q).length
  | [], _, h => by obtain ⟨x, hx, _⟩ := h; simp at hx
  | x :: l, h, hex => by
    have ih := filter_le l fun y hy => h y (List.mem_cons_of_mem _ hy)
    have h0 := h x (List.mem_cons_self ..)
    obtain ⟨y, hy, hp', hq'⟩ := hex
    rcases List.mem_cons.1 hy with rfl | hy
    · simp [hp', hq']; omega
    · have ih2 := filter_lt l (fun y hy => h y (List.mem_cons_of_mem _ hy)) ⟨y, hy, hp', hq'⟩
      cases hp : p x <;> cases hq : q x <;> simp [hp, hq] <;> first | omega | (rw [hp] at h0; simp [hq] at h0)
theorem rounds (hB : ∀ s, B s → s < n) (hR : ∀ s t, R s t → s < n) : ∀ j, (∃ i, i ≤ j ∧ ∀ s, ClN B R (i + 1) s → ClN B R i s) ∨ miss B R n j + j ≤ n
  | 0 => .inr (by have := List.length_filter_le (fun s => !tt (ClN B R 0 s)) (List.range n); simp at this; simpa [miss] using this)
  | j + 1 => by
    rcases rounds hB hR j with ⟨i, hi, h⟩ | h
    · exact .inl ⟨i, by omega, h⟩
    · by_cases hst : ∀ s, ClN B R (j + 1) s → ClN B R j s
      · exact .inl ⟨j, by omega, hst⟩
      · right
        have hst' : ∃ s, ClN B R (j + 1) s ∧ ¬ ClN B R j s := by
          apply Classical.byContradiction
          intro hc
          exact hst fun s hs => Classical.byContradiction fun hn => hc ⟨s, hs, hn⟩
        obtain ⟨s, h1, h2⟩ := hst'
        have hs : s < n := by
          rcases h1 with h1 | ⟨t, h1, _⟩
          · exact absurd h1 h2
          · exact hR s t h1
        have : miss B R n (j + 1) < miss B R n j := filter_lt _ (fun x _ hx => by
            simp only [Bool.not_eq_true'] at hx ⊢
            rw [← tt_false (fun e : ClN B R j x => by rw [← tt_true (show ClN B R (j + 1) x from .inl e)] at hx; cases hx)])
          ⟨s, List.mem_range.2 hs, by rw [← tt_true h1]; rfl, by rw [← tt_false h2]; rfl⟩
        omega
/-- After n rounds nothing is missing. -/
theorem cl_rounds (hB : ∀ s, B s → s < n) (hR : ∀ s t, R s t → s < n) {s : Nat} (hs : s < n) (h : Cl B R s) : ClN B R n s := by
  obtain ⟨m, hm⟩ := h.some_n
  rcases rounds hB hR n with ⟨i, hi, hst⟩ | h0
  · have h1 : ClN B R i s := stay hst m s (by rw [Nat.add_comm]; exact hm.up i)
    have := h1.up (n - i)
    rwa [show i + (n - i) = n by omega] at this
  · apply Classical.byContradiction
    intro hn
    have : 0 < miss B R n n := by
      unfold miss
      refine List.length_pos_of_mem (a := s) (List.mem_filter.2 ⟨List.mem_range.2 hs, by rw [← tt_false hn]; rfl⟩)
    omega

/-- A list of flags between the least set and its rounds. -/
def ClBelow (B : Nat → Prop) (R : Nat → Nat → Prop) (l : List Bool) : Prop := ∀ s, l[s]? = some true → Cl B R s
def ClAbove (B : Nat → Prop) (R : Nat → Nat → Prop) (l : List Bool) (j : Nat) : Prop := ∀ s, ClN B R j s → l[s]? = some true
theorem cl_uniq {l : List Bool} (hl : l.length = n) (h1 : ClBelow B R l) (h2 : ∀ s, s < n → Cl B R s → l[s]? = some true) : l = clL B R n := by
  refine List.ext_getElem? fun s => ?_
  rcases Nat.lt_or_ge s n with hs | hs
  · rw [clL_get hs]
    have hg : l[s]? = some (l[s]'(by omega)) := List.getElem?_eq_getElem _
    by_cases hc : Cl B R s
    · rw [h2 s hs hc, ← tt_true hc]
    · rw [hg, ← tt_false hc]
      cases hb : l[s]'(by omega) with
      | false => rfl
      | true => exact absurd (h1 s (by rw [hg, hb])) hc
  · rw [List.getElem?_eq_none (by omega), List.getElem?_eq_none (by rw [clL_len]; omega)]
theorem cl_of_rounds {l : List Bool} (hl : l.length = n) (hB : ∀ s, B s → s < n) (hR : ∀ s t, R s t → s < n) (h1 : ClBelow B R l) (h2 : ClAbove B R l n) : l = clL B R n :=
  cl_uniq hl h1 fun s hs h => h2 s (cl_rounds hB hR hs h)
theorem cl_of_closed {l : List Bool} (hl : l.length = n) (h1 : ClBelow B R l) (h2 : ∀ s, B s → l[s]? = some true) (h3 : ∀ s t, R s t → l[t]? = some true → l[s]? = some true) : l = clL B R n :=
  have key : ∀ s, Cl B R s → l[s]? = some true := fun s h => by
    induction h with
    | base h => exact h2 _ h
    | step h _ ih => exact h3 _ _ h ih
  cl_uniq hl h1 fun s _ h => key s h
end

/-! ### Live states -/
def LiveB (A : List Bool) (s : Nat) : Prop := A[s]? = some true
def EdgeA (N : List (List Int)) (s t : Nat) : Prop := ∃ (i : Nat) (r : List Int), N[s]? = some r ∧ r[i]? = some (t : Int)
theorem set_true {l : List Bool} {i s : Nat} (h : l[s]? = some true) : (l.set i true)[s]? = some true := by
  rw [List.getElem?_set]
  split
  · rename_i e; subst e
    rw [if_pos (List.getElem?_eq_some_iff.1 h).1]
  · exact h
theorem set_here {l : List Bool} {i : Nat} (h : i < l.length) : (l.set i true)[i]? = some true := by rw [List.getElem?_set]; simp [h]
theorem set_below {B : Nat → Prop} {R : Nat → Nat → Prop} {l : List Bool} {i : Nat} (h : ClBelow B R l) (hc : Cl B R i) : ClBelow B R (l.set i true) := fun s hs => by
  rw [List.getElem?_set] at hs
  split at hs
  · rename_i e; subst e; exact hc
  · exact h s hs
theorem set_above {B : Nat → Prop} {R : Nat → Nat → Prop} {l : List Bool} {i j : Nat} (h : ClAbove B R l j) : ClAbove B R (l.set i true) j := fun s hs => set_true (h s hs)
/-- The rows below s have been looked through. -/
def UpTo (A : List Bool) (N : List (List Int)) (j : Nat) (l : List Bool) (s : Nat) : Prop := ∀ q t, q < s → EdgeA N q t → ClN (LiveB A) (EdgeA N) j t → l[q]? = some true
/-- .. and the first k entries of row s. -/
def RowUp (A : List Bool) (N : List (List Int)) (j : Nat) (l : List Bool) (s k : Nat) : Prop := ∀ (i t : Nat) (r : List Int), i < k → N[s]? = some r → r[i]? = some (t : Int) → ClN (LiveB A) (EdgeA N) j t → l[s]? = some true
section
variable {A : List Bool} {N : List (List Int)} {j s k i : Nat} {l : List Bool} {r : List Int} {y : Int}
theorem upto_zero : UpTo A N j l 0 := fun _ _ h => absurd h (by omega)
theorem rowup_zero : RowUp A N j l s 0 := fun _ _ _ h => absurd h (by omega)
theorem upto_set (h : UpTo A N j l s) : UpTo A N j (l.set i true) s := fun q t a b c => set_true (h q t a b c)
theorem rowup_hit (hs : s < l.length) : RowUp A N j (l.set s true) s k := fun _ _ _ _ _ _ _ => set_here hs
theorem rowup_miss (h : RowUp A N j l s k) (hr : N[s]? = some r) (hy : r[k]? = some y) (hn : ∀ t : Nat, y = t → ¬ l[t]? = some true) (ha : ClAbove (LiveB A) (EdgeA N) l j) : RowUp A N j l s (k + 1) := fun i t r' hi hr' ht hc => by
  rw [hr] at hr'; cases hr'
  by_cases e : i = k
  · subst e; rw [hy] at ht; injection ht with ht; exact absurd (ha t hc) (hn t ht)
  · exact h i t r (by omega) hr ht hc
theorem upto_row (h : UpTo A N j l s) (hk : RowUp A N j l s k) (hr : ∀ r, N[s]? = some r → r.length ≤ k) : UpTo A N j l (s + 1) := fun q t hq he hc => by
  by_cases e : q = s
  · subst e
    obtain ⟨i, r, h1, h2⟩ := he
    exact hk i t r (by have := hr r h1; have := (List.getElem?_eq_some_iff.1 h2).1; omega) h1 h2 hc
  · exact h q t (by omega) he hc
theorem round_up (ha : ClAbove (LiveB A) (EdgeA N) l j) (h : UpTo A N j l s) (hs : N.length ≤ s) : ClAbove (LiveB A) (EdgeA N) l (j + 1) := fun q hq => by
  rcases hq with hq | ⟨t, he, hc⟩
  · exact ha q hq
  · obtain ⟨i, r, h1, h2⟩ := he
    exact h q t (by have := (List.getElem?_eq_some_iff.1 h1).1; omega) ⟨i, r, h1, h2⟩ hc
noncomputable def liveL (A : List Bool) (N : List (List Int)) : List Bool := clL (LiveB A) (EdgeA N) A.length
theorem live_of_rounds (hl : l.length = A.length) (hN : N.length = A.length) (h1 : ClBelow (LiveB A) (EdgeA N) l) (h2 : ClAbove (LiveB A) (EdgeA N) l j) (hj : A.length = j) : l = liveL A N :=
  cl_of_rounds hl (fun s h => (List.getElem?_eq_some_iff.1 h).1) (fun s t h => by obtain ⟨i, r, h1, _⟩ := h; have := (List.getElem?_eq_some_iff.1 h1).1; omega) h1 (hj ▸ h2)
end

section
variable {P : Program} {w : World} {l : KL} {dst : Option Tmp} {ty : TypeId} {pos : String} {aft : Array Go.Edge} {gd : Option (Nat × Bool)} {x y : Operand} {xt yt : TypeId}
theorem run_equal_nil {A : Option Addr} {n c m d' : Nat} (ht : (elB P xt).isSome = true) : (Op.equal xt (.slice A n c) (.slice none m d')).run P w = .ok A.isNone w := by
  obtain ⟨e, he⟩ := Option.isSome_iff_exists.1 ht
  have h : ∀ d, (Op.equalIn (d + 1) xt (.slice A n c) (.slice none m d')).run P w = .ok A.isNone w := fun d => by
    cases A <;> simp [Op.equalIn, run_underlying (elB_spec he)]
  exact h 9999
theorem r_eqNil {A : Option Addr} {n c m d : Nat} (ht : (elB P xt).isSome = true) (hx : ev l x = some (.slice A n c)) (hy : ev l y = some (.slice none m d)) : Runs P l ⟨dst, .binOp .eql xt x y yt, ty, pos, aft, gd⟩ w (.bool A.isNone) w := fun ρ hρ => by
  have e : binOp .eql xt (.slice A n c) (.slice none m d) = (do pure (.bool (← Op.equal xt (.slice A n c) (.slice none m d)))) := rfl
  simp [execOp, hρ _ _ hx, hρ _ _ hy, eqGuard, e, run_equal_nil ht]
end
theorem Ls.none {α : Type} {cs : α → List Value} {k L B n c : Nat} {w : World} {A : Option Addr} {xs : List α} (h : Ls cs k w L B (.slice A n c) xs) (hA : A.isNone = true) : xs = [] := by
  obtain ⟨_, A', c', e, _, _, h3⟩ := h
  injection e with e1 e2
  subst e1
  rcases Nat.eq_zero_or_pos xs.length with h0 | h0
  · exact List.eq_nil_of_length_eq_zero h0
  · obtain ⟨ad, ha, _⟩ := h3 h0
    rw [ha] at hA; cases hA

theorem count_set : ∀ {l : List Bool} {s : Nat}, l[s]? = some false → (l.set s true).count false + 1 = l.count false
  | [], _, h => by simp at h
  | b :: l, 0, h => by simp at h; subst h; simp
  | b :: l, s + 1, h => by
    have := count_set (l := l) (s := s) (by simpa using h)
    cases b <;> simp <;> omega
def PUp (N : List (List Int)) (l : List Bool) (s : Nat) : Prop := ∀ q t, q < s → EdgeA N q t → l[t]? = some true → l[q]? = some true
def PRow (N : List (List Int)) (l : List Bool) (s k : Nat) : Prop := ∀ (i t : Nat) (r : List Int), i < k → N[s]? = some r → r[i]? = some (t : Int) → l[t]? = some true → l[s]? = some true
section
variable {A : List Bool} {N : List (List Int)} {s k : Nat} {l : List Bool} {r : List Int} {y : Int}
theorem pup_zero : PUp N l 0 := fun _ _ h => absurd h (by omega)
theorem prow_zero : PRow N l s 0 := fun _ _ _ h => absurd h (by omega)
theorem prow_step (h : PRow N l s k) (hr : N[s]? = some r) (hy : r[k]? = some y) (hn : ∀ t : Nat, y = t → l[t]? = some true → l[s]? = some true) : PRow N l s (k + 1) := fun i t r' hi hr' ht hc => by
  rw [hr] at hr'; cases hr'
  by_cases e : i = k
  · subst e; rw [hy] at ht; injection ht with ht; exact hn t ht hc
  · exact h i t r (by omega) hr ht hc
theorem pup_row (h : PUp N l s) (hk : PRow N l s k) (hr : ∀ r, N[s]? = some r → r.length ≤ k) : PUp N l (s + 1) := fun q t hq he hc => by
  by_cases e : q = s
  · subst e
    obtain ⟨i, r, h1, h2⟩ := he
    exact hk i t r (by have := hr r h1; have := (List.getElem?_eq_some_iff.1 h2).1; omega) h1 h2 hc
  · exact h q t (by omega) he hc
theorem live_of_closed (hl : l.length = A.length) (h1 : ClBelow (LiveB A) (EdgeA N) l) (h2 : ∀ s, LiveB A s → l[s]? = some true) (h3 : PUp N l N.length) : l = liveL A N :=
  cl_of_closed hl h1 h2 fun s t he hc => h3 s t (by obtain ⟨i, r, h1, _⟩ := he; exact (List.getElem?_eq_some_iff.1 h1).1) he hc
end

theorem liveL_len (A : List Bool) (N : List (List Int)) : (liveL A N).length = A.length := clL_len
noncomputable def emR (S : Int) (A : List Bool) (N : List (List Int)) : Bool := bif tt (ValidA S A N) then !(liveL A N).getD S.toNat false else false
theorem em_n {S : Int} {A : List Bool} {N : List (List Int)} (h : ¬ ValidA S A N) : false = emR S A N := by unfold emR; rw [← tt_false h]; rfl
theorem em_y {S : Int} {A : List Bool} {N : List (List Int)} {y : Bool} (h : ValidA S A N) (hy : (liveL A N)[S.toNat]? = some y) : (!y) = emR S A N := by
  unfold emR; rw [← tt_true h, List.getD_eq_getElem?_getD, hy]; rfl
end Go.KLib
