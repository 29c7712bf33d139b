/- Rows of rows that are marked; reached states; useful states. -/
import Derived.Test.YthcoliemlekojaaKY
namespace Go.KLib

section
variable {α : Type} {cs : α → List Value} {e k lo hi : Nat} {w w' : World} {vs : List Sv} {xs : List (List α)}
theorem Od.set {i : Nat} {v : Sv} {x x' : List α} (h : Od cs e k w lo hi vs xs) (hv : vs[i]? = some v) (hx : xs[i]? = some x) (c : Ch (bl v.v) w w') (ho : Ol cs e k w' v.v x') : Od cs e k w' lo hi vs (xs.set i x') := by
  have hi' := (List.getElem?_eq_some_iff.1 hx).1
  refine ⟨by simp [h.1], fun j u y a b => ?_, h.2.2⟩
  rw [List.getElem?_set] at b
  by_cases e1 : i = j
  · subst e1
    rw [if_pos rfl, if_pos hi'] at b
    injection b with b; subst b
    rw [hv] at a; injection a with a; subst a
    exact ⟨ho, (h.2.1 i v x hv hx).2⟩
  · rw [if_neg e1] at b
    refine ⟨(h.2.1 j u y a b).1.ch c fun g hg hm => ?_, (h.2.1 j u y a b).2⟩
    rcases Nat.lt_or_gt_of_ne e1 with h1 | h1
    · exact h.2.2 i j v u hv a h1 g hm hg
    · exact h.2.2 j i u v a hv h1 g hg hm
theorem Od.sepO {o : Value} (h : Od cs e k w lo hi vs xs) (ho : ∀ g ∈ bl o, g < lo ∨ hi ≤ g) : Sep o vs := by
  intro u hu g hg hm
  obtain ⟨i, hi', rfl⟩ := List.getElem_of_mem hu
  have hx : xs[i]? = some (xs[i]'(by rw [← h.1]; exact hi')) := List.getElem?_eq_getElem _
  have h1 := (h.2.1 i _ _ (List.getElem?_eq_getElem hi') hx).2 g hg
  have h2 := ho g hm
  omega
theorem Od.ownget (h : Od cs e k w lo hi vs xs) {i : Nat} {y : Sv} (hy : vs[i]? = some y) : ∃ x, xs[i]? = some x ∧ Ol cs e k w y.v x ∧ (∀ g ∈ bl y.v, lo ≤ g ∧ g < hi) := by
  have hi := (List.getElem?_eq_some_iff.1 hy).1
  have hx : xs[i]? = some (xs[i]'(by have := h.1; omega)) := List.getElem?_eq_getElem _
  exact ⟨_, hx, h.2.1 i y _ hy hx⟩
theorem mem_of_get {β : Type} {l : List β} {i : Nat} {y : β} (h : l[i]? = some y) : y ∈ l := by
  obtain ⟨hi, rfl⟩ := List.getElem?_eq_some_iff.1 h; exact List.getElem_mem hi
end
theorem r_rem {P : Program} {w : World} {l : KL} {dst : Option Tmp} {ty : TypeId} {pos : String} {aft : Array Go.Edge} {gd : Option (Nat × Bool)} {x y : Operand} {xt yt : TypeId} {a b : Int} (hb : ¬ b = 0) (hx : ev l x = some (.int .i64 a)) (hy : ev l y = some (.int .i64 b)) :
    Runs P l ⟨dst, .binOp .rem xt x y yt, ty, pos, aft, gd⟩ w (.int .i64 (a.tmod b)) w := fun ρ hρ => by
  simp [execOp, hρ _ _ hx, hρ _ _ hy, eqGuard, binOp, Op.intDiv, hb]

/-! ### Reached states -/
def ReachB (S : Int) (s : Nat) : Prop := (s : Int) = S
def BackA (N : List (List Int)) (s t : Nat) : Prop := EdgeA N t s
noncomputable def reachL (S : Int) (n : Nat) (N : List (List Int)) : List Bool := clL (ReachB S) (BackA N) n
theorem reachL_len (S : Int) (n : Nat) (N : List (List Int)) : (reachL S n N).length = n := clL_len
section
variable {S : Int} {N : List (List Int)} {n j s k : Nat} {l : List Bool} {r : List Int} {y : Int}
/-- The rows below s have been gone through. -/
def FUp (S : Int) (N : List (List Int)) (j : Nat) (l : List Bool) (s : Nat) : Prop := ∀ q t, q < s → EdgeA N q t → ClN (ReachB S) (BackA N) j q → l[t]? = some true
def FRow (S : Int) (N : List (List Int)) (j : Nat) (l : List Bool) (s k : Nat) : Prop := ∀ (i t : Nat) (r : List Int), i < k → N[s]? = some r → r[i]? = some (t : Int) → ClN (ReachB S) (BackA N) j s → l[t]? = some true
theorem fup_zero : FUp S N j l 0 := fun _ _ h => absurd h (by omega)
theorem frow_zero : FRow S N j l s 0 := fun _ _ _ h => absurd h (by omega)
theorem fup_set {i : Nat} (h : FUp S N j l s) : FUp S N j (l.set i true) s := fun q t a b c => set_true (h q t a b c)
theorem frow_hit {i : Nat} (h : FRow S N j l s k) (hr : N[s]? = some r) (hy : r[k]? = some y) (hi : y = (i : Int)) (hl : i < l.length) : FRow S N j (l.set i true) s (k + 1) := fun q t r' hq hr' ht hc => by
  rw [hr] at hr'; cases hr'
  by_cases e : q = k
  · subst e; rw [hy] at ht; injection ht with ht; obtain rfl : t = i := by omega
    exact set_here hl
  · exact set_true (h q t r (by omega) hr ht hc)
theorem frow_miss (h : FRow S N j l s k) (hr : N[s]? = some r) (hy : r[k]? = some y) (hn : ∀ t : Nat, y = t → ¬ l[s]? = some true) (ha : ClAbove (ReachB S) (BackA N) l j) : FRow S N j l s (k + 1) := fun q t r' hq hr' ht hc => by
  rw [hr] at hr'; cases hr'
  by_cases e : q = k
  · subst e; rw [hy] at ht; injection ht with ht; exact absurd (ha s hc) (hn t ht)
  · exact h q t r (by omega) hr ht hc
theorem frow_any (h : FRow S N j l s k) (hn : ¬ l[s]? = some true) (ha : ClAbove (ReachB S) (BackA N) l j) : FRow S N j l s (k + 1) := fun _ _ _ _ _ _ hc => absurd (ha s hc) hn
theorem fup_row (h : FUp S N j l s) (hk : FRow S N j l s k) (hr : ∀ r, N[s]? = some r → r.length ≤ k) : FUp S N j l (s + 1) := fun q t hq he hc => by
  by_cases e : q = s
  · subst e
    obtain ⟨i, r, h1, h2⟩ := he
    exact hk i t r (by have := hr r h1; have := (List.getElem?_eq_some_iff.1 h2).1; omega) h1 h2 hc
  · exact h q t (by omega) he hc
theorem fround_up (ha : ClAbove (ReachB S) (BackA N) l j) (h : FUp S N j l s) (hs : N.length ≤ s) : ClAbove (ReachB S) (BackA N) l (j + 1) := fun q hq => by
  rcases hq with hq | ⟨t, he, hc⟩
  · exact ha q hq
  · obtain ⟨i, r, h1, h2⟩ := he
    exact h t q (by have := (List.getElem?_eq_some_iff.1 h1).1; omega) ⟨i, r, h1, h2⟩ hc
theorem edge_lt {A : List Bool} (hv : FitsA S A N) {s t : Nat} (h : EdgeA N s t) : t < A.length := by
  obtain ⟨i, r, h1, h2⟩ := h
  have := fits_el hv h1 h2
  omega
theorem reach_of_rounds {A : List Bool} (hv : FitsA S A N) (hl : l.length = A.length) (h1 : ClBelow (ReachB S) (BackA N) l) (h2 : ClAbove (ReachB S) (BackA N) l j) (hj : A.length = j) : l = reachL S A.length N :=
  cl_of_rounds hl (fun s h => by have := hv.1; unfold ReachB at h; omega) (fun s t h => edge_lt hv h) h1 (hj ▸ h2)
theorem reach_base {m : Nat} (h : m < n) (hm : S = (m : Int)) : ClBelow (ReachB S) (BackA N) ((List.replicate n false).set m true) := fun s hs => by
  rw [List.getElem?_set] at hs
  split at hs
  · rename_i e; subst e; exact .base (by unfold ReachB; omega)
  · rw [List.getElem?_replicate] at hs; split at hs <;> simp at hs
theorem reach_base2 {m : Nat} (h : m < n) (hm : S = (m : Int)) : ClAbove (ReachB S) (BackA N) ((List.replicate n false).set m true) 0 := fun s hs => by
  have hs' : (s : Int) = S := hs
  obtain rfl : s = m := by omega
  exact set_here (by simpa using h)

/-! the same with a list of what is still to be gone through -/
def Gone (N : List (List Int)) (o : List Bool) (s : Nat) : Prop := ∀ t, EdgeA N s t → o[t]? = some true
def Todo (N : List (List Int)) (o : List Bool) (l : List Int) : Prop := ∀ s : Nat, o[s]? = some true → (s : Int) ∈ l ∨ Gone N o s
def TodoH (N : List (List Int)) (o : List Bool) (l : List Int) (h : Int) : Prop := ∀ s : Nat, o[s]? = some true → (s : Int) ∈ l ∨ Gone N o s ∨ (s : Int) = h
def InL (n : Nat) (o : List Bool) (l : List Int) : Prop := ∀ x ∈ l, (0 ≤ x ∧ x ≤ (n : Int) - 1) ∧ o[x.toNat]? = some true
theorem Gone.set {o : List Bool} {i : Nat} (h : Gone N o s) : Gone N (o.set i true) s := fun t ht => set_true (h t ht)
theorem todo_start {m : Nat} (hm : S = (m : Int)) : Todo N ((List.replicate n false).set m true) [S] := fun s hs => by
  rw [List.getElem?_set] at hs
  split at hs
  · rename_i e; subst e; left; simp [hm]
  · rw [List.getElem?_replicate] at hs; split at hs <;> simp at hs
theorem inl_start {m : Nat} (h : m < n) (hm : S = (m : Int)) : InL n ((List.replicate n false).set m true) [S] := fun x hx => by
  rw [List.mem_singleton] at hx; subst hx
  refine ⟨by omega, ?_⟩
  rw [show x.toNat = m by omega]
  exact set_here (by simpa using h)
theorem todo_head {o : List Bool} {ls : List Int} {h : Int} (ht : Todo N o ls) (hh : ls[0]? = some h) : TodoH N o (ls.drop 1) h := fun s hs => by
  rcases ht s hs with h1 | h1
  · match ls, hh with
    | a :: r, hh =>
      simp at hh; subst hh
      rcases List.mem_cons.1 h1 with h1 | h1
      · exact .inr (.inr h1)
      · exact .inl h1
  · exact .inr (.inl h1)
theorem todo_done {o : List Bool} {ls : List Int} {h : Int} (ht : TodoH N o ls h) (hg : ∀ s : Nat, (s : Int) = h → Gone N o s) : Todo N o ls := fun s hs => by
  rcases ht s hs with h1 | h1 | h1
  · exact .inl h1
  · exact .inr h1
  · exact .inr (hg s h1)
theorem todo_push {o : List Bool} {ls : List Int} {h : Int} {i : Nat} (ht : TodoH N o ls h) : TodoH N (o.set i true) (ls ++ [(i : Int)]) h := fun s hs => by
  rw [List.getElem?_set] at hs
  split at hs
  · rename_i e; subst e; left; simp
  · rcases ht s hs with h1 | h1 | h1
    · exact .inl (by simp [h1])
    · exact .inr (.inl h1.set)
    · exact .inr (.inr h1)
theorem inl_push {o : List Bool} {ls : List Int} {i : Nat} (h : InL n o ls) (hi : i < n) (hl : o.length = n) : InL n (o.set i true) (ls ++ [(i : Int)]) := fun x hx => by
  rcases List.mem_append.1 hx with h1 | h1
  · exact ⟨(h x h1).1, set_true (h x h1).2⟩
  · rw [List.mem_singleton] at h1; subst h1
    exact ⟨by omega, by rw [show ((i : Int)).toNat = i by omega]; exact set_here (by omega)⟩
theorem drop_push {ls : List Int} {x : Int} (h : 0 < ls.length) : (ls ++ [x]).drop 1 = ls.drop 1 ++ [x] := List.drop_append_of_le_length h
def RowG (N : List (List Int)) (o : List Bool) (s k : Nat) : Prop := ∀ (i t : Nat) (r : List Int), i < k → N[s]? = some r → r[i]? = some (t : Int) → o[t]? = some true
theorem rowg_zero {o : List Bool} : RowG N o s 0 := fun _ _ _ h => absurd h (by omega)
theorem rowg_skip {o : List Bool} (h : RowG N o s k) (hr : N[s]? = some r) (hy : r[k]? = some y) (hn : ∀ t : Nat, y = t → o[t]? = some true) : RowG N o s (k + 1) := fun i t r' hi hr' ht => by
  rw [hr] at hr'; cases hr'
  by_cases e : i = k
  · subst e; rw [hy] at ht; injection ht with ht; exact hn t ht
  · exact h i t r (by omega) hr ht
theorem rowg_set {o : List Bool} {i : Nat} (h : RowG N o s k) (hr : N[s]? = some r) (hy : r[k]? = some y) (hi : y = (i : Int)) (hl : i < o.length) : RowG N (o.set i true) s (k + 1) := fun q t r' hq hr' ht => by
  rw [hr] at hr'; cases hr'
  by_cases e : q = k
  · subst e; rw [hy] at ht; injection ht with ht; obtain rfl : t = i := by omega
    exact set_here hl
  · exact set_true (h q t r (by omega) hr ht)
theorem rowg_gone {o : List Bool} {h : Int} (hg : RowG N o h.toNat k) (hr : ∀ r, N[h.toNat]? = some r → r.length ≤ k) (s : Nat) (hs : (s : Int) = h) : Gone N o s := fun t ht => by
  obtain ⟨i, r, h1, h2⟩ := ht
  obtain rfl : s = h.toNat := by omega
  exact hg i t r (by have := hr r h1; have := (List.getElem?_eq_some_iff.1 h2).1; omega) h1 h2
theorem reach_of_todo {A : List Bool} (hv : FitsA S A N) (hl : l.length = A.length) (h1 : ClBelow (ReachB S) (BackA N) l) (h2 : l[S.toNat]? = some true) (h3 : Todo N l []) : l = reachL S A.length N :=
  cl_of_closed hl h1 (fun s hs => by have hs' : (s : Int) = S := hs; rw [show s = S.toNat by omega]; exact h2) fun s t he hc => by
    rcases h3 t hc with h4 | h4
    · simp at h4
    · exact h4 s he
theorem below_edge (h : ClBelow (ReachB S) (BackA N) l) {q t : Nat} (hq : l[q]? = some true) (he : EdgeA N q t) : Cl (ReachB S) (BackA N) t := .step he (h q hq)
end

/-! ### Useful states -/
noncomputable def usfP (S : Int) (A : List Bool) (N : List (List Int)) (k : Nat) : List Int := ((List.range k).filter fun s => (reachL S A.length N).getD s false && (liveL A N).getD s false).map fun (s : Nat) => (s : Int)
noncomputable def usfR (S : Int) (A : List Bool) (N : List (List Int)) : List Int := bif tt (ValidA S A N) then usfP S A N A.length else []
theorem usfR_n {S : Int} {A : List Bool} {N : List (List Int)} (h : ¬ ValidA S A N) : [] = usfR S A N := by unfold usfR; rw [← tt_false h]; rfl
theorem usfR_y {S : Int} {A : List Bool} {N : List (List Int)} {k : Nat} (h : ValidA S A N) (hk : k = A.length) : usfP S A N k = usfR S A N := by subst hk; unfold usfR; rw [← tt_true h]; rfl
theorem usf_step {S : Int} {A : List Bool} {N : List (List Int)} {k : Nat} {a b : Bool} (ha : (reachL S A.length N)[k]? = some a) (hb : (liveL A N)[k]? = some b) : usfP S A N (k + 1) = if a && b then usfP S A N k ++ [(k : Int)] else usfP S A N k := by
  unfold usfP
  rw [List.range_succ, List.filter_append, List.map_append]
  have e1 : (reachL S A.length N).getD k false = a := by rw [List.getD_eq_getElem?_getD, ha]; rfl
  have e2 : (liveL A N).getD k false = b := by rw [List.getD_eq_getElem?_getD, hb]; rfl
  have e3 : List.filter (fun s => (reachL S A.length N).getD s false && (liveL A N).getD s false) [k] = if a && b then [k] else [] := by
    rw [List.filter_cons, e1, e2]; rfl
  rw [e3]
  cases a <;> cases b <;> simp
theorem usfP_len (S : Int) (A : List Bool) (N : List (List Int)) (k : Nat) : (usfP S A N k).length ≤ k := by
  unfold usfP; rw [List.length_map]
  exact Nat.le_trans (List.length_filter_le _ _) (by simp)
theorem usfR_len (S : Int) (A : List Bool) (N : List (List Int)) : (usfR S A N).length ≤ 12 := by
  by_cases h : ValidA S A N
  · rw [← usfR_y h rfl]; exact Nat.le_trans (usfP_len _ _ _ _) h.1
  · rw [← usfR_n h]; simp
end Go.KLib
