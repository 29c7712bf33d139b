/- The least word to a place: what the search gives is the least of all words that pass the test. -/
import Derived.Test.YthcoliemlekojaaJP
namespace Go.KLib

/-- words stand in the order of their numbers -/
def val (w : List Int) : Nat := w.foldl (fun a c => 9 * a + c.toNat + 1) 0
def okW (w : List Int) : Prop := ∀ c ∈ w, 0 ≤ c ∧ c ≤ 8
theorem val_nil : val [] = 0 := rfl
theorem val_snoc (w : List Int) (c : Int) : val (w ++ [c]) = 9 * val w + c.toNat + 1 := by simp [val]
theorem okW_nil : okW [] := fun _ h => by cases h
theorem okW_snoc {w : List Int} {c : Int} : okW (w ++ [c]) ↔ okW w ∧ (0 ≤ c ∧ c ≤ 8) := by
  constructor
  · intro h; exact ⟨fun x hx => h x (List.mem_append_left _ hx), h c (by simp)⟩
  · intro h x hx
    rcases List.mem_append.1 hx with hx | hx
    · exact h.1 x hx
    · rw [List.mem_singleton.1 hx]; exact h.2
theorem snoc_ind {α : Type} {p : List α → Prop} (h0 : p []) (h1 : ∀ u c, p u → p (u ++ [c])) (w : List α) : p w := by
  have h : ∀ n (w : List α), w.length = n → p w := by
    intro n
    induction n with
    | zero => intro w hw; rw [List.eq_nil_of_length_eq_zero hw]; exact h0
    | succ n ih =>
      intro w hw
      have hne : w ≠ [] := by intro e; rw [e] at hw; cases hw
      rw [← List.dropLast_concat_getLast hne]
      exact h1 _ _ (ih _ (by simp [hw]))
  exact h _ w rfl
theorem val_inj : ∀ {u v : List Int}, okW u → okW v → val u = val v → u = v := by
  intro u
  induction u using snoc_ind with
  | h0 =>
    intro v _ _ h
    induction v using snoc_ind with
    | h0 => rfl
    | h1 v c _ => rw [val_snoc] at h; rw [val_nil] at h; omega
  | h1 u c ih =>
    intro v hu hv h
    induction v using snoc_ind with
    | h0 => rw [val_snoc, val_nil] at h; omega
    | h1 v d _ =>
      rw [val_snoc, val_snoc] at h
      obtain ⟨hu1, hc⟩ := okW_snoc.1 hu
      obtain ⟨hv1, hd⟩ := okW_snoc.1 hv
      rw [ih hu1 hv1 (by omega), show c = d by omega]
def rep9 : Nat → Nat
  | 0 => 0
  | n + 1 => 9 * rep9 n + 1
theorem val_len : ∀ {w : List Int}, okW w → rep9 w.length ≤ val w ∧ val w ≤ 9 * rep9 w.length := by
  intro w
  induction w using snoc_ind with
  | h0 => intro _; simp [val_nil, rep9]
  | h1 w c ih =>
    intro h
    obtain ⟨h1, h2⟩ := okW_snoc.1 h
    have := ih h1
    rw [val_snoc]; simp only [List.length_append, List.length_singleton, rep9]
    omega
theorem rep9_mono : ∀ {m n : Nat}, m ≤ n → rep9 m ≤ rep9 n := by
  intro m n h
  induction n with
  | zero => rw [show m = 0 by omega]; exact Nat.le_refl _
  | succ n ih =>
    rcases Nat.eq_or_lt_of_le h with e | e
    · rw [e]; exact Nat.le_refl _
    · have := ih (by omega); simp only [rep9]; omega
theorem len_of_val {u v : List Int} (hu : okW u) (hv : okW v) (h : val u ≤ val v) : u.length ≤ v.length := by
  rcases Nat.lt_or_ge v.length u.length with q | q
  · have h1 := val_len hu
    have h2 := val_len hv
    have h3 := rep9_mono (show v.length + 1 ≤ u.length from q)
    simp only [rep9] at h3
    omega
  · exact q

/-- r is the least word at which f is true, if there is one -/
def LeastW (f : List Int → Bool) (r : List Int × Bool) : Prop :=
  (r.2 = true ∧ okW r.1 ∧ f r.1 = true ∧ ∀ v, okW v → val v < val r.1 → f v = false) ∨ (r = ([], false) ∧ ∀ v, okW v → f v = false)
theorem least_one {f : List Int → Bool} {r s : List Int × Bool} (h : LeastW f r) (g : LeastW f s) : r = s := by
  rcases h with ⟨h1, h2, h3, h4⟩ | ⟨h1, h2⟩ <;> rcases g with ⟨g1, g2, g3, g4⟩ | ⟨g1, g2⟩
  · refine Prod.ext (val_inj h2 g2 ?_) (by rw [h1, g1])
    rcases Nat.lt_trichotomy (val r.1) (val s.1) with q | q | q
    · have := g4 _ h2 q; rw [h3] at this; cases this
    · exact q
    · have := h4 _ g2 q; rw [g3] at this; cases this
  · have := g2 _ h2; rw [h3] at this; cases this
  · have := h2 _ g2; rw [g3] at this; cases this
  · rw [h1, g1]
noncomputable def lwF (f : List Int → Bool) : List Int × Bool := by
  classical exact if h : ∃ r, LeastW f r then h.choose else ([], false)
theorem lw_eq {f : List Int → Bool} {r : List Int × Bool} (h : LeastW f r) : r = lwF f := by
  unfold lwF
  rw [dif_pos ⟨r, h⟩]
  exact least_one h (Exists.choose_spec (⟨r, h⟩ : ∃ r, LeastW f r))

section
variable {T : Type} [DecidableEq T] {nx : T → Nat → T} {t0 : T} {ts : T → Bool}
def runT (nx : T → Nat → T) (t0 : T) (w : List Int) : T := w.foldl (fun t c => nx t c.toNat) t0
omit [DecidableEq T] in
theorem runT_snoc (w : List Int) (c : Int) : runT nx t0 (w ++ [c]) = nx (runT nx t0 w) c.toNat := by simp [runT]

def Srt (E : List (T × List Int)) : Prop := E.Pairwise fun x y => val x.2 < val y.2
omit [DecidableEq T] in
theorem Srt.lt {E : List (T × List Int)} (h : Srt E) {i j : Nat} {x y : T × List Int} (hi : E[i]? = some x) (hj : E[j]? = some y) (hv : val x.2 < val y.2) : i < j := by
  obtain ⟨hi1, hi2⟩ := List.getElem?_eq_some_iff.1 hi
  obtain ⟨hj1, hj2⟩ := List.getElem?_eq_some_iff.1 hj
  rcases Nat.lt_trichotomy i j with q | q | q
  · exact q
  · subst q; rw [hi2] at hj2; rw [hj2] at hv; omega
  · have := List.pairwise_iff_getElem.1 h j i hj1 hi1 q
    rw [hi2, hj2] at this; omega

/-- what is known of the list of places when the place e has been worked off up to letter m -/
structure BXI (nx : T → Nat → T) (t0 : T) (e : T × List Int) (m : Nat) (E : List (T × List Int)) : Prop where
  ok : ∀ x ∈ E, okW x.2 ∧ runT nx t0 x.2 = x.1
  srt : Srt E
  top : ∀ x ∈ E, val x.2 ≤ 9 * val e.2 + m
  all : ∀ c, c < m → ∃ y ∈ E, y.1 = nx e.1 c ∧ val y.2 ≤ 9 * val e.2 + c + 1
theorem bxi_step {e : T × List Int} {m : Nat} {E : List (T × List Int)} (hm : m < 9) (he : okW e.2 ∧ runT nx t0 e.2 = e.1) (h : BXI nx t0 e m (bx nx e E m)) : BXI nx t0 e (m + 1) (bx nx e E (m + 1)) := by
  unfold bx
  split
  · rename_i hmem
    obtain ⟨y, hy, hy2⟩ := List.mem_map.1 hmem
    refine ⟨h.ok, h.srt, fun x hx => by have := h.top x hx; omega, fun c hc => ?_⟩
    rcases Nat.lt_or_ge c m with q | q
    · exact h.all c q
    · rw [show c = m by omega]; exact ⟨y, hy, hy2, by have := h.top y hy; omega⟩
  · have hv : val (e.2 ++ [(m : Int)]) = 9 * val e.2 + m + 1 := by rw [val_snoc]; simp
    refine ⟨fun x hx => ?_, ?_, fun x hx => ?_, fun c hc => ?_⟩
    · rcases List.mem_append.1 hx with hx | hx
      · exact h.ok x hx
      · rw [List.mem_singleton.1 hx]
        exact ⟨okW_snoc.2 ⟨he.1, by omega⟩, by rw [runT_snoc, he.2]; simp⟩
    · refine List.pairwise_append.2 ⟨h.srt, by simp, fun x hx y hy => ?_⟩
      rw [List.mem_singleton.1 hy]
      have := h.top x hx
      simp only [hv]; omega
    · rcases List.mem_append.1 hx with hx | hx
      · have := h.top x hx; omega
      · rw [List.mem_singleton.1 hx]; simp only [hv]; omega
    · rcases Nat.lt_or_ge c m with q | q
      · obtain ⟨y, hy, h2⟩ := h.all c q
        exact ⟨y, List.mem_append_left _ hy, h2⟩
      · rw [show c = m by omega]; exact ⟨(nx e.1 m, e.2 ++ [(m : Int)]), List.mem_append_right _ (List.mem_singleton.2 rfl), rfl, by simp only [hv]; omega⟩
theorem bxi_all {e : T × List Int} {E : List (T × List Int)} (he : okW e.2 ∧ runT nx t0 e.2 = e.1) (h : BXI nx t0 e 0 E) : ∀ m, m ≤ 9 → BXI nx t0 e m (bx nx e E m)
  | 0, _ => h
  | m + 1, hm => bxi_step (by omega) he (bxi_all he h m (by omega))

structure BEI (nx : T → Nat → T) (t0 : T) (k : Nat) (E : List (T × List Int)) : Prop where
  ok : ∀ x ∈ E, okW x.2 ∧ runT nx t0 x.2 = x.1
  srt : Srt E
  fst : E[0]? = some (t0, [])
  top : ∀ x ∈ E, x.2 = [] ∨ ∃ j y, j < k ∧ E[j]? = some y ∧ val x.2 ≤ 9 * val y.2 + 9
  all : ∀ j x, j < k → E[j]? = some x → ∀ c, c < 9 → ∃ y ∈ E, y.1 = nx x.1 c ∧ val y.2 ≤ 9 * val x.2 + c + 1
theorem bei : ∀ k, BEI nx t0 k (bE nx t0 k)
  | 0 => ⟨fun x hx => by rw [show bE nx t0 0 = [(t0, [])] from rfl, List.mem_singleton] at hx; rw [hx]; exact ⟨okW_nil, rfl⟩, by simp [Srt, bE], rfl,
      fun x hx => by rw [show bE nx t0 0 = [(t0, [])] from rfl, List.mem_singleton] at hx; rw [hx]; exact .inl rfl, fun j _ hj => absurd hj (by omega)⟩
  | k + 1 => by
    have ih := bei k
    rcases hq : (bE nx t0 k)[k]? with _ | e
    · rw [bE_stop (List.getElem?_eq_none_iff.1 hq)]
      have hl := List.getElem?_eq_none_iff.1 hq
      exact ⟨ih.ok, ih.srt, ih.fst, fun x hx => by
        rcases ih.top x hx with h | ⟨j, y, h1, h2⟩
        · exact .inl h
        · exact .inr ⟨j, y, by omega, h2⟩, fun j x hj hx c hc => by
        have := (List.getElem?_eq_some_iff.1 hx).1
        exact ih.all j x (by omega) hx c hc⟩
    · rw [bE_succ hq]
      have he := ih.ok e (mem_of_get hq)
      have h0 : BXI nx t0 e 0 (bE nx t0 k) := ⟨ih.ok, ih.srt, fun x hx => by
        rcases ih.top x hx with h | ⟨j, y, h1, h2, h3⟩
        · rw [h, val_nil]; omega
        · have hlt : val y.2 < val e.2 := by
            obtain ⟨a1, a2⟩ := List.getElem?_eq_some_iff.1 h2
            obtain ⟨b1, b2⟩ := List.getElem?_eq_some_iff.1 hq
            have := List.pairwise_iff_getElem.1 ih.srt j k a1 b1 h1
            rw [a2, b2] at this; exact this
          omega, fun c hc => absurd hc (by omega)⟩
      have h9 := bxi_all he h0 9 (Nat.le_refl _)
      refine ⟨h9.ok, h9.srt, bx_get ih.fst, fun x hx => ?_, fun j x hj hx c hc => ?_⟩
      · exact .inr ⟨k, e, by omega, bx_get hq, h9.top x hx⟩
      · rcases Nat.lt_or_ge j k with q | q
        · have hx' : (bE nx t0 k)[j]? = some x := by
            have hl := (List.getElem?_eq_some_iff.1 hq).1
            rcases hz : (bE nx t0 k)[j]? with _ | z
            · have := List.getElem?_eq_none_iff.1 hz; omega
            · have := bx_get (nx := nx) (e := e) (k := 9) hz
              rw [this] at hx; exact hx
          obtain ⟨y, hy, h2⟩ := ih.all j x q hx' c hc
          obtain ⟨D, hD⟩ := bx_pre (nx := nx) e (bE nx t0 k) 9
          exact ⟨y, by rw [hD]; exact List.mem_append_left _ hy, h2⟩
        · have hjk : j = k := by omega
          subst hjk
          have := bx_get (nx := nx) (e := e) (k := 9) hq
          rw [this] at hx; injection hx with hx; subst hx
          exact h9.all c hc
/-- every word less than that of place k leads to a place ahead of k -/
theorem cover {k : Nat} {lim : Nat} (hl : ∀ i y, (bE nx t0 k)[i]? = some y → val y.2 < lim → i < k) (h0 : 0 < lim → 0 < k) : ∀ v, okW v → val v < lim → ∃ j x, j < k ∧ (bE nx t0 k)[j]? = some x ∧ x.1 = runT nx t0 v ∧ val x.2 ≤ val v := by
  intro v
  have B := bei (nx := nx) (t0 := t0) k
  induction v using snoc_ind with
  | h0 => intro _ hv; exact ⟨0, _, h0 (by omega), B.fst, rfl, Nat.le_refl _⟩
  | h1 u c ih =>
    intro hok hv
    obtain ⟨hu, hc⟩ := okW_snoc.1 hok
    rw [val_snoc] at hv
    obtain ⟨j, x, h1, h2, h3, h4⟩ := ih hu (by omega)
    obtain ⟨y, hy, g1, g2⟩ := B.all j x h1 h2 c.toNat (by omega)
    obtain ⟨i, hi1, hi2⟩ := List.getElem_of_mem hy
    have hi : (bE nx t0 k)[i]? = some y := List.getElem?_eq_some_iff.2 ⟨hi1, hi2⟩
    refine ⟨i, y, hl i y hi (by omega), hi, by rw [g1, h3, runT_snoc], by rw [val_snoc]; omega⟩
theorem bres_least {r : List Int × Bool} (h : BRes nx t0 ts r) : LeastW (fun v => ts (runT nx t0 v)) r := by
  rcases h with ⟨h1, k, e, h2, h3, h4, h5⟩ | ⟨h1, k, h2, h3⟩
  · have B := bei (nx := nx) (t0 := t0) k
    have he := B.ok e (mem_of_get h2)
    refine .inl ⟨h1, by rw [h4]; exact he.1, by simp only [h4, he.2, h3], fun v hv hlt => ?_⟩
    rw [h4] at hlt
    obtain ⟨j, x, g1, g2, g3, _⟩ := cover (lim := val e.2) (fun i y hi hy => B.srt.lt hi h2 hy) (fun hp => by
      rcases Nat.eq_zero_or_pos k with q | q
      · subst q; rw [B.fst] at h2; injection h2 with h2; subst h2; rw [val_nil] at hp; omega
      · exact q) v hv hlt
    have hx : (bE nx t0 j)[j]? = some x := by
      rcases hz : (bE nx t0 j)[j]? with _ | z
      · have hs := bE_short (List.getElem?_eq_none_iff.1 hz) (Nat.le_of_lt g1)
        rw [hs, hz] at g2; cases g2
      · have := bE_get hz (Nat.le_of_lt g1); rw [this] at g2; exact g2
    simp only [← g3]
    exact h5 j x g1 hx
  · refine .inr ⟨h1, fun v hv => ?_⟩
    obtain ⟨j, x, g1, g2, g3, _⟩ := cover (nx := nx) (t0 := t0) (k := k) (lim := val v + 1) (fun i y hi _ => by have := (List.getElem?_eq_some_iff.1 hi).1; omega) (fun _ => by
      rcases Nat.eq_zero_or_pos k with q | q
      · subst q; simp [bE] at h2
      · exact q) v hv (by omega)
    have hx : (bE nx t0 j)[j]? = some x := by
      rcases hz : (bE nx t0 j)[j]? with _ | z
      · have hs := bE_short (List.getElem?_eq_none_iff.1 hz) (Nat.le_of_lt g1)
        rw [hs, hz] at g2; cases g2
      · have := bE_get hz (Nat.le_of_lt g1); rw [this] at g2; exact g2
    simp only [← g3]
    exact h3 j x g1 hx
theorem bres_lw {r : List Int × Bool} (h : BRes nx t0 ts r) : r = lwF (fun v => ts (runT nx t0 v)) := lw_eq (bres_least h)
theorem lw_least {r : List Int × Bool} (h : BRes nx t0 ts r) : LeastW (fun v => ts (runT nx t0 v)) (lwF (fun v => ts (runT nx t0 v))) := by rw [← bres_lw h]; exact bres_least h
end

/-! ### How many places there are -/
theorem nodup_lt : ∀ (n : Nat) (l : List Nat), l.Nodup → (∀ x ∈ l, x < n) → l.length ≤ n
  | 0, l, _, h => by
    cases l with
    | nil => exact Nat.le_refl _
    | cons a l => exact absurd (h a (by simp)) (by omega)
  | n + 1, l, hd, h => by
    by_cases hm : n ∈ l
    · have h1 := nodup_lt n (l.erase n) (hd.erase n) (fun x hx => by
        have h2 := h x (List.mem_of_mem_erase hx)
        have h3 := ((List.Nodup.mem_erase_iff hd).1 hx).1
        omega)
      rw [List.length_erase_of_mem hm] at h1
      omega
    · have h1 := nodup_lt n l hd (fun x hx => by
        have h2 := h x hx
        rcases Nat.eq_or_lt_of_le (Nat.le_of_lt_succ h2) with q | q
        · exact absurd (q ▸ hx) hm
        · exact q)
      omega
theorem nodup_map {T : Type} (g : T → Nat) (n : Nat) {l : List T} (hd : l.Nodup) (hi : ∀ x ∈ l, ∀ y ∈ l, g x = g y → x = y) (h : ∀ x ∈ l, g x < n) : l.length ≤ n := by
  have h1 : (l.map g).Nodup := by
    induction l with
    | nil => exact List.nodup_nil
    | cons a l ih =>
      rw [List.nodup_cons] at hd
      rw [List.map_cons, List.nodup_cons]
      refine ⟨fun hm => ?_, ih hd.2 (fun x hx y hy => hi x (List.mem_cons_of_mem _ hx) y (List.mem_cons_of_mem _ hy)) (fun x hx => h x (List.mem_cons_of_mem _ hx))⟩
      obtain ⟨b, hb, hb2⟩ := List.mem_map.1 hm
      exact hd.1 (hi b (List.mem_cons_of_mem _ hb) a (by simp) hb2 ▸ hb)
  have := nodup_lt n (l.map g) h1 (fun x hx => by obtain ⟨y, hy, rfl⟩ := List.mem_map.1 hx; exact h y hy)
  simpa using this
end Go.KLib
