/- The alphabet of an expression: letters in ascending order, each once. -/
import Derived.Test.YthcoliemlekojaaJH
namespace Go.KLib

theorem prs_tokok : ∀ (l : List Token) (st st' : List Tr), prs st l = some st' → ∀ t ∈ l, 0 ≤ arT t
  | [], _, _, _, _, h => by cases h
  | t :: l, st, st', h, u, hu => by
    unfold prs at h
    rcases hq : push st t with _ | s2
    · rw [hq] at h; cases h
    · rw [hq] at h
      rcases List.mem_cons.1 hu with rfl | hu
      · rcases arT_cases u with e | e | e | e
        · unfold push at hq; rw [e] at hq; simp at hq
        · omega
        · omega
        · omega
      · exact prs_tokok l s2 st' h u hu
/-- the set of the letters of the first k tokens -/
def letM (l : List Token) : Nat → Nat
  | 0 => 0
  | k + 1 => match l[k]? with
    | none => letM l k
    | some t => if t.kind = 3 then letM l k ||| 2 ^ t.letter.toNat else letM l k
def letL (l : List Token) (k : Nat) : List Int := ((l.take k).filter fun t => decide (t.kind = 3)).map (·.letter)
theorem letm_y {l : List Token} {k : Nat} {t : Token} (h : l[k]? = some t) (hk : t.kind = 3) : letM l (k + 1) = letM l k ||| 2 ^ t.letter.toNat := by
  show (match l[k]? with | none => _ | some t => _) = _
  rw [h]; simp [hk]
theorem letm_n {l : List Token} {k : Nat} {t : Token} (h : l[k]? = some t) (hk : ¬ t.kind = 3) : letM l (k + 1) = letM l k := by
  show (match l[k]? with | none => _ | some t => _) = _
  rw [h]; simp [hk]
theorem letl_y {l : List Token} {k : Nat} {t : Token} (h : l[k]? = some t) (hk : t.kind = 3) : letL l k ++ [t.letter] = letL l (k + 1) := by
  unfold letL; rw [take_snoc h, List.filter_append, List.map_append]; simp [hk]
theorem letl_n {l : List Token} {k : Nat} {t : Token} (h : l[k]? = some t) (hk : ¬ t.kind = 3) : letL l k = letL l (k + 1) := by
  unfold letL; rw [take_snoc h, List.filter_append, List.map_append]; simp [hk]
theorem letl_len (l : List Token) (k : Nat) : (letL l k).length ≤ k := by
  unfold letL; rw [List.length_map]
  exact Nat.le_trans (List.length_filter_le _ _) (by rw [List.length_take]; omega)
def LetOk (l : List Token) : Prop := ∀ t ∈ l, t.kind = 3 → 0 ≤ t.letter ∧ t.letter ≤ 8
theorem letm_lt {l : List Token} (h : LetOk l) : ∀ k, letM l k < 512
  | 0 => show 0 < 512 by decide
  | k + 1 => by
    rcases hq : l[k]? with _ | t
    · show (match l[k]? with | none => _ | some t => _) < 512
      rw [hq]; exact letm_lt h k
    · by_cases hk : t.kind = 3
      · rw [letm_y hq hk]
        have := h t (mem_of_get hq) hk
        exact Nat.or_lt_two_pow (n := 9) (letm_lt h k) (Nat.pow_lt_pow_right (by decide) (by omega))
      · rw [letm_n hq hk]; exact letm_lt h k
theorem letm_bit {l : List Token} (h : LetOk l) (i : Nat) : ∀ k, (letM l k).testBit i = true ↔ (i : Int) ∈ letL l k
  | 0 => by simp [letM, letL]
  | k + 1 => by
    rcases hq : l[k]? with _ | t
    · have e1 : letM l (k + 1) = letM l k := by
        show (match l[k]? with | none => _ | some t => _) = _
        rw [hq]
      have e2 : letL l (k + 1) = letL l k := by
        unfold letL; rw [List.take_add_one, hq]; simp
      rw [e1, e2]; exact letm_bit h i k
    · by_cases hk : t.kind = 3
      · have hl := h t (mem_of_get hq) hk
        rw [letm_y hq hk, ← letl_y hq hk, or_bit, List.mem_append, List.mem_singleton, Bool.or_eq_true, letm_bit h i k, decide_eq_true_eq]
        constructor
        · rintro (a | a)
          · exact .inl a
          · exact .inr (by omega)
        · rintro (a | a)
          · exact .inl a
          · exact .inr (by omega)
      · rw [letm_n hq hk, ← letl_n hq hk]; exact letm_bit h i k
theorem asc_eq : ∀ {a b : List Int}, a.Pairwise (· < ·) → b.Pairwise (· < ·) → (∀ x, x ∈ a ↔ x ∈ b) → a = b
  | [], [], _, _, _ => rfl
  | [], y :: b, _, _, h => by have := (h y).2 (List.mem_cons_self ..); cases this
  | x :: a, [], _, _, h => by have := (h x).1 (List.mem_cons_self ..); cases this
  | x :: a, y :: b, ha, hb, h => by
    rw [List.pairwise_cons] at ha hb
    have e : x = y := by
      have h1 := (h x).1 (List.mem_cons_self ..)
      have h2 := (h y).2 (List.mem_cons_self ..)
      rcases List.mem_cons.1 h1 with h1 | h1
      · exact h1
      · rcases List.mem_cons.1 h2 with h2 | h2
        · exact h2.symm
        · have := hb.1 x h1; have := ha.1 y h2; omega
    subst e
    rw [asc_eq ha.2 hb.2 fun z => ?_]
    constructor
    · intro hz
      rcases List.mem_cons.1 ((h z).1 (List.mem_cons_of_mem _ hz)) with q | q
      · have := ha.1 z hz; omega
      · exact q
    · intro hz
      rcases List.mem_cons.1 ((h z).2 (List.mem_cons_of_mem _ hz)) with q | q
      · have := hb.1 z hz; omega
      · exact q
theorem bitsL_asc (m k : Nat) : (bitsL m k).Pairwise (· < ·) := by
  unfold bitsL
  rw [List.pairwise_map]
  refine List.Pairwise.imp (fun h => ?_) ((List.pairwise_lt_range (n := k)).filter _)
  omega
/-- a list in ascending order, each element once -/
def ascL (zs : List Int) : List Int := Lib.compact (zs.mergeSort fun x y => decide (x ≤ y))
theorem keeps_first {d : Array Int} : ∀ j, ∃ i, i ≤ j ∧ Lib.keeps d i = true ∧ d[i]! = d[j]!
  | 0 => ⟨0, Nat.le_refl _, by simp [Lib.keeps], rfl⟩
  | j + 1 => by
    by_cases h : Lib.keeps d (j + 1) = true
    · exact ⟨j + 1, Nat.le_refl _, h, rfl⟩
    · obtain ⟨i, h1, h2, h3⟩ := keeps_first (d := d) j
      refine ⟨i, by omega, h2, h3.trans ?_⟩
      simp [Lib.keeps] at h
      exact h.symm
theorem asc_mem {zs : List Int} {x : Int} : x ∈ ascL zs ↔ x ∈ zs := by
  have hp : x ∈ (zs.mergeSort fun x y => decide (x ≤ y)) ↔ x ∈ zs := (List.mergeSort_perm zs _).mem_iff
  rw [← hp]
  unfold ascL Lib.compact Lib.compactUpTo
  generalize (zs.mergeSort fun x y => decide (x ≤ y)) = l
  rw [List.mem_map]
  constructor
  · rintro ⟨j, hj, rfl⟩
    rw [List.mem_filter, List.mem_range] at hj
    have hj1 := hj.1
    simp only [List.getElem!_toArray]
    rw [getElem!_pos l j hj1]; exact List.getElem_mem hj1
  · intro hx
    obtain ⟨j, hj, rfl⟩ := List.getElem_of_mem hx
    obtain ⟨i, h1, h2, h3⟩ := keeps_first (d := l.toArray) j
    refine ⟨i, by rw [List.mem_filter, List.mem_range]; exact ⟨by omega, h2⟩, ?_⟩
    rw [h3]; simp only [List.getElem!_toArray]; rw [getElem!_pos l j hj]
theorem asc_asc (zs : List Int) : (ascL zs).Pairwise (· < ·) := by
  have hs : (zs.mergeSort fun x y => decide (x ≤ y)).Pairwise fun a b => decide (a ≤ b) = true :=
    List.pairwise_mergeSort (fun a b c h1 h2 => by simp at *; omega) (fun a b => by simp; omega) zs
  unfold ascL Lib.compact Lib.compactUpTo
  generalize (zs.mergeSort fun x y => decide (x ≤ y)) = l at hs
  have hle : ∀ i j, i ≤ j → j < l.length → l[i]! ≤ l[j]! := fun i j hij hj => by
    rw [getElem!_pos l i (by omega), getElem!_pos l j hj]
    rcases Nat.eq_or_lt_of_le hij with e | e
    · subst e; exact Int.le_refl _
    · have := List.pairwise_iff_getElem.1 hs i j (by omega) hj e
      simpa using this
  rw [List.pairwise_map]
  refine List.Pairwise.imp_of_mem (fun {i j} hi hj h => ?_) ((List.pairwise_lt_range (n := l.length)).filter _)
  rw [List.mem_filter, List.mem_range] at hi hj
  have hk := hj.2
  simp only [Lib.keeps, decide_eq_true_eq] at hk
  simp only [List.getElem!_toArray] at hk ⊢
  have h1 := hle i (j - 1) (by omega) (by omega)
  have h2 := hle (j - 1) j (by omega) hj.1
  rcases hk with hk | hk
  · omega
  · omega
theorem asc_len (zs : List Int) : (ascL zs).length ≤ zs.length := by
  unfold ascL Lib.compact Lib.compactUpTo
  rw [List.length_map]
  exact Nat.le_trans (List.length_filter_le _ _) (by simp)
theorem alph_eq {l : List Token} (h : LetOk l) (k : Nat) : ascL (letL l k) = bitsL (letM l k) 30 := by
  refine asc_eq (asc_asc _) (bitsL_asc _ _) fun x => ?_
  rw [asc_mem, bitsL_mem]
  constructor
  · intro hx
    have hx' := hx
    unfold letL at hx'
    obtain ⟨t, ht, rfl⟩ := List.mem_map.1 hx'
    rw [List.mem_filter] at ht
    have := h t (List.mem_of_mem_take ht.1) (by simpa using ht.2)
    refine ⟨this.1, by omega, (letm_bit h _ k).2 ?_⟩
    rw [Int.toNat_of_nonneg this.1]; exact hx
  · rintro ⟨h0, _, h2⟩
    have := (letm_bit h _ k).1 h2
    rwa [Int.toNat_of_nonneg h0] at this
theorem isE_letOk {l : List Token} (h : isE l = true) : LetOk l := fun t ht hk => by
  unfold isE treeL at h
  rcases hq : prs [] l with _ | st
  · rw [hq] at h; cases h
  · have h1 := prs_tokok l [] st hq t ht
    unfold arT at h1; rw [hk] at h1; simp at h1
    by_cases h2 : (0 ≤ t.letter ∧ t.letter ≤ 8) ∧ t.low = 0 ∧ t.high = 0
    · exact h2.1
    · exfalso; simp only [h2, if_false] at h1
      omega
theorem letm_i {l : List Token} {k : Nat} {t u : Token} {m : Int} (h : l[k]? = some t) (h2 : l[k]? = some u) (hm : m = ((letM l k : Nat) : Int)) (hk : t.kind = 3) (he : isE l = true) : ior m (ishl 1 u.letter) = ((letM l (k + 1) : Nat) : Int) := by
  rw [h] at h2; injection h2 with h2; subst h2
  have hl := isE_letOk he t (mem_of_get h) hk
  have hb := letm_lt (isE_letOk he) k
  subst hm
  rw [letm_y h hk, show t.letter = ((t.letter.toNat : Nat) : Int) by omega, ior_bit (by omega) (by omega) (by omega), Int.toNat_natCast, Int.toNat_natCast]
def alphR (l : List Token) : List Int := bif isE l then bitsL (letM l l.length) 30 else []
theorem alphR_n {l : List Token} (h : isE l = false) : bitsL (letM l 0) 30 = alphR l := by
  unfold alphR; rw [h]; show bitsL 0 30 = []; decide
theorem alphR_y {l : List Token} {k : Nat} (h : isE l = true) (hk : k = l.length) : bitsL (letM l k) 30 = alphR l := by subst hk; unfold alphR; rw [h]; rfl
theorem alphR_n2 {l : List Token} (h : isE l = false) : [] = alphR l := by unfold alphR; rw [h]; rfl
theorem alphR_y2 {l : List Token} {k : Nat} (h : isE l = true) (hk : k = l.length) : ascL (letL l k) = alphR l := by subst hk; rw [alph_eq (isE_letOk h)]; exact alphR_y h rfl
theorem letm_lt2 {l : List Token} {i : Nat} (ho : 0 < i → isE l = true) : letM l i < 512 := by
  cases i with
  | zero => show 0 < 512; decide
  | succ i => exact letm_lt (isE_letOk (ho (by omega))) _
theorem alphR_end {l : List Token} {i : Nat} (ho : 0 < i → isE l = true) (h : l.length ≤ i ∨ isE l = false) (hi : i ≤ l.length) : bitsL (letM l i) 30 = alphR l := by
  cases hb : isE l
  · have : i = 0 := by
      rcases Nat.eq_zero_or_pos i with h0 | h0
      · exact h0
      · rw [ho h0] at hb; cases hb
    subst this; exact alphR_n hb
  · rcases h with h | h
    · exact alphR_y hb (by omega)
    · rw [hb] at h; cases h
theorem alphR_len (l : List Token) : (alphR l).length ≤ 30 := by
  unfold alphR; cases isE l
  · simp
  · exact bitsL_len _ _
end Go.KLib
