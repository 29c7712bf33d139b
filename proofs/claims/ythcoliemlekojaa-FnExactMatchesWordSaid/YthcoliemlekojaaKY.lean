/- Expanded expressions. -/
import Derived.Test.YthcoliemlekojaaKX
namespace Go.KLib

/-- The size bound, cut off. -/
def bndT : Tr → Int
  | .l0 _ => 1
  | .l1 t a => if t.kind = 7 then (if (bndT a + 3) * t.high + 1 < 100000 then (bndT a + 3) * t.high + 1 else 100000) else (if bndT a + 1 < 100000 then bndT a + 1 else 100000)
  | .l2 _ a b => if bndT a + bndT b + 1 < 100000 then bndT a + bndT b + 1 else 100000
def timT (x : Tr) : Int → Nat → Tr
  | _, 0 => .l0 ⟨2, 0, 0, 0⟩
  | low, h + 1 => if low > 0 then .l2 ⟨4, 0, 0, 0⟩ x (timT x (if low - 1 > 0 then low - 1 else 0) h) else .l2 ⟨5, 0, 0, 0⟩ (.l2 ⟨4, 0, 0, 0⟩ x (timT x (if low - 1 > 0 then low - 1 else 0) h)) (.l0 ⟨2, 0, 0, 0⟩)
def expT : Tr → Tr
  | .l0 t => .l0 t
  | .l1 t a => if t.kind = 7 then timT (expT a) t.low t.high.toNat else .l1 t (expT a)
  | .l2 t a b => .l2 t (expT a) (expT b)
theorem bndT_rng : ∀ {t : Tr}, Okd t → 1 ≤ bndT t ∧ bndT t ≤ 100000
  | .l0 _, _ => by simp [bndT]
  | .l1 t a, h => by
    have ih := bndT_rng h.2
    unfold bndT
    split
    · rename_i hk
      have r := h.r7 hk
      have r1 : 1 ≤ t.high ∧ t.high ≤ 3 := r.1
      have h1 := Int.mul_le_mul_of_nonneg_left (c := bndT a + 3) r1.1 (by omega)
      rw [Int.mul_one] at h1
      split <;> omega
    · split <;> omega
  | .l2 t a b, h => by
    have ia := bndT_rng h.2.1
    have ib := bndT_rng h.2.2
    unfold bndT
    split <;> omega
theorem timT_sz (x : Tr) : ∀ (low : Int) (h : Nat), (timT x low h).sz ≤ (x.sz + 3) * h + 1
  | _, 0 => by simp [timT, Tr.sz]
  | low, h + 1 => by
    have ih := timT_sz x (if low - 1 > 0 then low - 1 else 0) h
    have e : (x.sz + 3) * (h + 1) = (x.sz + 3) * h + (x.sz + 3) := Nat.mul_succ _ _
    rw [e]
    unfold timT
    split <;> simp only [Tr.sz] <;> omega
theorem timT_le {x : Tr} {n : Int} (low : Int) (hx : x.sz ≤ 5000) (hh : n ≤ 3) : (timT x low n.toNat).sz ≤ 20000 := by
  have h1 := timT_sz x low n.toNat
  have h2 : (x.sz + 3) * n.toNat ≤ (x.sz + 3) * 3 := Nat.mul_le_mul_left _ (by omega)
  omega
theorem expT_sz : ∀ {t : Tr}, Okd t → bndT t ≤ 5000 → ((expT t).sz : Int) ≤ bndT t
  | .l0 _, _, _ => by simp [bndT, expT, Tr.sz]
  | .l1 t a, h, hb => by
    have ih := bndT_rng h.2
    unfold bndT at hb ⊢
    unfold expT
    split
    · rename_i hk
      rw [if_pos hk] at hb
      have r : 1 ≤ t.high ∧ t.high ≤ 3 := (h.r7 hk).1
      have h1 := Int.mul_le_mul_of_nonneg_left (c := bndT a + 3) r.1 (by omega)
      rw [Int.mul_one] at h1
      have hc : (bndT a + 3) * t.high + 1 < 100000 := by
        apply Classical.byContradiction; intro hc; rw [if_neg hc] at hb; omega
      rw [if_pos hc] at hb ⊢
      have ie := expT_sz h.2 (by omega)
      have ht := timT_sz (expT a) t.low t.high.toNat
      have h2 : ((((expT a).sz + 3) * t.high.toNat : Nat) : Int) ≤ (bndT a + 3) * t.high := by
        rw [Int.natCast_mul, Int.toNat_of_nonneg (by omega)]
        exact Int.mul_le_mul_of_nonneg_right (by omega) (by omega)
      omega
    · rename_i hk
      rw [if_neg hk] at hb
      have hc : bndT a + 1 < 100000 := by
        apply Classical.byContradiction; intro hc; rw [if_neg hc] at hb; omega
      rw [if_pos hc] at hb ⊢
      have ie := expT_sz h.2 (by omega)
      simp only [Tr.sz]; omega
  | .l2 t a b, h, hb => by
    have ia := bndT_rng h.2.1
    have ib := bndT_rng h.2.2
    unfold bndT at hb ⊢
    have hc : bndT a + bndT b + 1 < 100000 := by
      apply Classical.byContradiction; intro hc; rw [if_neg hc] at hb; omega
    rw [if_pos hc] at hb ⊢
    have ea := expT_sz h.2.1 (by omega)
    have eb := expT_sz h.2.2 (by omega)
    simp only [expT, Tr.sz]; omega
theorem bnd_kid {t k : Tr} {i : Nat} (h : Okd t) (hb : bndT t ≤ 5000) (hk : t.kids[i]? = some k) : bndT k ≤ 5000 := by
  cases t with
  | l0 q => simp [Tr.kids] at hk
  | l1 q a =>
    have ih := bndT_rng h.2
    match i with
    | 0 =>
      simp [Tr.kids] at hk; subst hk
      unfold bndT at hb
      split at hb
      · rename_i h7
        have r : 1 ≤ q.high ∧ q.high ≤ 3 := (h.r7 h7).1
        have h1 := Int.mul_le_mul_of_nonneg_left (c := bndT a + 3) r.1 (by omega)
        rw [Int.mul_one] at h1
        split at hb <;> omega
      · split at hb <;> omega
    | i + 1 => simp [Tr.kids] at hk
  | l2 q a b =>
    have ia := bndT_rng h.2.1
    have ib := bndT_rng h.2.2
    unfold bndT at hb
    match i with
    | 0 => simp [Tr.kids] at hk; subst hk; split at hb <;> omega
    | 1 => simp [Tr.kids] at hk; subst hk; split at hb <;> omega
    | i + 2 => simp [Tr.kids] at hk
theorem timT_ok {x : Tr} (hx : Okd x) : ∀ (low : Int) (h : Nat), Okd (timT x low h)
  | _, 0 => by simp [timT, Okd, arT]
  | low, h + 1 => by
    have ih := timT_ok hx (if low - 1 > 0 then low - 1 else 0) h
    have e1 : arT ⟨4, 0, 0, 0⟩ = 2 := by decide
    have e2 : arT ⟨5, 0, 0, 0⟩ = 2 := by decide
    have e3 : arT ⟨2, 0, 0, 0⟩ = 0 := by decide
    unfold timT
    split
    · exact ⟨e1, hx, ih⟩
    · exact ⟨e2, ⟨e1, hx, ih⟩, e3⟩
theorem expT_ok : ∀ {t : Tr}, Okd t → Okd (expT t)
  | .l0 _, h => h
  | .l1 t a, h => by
    unfold expT
    split
    · exact timT_ok (expT_ok h.2) _ _
    · exact ⟨h.1, expT_ok h.2⟩
  | .l2 t a b, h => ⟨h.1, expT_ok h.2.1, expT_ok h.2.2⟩
section
variable {x a b : Tr} {low high : Int}
theorem tim0 (h : high = 0) : .l0 ⟨2, 0, 0, 0⟩ = timT x low high.toNat := by subst h; rfl
theorem timp (h : ¬ high = 0) (h0 : 0 ≤ high) (hl : low > 0) : .l2 ⟨4, 0, 0, 0⟩ x (timT x (if low - 1 > 0 then low - 1 else 0) (high - 1).toNat) = timT x low high.toNat := by
  rw [show high.toNat = (high - 1).toNat + 1 by omega, timT, if_pos hl]
theorem timn (h : ¬ high = 0) (h0 : 0 ≤ high) (hl : ¬ low > 0) : .l2 ⟨5, 0, 0, 0⟩ (.l2 ⟨4, 0, 0, 0⟩ x (timT x (if low - 1 > 0 then low - 1 else 0) (high - 1).toNat)) (.l0 ⟨2, 0, 0, 0⟩) = timT x low high.toNat := by
  rw [show high.toNat = (high - 1).toNat + 1 by omega, timT, if_neg hl]
theorem exp2 (h : Okd x) (hk : x.tok.kind = 4 ∨ x.tok.kind = 5) (h0 : x.kids[0]? = some a) (h1 : x.kids[1]? = some b) : .l2 x.tok (expT a) (expT b) = expT x := by rw [h.shape2 hk h0 h1]; rfl
theorem exp6 (h : Okd x) (hk : x.tok.kind = 6) (h0 : x.kids[0]? = some a) : .l1 x.tok (expT a) = expT x := by
  rw [h.shape1 (by omega) h0]
  have h6 : ¬ x.tok.kind = 7 := by omega
  simp only [expT, if_neg h6]; rfl
theorem exp7 (h : Okd x) (hk : x.tok.kind = 7) (h0 : x.kids[0]? = some a) : timT (expT a) x.tok.low x.tok.high.toNat = expT x := by
  rw [h.shape1 (by omega) h0]
  show timT (expT a) x.tok.low x.tok.high.toNat = _
  simp only [expT, if_pos hk]
theorem exp0 (h : Okd x) (hk : ¬ (x.tok.kind = 4 ∨ x.tok.kind = 5 ∨ x.tok.kind = 6 ∨ x.tok.kind = 7)) : .l0 x.tok = expT x := by rw [h.shape0 hk]; rfl
theorem bnd2 (h : Okd x) (hk : x.tok.kind = 4 ∨ x.tok.kind = 5) (h0 : x.kids[0]? = some a) (h1 : x.kids[1]? = some b) : (if bndT a + bndT b + 1 < 100000 then bndT a + bndT b + 1 else 100000) = bndT x := by rw [h.shape2 hk h0 h1]; rfl
theorem bnd6 (h : Okd x) (hk : x.tok.kind = 6) (h0 : x.kids[0]? = some a) : (if bndT a + 1 < 100000 then bndT a + 1 else 100000) = bndT x := by
  rw [h.shape1 (by omega) h0]
  have h6 : ¬ x.tok.kind = 7 := by omega
  simp only [bndT, if_neg h6]
theorem bnd7 (h : Okd x) (hk : x.tok.kind = 7) (h0 : x.kids[0]? = some a) : (if (bndT a + 3) * x.tok.high + 1 < 100000 then (bndT a + 3) * x.tok.high + 1 else 100000) = bndT x := by
  rw [h.shape1 (by omega) h0]
  show (if (bndT a + 3) * x.tok.high + 1 < 100000 then (bndT a + 3) * x.tok.high + 1 else 100000) = _
  simp only [bndT, if_pos hk]
theorem bnd0 (h : Okd x) (hk : ¬ (x.tok.kind = 4 ∨ x.tok.kind = 5 ∨ x.tok.kind = 6 ∨ x.tok.kind = 7)) : 1 = bndT x := by rw [h.shape0 hk]; rfl
end
/-- The sum that the walk over the operands makes. -/
def bndS (x : Tr) (i : Nat) : Int := ((x.kids.take i).map fun k => if x.tok.kind = 7 then (bndT k + 3) * x.tok.high else bndT k).sum
theorem bndS_step {x k : Tr} {i : Nat} (h : x.kids[i]? = some k) : bndS x (i + 1) = bndS x i + (if x.tok.kind = 7 then (bndT k + 3) * x.tok.high else bndT k) := by
  unfold bndS; rw [take_snoc h, List.map_append]; simp
theorem bndS_end {x : Tr} {i : Nat} (h : Okd x) (hi : x.kids.length ≤ i) : (if 100000 < 1 + bndS x i then 100000 else 1 + bndS x i) = bndT x := by
  unfold bndS; rw [List.take_of_length_le hi]
  have hl := h.len
  by_cases h4 : x.tok.kind = 4 ∨ x.tok.kind = 5
  · obtain ⟨k, a, b, rfl⟩ := h.two h4
    have h7 : ¬ (Tr.l2 k a b).tok.kind = 7 := by omega
    simp only [Tr.kids, List.map_cons, List.map_nil, List.sum_cons, List.sum_nil, if_neg h7, bndT]
    split <;> split <;> omega
  · by_cases h6 : x.tok.kind = 6 ∨ x.tok.kind = 7
    · obtain ⟨k, a, rfl⟩ := h.one h6
      simp only [Tr.kids, List.map_cons, List.map_nil, List.sum_cons, List.sum_nil, bndT]
      show (if 100000 < 1 + ((if k.kind = 7 then (bndT a + 3) * k.high else bndT a) + 0) then 100000 else 1 + ((if k.kind = 7 then (bndT a + 3) * k.high else bndT a) + 0)) = _
      by_cases h7 : k.kind = 7
      · simp only [if_pos h7]; split <;> split <;> omega
      · simp only [if_neg h7]; split <;> split <;> omega
    · obtain ⟨k, rfl⟩ := h.zero (by omega)
      rfl
theorem bndS_rng {x : Tr} {i : Nat} (h : Okd x) : 0 ≤ bndS x i ∧ bndS x i ≤ 400000 := by
  have hl := x.kids_le
  unfold bndS
  have key : ∀ (l : List Tr), (∀ k ∈ l, Okd k) → l.length ≤ 2 → (x.tok.kind = 7 → l.length ≤ 1) → 0 ≤ (l.map fun k => if x.tok.kind = 7 then (bndT k + 3) * x.tok.high else bndT k).sum ∧ (l.map fun k => if x.tok.kind = 7 then (bndT k + 3) * x.tok.high else bndT k).sum ≤ 400000 := by
    intro l hk h2 h7
    match l, hk, h2, h7 with
    | [], _, _, _ => simp
    | [a], hk, _, _ =>
      have ia := bndT_rng (hk a (by simp))
      by_cases e7 : x.tok.kind = 7
      · have r := (h.r7 e7).1
        have h1 : 0 ≤ (bndT a + 3) * x.tok.high := Int.mul_nonneg (by omega) (by omega)
        have h2 : (bndT a + 3) * x.tok.high ≤ 100003 * 3 := Int.mul_le_mul (by omega) r.2 (by omega) (by omega)
        simp [e7]; omega
      · simp [e7]; omega
    | [a, b], hk, _, h7 =>
      have ia := bndT_rng (hk a (by simp))
      have ib := bndT_rng (hk b (by simp))
      by_cases e7 : x.tok.kind = 7
      · have := h7 e7; simp at this
      · simp [e7]; omega
    | a :: b :: c :: r, _, h2, _ => simp at h2
  refine key _ (fun k hk => ?_) (by rw [List.length_take]; omega) (fun h7 => by rw [List.length_take]; have := h.len.2.1 (.inr h7); omega)
  obtain ⟨j, hj, rfl⟩ := List.getElem_of_mem (List.mem_of_mem_take hk)
  exact h.kid (List.getElem?_eq_getElem hj)
def expE (e : List Token) : List Token × Bool :=
  match treeL e with
  | some t => if e.length ≤ 24 ∧ bndT t ≤ 5000 ∧ (expT t).sz ≤ 400 then ((expT t).flat, true) else ([], false)
  | none => ([], false)
section
variable {e : List Token} {t : Tr}
theorem expE_y (h : treeL e = some t) (h1 : e.length ≤ 24) (h2 : bndT t ≤ 5000) (h3 : (expT t).sz ≤ 400) : expE e = ((expT t).flat, true) := by unfold expE; rw [h]; simp [h1, h2, h3]
theorem expE_n (h : ivE e = false) : expE e = ([], false) := by
  unfold ivE at h; unfold expE
  cases ht : treeL e with
  | none => rfl
  | some t =>
    simp only
    rw [if_neg]
    intro c
    rw [decide_eq_true c.1, ← isE_some ht] at h
    cases h
theorem expE_n2 (h : treeL e = some t) (h2 : ¬ bndT t ≤ 5000) : expE e = ([], false) := by unfold expE; rw [h]; simp only; rw [if_neg (fun c => h2 c.2.1)]
theorem expE_n3 (h : treeL e = some t) (h2 : ¬ (expT t).sz ≤ 400) : expE e = ([], false) := by unfold expE; rw [h]; simp only; rw [if_neg (fun c => h2 c.2.2)]
theorem ivE_y (h : ivE e = true) : ∃ t, treeL e = some t ∧ Okd t ∧ e = t.flat ∧ e.length ≤ 24 := by
  unfold ivE at h
  rw [Bool.and_eq_true] at h
  obtain ⟨t, a, b, c⟩ := isE_y h.2
  exact ⟨t, a, b, c, of_decide_eq_true h.1⟩
theorem ivE_tr (h : ivE e = true) (hn : treeL e = none) : False := by
  obtain ⟨t, a, _⟩ := ivE_y h; rw [hn] at a; cases a
theorem expE_len (e : List Token) : (expE e).1.length ≤ 400 := by
  unfold expE
  cases treeL e with
  | none => simp
  | some t =>
    simp only
    split
    · rename_i h; rw [Tr.flat_len]; exact h.2.2
    · simp
end
/-! ### Building nodes -/
theorem TrAt.mk {w : World} {L B bo e ty : Nat} {k : Token} {v : Value} {ps : List Addr} {ts : List Tr} (hm : Blk w bo ty [.int .i64 k.kind, .int .i64 k.letter, .int .i64 k.low, .int .i64 k.high, v]) (hL : L ≤ bo)
    (hv : Ol acs e 1 w v ps) (hl : ∀ g ∈ bl v, L ≤ g) (hk : Kd w L B ps ts) (h2 : ps.length ≤ 2) (hB : B ≤ w.heap.size) : TrAt w L w.heap.size ⟨bo, 0, none⟩ (mkTr k ts) := by
  refine TrF.mk (v := v) (ps := ps) ⟨hL, hm.lt⟩ (fun j x hx => ?_) hv.ls (fun A n c hA _ => ?_) ⟨hk.1, fun i q t a b => ((hk.2 i q t a b).up (Nat.le_refl _) hB)⟩ h2
  · rw [add_lit, hm.cell]; simpa [Token.cs] using hx
  · subst hA
    have hg : A.block ∈ bl (.slice (some A) n c) := by simp [bl, Value.ownBlock]
    exact ⟨hl _ hg, hv.lt _ hg⟩
theorem TrAt.lb {w : World} {L B : Nat} {p : Addr} {t : Tr} (h : TrAt w L B p t) : L < B := by
  cases t with
  | l0 t => obtain ⟨h0, _⟩ := h; exact Nat.lt_of_le_of_lt h0.1 h0.2
  | l1 t a => obtain ⟨h0, _⟩ := h; exact Nat.lt_of_le_of_lt h0.1 h0.2
  | l2 t a b => obtain ⟨h0, _⟩ := h; exact Nat.lt_of_le_of_lt h0.1 h0.2
theorem exp_done {w : World} {L bo e ty B : Nat} {v : Value} {ps : List Addr} {t : Tr} (h : KdN w L bo v ps (t.kids.map expT)) (hm : Blk w bo ty [.int .i64 t.tok.kind, .int .i64 t.tok.letter, .int .i64 t.tok.low, .int .i64 t.tok.high, v]) (hL : L ≤ bo)
    (hv : Ol acs e 1 w v ps) (hl : ∀ g ∈ bl v, L ≤ g) (hB : w.heap.size ≤ B) (hk : ¬ t.tok.kind = 7) : TrAt w L B ⟨bo, 0, none⟩ (expT t) := by
  have h2 : ps.length ≤ 2 := by
    have h3 := t.kids_le
    have h4 := h.1
    rw [h4]; simpa using h3
  have h5 := h.done hm hL hv hl h2 hB
  cases t with
  | l0 q => exact h5
  | l1 q a =>
    have hk' : ¬ q.kind = 7 := hk
    have : expT (.l1 q a) = .l1 q (expT a) := by simp only [expT, if_neg hk']
    rw [this]; exact h5
  | l2 q a b => exact h5
end Go.KLib
