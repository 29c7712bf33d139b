/- What the functions on trees compute: nullable, where a part starts. -/
import Derived.Test.YthcoliemlekojaaKT
namespace Go.KLib

theorem Okd.len {t : Tr} (h : Okd t) : ((t.tok.kind = 4 ∨ t.tok.kind = 5) → t.kids.length = 2) ∧ ((t.tok.kind = 6 ∨ t.tok.kind = 7) → t.kids.length = 1) ∧ (¬ (t.tok.kind = 4 ∨ t.tok.kind = 5 ∨ t.tok.kind = 6 ∨ t.tok.kind = 7) → t.kids.length = 0) := by
  have h1 := h.ar
  have h2 := arT_ok (t := t.tok) (by rw [h1]; omega)
  rw [h1] at h2
  unfold arK at h2
  split at h2
  · omega
  · split at h2 <;> omega
theorem Okd.two {t : Tr} (h : Okd t) (hk : t.tok.kind = 4 ∨ t.tok.kind = 5) : ∃ k a b, t = .l2 k a b := by
  have := h.len.1 hk
  cases t with
  | l0 k => simp [Tr.kids] at this
  | l1 k a => simp [Tr.kids] at this
  | l2 k a b => exact ⟨k, a, b, rfl⟩
theorem Okd.one {t : Tr} (h : Okd t) (hk : t.tok.kind = 6 ∨ t.tok.kind = 7) : ∃ k a, t = .l1 k a := by
  have := h.len.2.1 hk
  cases t with
  | l0 k => simp [Tr.kids] at this
  | l1 k a => exact ⟨k, a, rfl⟩
  | l2 k a b => simp [Tr.kids] at this
theorem Okd.zero {t : Tr} (h : Okd t) (hk : ¬ (t.tok.kind = 4 ∨ t.tok.kind = 5 ∨ t.tok.kind = 6 ∨ t.tok.kind = 7)) : ∃ k, t = .l0 k := by
  have := h.len.2.2 hk
  cases t with
  | l0 k => exact ⟨k, rfl⟩
  | l1 k a => simp [Tr.kids] at this
  | l2 k a b => simp [Tr.kids] at this
theorem Okd.shape2 {t a b : Tr} (h : Okd t) (hk : t.tok.kind = 4 ∨ t.tok.kind = 5) (h0 : t.kids[0]? = some a) (h1 : t.kids[1]? = some b) : t = .l2 t.tok a b := by
  obtain ⟨k, x, y, rfl⟩ := h.two hk
  simp [Tr.kids] at h0 h1; subst h0 h1; rfl
theorem Okd.shape1 {t a : Tr} (h : Okd t) (hk : t.tok.kind = 6 ∨ t.tok.kind = 7) (h0 : t.kids[0]? = some a) : t = .l1 t.tok a := by
  obtain ⟨k, x, rfl⟩ := h.one hk
  simp [Tr.kids] at h0; subst h0; rfl
theorem Okd.shape0 {t : Tr} (h : Okd t) (hk : ¬ (t.tok.kind = 4 ∨ t.tok.kind = 5 ∨ t.tok.kind = 6 ∨ t.tok.kind = 7)) : t = .l0 t.tok := by
  obtain ⟨k, rfl⟩ := h.zero hk; rfl
theorem Tr.flat_kids (t : Tr) : t.flat = (t.kids.map Tr.flat).flatten ++ [t.tok] := by
  cases t <;> simp [Tr.flat, Tr.kids, Tr.tok]
theorem Tr.flat_pos (t : Tr) : 0 < t.flat.length := by rw [Tr.flat_len]; exact t.sz_pos
theorem last_tok {t : Tr} {l : List Token} {n : Nat} {y : Token} (hl : l = t.flat) (hn : n + 1 = l.length) (hy : l[n]? = some y) : y = t.tok := by
  rw [hl, Tr.flat_kids] at hy
  rw [hl, Tr.flat_kids, List.length_append, List.length_singleton] at hn
  rw [List.getElem?_append_right (by omega)] at hy
  have : n - (t.kids.map Tr.flat).flatten.length = 0 := by omega
  rw [this] at hy
  simpa using hy.symm

/-! ### Where the last part starts -/
def flats (ts : List Tr) : List Token := (ts.map Tr.flat).flatten
theorem flats_snoc (ts : List Tr) (t : Tr) : flats (ts ++ [t]) = flats ts ++ t.flat := by simp [flats]
theorem flats_app (ts us : List Tr) : flats (ts ++ us) = flats ts ++ flats us := by simp [flats]
theorem flats_len : ∀ ts : List Tr, ts.length ≤ (flats ts).length
  | [] => Nat.le_refl _
  | t :: ts => by
    have h1 := flats_len ts
    have h2 := t.flat_pos
    have h3 : (flats (t :: ts)).length = t.flat.length + (flats ts).length := by simp [flats]
    rw [h3, List.length_cons]; omega
theorem start_len {l p : List Token} {ts : List Tr} {k : Int} (hp : l.take k.toNat = p ++ flats ts) (h0 : 0 ≤ k) : (ts.length : Int) ≤ k := by
  have h1 := congrArg List.length hp
  rw [List.length_take, List.length_append] at h1
  have := flats_len ts
  omega
theorem start_step {l p : List Token} {ts : List Tr} {k : Int} {y : Token} (hp : l.take k.toNat = p ++ flats ts) (ho : ∀ x ∈ ts, Okd x) (hn : 0 < ts.length) (h0 : 0 ≤ k) (hk : k ≤ l.length) (hy : l[(k - 1).toNat]? = some y) :
    ∃ ts', l.take (k - 1).toNat = p ++ flats ts' ∧ (ts'.length : Int) = ts.length - 1 + arT y ∧ (∀ x ∈ ts', Okd x) := by
  have hk1 := start_len hp h0
  obtain ⟨n, hn'⟩ : ∃ n : Nat, k = n + 1 := ⟨(k - 1).toNat, by omega⟩
  subst hn'
  have e1 : ((n : Int) + 1 - 1).toNat = n := by omega
  have e2 : ((n : Int) + 1).toNat = n + 1 := by omega
  rw [e1] at hy ⊢
  rw [e2, take_snoc hy] at hp
  have hne : ts ≠ [] := by intro e; rw [e] at hn; simp at hn
  obtain ⟨us, t, rfl⟩ : ∃ us t, ts = us ++ [t] := ⟨ts.dropLast, ts.getLast hne, (List.dropLast_concat_getLast hne).symm⟩
  rw [flats_snoc, Tr.flat_kids, ← List.append_assoc, ← List.append_assoc] at hp
  obtain ⟨h1, h2⟩ := List.append_inj' hp rfl
  have hy2 : y = t.tok := by simpa using h2
  have hot := ho t (by simp)
  refine ⟨us ++ t.kids, ?_, ?_, fun x hx => ?_⟩
  · rw [h1, flats_app, List.append_assoc]; rfl
  · rw [hy2, hot.ar]; simp
  · rcases List.mem_append.1 hx with hx | hx
    · exact ho x (by simp [hx])
    · obtain ⟨i, hi, rfl⟩ := List.getElem_of_mem hx
      exact hot.kid (List.getElem?_eq_getElem hi)
theorem start_end {l p : List Token} {ts : List Tr} {k n : Int} (hp : l.take k.toNat = p ++ flats ts) (hn : n = ts.length) (h : ¬ 0 < n) (h0 : 0 ≤ k) (hk : k ≤ l.length) : k = (p.length : Int) := by
  obtain rfl : ts = [] := List.eq_nil_of_length_eq_zero (by omega)
  have h1 := congrArg List.length hp
  simp [flats] at h1
  omega

/-! ### Parts of a list -/
theorem cut_a {l a b : List Token} {k : Token} {n : Nat} (hl : l = a ++ b ++ [k]) (hn : n = a.length) : l.take n = a := by subst hl hn; simp
theorem cut_ab {l a b : List Token} {k : Token} {n : Nat} (hl : l = a ++ b ++ [k]) (hn : n + 1 = l.length) : l.take n = a ++ b := by
  subst hl
  have : n = (a ++ b).length := by simp at hn ⊢; omega
  rw [this]; exact List.take_left
theorem cut_b {l a b : List Token} {k : Token} {n m : Nat} (hl : l = a ++ b ++ [k]) (hn : n = a.length) (hm : m = b.length) : (l.drop n).take m = b := by
  subst hl hn hm; rw [List.append_assoc]; simp
theorem cut_1 {l a : List Token} {k : Token} {n : Nat} (hl : l = a ++ [k]) (hn : n + 1 = l.length) : l.take n = a := by
  subst hl
  have : n = a.length := by simp at hn ⊢; omega
  rw [this]; exact List.take_left
theorem len_2 {l a b : List Token} {k : Token} (hl : l = a ++ b ++ [k]) : l.length = a.length + b.length + 1 := by subst hl; simp; omega
theorem len_1 {l a : List Token} {k : Token} (hl : l = a ++ [k]) : l.length = a.length + 1 := by subst hl; simp

theorem Okd.k2 {t : Tr} {l : List Token} {y : Token} (h : Okd t) (h2 : t.kids.length = 2) (ht : y = t.tok) (hl : l = t.flat) : ∃ a b, t = .l2 y a b ∧ Okd a ∧ Okd b ∧ l = a.flat ++ b.flat ++ [y] ∧ l.length = a.flat.length + b.flat.length + 1 := by
  subst ht hl
  cases t <;> simp [Tr.kids] at h2
  rename_i k a b
  exact ⟨a, b, rfl, h.2.1, h.2.2, rfl, len_2 rfl⟩
theorem Okd.k1 {t : Tr} {l : List Token} {y : Token} (h : Okd t) (h2 : t.kids.length = 1) (ht : y = t.tok) (hl : l = t.flat) : ∃ a, t = .l1 y a ∧ Okd a ∧ l = a.flat ++ [y] ∧ l.length = a.flat.length + 1 := by
  subst ht hl
  cases t <;> simp [Tr.kids] at h2
  rename_i k a
  exact ⟨a, rfl, h.2, rfl, len_1 rfl⟩
theorem Okd.k0 {t : Tr} {y : Token} (h2 : t.kids.length = 0) (ht : y = t.tok) : t = .l0 y := by
  subst ht
  cases t <;> simp [Tr.kids] at h2
  rfl

/-! ### Nullable -/
def nullT : Tr → Bool
  | .l0 t => decide (t.kind = 2)
  | .l1 t a => decide (t.kind = 6) || (decide (t.low = 0) || nullT a)
  | .l2 t a b => if t.kind = 4 then nullT a && nullT b else nullT a || nullT b
section
variable {x a b : Tr}
theorem null26 (h : Okd x) (hk : x.tok.kind = 2 ∨ x.tok.kind = 6) : true = nullT x := by
  rcases hk with hk | hk
  · obtain ⟨k, rfl⟩ := h.zero (by omega); exact (decide_eq_true hk).symm
  · obtain ⟨k, a, rfl⟩ := h.one (by omega)
    have hk' : k.kind = 6 := hk
    simp [nullT, hk']
theorem null0 (h : Okd x) (hk : ¬ (x.tok.kind = 2 ∨ x.tok.kind = 4 ∨ x.tok.kind = 5 ∨ x.tok.kind = 6 ∨ x.tok.kind = 7)) : false = nullT x := by
  obtain ⟨k, rfl⟩ := h.zero (by omega)
  exact (decide_eq_false (fun e => hk (.inl e))).symm
theorem null4f (h : Okd x) (hk : x.tok.kind = 4) (h0 : x.kids[0]? = some a) (ha : nullT a = false) : false = nullT x := by
  obtain ⟨k, c, d, rfl⟩ := h.two (by omega)
  simp [Tr.kids] at h0; subst h0
  have hk' : k.kind = 4 := hk
  simp [nullT, hk', ha]
theorem null4t (h : Okd x) (hk : x.tok.kind = 4) (h0 : x.kids[0]? = some a) (h1 : x.kids[1]? = some b) (ha : nullT a = true) : nullT b = nullT x := by
  rw [h.shape2 (by omega) h0 h1]; simp [nullT, hk, ha]
theorem null5t (h : Okd x) (hk : x.tok.kind = 5) (h0 : x.kids[0]? = some a) (ha : nullT a = true) : true = nullT x := by
  obtain ⟨k, c, d, rfl⟩ := h.two (by omega)
  simp [Tr.kids] at h0; subst h0
  have hk' : k.kind = 5 := hk
  simp [nullT, hk', ha]
theorem null5f (h : Okd x) (hk : x.tok.kind = 5) (h0 : x.kids[0]? = some a) (h1 : x.kids[1]? = some b) (ha : nullT a = false) : nullT b = nullT x := by
  rw [h.shape2 (by omega) h0 h1]; simp [nullT, hk, ha]
theorem null7t (h : Okd x) (hk : x.tok.kind = 7) (hl : x.tok.low = 0) : true = nullT x := by
  obtain ⟨k, c, rfl⟩ := h.one (by omega)
  have hl' : k.low = 0 := hl
  simp [nullT, hl']
theorem null7f (h : Okd x) (hk : x.tok.kind = 7) (h0 : x.kids[0]? = some a) (hl : ¬ x.tok.low = 0) : nullT a = nullT x := by
  rw [h.shape1 (by omega) h0]; simp [nullT, hk, hl]
end
def nullE (e : List Token) : Bool := match treeL e with | some t => nullT t | none => false
theorem nullE_y {e : List Token} {t : Tr} (h : treeL e = some t) : nullT t = nullE e := by unfold nullE; rw [h]
theorem nullE_n {e : List Token} (h : treeL e = none) : false = nullE e := by unfold nullE; rw [h]
theorem isE_y {e : List Token} (h : isE e = true) : ∃ t, treeL e = some t ∧ Okd t ∧ e = t.flat := by
  unfold isE at h
  cases ht : treeL e with
  | none => rw [ht] at h; cases h
  | some t => exact ⟨t, rfl, (treeL_ok ht).1, (treeL_ok ht).2.symm⟩
theorem isE_n {e : List Token} (h : isE e = false) : treeL e = none := by
  unfold isE at h
  cases ht : treeL e with
  | none => rfl
  | some t => rw [ht] at h; cases h
theorem flats_take {ts : List Tr} {k : Nat} {t : Tr} (h : ts[k]? = some t) : flats (ts.take (k + 1)) = flats (ts.take k) ++ t.flat := by rw [take_snoc h, flats_snoc]
theorem flats_all {t : Tr} {k : Nat} (h : t.kids.length ≤ k) : flats (t.kids.take k) ++ [t.tok] = t.flat := by rw [List.take_of_length_le h, Tr.flat_kids]; rfl
theorem flats_bd {t : Tr} {k : Nat} {c : Tr} (h : t.kids[k]? = some c) : (flats (t.kids.take k)).length + c.sz + 1 ≤ t.sz := by
  cases t with
  | l0 k => simp [Tr.kids] at h
  | l1 q a =>
    match k with
    | 0 => simp [Tr.kids] at h; subst h; simp [Tr.sz, flats]
    | k + 1 => simp [Tr.kids] at h
  | l2 q a b =>
    match k with
    | 0 => simp [Tr.kids] at h; subst h; simp [Tr.sz, flats]
    | 1 => simp [Tr.kids] at h; subst h; simp [Tr.sz, Tr.kids, flats, Tr.flat_len]
    | k + 2 => simp [Tr.kids] at h
theorem flats_bd2 (t : Tr) (k : Nat) : (flats (t.kids.take k)).length + 1 ≤ t.sz := by
  have h := Tr.flat_kids t
  have h1 := congrArg List.length h
  rw [Tr.flat_len, List.length_append, List.length_singleton] at h1
  have h2 : (t.kids.map Tr.flat).flatten = flats (t.kids.take k) ++ flats (t.kids.drop k) := by rw [← flats_app, List.take_append_drop]; rfl
  rw [h2, List.length_append] at h1
  omega

/-! ### Split -/
def splT : Tr → List Token × List Token
  | .l0 _ => ([], [])
  | .l1 _ a => (a.flat, [])
  | .l2 _ a b => (a.flat, b.flat)
def splE (e : List Token) : List Token × List Token := match treeL e with | some t => splT t | none => ([], [])
theorem splE_y {e : List Token} {t : Tr} (h : treeL e = some t) : splE e = splT t := by unfold splE; rw [h]
theorem splE_n {e : List Token} (h : treeL e = none) : splE e = ([], []) := by unfold splE; rw [h]
theorem splE_len (e : List Token) : (splE e).1.length + (splE e).2.length ≤ e.length := by
  unfold splE
  cases h : treeL e with
  | none => simp
  | some t =>
    have h1 := treeL_sz h
    rw [← h1]
    cases t <;> simp [splT, Tr.sz, Tr.flat_len] <;> omega
theorem spl0 {t : Tr} (h : t.kids.length = 0) : splT t = ([], []) := by
  cases t <;> simp [Tr.kids] at h
  rfl
theorem spl1 {t a : Tr} (h : t.kids.length = 1) (h0 : t.kids[0]? = some a) : splT t = (a.flat, []) := by
  cases t <;> simp [Tr.kids] at h h0
  subst h0; rfl
theorem spl2 {t a b : Tr} (h0 : t.kids[0]? = some a) (h1 : t.kids[1]? = some b) : splT t = (a.flat, b.flat) := by
  cases t <;> simp [Tr.kids] at h0 h1
  subst h0 h1; rfl
theorem Tr.k0 {t : Tr} (h : t.kids.length = 0) : ∃ k, t = .l0 k := by
  cases t <;> simp [Tr.kids] at h
  exact ⟨_, rfl⟩
theorem Tr.k1 {t : Tr} (h : t.kids.length = 1) : ∃ k a, t = .l1 k a := by
  cases t <;> simp [Tr.kids] at h
  exact ⟨_, _, rfl⟩
theorem Tr.k2 {t : Tr} (h : t.kids.length = 2) : ∃ k a b, t = .l2 k a b := by
  cases t <;> simp [Tr.kids] at h
  exact ⟨_, _, _, rfl⟩
theorem Tr.kids_le (t : Tr) : t.kids.length ≤ 2 := by cases t <;> simp [Tr.kids]
end Go.KLib
