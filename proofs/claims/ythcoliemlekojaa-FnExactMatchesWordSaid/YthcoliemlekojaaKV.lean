/- Reversed, derived and expanded trees; a row turned round. -/
import Derived.Test.YthcoliemlekojaaKU
import Derived.Laws.Small
namespace Go.KLib

section
variable {P : Program} {w : World} {l : KL} {dst : Option Tmp} {ty : TypeId} {pos : String} {aft : Array Go.Edge} {gd : Option (Nat × Bool)} {x y : Operand} {ts : Array TypeId} {k k' : IntKind} {a b : Int}
theorem r_max (hx : ev l x = some (.int k a)) (hy : ev l y = some (.int k' b)) : Runs P l ⟨dst, .call { callee := .builtin .max, args := #[x, y], argTypes := ts }, ty, pos, aft, gd⟩ w (.int k (if b > a then b else a)) w := fun ρ hρ => by
  simp [execOp, resolve, invoke, builtin, hρ _ _ hx, hρ _ _ hy, run_max_int2]
theorem r_min (hx : ev l x = some (.int k a)) (hy : ev l y = some (.int k' b)) : Runs P l ⟨dst, .call { callee := .builtin .min, args := #[x, y], argTypes := ts }, ty, pos, aft, gd⟩ w (.int k (if b < a then b else a)) w := fun ρ hρ => by
  simp [execOp, resolve, invoke, builtin, hρ _ _ hx, hρ _ _ hy, run_min_int2]
end

/-! ### A row turned round -/
def TurnR {α : Type} (xs : List α) (i : Nat) (zs : List α) : Prop := zs.length = xs.length ∧ ∀ q, q < xs.length → zs[q]? = if q < i ∨ xs.length ≤ q + i then xs[xs.length - 1 - q]? else xs[q]?
theorem turn_zero {α : Type} (xs : List α) : TurnR xs 0 xs := ⟨rfl, fun q hq => by rw [if_neg (by omega)]⟩
theorem turn_step {α : Type} {xs zs : List α} {i j : Nat} {a b : α} (h : TurnR xs i zs) (hj : i + j + 1 = xs.length) (hij : i < j) (ha : zs[j]? = some a) (hb : zs[i]? = some b) : TurnR xs (i + 1) ((zs.set i a).set j b) := by
  refine ⟨by simp [h.1], fun q hq => ?_⟩
  have h1 := h.2 i (by omega)
  have h2 := h.2 j (by omega)
  rw [if_neg (by omega)] at h1 h2
  rw [List.getElem?_set, List.getElem?_set]
  simp only [List.length_set, h.1]
  by_cases e1 : j = q
  · subst e1
    rw [if_pos rfl, if_pos (by omega), if_pos (by omega), show xs.length - 1 - j = i by omega, ← h1, hb]
  · rw [if_neg e1]
    by_cases e2 : i = q
    · subst e2
      rw [if_pos rfl, if_pos (by omega), if_pos (by omega), show xs.length - 1 - i = j by omega, ← h2, ha]
    · rw [if_neg e2, h.2 q hq]
      by_cases e3 : q < i ∨ xs.length ≤ q + i
      · rw [if_pos e3, if_pos (by omega)]
      · rw [if_neg e3, if_neg (by omega)]
theorem turn_end {α : Type} {xs zs : List α} {i : Nat} {j : Int} (h : TurnR xs i zs) (hj : (i : Int) + j + 1 = xs.length) (hij : ¬ (i : Int) < j) : zs = xs.reverse := by
  refine List.ext_getElem? fun q => ?_
  rcases Nat.lt_or_ge q xs.length with hq | hq
  · rw [h.2 q hq, List.getElem?_reverse hq]
    split
    · rfl
    · rw [show xs.length - 1 - q = q by omega]
  · rw [List.getElem?_eq_none (by have := h.1; omega), List.getElem?_eq_none (by simpa using hq)]

/-! ### Reversed trees -/
def invL (x : Int) : Int := if 0 ≤ x ∧ x ≤ 5 then ixor x 1 else x
def revK (t : Token) : Token := if t.kind = 3 then { t with letter := invL t.letter } else t
def revT : Tr → Tr
  | .l0 t => .l0 (revK t)
  | .l1 t a => .l1 t (revT a)
  | .l2 t a b => if t.kind = 4 then .l2 t (revT b) (revT a) else .l2 t (revT a) (revT b)
theorem revT_sz : ∀ t : Tr, (revT t).sz = t.sz
  | .l0 _ => rfl
  | .l1 _ a => by simp [revT, Tr.sz, revT_sz a]
  | .l2 t a b => by
    unfold revT
    split <;> simp [Tr.sz, revT_sz a, revT_sz b, Nat.add_comm]
theorem revT_l2a {t : Token} {a b : Tr} (h : t.kind = 4) : (revT (.l2 t a b)).flat = (revT b).flat ++ (revT a).flat ++ [t] := by simp [revT, h, Tr.flat]
theorem revT_l2b {t : Token} {a b : Tr} (h : ¬ t.kind = 4) : (revT (.l2 t a b)).flat = (revT a).flat ++ (revT b).flat ++ [t] := by simp [revT, h, Tr.flat]
theorem revT_0y {t : Token} (h : t.kind = 3) : [⟨t.kind, invL t.letter, t.low, t.high⟩] = (revT (.l0 t)).flat := by simp [revT, revK, h, Tr.flat]
theorem revT_0n {t : Token} (h : ¬ t.kind = 3) : [t] = (revT (.l0 t)).flat := by simp [revT, revK, h, Tr.flat]
theorem revT_l1 (t : Token) (a : Tr) : (revT (.l1 t a)).flat = (revT a).flat ++ [t] := by simp [revT, Tr.flat]
/-- Pointers to trees, of which a block of one's own and a row of one's own are no part. -/
def KdN (w : World) (L bo : Nat) (v : Value) (ps : List Addr) (ts : List Tr) : Prop := KdF w (fun b => L ≤ b ∧ b < w.heap.size ∧ b ≠ bo ∧ b ∉ bl v) ps ts
theorem KdN.nil (w : World) (L bo : Nat) (v : Value) : KdN w L bo v [] [] := ⟨rfl, fun _ _ _ h => by simp at h⟩
theorem KdN.grow {w0 w1 w2 : World} {L bo a b : Nat} {v v2 : Value} {ps : List Addr} {ts : List Tr} {q : Addr} {t : Tr} (h : KdN w0 L bo v ps ts) (hL : L ≤ w0.heap.size) (hv : ∀ g ∈ bl v, g < w0.heap.size) (hbo : bo < w0.heap.size) (c1 : Ch [] w0 w1)
    (hq : TrAt w1 a b q t) (ha : w0.heap.size ≤ a) (hb : b ≤ w1.heap.size) (c2 : Ch (bl v) w1 w2) (b2 : bl v2 = bl v ∨ bl v2 = [w1.heap.size]) : KdN w2 L bo v2 (ps ++ [q]) (ts ++ [t]) := by
  have h1 : KdF w1 (fun b => L ≤ b ∧ b < w1.heap.size ∧ b ≠ bo ∧ b ∉ bl v) ps ts := (KdF.ch h c1 (by simp)).mono fun i hi => ⟨hi.1, Nat.lt_of_lt_of_le hi.2.1 c1.size, hi.2.2⟩
  have h2 := h1.snoc (t := t) (p := q) (hq.mono fun i hi => ⟨by omega, by omega, by omega, fun hm => by have := hv i hm; omega⟩)
  have h3 := h2.ch c2 fun i hi hm => hi.2.2.2 hm
  refine h3.mono fun i hi => ⟨hi.1, Nat.lt_of_lt_of_le hi.2.1 c2.size, hi.2.2.1, fun hm => ?_⟩
  rcases b2 with e | e
  · rw [e] at hm; exact hi.2.2.2 hm
  · rw [e] at hm; have := List.mem_singleton.1 hm; omega
theorem KdN.bo {w0 w1 : World} {L bo : Nat} {v : Value} {ps : List Addr} {ts : List Tr} (h : KdN w0 L bo v ps ts) (c : Ch [bo] w0 w1) : KdN w1 L bo v ps ts :=
  (KdF.ch h c fun i hi hm => hi.2.2.1 (List.mem_singleton.1 hm)).mono fun i hi => ⟨hi.1, Nat.lt_of_lt_of_le hi.2.1 c.size, hi.2.2⟩
theorem KdN.row {w0 w1 : World} {L bo : Nat} {v : Value} {ps : List Addr} {ts : List Tr} (h : KdN w0 L bo v ps ts) (c : Ch (bl v) w0 w1) : KdN w1 L bo v ps ts :=
  (KdF.ch h c fun i hi hm => hi.2.2.2 hm).mono fun i hi => ⟨hi.1, Nat.lt_of_lt_of_le hi.2.1 c.size, hi.2.2⟩
theorem KdF.rev {w : World} {F : Nat → Prop} {ps : List Addr} {ts : List Tr} (h : KdF w F ps ts) : KdF w F ps.reverse ts.reverse := by
  refine ⟨by simp [h.1], fun i q t a b => ?_⟩
  have hi := (List.getElem?_eq_some_iff.1 a).1
  rw [List.length_reverse] at hi
  rw [List.getElem?_reverse hi] at a
  rw [List.getElem?_reverse (by rw [← h.1]; exact hi), ← h.1] at b
  exact h.2 _ q t a b
theorem KdN.done {w : World} {L bo e ty B : Nat} {v : Value} {ps : List Addr} {ts : List Tr} {k : Token} (h : KdN w L bo v ps ts) (hm : Blk w bo ty [.int .i64 k.kind, .int .i64 k.letter, .int .i64 k.low, .int .i64 k.high, v]) (hL : L ≤ bo)
    (hv : Ol acs e 1 w v ps) (hl : ∀ g ∈ bl v, L ≤ g) (h2 : ps.length ≤ 2) (hB : w.heap.size ≤ B) : TrAt w L B ⟨bo, 0, none⟩ (mkTr k ts) := by
  refine TrF.mk (v := v) (ps := ps) ⟨hL, Nat.lt_of_lt_of_le hm.lt hB⟩ (fun j x hx => ?_) hv.ls (fun A n c hA _ => ?_) (KdF.mono h fun i hi => ⟨hi.1, Nat.lt_of_lt_of_le hi.2.1 hB⟩) h2
  · rw [add_lit, hm.cell]; simpa [Token.cs] using hx
  · subst hA
    have hg : A.block ∈ bl (.slice (some A) n c) := by simp [bl, Value.ownBlock]
    exact ⟨hl _ hg, Nat.lt_of_lt_of_le (hv.lt _ hg) hB⟩
theorem rev_mk {t : Tr} {k : Token} (hk : k = revK t.tok) (ho : Okd t) : mkTr k (if t.tok.kind = 4 then (t.kids.map revT).reverse else t.kids.map revT) = revT t := by
  subst hk
  cases t with
  | l0 q => simp [Tr.kids, Tr.tok, mkTr, revT]
  | l1 q a =>
    have h1 : ¬ q.kind = 4 ∧ ¬ q.kind = 3 := by
      have := ho.1; unfold arT at this; repeat' split at this
      all_goals omega
    simp [Tr.kids, Tr.tok, mkTr, revT, revK, h1.1, h1.2]
  | l2 q a b =>
    have h1 : ¬ q.kind = 3 := by
      have := ho.1; unfold arT at this; repeat' split at this
      all_goals omega
    by_cases h4 : q.kind = 4
    · simp [Tr.kids, Tr.tok, mkTr, revT, revK, h4]
    · simp [Tr.kids, Tr.tok, mkTr, revT, revK, h1, h4]
theorem rev_done {w : World} {L bo e ty B : Nat} {v : Value} {ps : List Addr} {ts : List Tr} {k : Token} {t : Tr} (h : KdN w L bo v ps ts) (hm : Blk w bo ty [.int .i64 k.kind, .int .i64 k.letter, .int .i64 k.low, .int .i64 k.high, v]) (hL : L ≤ bo)
    (hv : Ol acs e 1 w v ps) (hl : ∀ g ∈ bl v, L ≤ g) (hB : w.heap.size ≤ B) (ho : Okd t) (hk : k = revK t.tok) (hts : ts = if t.tok.kind = 4 then (t.kids.map revT).reverse else t.kids.map revT) : TrAt w L B ⟨bo, 0, none⟩ (revT t) := by
  have h2 : ps.length ≤ 2 := by
    have h3 := t.kids_le
    have h4 := h.1
    rw [h4, hts]
    split <;> simpa using h3
  have h5 := h.done hm hL hv hl h2 hB
  rw [hts, rev_mk hk ho] at h5
  exact h5
def revE (e : List Token) : List Token × Bool := match treeL e with | some t => ((revT t).flat, true) | none => ([], false)
theorem revE_y {e : List Token} {t : Tr} (h : treeL e = some t) : revE e = ((revT t).flat, true) := by unfold revE; rw [h]
theorem revE_n {e : List Token} (h : treeL e = none) : revE e = ([], false) := by unfold revE; rw [h]
theorem revE_len (e : List Token) : (revE e).1.length ≤ e.length := by
  unfold revE
  cases h : treeL e with
  | none => simp
  | some t => simp only [Tr.flat_len, revT_sz]; rw [treeL_sz h]; exact Nat.le_refl _

/-! ### Derived trees -/
def derT (x : Int) : Tr → List Token
  | .l0 t => if t.kind = 3 ∧ t.letter = x then [⟨2, 0, 0, 0⟩] else [⟨1, 0, 0, 0⟩]
  | .l1 t a => if t.kind = 6 then catE (derT x a) (a.flat ++ [t]) else catE (derT x a) (repE a.flat (if t.low - 1 > 0 then t.low - 1 else 0) (t.high - 1))
  | .l2 t a b => if t.kind = 4 then (if nullT a then uniE (catE (derT x a) b.flat) (derT x b) else catE (derT x a) b.flat) else uniE (derT x a) (derT x b)
theorem sq_le {s a b : Nat} (h : s = a + b + 1) : a * a + b * b + b + 2 ≤ s * s + (if a = 0 then 2 else 0) := by
  subst h
  have : (a + b + 1) * (a + b + 1) = a * a + b * b + 2 * (a * b) + 2 * a + 2 * b + 1 := by
    simp only [Nat.add_mul, Nat.mul_add, Nat.mul_comm b a]; omega
  rw [this]; split <;> omega
theorem derT_len (x : Int) : ∀ t : Tr, (derT x t).length ≤ t.sz * t.sz
  | .l0 t => by unfold derT; split <;> simp [Tr.sz]
  | .l1 t a => by
    have ih := derT_len x a
    have h1 := a.sz_pos
    have h2 := sq_le (s := a.sz + 1) (a := a.sz) (b := 0) (by omega)
    rw [if_neg (by omega)] at h2
    have h4 : (a.sz + 1) * (a.sz + 1) = a.sz * a.sz + 2 * a.sz + 1 := by simp only [Nat.add_mul, Nat.mul_add]; omega
    unfold derT; simp only [Tr.sz]; split
    · have h3 := catE_len (derT x a) (a.flat ++ [t])
      rw [List.length_append, List.length_singleton, Tr.flat_len] at h3; omega
    · have h3 := catE_len (derT x a) (repE a.flat (if t.low - 1 > 0 then t.low - 1 else 0) (t.high - 1))
      have h5 := repE_len a.flat (if t.low - 1 > 0 then t.low - 1 else 0) (t.high - 1)
      rw [Tr.flat_len] at h5; omega
  | .l2 t a b => by
    have ha := derT_len x a
    have hb := derT_len x b
    have h1 := a.sz_pos
    have h2 := sq_le (s := a.sz + b.sz + 1) (a := a.sz) (b := b.sz) rfl
    rw [if_neg (by omega)] at h2
    unfold derT; simp only [Tr.sz]; split
    · have h3 := catE_len (derT x a) b.flat
      rw [Tr.flat_len] at h3
      split
      · have h4 := uniE_len (catE (derT x a) b.flat) (derT x b); omega
      · omega
    · have h4 := uniE_len (derT x a) (derT x b); omega
end Go.KLib
