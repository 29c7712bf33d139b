/- The library of this proof: a logic of the code's forms, memory, data, and plain laws. It speaks of no program. -/
import Derived.WalkKit
import Derived.OrdersHeld
import Derived.WalkLawsBesides
import Derived.WalkSpells
import Derived.ProofKit
import Derived.Deep.Slices
import Derived.Deep.Fields
import Derived.Lib.SmallJoins
import Derived.Laws.Append
import Derived.Laws.CopyRow
import Derived.Laws.AppendOwn
import Derived.Laws.Small
import Derived.Shelf.Sort.Plain
import Derived.Shelf.Slices.CompactI
import Derived.Shelf.Slices.Delete
import Derived.Ground.NamesProg
import Derived.Ground.Names2Prog
import Derived.Shelf.Lay
import Derived.Shelf.Slices.In.SortNone
import Derived.MapKept
import Derived.Ground.SlsfProg
import Derived.Shelf.SlSortCmp.NoneTotal
import Derived.Laws.BytesString
import Derived.Laws.Strings2
import Derived.Laws.Concat
import Derived.Test.YtmjldcgddhnmpaaLibA

/- Reversed, derived and expanded trees; a row turned round. -/
namespace Go.KLib

section
variable {P : Program} {w : World} {l : KL} {dst : Option Tmp} {ty : TypeId} {pos : String} {aft : Array Go.Edge} {gd : Option (Nat × Bool)} {x y : Operand} {ts : Array TypeId} {k k' : IntKind} {a b : Int}
theorem r_max (hx : ev l x = some (.int k a)) (hy : ev l y = some (.int k' b)) : Runs P l ⟨dst, .call { callee := .builtin .max, args := #[x, y], argTypes := ts }, ty, pos, aft, gd⟩ w (.int k (if b > a then b else a)) w := fun ρ hρ => by
  simp [execOp, resolve, invoke, builtin, hρ _ _ hx, hρ _ _ hy, run_max_int2]
theorem r_min (hx : ev l x = some (.int k a)) (hy : ev l y = some (.int k' b)) : Runs P l ⟨dst, .call { callee := .builtin .min, args := #[x, y], argTypes := ts }, ty, pos, aft, gd⟩ w (.int k (if b < a then b else a)) w := fun ρ hρ => by
  simp [execOp, resolve, invoke, builtin, hρ _ _ hx, hρ _ _ hy, run_min_int2]
end

/-! ### A row turned round -/
def TurnR {α : Type} (xs : List α) (i : Nat) (zs : List α) : Prop := zs.length = xs.length ∧ ∀ q, q < xs.length → zs[q]? = if q < i ∨ xs.length ≤ q + i then xs[xs.length - 1 - q]? else xs[q]?
theorem turn_zero {α : Type} (xs : List α) : TurnR xs 0 xs := ⟨rfl, fun q hq => by rw [if_neg (by omega)]⟩
theorem turn_step {α : Type} {xs zs : List α} {i j : Nat} {a b : α} (h : TurnR xs i zs) (hj : i + j + 1 = xs.length) (hij : i < j) (ha : zs[j]? = some a) (hb : zs[i]? = some b) : TurnR xs (i + 1) ((zs.set i a).set j b) := by
  refine ⟨by simp [h.1], fun q hq => ?_⟩
  have h1 := h.2 i (by omega)
  have h2 := h.2 j (by omega)
  rw [if_neg (by omega)] at h1 h2
  rw [List.getElem?_set, List.getElem?_set]
  simp only [List.length_set, h.1]
  by_cases e1 : j = q
  · subst e1
    rw [if_pos rfl, if_pos (by omega), if_pos (by omega), show xs.length - 1 - j = i by omega, ← h1, hb]
  · rw [if_neg e1]
    by_cases e2 : i = q
    · subst e2
      rw [if_pos rfl, if_pos (by omega), if_pos (by omega), show xs.length - 1 - i = j by omega, ← h2, ha]
    · rw [if_neg e2, h.2 q hq]
      by_cases e3 : q < i ∨ xs.length ≤ q + i
      · rw [if_pos e3, if_pos (by omega)]
      · rw [if_neg e3, if_neg (by omega)]
theorem turn_end {α : Type} {xs zs : List α} {i : Nat} {j : Int} (h : TurnR xs i zs) (hj : (i : Int) + j + 1 = xs.length) (hij : ¬ (i : Int) < j) : zs = xs.reverse := by
  refine List.ext_getElem? fun q => ?_
  rcases Nat.lt_or_ge q xs.length with hq | hq
  · rw [h.2 q hq, List.getElem?_reverse hq]
    split
    · rfl
    · rw [show xs.length - 1 - q = q by omega]
  · rw [List.getElem?_eq_none (by have := h.1; omega), List.getElem?_eq_none (by simpa using hq)]

/-! ### Reversed trees -/
def invL (x : Int) : Int := if 0 ≤ x ∧ x ≤ 5 then ixor x 1 else x
def revK (t : Token) : Token := if t.kind = 3 then { t with letter := invL t.letter } else t
def revT : Tr → Tr
  | .l0 t => .l0 (revK t)
  | .l1 t a => .l1 t (revT a)
  | .l2 t a b => if t.kind = 4 then .l2 t (revT b) (revT a) else .l2 t (revT a) (revT b)
theorem revT_sz : ∀ t : Tr, (revT t).sz = t.sz
  | .l0 _ => rfl
  | .l1 _ a => by simp [revT, Tr.sz, revT_sz a]
  | .l2 t a b => by
    unfold revT
    split <;> simp [Tr.sz, revT_sz a, revT_sz b, Nat.add_comm]
theorem revT_l2a {t : Token} {a b : Tr} (h : t.kind = 4) : (revT (.l2 t a b)).flat = (revT b).flat ++ (revT a).flat ++ [t] := by simp [revT, h, Tr.flat]
theorem revT_l2b {t : Token} {a b : Tr} (h : ¬ t.kind = 4) : (revT (.l2 t a b)).flat = (revT a).flat ++ (revT b).flat ++ [t] := by simp [revT, h, Tr.flat]
theorem revT_0y {t : Token} (h : t.kind = 3) : [⟨t.kind, invL t.letter, t.low, t.high⟩] = (revT (.l0 t)).flat := by simp [revT, revK, h, Tr.flat]
theorem revT_0n {t : Token} (h : ¬ t.kind = 3) : [t] = (revT (.l0 t)).flat := by simp [revT, revK, h, Tr.flat]
theorem revT_l1 (t : Token) (a : Tr) : (revT (.l1 t a)).flat = (revT a).flat ++ [t] := by simp [revT, Tr.flat]
/-- Pointers to trees, of which a block of one's own and a row of one's own are no part. -/
def KdN (w : World) (L bo : Nat) (v : Value) (ps : List Addr) (ts : List Tr) : Prop := KdF w (fun b => L ≤ b ∧ b < w.heap.size ∧ b ≠ bo ∧ b ∉ bl v) ps ts
theorem KdN.nil (w : World) (L bo : Nat) (v : Value) : KdN w L bo v [] [] := ⟨rfl, fun _ _ _ h => by simp at h⟩
theorem KdN.grow {w0 w1 w2 : World} {L bo a b : Nat} {v v2 : Value} {ps : List Addr} {ts : List Tr} {q : Addr} {t : Tr} (h : KdN w0 L bo v ps ts) (hL : L ≤ w0.heap.size) (hv : ∀ g ∈ bl v, g < w0.heap.size) (hbo : bo < w0.heap.size) (c1 : Ch [] w0 w1)
    (hq : TrAt w1 a b q t) (ha : w0.heap.size ≤ a) (hb : b ≤ w1.heap.size) (c2 : Ch (bl v) w1 w2) (b2 : bl v2 = bl v ∨ bl v2 = [w1.heap.size]) : KdN w2 L bo v2 (ps ++ [q]) (ts ++ [t]) := by
  have h1 : KdF w1 (fun b => L ≤ b ∧ b < w1.heap.size ∧ b ≠ bo ∧ b ∉ bl v) ps ts := (KdF.ch h c1 (by simp)).mono fun i hi => ⟨hi.1, Nat.lt_of_lt_of_le hi.2.1 c1.size, hi.2.2⟩
  have h2 := h1.snoc (t := t) (p := q) (hq.mono fun i hi => ⟨by omega, by omega, by omega, fun hm => by have := hv i hm; omega⟩)
  have h3 := h2.ch c2 fun i hi hm => hi.2.2.2 hm
  refine h3.mono fun i hi => ⟨hi.1, Nat.lt_of_lt_of_le hi.2.1 c2.size, hi.2.2.1, fun hm => ?_⟩
  rcases b2 with e | e
  · rw [e] at hm; exact hi.2.2.2 hm
  · rw [e] at hm; have := List.mem_singleton.1 hm; omega
theorem KdN.bo {w0 w1 : World} {L bo : Nat} {v : Value} {ps : List Addr} {ts : List Tr} (h : KdN w0 L bo v ps ts) (c : Ch [bo] w0 w1) : KdN w1 L bo v ps ts :=
  (KdF.ch h c fun i hi hm => hi.2.2.1 (List.mem_singleton.1 hm)).mono fun i hi => ⟨hi.1, Nat.lt_of_lt_of_le hi.2.1 c.size, hi.2.2⟩
theorem KdN.row {w0 w1 : World} {L bo : Nat} {v : Value} {ps : List Addr} {ts : List Tr} (h : KdN w0 L bo v ps ts) (c : Ch (bl v) w0 w1) : KdN w1 L bo v ps ts :=
  (KdF.ch h c fun i hi hm => hi.2.2.2 hm).mono fun i hi => ⟨hi.1, Nat.lt_of_lt_of_le hi.2.1 c.size, hi.2.2⟩
theorem KdF.rev {w : World} {F : Nat → Prop} {ps : List Addr} {ts : List Tr} (h : KdF w F ps ts) : KdF w F ps.reverse ts.reverse := by
  refine ⟨by simp [h.1], fun i q t a b => ?_⟩
  have hi := (List.getElem?_eq_some_iff.1 a).1
  rw [List.length_reverse] at hi
  rw [List.getElem?_reverse hi] at a
  rw [List.getElem?_reverse (by rw [← h.1]; exact hi), ← h.1] at b
  exact h.2 _ q t a b
theorem KdN.done {w : World} {L bo e ty B : Nat} {v : Value} {ps : List Addr} {ts : List Tr} {k : Token} (h : KdN w L bo v ps ts) (hm : Blk w bo ty [.int .i64 k.kind, .int .i64 k.letter, .int .i64 k.low, .int .i64 k.high, v]) (hL : L ≤ bo)
    (hv : Ol acs e 1 w v ps) (hl : ∀ g ∈ bl v, L ≤ g) (h2 : ps.length ≤ 2) (hB : w.heap.size ≤ B) : TrAt w L B ⟨bo, 0, none⟩ (mkTr k ts) := by
  refine TrF.mk (v := v) (ps := ps) ⟨hL, Nat.lt_of_lt_of_le hm.lt hB⟩ (fun j x hx => ?_) hv.ls (fun A n c hA _ => ?_) (KdF.mono h fun i hi => ⟨hi.1, Nat.lt_of_lt_of_le hi.2.1 hB⟩) h2
  · rw [add_lit, hm.cell]; simpa [Token.cs] using hx
  · subst hA
    have hg : A.block ∈ bl (.slice (some A) n c) := by simp [bl, Value.ownBlock]
    exact ⟨hl _ hg, Nat.lt_of_lt_of_le (hv.lt _ hg) hB⟩
theorem rev_mk {t : Tr} {k : Token} (hk : k = revK t.tok) (ho : Okd t) : mkTr k (if t.tok.kind = 4 then (t.kids.map revT).reverse else t.kids.map revT) = revT t := by
  subst hk
  cases t with
  | l0 q => simp [Tr.kids, Tr.tok, mkTr, revT]
  | l1 q a =>
    have h1 : ¬ q.kind = 4 ∧ ¬ q.kind = 3 := by
      have := ho.1; unfold arT at this; repeat' split at this
      all_goals omega
    simp [Tr.kids, Tr.tok, mkTr, revT, revK, h1.1, h1.2]
  | l2 q a b =>
    have h1 : ¬ q.kind = 3 := by
      have := ho.1; unfold arT at this; repeat' split at this
      all_goals omega
    by_cases h4 : q.kind = 4
    · simp [Tr.kids, Tr.tok, mkTr, revT, revK, h4]
    · simp [Tr.kids, Tr.tok, mkTr, revT, revK, h1, h4]
theorem rev_done {w : World} {L bo e ty B : Nat} {v : Value} {ps : List Addr} {ts : List Tr} {k : Token} {t : Tr} (h : KdN w L bo v ps ts) (hm : Blk w bo ty [.int .i64 k.kind, .int .i64 k.letter, .int .i64 k.low, .int .i64 k.high, v]) (hL : L ≤ bo)
    (hv : Ol acs e 1 w v ps) (hl : ∀ g ∈ bl v, L ≤ g) (hB : w.heap.size ≤ B) (ho : Okd t) (hk : k = revK t.tok) (hts : ts = if t.tok.kind = 4 then (t.kids.map revT).reverse else t.kids.map revT) : TrAt w L B ⟨bo, 0, none⟩ (revT t) := by
  have h2 : ps.length ≤ 2 := by
    have h3 := t.kids_le
    have h4 := h.1
    rw [h4, hts]
    split <;> simpa using h3
  have h5 := h.done hm hL hv hl h2 hB
  rw [hts, rev_mk hk ho] at h5
  exact h5
def revE (e : List Token) : List Token × Bool := match treeL e with | some t => ((revT t).flat, true) | none => ([], false)
theorem revE_y {e : List Token} {t : Tr} (h : treeL e = some t) : revE e = ((revT t).flat, true) := by unfold revE; rw [h]
theorem revE_n {e : List Token} (h : treeL e = none) : revE e = ([], false) := by unfold revE; rw [h]
theorem revE_len (e : List Token) : (revE e).1.length ≤ e.length := by
  unfold revE
  cases h : treeL e with
  | none => simp
  | some t => simp only [Tr.flat_len, revT_sz]; rw [treeL_sz h]; exact Nat.le_refl _

/-! ### Derived trees -/
def derT (x : Int) : Tr → List Token
  | .l0 t => if t.kind = 3 ∧ t.letter = x then [⟨2, 0, 0, 0⟩] else [⟨1, 0, 0, 0⟩]
  | .l1 t a => if t.kind = 6 then catE (derT x a) (a.flat ++ [t]) else catE (derT x a) (repE a.flat (if t.low - 1 > 0 then t.low - 1 else 0) (t.high - 1))
  | .l2 t a b => if t.kind = 4 then (if nullT a then uniE (catE (derT x a) b.flat) (derT x b) else catE (derT x a) b.flat) else uniE (derT x a) (derT x b)
theorem sq_le {s a b : Nat} (h : s = a + b + 1) : a * a + b * b + b + 2 ≤ s * s + (if a = 0 then 2 else 0) := by
  subst h
  have : (a + b + 1) * (a + b + 1) = a * a + b * b + 2 * (a * b) + 2 * a + 2 * b + 1 := by
    simp only [Nat.add_mul, Nat.mul_add, Nat.mul_comm b a]; omega
  rw [this]; split <;> omega
theorem derT_len (x : Int) : ∀ t : Tr, (derT x t).length ≤ t.sz * t.sz
  | .l0 t => by unfold derT; split <;> simp [Tr.sz]
  | .l1 t a => by
    have ih := derT_len x a
    have h1 := a.sz_pos
    have h2 := sq_le (s := a.sz + 1) (a := a.sz) (b := 0) (by omega)
    rw [if_neg (by omega)] at h2
    have h4 : (a.sz + 1) * (a.sz + 1) = a.sz * a.sz + 2 * a.sz + 1 := by simp only [Nat.add_mul, Nat.mul_add]; omega
    unfold derT; simp only [Tr.sz]; split
    · have h3 := catE_len (derT x a) (a.flat ++ [t])
      rw [List.length_append, List.length_singleton, Tr.flat_len] at h3; omega
    · have h3 := catE_len (derT x a) (repE a.flat (if t.low - 1 > 0 then t.low - 1 else 0) (t.high - 1))
      have h5 := repE_len a.flat (if t.low - 1 > 0 then t.low - 1 else 0) (t.high - 1)
      rw [Tr.flat_len] at h5; omega
  | .l2 t a b => by
    have ha := derT_len x a
    have hb := derT_len x b
    have h1 := a.sz_pos
    have h2 := sq_le (s := a.sz + b.sz + 1) (a := a.sz) (b := b.sz) rfl
    rw [if_neg (by omega)] at h2
    unfold derT; simp only [Tr.sz]; split
    · have h3 := catE_len (derT x a) b.flat
      rw [Tr.flat_len] at h3
      split
      · have h4 := uniE_len (catE (derT x a) b.flat) (derT x b); omega
      · omega
    · have h4 := uniE_len (derT x a) (derT x b); omega
end Go.KLib

/- Derivatives of expressions, expanded expressions. -/
namespace Go.KLib

theorem Okd.kk2 {x : Tr} (h : Okd x) (h2 : x.kids.length = 2) : ∃ a b, x.kids[0]? = some a ∧ x.kids[1]? = some b ∧ Okd a ∧ Okd b ∧ x.sz = a.sz + b.sz + 1 ∧ a.flat.length = a.sz ∧ b.flat.length = b.sz := by
  obtain ⟨k, a, b, rfl⟩ := Tr.k2 h2
  exact ⟨a, b, rfl, rfl, h.2.1, h.2.2, rfl, a.flat_len, b.flat_len⟩
theorem Okd.kk1 {x : Tr} (h : Okd x) (h2 : x.kids.length = 1) : ∃ a, x.kids[0]? = some a ∧ Okd a ∧ x.sz = a.sz + 1 ∧ a.flat.length = a.sz := by
  obtain ⟨k, a, rfl⟩ := Tr.k1 h2
  exact ⟨a, rfl, h.2, rfl, a.flat_len⟩
theorem derT_le (x : Int) (t : Tr) (h : t.sz ≤ 400) : (derT x t).length ≤ 160000 :=
  Nat.le_trans (derT_len x t) (Nat.mul_le_mul h h)
section
variable {q : Int} {x a b : Tr}
theorem der4t (h : Okd x) (hk : x.tok.kind = 4) (h0 : x.kids[0]? = some a) (h1 : x.kids[1]? = some b) (hn : nullT a = true) : uniE (catE (derT q a) b.flat) (derT q b) = derT q x := by
  rw [h.shape2 (by omega) h0 h1]; simp [derT, hk, hn]
theorem der4f (h : Okd x) (hk : x.tok.kind = 4) (h0 : x.kids[0]? = some a) (h1 : x.kids[1]? = some b) (hn : nullT a = false) : catE (derT q a) b.flat = derT q x := by
  rw [h.shape2 (by omega) h0 h1]; simp [derT, hk, hn]
theorem der5 (h : Okd x) (hk : x.tok.kind = 5) (h0 : x.kids[0]? = some a) (h1 : x.kids[1]? = some b) : uniE (derT q a) (derT q b) = derT q x := by
  rw [h.shape2 (by omega) h0 h1]; simp [derT, hk]
theorem der6 (h : Okd x) (hk : x.tok.kind = 6) (h0 : x.kids[0]? = some a) : catE (derT q a) x.flat = derT q x := by
  rw [h.shape1 (by omega) h0]; simp [derT, hk, Tr.flat]
theorem der7 (h : Okd x) (hk : x.tok.kind = 7) (h0 : x.kids[0]? = some a) : catE (derT q a) (repE a.flat (if x.tok.low - 1 > 0 then x.tok.low - 1 else 0) (x.tok.high - 1)) = derT q x := by
  rw [h.shape1 (by omega) h0]
  show catE (derT q a) (repE a.flat (if x.tok.low - 1 > 0 then x.tok.low - 1 else 0) (x.tok.high - 1)) = _
  have h6 : ¬ x.tok.kind = 6 := by omega
  simp only [derT, if_neg h6]
theorem der3 (h : Okd x) (hk : x.tok.kind = 3) (hl : x.tok.letter = q) : [⟨2, 0, 0, 0⟩] = derT q x := by
  rw [h.shape0 (by omega)]; simp [derT, hk, hl]
theorem der0 (h : Okd x) (hk : ¬ (x.tok.kind = 4 ∨ x.tok.kind = 5 ∨ x.tok.kind = 6 ∨ x.tok.kind = 7)) (hl : ¬ (x.tok.kind = 3 ∧ x.tok.letter = q)) : [⟨1, 0, 0, 0⟩] = derT q x := by
  rw [h.shape0 hk]; simp only [derT]; rw [if_neg hl]
theorem Okd.r7 (h : Okd x) (hk : x.tok.kind = 7) : (1 ≤ x.tok.high ∧ x.tok.high ≤ 3) ∧ 0 ≤ x.tok.low ∧ x.tok.low ≤ x.tok.high := by
  have h1 : arT x.tok = 1 := by rw [h.ar, h.len.2.1 (.inr hk)]; rfl
  unfold arT at h1
  rw [if_neg (by omega), if_neg (by omega), if_neg (by omega), if_neg (by omega), if_pos hk] at h1
  split at h1
  · rename_i h2; exact h2.2
  · cases h1
end
def derE (e : List Token) (x : Int) : List Token × Bool :=
  match treeL e with
  | some t => if e.length ≤ 400 ∧ (0 ≤ x ∧ x ≤ 8) ∧ (derT x t).length ≤ 400 then (derT x t, true) else ([], false)
  | none => ([], false)
section
variable {e : List Token} {x : Int} {t : Tr}
theorem derE_y (h : treeL e = some t) (h1 : e.length ≤ 400) (h2 : 0 ≤ x ∧ x ≤ 8) (h3 : (derT x t).length ≤ 400) : derE e x = (derT x t, true) := by unfold derE; rw [h]; simp [h1, h2, h3]
theorem derE_n1 (h : treeL e = none) : derE e x = ([], false) := by unfold derE; rw [h]
theorem derE_n2 (h : ¬ (e.length ≤ 400 ∧ (0 ≤ x ∧ x ≤ 8))) : derE e x = ([], false) := by
  unfold derE
  cases treeL e with
  | none => rfl
  | some t => simp only; rw [if_neg (fun c => h ⟨c.1, c.2.1⟩)]
theorem derE_n3 (h : treeL e = some t) (h3 : ¬ (derT x t).length ≤ 400) : derE e x = ([], false) := by
  unfold derE; rw [h]; simp only; rw [if_neg (fun c => h3 c.2.2)]
theorem derE_len (e : List Token) (x : Int) : (derE e x).1.length ≤ 400 := by
  unfold derE
  cases treeL e with
  | none => simp
  | some t =>
    simp only
    split
    · rename_i h; exact h.2.2
    · simp
end
/-- Derivatives by the letters of a word. -/
def derW (e : List Token) : List Int → Option (List Token)
  | [] => some e
  | x :: w => if (derE e x).2 = true then derW (derE e x).1 w else none
theorem derW_snoc : ∀ (w : List Int) (e : List Token) (x : Int), derW e (w ++ [x]) = (derW e w).bind fun r => if (derE r x).2 = true then some (derE r x).1 else none
  | [], e, x => rfl
  | y :: w, e, x => by
    simp only [List.cons_append, derW]
    split
    · exact derW_snoc w _ x
    · rfl
theorem derW_step {e r : List Token} {w : List Int} {k : Nat} {y : Int} (h : derW e (w.take k) = some r) (hy : w[k]? = some y) : derW e (w.take (k + 1)) = if (derE r y).2 = true then some (derE r y).1 else none := by
  rw [take_snoc hy, derW_snoc, h]; rfl
theorem derW_none {e r : List Token} {w : List Int} {k : Nat} {y : Int} (h : derW e (w.take k) = some r) (hy : w[k]? = some y) (hn : (derE r y).2 = false) : derW e w = none := by
  have h1 := derW_step h hy
  rw [if_neg (by rw [hn]; simp)] at h1
  have : ∀ (a b : List Int) (e : List Token), derW e a = none → derW e (a ++ b) = none := by
    intro a
    induction a with
    | nil => intro b e h; simp [derW] at h
    | cons c a ih =>
      intro b e h
      simp only [List.cons_append, derW] at h ⊢
      split
      · rename_i hc; rw [if_pos hc] at h; exact ih b _ h
      · rfl
  rw [← List.take_append_drop (k + 1) w]
  exact this _ _ _ h1
def dwE (e : List Token) (w : List Int) : List Token × Bool :=
  if isE e = true ∧ e.length ≤ 400 then (match derW e w with | some r => (r, true) | none => ([], false)) else ([], false)
theorem dwE_n1 {e : List Token} {w : List Int} (h : ¬ (isE e = true ∧ e.length ≤ 400)) : dwE e w = ([], false) := by unfold dwE; rw [if_neg h]
theorem dwE_n2 {e : List Token} {w : List Int} (h : isE e = true) (h1 : e.length ≤ 400) (hn : derW e w = none) : dwE e w = ([], false) := by unfold dwE; rw [if_pos ⟨h, h1⟩, hn]
theorem dwE_y {e r : List Token} {w : List Int} (h : isE e = true) (h1 : e.length ≤ 400) (hn : derW e w = some r) : dwE e w = (r, true) := by unfold dwE; rw [if_pos ⟨h, h1⟩, hn]
theorem derW_end {e r : List Token} {w : List Int} {k : Nat} (h : derW e (w.take k) = some r) (hk : w.length ≤ k) : derW e w = some r := by rwa [List.take_of_length_le hk] at h
theorem dwE_len (e : List Token) (w : List Int) : (dwE e w).1.length ≤ 400 := by
  unfold dwE
  split
  · rename_i h
    have key : ∀ (w : List Int) (e : List Token), e.length ≤ 400 → ∀ r, derW e w = some r → r.length ≤ 400 := by
      intro w
      induction w with
      | nil => intro e he r hr; simp [derW] at hr; subst hr; exact he
      | cons x w ih =>
        intro e he r hr
        simp only [derW] at hr
        split at hr
        · exact ih _ (derE_len e x) r hr
        · cases hr
    cases hr : derW e w with
    | none => simp
    | some r => exact key w e h.2 r hr
  · simp
end Go.KLib

/- Expanded expressions. -/
namespace Go.KLib

/-- The size bound, cut off. -/
def bndT : Tr → Int
  | .l0 _ => 1
  | .l1 t a => if t.kind = 7 then (if (bndT a + 3) * t.high + 1 < 100000 then (bndT a + 3) * t.high + 1 else 100000) else (if bndT a + 1 < 100000 then bndT a + 1 else 100000)
  | .l2 _ a b => if bndT a + bndT b + 1 < 100000 then bndT a + bndT b + 1 else 100000
def timT (x : Tr) : Int → Nat → Tr
  | _, 0 => .l0 ⟨2, 0, 0, 0⟩
  | low, h + 1 => if low > 0 then .l2 ⟨4, 0, 0, 0⟩ x (timT x (if low - 1 > 0 then low - 1 else 0) h) else .l2 ⟨5, 0, 0, 0⟩ (.l2 ⟨4, 0, 0, 0⟩ x (timT x (if low - 1 > 0 then low - 1 else 0) h)) (.l0 ⟨2, 0, 0, 0⟩)
def expT : Tr → Tr
  | .l0 t => .l0 t
  | .l1 t a => if t.kind = 7 then timT (expT a) t.low t.high.toNat else .l1 t (expT a)
  | .l2 t a b => .l2 t (expT a) (expT b)
theorem bndT_rng : ∀ {t : Tr}, Okd t → 1 ≤ bndT t ∧ bndT t ≤ 100000
  | .l0 _, _ => by simp [bndT]
  | .l1 t a, h => by
    have ih := bndT_rng h.2
    unfold bndT
    split
    · rename_i hk
      have r := h.r7 hk
      have r1 : 1 ≤ t.high ∧ t.high ≤ 3 := r.1
      have h1 := Int.mul_le_mul_of_nonneg_left (c := bndT a + 3) r1.1 (by omega)
      rw [Int.mul_one] at h1
      split <;> omega
    · split <;> omega
  | .l2 t a b, h => by
    have ia := bndT_rng h.2.1
    have ib := bndT_rng h.2.2
    unfold bndT
    split <;> omega
theorem timT_sz (x : Tr) : ∀ (low : Int) (h : Nat), (timT x low h).sz ≤ (x.sz + 3) * h + 1
  | _, 0 => by simp [timT, Tr.sz]
  | low, h + 1 => by
    have ih := timT_sz x (if low - 1 > 0 then low - 1 else 0) h
    have e : (x.sz + 3) * (h + 1) = (x.sz + 3) * h + (x.sz + 3) := Nat.mul_succ _ _
    rw [e]
    unfold timT
    split <;> simp only [Tr.sz] <;> omega
theorem timT_le {x : Tr} {n : Int} (low : Int) (hx : x.sz ≤ 5000) (hh : n ≤ 3) : (timT x low n.toNat).sz ≤ 20000 := by
  have h1 := timT_sz x low n.toNat
  have h2 : (x.sz + 3) * n.toNat ≤ (x.sz + 3) * 3 := Nat.mul_le_mul_left _ (by omega)
  omega
theorem expT_sz : ∀ {t : Tr}, Okd t → bndT t ≤ 5000 → ((expT t).sz : Int) ≤ bndT t
  | .l0 _, _, _ => by simp [bndT, expT, Tr.sz]
  | .l1 t a, h, hb => by
    have ih := bndT_rng h.2
    unfold bndT at hb ⊢
    unfold expT
    split
    · rename_i hk
      rw [if_pos hk] at hb
      have r : 1 ≤ t.high ∧ t.high ≤ 3 := (h.r7 hk).1
      have h1 := Int.mul_le_mul_of_nonneg_left (c := bndT a + 3) r.1 (by omega)
      rw [Int.mul_one] at h1
      have hc : (bndT a + 3) * t.high + 1 < 100000 := by
        apply Classical.byContradiction; intro hc; rw [if_neg hc] at hb; omega
      rw [if_pos hc] at hb ⊢
      have ie := expT_sz h.2 (by omega)
      have ht := timT_sz (expT a) t.low t.high.toNat
      have h2 : ((((expT a).sz + 3) * t.high.toNat : Nat) : Int) ≤ (bndT a + 3) * t.high := by
        rw [Int.natCast_mul, Int.toNat_of_nonneg (by omega)]
        exact Int.mul_le_mul_of_nonneg_right (by omega) (by omega)
      omega
    · rename_i hk
      rw [if_neg hk] at hb
      have hc : bndT a + 1 < 100000 := by
        apply Classical.byContradiction; intro hc; rw [if_neg hc] at hb; omega
      rw [if_pos hc] at hb ⊢
      have ie := expT_sz h.2 (by omega)
      simp only [Tr.sz]; omega
  | .l2 t a b, h, hb => by
    have ia := bndT_rng h.2.1
    have ib := bndT_rng h.2.2
    unfold bndT at hb ⊢
    have hc : bndT a + bndT b + 1 < 100000 := by
      apply Classical.byContradiction; intro hc; rw [if_neg hc] at hb; omega
    rw [if_pos hc] at hb ⊢
    have ea := expT_sz h.2.1 (by omega)
    have eb := expT_sz h.2.2 (by omega)
    simp only [expT, Tr.sz]; omega
theorem bnd_kid {t k : Tr} {i : Nat} (h : Okd t) (hb : bndT t ≤ 5000) (hk : t.kids[i]? = some k) : bndT k ≤ 5000 := by
  cases t with
  | l0 q => simp [Tr.kids] at hk
  | l1 q a =>
    have ih := bndT_rng h.2
    match i with
    | 0 =>
      simp [Tr.kids] at hk; subst hk
      unfold bndT at hb
      split at hb
      · rename_i h7
        have r : 1 ≤ q.high ∧ q.high ≤ 3 := (h.r7 h7).1
        have h1 := Int.mul_le_mul_of_nonneg_left (c := bndT a + 3) r.1 (by omega)
        rw [Int.mul_one] at h1
        split at hb <;> omega
      · split at hb <;> omega
    | i + 1 => simp [Tr.kids] at hk
  | l2 q a b =>
    have ia := bndT_rng h.2.1
    have ib := bndT_rng h.2.2
    unfold bndT at hb
    match i with
    | 0 => simp [Tr.kids] at hk; subst hk; split at hb <;> omega
    | 1 => simp [Tr.kids] at hk; subst hk; split at hb <;> omega
    | i + 2 => simp [Tr.kids] at hk
theorem timT_ok {x : Tr} (hx : Okd x) : ∀ (low : Int) (h : Nat), Okd (timT x low h)
  | _, 0 => by simp [timT, Okd, arT]
  | low, h + 1 => by
    have ih := timT_ok hx (if low - 1 > 0 then low - 1 else 0) h
    have e1 : arT ⟨4, 0, 0, 0⟩ = 2 := by decide
    have e2 : arT ⟨5, 0, 0, 0⟩ = 2 := by decide
    have e3 : arT ⟨2, 0, 0, 0⟩ = 0 := by decide
    unfold timT
    split
    · exact ⟨e1, hx, ih⟩
    · exact ⟨e2, ⟨e1, hx, ih⟩, e3⟩
theorem expT_ok : ∀ {t : Tr}, Okd t → Okd (expT t)
  | .l0 _, h => h
  | .l1 t a, h => by
    unfold expT
    split
    · exact timT_ok (expT_ok h.2) _ _
    · exact ⟨h.1, expT_ok h.2⟩
  | .l2 t a b, h => ⟨h.1, expT_ok h.2.1, expT_ok h.2.2⟩
section
variable {x a b : Tr} {low high : Int}
theorem tim0 (h : high = 0) : .l0 ⟨2, 0, 0, 0⟩ = timT x low high.toNat := by subst h; rfl
theorem timp (h : ¬ high = 0) (h0 : 0 ≤ high) (hl : low > 0) : .l2 ⟨4, 0, 0, 0⟩ x (timT x (if low - 1 > 0 then low - 1 else 0) (high - 1).toNat) = timT x low high.toNat := by
  rw [show high.toNat = (high - 1).toNat + 1 by omega, timT, if_pos hl]
theorem timn (h : ¬ high = 0) (h0 : 0 ≤ high) (hl : ¬ low > 0) : .l2 ⟨5, 0, 0, 0⟩ (.l2 ⟨4, 0, 0, 0⟩ x (timT x (if low - 1 > 0 then low - 1 else 0) (high - 1).toNat)) (.l0 ⟨2, 0, 0, 0⟩) = timT x low high.toNat := by
  rw [show high.toNat = (high - 1).toNat + 1 by omega, timT, if_neg hl]
theorem exp2 (h : Okd x) (hk : x.tok.kind = 4 ∨ x.tok.kind = 5) (h0 : x.kids[0]? = some a) (h1 : x.kids[1]? = some b) : .l2 x.tok (expT a) (expT b) = expT x := by rw [h.shape2 hk h0 h1]; rfl
theorem exp6 (h : Okd x) (hk : x.tok.kind = 6) (h0 : x.kids[0]? = some a) : .l1 x.tok (expT a) = expT x := by
  rw [h.shape1 (by omega) h0]
  have h6 : ¬ x.tok.kind = 7 := by omega
  simp only [expT, if_neg h6]; rfl
theorem exp7 (h : Okd x) (hk : x.tok.kind = 7) (h0 : x.kids[0]? = some a) : timT (expT a) x.tok.low x.tok.high.toNat = expT x := by
  rw [h.shape1 (by omega) h0]
  show timT (expT a) x.tok.low x.tok.high.toNat = _
  simp only [expT, if_pos hk]
theorem exp0 (h : Okd x) (hk : ¬ (x.tok.kind = 4 ∨ x.tok.kind = 5 ∨ x.tok.kind = 6 ∨ x.tok.kind = 7)) : .l0 x.tok = expT x := by rw [h.shape0 hk]; rfl
theorem bnd2 (h : Okd x) (hk : x.tok.kind = 4 ∨ x.tok.kind = 5) (h0 : x.kids[0]? = some a) (h1 : x.kids[1]? = some b) : (if bndT a + bndT b + 1 < 100000 then bndT a + bndT b + 1 else 100000) = bndT x := by rw [h.shape2 hk h0 h1]; rfl
theorem bnd6 (h : Okd x) (hk : x.tok.kind = 6) (h0 : x.kids[0]? = some a) : (if bndT a + 1 < 100000 then bndT a + 1 else 100000) = bndT x := by
  rw [h.shape1 (by omega) h0]
  have h6 : ¬ x.tok.kind = 7 := by omega
  simp only [bndT, if_neg h6]
theorem bnd7 (h : Okd x) (hk : x.tok.kind = 7) (h0 : x.kids[0]? = some a) : (if (bndT a + 3) * x.tok.high + 1 < 100000 then (bndT a + 3) * x.tok.high + 1 else 100000) = bndT x := by
  rw [h.shape1 (by omega) h0]
  show (if (bndT a + 3) * x.tok.high + 1 < 100000 then (bndT a + 3) * x.tok.high + 1 else 100000) = _
  simp only [bndT, if_pos hk]
theorem bnd0 (h : Okd x) (hk : ¬ (x.tok.kind = 4 ∨ x.tok.kind = 5 ∨ x.tok.kind = 6 ∨ x.tok.kind = 7)) : 1 = bndT x := by rw [h.shape0 hk]; rfl
end
/-- The sum that the walk over the operands makes. -/
def bndS (x : Tr) (i : Nat) : Int := ((x.kids.take i).map fun k => if x.tok.kind = 7 then (bndT k + 3) * x.tok.high else bndT k).sum
theorem bndS_step {x k : Tr} {i : Nat} (h : x.kids[i]? = some k) : bndS x (i + 1) = bndS x i + (if x.tok.kind = 7 then (bndT k + 3) * x.tok.high else bndT k) := by
  unfold bndS; rw [take_snoc h, List.map_append]; simp
theorem bndS_end {x : Tr} {i : Nat} (h : Okd x) (hi : x.kids.length ≤ i) : (if 100000 < 1 + bndS x i then 100000 else 1 + bndS x i) = bndT x := by
  unfold bndS; rw [List.take_of_length_le hi]
  have hl := h.len
  by_cases h4 : x.tok.kind = 4 ∨ x.tok.kind = 5
  · obtain ⟨k, a, b, rfl⟩ := h.two h4
    have h7 : ¬ (Tr.l2 k a b).tok.kind = 7 := by omega
    simp only [Tr.kids, List.map_cons, List.map_nil, List.sum_cons, List.sum_nil, if_neg h7, bndT]
    split <;> split <;> omega
  · by_cases h6 : x.tok.kind = 6 ∨ x.tok.kind = 7
    · obtain ⟨k, a, rfl⟩ := h.one h6
      simp only [Tr.kids, List.map_cons, List.map_nil, List.sum_cons, List.sum_nil, bndT]
      show (if 100000 < 1 + ((if k.kind = 7 then (bndT a + 3) * k.high else bndT a) + 0) then 100000 else 1 + ((if k.kind = 7 then (bndT a + 3) * k.high else bndT a) + 0)) = _
      by_cases h7 : k.kind = 7
      · simp only [if_pos h7]; split <;> split <;> omega
      · simp only [if_neg h7]; split <;> split <;> omega
    · obtain ⟨k, rfl⟩ := h.zero (by omega)
      rfl
theorem bndS_rng {x : Tr} {i : Nat} (h : Okd x) : 0 ≤ bndS x i ∧ bndS x i ≤ 400000 := by
  have hl := x.kids_le
  unfold bndS
  have key : ∀ (l : List Tr), (∀ k ∈ l, Okd k) → l.length ≤ 2 → (x.tok.kind = 7 → l.length ≤ 1) → 0 ≤ (l.map fun k => if x.tok.kind = 7 then (bndT k + 3) * x.tok.high else bndT k).sum ∧ (l.map fun k => if x.tok.kind = 7 then (bndT k + 3) * x.tok.high else bndT k).sum ≤ 400000 := by
    intro l hk h2 h7
    match l, hk, h2, h7 with
    | [], _, _, _ => simp
    | [a], hk, _, _ =>
      have ia := bndT_rng (hk a (by simp))
      by_cases e7 : x.tok.kind = 7
      · have r := (h.r7 e7).1
        have h1 : 0 ≤ (bndT a + 3) * x.tok.high := Int.mul_nonneg (by omega) (by omega)
        have h2 : (bndT a + 3) * x.tok.high ≤ 100003 * 3 := Int.mul_le_mul (by omega) r.2 (by omega) (by omega)
        simp [e7]; omega
      · simp [e7]; omega
    | [a, b], hk, _, h7 =>
      have ia := bndT_rng (hk a (by simp))
      have ib := bndT_rng (hk b (by simp))
      by_cases e7 : x.tok.kind = 7
      · have := h7 e7; simp at this
      · simp [e7]; omega
    | a :: b :: c :: r, _, h2, _ => simp at h2
  refine key _ (fun k hk => ?_) (by rw [List.length_take]; omega) (fun h7 => by rw [List.length_take]; have := h.len.2.1 (.inr h7); omega)
  obtain ⟨j, hj, rfl⟩ := List.getElem_of_mem (List.mem_of_mem_take hk)
  exact h.kid (List.getElem?_eq_getElem hj)
def expE (e : List Token) : List Token × Bool :=
  match treeL e with
  | some t => if e.length ≤ 24 ∧ bndT t ≤ 5000 ∧ (expT t).sz ≤ 400 then ((expT t).flat, true) else ([], false)
  | none => ([], false)
section
variable {e : List Token} {t : Tr}
theorem expE_y (h : treeL e = some t) (h1 : e.length ≤ 24) (h2 : bndT t ≤ 5000) (h3 : (expT t).sz ≤ 400) : expE e = ((expT t).flat, true) := by unfold expE; rw [h]; simp [h1, h2, h3]
theorem expE_n (h : ivE e = false) : expE e = ([], false) := by
  unfold ivE at h; unfold expE
  cases ht : treeL e with
  | none => rfl
  | some t =>
    simp only
    rw [if_neg]
    intro c
    rw [decide_eq_true c.1, ← isE_some ht] at h
    cases h
theorem expE_n2 (h : treeL e = some t) (h2 : ¬ bndT t ≤ 5000) : expE e = ([], false) := by unfold expE; rw [h]; simp only; rw [if_neg (fun c => h2 c.2.1)]
theorem expE_n3 (h : treeL e = some t) (h2 : ¬ (expT t).sz ≤ 400) : expE e = ([], false) := by unfold expE; rw [h]; simp only; rw [if_neg (fun c => h2 c.2.2)]
theorem ivE_y (h : ivE e = true) : ∃ t, treeL e = some t ∧ Okd t ∧ e = t.flat ∧ e.length ≤ 24 := by
  unfold ivE at h
  rw [Bool.and_eq_true] at h
  obtain ⟨t, a, b, c⟩ := isE_y h.2
  exact ⟨t, a, b, c, of_decide_eq_true h.1⟩
theorem ivE_tr (h : ivE e = true) (hn : treeL e = none) : False := by
  obtain ⟨t, a, _⟩ := ivE_y h; rw [hn] at a; cases a
theorem expE_len (e : List Token) : (expE e).1.length ≤ 400 := by
  unfold expE
  cases treeL e with
  | none => simp
  | some t =>
    simp only
    split
    · rename_i h; rw [Tr.flat_len]; exact h.2.2
    · simp
end
/-! ### Building nodes -/
theorem TrAt.mk {w : World} {L B bo e ty : Nat} {k : Token} {v : Value} {ps : List Addr} {ts : List Tr} (hm : Blk w bo ty [.int .i64 k.kind, .int .i64 k.letter, .int .i64 k.low, .int .i64 k.high, v]) (hL : L ≤ bo)
    (hv : Ol acs e 1 w v ps) (hl : ∀ g ∈ bl v, L ≤ g) (hk : Kd w L B ps ts) (h2 : ps.length ≤ 2) (hB : B ≤ w.heap.size) : TrAt w L w.heap.size ⟨bo, 0, none⟩ (mkTr k ts) := by
  refine TrF.mk (v := v) (ps := ps) ⟨hL, hm.lt⟩ (fun j x hx => ?_) hv.ls (fun A n c hA _ => ?_) ⟨hk.1, fun i q t a b => ((hk.2 i q t a b).up (Nat.le_refl _) hB)⟩ h2
  · rw [add_lit, hm.cell]; simpa [Token.cs] using hx
  · subst hA
    have hg : A.block ∈ bl (.slice (some A) n c) := by simp [bl, Value.ownBlock]
    exact ⟨hl _ hg, hv.lt _ hg⟩
theorem TrAt.lb {w : World} {L B : Nat} {p : Addr} {t : Tr} (h : TrAt w L B p t) : L < B := by
  cases t with
  | l0 t => obtain ⟨h0, _⟩ := h; exact Nat.lt_of_le_of_lt h0.1 h0.2
  | l1 t a => obtain ⟨h0, _⟩ := h; exact Nat.lt_of_le_of_lt h0.1 h0.2
  | l2 t a b => obtain ⟨h0, _⟩ := h; exact Nat.lt_of_le_of_lt h0.1 h0.2
theorem exp_done {w : World} {L bo e ty B : Nat} {v : Value} {ps : List Addr} {t : Tr} (h : KdN w L bo v ps (t.kids.map expT)) (hm : Blk w bo ty [.int .i64 t.tok.kind, .int .i64 t.tok.letter, .int .i64 t.tok.low, .int .i64 t.tok.high, v]) (hL : L ≤ bo)
    (hv : Ol acs e 1 w v ps) (hl : ∀ g ∈ bl v, L ≤ g) (hB : w.heap.size ≤ B) (hk : ¬ t.tok.kind = 7) : TrAt w L B ⟨bo, 0, none⟩ (expT t) := by
  have h2 : ps.length ≤ 2 := by
    have h3 := t.kids_le
    have h4 := h.1
    rw [h4]; simpa using h3
  have h5 := h.done hm hL hv hl h2 hB
  cases t with
  | l0 q => exact h5
  | l1 q a =>
    have hk' : ¬ q.kind = 7 := hk
    have : expT (.l1 q a) = .l1 q (expT a) := by simp only [expT, if_neg hk']
    rw [this]; exact h5
  | l2 q a b => exact h5
end Go.KLib

/- Rows of rows that are marked; reached states; useful states. -/
namespace Go.KLib

section
variable {α : Type} {cs : α → List Value} {e k lo hi : Nat} {w w' : World} {vs : List Sv} {xs : List (List α)}
theorem Od.set {i : Nat} {v : Sv} {x x' : List α} (h : Od cs e k w lo hi vs xs) (hv : vs[i]? = some v) (hx : xs[i]? = some x) (c : Ch (bl v.v) w w') (ho : Ol cs e k w' v.v x') : Od cs e k w' lo hi vs (xs.set i x') := by
  have hi' := (List.getElem?_eq_some_iff.1 hx).1
  refine ⟨by simp [h.1], fun j u y a b => ?_, h.2.2⟩
  rw [List.getElem?_set] at b
  by_cases e1 : i = j
  · subst e1
    rw [if_pos rfl, if_pos hi'] at b
    injection b with b; subst b
    rw [hv] at a; injection a with a; subst a
    exact ⟨ho, (h.2.1 i v x hv hx).2⟩
  · rw [if_neg e1] at b
    refine ⟨(h.2.1 j u y a b).1.ch c fun g hg hm => ?_, (h.2.1 j u y a b).2⟩
    rcases Nat.lt_or_gt_of_ne e1 with h1 | h1
    · exact h.2.2 i j v u hv a h1 g hm hg
    · exact h.2.2 j i u v a hv h1 g hg hm
theorem Od.sepO {o : Value} (h : Od cs e k w lo hi vs xs) (ho : ∀ g ∈ bl o, g < lo ∨ hi ≤ g) : Sep o vs := by
  intro u hu g hg hm
  obtain ⟨i, hi', rfl⟩ := List.getElem_of_mem hu
  have hx : xs[i]? = some (xs[i]'(by rw [← h.1]; exact hi')) := List.getElem?_eq_getElem _
  have h1 := (h.2.1 i _ _ (List.getElem?_eq_getElem hi') hx).2 g hg
  have h2 := ho g hm
  omega
theorem Od.ownget (h : Od cs e k w lo hi vs xs) {i : Nat} {y : Sv} (hy : vs[i]? = some y) : ∃ x, xs[i]? = some x ∧ Ol cs e k w y.v x ∧ (∀ g ∈ bl y.v, lo ≤ g ∧ g < hi) := by
  have hi := (List.getElem?_eq_some_iff.1 hy).1
  have hx : xs[i]? = some (xs[i]'(by have := h.1; omega)) := List.getElem?_eq_getElem _
  exact ⟨_, hx, h.2.1 i y _ hy hx⟩
theorem mem_of_get {β : Type} {l : List β} {i : Nat} {y : β} (h : l[i]? = some y) : y ∈ l := by
  obtain ⟨hi, rfl⟩ := List.getElem?_eq_some_iff.1 h; exact List.getElem_mem hi
end
theorem r_rem {P : Program} {w : World} {l : KL} {dst : Option Tmp} {ty : TypeId} {pos : String} {aft : Array Go.Edge} {gd : Option (Nat × Bool)} {x y : Operand} {xt yt : TypeId} {a b : Int} (hb : ¬ b = 0) (hx : ev l x = some (.int .i64 a)) (hy : ev l y = some (.int .i64 b)) :
    Runs P l ⟨dst, .binOp .rem xt x y yt, ty, pos, aft, gd⟩ w (.int .i64 (a.tmod b)) w := fun ρ hρ => by
  simp [execOp, hρ _ _ hx, hρ _ _ hy, eqGuard, binOp, Op.intDiv, hb]

/-! ### Reached states -/
def ReachB (S : Int) (s : Nat) : Prop := (s : Int) = S
def BackA (N : List (List Int)) (s t : Nat) : Prop := EdgeA N t s
noncomputable def reachL (S : Int) (n : Nat) (N : List (List Int)) : List Bool := clL (ReachB S) (BackA N) n
theorem reachL_len (S : Int) (n : Nat) (N : List (List Int)) : (reachL S n N).length = n := clL_len
section
variable {S : Int} {N : List (List Int)} {n j s k : Nat} {l : List Bool} {r : List Int} {y : Int}
/-- The rows below s have been gone through. -/
def FUp (S : Int) (N : List (List Int)) (j : Nat) (l : List Bool) (s : Nat) : Prop := ∀ q t, q < s → EdgeA N q t → ClN (ReachB S) (BackA N) j q → l[t]? = some true
def FRow (S : Int) (N : List (List Int)) (j : Nat) (l : List Bool) (s k : Nat) : Prop := ∀ (i t : Nat) (r : List Int), i < k → N[s]? = some r → r[i]? = some (t : Int) → ClN (ReachB S) (BackA N) j s → l[t]? = some true
theorem fup_zero : FUp S N j l 0 := fun _ _ h => absurd h (by omega)
theorem frow_zero : FRow S N j l s 0 := fun _ _ _ h => absurd h (by omega)
theorem fup_set {i : Nat} (h : FUp S N j l s) : FUp S N j (l.set i true) s := fun q t a b c => set_true (h q t a b c)
theorem frow_hit {i : Nat} (h : FRow S N j l s k) (hr : N[s]? = some r) (hy : r[k]? = some y) (hi : y = (i : Int)) (hl : i < l.length) : FRow S N j (l.set i true) s (k + 1) := fun q t r' hq hr' ht hc => by
  rw [hr] at hr'; cases hr'
  by_cases e : q = k
  · subst e; rw [hy] at ht; injection ht with ht; obtain rfl : t = i := by omega
    exact set_here hl
  · exact set_true (h q t r (by omega) hr ht hc)
theorem frow_miss (h : FRow S N j l s k) (hr : N[s]? = some r) (hy : r[k]? = some y) (hn : ∀ t : Nat, y = t → ¬ l[s]? = some true) (ha : ClAbove (ReachB S) (BackA N) l j) : FRow S N j l s (k + 1) := fun q t r' hq hr' ht hc => by
  rw [hr] at hr'; cases hr'
  by_cases e : q = k
  · subst e; rw [hy] at ht; injection ht with ht; exact absurd (ha s hc) (hn t ht)
  · exact h q t r (by omega) hr ht hc
theorem frow_any (h : FRow S N j l s k) (hn : ¬ l[s]? = some true) (ha : ClAbove (ReachB S) (BackA N) l j) : FRow S N j l s (k + 1) := fun _ _ _ _ _ _ hc => absurd (ha s hc) hn
theorem fup_row (h : FUp S N j l s) (hk : FRow S N j l s k) (hr : ∀ r, N[s]? = some r → r.length ≤ k) : FUp S N j l (s + 1) := fun q t hq he hc => by
  by_cases e : q = s
  · subst e
    obtain ⟨i, r, h1, h2⟩ := he
    exact hk i t r (by have := hr r h1; have := (List.getElem?_eq_some_iff.1 h2).1; omega) h1 h2 hc
  · exact h q t (by omega) he hc
theorem fround_up (ha : ClAbove (ReachB S) (BackA N) l j) (h : FUp S N j l s) (hs : N.length ≤ s) : ClAbove (ReachB S) (BackA N) l (j + 1) := fun q hq => by
  rcases hq with hq | ⟨t, he, hc⟩
  · exact ha q hq
  · obtain ⟨i, r, h1, h2⟩ := he
    exact h t q (by have := (List.getElem?_eq_some_iff.1 h1).1; omega) ⟨i, r, h1, h2⟩ hc
theorem edge_lt {A : List Bool} (hv : FitsA S A N) {s t : Nat} (h : EdgeA N s t) : t < A.length := by
  obtain ⟨i, r, h1, h2⟩ := h
  have := fits_el hv h1 h2
  omega
theorem reach_of_rounds {A : List Bool} (hv : FitsA S A N) (hl : l.length = A.length) (h1 : ClBelow (ReachB S) (BackA N) l) (h2 : ClAbove (ReachB S) (BackA N) l j) (hj : A.length = j) : l = reachL S A.length N :=
  cl_of_rounds hl (fun s h => by have := hv.1; unfold ReachB at h; omega) (fun s t h => edge_lt hv h) h1 (hj ▸ h2)
theorem reach_base {m : Nat} (h : m < n) (hm : S = (m : Int)) : ClBelow (ReachB S) (BackA N) ((List.replicate n false).set m true) := fun s hs => by
  rw [List.getElem?_set] at hs
  split at hs
  · rename_i e; subst e; exact .base (by unfold ReachB; omega)
  · rw [List.getElem?_replicate] at hs; split at hs <;> simp at hs
theorem reach_base2 {m : Nat} (h : m < n) (hm : S = (m : Int)) : ClAbove (ReachB S) (BackA N) ((List.replicate n false).set m true) 0 := fun s hs => by
  have hs' : (s : Int) = S := hs
  obtain rfl : s = m := by omega
  exact set_here (by simpa using h)

/-! the same with a list of what is still to be gone through -/
def Gone (N : List (List Int)) (o : List Bool) (s : Nat) : Prop := ∀ t, EdgeA N s t → o[t]? = some true
def Todo (N : List (List Int)) (o : List Bool) (l : List Int) : Prop := ∀ s : Nat, o[s]? = some true → (s : Int) ∈ l ∨ Gone N o s
def TodoH (N : List (List Int)) (o : List Bool) (l : List Int) (h : Int) : Prop := ∀ s : Nat, o[s]? = some true → (s : Int) ∈ l ∨ Gone N o s ∨ (s : Int) = h
def InL (n : Nat) (o : List Bool) (l : List Int) : Prop := ∀ x ∈ l, (0 ≤ x ∧ x ≤ (n : Int) - 1) ∧ o[x.toNat]? = some true
theorem Gone.set {o : List Bool} {i : Nat} (h : Gone N o s) : Gone N (o.set i true) s := fun t ht => set_true (h t ht)
theorem todo_start {m : Nat} (hm : S = (m : Int)) : Todo N ((List.replicate n false).set m true) [S] := fun s hs => by
  rw [List.getElem?_set] at hs
  split at hs
  · rename_i e; subst e; left; simp [hm]
  · rw [List.getElem?_replicate] at hs; split at hs <;> simp at hs
theorem inl_start {m : Nat} (h : m < n) (hm : S = (m : Int)) : InL n ((List.replicate n false).set m true) [S] := fun x hx => by
  rw [List.mem_singleton] at hx; subst hx
  refine ⟨by omega, ?_⟩
  rw [show x.toNat = m by omega]
  exact set_here (by simpa using h)
theorem todo_head {o : List Bool} {ls : List Int} {h : Int} (ht : Todo N o ls) (hh : ls[0]? = some h) : TodoH N o (ls.drop 1) h := fun s hs => by
  rcases ht s hs with h1 | h1
  · match ls, hh with
    | a :: r, hh =>
      simp at hh; subst hh
      rcases List.mem_cons.1 h1 with h1 | h1
      · exact .inr (.inr h1)
      · exact .inl h1
  · exact .inr (.inl h1)
theorem todo_done {o : List Bool} {ls : List Int} {h : Int} (ht : TodoH N o ls h) (hg : ∀ s : Nat, (s : Int) = h → Gone N o s) : Todo N o ls := fun s hs => by
  rcases ht s hs with h1 | h1 | h1
  · exact .inl h1
  · exact .inr h1
  · exact .inr (hg s h1)
theorem todo_push {o : List Bool} {ls : List Int} {h : Int} {i : Nat} (ht : TodoH N o ls h) : TodoH N (o.set i true) (ls ++ [(i : Int)]) h := fun s hs => by
  rw [List.getElem?_set] at hs
  split at hs
  · rename_i e; subst e; left; simp
  · rcases ht s hs with h1 | h1 | h1
    · exact .inl (by simp [h1])
    · exact .inr (.inl h1.set)
    · exact .inr (.inr h1)
theorem inl_push {o : List Bool} {ls : List Int} {i : Nat} (h : InL n o ls) (hi : i < n) (hl : o.length = n) : InL n (o.set i true) (ls ++ [(i : Int)]) := fun x hx => by
  rcases List.mem_append.1 hx with h1 | h1
  · exact ⟨(h x h1).1, set_true (h x h1).2⟩
  · rw [List.mem_singleton] at h1; subst h1
    exact ⟨by omega, by rw [show ((i : Int)).toNat = i by omega]; exact set_here (by omega)⟩
theorem drop_push {ls : List Int} {x : Int} (h : 0 < ls.length) : (ls ++ [x]).drop 1 = ls.drop 1 ++ [x] := List.drop_append_of_le_length h
def RowG (N : List (List Int)) (o : List Bool) (s k : Nat) : Prop := ∀ (i t : Nat) (r : List Int), i < k → N[s]? = some r → r[i]? = some (t : Int) → o[t]? = some true
theorem rowg_zero {o : List Bool} : RowG N o s 0 := fun _ _ _ h => absurd h (by omega)
theorem rowg_skip {o : List Bool} (h : RowG N o s k) (hr : N[s]? = some r) (hy : r[k]? = some y) (hn : ∀ t : Nat, y = t → o[t]? = some true) : RowG N o s (k + 1) := fun i t r' hi hr' ht => by
  rw [hr] at hr'; cases hr'
  by_cases e : i = k
  · subst e; rw [hy] at ht; injection ht with ht; exact hn t ht
  · exact h i t r (by omega) hr ht
theorem rowg_set {o : List Bool} {i : Nat} (h : RowG N o s k) (hr : N[s]? = some r) (hy : r[k]? = some y) (hi : y = (i : Int)) (hl : i < o.length) : RowG N (o.set i true) s (k + 1) := fun q t r' hq hr' ht => by
  rw [hr] at hr'; cases hr'
  by_cases e : q = k
  · subst e; rw [hy] at ht; injection ht with ht; obtain rfl : t = i := by omega
    exact set_here hl
  · exact set_true (h q t r (by omega) hr ht)
theorem rowg_gone {o : List Bool} {h : Int} (hg : RowG N o h.toNat k) (hr : ∀ r, N[h.toNat]? = some r → r.length ≤ k) (s : Nat) (hs : (s : Int) = h) : Gone N o s := fun t ht => by
  obtain ⟨i, r, h1, h2⟩ := ht
  obtain rfl : s = h.toNat := by omega
  exact hg i t r (by have := hr r h1; have := (List.getElem?_eq_some_iff.1 h2).1; omega) h1 h2
theorem reach_of_todo {A : List Bool} (hv : FitsA S A N) (hl : l.length = A.length) (h1 : ClBelow (ReachB S) (BackA N) l) (h2 : l[S.toNat]? = some true) (h3 : Todo N l []) : l = reachL S A.length N :=
  cl_of_closed hl h1 (fun s hs => by have hs' : (s : Int) = S := hs; rw [show s = S.toNat by omega]; exact h2) fun s t he hc => by
    rcases h3 t hc with h4 | h4
    · simp at h4
    · exact h4 s he
theorem below_edge (h : ClBelow (ReachB S) (BackA N) l) {q t : Nat} (hq : l[q]? = some true) (he : EdgeA N q t) : Cl (ReachB S) (BackA N) t := .step he (h q hq)
end

/-! ### Useful states -/
noncomputable def usfP (S : Int) (A : List Bool) (N : List (List Int)) (k : Nat) : List Int := ((List.range k).filter fun s => (reachL S A.length N).getD s false && (liveL A N).getD s false).map fun (s : Nat) => (s : Int)
noncomputable def usfR (S : Int) (A : List Bool) (N : List (List Int)) : List Int := bif tt (ValidA S A N) then usfP S A N A.length else []
theorem usfR_n {S : Int} {A : List Bool} {N : List (List Int)} (h : ¬ ValidA S A N) : [] = usfR S A N := by unfold usfR; rw [← tt_false h]; rfl
theorem usfR_y {S : Int} {A : List Bool} {N : List (List Int)} {k : Nat} (h : ValidA S A N) (hk : k = A.length) : usfP S A N k = usfR S A N := by subst hk; unfold usfR; rw [← tt_true h]; rfl
theorem usf_step {S : Int} {A : List Bool} {N : List (List Int)} {k : Nat} {a b : Bool} (ha : (reachL S A.length N)[k]? = some a) (hb : (liveL A N)[k]? = some b) : usfP S A N (k + 1) = if a && b then usfP S A N k ++ [(k : Int)] else usfP S A N k := by
  unfold usfP
  rw [List.range_succ, List.filter_append, List.map_append]
  have e1 : (reachL S A.length N).getD k false = a := by rw [List.getD_eq_getElem?_getD, ha]; rfl
  have e2 : (liveL A N).getD k false = b := by rw [List.getD_eq_getElem?_getD, hb]; rfl
  have e3 : List.filter (fun s => (reachL S A.length N).getD s false && (liveL A N).getD s false) [k] = if a && b then [k] else [] := by
    rw [List.filter_cons, e1, e2]; rfl
  rw [e3]
  cases a <;> cases b <;> simp
theorem usfP_len (S : Int) (A : List Bool) (N : List (List Int)) (k : Nat) : (usfP S A N k).length ≤ k := by
  unfold usfP; rw [List.length_map]
  exact Nat.le_trans (List.length_filter_le _ _) (by simp)
theorem usfR_len (S : Int) (A : List Bool) (N : List (List Int)) : (usfR S A N).length ≤ 12 := by
  by_cases h : ValidA S A N
  · rw [← usfR_y h rfl]; exact Nat.le_trans (usfP_len _ _ _ _) h.1
  · rw [← usfR_n h]; simp
end Go.KLib

/- Rows of rows beside rows of one's own; useful states, one flag known. -/
namespace Go.KLib

section
variable {α : Type} {cs : α → List Value} {e k lo hi : Nat} {w w' : World} {vs : List Sv} {xs : List (List α)}
theorem Od.chS {o : Value} (h : Od cs e k w lo hi vs xs) (c : Ch (bl o) w w') (hs : Sep o vs) : Od cs e k w' lo hi vs xs :=
  ⟨h.1, fun i v x a b => ⟨(h.2.1 i v x a b).1.ch c (hs v (mem_of_get a)), (h.2.1 i v x a b).2⟩, h.2.2⟩
end
theorem usf_n1 {S : Int} {A : List Bool} {N : List (List Int)} {k : Nat} {a : Bool} (ha : (reachL S A.length N)[k]? = some a) (h : a = false) (hk : k < A.length) : usfP S A N k = usfP S A N (k + 1) := by
  have hl : k < (liveL A N).length := by rw [liveL_len]; exact hk
  rw [usf_step ha (List.getElem?_eq_getElem hl), h]; rfl
theorem usf_n2 {S : Int} {A : List Bool} {N : List (List Int)} {k : Nat} {b : Bool} (hb : (liveL A N)[k]? = some b) (h : b = false) (hk : k < A.length) : usfP S A N k = usfP S A N (k + 1) := by
  have hl : k < (reachL S A.length N).length := by rw [reachL_len]; exact hk
  rw [usf_step (List.getElem?_eq_getElem hl) hb, h, Bool.and_false]; rfl
theorem usf_y {S : Int} {A : List Bool} {N : List (List Int)} {k : Nat} {a b : Bool} (ha : (reachL S A.length N)[k]? = some a) (hb : (liveL A N)[k]? = some b) (h1 : a = true) (h2 : b = true) : usfP S A N k ++ [(k : Int)] = usfP S A N (k + 1) := by
  rw [usf_step ha hb, h1, h2]; rfl
end Go.KLib

/- Sets of small numbers as bits of a number. -/
namespace Go.KLib

theorem bv_nat (n : Nat) : BitVec.ofInt IntKind.i64.bits (n : Int) = BitVec.ofNat 64 n := by
  show BitVec.ofInt 64 (n : Int) = BitVec.ofNat 64 n
  exact BitVec.ofInt_natCast ..
theorem ishr_nat {m : Int} {i : Nat} (h0 : 0 ≤ m) (hi : i ≤ 64) : ishr m i = ((m.toNat >>> i : Nat) : Int) := by
  obtain ⟨n, rfl⟩ := Int.eq_ofNat_of_zero_le h0
  unfold ishr
  rw [Nat.shiftRight_eq_div_pow]
  have e : min ((i : Int)).toNat IntKind.i64.bits = i := by simp [IntKind.bits]; omega
  rw [e, Int.toNat_natCast, Int.natCast_ediv]
  rw [Int.fdiv_eq_ediv_of_nonneg]
  · simp
  · exact Int.le_of_lt (Int.pow_pos (by decide))
theorem iand_one {n : Nat} (h : n < 9223372036854775808) : iand n 1 = ((n % 2 : Nat) : Int) := by
  have e : (BitVec.ofInt IntKind.i64.bits (n : Int) &&& BitVec.ofInt IntKind.i64.bits 1).toNat = n % 2 := by
    rw [bv_nat, show (1 : Int) = ((1 : Nat) : Int) from rfl, bv_nat]
    show (BitVec.ofNat 64 n &&& BitVec.ofNat 64 1).toNat = n % 2
    rw [BitVec.toNat_and, BitVec.toNat_ofNat, BitVec.toNat_ofNat, Nat.mod_eq_of_lt (by omega), Nat.mod_eq_of_lt (by omega), Nat.and_one_is_mod]
  unfold iand; rw [e]; exact IntWalk.i64_in _ (by omega)
theorem ishl_one {s : Nat} (h : s < 62) : ishl 1 s = ((2 ^ s : Nat) : Int) := by
  have e : min ((s : Int)).toNat IntKind.i64.bits = s := by simp [IntKind.bits]; omega
  have h2 : (2 : Nat) ^ s ≤ 2 ^ 62 := Nat.pow_le_pow_right (by decide) (by omega)
  unfold ishl; rw [e]
  have e2 : (1 : Int) * 2 ^ s = ((2 ^ s : Nat) : Int) := by simp
  rw [e2]; clear e e2
  generalize (2 : Nat) ^ s = q at h2
  exact IntWalk.i64_in _ (by omega)
theorem ior_nat {a b : Nat} (ha : a < 4611686018427387904) (hb : b < 4611686018427387904) : ior a b = ((a ||| b : Nat) : Int) := by
  have h3 : a ||| b < 2 ^ 62 := Nat.or_lt_two_pow ha hb
  have e : (BitVec.ofInt IntKind.i64.bits (a : Int) ||| BitVec.ofInt IntKind.i64.bits (b : Int)).toNat = a ||| b := by
    rw [bv_nat, bv_nat]
    show (BitVec.ofNat 64 a ||| BitVec.ofNat 64 b).toNat = _
    rw [BitVec.toNat_or, BitVec.toNat_ofNat, BitVec.toNat_ofNat, Nat.mod_eq_of_lt (by omega), Nat.mod_eq_of_lt (by omega)]
  unfold ior; rw [e]; exact IntWalk.i64_in _ (by omega)
theorem bit_eq {m : Int} {i : Nat} (h0 : 0 ≤ m) (h1 : m < 4611686018427387904) (hi : i ≤ 64) : iand (ishr m i) 1 = if m.toNat.testBit i then 1 else 0 := by
  rw [ishr_nat h0 hi, iand_one (by rw [Nat.shiftRight_eq_div_pow]; have := Nat.div_le_self m.toNat (2 ^ i); omega), Nat.testBit_eq_decide_div_mod_eq, Nat.shiftRight_eq_div_pow]
  have h2 : m.toNat / 2 ^ i % 2 < 2 := Nat.mod_lt _ (by decide)
  by_cases h : m.toNat / 2 ^ i % 2 = 1
  · simp [h]
  · have : m.toNat / 2 ^ i % 2 = 0 := by omega
    simp [this]
theorem bit_y {m : Int} {i : Nat} (h : iand (ishr m i) 1 = 1) (h0 : 0 ≤ m) (h1 : m < 4611686018427387904) (hi : i ≤ 64) : m.toNat.testBit i = true := by
  rw [bit_eq h0 h1 hi] at h; cases hb : m.toNat.testBit i
  · rw [hb] at h; simp at h
  · rfl
theorem bit_n {m : Int} {i : Nat} (h : ¬ iand (ishr m i) 1 = 1) (h0 : 0 ≤ m) (h1 : m < 4611686018427387904) (hi : i ≤ 64) : m.toNat.testBit i = false := by
  rw [bit_eq h0 h1 hi] at h; cases hb : m.toNat.testBit i
  · rfl
  · rw [hb] at h; simp at h
theorem bit_z {m : Int} {i : Nat} (h : iand (ishr m i) 1 = 0) (h0 : 0 ≤ m) (h1 : m < 4611686018427387904) (hi : i ≤ 64) : m.toNat.testBit i = false := bit_n (by rw [h]; decide) h0 h1 hi
theorem bit_nz {m : Int} {i : Nat} (h : ¬ iand (ishr m i) 1 = 0) (h0 : 0 ≤ m) (h1 : m < 4611686018427387904) (hi : i ≤ 64) : m.toNat.testBit i = true := by
  rw [bit_eq h0 h1 hi] at h; cases hb : m.toNat.testBit i
  · rw [hb] at h; simp at h
  · rfl
theorem ior_bit {m : Int} {s : Nat} (h0 : 0 ≤ m) (h1 : m < 4611686018427387904) (hs : s < 62) : ior m (ishl 1 s) = ((m.toNat ||| 2 ^ s : Nat) : Int) := by
  have h2 : (2 : Nat) ^ s < 2 ^ 62 := Nat.pow_lt_pow_right (by decide) hs
  obtain ⟨n, rfl⟩ := Int.eq_ofNat_of_zero_le h0
  rw [ishl_one hs, ior_nat (by omega) (by omega), Int.toNat_natCast]

/-! ### the members of a set -/
def bitsL (m : Nat) (k : Nat) : List Int := ((List.range k).filter fun i => m.testBit i).map fun (i : Nat) => (i : Int)
theorem bitsL_step (m k : Nat) : bitsL m (k + 1) = if m.testBit k then bitsL m k ++ [(k : Int)] else bitsL m k := by
  unfold bitsL
  rw [List.range_succ, List.filter_append, List.map_append, List.filter_cons]
  cases m.testBit k <;> simp
theorem bitsL_y {m : Int} {k : Nat} (h : iand (ishr m k) 1 = 1) (h0 : 0 ≤ m) (h1 : m < 4611686018427387904) (hi : k ≤ 64) : bitsL m.toNat k ++ [(k : Int)] = bitsL m.toNat (k + 1) := by
  rw [bitsL_step, bit_y h h0 h1 hi]; rfl
theorem bitsL_n {m : Int} {k : Nat} (h : ¬ iand (ishr m k) 1 = 1) (h0 : 0 ≤ m) (h1 : m < 4611686018427387904) (hi : k ≤ 64) : bitsL m.toNat k = bitsL m.toNat (k + 1) := by
  rw [bitsL_step, bit_n h h0 h1 hi]; rfl
theorem bitsL_len (m k : Nat) : (bitsL m k).length ≤ k := by
  unfold bitsL; rw [List.length_map]; exact Nat.le_trans (List.length_filter_le _ _) (by simp)
theorem bitsL_end {m k : Nat} (h : m >>> k = 0) : ∀ d, bitsL m (k + d) = bitsL m k
  | 0 => rfl
  | d + 1 => by
    rw [← Nat.add_assoc, bitsL_step, bitsL_end h d]
    have : m.testBit (k + d) = false := by
      rw [← Nat.testBit_shiftRight, h]; simp
    rw [this]; rfl
theorem bitsL_fin {m : Int} {k : Nat} (h : ishr m k = 0) (h0 : 0 ≤ m) (hk : k ≤ 30) : bitsL m.toNat k = bitsL m.toNat 30 := by
  rw [ishr_nat h0 (by omega)] at h
  have := bitsL_end (m := m.toNat) (k := k) (by omega) (30 - k)
  rw [show k + (30 - k) = 30 by omega] at this; exact this.symm
theorem bits_more {m : Int} {k : Nat} (h : ¬ ishr m k = 0) (h0 : 0 ≤ m) (h1 : m < 1073741824) (hk : k ≤ 30) : k < 30 := by
  rcases Nat.lt_or_ge k 30 with h2 | h2
  · exact h2
  · exfalso; apply h
    have : k = 30 := by omega
    subst this
    rw [ishr_nat h0 (by omega), Nat.shiftRight_eq_div_pow, Nat.div_eq_of_lt (by omega)]; rfl

/-! ### a closure -/
/-- how many numbers below k are not in the set -/
def zc (m : Nat) : Nat → Nat
  | 0 => 0
  | k + 1 => zc m k + if m.testBit k then 0 else 1
theorem or_bit (m s i : Nat) : (m ||| 2 ^ s).testBit i = (m.testBit i || decide (s = i)) := by
  rw [Nat.testBit_or, Nat.testBit_two_pow]
theorem zc_hi {m s : Nat} : ∀ {k}, k ≤ s → zc (m ||| 2 ^ s) k = zc m k
  | 0, _ => rfl
  | k + 1, h => by
    unfold zc; rw [zc_hi (by omega : k ≤ s), or_bit]; simp [show ¬ s = k by omega]
theorem zc_set {m s : Nat} (hb : m.testBit s = false) : ∀ {k}, s < k → zc (m ||| 2 ^ s) k + 1 = zc m k
  | 0, h => by omega
  | k + 1, h => by
    unfold zc; rw [or_bit]
    rcases Nat.lt_or_ge s k with h1 | h1
    · have := zc_set hb h1; simp [show ¬ s = k by omega]; omega
    · have e : s = k := by omega
      subst e; rw [zc_hi (Nat.le_refl _), hb]; simp
def clo (N : List (List Int)) (c : Int) : Nat → Int → Nat → Nat
  | 0, _, m => m
  | f + 1, s, m => bif decide (0 ≤ s) && !m.testBit s.toNat then clo N c f (moveA N s c) (m ||| 2 ^ s.toNat) else m
theorem clo_stop1 {N c f s m} (h : ¬ (0 : Int) ≤ s) : clo N c f s m = m := by
  cases f
  · rfl
  · unfold clo; simp [h]
theorem clo_stop2 {N c f s m} (h : m.testBit s.toNat = true) : clo N c f s m = m := by
  cases f
  · rfl
  · unfold clo; simp [h]
theorem clo_step {N : List (List Int)} {c : Int} {s : Int} {m : Nat} (h0 : 0 ≤ s) (hb : m.testBit s.toNat = false) (hs : s.toNat < 12) :
    clo N c (zc m 12) s m = clo N c (zc (m ||| 2 ^ s.toNat) 12) (moveA N s c) (m ||| 2 ^ s.toNat) := by
  rw [← zc_set hb hs]
  show (bif _ then _ else _) = _
  rw [hb, decide_eq_true h0]
  simp only [Bool.not_false, Bool.and_true, cond_true]
/-- the states behind tests: the relation of the loop, and what it gives -/
noncomputable def CloI (N : List (List Int)) (c : Int) (s0 s m : Int) : Prop := 0 ≤ m ∧ m < 4096 ∧ clo N c (zc m.toNat 12) s m.toNat = clo N c (zc 0 12) s0 0
theorem cloi_zero (N : List (List Int)) (c : Int) (s0 : Int) : CloI N c s0 s0 0 := ⟨by decide, by decide, rfl⟩
theorem cloi_step {N : List (List Int)} {c : Int} {s0 s m : Int} (h : CloI N c s0 s m) (h0 : 0 ≤ s) (hs : s.toNat < 12) (hb : iand (ishr m s) 1 = 0) : CloI N c s0 (moveA N s c) (ior m (ishl 1 s)) := by
  obtain ⟨k, rfl⟩ := Int.eq_ofNat_of_zero_le h0
  simp only [Int.toNat_natCast] at hs
  obtain ⟨h1, h2, h3⟩ := h
  have e := ior_bit h1 (by omega) (s := k) (by omega)
  have hl : m.toNat ||| 2 ^ k < 2 ^ 12 := Nat.or_lt_two_pow (by omega) (Nat.pow_lt_pow_right (by decide) hs)
  refine ⟨by rw [e]; omega, by rw [e]; omega, ?_⟩
  rw [e, Int.toNat_natCast, ← h3, clo_step (s := (k : Int)) h0 (by simpa using bit_z hb h1 (by omega) (by omega)) (by simpa using hs)]; rfl
theorem cloi_mu {N : List (List Int)} {c : Int} {s0 s m : Int} (h : CloI N c s0 s m) (h0 : 0 ≤ s) (hs : s.toNat < 12) (hb : iand (ishr m s) 1 = 0) : zc (ior m (ishl 1 s)).toNat 12 < zc m.toNat 12 := by
  obtain ⟨k, rfl⟩ := Int.eq_ofNat_of_zero_le h0
  simp only [Int.toNat_natCast] at hs
  obtain ⟨h1, h2, h3⟩ := h
  rw [ior_bit h1 (by omega) (s := k) (by omega), Int.toNat_natCast]
  have := zc_set (bit_z hb h1 (by omega) (by omega)) hs
  omega
def cloR (N : List (List Int)) (c : Int) (s : Int) : Nat := clo N c (zc 0 12) s 0
theorem cloi_end1 {N : List (List Int)} {c : Int} {s0 s m : Int} (h : CloI N c s0 s m) (h0 : ¬ 0 ≤ s) : m = ((cloR N c s0 : Nat) : Int) := by
  obtain ⟨h1, h2, h3⟩ := h
  rw [clo_stop1 h0] at h3; unfold cloR; omega
theorem cloi_end2 {N : List (List Int)} {c : Int} {s0 s m : Int} (h : CloI N c s0 s m) (h0 : 0 ≤ s) (hs : s.toNat < 12) (hb : ¬ iand (ishr m s) 1 = 0) : m = ((cloR N c s0 : Nat) : Int) := by
  obtain ⟨k, rfl⟩ := Int.eq_ofNat_of_zero_le h0
  simp only [Int.toNat_natCast] at hs
  obtain ⟨h1, h2, h3⟩ := h
  rw [clo_stop2 (by simpa using bit_nz hb h1 (by omega) (by omega))] at h3; unfold cloR; omega
theorem clo_lt {S : Int} {A : List Bool} {N : List (List Int)} {c : Int} (hv : ValidA S A N) : ∀ {f s m}, (-1 ≤ s ∧ s ≤ (A.length : Int) - 1) → m < 4096 → clo N c f s m < 4096
  | 0, _, _, _, h => h
  | f + 1, s, m, hs, h => by
    unfold clo
    cases hc : decide (0 ≤ s) && !m.testBit s.toNat
    · exact h
    · simp only [cond_true]
      have := hv.1
      exact clo_lt hv (move_rng hv hs) (Nat.or_lt_two_pow (n := 12) h (Nat.pow_lt_pow_right (by decide) (by omega)))
theorem cloR_lt {S : Int} {A : List Bool} {N : List (List Int)} {c s : Int} (hv : ValidA S A N) (hs : -1 ≤ s ∧ s ≤ (A.length : Int) - 1) : cloR N c s < 4096 := clo_lt hv hs (by decide)
/-- TestClosure -/
noncomputable def tcR (S : Int) (A : List Bool) (N : List (List Int)) (s v : Int) : List Int := bif tt (ValidA S A N ∧ (0 ≤ s ∧ s ≤ A.length - 1) ∧ 0 ≤ v ∧ v ≤ 2) then bitsL (cloR N (6 + v) s) 30 else []
theorem tcR_n {S : Int} {A : List Bool} {N : List (List Int)} {s v : Int} (h : ¬ (ValidA S A N ∧ (0 ≤ s ∧ s ≤ A.length - 1) ∧ 0 ≤ v ∧ v ≤ 2)) : [] = tcR S A N s v := by unfold tcR; rw [← tt_false h]; rfl
theorem tcR_y {S : Int} {A : List Bool} {N : List (List Int)} {s v : Int} (h : ValidA S A N) (h1 : 0 ≤ s ∧ s ≤ A.length - 1) (h2 : 0 ≤ v ∧ v ≤ 2) : bitsL (cloR N (6 + v) s) 30 = tcR S A N s v := by unfold tcR; rw [← tt_true ⟨h, h1, h2⟩]; rfl
theorem tcR_len (S : Int) (A : List Bool) (N : List (List Int)) (s v : Int) : (tcR S A N s v).length ≤ 30 := by
  by_cases h : ValidA S A N ∧ (0 ≤ s ∧ s ≤ A.length - 1) ∧ 0 ≤ v ∧ v ≤ 2
  · rw [← tcR_y h.1 h.2.1 h.2.2]; exact bitsL_len _ _
  · rw [← tcR_n h]; simp
end Go.KLib

/- Counted runs. -/
namespace Go.KLib

def mn (x : Int) : Int := if x < 1000000 then x else 1000000
abbrev Rg9 (l : List Int) : Prop := ∀ x ∈ l, 0 ≤ x ∧ x ≤ 1000000
def crB (T c : Int) (nx : List Int) (k : Nat) : List Int := bif decide (0 < c) && decide (iand (ishr T k) 1 = 1) then nx.set k (mn (nx.getD k 0 + c)) else nx
def cr1 (T c : Int) (nx : List Int) : Nat → List Int
  | 0 => nx
  | k + 1 => crB T c (cr1 T c nx k) k
def cr2 (Tf : Nat → Int) (ns nx : List Int) (m : Nat) : Nat → List Int
  | 0 => nx
  | s + 1 => cr1 (Tf s) (ns.getD s 0) (cr2 Tf ns nx m s) m
section
variable (L : List Int) (f : Int) (F wd : List Int)
def crT (i s : Nat) : Int := afterP L f F (ishl 1 s) (wd.getD i 0)
def crN : Nat → List Int
  | 0 => (List.replicate (L.length + 1) 0).set 0 1
  | i + 1 => cr2 (crT L f F wd i) (crN i) (List.replicate (L.length + 1) 0) (L.length + 1) (L.length + 1)
def crS (i s : Nat) : List Int := cr2 (crT L f F wd i) (crN L f F wd i) (List.replicate (L.length + 1) 0) (L.length + 1) s
def crK (i s k : Nat) : List Int := cr1 (crT L f F wd i s) ((crN L f F wd i).getD s 0) (crS L f F wd i s) k
end
theorem crB_len (T c : Int) (nx : List Int) (k : Nat) : (crB T c nx k).length = nx.length := by
  unfold crB; cases (decide (0 < c) && decide (iand (ishr T k) 1 = 1)) <;> simp
theorem cr1_len (T c : Int) (nx : List Int) : ∀ k, (cr1 T c nx k).length = nx.length
  | 0 => rfl
  | k + 1 => by unfold cr1; rw [crB_len, cr1_len T c nx k]
theorem cr2_len (Tf : Nat → Int) (ns nx : List Int) (m : Nat) : ∀ s, (cr2 Tf ns nx m s).length = nx.length
  | 0 => rfl
  | s + 1 => by unfold cr2; rw [cr1_len, cr2_len Tf ns nx m s]
theorem crN_len (L : List Int) (f : Int) (F wd : List Int) : ∀ i, (crN L f F wd i).length = L.length + 1
  | 0 => by simp [crN]
  | i + 1 => by unfold crN; rw [cr2_len]; simp
theorem crS_len (L : List Int) (f : Int) (F wd : List Int) (i s : Nat) : (crS L f F wd i s).length = L.length + 1 := by unfold crS; rw [cr2_len]; simp
theorem crK_len (L : List Int) (f : Int) (F wd : List Int) (i s k : Nat) : (crK L f F wd i s k).length = L.length + 1 := by unfold crK; rw [cr1_len, crS_len]
theorem rg9_get {l : List Int} (h : Rg9 l) (k : Nat) : 0 ≤ l.getD k 0 ∧ l.getD k 0 ≤ 1000000 := by
  rw [List.getD_eq_getElem?_getD]
  rcases hq : l[k]? with _ | x
  · simp
  · exact h x (mem_of_get hq)
theorem rg9_set {l : List Int} (h : Rg9 l) {k : Nat} {x : Int} (hx : 0 ≤ x ∧ x ≤ 1000000) : Rg9 (l.set k x) := fun y hy => by
  rcases List.mem_or_eq_of_mem_set hy with h1 | h1
  · exact h y h1
  · rw [h1]; exact hx
theorem crB_rg {T c : Int} {nx : List Int} {k : Nat} (h : Rg9 nx) : Rg9 (crB T c nx k) := by
  unfold crB
  cases hc : (decide (0 < c) && decide (iand (ishr T k) 1 = 1))
  · exact h
  · have h1 := rg9_get h k
    rw [Bool.and_eq_true, decide_eq_true_eq] at hc
    exact rg9_set h (by have := hc.1; unfold mn; split <;> omega)
theorem cr1_rg {T c : Int} {nx : List Int} (h : Rg9 nx) : ∀ k, Rg9 (cr1 T c nx k)
  | 0 => h
  | k + 1 => crB_rg (cr1_rg h k)
theorem cr2_rg {Tf : Nat → Int} {ns nx : List Int} {m : Nat} (h : Rg9 nx) : ∀ s, Rg9 (cr2 Tf ns nx m s)
  | 0 => h
  | s + 1 => cr1_rg (cr2_rg h s) m
theorem rg9_zero (n : Nat) : Rg9 (List.replicate n 0) := fun x hx => by rw [(List.mem_replicate.1 hx).2]; decide
theorem crN_rg (L : List Int) (f : Int) (F wd : List Int) : ∀ i, Rg9 (crN L f F wd i)
  | 0 => rg9_set (rg9_zero _) (by decide)
  | i + 1 => cr2_rg (rg9_zero _) _
theorem crS_rg (L : List Int) (f : Int) (F wd : List Int) (i s : Nat) : Rg9 (crS L f F wd i s) := cr2_rg (rg9_zero _) _
theorem crK_rg (L : List Int) (f : Int) (F wd : List Int) (i s k : Nat) : Rg9 (crK L f F wd i s k) := cr1_rg (crS_rg L f F wd i s) _
section
variable {L : List Int} {f : Int} {F wd : List Int} {i s k : Nat} {y c x : Int}
theorem crn_val (h : (crN L f F wd i)[s]? = some c) : 0 ≤ c ∧ c ≤ 1000000 := crN_rg L f F wd i c (mem_of_get h)
theorem crk_val (h : (crK L f F wd i s k)[k]? = some c) : 0 ≤ c ∧ c ≤ 1000000 := crK_rg L f F wd i s k c (mem_of_get h)
theorem crk_at (hy : wd[i]? = some y) (hc : (crN L f F wd i)[s]? = some c) : crK L f F wd i s (k + 1) = crB (afterP L f F (ishl 1 s) y) c (crK L f F wd i s k) k := by
  have e1 : crT L f F wd i s = afterP L f F (ishl 1 s) y := by unfold crT; rw [List.getD_eq_getElem?_getD, hy]; rfl
  have e2 : (crN L f F wd i).getD s 0 = c := by rw [List.getD_eq_getElem?_getD, hc]; rfl
  rw [show crK L f F wd i s (k + 1) = crB (crT L f F wd i s) ((crN L f F wd i).getD s 0) (crK L f F wd i s k) k from rfl, e1, e2]
theorem crk_y (hy : wd[i]? = some y) (hc : (crN L f F wd i)[s]? = some c) (hx : (crK L f F wd i s k)[k]? = some x) (h0 : 0 < c) (hb : iand (ishr (afterP L f F (ishl 1 s) y) k) 1 = 1) : (crK L f F wd i s k).set k (mn (x + c)) = crK L f F wd i s (k + 1) := by
  rw [crk_at hy hc]; unfold crB
  rw [decide_eq_true h0, decide_eq_true hb, List.getD_eq_getElem?_getD, hx]; rfl
theorem crk_n (hy : wd[i]? = some y) (hc : (crN L f F wd i)[s]? = some c) (hb : ¬ iand (ishr (afterP L f F (ishl 1 s) y) k) 1 = 1) : crK L f F wd i s k = crK L f F wd i s (k + 1) := by
  rw [crk_at hy hc]; unfold crB
  rw [decide_eq_false hb, Bool.and_false]; rfl
theorem crk_stop (hc : (crN L f F wd i)[s]? = some c) (h0 : ¬ 0 < c) : ∀ k, crK L f F wd i s k = crS L f F wd i s
  | 0 => rfl
  | k + 1 => by
    have e2 : (crN L f F wd i).getD s 0 = c := by rw [List.getD_eq_getElem?_getD, hc]; rfl
    rw [show crK L f F wd i s (k + 1) = crB (crT L f F wd i s) ((crN L f F wd i).getD s 0) (crK L f F wd i s k) k from rfl, e2]
    unfold crB; rw [decide_eq_false h0]; exact crk_stop hc h0 k
theorem crs_next : crK L f F wd i s (L.length + 1) = crS L f F wd i (s + 1) := rfl
theorem crs_end1 (h : k = L.length + 1) : crK L f F wd i s k = crS L f F wd i (s + 1) := by subst h; rfl
theorem crs_end2 (hc : (crN L f F wd i)[s]? = some c) (h0 : ¬ 0 < c) : crK L f F wd i s k = crS L f F wd i (s + 1) := by
  rw [crk_stop hc h0 k, ← crk_stop hc h0 (L.length + 1)]; rfl
theorem crn_end (h : s = L.length + 1) : crS L f F wd i s = crN L f F wd (i + 1) := by subst h; rfl
end
def crSum (last : Int) (nl : Bool) (n : List Int) : Nat → Int
  | 0 => 0
  | s + 1 => bif accB last nl (ishl 1 s) then mn (crSum last nl n s + n.getD s 0) else crSum last nl n s
theorem crsum_y {last : Int} {nl : Bool} {n : List Int} {s : Nat} {t c : Int} (ht : t = crSum last nl n s) (hc : n[s]? = some c) (hb : accB last nl (ishl 1 s) = true) : mn (t + c) = crSum last nl n (s + 1) := by
  unfold crSum; rw [hb, cond_true, List.getD_eq_getElem?_getD, hc, ht]; rfl
theorem crsum_n {last : Int} {nl : Bool} {n : List Int} {s : Nat} {t : Int} (ht : t = crSum last nl n s) (hb : accB last nl (ishl 1 s) = false) : t = crSum last nl n (s + 1) := by
  unfold crSum; rw [hb, cond_false, ht]
noncomputable def crR (L : List Int) (f last : Int) (F : List Int) (nl : Bool) (wd : List Int) : Int := bif tt (ValidP L f last F ∧ IsWd wd) then crSum last nl (crN L f F wd wd.length) (L.length + 1) else 0
theorem crr_y {L : List Int} {f last : Int} {F : List Int} {nl : Bool} {wd : List Int} {i s : Nat} {t : Int} (h1 : ValidP L f last F) (h2 : IsWd wd) (ht : t = crSum last nl (crN L f F wd i) s) (hi : i = wd.length) (hs : s = L.length + 1) : t = crR L f last F nl wd := by
  subst hi hs; unfold crR; rw [← tt_true ⟨h1, h2⟩]; exact ht
theorem crr_n {L : List Int} {f last : Int} {F : List Int} {nl : Bool} {wd : List Int} (h : ¬ (ValidP L f last F ∧ IsWd wd)) : 0 = crR L f last F nl wd := by unfold crR; rw [← tt_false h]; rfl
end Go.KLib

/- Graphs. -/
namespace Go.KLib

def EdgeOk (n : Int) (e : GEdge) : Prop := (1 ≤ e.id ∧ e.id ≤ 99) ∧ (0 ≤ e.f ∧ e.f ≤ n) ∧ (0 ≤ e.t ∧ e.t ≤ n) ∧ (0 ≤ e.label ∧ e.label ≤ 2)
def ValsP (V : List Int) (k : Nat) : Prop := ∀ (i : Nat) (v : Int), i < k → V[i]? = some v → 0 ≤ v ∧ v ≤ 2
def EdgesP (n : Int) (E : List GEdge) (k : Nat) : Prop := ∀ (i : Nat) (e : GEdge), i < k → E[i]? = some e → EdgeOk n e ∧ ∀ d, 0 < i → E[i - 1]? = some d → d.id < e.id
def ValidG (V : List Int) (E : List GEdge) : Prop := ValsP V V.length ∧ EdgesP ((V.length : Int) - 1) E E.length ∧ (1 ≤ V.length ∧ V.length ≤ 5) ∧ E.length ≤ 12
theorem vals_zero (V : List Int) : ValsP V 0 := fun _ _ h => absurd h (by omega)
theorem vals_step {V : List Int} {k : Nat} {y : Int} (h : ValsP V k) (hy : V[k]? = some y) (h1 : 0 ≤ y ∧ y ≤ 2) : ValsP V (k + 1) := fun i v hi hv => by
  by_cases e : i = k
  · subst e; rw [hy] at hv; injection hv with hv; subst hv; exact h1
  · exact h i v (by omega) hv
theorem vals_val {V : List Int} {k : Nat} {y : Int} {E : List GEdge} (h : ValidG V E) (hy : V[k]? = some y) : 0 ≤ y ∧ y ≤ 2 := h.1 k y (List.getElem?_eq_some_iff.1 hy).1 hy
theorem edges_zero (n : Int) (E : List GEdge) : EdgesP n E 0 := fun _ _ h => absurd h (by omega)
theorem edges_step {n : Int} {E : List GEdge} {k : Nat} {y d : GEdge} (h : EdgesP n E k) (hy : E[k]? = some y) (h1 : EdgeOk n y) (hd : E[k - 1]? = some d) (h2 : d.id < y.id) : EdgesP n E (k + 1) := fun i e hi he => by
  by_cases q : i = k
  · subst q; rw [hy] at he; injection he with he; subst he
    exact ⟨h1, fun d' _ hd' => by rw [hd] at hd'; injection hd' with hd'; subst hd'; exact h2⟩
  · exact h i e (by omega) he
theorem edges_step0 {n : Int} {E : List GEdge} {k : Nat} {y : GEdge} (h : EdgesP n E k) (hy : E[k]? = some y) (h1 : EdgeOk n y) (h0 : ¬ 0 < k) : EdgesP n E (k + 1) := fun i e hi he => by
  by_cases q : i = k
  · subst q; rw [hy] at he; injection he with he; subst he
    exact ⟨h1, fun d' h3 => absurd h3 h0⟩
  · exact h i e (by omega) he
theorem edge_val {V : List Int} {k : Nat} {y : GEdge} {E : List GEdge} (h : ValidG V E) (hy : E[k]? = some y) : EdgeOk ((V.length : Int) - 1) y := (h.2.1 k y (List.getElem?_eq_some_iff.1 hy).1 hy).1
theorem gedge_lt {V : List Int} {k : Nat} {y d : GEdge} {E : List GEdge} (h : ValidG V E) (hy : E[k]? = some y) (h0 : 0 < k) (hd : E[k - 1]? = some d) : d.id < y.id := (h.2.1 k y (List.getElem?_eq_some_iff.1 hy).1 hy).2 d h0 hd
theorem gedge_lt2 {V : List Int} {k j : Nat} {y d : GEdge} {E : List GEdge} (h : ValidG V E) (hy : E[k]? = some y) (hd : E[j]? = some d) (hj : j + 1 = k) : d.id < y.id := by
  subst hj; exact gedge_lt h hy (by omega) hd
theorem edges_stepj {n : Int} {E : List GEdge} {k j : Nat} {y d : GEdge} (h : EdgesP n E k) (hy : E[k]? = some y) (h1 : EdgeOk n y) (hd : E[j]? = some d) (hj : j + 1 = k) (h2 : d.id < y.id) : EdgesP n E (k + 1) := by
  subst hj; exact edges_step h hy h1 hd h2
theorem vg_y {V : List Int} {E : List GEdge} {k q : Nat} (hv : ValsP V k) (hk : V.length ≤ k) (he : EdgesP ((V.length : Int) - 1) E q) (hq : E.length ≤ q) (h : 1 ≤ V.length ∧ V.length ≤ 5) : decide ((E.length : Int) ≤ 12) = tt (ValidG V E) := by
  rw [tt_dec]
  exact tt_eq ⟨fun h2 => ⟨fun i v hi hx => hv i v (by omega) hx, fun i e hi hx => he i e (by omega) hx, h, by omega⟩, fun h2 => by have := h2.2.2.2; omega⟩
/-! ### Acceptance at a node -/
theorem clo_pow {S : Int} {A : List Bool} {N : List (List Int)} {c : Int} (hv : ValidA S A N) : ∀ {f s m}, (-1 ≤ s ∧ s ≤ (A.length : Int) - 1) → m < 2 ^ A.length → clo N c f s m < 2 ^ A.length
  | 0, _, _, _, h => h
  | f + 1, s, m, hs, h => by
    unfold clo
    cases hc : decide (0 ≤ s) && !m.testBit s.toNat
    · exact h
    · simp only [cond_true]
      rw [Bool.and_eq_true, decide_eq_true_eq] at hc
      exact clo_pow hv (move_rng hv hs) (Nat.or_lt_two_pow h (Nat.pow_lt_pow_right (by decide) (by have := hc.1; omega)))
theorem cloR_pow {S : Int} {A : List Bool} {N : List (List Int)} {c s : Int} (hv : ValidA S A N) (hs : -1 ≤ s ∧ s ≤ (A.length : Int) - 1) : cloR N c s < 2 ^ A.length := clo_pow hv hs (Nat.pow_pos (by decide))
theorem bitsL_mem {m k : Nat} {x : Int} : x ∈ bitsL m k ↔ 0 ≤ x ∧ x.toNat < k ∧ m.testBit x.toNat = true := by
  unfold bitsL
  rw [List.mem_map]
  constructor
  · rintro ⟨i, hi, rfl⟩
    rw [List.mem_filter, List.mem_range] at hi
    simp only [Int.toNat_natCast]
    exact ⟨by omega, hi.1, hi.2⟩
  · rintro ⟨h0, h1, h2⟩
    exact ⟨x.toNat, by rw [List.mem_filter, List.mem_range]; exact ⟨h1, h2⟩, by omega⟩
theorem bits_lt {m n : Nat} {x : Int} (hm : m < 2 ^ n) (hx : x ∈ bitsL m 30) : 0 ≤ x ∧ x.toNat < n := by
  obtain ⟨h0, _, h2⟩ := bitsL_mem.1 hx
  refine ⟨h0, ?_⟩
  rcases Nat.lt_or_ge x.toNat n with h | h
  · exact h
  · rw [Nat.testBit_lt_two_pow (Nat.lt_of_lt_of_le hm (Nat.pow_le_pow_right (by decide) h))] at h2; cases h2
/-- one of the first k states of the set accepts -/
def AccP (A : List Bool) (m k : Nat) : Prop := ∀ q, q < k → m.testBit q = true → A[q]? ≠ some true
def accN (A : List Bool) (m : Nat) : Bool := (bitsL m 30).any fun q => A.getD q.toNat false
end Go.KLib

/- Classes of states: the refinement, and that both ways of stopping give the same. -/
namespace Go.KLib

theorem Od.rng {α : Type} {cs : α → List Value} {e k : Nat} {w : World} {lo hi : Nat} {vs : List Sv} {xs : List (List α)} (h : Od cs e k w lo hi vs xs) {u : Sv} (hu : u ∈ vs) {g : Nat} (hg : g ∈ bl u.v) : lo ≤ g ∧ g < hi := by
  obtain ⟨i, hi, rfl⟩ := List.getElem_of_mem hu
  obtain ⟨x, _, _, h3⟩ := h.ownget (List.getElem?_eq_getElem hi)
  exact h3 g hg
theorem asc_eq0 : ∀ {a b : List Int}, a.Pairwise (· < ·) → b.Pairwise (· < ·) → (∀ x, x ∈ a ↔ x ∈ b) → a = b
  | [], [], _, _, _ => rfl
  | [], y :: b, _, _, h => by have := (h y).2 (List.mem_cons_self ..); cases this
  | x :: a, [], _, _, h => by have := (h x).1 (List.mem_cons_self ..); cases this
  | x :: a, y :: b, ha, hb, h => by
    rw [List.pairwise_cons] at ha hb
    have e : x = y := by
      have h1 := (h x).1 (List.mem_cons_self ..)
      have h2 := (h y).2 (List.mem_cons_self ..)
      rcases List.mem_cons.1 h1 with h1 | h1
      · exact h1
      · rcases List.mem_cons.1 h2 with h2 | h2
        · exact h2.symm
        · have := hb.1 x h1; have := ha.1 y h2; omega
    subst e
    rw [asc_eq0 ha.2 hb.2 fun z => ?_]
    constructor
    · intro hz
      rcases List.mem_cons.1 ((h z).1 (List.mem_cons_of_mem _ hz)) with q | q
      · have := ha.1 z hz; omega
      · exact q
    · intro hz
      rcases List.mem_cons.1 ((h z).2 (List.mem_cons_of_mem _ hz)) with q | q
      · have := hb.1 z hz; omega
      · exact q
def keyE (C : List Int) (t : Int) : Int := if t < 0 then -1 else C.getD t.toNat 0
def keyC (C : List Int) (r : List Int) (c : Int) : List Int := c :: r.map (keyE C)
/-- the first place of x, or -1 -/
def ixL (K : List (List Int)) (x : List Int) : Int := if x ∈ K then (K.idxOf x : Int) else -1
/-- classes refined: the keys, and the new classes of the first s states -/
def rfn (C : List Int) (N : List (List Int)) : Nat → List (List Int) × List Int
  | 0 => ([], [])
  | s + 1 =>
    let p := rfn C N s
    let c := C.getD s 0
    if c < 0 then (p.1, p.2 ++ [-1])
    else if keyC C (N.getD s []) c ∈ p.1 then (p.1, p.2 ++ [(p.1.idxOf (keyC C (N.getD s []) c) : Int)])
    else (p.1 ++ [keyC C (N.getD s []) c], p.2 ++ [(p.1.length : Int)])
def mxC (C : List Int) : Nat → Nat
  | 0 => 0
  | s + 1 => if C.getD s 0 = (mxC C s : Int) then mxC C s + 1 else mxC C s
def CanC (C : List Int) (n : Nat) : Prop := ∀ s, s < n → C.getD s 0 = -1 ∨ (0 ≤ C.getD s 0 ∧ C.getD s 0 ≤ mxC C s)
section
variable {C : List Int} {N : List (List Int)}
theorem rfn_n {s : Nat} (h : C.getD s 0 < 0) : rfn C N (s + 1) = ((rfn C N s).1, (rfn C N s).2 ++ [-1]) := by
  show (if _ then _ else _) = _
  rw [if_pos h]
theorem rfn_o {s : Nat} (h : ¬ C.getD s 0 < 0) (hk : keyC C (N.getD s []) (C.getD s 0) ∈ (rfn C N s).1) : rfn C N (s + 1) = ((rfn C N s).1, (rfn C N s).2 ++ [((rfn C N s).1.idxOf (keyC C (N.getD s []) (C.getD s 0)) : Int)]) := by
  show (if _ then _ else _) = _
  rw [if_neg h, if_pos hk]
theorem rfn_new {s : Nat} (h : ¬ C.getD s 0 < 0) (hk : ¬ keyC C (N.getD s []) (C.getD s 0) ∈ (rfn C N s).1) : rfn C N (s + 1) = ((rfn C N s).1 ++ [keyC C (N.getD s []) (C.getD s 0)], (rfn C N s).2 ++ [((rfn C N s).1.length : Int)]) := by
  show (if _ then _ else _) = _
  rw [if_neg h, if_neg hk]
theorem rfn_cases (C : List Int) (N : List (List Int)) (s : Nat) :
    (C.getD s 0 < 0 ∧ rfn C N (s + 1) = ((rfn C N s).1, (rfn C N s).2 ++ [-1])) ∨
    (¬ C.getD s 0 < 0 ∧ keyC C (N.getD s []) (C.getD s 0) ∈ (rfn C N s).1 ∧ rfn C N (s + 1) = ((rfn C N s).1, (rfn C N s).2 ++ [((rfn C N s).1.idxOf (keyC C (N.getD s []) (C.getD s 0)) : Int)])) ∨
    (¬ C.getD s 0 < 0 ∧ ¬ keyC C (N.getD s []) (C.getD s 0) ∈ (rfn C N s).1 ∧ rfn C N (s + 1) = ((rfn C N s).1 ++ [keyC C (N.getD s []) (C.getD s 0)], (rfn C N s).2 ++ [((rfn C N s).1.length : Int)])) := by
  by_cases h : C.getD s 0 < 0
  · exact .inl ⟨h, rfn_n h⟩
  · by_cases hk : keyC C (N.getD s []) (C.getD s 0) ∈ (rfn C N s).1
    · exact .inr (.inl ⟨h, hk, rfn_o h hk⟩)
    · exact .inr (.inr ⟨h, hk, rfn_new h hk⟩)
theorem rfn_len (C : List Int) (N : List (List Int)) : ∀ s, (rfn C N s).2.length = s ∧ (rfn C N s).1.length ≤ s
  | 0 => ⟨rfl, Nat.le_refl _⟩
  | s + 1 => by
    obtain ⟨h1, h2⟩ := rfn_len C N s
    rcases rfn_cases C N s with ⟨_, e⟩ | ⟨_, _, e⟩ | ⟨_, _, e⟩ <;> rw [e] <;> simp <;> omega
theorem mx_append (C : List Int) (x : Int) : ∀ {s}, s ≤ C.length → mxC (C ++ [x]) s = mxC C s
  | 0, _ => rfl
  | s + 1, h => by
    have e : (C ++ [x]).getD s 0 = C.getD s 0 := by
      rw [List.getD_eq_getElem?_getD, List.getD_eq_getElem?_getD, List.getElem?_append_left (by omega)]
    unfold mxC; rw [e, mx_append C x (by omega : s ≤ C.length)]
theorem getD_at (C : List Int) (x : Int) : (C ++ [x]).getD C.length 0 = x := by simp [List.getD_eq_getElem?_getD]
theorem can_append {C : List Int} {x : Int} (h : CanC C C.length) (hx : x = -1 ∨ (0 ≤ x ∧ x ≤ mxC C C.length)) : CanC (C ++ [x]) (C.length + 1) := fun s hs => by
  rcases Nat.lt_or_ge s C.length with h1 | h1
  · have e : (C ++ [x]).getD s 0 = C.getD s 0 := by
      rw [List.getD_eq_getElem?_getD, List.getD_eq_getElem?_getD, List.getElem?_append_left (by omega)]
    rw [e, mx_append C x (by omega)]; exact h s h1
  · have e : s = C.length := by omega
    subst e; rw [getD_at, mx_append C x (Nat.le_refl _)]; exact hx
theorem mx_snoc (C : List Int) (x : Int) : mxC (C ++ [x]) (C.length + 1) = if x = (mxC C C.length : Int) then mxC C C.length + 1 else mxC C C.length := by
  show (if _ then _ else _) = _
  rw [getD_at, mx_append C x (Nat.le_refl _)]
/-- what comes out is numbered by first places -/
theorem rfn_can (C : List Int) (N : List (List Int)) : ∀ s, CanC (rfn C N s).2 s ∧ mxC (rfn C N s).2 s = (rfn C N s).1.length
  | 0 => ⟨fun _ h => absurd h (by omega), rfl⟩
  | s + 1 => by
    obtain ⟨h1, h2⟩ := rfn_can C N s
    have hl := (rfn_len C N s).1
    have hc : CanC (rfn C N s).2 (rfn C N s).2.length := by rw [hl]; exact h1
    have hm : mxC (rfn C N s).2 (rfn C N s).2.length = (rfn C N s).1.length := by rw [hl]; exact h2
    rcases rfn_cases C N s with ⟨_, e⟩ | ⟨_, hk, e⟩ | ⟨_, _, e⟩ <;> rw [e]
    · have a := can_append (x := -1) hc (.inl rfl); have b := mx_snoc (rfn C N s).2 (-1)
      rw [hl] at a b; refine ⟨a, ?_⟩; rw [b, h2, if_neg (by omega)]
    · have hi := List.idxOf_lt_length_of_mem hk
      have a := can_append (x := ((rfn C N s).1.idxOf (keyC C (N.getD s []) (C.getD s 0)) : Int)) hc (.inr ⟨by omega, by rw [hm]; omega⟩)
      have b := mx_snoc (rfn C N s).2 ((rfn C N s).1.idxOf (keyC C (N.getD s []) (C.getD s 0)) : Int)
      rw [hl] at a b; refine ⟨a, ?_⟩; rw [b, h2, if_neg (by omega)]
    · have a := can_append (x := ((rfn C N s).1.length : Int)) hc (.inr ⟨by omega, by rw [hm]; omega⟩)
      have b := mx_snoc (rfn C N s).2 ((rfn C N s).1.length : Int)
      rw [hl] at a b; refine ⟨a, ?_⟩; rw [b, h2, if_pos rfl]; simp
/-- the heads of the keys are classes that came; as many keys as classes: nothing was divided -/
theorem rfn_same {n : Nat} (hc : CanC C n) : ∀ {s}, s ≤ n → (∀ x ∈ (rfn C N s).1, ∃ c r, x = keyC C r c ∧ 0 ≤ c ∧ c < mxC C s) ∧ mxC C s ≤ (rfn C N s).1.length ∧
    ((rfn C N s).1.length = mxC C s → (rfn C N s).2 = (List.range s).map (fun i => C.getD i 0) ∧ ∀ (j : Nat) (x : List Int), (rfn C N s).1[j]? = some x → ∃ r, x = keyC C r j)
  | 0, _ => ⟨fun _ h => absurd h (by simp [rfn]), Nat.le_refl _, fun _ => ⟨rfl, fun _ _ h => by simp [rfn] at h⟩⟩
  | s + 1, hs => by
    obtain ⟨h1, h2, h3⟩ := rfn_same hc (by omega : s ≤ n)
    have hcs := hc s (by omega)
    have hm : mxC C (s + 1) = if C.getD s 0 = (mxC C s : Int) then mxC C s + 1 else mxC C s := rfl
    rcases rfn_cases C N s with ⟨h, e⟩ | ⟨h, hk, e⟩ | ⟨h, hk, e⟩ <;> rw [e]
    · rw [hm, if_neg (by omega)]
      refine ⟨h1, h2, fun e => ⟨?_, (h3 e).2⟩⟩
      rw [List.range_succ, List.map_append, ← (h3 e).1, List.map_singleton, show C.getD s 0 = -1 by omega]
    · obtain ⟨c, r, e1, e2, e3⟩ := h1 _ hk
      have ec : C.getD s 0 = c := (List.cons.inj e1).1
      have hlt : ¬ C.getD s 0 = (mxC C s : Int) := by omega
      rw [hm, if_neg hlt]
      refine ⟨h1, h2, fun e => ⟨?_, (h3 e).2⟩⟩
      have hi := List.idxOf_lt_length_of_mem hk
      obtain ⟨r', e4⟩ := (h3 e).2 _ _ (List.getElem?_eq_getElem hi)
      rw [List.getElem_idxOf hi] at e4
      have e5 : C.getD s 0 = ((rfn C N s).1.idxOf (keyC C (N.getD s []) (C.getD s 0)) : Int) := (List.cons.inj e4).1
      rw [List.range_succ, List.map_append, ← (h3 e).1, List.map_singleton, ← e5]
    · by_cases hq : C.getD s 0 = (mxC C s : Int)
      · rw [hm, if_pos hq]
        refine ⟨fun x hx => ?_, by simp only [List.length_append, List.length_singleton]; omega, fun e => ?_⟩
        · rcases List.mem_append.1 hx with hx | hx
          · obtain ⟨c, r, e1, e2, e3⟩ := h1 x hx; exact ⟨c, r, e1, e2, by omega⟩
          · rw [List.mem_singleton.1 hx]; exact ⟨_, _, rfl, by omega, by omega⟩
        · have e' : (rfn C N s).1.length = mxC C s := by simp only [List.length_append, List.length_singleton] at e; omega
          refine ⟨by rw [List.range_succ, List.map_append, ← (h3 e').1, List.map_singleton, hq, e'], fun j x hx => ?_⟩
          rcases get_snoc hx with ⟨a, b⟩ | ⟨a, b⟩
          · exact (h3 e').2 j x b
          · exact ⟨N.getD s [], by rw [b, a, e', ← hq]⟩
      · rw [hm, if_neg hq]
        refine ⟨fun x hx => ?_, by simp only [List.length_append, List.length_singleton]; omega, fun e => ?_⟩
        · rcases List.mem_append.1 hx with hx | hx
          · exact h1 x hx
          · rw [List.mem_singleton.1 hx]; exact ⟨_, _, rfl, by omega, by omega⟩
        · simp only [List.length_append, List.length_singleton] at e; omega
end
/-- the classes from round to round -/
def clsD (N : List (List Int)) (D0 : List Int) (n : Nat) : Nat → List Int
  | 0 => D0
  | i + 1 => (rfn (clsD N D0 n i) N n).2
def clsN (N : List (List Int)) (D0 : List Int) (n : Nat) (i : Nat) : Nat := (rfn (clsD N D0 n i) N n).1.length
section
variable {N : List (List Int)} {D0 : List Int} {n : Nat}
theorem clsD_len (h0 : D0.length = n) : ∀ i, (clsD N D0 n i).length = n
  | 0 => h0
  | i + 1 => (rfn_len _ N n).1
theorem cls_le (i : Nat) : clsN N D0 n i ≤ n := (rfn_len _ N n).2
theorem list_get (C : List Int) : (List.range C.length).map (fun i => C.getD i 0) = C := by
  apply List.ext_getElem?
  intro i
  rcases Nat.lt_or_ge i C.length with h | h
  · simp [h, List.getD_eq_getElem?_getD]
  · rw [List.getElem?_eq_none (by simpa using h), List.getElem?_eq_none h]
theorem cls_mono (i : Nat) : clsN N D0 n i ≤ clsN N D0 n (i + 1) := by
  have h := rfn_can (clsD N D0 n i) N n
  have h2 := (rfn_same (N := N) (C := clsD N D0 n (i + 1)) h.1 (Nat.le_refl n)).2.1
  have e : mxC (clsD N D0 n (i + 1)) n = clsN N D0 n i := h.2
  rw [e] at h2; exact h2
theorem cls_stop (h0 : D0.length = n) {i : Nat} (h : clsN N D0 n (i + 1) = clsN N D0 n i) : clsD N D0 n (i + 2) = clsD N D0 n (i + 1) := by
  have h1 := rfn_can (clsD N D0 n i) N n
  have e : mxC (clsD N D0 n (i + 1)) n = clsN N D0 n i := h1.2
  have h2 := (rfn_same (N := N) (C := clsD N D0 n (i + 1)) h1.1 (Nat.le_refl n)).2.2 (by rw [e]; exact h)
  have h3 : clsD N D0 n (i + 2) = (List.range n).map fun j => (clsD N D0 n (i + 1)).getD j 0 := h2.1
  rw [h3]
  have hl := clsD_len (N := N) h0 (i + 1)
  have := list_get (clsD N D0 n (i + 1))
  rw [hl] at this; exact this
theorem cls_stay {i : Nat} (h : clsD N D0 n (i + 1) = clsD N D0 n i) : ∀ d, clsD N D0 n (i + d) = clsD N D0 n i
  | 0 => rfl
  | d + 1 => by
    show (rfn (clsD N D0 n (i + d)) N n).2 = _
    rw [cls_stay h d]; exact h
theorem cls_grow {i : Nat} (h : ∀ j, j < i → clsN N D0 n (j + 1) ≠ clsN N D0 n j) : i ≤ clsN N D0 n i := by
  induction i with
  | zero => exact Nat.zero_le _
  | succ i ih =>
    have h1 := ih (fun j hj => h j (by omega))
    have h2 := h i (by omega)
    have h3 := cls_mono (N := N) (D0 := D0) (n := n) i
    omega
/-- behind as many rounds as there are states, and one, nothing changes -/
theorem cls_end (h0 : D0.length = n) (d : Nat) : clsD N D0 n (n + 2 + d) = clsD N D0 n (n + 2) := by
  by_cases h : ∀ j, j < n + 1 → clsN N D0 n (j + 1) ≠ clsN N D0 n j
  · have h1 := cls_grow h
    have h2 := cls_le (N := N) (D0 := D0) (n := n) (n + 1)
    omega
  · have ⟨j, hj, hq⟩ : ∃ j, j < n + 1 ∧ clsN N D0 n (j + 1) = clsN N D0 n j := by
      apply Classical.byContradiction; intro hh
      exact h fun j hj e => hh ⟨j, hj, e⟩
    have hs := cls_stop h0 hq
    have a := cls_stay hs (n + 2 + d - (j + 1)); have b := cls_stay hs (n + 2 - (j + 1))
    rw [show j + 1 + (n + 2 + d - (j + 1)) = n + 2 + d by omega] at a
    rw [show j + 1 + (n + 2 - (j + 1)) = n + 2 by omega] at b
    rw [a, b]
def clsF (N : List (List Int)) (D0 : List Int) (n : Nat) : List Int := clsD N D0 n (n + 2)
theorem cls_fix (h0 : D0.length = n) {i : Nat} (h : clsD N D0 n (i + 1) = clsD N D0 n i) : clsD N D0 n i = clsF N D0 n := by
  rcases Nat.lt_or_ge i (n + 2) with hi | hi
  · have a := cls_stay h (n + 2 - i)
    rw [show i + (n + 2 - i) = n + 2 by omega] at a; exact a.symm
  · have a := cls_end (N := N) h0 (i - (n + 2))
    rw [show n + 2 + (i - (n + 2)) = i by omega] at a; exact a
theorem cls_last (h0 : D0.length = n) : clsD N D0 n (n + 1) = clsF N D0 n := by
  by_cases h : ∀ j, j < n + 1 → clsN N D0 n (j + 1) ≠ clsN N D0 n j
  · have h1 := cls_grow h
    have h2 := cls_le (N := N) (D0 := D0) (n := n) (n + 1)
    omega
  · have ⟨j, hj, hq⟩ : ∃ j, j < n + 1 ∧ clsN N D0 n (j + 1) = clsN N D0 n j := by
      apply Classical.byContradiction; intro hh
      exact h fun j hj e => hh ⟨j, hj, e⟩
    have hs := cls_stop h0 hq
    have a := cls_stay hs (n + 1 - (j + 1)); have b := cls_stay hs (n + 2 - (j + 1))
    rw [show j + 1 + (n + 1 - (j + 1)) = n + 1 by omega] at a
    rw [show j + 1 + (n + 2 - (j + 1)) = n + 2 by omega] at b
    unfold clsF; rw [a, b]
theorem cls_cnt (h0 : D0.length = n) {i : Nat} (h : clsN N D0 n (i + 1) = clsN N D0 n i) : clsD N D0 n (i + 2) = clsF N D0 n := by
  have hs := cls_stop h0 h
  rw [hs]; exact cls_fix h0 hs
end
/-! ### acceptance at a node -/
def GoodP (V : List Int) (E : List GEdge) (S : Int) (A : List Bool) (N : List (List Int)) (node s : Int) : Prop := ValidG V E ∧ ValidA S A N ∧ (0 ≤ node ∧ node ≤ (V.length : Int) - 1) ∧ (0 ≤ s ∧ s ≤ (A.length : Int) - 1)
theorem good_y {V : List Int} {E : List GEdge} {S : Int} {A : List Bool} {N : List (List Int)} {node s : Int} (h1 : ValidG V E) (h2 : ValidA S A N) (h3 : 0 ≤ node ∧ node ≤ (V.length : Int) - 1) : decide (0 ≤ s ∧ s ≤ (A.length : Int) - 1) = tt (GoodP V E S A N node s) := by
  rw [tt_dec]; exact tt_eq ⟨fun h => ⟨h1, h2, h3, h⟩, fun h => h.2.2.2⟩
theorem acc_step1 {A : List Bool} {m k : Nat} {y : Bool} (h : AccP A m k) (hy : A[k]? = some y) (hb : y = false) : AccP A m (k + 1) := fun q hq hm => by
  by_cases e : q = k
  · subst e; rw [hy, hb]; intro hh; cases hh
  · exact h q (by omega) hm
theorem acc_step2 {A : List Bool} {m k : Nat} (h : AccP A m k) (hb : m.testBit k = false) : AccP A m (k + 1) := fun q hq hm => by
  by_cases e : q = k
  · subst e; rw [hb] at hm; cases hm
  · exact h q (by omega) hm
theorem acc_yes {A : List Bool} {m k : Nat} (hb : m.testBit k = true) (hk : k < 30) (hy : A[k]? = some true) : true = accN A m := by
  symm; unfold accN; rw [List.any_eq_true]
  exact ⟨(k : Int), bitsL_mem.2 ⟨by omega, by simpa using hk, by simpa using hb⟩, by rw [Int.toNat_natCast, List.getD_eq_getElem?_getD, hy]; rfl⟩
theorem acc_end {A : List Bool} {m k : Nat} (hm : m < 2 ^ A.length) (h : AccP A m k) (hk : A.length ≤ k) : false = accN A m := by
  symm; unfold accN; rw [List.any_eq_false]
  intro x hx hh
  have hl := bits_lt hm hx
  obtain ⟨_, _, hb⟩ := bitsL_mem.1 hx
  have := h x.toNat (by omega) hb
  rw [List.getD_eq_getElem?_getD] at hh
  rcases hq : A[x.toNat]? with _ | b
  · rw [hq] at hh; simp at hh
  · rw [hq] at hh this; simp at hh; subst hh; exact this rfl
theorem any_step {α : Type} {l : List α} {f : α → Bool} {k : Nat} {x : α} (h : (l.take k).any f = false) (hx : l[k]? = some x) (hf : f x = false) : (l.take (k + 1)).any f = false := by
  rw [take_snoc hx, List.any_append, h]; simp [hf]
theorem any_end {α : Type} {l : List α} {f : α → Bool} {k : Nat} (h : (l.take k).any f = false) (hk : l.length ≤ k) : l.any f = false := by rwa [List.take_of_length_le hk] at h
theorem any_hit {α : Type} {l : List α} {f : α → Bool} {k : Nat} {x : α} (hx : l[k]? = some x) (hf : f x = true) : l.any f = true := by
  rw [List.any_eq_true]; exact ⟨x, mem_of_get hx, hf⟩
def accF (A : List Bool) : Int → Bool := fun q => A.getD q.toNat false
theorem accF_get {A : List Bool} {q : Int} {b : Bool} (h : A[q.toNat]? = some b) : accF A q = b := by unfold accF; rw [List.getD_eq_getElem?_getD, h]; rfl
theorem accN_any (A : List Bool) (m : Nat) : accN A m = (bitsL m 30).any (accF A) := rfl
def accG (A : List Bool) (N : List (List Int)) (c : Int) : Int → Bool := fun x => accN A (cloR N c x)
theorem acc_one {A : List Bool} {N : List (List Int)} {c s : Int} (h0 : 0 ≤ s) (h1 : s < 12) : (bitsL (ishl 1 s).toNat 30).any (accG A N c) = accN A (cloR N c s) := by
  obtain ⟨k, rfl⟩ := Int.eq_ofNat_of_zero_le h0
  have e : (ishl 1 (k : Int)).toNat = 2 ^ k := by rw [ishl_one (by omega)]; exact Int.toNat_natCast _
  have e2 : bitsL (2 ^ k) 30 = [(k : Int)] := by
    refine asc_eq0 ?_ (by simp) fun x => ?_
    · unfold bitsL
      rw [List.pairwise_map]
      exact List.Pairwise.imp (fun h => by omega) ((List.pairwise_lt_range (n := 30)).filter _)
    · rw [bitsL_mem, List.mem_singleton, Nat.testBit_two_pow, decide_eq_true_eq]
      constructor
      · rintro ⟨a, b, c⟩; omega
      · rintro rfl; exact ⟨h0, by simp; omega, by simp⟩
  rw [e, e2]; simp [accG]
theorem ishl_pow {s : Int} {n : Nat} (h0 : 0 ≤ s) (h1 : s < n) (hn : n ≤ 12) : 0 ≤ ishl 1 s ∧ (ishl 1 s).toNat < 2 ^ n := by
  obtain ⟨k, rfl⟩ := Int.eq_ofNat_of_zero_le h0
  rw [ishl_one (by omega), Int.toNat_natCast]
  exact ⟨Int.natCast_nonneg _, Nat.pow_lt_pow_right (by decide) (by omega)⟩
theorem pow12 {n : Nat} (hn : n ≤ 12) : 2 ^ n ≤ 4096 := Nat.pow_le_pow_right (n := 2) (by decide) hn
noncomputable def atR (V : List Int) (E : List GEdge) (S : Int) (A : List Bool) (N : List (List Int)) (node s : Int) : Bool := bif tt (GoodP V E S A N node s) then accN A (cloR N (6 + V.getD node.toNat 0) s) else false
theorem atR_y {V : List Int} {E : List GEdge} {S : Int} {A : List Bool} {N : List (List Int)} {node s : Int} (h : GoodP V E S A N node s) : accN A (cloR N (6 + V.getD node.toNat 0) s) = atR V E S A N node s := by unfold atR; rw [← tt_true h]; rfl
theorem atR_n {V : List Int} {E : List GEdge} {S : Int} {A : List Bool} {N : List (List Int)} {node s : Int} (h : ¬ GoodP V E S A N node s) : false = atR V E S A N node s := by unfold atR; rw [← tt_false h]; rfl
def NodesP (V : List Int) (ns : List Int) (k : Nat) : Prop := ∀ (i : Nat) (x : Int), i < k → ns[i]? = some x → 0 ≤ x ∧ x ≤ (V.length : Int) - 1
theorem nodes_step {V ns : List Int} {k : Nat} {y : Int} (h : NodesP V ns k) (hy : ns[k]? = some y) (h1 : 0 ≤ y ∧ y ≤ (V.length : Int) - 1) : NodesP V ns (k + 1) := fun i x hi hx => by
  by_cases e : i = k
  · subst e; rw [hy] at hx; injection hx with hx; subst hx; exact h1
  · exact h i x (by omega) hx
def BothP (V : List Int) (E : List GEdge) (S : Int) (A : List Bool) (N : List (List Int)) (ns : List Int) : Prop := NodesP V ns ns.length ∧ ValidG V E ∧ ValidA S A N
theorem at_node {V : List Int} {node : Int} {i : Nat} {x : Int} (hi : i < [node].length) (hx : [node][i]? = some x) (h : 0 ≤ node ∧ node ≤ (V.length : Int) - 1) : 0 ≤ x ∧ x ≤ (V.length : Int) - 1 := by
  have e : i = 0 := by simpa using hi
  subst e; simp at hx; subst hx; exact h
theorem at_y {V : List Int} {E : List GEdge} {S : Int} {A : List Bool} {N : List (List Int)} {node s v : Int} (h : BothP V E S A N [node]) (hs : ValidA S A N ∧ (0 ≤ s ∧ s ≤ (A.length : Int) - 1)) (hv : V[node.toNat]? = some v) : (bitsL (ishl 1 s).toNat 30).any (accG A N (6 + v)) = atR V E S A N node s := by
  have h1 := h.2.2.1
  rw [acc_one (by omega) (by omega)]
  rw [← atR_y ⟨h.2.1, h.2.2, h.1 0 node (by simp) rfl, hs.2⟩, List.getD_eq_getElem?_getD, hv]; rfl
theorem both_node {V : List Int} {E : List GEdge} {S : Int} {A : List Bool} {N : List (List Int)} {node : Int} (h : BothP V E S A N [node]) : 0 ≤ node ∧ node ≤ (V.length : Int) - 1 := h.1 0 node (by simp) rfl
/-! ### the walks' words -/
def keyP (C : List Int) (N : List (List Int)) (s k : Nat) : List Int := C.getD s 0 :: ((N.getD s []).take k).map (keyE C)
section
variable {C : List Int} {N : List (List Int)} {s k : Nat} {r : List Int} {c t y : Int}
theorem getD_of {β : Type} {l : List β} {i : Nat} {x d : β} (h : l[i]? = some x) : l.getD i d = x := by rw [List.getD_eq_getElem?_getD, h]; rfl
theorem keyp_zero (hc : C[s]? = some c) : [c] = keyP C N s 0 := by unfold keyP; rw [getD_of hc]; rfl
theorem keyp_n (hr : N[s]? = some r) (ht : r[k]? = some t) (h : t < 0) : keyP C N s k ++ [-1] = keyP C N s (k + 1) := by
  unfold keyP; rw [getD_of hr, take_snoc ht, List.map_append]; simp [keyE, h]
theorem keyp_y (hr : N[s]? = some r) (ht : r[k]? = some t) (h : ¬ t < 0) (hy : C[t.toNat]? = some y) : keyP C N s k ++ [y] = keyP C N s (k + 1) := by
  unfold keyP; rw [getD_of hr, take_snoc ht, List.map_append]; simp [keyE, h, List.getD_eq_getElem?_getD, hy]
theorem keyp_m (hr : N[s]? = some r) (ht : r[k]? = some t) (h : ¬ 0 ≤ t) (h2 : -1 ≤ t) : keyP C N s k ++ [t] = keyP C N s (k + 1) := by
  rw [show t = -1 by omega] at ht ⊢; exact keyp_n hr ht (by decide)
theorem keyp_end (hr : N[s]? = some r) (hk : r.length ≤ k) : keyP C N s k = keyC C (N.getD s []) (C.getD s 0) := by
  unfold keyP keyC; rw [getD_of hr, List.take_of_length_le hk]
theorem keyp_len : (keyP C N s k).length ≤ k + 1 := by simp [keyP]; omega
end
/-- the place of x among the first k keys: the last one, as the reference looks; keys are told apart -/
theorem rfn_nodup (C : List Int) (N : List (List Int)) : ∀ s, (rfn C N s).1.Nodup
  | 0 => List.nodup_nil
  | s + 1 => by
    rcases rfn_cases C N s with ⟨_, e⟩ | ⟨_, _, e⟩ | ⟨_, hk, e⟩ <;> rw [e]
    · exact rfn_nodup C N s
    · exact rfn_nodup C N s
    · rw [List.nodup_append]
      exact ⟨rfn_nodup C N s, by simp, fun a ha b hb hab => hk (by rw [← List.mem_singleton.1 hb, ← hab]; exact ha)⟩
def LastP (K : List (List Int)) (x : List Int) (k : Nat) (a : Int) : Prop := (a = -1 ∧ ∀ i y, i < k → K[i]? = some y → y ≠ x) ∨ (0 ≤ a ∧ K[a.toNat]? = some x)
theorem lastp_zero (K : List (List Int)) (x : List Int) : LastP K x 0 (-1) := .inl ⟨rfl, fun _ _ h => absurd h (by omega)⟩
theorem lastp_hit {K : List (List Int)} {x y : List Int} {k : Nat} (hy : K[k]? = some y) (e : y = x) : LastP K x (k + 1) (k : Int) := .inr ⟨by omega, by rw [Int.toNat_natCast, hy, e]⟩
theorem lastp_miss {K : List (List Int)} {x y : List Int} {k : Nat} {a : Int} (h : LastP K x k a) (hy : K[k]? = some y) (e : y ≠ x) : LastP K x (k + 1) a := by
  rcases h with ⟨h1, h2⟩ | h
  · exact .inl ⟨h1, fun i z hi hz => by
      by_cases q : i = k
      · subst q; rw [hy] at hz; injection hz with hz; subst hz; exact e
      · exact h2 i z (by omega) hz⟩
  · exact .inr h
theorem lastp_ix {K : List (List Int)} {x : List Int} {k : Nat} {a : Int} (h : LastP K x k a) (hk : K.length ≤ k) (hn : K.Nodup) : a = ixL K x := by
  rcases h with ⟨h1, h2⟩ | ⟨h1, h2⟩
  · have : ¬ x ∈ K := fun hm => by
      obtain ⟨i, hi, e⟩ := List.getElem_of_mem hm
      exact h2 i _ (by omega) (List.getElem?_eq_getElem hi) e
    unfold ixL; rw [if_neg this]; exact h1
  · obtain ⟨hl, he⟩ := List.getElem?_eq_some_iff.1 h2
    have hm : x ∈ K := he ▸ List.getElem_mem hl
    unfold ixL; rw [if_pos hm]
    have hi := List.idxOf_lt_length_of_mem hm
    have e2 : K[K.idxOf x]? = some x := by rw [List.getElem?_eq_getElem hi, List.getElem_idxOf hi]
    have := (List.getElem?_inj hl hn).1 (h2.trans e2.symm)
    omega
theorem firstp_ix {K : List (List Int)} {x y : List Int} {k : Nat} (h : ∀ i y, i < k → K[i]? = some y → y ≠ x) (hy : K[k]? = some y) (e : y = x) (hn : K.Nodup) : (k : Int) = ixL K x := lastp_ix (.inr ⟨by omega, by rw [Int.toNat_natCast, hy, e]⟩ : LastP K x K.length k) (Nat.le_refl _) hn
theorem nonep_ix {K : List (List Int)} {x : List Int} {k : Nat} (h : ∀ i y, i < k → K[i]? = some y → y ≠ x) (hk : K.length ≤ k) (hn : K.Nodup) : -1 = ixL K x := lastp_ix (.inl ⟨rfl, h⟩) hk hn
section
variable {C : List Int} {N : List (List Int)} {s : Nat} {c : Int}
theorem rfn1_n (hc : C[s]? = some c) (h : c < 0) : (rfn C N (s + 1)).1 = (rfn C N s).1 := by rw [rfn_n (by rw [getD_of hc]; exact h)]
theorem rfn2_n (hc : C[s]? = some c) (h : c < 0) : (rfn C N s).2 ++ [-1] = (rfn C N (s + 1)).2 := by rw [rfn_n (by rw [getD_of hc]; exact h)]
theorem ix_mem {K : List (List Int)} {x : List Int} (h : ¬ ixL K x < 0) : x ∈ K := by
  apply Classical.byContradiction; intro hm; apply h; unfold ixL; rw [if_neg hm]; decide
theorem ix_nmem {K : List (List Int)} {x : List Int} (h : ixL K x < 0) : ¬ x ∈ K := fun hm => by unfold ixL at h; rw [if_pos hm] at h; omega
theorem rfn1_o (hc : C[s]? = some c) (h : ¬ c < 0) (hi : ¬ ixL (rfn C N s).1 (keyC C (N.getD s []) (C.getD s 0)) < 0) : (rfn C N (s + 1)).1 = (rfn C N s).1 := by rw [rfn_o (by rw [getD_of hc]; exact h) (ix_mem hi)]
theorem rfn2_o (hc : C[s]? = some c) (h : ¬ c < 0) (hi : ¬ ixL (rfn C N s).1 (keyC C (N.getD s []) (C.getD s 0)) < 0) : (rfn C N s).2 ++ [ixL (rfn C N s).1 (keyC C (N.getD s []) (C.getD s 0))] = (rfn C N (s + 1)).2 := by
  rw [rfn_o (by rw [getD_of hc]; exact h) (ix_mem hi)]; unfold ixL; rw [if_pos (ix_mem hi)]
theorem rfn1_new (hc : C[s]? = some c) (h : ¬ c < 0) (hi : ixL (rfn C N s).1 (keyC C (N.getD s []) (C.getD s 0)) < 0) : (rfn C N (s + 1)).1 = (rfn C N s).1 ++ [keyC C (N.getD s []) (C.getD s 0)] := by rw [rfn_new (by rw [getD_of hc]; exact h) (ix_nmem hi)]
theorem rfn2_new (hc : C[s]? = some c) (h : ¬ c < 0) (hi : ixL (rfn C N s).1 (keyC C (N.getD s []) (C.getD s 0)) < 0) : (rfn C N s).2 ++ [((rfn C N s).1.length : Int)] = (rfn C N (s + 1)).2 := by rw [rfn_new (by rw [getD_of hc]; exact h) (ix_nmem hi)]
end
section
variable {C : List Int} {N : List (List Int)} {s m : Nat} {c a : Int} {x : List Int}
theorem rf1_o (hc : C[s]? = some c) (h : ¬ c < 0) (ek : x = keyC C (N.getD s []) (C.getD s 0)) (ia : a = ixL (rfn C N s).1 x) (hi : ¬ a < 0) : (rfn C N (s + 1)).1 = (rfn C N s).1 := by subst ia ek; exact rfn1_o hc h hi
theorem rf2_o (hc : C[s]? = some c) (h : ¬ c < 0) (ek : x = keyC C (N.getD s []) (C.getD s 0)) (ia : a = ixL (rfn C N s).1 x) (hi : ¬ a < 0) : (rfn C N s).2 ++ [a] = (rfn C N (s + 1)).2 := by subst ia ek; exact rfn2_o hc h hi
theorem rf1_new (hc : C[s]? = some c) (h : ¬ c < 0) (ek : x = keyC C (N.getD s []) (C.getD s 0)) (ia : a = ixL (rfn C N s).1 x) (hi : a < 0) : (rfn C N (s + 1)).1 = (rfn C N s).1 ++ [x] := by subst ia ek; exact rfn1_new hc h hi
theorem rf2_new (hc : C[s]? = some c) (h : ¬ c < 0) (ek : x = keyC C (N.getD s []) (C.getD s 0)) (ia : a = ixL (rfn C N s).1 x) (hi : a < 0) (hm : m = (rfn C N s).1.length) : (rfn C N s).2 ++ [(m : Int)] = (rfn C N (s + 1)).2 := by subst ia ek hm; exact rfn2_new hc h hi
end
theorem nep_step {K : List (List Int)} {x z : List Int} {k : Nat} (h : ∀ i y, i < k → K[i]? = some y → y ≠ x) (hz : K[k]? = some z) (e : z ≠ x) : ∀ i y, i < k + 1 → K[i]? = some y → y ≠ x := fun i y hi hy => by
  by_cases q : i = k
  · subst q; rw [hz] at hy; injection hy with hy; subst hy; exact e
  · exact h i y (by omega) hy
def clsI (A L : List Bool) (k : Nat) : List Int := (List.range k).map fun s => if L.getD s false = false then -1 else if A.getD s false then 1 else 0
theorem clsi_step {A L : List Bool} {k : Nat} {a l : Bool} {x : Int} (ha : A[k]? = some a) (hl : L[k]? = some l) (hx : x = if l = false then -1 else if a then 1 else 0) : clsI A L k ++ [x] = clsI A L (k + 1) := by
  unfold clsI; rw [List.range_succ, List.map_append, List.map_singleton, getD_of ha, getD_of hl, hx]
theorem clsi_len (A L : List Bool) (k : Nat) : (clsI A L k).length = k := by simp [clsI]
theorem clsi_step2 {A L : List Bool} {k : Nat} {l : Bool} {x : Int} (hl : L[k]? = some l) (h : (l = false ∧ x = -1) ∨ (l = true ∧ ∃ a, A[k]? = some a ∧ x = if a then 1 else 0)) : clsI A L k ++ [x] = clsI A L (k + 1) := by
  unfold clsI; rw [List.range_succ, List.map_append, List.map_singleton, getD_of hl]
  rcases h with ⟨h1, h2⟩ | ⟨h1, a, h2, h3⟩
  · rw [h1, h2]; rfl
  · rw [h1, getD_of h2, h3]; rfl
def prevC (N : List (List Int)) (D0 : List Int) (n : Nat) : Nat → Int
  | 0 => -1
  | j + 1 => clsN N D0 n j
theorem prev_mono (N : List (List Int)) (D0 : List Int) (n : Nat) : ∀ j, prevC N D0 n j ≤ clsN N D0 n j ∧ -1 ≤ prevC N D0 n j
  | 0 => ⟨by simp only [prevC]; omega, by simp [prevC]⟩
  | j + 1 => ⟨by have := cls_mono (N := N) (D0 := D0) (n := n) j; simp only [prevC]; omega, by simp only [prevC]; omega⟩
theorem cls_ret {N : List (List Int)} {D0 : List Int} {n : Nat} (h0 : D0.length = n) {j : Nat} {m : Int} (hm : m = prevC N D0 n j) (h : (clsN N D0 n j : Int) = m) : clsD N D0 n (j + 1) = clsF N D0 n := by
  subst hm
  cases j with
  | zero => simp only [prevC] at h; omega
  | succ j => exact cls_cnt h0 (by simp only [prevC] at h; omega)
noncomputable def scR (S : Int) (A : List Bool) (N : List (List Int)) : List Int := bif tt (ValidA S A N) then clsF N (clsI A (liveL A N) A.length) A.length else []
theorem scR_n {S : Int} {A : List Bool} {N : List (List Int)} (h : ¬ ValidA S A N) : [] = scR S A N := by unfold scR; rw [← tt_false h]; rfl
theorem scR_y {S : Int} {A : List Bool} {N : List (List Int)} (h : ValidA S A N) : clsF N (clsI A (liveL A N) A.length) A.length = scR S A N := by unfold scR; rw [← tt_true h]; rfl
theorem clsF_len (N : List (List Int)) (D0 : List Int) (n : Nat) : (clsF N D0 n).length = n := (rfn_len _ N n).1
theorem scR_len (S : Int) (A : List Bool) (N : List (List Int)) : (scR S A N).length ≤ 12 := by
  by_cases h : ValidA S A N
  · rw [← scR_y h, clsF_len]; exact h.1
  · rw [← scR_n h]; simp
end Go.KLib

/- Slices of graphs. -/
namespace Go.KLib
open Go.ChangeShapes Go.WideShapes Go.ChangeAt Go.RowKit Go.Deep Go.Joins

/-- a graph's two rows, as they lie in a slice of graphs -/
structure Gv where
  v : Sv
  e : Sv
def Gv.cs (p : Gv) : List Value := [.slice p.v.A p.v.n p.v.c, .slice p.e.A p.e.n p.e.c]
theorem Gv.len (p : Gv) : p.cs.length = 2 := rfl
theorem Gv.one (x : Gv) : ∀ y ∈ x.cs, y.oneCell' = true := by intro y hy; simp [Gv.cs] at hy; rcases hy with rfl | rfl <;> rfl
structure GD where
  V : List Int
  E : List GEdge
def RdG (w : World) (L B : Nat) (vs : List Gv) (xs : List GD) : Prop :=
  vs.length = xs.length ∧ ∀ (i : Nat) (p : Gv) (x : GD), vs[i]? = some p → xs[i]? = some x → Ls ics 1 w L B p.v.v x.V ∧ Ls GEdge.cs 4 w L B p.e.v x.E
section
variable {L L' B B' : Nat} {w w' : World} {vs : List Gv} {xs : List GD} {ws : List Nat}
theorem RdG.ch (h : RdG w L B vs xs) (c : Ch ws w w') (hw : ∀ i ∈ ws, i < L ∨ B ≤ i) : RdG w' L B vs xs := ⟨h.1, fun i v x a b => ⟨(h.2 i v x a b).1.ch c hw, (h.2 i v x a b).2.ch c hw⟩⟩
theorem RdG.ch0 (h : RdG w L B vs xs) (c : Ch [] w w') : RdG w' L B vs xs := h.ch c (by simp)
theorem RdG.up (h : RdG w L B vs xs) (hL : L' ≤ L) (hB : B ≤ B') : RdG w L' B' vs xs := ⟨h.1, fun i v x a b => ⟨(h.2 i v x a b).1.up hL hB, (h.2 i v x a b).2.up hL hB⟩⟩
theorem RdG.here (h : RdG w L B vs xs) : RdG w L w.heap.size vs xs := ⟨h.1, fun i v x a b => ⟨(h.2 i v x a b).1.here (by decide), (h.2 i v x a b).2.here (by decide)⟩⟩
theorem RdG.nil : RdG w L B [] [] := ⟨rfl, fun _ _ _ h => by simp at h⟩
theorem Ol.within {α : Type} {cs : α → List Value} {e k : Nat} {w : World} {v : Value} {xs : List α} {L B L0 B0 : Nat} (h : Ol cs e k w v xs) (hl : Lo L0 v) (hh : ∀ g ∈ bl v, g < B0) (h1 : L ≤ L0) (h2 : B0 ≤ B) : Ls cs k w L B v xs := by
  have hs := h.ls
  refine ⟨hs.1, ?_⟩
  obtain ⟨A, c, hv, h3, h4, h5⟩ := hs.2
  refine ⟨A, c, hv, h3, h4, fun hp => ?_⟩
  obtain ⟨ad, ha, hat⟩ := h5 hp
  have hm : ad.block ∈ bl v := by rw [hv, ha]; simp [bl, Value.ownBlock]
  exact ⟨ad, ha, ⟨Nat.le_trans h1 (hl _ hm), Nat.lt_of_lt_of_le (hh _ hm) h2⟩, hat.2⟩
theorem RdG.snoc {p : Gv} {x : GD} (r : RdG w L B vs xs) (h1 : Ls ics 1 w L B p.v.v x.V) (h2 : Ls GEdge.cs 4 w L B p.e.v x.E) : RdG w L B (vs ++ [p]) (xs ++ [x]) := by
  refine ⟨by simp [r.1], fun i u y a b => ?_⟩
  rcases get_snoc a with ⟨a1, a2⟩ | ⟨a1, a2⟩
  · rcases get_snoc b with ⟨b1, b2⟩ | ⟨b1, b2⟩
    · exact r.2 i u y a2 b2
    · have := r.1; omega
  · rcases get_snoc b with ⟨b1, b2⟩ | ⟨b1, b2⟩
    · have := r.1; omega
    · subst a2 b2; exact ⟨h1, h2⟩
theorem RdG.get (h : RdG w L B vs xs) {i : Nat} {y : Gv} (hy : vs[i]? = some y) : ∃ x, xs[i]? = some x ∧ Ls ics 1 w L B y.v.v x.V ∧ Ls GEdge.cs 4 w L B y.e.v x.E := by
  have hi := (List.getElem?_eq_some_iff.1 hy).1
  have hx : xs[i]? = some (xs[i]'(by have := h.1; omega)) := List.getElem?_eq_getElem _
  exact ⟨_, hx, h.2 i y _ hy hx⟩
end
theorem fill_gv {vs : List Gv} {z v : Gv} {k n : Nat} (hv : vs.length = k) (hk : k < n) : (vs ++ List.replicate (n - k) z).set k v = (vs ++ [v]) ++ List.replicate (n - (k + 1)) z := by
  rw [List.set_append, if_neg (by omega), hv, Nat.sub_self, show n - k = (n - (k + 1)) + 1 by omega, List.replicate_succ, List.set_cons_zero, List.append_assoc]; rfl
theorem GD.ext2 {a b : GD} (h1 : a.V = b.V) (h2 : a.E = b.E) : a = b := by cases a; cases b; simp_all
theorem RdG.at_ {w : World} {L B : Nat} {vs : List Gv} {xs : List GD} (h : RdG w L B vs xs) : vs.length = xs.length := h.1
def gsize (xs : List GD) : Nat := (xs.map fun x => x.V.length + x.E.length).sum
theorem gsize_all {xs : List GD} {k : Nat} (h : xs.length ≤ k) : gsize (xs.take k) = gsize xs := by rw [List.take_of_length_le h]
theorem gsize_take {xs : List GD} {k : Nat} {y : GD} (h : xs[k]? = some y) : gsize (xs.take (k + 1)) = gsize (xs.take k) + (y.V.length + y.E.length) := by
  unfold gsize; rw [take_snoc h]; simp
theorem gsize_le {xs : List GD} {k : Nat} {y : GD} (h : xs[k]? = some y) : gsize (xs.take k) + (y.V.length + y.E.length) ≤ gsize xs := by
  rw [← gsize_take h]
  have e : gsize xs = gsize (xs.take (k + 1)) + gsize (xs.drop (k + 1)) := by
    unfold gsize; rw [← List.sum_append, ← List.map_append, List.take_append_drop]
  omega
section
variable {H : Type} {enc : TypeId × Value → H} {P : Program} {w : World} {base : Nat} {spare : Nat → Bool} {held : Bool}
theorem open_nestG {t e e1 e2 : TypeId} {f1 f2 : Field} {fuel : Nat} {v : Value} {x : DataW H × List MemPlace} (ht : P.underlying t = some (.slice e)) (h2 : P.cellsOf e = 2) (hs : P.underlying e = some (.struct #[f1, f2])) (hone : oneCellFields P #[f1, f2] = true)
    (hu1 : P.underlying f1.type = some (.slice e1)) (hk1 : P.cellsOf e1 = 1) (hu2 : P.underlying f2.type = some (.slice e2)) (hk2 : P.cellsOf e2 = 4)
    (he1 : ∀ fuel vs y, vs.length = 1 → DataW.trod enc P w base spare held fuel e1 vs = some y → ∃ x : Int, vs = ics x) (he2 : ∀ fuel vs y, vs.length = 4 → DataW.trod enc P w base spare held fuel e2 vs = some y → ∃ x : GEdge, vs = x.cs)
    (h : DataW.trod enc P w base spare held fuel t [v] = some x) : ∃ (vs : List Gv) (xs : List GD), Ls Gv.cs 2 w 0 w.heap.size v vs ∧ RdG w 0 w.heap.size vs xs := by
  obtain ⟨vs, hv, hG⟩ := open_lsG (cs := Gv.cs) (k := 2) (G := fun s : Gv => ∃ X : GD, Ls ics 1 w 0 w.heap.size s.v.v X.V ∧ Ls GEdge.cs 4 w 0 w.heap.size s.e.v X.E) ht h2 (by decide) Gv.len (fun fuel us y hl hy => by
    obtain ⟨c1, c2, rfl⟩ := list2 hl
    obtain ⟨ys, n, _, _, _, hlen, hg⟩ := DataW.trod_struct hs hy
    obtain ⟨o1, k1⟩ := hone_of hone 0 f1 rfl
    obtain ⟨o2, k2⟩ := hone_of hone 1 f2 rfl
    have g1 := hg 0 f1 rfl
    have g2 := hg 1 f2 rfl
    rw [o1, k1] at g1
    rw [o2, k2] at g2
    have hy1 : ∃ y1, ys[0]? = some y1 := ⟨ys[0]'(by rw [hlen]; simp), List.getElem?_eq_getElem _⟩
    have hy2 : ∃ y2, ys[1]? = some y2 := ⟨ys[1]'(by rw [hlen]; simp), List.getElem?_eq_getElem _⟩
    obtain ⟨y1, hy1⟩ := hy1
    obtain ⟨y2, hy2⟩ := hy2
    rw [hy1] at g1
    rw [hy2] at g2
    obtain ⟨V, hV⟩ := open_ls hu1 hk1 (by decide) ics_len he1 (v := c1) g1
    obtain ⟨E, hE⟩ := open_ls hu2 hk2 (by decide) GEdge.len he2 (v := c2) g2
    obtain ⟨A, c, rfl⟩ := hV.val
    obtain ⟨A', c', rfl⟩ := hE.val
    exact ⟨⟨⟨A, V.length, c⟩, ⟨A', E.length, c'⟩⟩, rfl, ⟨V, E⟩, hV, hE⟩) h
  obtain ⟨xs, hl, hx⟩ := list_of (n := vs.length) (Q := fun i (x : GD) => ∀ s : Gv, vs[i]? = some s → Ls ics 1 w 0 w.heap.size s.v.v x.V ∧ Ls GEdge.cs 4 w 0 w.heap.size s.e.v x.E) fun i hi => by
    obtain ⟨x, hx⟩ := hG i vs[i] (List.getElem?_eq_getElem hi)
    exact ⟨x, fun s hs => by rw [List.getElem?_eq_getElem hi] at hs; injection hs with hs; subst hs; exact hx⟩
  exact ⟨vs, xs, hv, hl.symm, fun i s x a b => hx i x b s a⟩
end
/-! ### Histories -/
def SameV (G : List GD) (k : Nat) : Prop := ∀ (i : Nat) (x z : GD), i < k → G[i]? = some x → G[0]? = some z → ValidG x.V x.E ∧ x.V = z.V
def ValidH (F : Int) (G : List GD) : Prop := SameV G G.length ∧ (1 ≤ G.length ∧ G.length ≤ 8) ∧ (1 ≤ F ∧ F ≤ 999 - G.length + 1)
theorem same_zero (G : List GD) : SameV G 0 := fun _ _ _ h => absurd h (by omega)
theorem same_step {G : List GD} {k : Nat} {y z : GD} (h : SameV G k) (hy : G[k]? = some y) (hz : G[0]? = some z) (h1 : ValidG y.V y.E) (h2 : y.V = z.V) : SameV G (k + 1) := fun i x z' hi hx hz' => by
  by_cases q : i = k
  · subst q; rw [hy] at hx; injection hx with hx; subst hx; rw [hz] at hz'; injection hz' with hz'; subst hz'; exact ⟨h1, h2⟩
  · exact h i x z' (by omega) hx hz'
theorem valh_val {F : Int} {G : List GD} (h : ValidH F G) {k : Nat} {y : GD} (hy : G[k]? = some y) : ValidG y.V y.E := by
  have hk := (List.getElem?_eq_some_iff.1 hy).1
  exact (h.1 k y _ hk hy (List.getElem?_eq_getElem (by omega))).1
theorem valh_same {F : Int} {G : List GD} (h : ValidH F G) {k : Nat} {y z : GD} (hy : G[k]? = some y) (hz : G[0]? = some z) : y.V = z.V := by
  have hk := (List.getElem?_eq_some_iff.1 hy).1
  exact (h.1 k y z hk hy hz).2
theorem vh_y {F : Int} {G : List GD} {k : Nat} (hs : SameV G k) (hk : G.length ≤ k) (h1 : 1 ≤ G.length ∧ G.length ≤ 8) : decide (1 ≤ F ∧ F ≤ (999 - (G.length : Int)) + 1) = tt (ValidH F G) := by
  rw [tt_dec]
  exact tt_eq ⟨fun h => ⟨fun i x z hi hx hz => hs i x z (by omega) hx hz, h1, by omega⟩, fun h => by have := h.2.2; omega⟩
theorem vh_t {F : Int} {G : List GD} {k : Nat} (hs : SameV G k) (hk : G.length ≤ k) (h1 : 1 ≤ G.length ∧ G.length ≤ 8) (h2 : 1 ≤ F ∧ F ≤ (999 - (G.length : Int)) + 1) : true = tt (ValidH F G) := by
  rw [← vh_y hs hk h1, decide_eq_true h2]
noncomputable def lvR (F : Int) (G : List GD) : Int := bif tt (ValidH F G) then F + G.length - 1 else 0
theorem lv_y {F : Int} {G : List GD} (h : ValidH F G) : F + G.length - 1 = lvR F G := by unfold lvR; rw [← tt_true h]; rfl
theorem lv_n {F : Int} {G : List GD} (h : ¬ ValidH F G) : 0 = lvR F G := by unfold lvR; rw [← tt_false h]; rfl
end Go.KLib

/- The least word to a place: all places in the order in which they are found. -/
namespace Go.KLib

section
variable {T : Type} [DecidableEq T]
/-- what a place adds, letter by letter -/
def bx (nx : T → Nat → T) (e : T × List Int) (E : List (T × List Int)) : Nat → List (T × List Int)
  | 0 => E
  | k + 1 => if nx e.1 k ∈ (bx nx e E k).map (·.1) then bx nx e E k else bx nx e E k ++ [(nx e.1 k, e.2 ++ [(k : Int)])]
/-- the places that are known when the first k have been worked off -/
def bE (nx : T → Nat → T) (t0 : T) : Nat → List (T × List Int)
  | 0 => [(t0, [])]
  | k + 1 => match (bE nx t0 k)[k]? with
    | none => bE nx t0 k
    | some e => bx nx e (bE nx t0 k) 9
variable {nx : T → Nat → T} {t0 : T} {ts : T → Bool}
theorem bx_pre (e : T × List Int) (E : List (T × List Int)) : ∀ k, ∃ D, bx nx e E k = E ++ D
  | 0 => ⟨[], by simp [bx]⟩
  | k + 1 => by
    obtain ⟨D, h⟩ := bx_pre e E k
    unfold bx; split
    · exact ⟨D, h⟩
    · exact ⟨D ++ [(nx e.1 k, e.2 ++ [(k : Int)])], by rw [h, List.append_assoc]⟩
theorem bx_get {e : T × List Int} {E : List (T × List Int)} {k i : Nat} {x : T × List Int} (h : E[i]? = some x) : (bx nx e E k)[i]? = some x := by
  obtain ⟨D, hD⟩ := bx_pre (nx := nx) e E k
  rw [hD, List.getElem?_append_left (List.getElem?_eq_some_iff.1 h).1]; exact h
theorem bx_len (e : T × List Int) (E : List (T × List Int)) (k : Nat) : E.length ≤ (bx nx e E k).length := by
  obtain ⟨D, hD⟩ := bx_pre (nx := nx) e E k
  rw [hD, List.length_append]; omega
theorem bE_succ {k : Nat} {e : T × List Int} (h : (bE nx t0 k)[k]? = some e) : bE nx t0 (k + 1) = bx nx e (bE nx t0 k) 9 := by
  show (match (bE nx t0 k)[k]? with | none => _ | some e => _) = _
  rw [h]
theorem bE_stop {k : Nat} (h : (bE nx t0 k).length ≤ k) : bE nx t0 (k + 1) = bE nx t0 k := by
  show (match (bE nx t0 k)[k]? with | none => _ | some e => _) = _
  rw [List.getElem?_eq_none h]
theorem bE_get {i : Nat} {x : T × List Int} : ∀ {k j}, (bE nx t0 k)[i]? = some x → k ≤ j → (bE nx t0 j)[i]? = some x
  | k, j, h, hj => by
    induction j with
    | zero => rw [show k = 0 by omega] at h; exact h
    | succ j ih =>
      rcases Nat.eq_or_lt_of_le hj with e | e
      · rw [← e]; exact h
      · have h1 := ih (by omega)
        rcases hq : (bE nx t0 j)[j]? with _ | y
        · rw [bE_stop (List.getElem?_eq_none_iff.1 hq)]; exact h1
        · rw [bE_succ hq]; exact bx_get h1
/-- places are told apart -/
theorem bx_nodup {e : T × List Int} {E : List (T × List Int)} (h : (E.map (·.1)).Nodup) : ∀ k, ((bx nx e E k).map (·.1)).Nodup
  | 0 => h
  | k + 1 => by
    unfold bx; split
    · exact bx_nodup h k
    · rename_i hn
      rw [List.map_append, List.nodup_append]
      exact ⟨bx_nodup h k, by simp, fun a ha b hb hab => hn (by simp only [List.map_cons, List.map_nil, List.mem_singleton] at hb; rw [← hb, ← hab]; exact ha)⟩
theorem bE_nodup : ∀ k, ((bE nx t0 k).map (·.1)).Nodup
  | 0 => by simp [bE]
  | k + 1 => by
    rcases hq : (bE nx t0 k)[k]? with _ | y
    · rw [bE_stop (List.getElem?_eq_none_iff.1 hq)]; exact bE_nodup k
    · rw [bE_succ hq]; exact bx_nodup (bE_nodup k) 9
theorem bx_all {Q : T → Prop} {e : T × List Int} {E : List (T × List Int)} (h : ∀ x ∈ E, Q x.1) (he : ∀ k, k < 9 → Q (nx e.1 k)) : ∀ k, k ≤ 9 → ∀ x ∈ bx nx e E k, Q x.1
  | 0, _ => h
  | k + 1, hk => by
    unfold bx; split
    · exact bx_all h he k (by omega)
    · intro x hx
      rcases List.mem_append.1 hx with hx | hx
      · exact bx_all h he k (by omega) x hx
      · rw [List.mem_singleton.1 hx]; exact he k (by omega)
theorem bE_all {Q : T → Prop} (h0 : Q t0) (hn : ∀ t k, Q t → k < 9 → Q (nx t k)) : ∀ k, ∀ x ∈ bE nx t0 k, Q x.1
  | 0 => fun x hx => by rw [show bE nx t0 0 = [(t0, [])] from rfl, List.mem_singleton] at hx; rw [hx]; exact h0
  | k + 1 => by
    rcases hq : (bE nx t0 k)[k]? with _ | y
    · rw [bE_stop (List.getElem?_eq_none_iff.1 hq)]; exact bE_all h0 hn k
    · rw [bE_succ hq]
      exact bx_all (bE_all h0 hn k) (fun j hj => hn _ _ (bE_all h0 hn k y (mem_of_get hq)) hj) 9 (Nat.le_refl _)
/-- what the search gives -/
def BRes (nx : T → Nat → T) (t0 : T) (ts : T → Bool) (r : List Int × Bool) : Prop :=
  (r.2 = true ∧ ∃ k e, (bE nx t0 k)[k]? = some e ∧ ts e.1 = true ∧ r.1 = e.2 ∧ ∀ j x, j < k → (bE nx t0 j)[j]? = some x → ts x.1 = false) ∨
  (r = ([], false) ∧ ∃ k, (bE nx t0 k).length ≤ k ∧ ∀ j x, j < k → (bE nx t0 j)[j]? = some x → ts x.1 = false)
theorem bE_short : ∀ {k j : Nat}, (bE nx t0 k).length ≤ k → k ≤ j → bE nx t0 j = bE nx t0 k
  | k, j, h, hj => by
    induction j with
    | zero => rw [show k = 0 by omega]
    | succ j ih =>
      rcases Nat.eq_or_lt_of_le hj with e | e
      · rw [← e]
      · have h1 := ih (by omega)
        rw [bE_stop (by rw [h1]; omega), h1]
theorem bres_one {r s : List Int × Bool} (h : BRes nx t0 ts r) (g : BRes nx t0 ts s) : r = s := by
  rcases h with ⟨h1, k, e, h2, h3, h4, h5⟩ | ⟨h1, k, h2, h3⟩ <;> rcases g with ⟨g1, j, f, g2, g3, g4, g5⟩ | ⟨g1, j, g2, g3⟩
  · have hkj : k = j := by
      rcases Nat.lt_trichotomy k j with q | q | q
      · have := g5 k e q h2; rw [h3] at this; cases this
      · exact q
      · have := h5 j f q g2; rw [g3] at this; cases this
    subst hkj; rw [h2] at g2; injection g2 with g2; subst g2
    exact Prod.ext (by rw [h4, g4]) (by rw [h1, g1])
  · rcases Nat.lt_or_ge k j with q | q
    · have := g3 k e q h2; rw [h3] at this; cases this
    · have hl := (List.getElem?_eq_some_iff.1 h2).1
      rw [bE_short g2 q] at hl; omega
  · rcases Nat.lt_or_ge j k with q | q
    · have := h3 j f q g2; rw [g3] at this; cases this
    · have hl := (List.getElem?_eq_some_iff.1 g2).1
      rw [bE_short h2 q] at hl; omega
  · rw [h1, g1]
noncomputable def bR (nx : T → Nat → T) (t0 : T) (ts : T → Bool) : List Int × Bool := by
  classical exact if h : ∃ r, BRes nx t0 ts r then h.choose else ([], false)
theorem bR_eq {r : List Int × Bool} (h : BRes nx t0 ts r) : r = bR nx t0 ts := by
  unfold bR
  rw [dif_pos ⟨r, h⟩]
  exact bres_one h (Exists.choose_spec (⟨r, h⟩ : ∃ r, BRes nx t0 ts r))
end
end Go.KLib

/- Rows of one's own, as the library's proved summaries speak of them: sorting, compacting, deleting. -/
namespace Go.KLib
open Go.Sort Go.RowKit

theorem ics_flat (xs : List Int) : xs.flatMap ics = xs.map (Value.int .i64) := by
  induction xs with
  | nil => rfl
  | cons x xs ih => rw [List.flatMap_cons, ih]; rfl
theorem ol_holds {w : World} {e : TypeId} {g off cap n : Nat} {xs : List Int} (h : Ol ics e 1 w (.slice (some ⟨g, off, none⟩) n cap) xs) :
    n = xs.length ∧ g < w.heap.size ∧ xs.length ≤ cap ∧ cap ≤ maxLen ∧ Holds (Value.int .i64) w g off xs.toArray := by
  obtain ⟨hl, ⟨hv, _⟩ | ⟨g', off', cap', cur, hv, hb, h1, h2, h3, h4⟩⟩ := h
  · cases hv
  · injection hv with ha hn hc
    injection ha with ha
    injection ha with hg ho _
    subst hg ho hc
    refine ⟨hn, (Array.getElem?_eq_some_iff.1 hb).1, h1, h2, fun j hj => ?_⟩
    have hj' : j < xs.length := by simpa using hj
    rw [ics_flat, Nat.mul_one] at h4
    have hc : cur[off + j]? = some (Value.int .i64 xs[j]) := by
      have e1 : (cur.toList.drop off)[j]? = some (Value.int .i64 xs[j]) := by
        have e2 : ((cur.toList.drop off).take xs.length)[j]? = some (Value.int .i64 xs[j]) := by
          rw [h4]; simp [hj']
        rwa [List.getElem?_take, if_pos hj'] at e2
      rw [List.getElem?_drop] at e1
      simpa using e1
    refine ⟨?_, ?_⟩
    · simp [World.cell?, hb, hc, hj']
    · simp [World.frozen?, hb]
theorem ch_put {w : World} {g off m : Nat} {d : Array Int} {os : Array Obj} (hg : g < w.heap.size) : Ch [g] w (grow (putRow (Value.int .i64) (Go.Sort.ahead w m) g off d) os) := by
  refine ⟨rfl, rfl, rfl, ?_, fun k hk hn => ?_⟩
  · simp [grow, putRow, mapBlock, Go.Sort.ahead]
  · have hkg : ¬ g = k := fun q => hn (by rw [q]; exact List.mem_singleton.2 rfl)
    simp only [grow, putRow, mapBlock, Go.Sort.ahead]
    rw [Array.getElem?_append_left (by simpa using hk), Array.getElem?_modify, if_neg hkg]
theorem ol_put {w : World} {e : TypeId} {g off cap n m : Nat} {xs ys : List Int} {os : Array Obj} (h : Ol ics e 1 w (.slice (some ⟨g, off, none⟩) n cap) xs) (hl : ys.length = xs.length) :
    Ol ics e 1 (grow (putRow (Value.int .i64) (Go.Sort.ahead w m) g off ys.toArray) os) (.slice (some ⟨g, off, none⟩) n cap) ys := by
  obtain ⟨hl0, ⟨hv, _⟩ | ⟨g', off', cap', cur, hv, hb, h1, h2, h3, h4⟩⟩ := h
  · cases hv
  · injection hv with ha hn hc
    injection ha with ha
    injection ha with hg ho _
    subst hg ho hc
    have hgl := (Array.getElem?_eq_some_iff.1 hb).1
    refine ⟨by rw [ics_flat]; simp, .inr ⟨g, off, cap, putCells (Value.int .i64) off ys.toArray cur, by rw [hn, hl], ?_, by omega, h2, by simp [putCells]; omega, ?_⟩⟩
    · simp only [grow, putRow, mapBlock, Go.Sort.ahead]
      rw [Array.getElem?_append_left (by simpa using hgl), Array.getElem?_modify, if_pos rfl, hb]
      rfl
    · rw [ics_flat, Nat.mul_one]
      apply List.ext_getElem?
      intro j
      rw [List.getElem?_take]
      by_cases hj : j < ys.length
      · have hc : off + j < cur.size := by rw [hl] at hj; omega
        rw [if_pos hj, List.getElem?_drop]
        simp [putCells, hj, hc, Nat.add_sub_cancel_left]
      · rw [if_neg hj, List.getElem?_eq_none (by simpa using hj)]
end Go.KLib

/- The alphabet of an expression: letters in ascending order, each once. -/
namespace Go.KLib

theorem prs_tokok : ∀ (l : List Token) (st st' : List Tr), prs st l = some st' → ∀ t ∈ l, 0 ≤ arT t
  | [], _, _, _, _, h => by cases h
  | t :: l, st, st', h, u, hu => by
    unfold prs at h
    rcases hq : push st t with _ | s2
    · rw [hq] at h; cases h
    · rw [hq] at h
      rcases List.mem_cons.1 hu with rfl | hu
      · rcases arT_cases u with e | e | e | e
        · unfold push at hq; rw [e] at hq; simp at hq
        · omega
        · omega
        · omega
      · exact prs_tokok l s2 st' h u hu
/-- the set of the letters of the first k tokens -/
def letM (l : List Token) : Nat → Nat
  | 0 => 0
  | k + 1 => match l[k]? with
    | none => letM l k
    | some t => if t.kind = 3 then letM l k ||| 2 ^ t.letter.toNat else letM l k
def letL (l : List Token) (k : Nat) : List Int := ((l.take k).filter fun t => decide (t.kind = 3)).map (·.letter)
theorem letm_y {l : List Token} {k : Nat} {t : Token} (h : l[k]? = some t) (hk : t.kind = 3) : letM l (k + 1) = letM l k ||| 2 ^ t.letter.toNat := by
  show (match l[k]? with | none => _ | some t => _) = _
  rw [h]; simp [hk]
theorem letm_n {l : List Token} {k : Nat} {t : Token} (h : l[k]? = some t) (hk : ¬ t.kind = 3) : letM l (k + 1) = letM l k := by
  show (match l[k]? with | none => _ | some t => _) = _
  rw [h]; simp [hk]
theorem letl_y {l : List Token} {k : Nat} {t : Token} (h : l[k]? = some t) (hk : t.kind = 3) : letL l k ++ [t.letter] = letL l (k + 1) := by
  unfold letL; rw [take_snoc h, List.filter_append, List.map_append]; simp [hk]
theorem letl_n {l : List Token} {k : Nat} {t : Token} (h : l[k]? = some t) (hk : ¬ t.kind = 3) : letL l k = letL l (k + 1) := by
  unfold letL; rw [take_snoc h, List.filter_append, List.map_append]; simp [hk]
theorem letl_len (l : List Token) (k : Nat) : (letL l k).length ≤ k := by
  unfold letL; rw [List.length_map]
  exact Nat.le_trans (List.length_filter_le _ _) (by rw [List.length_take]; omega)
def LetOk (l : List Token) : Prop := ∀ t ∈ l, t.kind = 3 → 0 ≤ t.letter ∧ t.letter ≤ 8
theorem letm_lt {l : List Token} (h : LetOk l) : ∀ k, letM l k < 512
  | 0 => show 0 < 512 by decide
  | k + 1 => by
    rcases hq : l[k]? with _ | t
    · show (match l[k]? with | none => _ | some t => _) < 512
      rw [hq]; exact letm_lt h k
    · by_cases hk : t.kind = 3
      · rw [letm_y hq hk]
        have := h t (mem_of_get hq) hk
        exact Nat.or_lt_two_pow (n := 9) (letm_lt h k) (Nat.pow_lt_pow_right (by decide) (by omega))
      · rw [letm_n hq hk]; exact letm_lt h k
theorem letm_bit {l : List Token} (h : LetOk l) (i : Nat) : ∀ k, (letM l k).testBit i = true ↔ (i : Int) ∈ letL l k
  | 0 => by simp [letM, letL]
  | k + 1 => by
    rcases hq : l[k]? with _ | t
    · have e1 : letM l (k + 1) = letM l k := by
        show (match l[k]? with | none => _ | some t => _) = _
        rw [hq]
      have e2 : letL l (k + 1) = letL l k := by
        unfold letL; rw [List.take_add_one, hq]; simp
      rw [e1, e2]; exact letm_bit h i k
    · by_cases hk : t.kind = 3
      · have hl := h t (mem_of_get hq) hk
        rw [letm_y hq hk, ← letl_y hq hk, or_bit, List.mem_append, List.mem_singleton, Bool.or_eq_true, letm_bit h i k, decide_eq_true_eq]
        constructor
        · rintro (a | a)
          · exact .inl a
          · exact .inr (by omega)
        · rintro (a | a)
          · exact .inl a
          · exact .inr (by omega)
      · rw [letm_n hq hk, ← letl_n hq hk]; exact letm_bit h i k
theorem asc_eq : ∀ {a b : List Int}, a.Pairwise (· < ·) → b.Pairwise (· < ·) → (∀ x, x ∈ a ↔ x ∈ b) → a = b
  | [], [], _, _, _ => rfl
  | [], y :: b, _, _, h => by have := (h y).2 (List.mem_cons_self ..); cases this
  | x :: a, [], _, _, h => by have := (h x).1 (List.mem_cons_self ..); cases this
  | x :: a, y :: b, ha, hb, h => by
    rw [List.pairwise_cons] at ha hb
    have e : x = y := by
      have h1 := (h x).1 (List.mem_cons_self ..)
      have h2 := (h y).2 (List.mem_cons_self ..)
      rcases List.mem_cons.1 h1 with h1 | h1
      · exact h1
      · rcases List.mem_cons.1 h2 with h2 | h2
        · exact h2.symm
        · have := hb.1 x h1; have := ha.1 y h2; omega
    subst e
    rw [asc_eq ha.2 hb.2 fun z => ?_]
    constructor
    · intro hz
      rcases List.mem_cons.1 ((h z).1 (List.mem_cons_of_mem _ hz)) with q | q
      · have := ha.1 z hz; omega
      · exact q
    · intro hz
      rcases List.mem_cons.1 ((h z).2 (List.mem_cons_of_mem _ hz)) with q | q
      · have := hb.1 z hz; omega
      · exact q
theorem bitsL_asc (m k : Nat) : (bitsL m k).Pairwise (· < ·) := by
  unfold bitsL
  rw [List.pairwise_map]
  refine List.Pairwise.imp (fun h => ?_) ((List.pairwise_lt_range (n := k)).filter _)
  omega
/-- a list in ascending order, each element once -/
def ascL (zs : List Int) : List Int := Lib.compact (zs.mergeSort fun x y => decide (x ≤ y))
theorem keeps_first {d : Array Int} : ∀ j, ∃ i, i ≤ j ∧ Lib.keeps d i = true ∧ d[i]! = d[j]!
  | 0 => ⟨0, Nat.le_refl _, by simp [Lib.keeps], rfl⟩
  | j + 1 => by
    by_cases h : Lib.keeps d (j + 1) = true
    · exact ⟨j + 1, Nat.le_refl _, h, rfl⟩
    · obtain ⟨i, h1, h2, h3⟩ := keeps_first (d := d) j
      refine ⟨i, by omega, h2, h3.trans ?_⟩
      simp [Lib.keeps] at h
      exact h.symm
theorem asc_mem {zs : List Int} {x : Int} : x ∈ ascL zs ↔ x ∈ zs := by
  have hp : x ∈ (zs.mergeSort fun x y => decide (x ≤ y)) ↔ x ∈ zs := (List.mergeSort_perm zs _).mem_iff
  rw [← hp]
  unfold ascL Lib.compact Lib.compactUpTo
  generalize (zs.mergeSort fun x y => decide (x ≤ y)) = l
  rw [List.mem_map]
  constructor
  · rintro ⟨j, hj, rfl⟩
    rw [List.mem_filter, List.mem_range] at hj
    have hj1 := hj.1
    simp only [List.getElem!_toArray]
    rw [getElem!_pos l j hj1]; exact List.getElem_mem hj1
  · intro hx
    obtain ⟨j, hj, rfl⟩ := List.getElem_of_mem hx
    obtain ⟨i, h1, h2, h3⟩ := keeps_first (d := l.toArray) j
    refine ⟨i, by rw [List.mem_filter, List.mem_range]; exact ⟨by omega, h2⟩, ?_⟩
    rw [h3]; simp only [List.getElem!_toArray]; rw [getElem!_pos l j hj]
theorem asc_asc (zs : List Int) : (ascL zs).Pairwise (· < ·) := by
  have hs : (zs.mergeSort fun x y => decide (x ≤ y)).Pairwise fun a b => decide (a ≤ b) = true :=
    List.pairwise_mergeSort (fun a b c h1 h2 => by simp at *; omega) (fun a b => by simp; omega) zs
  unfold ascL Lib.compact Lib.compactUpTo
  generalize (zs.mergeSort fun x y => decide (x ≤ y)) = l at hs
  have hle : ∀ i j, i ≤ j → j < l.length → l[i]! ≤ l[j]! := fun i j hij hj => by
    rw [getElem!_pos l i (by omega), getElem!_pos l j hj]
    rcases Nat.eq_or_lt_of_le hij with e | e
    · subst e; exact Int.le_refl _
    · have := List.pairwise_iff_getElem.1 hs i j (by omega) hj e
      simpa using this
  rw [List.pairwise_map]
  refine List.Pairwise.imp_of_mem (fun {i j} hi hj h => ?_) ((List.pairwise_lt_range (n := l.length)).filter _)
  rw [List.mem_filter, List.mem_range] at hi hj
  have hk := hj.2
  simp only [Lib.keeps, decide_eq_true_eq] at hk
  simp only [List.getElem!_toArray] at hk ⊢
  have h1 := hle i (j - 1) (by omega) (by omega)
  have h2 := hle (j - 1) j (by omega) hj.1
  rcases hk with hk | hk
  · omega
  · omega
theorem asc_len (zs : List Int) : (ascL zs).length ≤ zs.length := by
  unfold ascL Lib.compact Lib.compactUpTo
  rw [List.length_map]
  exact Nat.le_trans (List.length_filter_le _ _) (by simp)
theorem alph_eq {l : List Token} (h : LetOk l) (k : Nat) : ascL (letL l k) = bitsL (letM l k) 30 := by
  refine asc_eq (asc_asc _) (bitsL_asc _ _) fun x => ?_
  rw [asc_mem, bitsL_mem]
  constructor
  · intro hx
    have hx' := hx
    unfold letL at hx'
    obtain ⟨t, ht, rfl⟩ := List.mem_map.1 hx'
    rw [List.mem_filter] at ht
    have := h t (List.mem_of_mem_take ht.1) (by simpa using ht.2)
    refine ⟨this.1, by omega, (letm_bit h _ k).2 ?_⟩
    rw [Int.toNat_of_nonneg this.1]; exact hx
  · rintro ⟨h0, _, h2⟩
    have := (letm_bit h _ k).1 h2
    rwa [Int.toNat_of_nonneg h0] at this
theorem isE_letOk {l : List Token} (h : isE l = true) : LetOk l := fun t ht hk => by
  unfold isE treeL at h
  rcases hq : prs [] l with _ | st
  · rw [hq] at h; cases h
  · have h1 := prs_tokok l [] st hq t ht
    unfold arT at h1; rw [hk] at h1; simp at h1
    by_cases h2 : (0 ≤ t.letter ∧ t.letter ≤ 8) ∧ t.low = 0 ∧ t.high = 0
    · exact h2.1
    · exfalso; simp only [h2, if_false] at h1
      omega
theorem letm_i {l : List Token} {k : Nat} {t u : Token} {m : Int} (h : l[k]? = some t) (h2 : l[k]? = some u) (hm : m = ((letM l k : Nat) : Int)) (hk : t.kind = 3) (he : isE l = true) : ior m (ishl 1 u.letter) = ((letM l (k + 1) : Nat) : Int) := by
  rw [h] at h2; injection h2 with h2; subst h2
  have hl := isE_letOk he t (mem_of_get h) hk
  have hb := letm_lt (isE_letOk he) k
  subst hm
  rw [letm_y h hk, show t.letter = ((t.letter.toNat : Nat) : Int) by omega, ior_bit (by omega) (by omega) (by omega), Int.toNat_natCast, Int.toNat_natCast]
def alphR (l : List Token) : List Int := bif isE l then bitsL (letM l l.length) 30 else []
theorem alphR_n {l : List Token} (h : isE l = false) : bitsL (letM l 0) 30 = alphR l := by
  unfold alphR; rw [h]; show bitsL 0 30 = []; decide
theorem alphR_y {l : List Token} {k : Nat} (h : isE l = true) (hk : k = l.length) : bitsL (letM l k) 30 = alphR l := by subst hk; unfold alphR; rw [h]; rfl
theorem alphR_n2 {l : List Token} (h : isE l = false) : [] = alphR l := by unfold alphR; rw [h]; rfl
theorem alphR_y2 {l : List Token} {k : Nat} (h : isE l = true) (hk : k = l.length) : ascL (letL l k) = alphR l := by subst hk; rw [alph_eq (isE_letOk h)]; exact alphR_y h rfl
theorem letm_lt2 {l : List Token} {i : Nat} (ho : 0 < i → isE l = true) : letM l i < 512 := by
  cases i with
  | zero => show 0 < 512; decide
  | succ i => exact letm_lt (isE_letOk (ho (by omega))) _
theorem alphR_end {l : List Token} {i : Nat} (ho : 0 < i → isE l = true) (h : l.length ≤ i ∨ isE l = false) (hi : i ≤ l.length) : bitsL (letM l i) 30 = alphR l := by
  cases hb : isE l
  · have : i = 0 := by
      rcases Nat.eq_zero_or_pos i with h0 | h0
      · exact h0
      · rw [ho h0] at hb; cases hb
    subst this; exact alphR_n hb
  · rcases h with h | h
    · exact alphR_y hb (by omega)
    · rw [hb] at h; cases h
theorem alphR_len (l : List Token) : (alphR l).length ≤ 30 := by
  unfold alphR; cases isE l
  · simp
  · exact bitsL_len _ _
end Go.KLib

/- Sorting and compacting rows of one's own: the library's summaries as contracts. -/
namespace Go.KLib
open Go.Sort Go.RowKit Go.Shelf Go.Proofs

theorem ol_cases {w : World} {e : TypeId} {v : Value} {a : List Int} (h : Ol ics e 1 w v a) : (v = .slice none 0 0 ∧ a = []) ∨ ∃ g off cap, v = .slice (some ⟨g, off, none⟩) a.length cap := by
  obtain ⟨hl, ⟨hv, h0⟩ | ⟨g', off', cap', cur, hv, hb, h1, h2, h3, h4⟩⟩ := h
  · exact .inl ⟨hv, List.eq_nil_of_length_eq_zero h0⟩
  · exact .inr ⟨g', off', cap', hv⟩
theorem bl_some (g off n cap : Nat) : bl (.slice (some ⟨g, off, none⟩) n cap) = [g] := rfl
theorem ol_pre {w : World} {e : TypeId} {g off cap n : Nat} {xs zs : List Int} (h : Ol ics e 1 w (.slice (some ⟨g, off, none⟩) n cap) (xs ++ zs)) : Ol ics e 1 w (.slice (some ⟨g, off, none⟩) xs.length cap) xs := by
  obtain ⟨hl, ⟨hv, _⟩ | ⟨g', off', cap', cur, hv, hb, h1, h2, h3, h4⟩⟩ := h
  · cases hv
  · injection hv with ha hn hc
    injection ha with ha
    injection ha with hg ho _
    subst hg ho hc
    rw [List.length_append] at h1
    refine ⟨by rw [ics_flat]; simp, .inr ⟨g, off, cap, cur, rfl, hb, by omega, h2, h3, ?_⟩⟩
    rw [ics_flat, Nat.mul_one, List.length_append] at h4
    rw [ics_flat, Nat.mul_one]
    have := congrArg (List.take xs.length) h4
    rw [List.take_take, Nat.min_eq_left (by omega)] at this
    rw [this, List.map_append, List.take_append_of_le_length (by simp), List.take_of_length_le (by simp)]
section
variable {P : Program} {ρ : Ren} {w : World} {e : TypeId} {v : Value} {a : List Int}
theorem sort_ctr (L : Lays.n189 P ρ) (h : Ol ics e 1 w v a) (hb : a.length < 4611686018427387904) :
    Ctr P (ρ.f 189) #[v] w (fun u w' => u = .tuple #[] ∧ Ol ics e 1 w' v (a.mergeSort fun x y => decide (x ≤ y)) ∧ Ch (bl v) w w') := by
  rcases ol_cases h with ⟨rfl, rfl⟩ | ⟨g, off, cap, rfl⟩
  · refine (Any.slices_Sort_int_none L none 0 w).mono ?_
    rintro x w' ⟨rfl, rfl⟩
    exact ⟨_, rfl, rfl, by simpa using h, Ch.refl _ _⟩
  · obtain ⟨_, hg, hc, hm, hH⟩ := ol_holds h
    refine (Any.slices_Sort_int L g off cap a w hH hg hb).mono ?_
    rintro x w' ⟨rfl, n, os, rfl⟩
    refine ⟨_, rfl, rfl, ?_, ch_put hg⟩
    exact ol_put h (by simp)
theorem compact_ctr (L : Lays2.n20 P ρ) (h : Ol ics e 1 w v a) (hb : a.length ≤ 9223372036854775807) :
    Ctr P (ρ.f 20) #[v] w (fun u w' => Ol ics e 1 w' u (Lib.compact a) ∧ bl u = bl v ∧ Ch (bl v) w w') := by
  rcases ol_cases h with ⟨rfl, rfl⟩ | ⟨g, off, cap, rfl⟩
  · refine (Any.slices_Compact_int_empty L none 0 w).mono ?_
    rintro x w' ⟨rfl, rfl⟩
    exact ⟨_, rfl, h, rfl, Ch.refl _ _⟩
  · obtain ⟨_, hg, hc, hm, hH⟩ := ol_holds h
    refine (Any.slices_Compact_int L g off cap a w hH hb hc).mono ?_
    rintro x w' ⟨rfl, q, rfl⟩
    refine ⟨_, rfl, ?_, rfl, ?_⟩
    · have hlen : (Lib.compact a).length ≤ a.length := by
        unfold Lib.compact Lib.compactUpTo
        rw [List.length_map]
        exact Nat.le_trans (List.length_filter_le _ _) (by simp)
      have := ol_put (m := q) (os := #[]) (ys := Lib.compact a ++ List.replicate (a.length - (Lib.compact a).length) 0) h (by simp; omega)
      rw [grow_empty] at this
      exact ol_pre this
    · have := ch_put (w := w) (g := g) (off := off) (m := q) (d := (Lib.compact a ++ List.replicate (a.length - (Lib.compact a).length) 0).toArray) (os := #[]) hg
      rw [grow_empty] at this
      exact this
end
end Go.KLib

/- Slices of graphs of one's own. -/
namespace Go.KLib

def SepG (vs : List Gv) : Prop := ∀ u ∈ vs, ∀ t ∈ vs, ∀ g ∈ bl u.v.v, g ∉ bl t.e.v
/-- Each entry's two rows are one's own and read as the graph in its place; their blocks lie in lo .. hi, no two in one. -/
def OdG (e1 e2 : Nat) (w : World) (lo hi : Nat) (vs : List Gv) (xs : List GD) : Prop :=
  vs.length = xs.length ∧ Od ics e1 1 w lo hi (vs.map (·.v)) (xs.map (·.V)) ∧ Od GEdge.cs e2 4 w lo hi (vs.map (·.e)) (xs.map (·.E)) ∧ SepG vs
section
variable {e1 e2 lo hi hi' : Nat} {w w' : World} {vs : List Gv} {xs : List GD} {ws : List Nat}
theorem OdG.ch (h : OdG e1 e2 w lo hi vs xs) (c : Ch ws w w') (hw : ∀ i ∈ ws, i < lo ∨ hi ≤ i) : OdG e1 e2 w' lo hi vs xs := ⟨h.1, h.2.1.ch c hw, h.2.2.1.ch c hw, h.2.2.2⟩
theorem OdG.ch0 (h : OdG e1 e2 w lo hi vs xs) (c : Ch [] w w') : OdG e1 e2 w' lo hi vs xs := h.ch c (by simp)
theorem OdG.up {lo' : Nat} (h : OdG e1 e2 w lo hi vs xs) (hl : lo' ≤ lo) (hh : hi ≤ hi') : OdG e1 e2 w lo' hi' vs xs := ⟨h.1, h.2.1.up hl hh, h.2.2.1.up hl hh, h.2.2.2⟩
theorem OdG.nil : OdG e1 e2 w lo hi [] [] := ⟨rfl, Od.nil, Od.nil, fun _ h => by cases h⟩
theorem map_get {α β : Type} {l : List α} {f : α → β} {i : Nat} {y : α} (h : l[i]? = some y) : (l.map f)[i]? = some (f y) := by rw [List.getElem?_map, h]; rfl
theorem OdG.get (h : OdG e1 e2 w lo hi vs xs) {i : Nat} {y : Gv} (hy : vs[i]? = some y) : ∃ x, xs[i]? = some x ∧ Ol ics e1 1 w y.v.v x.V ∧ Ol GEdge.cs e2 4 w y.e.v x.E ∧ (∀ g ∈ bl y.v.v, lo ≤ g ∧ g < hi) ∧ (∀ g ∈ bl y.e.v, lo ≤ g ∧ g < hi) ∧ (∀ g ∈ bl y.v.v, g ∉ bl y.e.v) := by
  have hi := (List.getElem?_eq_some_iff.1 hy).1
  have hx : xs[i]? = some (xs[i]'(by have := h.1; omega)) := List.getElem?_eq_getElem _
  have h1 := h.2.1.2.1 i _ _ (map_get (f := (·.v)) hy) (map_get (f := (·.V)) hx)
  have h2 := h.2.2.1.2.1 i _ _ (map_get (f := (·.e)) hy) (map_get (f := (·.E)) hx)
  exact ⟨_, hx, h1.1, h2.1, h1.2, h2.2, h.2.2.2 y (mem_of_get hy) y (mem_of_get hy)⟩
theorem OdG.rdg (h : OdG e1 e2 w lo hi vs xs) : RdG w lo hi vs xs := ⟨h.1, fun i p x a b => by
  obtain ⟨x', hx, o1, o2, r1, r2, _⟩ := h.get a
  rw [b] at hx; injection hx with hx; subst hx
  exact ⟨o1.within (fun g hg => (r1 g hg).1) (fun g hg => (r1 g hg).2) (Nat.le_refl _) (Nat.le_refl _), o2.within (fun g hg => (r2 g hg).1) (fun g hg => (r2 g hg).2) (Nat.le_refl _) (Nat.le_refl _)⟩⟩
theorem OdG.rng (h : OdG e1 e2 w lo hi vs xs) {u : Gv} (hu : u ∈ vs) : (∀ g ∈ bl u.v.v, lo ≤ g ∧ g < hi) ∧ (∀ g ∈ bl u.e.v, lo ≤ g ∧ g < hi) := by
  obtain ⟨i, hi, rfl⟩ := List.getElem_of_mem hu
  obtain ⟨x, _, _, _, r1, r2, _⟩ := h.get (List.getElem?_eq_getElem hi)
  exact ⟨r1, r2⟩
theorem OdG.snoc (h : OdG e1 e2 w lo hi vs xs) {p : Gv} {x : GD} (o1 : Ol ics e1 1 w p.v.v x.V) (o2 : Ol GEdge.cs e2 4 w p.e.v x.E) (l1 : Lo hi p.v.v) (l2 : Lo hi p.e.v) (u1 : ∀ g ∈ bl p.v.v, g < hi') (u2 : ∀ g ∈ bl p.e.v, g < hi') (hd : ∀ g ∈ bl p.v.v, g ∉ bl p.e.v) (hh : hi ≤ hi') (hlo : lo ≤ hi) : OdG e1 e2 w lo hi' (vs ++ [p]) (xs ++ [x]) := by
  refine ⟨by simp [h.1], ?_, ?_, fun u hu t ht g hg hm => ?_⟩
  · rw [List.map_append, List.map_append]; exact h.2.1.snoc o1 l1 u1 hh hlo
  · rw [List.map_append, List.map_append]; exact h.2.2.1.snoc o2 l2 u2 hh hlo
  · rcases List.mem_append.1 hu with hu | hu <;> rcases List.mem_append.1 ht with ht | ht
    · exact h.2.2.2 u hu t ht g hg hm
    · rw [List.mem_singleton.1 ht] at hm
      have a := ((h.rng hu).1 g hg).2; have b := l2 g hm; omega
    · rw [List.mem_singleton.1 hu] at hg
      have a := ((h.rng ht).2 g hm).2; have b := l1 g hg; omega
    · rw [List.mem_singleton.1 hu] at hg; rw [List.mem_singleton.1 ht] at hm; exact hd g hg hm
theorem set_selfx {α : Type} {l : List α} {i : Nat} {y : α} (h : l[i]? = some y) : l.set i y = l := by
  apply List.ext_getElem?
  intro j
  rw [List.getElem?_set]
  split
  · rename_i e; subst e; rw [if_pos (List.getElem?_eq_some_iff.1 h).1]; exact h.symm
  · rfl
theorem map_set_v {l : List GD} {i : Nat} {x : GD} {V' : List Int} (h : l[i]? = some x) : (l.set i ⟨V', x.E⟩).map (·.V) = (l.map (·.V)).set i V' ∧ (l.set i ⟨V', x.E⟩).map (·.E) = l.map (·.E) := by
  refine ⟨by rw [List.map_set], ?_⟩
  rw [List.map_set]
  exact set_selfx (map_get (f := (·.E)) h)
theorem map_set_e {l : List GD} {i : Nat} {x : GD} {E' : List GEdge} (h : l[i]? = some x) : (l.set i ⟨x.V, E'⟩).map (·.E) = (l.map (·.E)).set i E' ∧ (l.set i ⟨x.V, E'⟩).map (·.V) = l.map (·.V) := by
  refine ⟨by rw [List.map_set], ?_⟩
  rw [List.map_set]
  exact set_selfx (map_get (f := (·.V)) h)
theorem OdG.setV {i : Nat} {y : Gv} {x : GD} {V' : List Int} (h : OdG e1 e2 w lo hi vs xs) (hy : vs[i]? = some y) (hx : xs[i]? = some x) (c : Ch (bl y.v.v) w w') (ho : Ol ics e1 1 w' y.v.v V') : OdG e1 e2 w' lo hi vs (xs.set i ⟨V', x.E⟩) := by
  obtain ⟨m1, m2⟩ := map_set_v (V' := V') hx
  refine ⟨by simp [h.1], ?_, ?_, h.2.2.2⟩
  · rw [m1]; exact h.2.1.set (map_get (f := (·.v)) hy) (map_get (f := (·.V)) hx) c ho
  · rw [m2]
    refine h.2.2.1.chS c fun u hu g hg hm => ?_
    obtain ⟨t, ht, rfl⟩ := List.mem_map.1 hu
    exact h.2.2.2 y (mem_of_get hy) t ht g hm hg
theorem OdG.setE {i : Nat} {y : Gv} {x : GD} {E' : List GEdge} (h : OdG e1 e2 w lo hi vs xs) (hy : vs[i]? = some y) (hx : xs[i]? = some x) (c : Ch (bl y.e.v) w w') (ho : Ol GEdge.cs e2 4 w' y.e.v E') : OdG e1 e2 w' lo hi vs (xs.set i ⟨x.V, E'⟩) := by
  obtain ⟨m1, m2⟩ := map_set_e (E' := E') hx
  refine ⟨by simp [h.1], ?_, ?_, h.2.2.2⟩
  · rw [m2]
    refine h.2.1.chS c fun u hu g hg hm => ?_
    obtain ⟨t, ht, rfl⟩ := List.mem_map.1 hu
    exact h.2.2.2 t ht y (mem_of_get hy) g hg hm
  · rw [m1]; exact h.2.2.1.set (map_get (f := (·.e)) hy) (map_get (f := (·.E)) hx) c ho
theorem OdG.set2 {i : Nat} {y : Gv} {x : GD} {V' : List Int} {E' : List GEdge} (h : OdG e1 e2 w lo hi vs xs) (hy : vs[i]? = some y) (hx : xs[i]? = some x) (c : Ch (bl y.v.v ++ bl y.e.v) w w') (ho : Ol ics e1 1 w' y.v.v V') (ho2 : Ol GEdge.cs e2 4 w' y.e.v E') : OdG e1 e2 w' lo hi vs (xs.set i ⟨V', E'⟩) := by
  have hi' := (List.getElem?_eq_some_iff.1 hx).1
  have hdis : ∀ (j : Nat) (u : Gv), vs[j]? = some u → i ≠ j → (∀ g ∈ bl u.v.v, g ∉ bl y.v.v ++ bl y.e.v) ∧ (∀ g ∈ bl u.e.v, g ∉ bl y.v.v ++ bl y.e.v) := fun j u hu hne => by
    refine ⟨fun g hg hm => ?_, fun g hg hm => ?_⟩ <;> rcases List.mem_append.1 hm with hm | hm
    · rcases Nat.lt_or_gt_of_ne hne with q | q
      · exact h.2.1.2.2 i j _ _ (map_get hy) (map_get hu) q g hm hg
      · exact h.2.1.2.2 j i _ _ (map_get hu) (map_get hy) q g hg hm
    · exact h.2.2.2 u (mem_of_get hu) y (mem_of_get hy) g hg hm
    · exact h.2.2.2 y (mem_of_get hy) u (mem_of_get hu) g hm hg
    · rcases Nat.lt_or_gt_of_ne hne with q | q
      · exact h.2.2.1.2.2 i j _ _ (map_get hy) (map_get hu) q g hm hg
      · exact h.2.2.1.2.2 j i _ _ (map_get hu) (map_get hy) q g hg hm
  refine ⟨by simp [h.1], ⟨by simp [h.1], fun j a b ha hb => ?_, h.2.1.2.2⟩, ⟨by simp [h.1], fun j a b ha hb => ?_, h.2.2.1.2.2⟩, h.2.2.2⟩
  · rw [List.getElem?_map] at ha hb
    obtain ⟨u, hu, rfl⟩ := Option.map_eq_some_iff.1 ha
    obtain ⟨z, hz, rfl⟩ := Option.map_eq_some_iff.1 hb
    rw [List.getElem?_set] at hz
    by_cases e : i = j
    · subst e; rw [if_pos rfl, if_pos hi'] at hz; injection hz with hz; subst hz
      rw [hy] at hu; injection hu with hu; subst hu
      exact ⟨ho, (h.rng (mem_of_get hy)).1⟩
    · rw [if_neg e] at hz
      have := h.2.1.2.1 j _ _ (map_get (f := (·.v)) hu) (map_get (f := (·.V)) hz)
      exact ⟨this.1.ch c (hdis j u hu e).1, this.2⟩
  · rw [List.getElem?_map] at ha hb
    obtain ⟨u, hu, rfl⟩ := Option.map_eq_some_iff.1 ha
    obtain ⟨z, hz, rfl⟩ := Option.map_eq_some_iff.1 hb
    rw [List.getElem?_set] at hz
    by_cases e : i = j
    · subst e; rw [if_pos rfl, if_pos hi'] at hz; injection hz with hz; subst hz
      rw [hy] at hu; injection hu with hu; subst hu
      exact ⟨ho2, (h.rng (mem_of_get hy)).2⟩
    · rw [if_neg e] at hz
      have := h.2.2.1.2.1 j _ _ (map_get (f := (·.e)) hu) (map_get (f := (·.E)) hz)
      exact ⟨this.1.ch c (hdis j u hu e).2, this.2⟩
/-- no row of an entry shares the block of o -/
def SepH (o : Value) (vs : List Gv) : Prop := ∀ u ∈ vs, (∀ g ∈ bl u.v.v, g ∉ bl o) ∧ ∀ g ∈ bl u.e.v, g ∉ bl o
theorem OdG.sepH {o : Value} (h : OdG e1 e2 w lo hi vs xs) (ho : ∀ g ∈ bl o, g < lo ∨ hi ≤ g) : SepH o vs := fun u hu =>
  ⟨fun g hg hm => by have a := (h.rng hu).1 g hg; have b := ho g hm; omega, fun g hg hm => by have a := (h.rng hu).2 g hg; have b := ho g hm; omega⟩
theorem OdG.chH {o : Value} (h : OdG e1 e2 w lo hi vs xs) (c : Ch (bl o) w w') (hs : SepH o vs) : OdG e1 e2 w' lo hi vs xs :=
  ⟨h.1, h.2.1.chS c fun u hu g hg => by obtain ⟨t, ht, rfl⟩ := List.mem_map.1 hu; exact (hs t ht).1 g hg, h.2.2.1.chS c fun u hu g hg => by obtain ⟨t, ht, rfl⟩ := List.mem_map.1 hu; exact (hs t ht).2 g hg, h.2.2.2⟩
end
def gmark (xs : List GD) : Nat := (xs.map fun x => x.V.length + 4 * x.E.length).sum
theorem gmark_take {xs : List GD} {k : Nat} {y : GD} (h : xs[k]? = some y) : gmark (xs.take (k + 1)) = gmark (xs.take k) + (y.V.length + 4 * y.E.length) := by unfold gmark; rw [take_snoc h]; simp
theorem gmark_all {xs : List GD} {k : Nat} (h : xs.length ≤ k) : gmark (xs.take k) = gmark xs := by rw [List.take_of_length_le h]
theorem gmark_sz (xs : List GD) : gmark xs ≤ 4 * gsize xs := by
  induction xs with
  | nil => simp [gmark, gsize]
  | cons x xs ih => simp only [gmark, gsize, List.map_cons, List.sum_cons] at ih ⊢; omega
theorem gmark_le {xs : List GD} {k : Nat} {y : GD} (h : xs[k]? = some y) : gmark (xs.take k) + (y.V.length + 4 * y.E.length) ≤ 4 * gsize xs := by
  rw [← gmark_take h]
  have h1 := gmark_sz (xs.take (k + 1))
  have h2 := gsize_le h
  have h3 := gsize_take h
  omega
theorem set_el {l : List GD} {i : Nat} {x y : GD} {V : List Int} (hx : l[i]? = some x) (hy : (l.set i ⟨V, x.E⟩)[i]? = some y) : y = ⟨V, x.E⟩ := by
  rw [List.getElem?_set, if_pos rfl, if_pos (List.getElem?_eq_some_iff.1 hx).1] at hy
  injection hy with hy; exact hy.symm
/-! ### The graph at a version -/
def gaP (F : Int) (G : List GD) (n : Int) : Prop := ValidH F G ∧ (F ≤ n ∧ n ≤ lvR F G)
noncomputable def gaR (F : Int) (G : List GD) (n : Int) : GD := bif tt (gaP F G n) then G.getD (n - F).toNat ⟨[], []⟩ else ⟨[], []⟩
theorem ga_n {F : Int} {G : List GD} {n : Int} (h : ¬ gaP F G n) : (⟨[], []⟩ : GD) = gaR F G n := by unfold gaR; rw [← tt_false h]; rfl
theorem ga_y {F : Int} {G : List GD} {n : Int} {x : GD} (h1 : ValidH F G) (h2 : F ≤ n ∧ n ≤ lvR F G) (hx : G[(n - F).toNat]? = some x) : x = gaR F G n := by
  have hp : gaP F G n := ⟨h1, h2⟩
  unfold gaR; rw [← tt_true hp, List.getD_eq_getElem?_getD, hx]; rfl
theorem ga_len (F : Int) (G : List GD) (n : Int) : (gaR F G n).V.length ≤ 5 ∧ (gaR F G n).E.length ≤ 12 := by
  by_cases h : gaP F G n
  · rcases hq : G[(n - F).toNat]? with _ | x
    · unfold gaR; rw [← tt_true h, List.getD_eq_getElem?_getD, hq]; exact ⟨by simp, by simp⟩
    · rw [← ga_y h.1 h.2 hq]
      have := valh_val h.1 hq; exact ⟨this.2.2.1.2, this.2.2.2⟩
  · rw [← ga_n h]; exact ⟨by simp, by simp⟩
theorem lv_val {F : Int} {G : List GD} (h : ValidH F G) : lvR F G = F + G.length - 1 := (lv_y h).symm
theorem gd_len {F : Int} {G : List GD} (h : ValidH F G) {k : Nat} {x : GD} (hx : G[k]? = some x) : x.V.length ≤ 5 ∧ x.E.length ≤ 12 := by
  have := valh_val h hx; exact ⟨this.2.2.1.2, this.2.2.2⟩
end Go.KLib

/- A new history. -/
namespace Go.KLib

noncomputable def nhF (V : List Int) (E : List GEdge) (n : Int) : Int := bif tt (ValidH n [⟨V, E⟩]) then n else 0
noncomputable def nhG (V : List Int) (E : List GEdge) (n : Int) : List GD := bif tt (ValidH n [⟨V, E⟩]) then [⟨V, E⟩] else []
theorem nhF_y {V : List Int} {E : List GEdge} {n : Int} (h : ValidH n [⟨V, E⟩]) : n = nhF V E n := by unfold nhF; rw [← tt_true h]; rfl
theorem nhF_n {V : List Int} {E : List GEdge} {n : Int} (h : ¬ ValidH n [⟨V, E⟩]) : 0 = nhF V E n := by unfold nhF; rw [← tt_false h]; rfl
theorem nhG_y {V : List Int} {E : List GEdge} {n : Int} (h : ValidH n [⟨V, E⟩]) : [⟨V, E⟩] = nhG V E n := by unfold nhG; rw [← tt_true h]; rfl
theorem nhG_n {V : List Int} {E : List GEdge} {n : Int} (h : ¬ ValidH n [⟨V, E⟩]) : [] = nhG V E n := by unfold nhG; rw [← tt_false h]; rfl
/-! ### marked graphs -/
def mkGS (k : Int) : List GD → List GD
  | [] => []
  | x :: xs => ⟨mkInt k x.V.length, mkGEdge (k + x.V.length) x.E.length⟩ :: mkGS (k + x.V.length + 4 * x.E.length) xs
theorem mkGS_len : ∀ (xs : List GD) (k : Int), (mkGS k xs).length = xs.length
  | [], _ => rfl
  | x :: xs, k => by unfold mkGS; rw [List.length_cons, mkGS_len xs, List.length_cons]
theorem mkGS_app : ∀ (xs ys : List GD) (k : Int), mkGS k (xs ++ ys) = mkGS k xs ++ mkGS (k + gmark xs) ys
  | [], ys, k => by simp [mkGS, gmark]
  | x :: xs, ys, k => by
    show (⟨mkInt k x.V.length, mkGEdge (k + x.V.length) x.E.length⟩ :: mkGS (k + x.V.length + 4 * x.E.length) (xs ++ ys) : List GD) = (⟨mkInt k x.V.length, mkGEdge (k + x.V.length) x.E.length⟩ :: mkGS (k + x.V.length + 4 * x.E.length) xs) ++ mkGS (k + gmark (x :: xs)) ys
    rw [mkGS_app xs ys, List.cons_append]
    have e : k + x.V.length + 4 * x.E.length + gmark xs = k + gmark (x :: xs) := by simp only [gmark, List.map_cons, List.sum_cons]; omega
    rw [e]
theorem mkGS_snoc {a : List GD} {i : Nat} {x : GD} (k : Int) (h : a[i]? = some x) : mkGS k (a.take (i + 1)) = mkGS k (a.take i) ++ [⟨mkInt (k + gmark (a.take i)) x.V.length, mkGEdge (k + gmark (a.take i) + x.V.length) x.E.length⟩] := by
  rw [take_snoc h, mkGS_app]; rfl
theorem mkGS_set {a zs : List GD} {i : Nat} {x : GD} {k kk : Int} (hz : zs = mkGS k (a.take i) ++ a.drop i) (h : a[i]? = some x) (hk : kk = k + gmark (a.take i)) : zs.set i ⟨mkInt kk x.V.length, mkGEdge (kk + x.V.length) x.E.length⟩ = mkGS k (a.take (i + 1)) ++ a.drop (i + 1) := by
  subst hz hk
  have hi := (List.getElem?_eq_some_iff.1 h).1
  have hl : (mkGS k (a.take i)).length = i := by rw [mkGS_len, List.length_take]; omega
  rw [mkGS_snoc k h, List.set_append_right _ _ (by omega), hl, Nat.sub_self, List.drop_eq_getElem_cons hi, List.set_cons_zero, List.append_assoc]; rfl
theorem mkGS_at {a zs : List GD} {i j : Nat} {x : GD} {k : Int} (hz : zs = mkGS k (a.take i) ++ a.drop i) (hi : i ≤ a.length) (hj : i ≤ j) (h : zs[j]? = some x) : a[j]? = some x := by
  subst hz
  have hl : (mkGS k (a.take i)).length = i := by rw [mkGS_len, List.length_take]; omega
  rw [List.getElem?_append_right (by omega), hl, List.getElem?_drop, show i + (j - i) = j by omega] at h; exact h
theorem mkGS_end {a zs : List GD} {i : Nat} {k : Int} (hz : zs = mkGS k (a.take i) ++ a.drop i) (hi : a.length ≤ i) : zs = mkGS k a := by
  rw [hz, List.take_of_length_le hi, List.drop_of_length_le hi, List.append_nil]
theorem gmark_mk : ∀ (a : List GD) (k : Int), gmark (mkGS k a) = gmark a
  | [], _ => rfl
  | x :: xs, k => by
    have := gmark_mk xs (k + x.V.length + 4 * x.E.length)
    simp only [gmark, mkGS, List.map_cons, List.sum_cons, mkInt_len, mkGEdge_len] at this ⊢
    omega
theorem held_pos {p : Prop} [Decidable p] {x : Int} (h : ¬ (if p then x else -1) < 0) : p ∧ (if p then x else -1) = x := by
  by_cases hp : p
  · exact ⟨hp, if_pos hp⟩
  · rw [if_neg hp] at h; exact absurd (by decide) h
theorem held_neg {p : Prop} [Decidable p] {x : Int} (h : (if p then x else -1) < 0) (hx : 0 ≤ x) : ¬ p := fun hp => by rw [if_pos hp] at h; omega
theorem mkGS_get {a : List GD} {i : Nat} {y : GD} {k : Int} (h : a[i]? = some y) : (mkGS k a)[i]? = some ⟨mkInt (k + gmark (a.take i)) y.V.length, mkGEdge (k + gmark (a.take i) + y.V.length) y.E.length⟩ := by
  have hi := (List.getElem?_eq_some_iff.1 h).1
  have hl : (mkGS k (a.take i)).length = i := by rw [mkGS_len, List.length_take]; omega
  have e : mkGS k a = mkGS k (a.take (i + 1)) ++ mkGS (k + gmark (a.take (i + 1))) (a.drop (i + 1)) := by rw [← mkGS_app, List.take_append_drop]
  rw [e, mkGS_snoc k h, List.getElem?_append_left (by simp; omega), List.getElem?_append_right (by omega), hl]; simp
theorem held_bad {a : List GD} {i : Nat} {y : GD} {k kk : Int} (h : a[i]? = some y) (hk : kk = k + gmark (a.take i)) (hn : ¬ (y.V = mkInt kk y.V.length ∧ y.E = mkGEdge (kk + y.V.length) y.E.length)) : ¬ a = mkGS k a := fun e => by
  have h2 := mkGS_get (k := k) h
  rw [← e, h] at h2
  injection h2 with h2
  apply hn
  subst hk
  exact ⟨congrArg (·.V) h2, congrArg (·.E) h2⟩
theorem held_gs {a : List GD} {i : Nat} {y : GD} {k kk : Int} (ht : a.take i = mkGS k (a.take i)) (h : a[i]? = some y) (hk : kk = k + gmark (a.take i)) (h1 : y.V = mkInt kk y.V.length) (h2 : y.E = mkGEdge (kk + y.V.length) y.E.length) : a.take (i + 1) = mkGS k (a.take (i + 1)) := by
  rw [mkGS_snoc k h, ← ht, take_snoc h, ← hk, ← h1, ← h2]
noncomputable def heldGR (k : Int) (a : List GD) : Int := bif tt (a = mkGS k a) then k + gmark a else -1
theorem heldGR_n {k : Int} {a : List GD} (h : ¬ a = mkGS k a) : -1 = heldGR k a := by unfold heldGR; rw [← tt_false h]; rfl
theorem heldGR_y {k kk : Int} {a : List GD} {i : Nat} (ht : a.take i = mkGS k (a.take i)) (hk : kk = k + gmark (a.take i)) (hi : a.length ≤ i) : kk = heldGR k a := by
  rw [List.take_of_length_le hi] at ht hk
  unfold heldGR; rw [← tt_true ht]; exact hk
theorem heldGR_neg {k : Int} {a : List GD} (h : heldGR k a < 0) (hk : 0 ≤ k) : -1 = heldGR k a := by
  by_cases e : a = mkGS k a
  · unfold heldGR at h; rw [← tt_true e] at h; simp only [cond_true] at h; omega
  · exact heldGR_n e
theorem heldGR_mk (k : Int) (a : List GD) : heldGR k (mkGS k a) = k + gmark (mkGS k a) := by
  have e : mkGS k a = mkGS k (mkGS k a) := by
    apply List.ext_getElem?
    intro i
    rcases hq : a[i]? with _ | y
    · have hl : a.length ≤ i := List.getElem?_eq_none_iff.1 hq
      rw [List.getElem?_eq_none (by rw [mkGS_len]; exact hl), List.getElem?_eq_none (by rw [mkGS_len, mkGS_len]; exact hl)]
    · have hl : (mkGS k a).take i = mkGS k (a.take i) := by
        have e2 : mkGS k a = mkGS k (a.take i) ++ mkGS (k + gmark (a.take i)) (a.drop i) := by rw [← mkGS_app, List.take_append_drop]
        have hn : (mkGS k (a.take i)).length = i := by rw [mkGS_len, List.length_take]; have := (List.getElem?_eq_some_iff.1 hq).1; omega
        rw [e2, List.take_append_of_le_length (by omega), List.take_of_length_le (by omega)]
      rw [mkGS_get (mkGS_get hq), mkGS_get hq, hl, gmark_mk]
      simp
  unfold heldGR; rw [← tt_true e]; rfl
theorem gsize_mk : ∀ (a : List GD) (k : Int), gsize (mkGS k a) = gsize a
  | [], _ => rfl
  | x :: xs, k => by
    have := gsize_mk xs (k + x.V.length + 4 * x.E.length)
    simp only [gsize, mkGS, List.map_cons, List.sum_cons, mkInt_len, mkGEdge_len] at this ⊢
    omega
theorem nh_size (V : List Int) (E : List GEdge) (n : Int) : (nhG V E n).length ≤ 1 ∧ gsize (nhG V E n) ≤ 17 := by
  by_cases h : ValidH n [⟨V, E⟩]
  · rw [← nhG_y h]
    have := valh_val h (k := 0) rfl
    have h1 := this.2.2.1.2; have h2 := this.2.2.2
    simp only [gsize, List.map_cons, List.map_nil, List.sum_cons, List.sum_nil, List.length_singleton]
    simp only at h1 h2
    omega
  · rw [← nhG_n h]; simp [gsize]
end Go.KLib

/- Slices of graphs that are cut from the front. -/
namespace Go.KLib

theorem Od.dropN {α : Type} {cs : α → List Value} {e k : Nat} {w : World} {lo hi : Nat} {vs : List Sv} {xs : List (List α)} (h : Od cs e k w lo hi vs xs) (n : Nat) : Od cs e k w lo hi (vs.drop n) (xs.drop n) := by
  refine ⟨by rw [List.length_drop, List.length_drop, h.1], fun i v x a b => ?_, fun i j u v a b hij => ?_⟩
  · rw [List.getElem?_drop] at a b; exact h.2.1 _ v x a b
  · rw [List.getElem?_drop] at a b; exact h.2.2 _ _ u v a b (by omega)
theorem OdG.dropN {e1 e2 lo hi : Nat} {w : World} {vs : List Gv} {xs : List GD} (h : OdG e1 e2 w lo hi vs xs) (n : Nat) : OdG e1 e2 w lo hi (vs.drop n) (xs.drop n) := by
  refine ⟨by rw [List.length_drop, List.length_drop, h.1], ?_, ?_, fun u hu t ht => h.2.2.2 u (List.mem_of_mem_drop hu) t (List.mem_of_mem_drop ht)⟩
  · rw [List.map_drop, List.map_drop]; exact h.2.1.dropN n
  · rw [List.map_drop, List.map_drop]; exact h.2.2.1.dropN n
theorem SepH.dropN {o : Value} {vs : List Gv} (h : SepH o vs) (n : Nat) : SepH o (vs.drop n) := fun u hu => h u (List.mem_of_mem_drop hu)
theorem SepH.of {o o' : Value} {vs : List Gv} (h : SepH o vs) (e : bl o' = bl o) : SepH o' vs := fun u hu => ⟨fun g hg hm => (h u hu).1 g hg (e ▸ hm), fun g hg hm => (h u hu).2 g hg (e ▸ hm)⟩
noncomputable def chF (F : Int) (G : List GD) (n : Int) : Int := bif tt (gaP F G n) then n else F
noncomputable def chG (F : Int) (G : List GD) (n : Int) : List GD := bif tt (gaP F G n) then G.drop (n - F).toNat else G
theorem chF_y {F : Int} {G : List GD} {n : Int} (h : gaP F G n) : n = chF F G n := by unfold chF; rw [← tt_true h]; rfl
theorem chF_n {F : Int} {G : List GD} {n : Int} (h : ¬ gaP F G n) : F = chF F G n := by unfold chF; rw [← tt_false h]; rfl
theorem chG_y {F : Int} {G : List GD} {n : Int} (h : gaP F G n) : G.drop (n - F).toNat = chG F G n := by unfold chG; rw [← tt_true h]; rfl
theorem chG_n {F : Int} {G : List GD} {n : Int} (h : ¬ gaP F G n) : G = chG F G n := by unfold chG; rw [← tt_false h]; rfl
theorem gsize_drop (a : List GD) (n : Nat) : gsize (a.drop n) ≤ gsize a := by
  have e : gsize a = gsize (a.take n) + gsize (a.drop n) := by unfold gsize; rw [← List.sum_append, ← List.map_append, List.take_append_drop]
  omega
theorem ch_size (F : Int) (G : List GD) (n : Int) : (chG F G n).length ≤ G.length ∧ gsize (chG F G n) ≤ gsize G := by
  by_cases h : gaP F G n
  · rw [← chG_y h]; exact ⟨by rw [List.length_drop]; omega, gsize_drop _ _⟩
  · rw [← chG_n h]; exact ⟨Nat.le_refl _, Nat.le_refl _⟩
end Go.KLib

/- Maps from places to true: which places a map holds. -/
namespace Go.KLib
open Go.MapKept

/-- how the values of a key's type are told apart -/
structure KeyT (P : Program) (t : TypeId) {T : Type} [DecidableEq T] (kv : T → Value) : Prop where
  check : ∀ (w : World) (e : Bool) (x : T), (Instr.checkKey e 10000 t (kv x)).run P w = .ok () w
  eq : ∀ (w : World) (x y : T), (Op.equal t (kv x) (kv y)).run P w = .ok (decide (x = y)) w
  now : ∃ d, P.underlying t = some d ∧ ((∀ x y, Instr.sameNow d (kv x) (kv y) = some (decide (x = y))) ∨ ∀ x y, Instr.sameNow d (kv x) (kv y) = none)

/-- The map in block b holds just the places of ks, each with true. -/
def Mp {T : Type} (kv : T → Value) (w : World) (b : Nat) (ks : List T) : Prop :=
  ∃ es clock, w.heap[b]? = some (.map es clock) ∧ es.toList.map (fun e => (e.key, e.val)) = ks.map (fun t => (kv t, Value.bool true))

def FndR {T : Type} (x : T) (ks : List T) (r : Option (Nat × Value)) : Prop := (r = none ∧ x ∉ ks) ∨ ((∃ i, r = some (i, .bool true)) ∧ x ∈ ks)

section
variable {P : Program} {t : TypeId} {T : Type} [DecidableEq T] {kv : T → Value} {w w' : World} {b : Nat} {ks : List T} {ws : List Nat}
omit [DecidableEq T] in
theorem Mp.lt (h : Mp kv w b ks) : b < w.heap.size := by
  obtain ⟨es, c, hb, _⟩ := h
  rcases Nat.lt_or_ge b w.heap.size with hlt | hge
  · exact hlt
  · rw [Array.getElem?_eq_none hge] at hb; cases hb
omit [DecidableEq T] in
theorem Mp.ch (h : Mp kv w b ks) (c : Ch ws w w') (hn : b ∉ ws) : Mp kv w' b ks := by
  have hl := h.lt
  obtain ⟨es, k, hb, he⟩ := h
  exact ⟨es, k, (c.block b hl hn).trans hb, he⟩
omit [DecidableEq T] in
theorem Mp.ch0 (h : Mp kv w b ks) (c : Ch [] w w') : Mp kv w' b ks := h.ch c (by simp)

theorem find_now {d : TypeDesc} (hd : ∀ x y, Instr.sameNow d (kv x) (kv y) = some (decide (x = y))) (x : T) : ∀ (es : List MapEntry) (ks : List T) (i : Nat), es.map (fun e => (e.key, e.val)) = ks.map (fun t => (kv t, Value.bool true)) →
    ∃ r, Instr.findNow d (kv x) es i = some r ∧ FndR x ks r
  | [], ks, i, h => by
    cases ks with
    | nil => exact ⟨none, rfl, .inl ⟨rfl, List.not_mem_nil⟩⟩
    | cons a qs => simp at h
  | e :: es, ks, i, h => by
    cases ks with
    | nil => simp at h
    | cons a qs =>
      simp only [List.map_cons, List.cons.injEq, Prod.mk.injEq] at h
      obtain ⟨⟨h1, h2⟩, h3⟩ := h
      unfold Instr.findNow
      rw [h1, hd, h2]
      by_cases hx : x = a
      · simp only [hx, decide_true]
        exact ⟨_, rfl, .inr ⟨⟨i, rfl⟩, by simp⟩⟩
      · simp only [hx, decide_false]
        obtain ⟨r, hr, hf⟩ := find_now hd x es qs (i + 1) h3
        refine ⟨r, hr, ?_⟩
        rcases hf with ⟨f1, f2⟩ | ⟨f1, f2⟩
        · exact .inl ⟨f1, by simp [hx, f2]⟩
        · exact .inr ⟨f1, List.mem_cons_of_mem _ f2⟩
theorem find_ask (K : KeyT P t kv) (x : T) : ∀ (es : List MapEntry) (ks : List T) (i : Nat), es.map (fun e => (e.key, e.val)) = ks.map (fun t => (kv t, Value.bool true)) →
    ∃ r, (Instr.findAsking t (kv x) es i).run P w = .ok r w ∧ FndR x ks r
  | [], ks, i, h => by
    cases ks with
    | nil => exact ⟨none, by simp [Instr.findAsking], .inl ⟨rfl, List.not_mem_nil⟩⟩
    | cons a qs => simp at h
  | e :: es, ks, i, h => by
    cases ks with
    | nil => simp at h
    | cons a qs =>
      simp only [List.map_cons, List.cons.injEq, Prod.mk.injEq] at h
      obtain ⟨⟨h1, h2⟩, h3⟩ := h
      unfold Instr.findAsking
      by_cases hx : x = a
      · refine ⟨some (i, .bool true), ?_, .inr ⟨⟨i, rfl⟩, by simp [hx]⟩⟩
        simp [h1, h2, K.eq, hx]
      · obtain ⟨r, hr, hf⟩ := find_ask K x es qs (i + 1) h3
        refine ⟨r, ?_, ?_⟩
        · simp [h1, K.eq, hx, hr]
        · rcases hf with ⟨f1, f2⟩ | ⟨f1, f2⟩
          · exact .inl ⟨f1, by simp [hx, f2]⟩
          · exact .inr ⟨f1, List.mem_cons_of_mem _ f2⟩
theorem find_key (K : KeyT P t kv) (x : T) (es : List MapEntry) (ks : List T) (h : es.map (fun e => (e.key, e.val)) = ks.map (fun t => (kv t, Value.bool true))) :
    ∃ r, (Instr.findKey t (kv x) es).run P w = .ok r w ∧ FndR x ks r := by
  obtain ⟨d, hu, hd⟩ := K.now
  rcases hd with hd | hd
  · obtain ⟨r, hr, hf⟩ := find_now hd x es ks 0 h
    exact ⟨r, by simp [Instr.findKey, run_underlying hu, hr], hf⟩
  · obtain ⟨r, hr, hf⟩ := find_ask (w := w) K x es ks 0 h
    refine ⟨r, ?_, hf⟩
    cases es with
    | nil =>
      have hr2 : r = none := by simp [Instr.findAsking] at hr; exact hr.symm
      simp [Instr.findKey, run_underlying hu, Instr.findNow, hr2]
    | cons e es =>
      cases ks with
      | nil => simp at h
      | cons a qs =>
        have h1 : e.key = kv a := by
          simp only [List.map_cons, List.cons.injEq, Prod.mk.injEq] at h
          exact h.1.1
        simp [Instr.findKey, run_underlying hu, Instr.findNow, h1, hd, hr]

end
section
variable {P : Program} {N : Nat} {w : World} {l : KL} {dst : Option Tmp} {ty : TypeId} {pos : String} {aft : Array Edge} {gd : Option (Nat × Bool)} {K' : Value → World → Prop} {t kt et : TypeId} {T : Type} [DecidableEq T] {kv : T → Value} {b : Nat} {ks : List T}
omit [DecidableEq T] in
theorem s_makeMap (kv : T → Value) (k : ∀ b w', Mp kv w' b [] → Ch [] w w' → b = w.heap.size → K' (.map (some b)) w') : Step P l ⟨dst, .makeMap t none, ty, pos, aft, gd⟩ w K' := by
  refine Step.of (v := .map (some w.heap.size)) (w' := w.alloc (.map #[] 0)) (fun ρ hρ => ?_) (k _ _ ⟨#[], 0, heap_alloc_new w _, rfl⟩ (Ch.alloc w _) rfl)
  simp [execOp, Instr.makeMap]
theorem run_mapPut (hu : P.underlying t = some (.map kt et)) (K : KeyT P kt kv) (x : T) (hm : Mp kv w b ks) (hx : x ∉ ks) :
    ∃ w', (Instr.mapUpdate t (.map (some b)) (kv x) (.bool true)).run P w = .ok () w' ∧ Mp kv w' b (ks ++ [x]) ∧ Ch [b] w w' := by
  have hl := hm.lt
  obtain ⟨es, c, hb, he⟩ := hm
  obtain ⟨r, hr, hf⟩ := find_key (w := w) K x es.toList ks he
  have hn : r = none := by
    rcases hf with ⟨f1, _⟩ | ⟨_, f2⟩
    · exact f1
    · exact absurd f2 hx
  subst hn
  refine ⟨{ w with heap := w.heap.setIfInBounds b (.map (es.push { key := kv x, val := .bool true, born := c }) (c + 1)) }, ?_, ⟨es.push { key := kv x, val := .bool true, born := c }, c + 1, ?_, ?_⟩, ⟨rfl, rfl, rfl, by simp, fun i hi hn => ?_⟩⟩
  · simp [Instr.mapUpdate, run_underlying hu, MapKept.run_getObj_map hb, K.check, hr, MapKept.run_setObj_map _ hb]
  · simp [Array.getElem?_setIfInBounds, hl]
  · simp [he]
  · simp at hn
    simp [Array.getElem?_setIfInBounds, Ne.symm hn]
theorem s_mapPut {m k x : Operand} (y : T) (hu : P.underlying t = some (.map kt et)) (K : KeyT P kt kv) (hm : Mp kv w b ks) (h1 : ev l m = some (.map (some b))) (h2 : ev l k = some (kv y)) (h3 : ev l x = some (.bool true)) (hx : y ∉ ks)
    (h : ∀ w', Mp kv w' b (ks ++ [y]) → Ch [b] w w' → K' undef w') : Step P l ⟨dst, .mapUpdate t m k x, ty, pos, aft, gd⟩ w K' := by
  obtain ⟨w', hr, a, c⟩ := run_mapPut hu K y hm hx
  refine Step.ofU (w' := w') (fun ρ hρ => ?_) (h w' a c)
  simp [execOp, hρ _ _ h1, hρ _ _ h2, hρ _ _ h3, hr]
theorem s_mapIns {m k x : Operand} (y : T) (hu : P.underlying t = some (.map kt et)) (K : KeyT P kt kv) (hm : Mp kv w b ks) (h1 : ev l m = some (.map (some b))) (h2 : ev l k = some (kv y)) (h3 : ev l x = some (.bool true)) (hx : y ∉ ks)
    (h : ∀ w', Mp kv w' b (ks ++ [y]) → Ch [b] w w' → K' undef w') : Step P l ⟨dst, .insert t m k x, ty, pos, aft, gd⟩ w K' := by
  obtain ⟨w', hr, a, c⟩ := run_mapPut hu K y hm hx
  refine Step.ofU (w' := w') (fun ρ hρ => ?_) (h w' a c)
  simp [execOp, hρ _ _ h1, hρ _ _ h2, hρ _ _ h3, hr]
theorem r_mapLook {m k : Operand} (y : T) (hu : P.underlying t = some (.map kt et)) (hz : zeroB P et = some (.bool false)) (K : KeyT P kt kv) (hm : Mp kv w b ks) (h1 : ev l m = some (.map (some b))) (h2 : ev l k = some (kv y)) :
    Runs P l ⟨dst, .lookup t m k false, ty, pos, aft, gd⟩ w (.bool (decide (y ∈ ks))) w := fun ρ hρ => by
  obtain ⟨es, c, hb, he⟩ := hm
  obtain ⟨r, hr, hf⟩ := find_key (w := w) K y es.toList ks he
  rcases hf with ⟨f1, f2⟩ | ⟨⟨i, f1⟩, f2⟩
  · subst f1
    simp [execOp, hρ _ _ h1, hρ _ _ h2, Instr.lookup, run_underlying hu, MapKept.run_getObj_map hb, K.check, hr, run_zeroB hz, f2]
  · subst f1
    simp [execOp, hρ _ _ h1, hρ _ _ h2, Instr.lookup, run_underlying hu, MapKept.run_getObj_map hb, K.check, hr, f2]
end
/-! ### The keys of these programs: ints, and structs of two ints -/
structure St2 where
  a : Int
  b : Int
  deriving DecidableEq
def St2.cs (s : St2) : List Value := [.int .i64 s.a, .int .i64 s.b]
theorem St2.len (s : St2) : s.cs.length = 2 := rfl
theorem St2.one (x : St2) : ∀ y ∈ x.cs, y.oneCell' = true := by intro y hy; simp [St2.cs] at hy; rcases hy with rfl | rfl <;> rfl
def kvI (x : Int) : Value := .int .i64 x
def kvS (x : St2) : Value := .agg #[.int .i64 x.a, .int .i64 x.b]
section
variable {P : Program} {t : TypeId}
theorem keyT_int (h : P.underlying t = some (.int .i64)) : KeyT P t kvI := by
  refine ⟨fun w e x => ?_, fun w x y => ?_, ⟨_, h, .inl fun x y => ?_⟩⟩
  · unfold Instr.checkKey; simp [run_underlying h, kvI]
  · exact run_equalIn_int w 9999 t .i64 .i64 x y h
  · simp [Instr.sameNow, kvI]; rfl
theorem list_two {β : Type} {fs : Array β} (h : fs.size = 2) : ∃ a b, fs = #[a, b] := by
  obtain ⟨l⟩ := fs
  match l, h with
  | [a, b], _ => exact ⟨a, b, rfl⟩
theorem keyT_st2 (h : intStructB P t 2 = true) : KeyT P t kvS := by
  have hi := h
  unfold intStructB at h
  cases hu : P.underlying t with
  | none => simp [hu] at h
  | some dd =>
    cases dd with
    | struct fs =>
      simp only [hu, Bool.and_eq_true, Bool.not_eq_true', beq_iff_eq, List.all_eq_true, List.mem_range] at h
      obtain ⟨⟨⟨h1, h2⟩, h3⟩, h4⟩ := h
      obtain ⟨f0, f1, rfl⟩ := list_two h1
      have a0 := h4 0 (by omega)
      have a1 := h4 1 (by omega)
      simp only [List.getElem?_toArray, List.getElem?_cons_zero, List.getElem?_cons_succ, Bool.and_eq_true, bne_iff_ne, beq_iff_eq] at a0 a1
      have u0 : P.underlying f0.type = some (.int .i64) := by
        have h5 := a0.2
        split at h5
        · assumption
        · cases h5
      have u1 : P.underlying f1.type = some (.int .i64) := by
        have h5 := a1.2
        split at h5
        · assumption
        · cases h5
      refine ⟨fun w e x => ?_, fun w x y => ?_, ⟨_, hu, .inr fun x y => ?_⟩⟩
      · have p0 := run_part1 (P := P) (w := w) (cs := #[.int .i64 x.a, .int .i64 x.b]) (i := f0.offset) (v := .int .i64 x.a) u0 (by rw [a0.1.2]; rfl)
        have p1 := run_part1 (P := P) (w := w) (cs := #[.int .i64 x.a, .int .i64 x.b]) (i := f1.offset) (v := .int .i64 x.b) u1 (by rw [a1.1.2]; rfl)
        unfold Instr.checkKey
        simp [run_underlying hu, kvS, a0.1.1, a1.1.1, p0, p1]
        unfold Instr.checkKey
        simp [run_underlying u0, run_underlying u1, p1]
      · have := (run_eqInts (P := P) (w := w) [x.a, x.b] [y.a, y.b] hi rfl).1
        simp only [List.map_cons, List.map_nil] at this
        rw [show Op.equal t (kvS x) (kvS y) = Op.equalIn 10000 t (.agg #[.int .i64 x.a, .int .i64 x.b]) (.agg #[.int .i64 y.a, .int .i64 y.b]) from rfl, this]
        congr 1
        obtain ⟨xa, xb⟩ := x
        obtain ⟨ya, yb⟩ := y
        simp
      · rfl
    | _ => simp [hu] at h
end
end Go.KLib

/- The least word to a place: what the search gives is the least of all words that pass the test. -/
namespace Go.KLib

/-- words stand in the order of their numbers -/
def val (w : List Int) : Nat := w.foldl (fun a c => 9 * a + c.toNat + 1) 0
def okW (w : List Int) : Prop := ∀ c ∈ w, 0 ≤ c ∧ c ≤ 8
theorem val_nil : val [] = 0 := rfl
theorem val_snoc (w : List Int) (c : Int) : val (w ++ [c]) = 9 * val w + c.toNat + 1 := by simp [val]
theorem okW_nil : okW [] := fun _ h => by cases h
theorem okW_snoc {w : List Int} {c : Int} : okW (w ++ [c]) ↔ okW w ∧ (0 ≤ c ∧ c ≤ 8) := by
  constructor
  · intro h; exact ⟨fun x hx => h x (List.mem_append_left _ hx), h c (by simp)⟩
  · intro h x hx
    rcases List.mem_append.1 hx with hx | hx
    · exact h.1 x hx
    · rw [List.mem_singleton.1 hx]; exact h.2
theorem snoc_ind {α : Type} {p : List α → Prop} (h0 : p []) (h1 : ∀ u c, p u → p (u ++ [c])) (w : List α) : p w := by
  have h : ∀ n (w : List α), w.length = n → p w := by
    intro n
    induction n with
    | zero => intro w hw; rw [List.eq_nil_of_length_eq_zero hw]; exact h0
    | succ n ih =>
      intro w hw
      have hne : w ≠ [] := by intro e; rw [e] at hw; cases hw
      rw [← List.dropLast_concat_getLast hne]
      exact h1 _ _ (ih _ (by simp [hw]))
  exact h _ w rfl
theorem val_inj : ∀ {u v : List Int}, okW u → okW v → val u = val v → u = v := by
  intro u
  induction u using snoc_ind with
  | h0 =>
    intro v _ _ h
    induction v using snoc_ind with
    | h0 => rfl
    | h1 v c _ => rw [val_snoc] at h; rw [val_nil] at h; omega
  | h1 u c ih =>
    intro v hu hv h
    induction v using snoc_ind with
    | h0 => rw [val_snoc, val_nil] at h; omega
    | h1 v d _ =>
      rw [val_snoc, val_snoc] at h
      obtain ⟨hu1, hc⟩ := okW_snoc.1 hu
      obtain ⟨hv1, hd⟩ := okW_snoc.1 hv
      rw [ih hu1 hv1 (by omega), show c = d by omega]
def rep9 : Nat → Nat
  | 0 => 0
  | n + 1 => 9 * rep9 n + 1
theorem val_len : ∀ {w : List Int}, okW w → rep9 w.length ≤ val w ∧ val w ≤ 9 * rep9 w.length := by
  intro w
  induction w using snoc_ind with
  | h0 => intro _; simp [val_nil, rep9]
  | h1 w c ih =>
    intro h
    obtain ⟨h1, h2⟩ := okW_snoc.1 h
    have := ih h1
    rw [val_snoc]; simp only [List.length_append, List.length_singleton, rep9]
    omega
theorem rep9_mono : ∀ {m n : Nat}, m ≤ n → rep9 m ≤ rep9 n := by
  intro m n h
  induction n with
  | zero => rw [show m = 0 by omega]; exact Nat.le_refl _
  | succ n ih =>
    rcases Nat.eq_or_lt_of_le h with e | e
    · rw [e]; exact Nat.le_refl _
    · have := ih (by omega); simp only [rep9]; omega
theorem len_of_val {u v : List Int} (hu : okW u) (hv : okW v) (h : val u ≤ val v) : u.length ≤ v.length := by
  rcases Nat.lt_or_ge v.length u.length with q | q
  · have h1 := val_len hu
    have h2 := val_len hv
    have h3 := rep9_mono (show v.length + 1 ≤ u.length from q)
    simp only [rep9] at h3
    omega
  · exact q

/-- r is the least word at which f is true, if there is one -/
def LeastW (f : List Int → Bool) (r : List Int × Bool) : Prop :=
  (r.2 = true ∧ okW r.1 ∧ f r.1 = true ∧ ∀ v, okW v → val v < val r.1 → f v = false) ∨ (r = ([], false) ∧ ∀ v, okW v → f v = false)
theorem least_one {f : List Int → Bool} {r s : List Int × Bool} (h : LeastW f r) (g : LeastW f s) : r = s := by
  rcases h with ⟨h1, h2, h3, h4⟩ | ⟨h1, h2⟩ <;> rcases g with ⟨g1, g2, g3, g4⟩ | ⟨g1, g2⟩
  · refine Prod.ext (val_inj h2 g2 ?_) (by rw [h1, g1])
    rcases Nat.lt_trichotomy (val r.1) (val s.1) with q | q | q
    · have := g4 _ h2 q; rw [h3] at this; cases this
    · exact q
    · have := h4 _ g2 q; rw [g3] at this; cases this
  · have := g2 _ h2; rw [h3] at this; cases this
  · have := h2 _ g2; rw [g3] at this; cases this
  · rw [h1, g1]
noncomputable def lwF (f : List Int → Bool) : List Int × Bool := by
  classical exact if h : ∃ r, LeastW f r then h.choose else ([], false)
theorem lw_eq {f : List Int → Bool} {r : List Int × Bool} (h : LeastW f r) : r = lwF f := by
  unfold lwF
  rw [dif_pos ⟨r, h⟩]
  exact least_one h (Exists.choose_spec (⟨r, h⟩ : ∃ r, LeastW f r))

section
variable {T : Type} [DecidableEq T] {nx : T → Nat → T} {t0 : T} {ts : T → Bool}
def runT (nx : T → Nat → T) (t0 : T) (w : List Int) : T := w.foldl (fun t c => nx t c.toNat) t0
omit [DecidableEq T] in
theorem runT_snoc (w : List Int) (c : Int) : runT nx t0 (w ++ [c]) = nx (runT nx t0 w) c.toNat := by simp [runT]

def Srt (E : List (T × List Int)) : Prop := E.Pairwise fun x y => val x.2 < val y.2
omit [DecidableEq T] in
theorem Srt.lt {E : List (T × List Int)} (h : Srt E) {i j : Nat} {x y : T × List Int} (hi : E[i]? = some x) (hj : E[j]? = some y) (hv : val x.2 < val y.2) : i < j := by
  obtain ⟨hi1, hi2⟩ := List.getElem?_eq_some_iff.1 hi
  obtain ⟨hj1, hj2⟩ := List.getElem?_eq_some_iff.1 hj
  rcases Nat.lt_trichotomy i j with q | q | q
  · exact q
  · subst q; rw [hi2] at hj2; rw [hj2] at hv; omega
  · have := List.pairwise_iff_getElem.1 h j i hj1 hi1 q
    rw [hi2, hj2] at this; omega

/-- what is known of the list of places when the place e has been worked off up to letter m -/
structure BXI (nx : T → Nat → T) (t0 : T) (e : T × List Int) (m : Nat) (E : List (T × List Int)) : Prop where
  ok : ∀ x ∈ E, okW x.2 ∧ runT nx t0 x.2 = x.1
  srt : Srt E
  top : ∀ x ∈ E, val x.2 ≤ 9 * val e.2 + m
  all : ∀ c, c < m → ∃ y ∈ E, y.1 = nx e.1 c ∧ val y.2 ≤ 9 * val e.2 + c + 1
theorem bxi_step {e : T × List Int} {m : Nat} {E : List (T × List Int)} (hm : m < 9) (he : okW e.2 ∧ runT nx t0 e.2 = e.1) (h : BXI nx t0 e m (bx nx e E m)) : BXI nx t0 e (m + 1) (bx nx e E (m + 1)) := by
  unfold bx
  split
  · rename_i hmem
    obtain ⟨y, hy, hy2⟩ := List.mem_map.1 hmem
    refine ⟨h.ok, h.srt, fun x hx => by have := h.top x hx; omega, fun c hc => ?_⟩
    rcases Nat.lt_or_ge c m with q | q
    · exact h.all c q
    · rw [show c = m by omega]; exact ⟨y, hy, hy2, by have := h.top y hy; omega⟩
  · have hv : val (e.2 ++ [(m : Int)]) = 9 * val e.2 + m + 1 := by rw [val_snoc]; simp
    refine ⟨fun x hx => ?_, ?_, fun x hx => ?_, fun c hc => ?_⟩
    · rcases List.mem_append.1 hx with hx | hx
      · exact h.ok x hx
      · rw [List.mem_singleton.1 hx]
        exact ⟨okW_snoc.2 ⟨he.1, by omega⟩, by rw [runT_snoc, he.2]; simp⟩
    · refine List.pairwise_append.2 ⟨h.srt, by simp, fun x hx y hy => ?_⟩
      rw [List.mem_singleton.1 hy]
      have := h.top x hx
      simp only [hv]; omega
    · rcases List.mem_append.1 hx with hx | hx
      · have := h.top x hx; omega
      · rw [List.mem_singleton.1 hx]; simp only [hv]; omega
    · rcases Nat.lt_or_ge c m with q | q
      · obtain ⟨y, hy, h2⟩ := h.all c q
        exact ⟨y, List.mem_append_left _ hy, h2⟩
      · rw [show c = m by omega]; exact ⟨(nx e.1 m, e.2 ++ [(m : Int)]), List.mem_append_right _ (List.mem_singleton.2 rfl), rfl, by simp only [hv]; omega⟩
theorem bxi_all {e : T × List Int} {E : List (T × List Int)} (he : okW e.2 ∧ runT nx t0 e.2 = e.1) (h : BXI nx t0 e 0 E) : ∀ m, m ≤ 9 → BXI nx t0 e m (bx nx e E m)
  | 0, _ => h
  | m + 1, hm => bxi_step (by omega) he (bxi_all he h m (by omega))

structure BEI (nx : T → Nat → T) (t0 : T) (k : Nat) (E : List (T × List Int)) : Prop where
  ok : ∀ x ∈ E, okW x.2 ∧ runT nx t0 x.2 = x.1
  srt : Srt E
  fst : E[0]? = some (t0, [])
  top : ∀ x ∈ E, x.2 = [] ∨ ∃ j y, j < k ∧ E[j]? = some y ∧ val x.2 ≤ 9 * val y.2 + 9
  all : ∀ j x, j < k → E[j]? = some x → ∀ c, c < 9 → ∃ y ∈ E, y.1 = nx x.1 c ∧ val y.2 ≤ 9 * val x.2 + c + 1
theorem bei : ∀ k, BEI nx t0 k (bE nx t0 k)
  | 0 => ⟨fun x hx => by rw [show bE nx t0 0 = [(t0, [])] from rfl, List.mem_singleton] at hx; rw [hx]; exact ⟨okW_nil, rfl⟩, by simp [Srt, bE], rfl,
      fun x hx => by rw [show bE nx t0 0 = [(t0, [])] from rfl, List.mem_singleton] at hx; rw [hx]; exact .inl rfl, fun j _ hj => absurd hj (by omega)⟩
  | k + 1 => by
    have ih := bei k
    rcases hq : (bE nx t0 k)[k]? with _ | e
    · rw [bE_stop (List.getElem?_eq_none_iff.1 hq)]
      have hl := List.getElem?_eq_none_iff.1 hq
      exact ⟨ih.ok, ih.srt, ih.fst, fun x hx => by
        rcases ih.top x hx with h | ⟨j, y, h1, h2⟩
        · exact .inl h
        · exact .inr ⟨j, y, by omega, h2⟩, fun j x hj hx c hc => by
        have := (List.getElem?_eq_some_iff.1 hx).1
        exact ih.all j x (by omega) hx c hc⟩
    · rw [bE_succ hq]
      have he := ih.ok e (mem_of_get hq)
      have h0 : BXI nx t0 e 0 (bE nx t0 k) := ⟨ih.ok, ih.srt, fun x hx => by
        rcases ih.top x hx with h | ⟨j, y, h1, h2, h3⟩
        · rw [h, val_nil]; omega
        · have hlt : val y.2 < val e.2 := by
            obtain ⟨a1, a2⟩ := List.getElem?_eq_some_iff.1 h2
            obtain ⟨b1, b2⟩ := List.getElem?_eq_some_iff.1 hq
            have := List.pairwise_iff_getElem.1 ih.srt j k a1 b1 h1
            rw [a2, b2] at this; exact this
          omega, fun c hc => absurd hc (by omega)⟩
      have h9 := bxi_all he h0 9 (Nat.le_refl _)
      refine ⟨h9.ok, h9.srt, bx_get ih.fst, fun x hx => ?_, fun j x hj hx c hc => ?_⟩
      · exact .inr ⟨k, e, by omega, bx_get hq, h9.top x hx⟩
      · rcases Nat.lt_or_ge j k with q | q
        · have hx' : (bE nx t0 k)[j]? = some x := by
            have hl := (List.getElem?_eq_some_iff.1 hq).1
            rcases hz : (bE nx t0 k)[j]? with _ | z
            · have := List.getElem?_eq_none_iff.1 hz; omega
            · have := bx_get (nx := nx) (e := e) (k := 9) hz
              rw [this] at hx; exact hx
          obtain ⟨y, hy, h2⟩ := ih.all j x q hx' c hc
          obtain ⟨D, hD⟩ := bx_pre (nx := nx) e (bE nx t0 k) 9
          exact ⟨y, by rw [hD]; exact List.mem_append_left _ hy, h2⟩
        · have hjk : j = k := by omega
          subst hjk
          have := bx_get (nx := nx) (e := e) (k := 9) hq
          rw [this] at hx; injection hx with hx; subst hx
          exact h9.all c hc
/-- every word less than that of place k leads to a place ahead of k -/
theorem cover {k : Nat} {lim : Nat} (hl : ∀ i y, (bE nx t0 k)[i]? = some y → val y.2 < lim → i < k) (h0 : 0 < lim → 0 < k) : ∀ v, okW v → val v < lim → ∃ j x, j < k ∧ (bE nx t0 k)[j]? = some x ∧ x.1 = runT nx t0 v ∧ val x.2 ≤ val v := by
  intro v
  have B := bei (nx := nx) (t0 := t0) k
  induction v using snoc_ind with
  | h0 => intro _ hv; exact ⟨0, _, h0 (by omega), B.fst, rfl, Nat.le_refl _⟩
  | h1 u c ih =>
    intro hok hv
    obtain ⟨hu, hc⟩ := okW_snoc.1 hok
    rw [val_snoc] at hv
    obtain ⟨j, x, h1, h2, h3, h4⟩ := ih hu (by omega)
    obtain ⟨y, hy, g1, g2⟩ := B.all j x h1 h2 c.toNat (by omega)
    obtain ⟨i, hi1, hi2⟩ := List.getElem_of_mem hy
    have hi : (bE nx t0 k)[i]? = some y := List.getElem?_eq_some_iff.2 ⟨hi1, hi2⟩
    refine ⟨i, y, hl i y hi (by omega), hi, by rw [g1, h3, runT_snoc], by rw [val_snoc]; omega⟩
theorem bres_least {r : List Int × Bool} (h : BRes nx t0 ts r) : LeastW (fun v => ts (runT nx t0 v)) r := by
  rcases h with ⟨h1, k, e, h2, h3, h4, h5⟩ | ⟨h1, k, h2, h3⟩
  · have B := bei (nx := nx) (t0 := t0) k
    have he := B.ok e (mem_of_get h2)
    refine .inl ⟨h1, by rw [h4]; exact he.1, by simp only [h4, he.2, h3], fun v hv hlt => ?_⟩
    rw [h4] at hlt
    obtain ⟨j, x, g1, g2, g3, _⟩ := cover (lim := val e.2) (fun i y hi hy => B.srt.lt hi h2 hy) (fun hp => by
      rcases Nat.eq_zero_or_pos k with q | q
      · subst q; rw [B.fst] at h2; injection h2 with h2; subst h2; rw [val_nil] at hp; omega
      · exact q) v hv hlt
    have hx : (bE nx t0 j)[j]? = some x := by
      rcases hz : (bE nx t0 j)[j]? with _ | z
      · have hs := bE_short (List.getElem?_eq_none_iff.1 hz) (Nat.le_of_lt g1)
        rw [hs, hz] at g2; cases g2
      · have := bE_get hz (Nat.le_of_lt g1); rw [this] at g2; exact g2
    simp only [← g3]
    exact h5 j x g1 hx
  · refine .inr ⟨h1, fun v hv => ?_⟩
    obtain ⟨j, x, g1, g2, g3, _⟩ := cover (nx := nx) (t0 := t0) (k := k) (lim := val v + 1) (fun i y hi _ => by have := (List.getElem?_eq_some_iff.1 hi).1; omega) (fun _ => by
      rcases Nat.eq_zero_or_pos k with q | q
      · subst q; simp [bE] at h2
      · exact q) v hv (by omega)
    have hx : (bE nx t0 j)[j]? = some x := by
      rcases hz : (bE nx t0 j)[j]? with _ | z
      · have hs := bE_short (List.getElem?_eq_none_iff.1 hz) (Nat.le_of_lt g1)
        rw [hs, hz] at g2; cases g2
      · have := bE_get hz (Nat.le_of_lt g1); rw [this] at g2; exact g2
    simp only [← g3]
    exact h3 j x g1 hx
theorem bres_lw {r : List Int × Bool} (h : BRes nx t0 ts r) : r = lwF (fun v => ts (runT nx t0 v)) := lw_eq (bres_least h)
theorem lw_least {r : List Int × Bool} (h : BRes nx t0 ts r) : LeastW (fun v => ts (runT nx t0 v)) (lwF (fun v => ts (runT nx t0 v))) := by rw [← bres_lw h]; exact bres_least h
end

/-! ### How many places there are -/
theorem nodup_lt : ∀ (n : Nat) (l : List Nat), l.Nodup → (∀ x ∈ l, x < n) → l.length ≤ n
  | 0, l, _, h => by
    cases l with
    | nil => exact Nat.le_refl _
    | cons a l => exact absurd (h a (by simp)) (by omega)
  | n + 1, l, hd, h => by
    by_cases hm : n ∈ l
    · have h1 := nodup_lt n (l.erase n) (hd.erase n) (fun x hx => by
        have h2 := h x (List.mem_of_mem_erase hx)
        have h3 := ((List.Nodup.mem_erase_iff hd).1 hx).1
        omega)
      rw [List.length_erase_of_mem hm] at h1
      omega
    · have h1 := nodup_lt n l hd (fun x hx => by
        have h2 := h x hx
        rcases Nat.eq_or_lt_of_le (Nat.le_of_lt_succ h2) with q | q
        · exact absurd (q ▸ hx) hm
        · exact q)
      omega
theorem nodup_map {T : Type} (g : T → Nat) (n : Nat) {l : List T} (hd : l.Nodup) (hi : ∀ x ∈ l, ∀ y ∈ l, g x = g y → x = y) (h : ∀ x ∈ l, g x < n) : l.length ≤ n := by
  have h1 : (l.map g).Nodup := by
    induction l with
    | nil => exact List.nodup_nil
    | cons a l ih =>
      rw [List.nodup_cons] at hd
      rw [List.map_cons, List.nodup_cons]
      refine ⟨fun hm => ?_, ih hd.2 (fun x hx y hy => hi x (List.mem_cons_of_mem _ hx) y (List.mem_cons_of_mem _ hy)) (fun x hx => h x (List.mem_cons_of_mem _ hx))⟩
      obtain ⟨b, hb, hb2⟩ := List.mem_map.1 hm
      exact hd.1 (hi b (List.mem_cons_of_mem _ hb) a (by simp) hb2 ▸ hb)
  have := nodup_lt n (l.map g) h1 (fun x hx => by obtain ⟨y, hy, rfl⟩ := List.mem_map.1 hx; exact h y hy)
  simpa using this
end Go.KLib

/- Sets of pairs in ascending order: putting one in, sorting and compacting. -/
namespace Go.KLib

def putP : List Pair → Pair → List Pair
  | [], p => [p]
  | x :: l, p => if x = p then x :: l else if cmpP p x < 0 then p :: x :: l else x :: putP l p
def psP (l : List Pair) : List Pair := l.foldl putP []
def SrtP (l : List Pair) : Prop := l.Pairwise lessP

theorem less_trans {a b c : Pair} (h : lessP a b) (k : lessP b c) : lessP a c := by unfold lessP at *; omega
theorem less_irr {a b : Pair} (h : lessP a b) : ¬ lessP b a := by unfold lessP at *; omega
theorem less_self {a : Pair} : ¬ lessP a a := by unfold lessP; omega
theorem less_tri {a b : Pair} (h : ¬ a = b) (k : ¬ lessP a b) : lessP b a := by
  have h1 : ¬ (a.f = b.f ∧ a.t = b.t) := fun e => h (by obtain ⟨_, _⟩ := a; obtain ⟨_, _⟩ := b; simp_all)
  unfold lessP at *; omega

theorem put_mem : ∀ {l : List Pair} {p x : Pair}, x ∈ putP l p ↔ x ∈ l ∨ x = p
  | [], p, x => by simp [putP]
  | y :: l, p, x => by
    unfold putP
    split
    · rename_i h
      constructor
      · intro q; exact .inl q
      · rintro (q | q)
        · exact q
        · rw [q, ← h]; exact List.mem_cons_self ..
    · split
      · simp only [List.mem_cons]
        constructor
        · rintro (q | q | q)
          · exact .inr q
          · exact .inl (.inl q)
          · exact .inl (.inr q)
        · rintro ((q | q) | q)
          · exact .inr (.inl q)
          · exact .inr (.inr q)
          · exact .inl q
      · rw [List.mem_cons, put_mem, List.mem_cons]
        constructor
        · rintro (q | q | q)
          · exact .inl (.inl q)
          · exact .inl (.inr q)
          · exact .inr q
        · rintro ((q | q) | q)
          · exact .inl q
          · exact .inr (.inl q)
          · exact .inr (.inr q)
theorem put_srt : ∀ {l : List Pair} {p : Pair}, SrtP l → SrtP (putP l p)
  | [], p, _ => by simp [putP, SrtP]
  | y :: l, p, h => by
    unfold SrtP at h ⊢
    rw [List.pairwise_cons] at h
    unfold putP
    split
    · exact List.pairwise_cons.2 h
    · rename_i hne
      split
      · rename_i hlt
        rw [cmpP_lt] at hlt
        refine List.pairwise_cons.2 ⟨fun x hx => ?_, List.pairwise_cons.2 h⟩
        rcases List.mem_cons.1 hx with q | q
        · rw [q]; exact hlt
        · exact less_trans hlt (h.1 x q)
      · rename_i hlt
        rw [cmpP_lt] at hlt
        refine List.pairwise_cons.2 ⟨fun x hx => ?_, put_srt h.2⟩
        rcases put_mem.1 hx with q | q
        · exact h.1 x q
        · rw [q]; exact less_tri (fun e => hne e.symm) hlt
theorem put_len : ∀ {l : List Pair} {p : Pair}, (putP l p).length ≤ l.length + 1
  | [], p => by simp [putP]
  | y :: l, p => by
    unfold putP
    split
    · simp
    · split
      · simp
      · have := put_len (l := l) (p := p); simp; omega
theorem put_same : ∀ {l : List Pair} {p : Pair} {k : Nat}, SrtP l → l[k]? = some p → putP l p = l
  | [], p, k, _, h => by simp at h
  | y :: l, p, k, hs, h => by
    unfold SrtP at hs
    rw [List.pairwise_cons] at hs
    unfold putP
    split
    · rfl
    · rename_i hne
      cases k with
      | zero => simp at h; exact absurd h hne
      | succ k =>
        simp at h
        have := hs.1 p (mem_of_get h)
        rw [if_neg (by rw [cmpP_lt]; exact less_irr this), put_same hs.2 h]
theorem put_at : ∀ {l : List Pair} {p : Pair} {k : Nat}, k ≤ l.length → (∀ i x, i < k → l[i]? = some x → lessP x p) → (∀ x, l[k]? = some x → ¬ x = p ∧ ¬ lessP x p) → putP l p = l.take k ++ [p] ++ l.drop k
  | [], p, k, hk, _, _ => by simp [putP]
  | y :: l, p, k, hk, h1, h2 => by
    unfold putP
    cases k with
    | zero =>
      have := h2 y rfl
      rw [if_neg this.1, if_pos ((cmpP_lt _ _).2 (less_tri this.1 this.2))]; simp
    | succ k =>
      have h := h1 0 y (by omega) rfl
      rw [if_neg (fun e => less_self (e ▸ h)), if_neg (by rw [cmpP_lt]; exact less_irr h)]
      rw [put_at (k := k) (by simpa using hk) (fun i x hi hx => h1 (i + 1) x (by omega) (by simpa using hx)) (fun x hx => h2 x (by simpa using hx))]
      simp
theorem srt_one : ∀ {l m : List Pair}, SrtP l → SrtP m → (∀ x, x ∈ l ↔ x ∈ m) → l = m
  | [], [], _, _, _ => rfl
  | [], y :: m, _, _, h => by have := (h y).2 (List.mem_cons_self ..); cases this
  | x :: l, [], _, _, h => by have := (h x).1 (List.mem_cons_self ..); cases this
  | x :: l, y :: m, hl, hm, h => by
    unfold SrtP at hl hm
    rw [List.pairwise_cons] at hl hm
    have hxy : x = y := by
      rcases List.mem_cons.1 ((h x).1 (List.mem_cons_self ..)) with q | q
      · exact q
      · rcases List.mem_cons.1 ((h y).2 (List.mem_cons_self ..)) with r | r
        · exact r.symm
        · exact absurd (hm.1 x q) (less_irr (hl.1 y r))
    subst hxy
    congr 1
    refine srt_one hl.2 hm.2 fun z => ⟨fun hz => ?_, fun hz => ?_⟩
    · rcases List.mem_cons.1 ((h z).1 (List.mem_cons_of_mem _ hz)) with q | q
      · exact absurd (q ▸ hl.1 z hz) less_self
      · exact q
    · rcases List.mem_cons.1 ((h z).2 (List.mem_cons_of_mem _ hz)) with q | q
      · exact absurd (q ▸ hm.1 z hz) less_self
      · exact q
theorem fold_srt : ∀ {l : List Pair} {a : List Pair}, SrtP a → SrtP (l.foldl putP a)
  | [], _, h => h
  | x :: l, _, h => fold_srt (l := l) (put_srt h)
theorem fold_mem : ∀ {l : List Pair} {a : List Pair} {x : Pair}, x ∈ l.foldl putP a ↔ x ∈ a ∨ x ∈ l
  | [], a, x => by simp
  | y :: l, a, x => by
    rw [List.foldl_cons, fold_mem, put_mem, List.mem_cons, or_assoc]
theorem fold_len : ∀ {l : List Pair} {a : List Pair}, (l.foldl putP a).length ≤ a.length + l.length
  | [], a => by simp
  | y :: l, a => by
    have h1 := fold_len (l := l) (a := putP a y)
    have h2 := put_len (l := a) (p := y)
    rw [List.foldl_cons, List.length_cons]; omega
theorem ps_srt (l : List Pair) : SrtP (psP l) := fold_srt List.Pairwise.nil
theorem ps_mem {l : List Pair} {x : Pair} : x ∈ psP l ↔ x ∈ l := by unfold psP; rw [fold_mem]; simp
theorem ps_len (l : List Pair) : (psP l).length ≤ l.length := by have := fold_len (l := l) (a := []); unfold psP; simpa using this

/-! ### Compacting -/
section
variable {α : Type} [DecidableEq α]
def cptN (l : List α) : Nat → List α
  | 0 => []
  | k + 1 => match l[k]? with
    | none => cptN l k
    | some y => if 0 < k ∧ l[k - 1]? = some y then cptN l k else cptN l k ++ [y]
def cpt (l : List α) : List α := cptN l l.length
theorem cptN_y {l : List α} {k : Nat} {x y : α} (hy : l[k + 1]? = some y) (hx : l[k]? = some x) (e : x = y) : cptN l (k + 2) = cptN l (k + 1) := by
  show (match l[k + 1]? with | none => _ | some y => _) = _
  rw [hy]; exact if_pos ⟨by omega, by rw [Nat.add_sub_cancel, hx, e]⟩
theorem cptN_n {l : List α} {k : Nat} {x y : α} (hy : l[k + 1]? = some y) (hx : l[k]? = some x) (e : ¬ x = y) : cptN l (k + 2) = cptN l (k + 1) ++ [y] := by
  show (match l[k + 1]? with | none => _ | some y => _) = _
  rw [hy]; exact if_neg (fun h => e (by have h2 := h.2; rw [Nat.add_sub_cancel, hx] at h2; injection h2))
theorem cptN_1 {l : List α} {y : α} (hy : l[0]? = some y) : cptN l 1 = [y] := by
  show (match l[0]? with | none => _ | some y => _) = _
  rw [hy]; simp [cptN]
theorem cptN_len (l : List α) : ∀ k, (cptN l k).length ≤ k
  | 0 => Nat.le_refl _
  | k + 1 => by
    have := cptN_len l k
    unfold cptN; split
    · omega
    · split
      · omega
      · simp; omega
theorem cptN_more {l : List α} : ∀ {k : Nat}, l.length ≤ k → cptN l k = cpt l
  | 0, h => by unfold cpt; rw [show l.length = 0 by omega]
  | k + 1, h => by
    rcases Nat.eq_or_lt_of_le h with e | e
    · unfold cpt; rw [e]
    · rw [← cptN_more (show l.length ≤ k by omega)]
      show (match l[k]? with | none => _ | some y => _) = _
      rw [List.getElem?_eq_none (by omega)]
theorem cptN_mem {l : List α} {x : α} : ∀ {k : Nat}, x ∈ cptN l k ↔ x ∈ l.take k
  | 0 => by simp [cptN]
  | k + 1 => by
    unfold cptN
    rcases hq : l[k]? with _ | y
    · simp only; rw [cptN_mem, List.take_of_length_le (by have := List.getElem?_eq_none_iff.1 hq; omega), List.take_of_length_le (by have := List.getElem?_eq_none_iff.1 hq; omega)]
    · simp only
      rw [List.take_add_one, hq]
      split
      · rename_i h
        rw [cptN_mem]
        simp only [Option.toList_some, List.mem_append, List.mem_singleton]
        constructor
        · exact .inl
        · rintro (q | q)
          · exact q
          · rw [q]
            have h2 := h.2
            obtain ⟨a1, a2⟩ := List.getElem?_eq_some_iff.1 h2
            exact List.mem_take_iff_getElem.2 ⟨k - 1, by have := h.1; omega, a2⟩
      · simp only [List.mem_append, List.mem_singleton, cptN_mem, Option.toList_some]
theorem cptN_srt {R : α → α → Prop} (ht : ∀ a b c, R a b → R b c → R a c) (hi : ∀ a b, R a b → ¬ R b a) {l : List α} (hl : l.Pairwise fun x y => R x y ∨ x = y) : ∀ k, (cptN l k).Pairwise R
  | 0 => List.Pairwise.nil
  | k + 1 => by
    have ih := cptN_srt ht hi hl k
    unfold cptN
    rcases hq : l[k]? with _ | y
    · exact ih
    · simp only
      split
      · exact ih
      · rename_i hn
        refine List.pairwise_append.2 ⟨ih, by simp, fun x hx z hz => ?_⟩
        rw [List.mem_singleton.1 hz]
        obtain ⟨i, hi1, hi2⟩ := List.mem_take_iff_getElem.1 (cptN_mem.1 hx)
        obtain ⟨b1, b2⟩ := List.getElem?_eq_some_iff.1 hq
        have P := List.pairwise_iff_getElem.1 hl
        have h1 := P i k (by omega) b1 (by omega)
        rw [hi2, b2] at h1
        rcases h1 with h1 | h1
        · exact h1
        · subst h1
          exfalso
          refine hn ⟨by omega, ?_⟩
          rw [List.getElem?_eq_some_iff]
          refine ⟨by omega, ?_⟩
          rcases Nat.lt_or_ge i (k - 1) with q | q
          · have c1 := P i (k - 1) (by omega) (by omega) q
            have c2 := P (k - 1) k (by omega) b1 (by omega)
            rw [hi2] at c1; rw [b2] at c2
            rcases c1 with c1 | c1
            · rcases c2 with c2 | c2
              · exact absurd c2 (hi _ _ c1)
              · exact c2
            · exact c1.symm
          · rw [← hi2]; congr 1; omega
end
theorem cpt_ps {l m : List Pair} (hm : m.Pairwise fun x y => lessP x y ∨ x = y) (hp : ∀ x, x ∈ m ↔ x ∈ l) : cpt m = psP l :=
  srt_one (cptN_srt (R := lessP) (fun _ _ _ h k => less_trans h k) (fun _ _ h => less_irr h) hm _) (ps_srt l) fun x => by unfold cpt; rw [cptN_mem, ps_mem, List.take_length, hp]

/-- what is left of a set of pairs -/
def subR (a b : List Pair) : List Pair := a.foldl (fun o p => if p ∈ b then o else putP o p) []
theorem sub_fold {b : List Pair} : ∀ {a o : List Pair}, a.foldl (fun o p => if p ∈ b then o else putP o p) o = (a.filter fun p => !decide (p ∈ b)).foldl putP o
  | [], o => rfl
  | x :: a, o => by
    by_cases h : x ∈ b
    · simp [h, sub_fold (a := a)]
    · simp [h, sub_fold (a := a)]
theorem sub_ps (a b : List Pair) : (psP a).filter (fun p => !decide (p ∈ b)) = subR a b := by
  unfold subR; rw [sub_fold]
  refine srt_one ((ps_srt a).filter _) (fold_srt List.Pairwise.nil) fun x => ?_
  rw [fold_mem]; simp [ps_mem]
theorem sub_step {a b : List Pair} {k : Nat} {p : Pair} (h : a[k]? = some p) : subR (a.take (k + 1)) b = if p ∈ b then subR (a.take k) b else putP (subR (a.take k) b) p := by
  rw [take_snoc h]; unfold subR; rw [List.foldl_append]; rfl
theorem sub_srt (a b : List Pair) : SrtP (subR a b) := by unfold subR; rw [sub_fold]; exact fold_srt List.Pairwise.nil
theorem sub_len (a b : List Pair) : (subR a b).length ≤ a.length := by rw [← sub_ps]; exact Nat.le_trans (List.length_filter_le _ _) (ps_len a)
theorem ps_step {a : List Pair} {k : Nat} {p : Pair} (h : a[k]? = some p) : psP (a.take (k + 1)) = putP (psP (a.take k)) p := by
  rw [take_snoc h]; unfold psP; rw [List.foldl_append]; rfl
theorem ps_step2 {a b : List Pair} {k : Nat} {p : Pair} (h : b[k]? = some p) : psP (a ++ b.take (k + 1)) = putP (psP (a ++ b.take k)) p := by
  rw [take_snoc h, ← List.append_assoc]; unfold psP; rw [List.foldl_append]; rfl
end Go.KLib

/- Sorting pairs: the library's summary as a contract over rows of one's own. -/
namespace Go.KLib
open Go.Sort Go.RowKit Go.Shelf Go.Proofs

instance : Inhabited Pair := ⟨⟨0, 0⟩⟩

theorem flatK_flat {α : Type} [Inhabited α] {cs : α → List Value} {k : Nat} (hc : ∀ x, (cs x).length = k) (xs : List α) : flatK cs k xs.toArray = (xs.flatMap cs).toArray := by
  apply Array.ext
  · simp [flat_len hc]
  · intro t h1 h2
    have ht : t < xs.length * k := by simpa using h1
    have k0 : 0 < k := by
      rcases Nat.eq_zero_or_pos k with h | h
      · subst h; simp at ht
      · exact h
    have hq : t / k < xs.length := (Nat.div_lt_iff_lt_mul k0).2 ht
    have hr : t % k < k := Nat.mod_lt _ k0
    have e1 := flat_get hc xs (t / k) _ (List.getElem?_eq_getElem hq)
    have e2 : ((xs.flatMap cs).drop (t / k * k)).take k = cs xs[t / k] := e1
    have e3 : (((xs.flatMap cs).drop (t / k * k)).take k)[t % k]? = (cs xs[t / k])[t % k]? := by rw [e2]
    rw [List.getElem?_take, if_pos hr, List.getElem?_drop, Nat.div_add_mod' t k] at e3
    have e4 := get_flatK cs k xs.toArray t (by simpa using ht)
    rw [getElem!_pos _ t h1] at e4
    rw [e4]
    simp only [List.getElem_toArray]
    have hlt : t < (xs.flatMap cs).length := by rw [flat_len hc]; exact ht
    have hcl : t % k < (cs xs[t / k]).length := by rw [hc]; exact hr
    rw [List.getElem?_eq_getElem hlt, List.getElem?_eq_getElem hcl] at e3
    injection e3 with e3
    rw [e3]
    rw [getElem!_pos (xs.toArray) (t / k) (by simpa using hq)]
    simp only [List.getElem_toArray]
    rw [getElem!_pos _ (t % k) hcl]
section
variable {α : Type} [Inhabited α] {cs : α → List Value} {k : Nat} {w : World} {e : TypeId} {g off cap n : Nat} {xs ys : List α}
theorem ol_holdsK (hc : ∀ x, (cs x).length = k) (h : Ol cs e k w (.slice (some ⟨g, off, none⟩) n cap) xs) :
    n = xs.length ∧ g < w.heap.size ∧ xs.length ≤ cap ∧ cap ≤ maxLen ∧ HoldsK cs k w g off xs.toArray := by
  obtain ⟨hl, ⟨hv, _⟩ | ⟨g', off', cap', cur, hv, hb, h1, h2, h3, h4⟩⟩ := h
  · cases hv
  · injection hv with ha hn hcp
    injection ha with ha
    injection ha with hg ho _
    subst hg ho hcp
    refine ⟨hn, (Array.getElem?_eq_some_iff.1 hb).1, h1, h2, ?_⟩
    unfold HoldsK
    rw [flatK_flat hc]
    intro j hj
    have hj' : j < (xs.flatMap cs).length := by simpa using hj
    have hjk : j < xs.length * k := by rwa [flat_len hc] at hj'
    have hc2 : cur[off + j]? = some ((xs.flatMap cs)[j]) := by
      have e1 : ((cur.toList.drop off).take (xs.length * k))[j]? = some ((xs.flatMap cs)[j]) := by
        rw [h4]; exact List.getElem?_eq_getElem hj'
      rw [List.getElem?_take, if_pos hjk, List.getElem?_drop] at e1
      simpa using e1
    refine ⟨?_, ?_⟩
    · have e5 : (xs.flatMap cs).toArray[j]! = (xs.flatMap cs)[j] := by rw [getElem!_pos _ j hj]; simp
      simp only [World.cell?, hb]
      rw [e5]
      simpa using hc2
    · simp [World.frozen?, hb]
theorem ch_putK {m : Nat} {d : Array α} {os : Array Obj} (hg : g < w.heap.size) : Ch [g] w (sortWorldK cs k w g off m d os) := by
  refine ⟨rfl, rfl, rfl, ?_, fun q hq hn => ?_⟩
  · simp [sortWorldK, putRowK, grow, putRow, mapBlock, Go.Sort.ahead]
  · have hkg : ¬ g = q := fun z => hn (by rw [z]; exact List.mem_singleton.2 rfl)
    simp only [sortWorldK, putRowK, grow, putRow, mapBlock, Go.Sort.ahead]
    rw [Array.getElem?_append_left (by simpa using hq), Array.getElem?_modify, if_neg hkg]
theorem ol_putK {m : Nat} {os : Array Obj} (hc : ∀ x, (cs x).length = k) (h : Ol cs e k w (.slice (some ⟨g, off, none⟩) n cap) xs) (hl : ys.length = xs.length) :
    Ol cs e k (sortWorldK cs k w g off m ys.toArray os) (.slice (some ⟨g, off, none⟩) n cap) ys := by
  obtain ⟨hl0, ⟨hv, _⟩ | ⟨g', off', cap', cur, hv, hb, h1, h2, h3, h4⟩⟩ := h
  · cases hv
  · injection hv with ha hn hcp
    injection ha with ha
    injection ha with hg ho _
    subst hg ho hcp
    have hgl := (Array.getElem?_eq_some_iff.1 hb).1
    have hfl := flat_len hc ys
    have hmul : ys.length * k ≤ cap * k := Nat.mul_le_mul_right k (by omega)
    refine ⟨hfl, .inr ⟨g, off, cap, putCells id off (flatK cs k ys.toArray) cur, by rw [hn, hl], ?_, by omega, h2, by simp [putCells]; omega, ?_⟩⟩
    · simp only [sortWorldK, putRowK, grow, putRow, mapBlock, Go.Sort.ahead]
      rw [Array.getElem?_append_left (by simpa using hgl), Array.getElem?_modify, if_pos rfl, hb]
      rfl
    · rw [flatK_flat hc]
      apply List.ext_getElem?
      intro j
      rw [List.getElem?_take]
      by_cases hj : j < ys.length * k
      · have hcu : off + j < cur.size := by omega
        rw [if_pos hj, List.getElem?_drop]
        have hj2 : j < (ys.flatMap cs).length := by rw [hfl]; exact hj
        have e9 : (putCells id off (ys.flatMap cs).toArray cur)[off + j]? = some ((ys.flatMap cs)[j]) := by
          rw [Array.getElem?_eq_getElem (by simpa [putCells] using hcu)]
          simp only [putCells, Array.getElem_mapIdx]
          have e8 : off ≤ off + j ∧ off + j < off + (ys.flatMap cs).toArray.size := ⟨by omega, by simp only [List.size_toArray]; omega⟩
          rw [if_pos e8]
          simp [Nat.add_sub_cancel_left]
          rw [List.getElem?_eq_getElem hj2]; rfl
        rw [Array.getElem?_toList, e9, List.getElem?_eq_getElem hj2]
      · rw [if_neg hj, List.getElem?_eq_none (by rw [hfl]; omega)]
end

instance (x y : Pair) : Decidable (lessP x y) := by unfold lessP; exact inferInstance
theorem ltP (x y : Pair) : ltOf cmpP x y = decide (lessP x y) := by
  unfold ltOf
  by_cases h : lessP x y
  · rw [decide_eq_true h, decide_eq_true ((cmpP_lt x y).2 h)]
  · rw [decide_eq_false h, decide_eq_false (fun q => h ((cmpP_lt x y).1 q))]
theorem swoP : SWO (ltOf cmpP) where
  irrefl x := by rw [ltP]; simp [less_self]
  trans x y z h1 h2 := by rw [ltP] at *; simp at *; exact less_trans h1 h2
  ntrans x y z h1 h2 := by rw [ltP] at *; simp at *; unfold lessP at *; omega
theorem totP (x y : Pair) (h1 : ltOf cmpP x y = false) (h2 : ltOf cmpP y x = false) : x = y := by
  rw [ltP] at h1 h2
  simp at h1 h2
  by_cases e : x = y
  · exact e
  · exact absurd (less_tri e h1) h2
def srtP (a : List Pair) : List Pair := a.mergeSort fun x y => !ltOf cmpP y x
theorem srtP_len (a : List Pair) : (srtP a).length = a.length := by simp [srtP]
theorem srtP_mem (a : List Pair) (x : Pair) : x ∈ srtP a ↔ x ∈ a := by simp [srtP]
theorem srtP_srt (a : List Pair) : (srtP a).Pairwise fun x y => lessP x y ∨ x = y := by
  have h := List.pairwise_mergeSort (le := fun x y : Pair => !ltOf cmpP y x) (fun a b c h1 h2 => by
    rw [ltP] at *; simp at *; unfold lessP at *; omega) (fun a b => by
    rw [ltP, ltP]; simp; unfold lessP; omega) a
  refine h.imp fun {x y} hxy => ?_
  rw [ltP] at hxy
  simp at hxy
  by_cases e : x = y
  · exact .inr e
  · exact .inl (less_tri (fun q => e q.symm) hxy)
theorem cpt_srtP (a : List Pair) : cpt (srtP a) = psP a := cpt_ps (srtP_srt a) fun x => srtP_mem a x
section
variable {P : Program} {ρ : Ren} {w : World} {e : TypeId} {v : Value} {a : List Pair}
theorem olP_cases (h : Ol Pair.cs e 2 w v a) : (v = .slice none 0 0 ∧ a = []) ∨ ∃ g off cap, v = .slice (some ⟨g, off, none⟩) a.length cap := by
  obtain ⟨hl, ⟨hv, h0⟩ | ⟨g', off', cap', cur, hv, hb, h1, h2, h3, h4⟩⟩ := h
  · exact .inl ⟨hv, List.eq_nil_of_length_eq_zero h0⟩
  · exact .inr ⟨g', off', cap', hv⟩
theorem sortP_ctr (L : SlLaysF0.n6 P ρ) (aE : ∀ w, (isAgg (ρ.t 24)).run P w = .ok true w) (zE : ∀ w, (Go.sizeOf (ρ.t 24)).run P w = .ok 2 w) (g : Nat)
    (eg : ∀ args w, (callFunc g args).run P w = .ok (.enter g args) w)
    (hc : ∀ (x y : Pair) W, Calls P g #[.agg #[.int .i64 x.f, .int .i64 x.t], .agg #[.int .i64 y.f, .int .i64 y.t]] W fun e w' => e = .returned (.int .i64 (cmpP x y)) ∧ ∃ q os', w' = grow (W.drewN q) os')
    (h : Ol Pair.cs e 2 w v a) (hb : a.length < 4611686018427387904) :
    Ctr P (ρ.f 6) #[v, .func (.func g) #[] #[]] w (fun u w' => u = .tuple #[] ∧ Ol Pair.cs e 2 w' v (srtP a) ∧ Ch (bl v) w w') := by
  rcases olP_cases h with ⟨rfl, rfl⟩ | ⟨gg, off, cap, rfl⟩
  · refine (AnyF.slices_SortFunc_none L none 0 (.func (.func g) #[] #[]) w).mono ?_
    rintro x w' ⟨rfl, rfl⟩
    exact ⟨_, rfl, rfl, by simpa [srtP] using h, Ch.refl _ _⟩
  · obtain ⟨_, hg, hcp, hm, hH⟩ := ol_holdsK Pair.len h
    have hs := AnyQ.slices_SortFunc_total L 2 aE zE Pair.cs Pair.len (fun x y hy => by simp [Pair.cs] at hy; rcases hy with rfl | rfl <;> rfl) cmpP swoP g #[] gg off cap a.toArray w eg (fun m os dk _ x y => hc x y _) hH hg (by simpa using hb) totP
    simp only [List.size_toArray] at hs
    refine hs.mono ?_
    rintro x w' ⟨rfl, n, os, rfl⟩
    refine ⟨_, rfl, rfl, ?_, ch_putK hg⟩
    exact ol_putK Pair.len h (srtP_len a)
end
end Go.KLib

/- Views of rows of one's own (a slice of a slice), and clearing one. -/
namespace Go.KLib
open Go.Sort

theorem zero_flat {α : Type} [Inhabited α] {cs : α → List Value} {k : Nat} (hc : ∀ x, (cs x).length = k) (z : Array Value) (z0 : α) (hz : z.toList = cs z0) (n : Nat) :
    (Builtin.zeroCells z n).toList = (List.replicate n z0).flatMap cs := by
  have hs : z.size = k := by rw [← Array.length_toList, hz, hc]
  have h := flatK_flat hc (List.replicate n z0)
  have e : Builtin.zeroCells z n = flatK cs k (List.replicate n z0).toArray := by
    unfold Builtin.zeroCells flatK
    rw [hs]
    simp only [List.size_toArray, List.length_replicate]
    apply Array.ext
    · simp
    · intro i h1 h2
      have hi : i < n * k := by simpa using h1
      simp only [Array.getElem_map, Array.getElem_range]
      have k0 : 0 < k := by
        rcases Nat.eq_zero_or_pos k with q | q
        · subst q; simp at hi
        · exact q
      have hq : i / k < n := (Nat.div_lt_iff_lt_mul k0).2 hi
      have hr : i % k < k := Nat.mod_lt _ k0
      have e1 : (List.replicate n z0).toArray[i / k]! = z0 := by
        rw [getElem!_pos _ _ (by simpa using hq)]; simp
      rw [e1, ← hz]
      rw [getElem!_pos z (i % k) (by omega), getElem!_pos z.toList (i % k) (by simp; omega)]
      simp
  rw [e, h]
theorem list_clear {β : Type} (C Z : List β) (off a : Nat) (h : off + a ≤ C.length) : ((C.take (off + a) ++ Z ++ C.drop (off + a + Z.length)).drop off).take (a + Z.length) = ((C.drop off).take a) ++ Z := by
  have h1 : ((C.drop off).take a).length = a := by rw [List.length_take, List.length_drop]; omega
  rw [List.append_assoc, List.drop_append_of_le_length (by rw [List.length_take]; omega), List.drop_take, show off + a - off = a by omega, ← List.append_assoc]
  rw [List.take_append_of_le_length (by rw [List.length_append, h1]; omega), List.take_of_length_le (by rw [List.length_append, h1]; omega)]
section
variable {P : Program} {w : World} {l : KL} {dst : Option Tmp} {ty : TypeId} {pos : String} {aft : Array Go.Edge} {gd : Option (Nat × Bool)} {K : Value → World → Prop}
variable {α : Type} {cs : α → List Value} {e k : Nat} {v : Value} {xs : List α}
theorem s_cutOV {e' : TypeId} {x : Operand} {t : TypeId} {Lo Hi : Option Operand} {ys : List α} (lo hi : Nat) (hs : Ol cs e' k w v xs) (hc : ∀ x, (cs x).length = k) (ht : elB P t = some e) (hk : sizeB P e = some k) (hx : ev l x = some v)
    (hL : bndB l Lo 0 lo) (hH : bndB l Hi xs.length hi) (h1 : lo ≤ hi) (h2 : hi ≤ xs.length) (hy : (xs.drop lo).take (hi - lo) = ys)
    (kk : ∀ v', v' = cutV v k lo hi → Ol cs e' k w v' ys → bl v' = bl v → ys.length = hi - lo → K v' w) : Step P l ⟨dst, .slice t x Lo Hi none, ty, pos, aft, gd⟩ w K :=
  Step.of (r_cut hs.ls ht hk hx hL hH h1 h2) (kk _ rfl (hy ▸ hs.cut hc h1 h2) (cut_bl _ _ _ _) (by rw [← hy, List.length_take, List.length_drop]; omega))
/-- a view, read anew from its row -/
theorem Ol.view {e' : TypeId} {v' : Value} {lo hi : Nat} (hs : Ol cs e' k w v xs) (hv : v' = cutV v k lo hi) (hc : ∀ x, (cs x).length = k) (h1 : lo ≤ hi) (h2 : hi ≤ xs.length) : Ol cs e' k w v' ((xs.drop lo).take (hi - lo)) := hv ▸ hs.cut hc h1 h2
theorem s_clear [Inhabited α] {x : Operand} {t : TypeId} {e' : TypeId} {u zv : Value} {zro : α} {lo : Nat} (hs : Ol cs e' k w v xs) (hu : u = cutV v k lo xs.length) (hc : ∀ x, (cs x).length = k) (ht : elB P t = some e) (hk : sizeB P e = some k) (hz : zeroB P e = some zv) (hzc : zv.cells.toList = cs zro)
    (h1 : ∀ y ∈ cs zro, y.oneCell' = true) (hx : ev l x = some u) (hlo : lo ≤ xs.length)
    (kk : ∀ w', Ol cs e' k w' v (xs.take lo ++ List.replicate (xs.length - lo) zro) → Ch (bl v) w w' → K (.tuple #[]) w') :
    Step P l ⟨dst, .call { callee := .builtin .clear, args := #[x], argTypes := #[t] }, ty, pos, aft, gd⟩ w K := by
  rcases Nat.eq_or_lt_of_le hlo with he | hlt
  · have e0 : ∃ A c, u = .slice A 0 c := by
      obtain ⟨hl, h⟩ := hs
      rcases h with ⟨rfl, h0⟩ | ⟨g, off, cap, cur, rfl, _⟩
      · rw [hu, he]; exact ⟨_, _, by simp only [cutV, sliced, Nat.sub_self]; rfl⟩
      · rw [hu, he]; exact ⟨_, _, by simp only [cutV, sliced, Nat.sub_self]; rfl⟩
    obtain ⟨A, c, hA⟩ := e0
    refine Step.of (v := .tuple #[]) (w' := w) (fun ρ hρ => ?_) (kk w ?_ (Ch.refl _ _))
    · have h2 := hρ _ _ hx
      cases A with
      | none => simp [execOp, resolve, invoke, builtin, Builtin.clear_, run_underlying (elB_spec ht), h2, hA]
      | some ad => simp [execOp, resolve, invoke, builtin, Builtin.clear_, run_underlying (elB_spec ht), h2, hA]
    · rw [he]; simpa using hs
  · obtain ⟨hl, h⟩ := hs
    rcases h with ⟨rfl, h0⟩ | ⟨g, off, cap, cur, rfl, hg, hn, hm, hf, ht2⟩
    · omega
    · have hcl : ¬ cap = lo := by omega
      have hu2 : u = .slice (some ⟨g, off + lo * k, none⟩) (xs.length - lo) (cap - lo) := by
        rw [hu]; simp only [cutV, sliced]
        rw [if_neg hcl]
        simp [add_lit]
      have hzf := zero_flat hc zv.cells zro hzc (xs.length - lo)
      have hzl : ((List.replicate (xs.length - lo) zro).flatMap cs).length = (xs.length - lo) * k := by rw [flat_len hc]; simp
      have hsum : lo * k + (xs.length - lo) * k = xs.length * k := by rw [← Nat.add_mul]; congr 1; omega
      have hcap : xs.length * k ≤ cap * k := Nat.mul_le_mul_right k hn
      have hst := run_storeCells_at (P := P) g (off + lo * k) e' ((List.replicate (xs.length - lo) zro).flatMap cs) 0 cur w hg (by rw [hzl]; omega) (by
        intro y hy
        obtain ⟨a, ha, hb⟩ := List.mem_flatMap.1 hy
        rw [(List.mem_replicate.1 ha).2] at hb
        exact h1 y hb)
      refine Step.of (v := .tuple #[]) (w' := w.setRow g (cur.toList.take (off + lo * k) ++ (List.replicate (xs.length - lo) zro).flatMap cs ++ cur.toList.drop (off + lo * k + ((List.replicate (xs.length - lo) zro).flatMap cs).length)).toArray) (fun ρ hρ => ?_) (kk _ ?_ (Ch.setRow w g _))
      · have h2 := hρ _ _ hx
        simp only [Nat.add_zero] at hst
        obtain ⟨m, hm2⟩ : ∃ m, xs.length - lo = m + 1 := ⟨xs.length - lo - 1, by omega⟩
        rw [hu2] at h2
        rw [hm2] at h2 hzf hst ⊢
        simp [execOp, resolve, invoke, builtin, Builtin.clear_, run_underlying (elB_spec ht), h2, run_zeroB hz, hzf, hst]
      · refine ⟨by rw [flat_len hc], .inr ⟨g, off, cap, _, ?_, heap_setRow_same hg, by simp; omega, hm, ?_, ?_⟩⟩
        · simp; omega
        · simp only [List.size_toArray, List.length_append, List.length_take, List.length_drop, Array.length_toList, hzl]; omega
        · have hlen : (xs.take lo ++ List.replicate (xs.length - lo) zro).length = xs.length := by simp; omega
          rw [List.flatMap_append, flat_take hc, ← ht2, hlen, List.take_take, show min (lo * k) (xs.length * k) = lo * k by omega]
          have hcl2 : cur.toList.length = cur.size := Array.length_toList
          have := list_clear cur.toList ((List.replicate (xs.length - lo) zro).flatMap cs) off (lo * k) (by omega)
          rw [hzl, hsum] at this
          rw [hzl]
          exact this
end

/-! ### Steps of the loops over pairs -/
theorem nomem_step {β : Type} {l : List β} {k : Nat} {p y : β} (h : p ∉ l.take k) (hy : l[k]? = some y) (hn : ¬ y = p) : p ∉ l.take (k + 1) := by
  rw [take_snoc hy]
  intro q
  rcases List.mem_append.1 q with q | q
  · exact h q
  · exact hn (List.mem_singleton.1 q).symm
theorem nomem_end {β : Type} {l : List β} {k : Nat} {p : β} (h : p ∉ l.take k) (hk : l.length ≤ k) : p ∉ l := by rwa [List.take_of_length_le hk] at h
theorem pl_step {l : List Pair} {k : Nat} {p y : Pair} (h : ∀ i x, i < k → l[i]? = some x → lessP x p) (hy : l[k]? = some y) (hl : lessP y p) : ∀ i x, i < k + 1 → l[i]? = some x → lessP x p := by
  intro i x hi hx
  rcases Nat.lt_or_ge i k with q | q
  · exact h i x q hx
  · rw [show i = k by omega, hy] at hx; injection hx with hx; rw [← hx]; exact hl
section
variable {α : Type} [DecidableEq α]
/-- nothing twice in a row, so far -/
theorem cp_same {l : List α} {k : Nat} {x y : α} (h : cptN l k = l.take k) (hk : 1 ≤ k) (hy : l[k]? = some y) (hx : l[k - 1]? = some x) (hn : ¬ y = x) : cptN l (k + 1) = l.take (k + 1) := by
  obtain ⟨j, rfl⟩ : ∃ j, k = j + 1 := ⟨k - 1, by omega⟩
  rw [cptN_n hy (by simpa using hx) (fun e => hn e.symm), h, ← take_snoc hy]
theorem cp_one {l : List α} : cptN l 1 = l.take 1 := by
  cases l with
  | nil => rfl
  | cons a l => simp [cptN]
theorem cp_zero {l : List α} (h : l.length < 2) : cpt l = l := by
  unfold cpt
  rcases Nat.lt_or_ge l.length 1 with q | q
  · rw [List.eq_nil_of_length_eq_zero (show l.length = 0 by omega)]; rfl
  · rw [show l.length = 1 by omega, cp_one, List.take_of_length_le (by omega)]
theorem cp_all {l : List α} {k : Nat} (h : cptN l k = l.take k) (hk : l.length ≤ k) : cpt l = l := by rw [← cptN_more hk, h, List.take_of_length_le hk]
/-- the second loop of compacting: L is what the row holds, m elements are settled, q have been looked at -/
structure CpI (s L : List α) (m q : Nat) : Prop where
  len : L.length = s.length
  m1 : 1 ≤ m
  mq : m ≤ q - 1
  q1 : q ≤ s.length
  set : L.take m = cptN s q
  rest : L.drop (q - 1) = s.drop (q - 1)
theorem cpi_0 {s : List α} {k : Nat} {x y : α} (h : cptN s k = s.take k) (hk : 1 ≤ k) (hy : s[k]? = some y) (hx : s[k - 1]? = some x) (he : y = x) : CpI s s k (k + 1) := by
  obtain ⟨j, rfl⟩ : ∃ j, k = j + 1 := ⟨k - 1, by omega⟩
  have := (List.getElem?_eq_some_iff.1 hy).1
  exact ⟨rfl, by omega, by omega, by omega, by rw [cptN_y hy (by simpa using hx) he.symm, h], rfl⟩
theorem cpi_get {s L : List α} {m q k j n : Nat} {y : α} (h : CpI s L m q) (hy : (((L.drop k).take n)[j]?) = some y) (hj : q - 1 ≤ k + j) : s[k + j]? = some y := by
  rw [List.getElem?_take] at hy
  split at hy
  · rw [List.getElem?_drop] at hy
    obtain ⟨d, hd⟩ : ∃ d, k + j = (q - 1) + d := ⟨k + j - (q - 1), by omega⟩
    rw [hd, ← List.getElem?_drop, ← h.rest, List.getElem?_drop, ← hd]; exact hy
  · cases hy
theorem cpi_y {s L : List α} {m q : Nat} {x y : α} (h : CpI s L m q) (hy : s[q]? = some y) (hx : s[q - 1]? = some x) (he : y = x) : CpI s L m (q + 1) := by
  obtain ⟨j, rfl⟩ : ∃ j, q = j + 1 := ⟨q - 1, by have := h.m1; have := h.mq; omega⟩
  have hl := (List.getElem?_eq_some_iff.1 hy).1
  have h1 := h.mq
  refine ⟨h.len, h.m1, by omega, by omega, by rw [cptN_y hy (by simpa using hx) he.symm]; exact h.set, ?_⟩
  have := congrArg (List.drop 1) h.rest
  simp only [List.drop_drop, Nat.add_sub_cancel] at this ⊢
  exact this
theorem cpi_n {s L : List α} {m q : Nat} {x y : α} (h : CpI s L m q) (hy : s[q]? = some y) (hx : s[q - 1]? = some x) (he : ¬ y = x) : CpI s (L.set m y) (m + 1) (q + 1) := by
  obtain ⟨j, rfl⟩ : ∃ j, q = j + 1 := ⟨q - 1, by have := h.m1; have := h.mq; omega⟩
  have hl := (List.getElem?_eq_some_iff.1 hy).1
  have h1 := h.mq
  have h2 := h.len
  refine ⟨by simp [h.len], by omega, by omega, by omega, ?_, ?_⟩
  · rw [cptN_n hy (by simpa using hx) (fun e => he e.symm), ← h.set, List.take_add_one, List.take_set_of_le (Nat.le_refl _), List.getElem?_set_self (by omega)]; rfl
  · have := congrArg (List.drop 1) h.rest
    simp only [List.drop_drop, Nat.add_sub_cancel] at this ⊢
    rw [List.drop_set_of_lt (by omega)]
    exact this
theorem cpi_end {s L : List α} {m q : Nat} {z : List α} (h : CpI s L m q) (hq : s.length ≤ q) : (L.take m ++ z).take m = cpt s := by
  have h1 := h.mq
  have h2 := h.len
  have h3 := h.q1
  rw [List.take_append_of_le_length (by rw [List.length_take]; omega), List.take_of_length_le (by rw [List.length_take]; omega), h.set, cptN_more hq]
/-- the first place at which p holds, or -1 -/
def ixP {β : Type} (p : β → Bool) (l : List β) : Int := if l.any p then ((l.findIdx p : Nat) : Int) else -1
theorem ixP_y {β : Type} {p : β → Bool} {l : List β} {k : Nat} {y : β} (h : (l.take k).any p = false) (hy : l[k]? = some y) (hp : p y = true) : (k : Int) = ixP p l := by
  have hk := (List.getElem?_eq_some_iff.1 hy).1
  unfold ixP
  rw [if_pos (List.any_eq_true.2 ⟨y, mem_of_get hy, hp⟩)]
  congr 1
  symm
  rw [List.findIdx_eq hk]
  refine ⟨?_, fun j hj => ?_⟩
  · have := (List.getElem?_eq_some_iff.1 hy).2
    rw [this]; exact hp
  · have h2 := List.any_eq_false.1 h (l[j]'(by omega)) (List.mem_take_iff_getElem.2 ⟨j, by omega, rfl⟩)
    simpa using h2
theorem ixP_n {β : Type} {p : β → Bool} {l : List β} {k : Nat} (h : (l.take k).any p = false) (hk : l.length ≤ k) : -1 = ixP p l := by
  rw [List.take_of_length_le hk] at h
  unfold ixP; rw [h]; rfl
theorem ixP_step {β : Type} {p : β → Bool} {l : List β} {k : Nat} {y : β} (h : (l.take k).any p = false) (hy : l[k]? = some y) (hp : p y = false) : (l.take (k + 1)).any p = false := by
  rw [take_snoc hy, List.any_append, h]; simp [hp]
theorem ixP_mem {l : List α} {x : α} : decide (0 ≤ ixP (fun y => decide (x = y)) l) = decide (x ∈ l) := by
  unfold ixP
  by_cases h : x ∈ l
  · rw [if_pos (List.any_eq_true.2 ⟨x, h, by simp⟩)]; simp [h]
  · rw [if_neg (fun q => h (by obtain ⟨y, h1, h2⟩ := List.any_eq_true.1 q; simp at h2; rw [h2]; exact h1))]; simp [h]
theorem ixP_none {β : Type} {p : β → Bool} {l : List β} (h : ixP p l = -1) : l.filter (fun x => !p x) = l := by
  unfold ixP at h
  split at h
  · omega
  · rename_i hn
    rw [List.filter_eq_self]
    intro a ha
    have := List.any_eq_false.1 (Bool.eq_false_iff.2 hn) a ha
    simpa using this
/-- deleting in place: L is what the row holds, i elements are kept, j have been looked at -/
structure DfI {β : Type} (p : β → Bool) (s L : List β) (i j : Nat) : Prop where
  len : L.length = s.length
  ij : i < j
  jl : j ≤ s.length
  set : L.take i = (s.take j).filter (fun x => !p x)
  rest : L.drop j = s.drop j
theorem dfi_0 {β : Type} {p : β → Bool} {s : List β} (h : ¬ ixP p s = -1) : ∃ k : Nat, ixP p s = k ∧ DfI p s s k (k + 1) := by
  unfold ixP at h ⊢
  split at h
  · rename_i ha
    refine ⟨s.findIdx p, by rw [if_pos ha], rfl, by omega, ?_, ?_, rfl⟩
    · obtain ⟨y, h1, h2⟩ := List.any_eq_true.1 ha
      exact List.findIdx_lt_length_of_exists ⟨y, h1, h2⟩
    · have hl : s.findIdx p < s.length := by
        obtain ⟨y, h1, h2⟩ := List.any_eq_true.1 ha
        exact List.findIdx_lt_length_of_exists ⟨y, h1, h2⟩
      have hg := List.findIdx_getElem (w := hl)
      rw [List.take_add_one, List.getElem?_eq_getElem hl, List.filter_append]
      have e1 : (s.take (s.findIdx p)).filter (fun x => !p x) = s.take (s.findIdx p) := by
        rw [List.filter_eq_self]
        intro a ha2
        obtain ⟨j, hj1, hj2⟩ := List.mem_take_iff_getElem.1 ha2
        have := List.not_of_lt_findIdx (p := p) (xs := s) (i := j) (by omega)
        rw [hj2] at this
        simpa using this
      rw [e1]
      simp [hg]
  · exact absurd rfl h
theorem dfi_get {β : Type} {p : β → Bool} {s L : List β} {i j : Nat} {y : β} (h : DfI p s L i j) (hy : L[j]? = some y) : s[j]? = some y := by
  have := congrArg (fun l => l[0]?) h.rest
  simp only [List.getElem?_drop, Nat.add_zero] at this
  rw [← this]; exact hy
theorem dfi_y {β : Type} {p : β → Bool} {s L : List β} {i j : Nat} {y : β} (h : DfI p s L i j) (hy : L[j]? = some y) (hp : p y = true) : DfI p s L i (j + 1) := by
  have hs := dfi_get h hy
  have h1 := h.ij
  refine ⟨h.len, by omega, (List.getElem?_eq_some_iff.1 hs).1, ?_, ?_⟩
  · rw [take_snoc hs, List.filter_append, h.set]; simp [hp]
  · have := congrArg (List.drop 1) h.rest
    simpa [List.drop_drop] using this
theorem dfi_n {β : Type} {p : β → Bool} {s L : List β} {i j : Nat} {y : β} (h : DfI p s L i j) (hy : L[j]? = some y) (hp : p y = false) : DfI p s (L.set i y) (i + 1) (j + 1) := by
  have hs := dfi_get h hy
  have h1 := h.ij
  have h2 := (List.getElem?_eq_some_iff.1 hs).1
  have h3 := h.len
  refine ⟨by simp [h.len], by omega, h2, ?_, ?_⟩
  · rw [take_snoc hs, List.filter_append, ← h.set, List.take_add_one, List.take_set_of_le (Nat.le_refl _), List.getElem?_set_self (by omega)]; simp [hp]
  · have := congrArg (List.drop 1) h.rest
    rw [List.drop_drop, List.drop_drop] at this
    rw [List.drop_set_of_lt (by omega)]
    exact this
theorem dfi_end {β : Type} {p : β → Bool} {s L z : List β} {i j : Nat} (h : DfI p s L i j) (hj : s.length ≤ j) : (L.take i ++ z).take i = s.filter (fun x => !p x) := by
  have h1 := h.ij
  have h2 := h.len
  have h3 := h.jl
  rw [List.take_append_of_le_length (by rw [List.length_take]; omega), List.take_of_length_le (by rw [List.length_take]; omega), h.set, List.take_of_length_le hj]
end
theorem psLen (l : List Pair) : (psP l).length ≤ l.length := ps_len l
theorem psSrt (l : List Pair) : SrtP (psP l) := ps_srt l
theorem psStep {a : List Pair} {k : Nat} {p : Pair} (h : a[k]? = some p) : psP (a.take (k + 1)) = putP (psP (a.take k)) p := ps_step h
theorem psStep2 {a b : List Pair} {k : Nat} {p : Pair} (h : b[k]? = some p) : psP (a ++ b.take (k + 1)) = putP (psP (a ++ b.take k)) p := ps_step2 h
end Go.KLib

