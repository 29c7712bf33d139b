/- The library of this proof: a logic of the code's forms, memory, data, and plain laws. It speaks of no program. -/
import Derived.WalkKit
import Derived.OrdersHeld
import Derived.WalkLawsBesides
import Derived.WalkSpells
import Derived.ProofKit
import Derived.Deep.Slices
import Derived.Deep.Fields
import Derived.Lib.SmallJoins
import Derived.Laws.Append
import Derived.Laws.CopyRow
import Derived.Laws.AppendOwn
import Derived.Laws.Small
import Derived.Shelf.Sort.Plain
import Derived.Shelf.Slices.CompactI
import Derived.Shelf.Slices.Delete
import Derived.Ground.NamesProg
import Derived.Ground.Names2Prog
import Derived.Shelf.Lay
import Derived.Shelf.Slices.In.SortNone
import Derived.MapKept
import Derived.Ground.SlsfProg
import Derived.Shelf.SlSortCmp.NoneTotal
import Derived.Laws.BytesString
import Derived.Laws.Strings2
import Derived.Laws.Concat
import Derived.Test.YtholldndjafnpaaGreatLibA

namespace Go.KLib
structure Qt (T : Type) where
  x : T
  s : Sv
abbrev Qs := Qt St2
abbrev Qi := Qt Int
def Qs.cs (q : Qs) : List Value := [.int .i64 q.x.a, .int .i64 q.x.b, .slice q.s.A q.s.n q.s.c]
def Qi.cs (q : Qi) : List Value := [.int .i64 q.x, .slice q.s.A q.s.n q.s.c]
theorem Qs.len (s : Qs) : (Qs.cs s).length = 3 := rfl
theorem Qi.len (s : Qi) : (Qi.cs s).length = 2 := rfl
theorem Qs.one (x : Qs) : ∀ y ∈ Qs.cs x, y.oneCell' = true := by intro y hy; simp [Qs.cs] at hy; rcases hy with rfl | rfl | rfl <;> rfl
theorem Qi.one (x : Qi) : ∀ y ∈ Qi.cs x, y.oneCell' = true := by intro y hy; simp [Qi.cs] at hy; rcases hy with rfl | rfl <;> rfl
section
variable {T : Type}
def zq (E : List (T × List Int)) (V : List Sv) : List (Qt T) := List.zipWith (fun e s => ⟨e.1, s⟩) E V
end
section
variable {T : Type} [DecidableEq T] {nx : T → Nat → T} {t0 : T} {ts : T → Bool}
end
def nxI (N : List (List Int)) (s : Int) (k : Nat) : Int := moveA N s k
def nxS (N M : List (List Int)) (s : St2) (k : Nat) : St2 := ⟨moveA N s.a k, moveA M s.b k⟩
def tsD (A B : List Bool) (only : Bool) (x : St2) : Bool := (accA B x.b && !accA A x.a) || (accA A x.a && !accA B x.b && !only)
def inA (A : List Bool) (x : Int) : Prop := -1 ≤ x ∧ x ≤ (A.length : Int) - 1
def inS (A B : List Bool) (x : St2) : Prop := inA A x.a ∧ inA B x.b
section
variable {SA SB : Int} {A B : List Bool} {N M : List (List Int)}
end
def difF (A : List Bool) (N : List (List Int)) (B : List Bool) (M : List (List Int)) (s : St2) (only : Bool) (v : List Int) : Bool := tsD A B only (runT (nxS N M) s v)
noncomputable def difR (A : List Bool) (N : List (List Int)) (B : List Bool) (M : List (List Int)) (s : St2) (only : Bool) : List Int × Bool := lwF (difF A N B M s only)
noncomputable def msR (SA : Int) (A : List Bool) (N : List (List Int)) (SB : Int) (B : List Bool) (M : List (List Int)) : List Int × Bool := by
  classical exact if ValidA SA A N ∧ ValidA SB B M then difR A N B M ⟨SA, SB⟩ true else ([], false)
noncomputable def dwR (S : Int) (A : List Bool) (N : List (List Int)) (s t : Int) : List Int × Bool := by
  classical exact if ValidA S A N ∧ (0 ≤ s ∧ s ≤ (A.length : Int) - 1) ∧ (0 ≤ t ∧ t ≤ (A.length : Int) - 1) then difR A N A N ⟨s, t⟩ false else ([], false)
noncomputable def saR (S : Int) (A : List Bool) (N : List (List Int)) : List Int × Bool := by
  classical exact if ValidA S A N then lwF (fun v => accA A (runT (nxI N) S v)) else ([], false)
section
variable {SA SB s t : Int} {A B : List Bool} {N M : List (List Int)}
end
structure GNode where
  a : Int
  b : Int
  apart : Bool
  frm : Int
  by_ : Int
def GNode.cs (p : GNode) : List Value := [.int .i64 p.a, .int .i64 p.b, .bool p.apart, .int .i64 p.frm, .int .i64 p.by_]
theorem GNode.len (p : GNode) : p.cs.length = 5 := rfl
theorem GNode.one (x : GNode) : ∀ y ∈ x.cs, y.oneCell' = true := by intro y hy; simp [GNode.cs] at hy; rcases hy with rfl | rfl | rfl | rfl | rfl <;> rfl
structure NdR (L : List GNode) (E : List (St2 × List Int)) : Prop where
  len : L.length = E.length
  at_ : ∀ (i : Nat) (n : GNode) (x : St2 × List Int), L[i]? = some n → E[i]? = some x → n.a = x.1.a ∧ n.b = x.1.b ∧ n.apart = false ∧ (i = 0 → x.2 = [])
  frm : ∀ (i : Nat) (n : GNode) (x : St2 × List Int), L[i]? = some n → E[i]? = some x → 0 < i → 0 ≤ n.frm ∧ n.frm < (i : Int) ∧ ∃ y, E[n.frm.toNat]? = some y ∧ x.2 = y.2 ++ [n.by_]
def hasN (L : List GNode) (z : GNode) (k : Nat) : Prop := ∃ i n, i < k ∧ L[i]? = some n ∧ n.a = z.a ∧ n.b = z.b ∧ n.apart = z.apart
def ndw (E : List (St2 × List Int)) (k : Int) : List Int := ((E[k.toNat]?).map (·.2)).getD []
section
variable {T : Type} [DecidableEq T] {nx : T → Nat → T} {t0 : T}
end
section
variable {N M : List (List Int)} {L : List GNode} {E : List (St2 × List Int)} {e : St2 × List Int} {m k : Nat} {a b fr by_ : Int}
end
noncomputable def saF (A : List Bool) (N : List (List Int)) (s : Int) : List Int × Bool := lwF (fun v => accA A (runT (nxI N) s v))
section
variable {T : Type} [DecidableEq T] {nx : T → Nat → T} {t0 : T} {ts : T → Bool}
end
section
variable {SA SB s t : Int} {A B : List Bool} {N M : List (List Int)}
end
def IncP (aS : Int) (aA : List Bool) (aN : List (List Int)) (bS : Int) (bA : List Bool) (bN : List (List Int)) : Prop := ValidA aS aA aN ∧ ValidA bS bA bN ∧ (msR aS aA aN bS bA bN).2 = false
end Go.KLib

namespace Go.KLib
theorem nbOld {z : Value} {n b c : Nat} {R : List Nat} (h : ∀ g ∈ bl z, n ≤ g ∨ g ∈ b :: R) (hb : b ∉ bl z) (hn : c < n) (hr : c ∉ R) : c ∉ bl z := fun hm => by
  rcases h _ hm with q | q
  · omega
  · rcases List.mem_cons.1 q with q | q
    · exact hb (q ▸ hm)
    · exact hr q
theorem inOld {z : Value} {n b m : Nat} {R W : List Nat} (h : ∀ g ∈ bl z, n ≤ g ∨ g ∈ b :: R) (hb : b ∉ bl z) (hn : m ≤ n) (hr : ∀ g ∈ R, m ≤ g ∨ g ∈ W) : ∀ g ∈ bl z, m ≤ g ∨ g ∈ W := fun g hm => by
  rcases h _ hm with q | q
  · left; omega
  · rcases List.mem_cons.1 q with q | q
    · exact absurd (q ▸ hm) hb
    · exact hr _ q
theorem loOld {z : Value} {n b L : Nat} {R : List Nat} (h : ∀ g ∈ bl z, n ≤ g ∨ g ∈ b :: R) (hb : b ∉ bl z) (hn : L ≤ n) (hr : ∀ g ∈ R, L ≤ g) : Lo L z := fun g hm => by
  rcases h _ hm with q | q
  · omega
  · rcases List.mem_cons.1 q with q | q
    · exact absurd (q ▸ hm) hb
    · exact hr _ q
def lkN (l f : Int) (F : List Int) : Nat → List Int
  | 0 => F
  | k + 1 => if iand (ishr l k) 1 = 1 then (lkN l f F k).set k (ior ((lkN l f F k).getD k 0) f) else lkN l f F k
def lkL (l f : Int) (F : List Int) : List Int := lkN l f F F.length
structure BPd where
  L : List Int
  F : List Int
  f : Int
  l : Int
  n : Bool
def bpT : Tr → List Int → List Int → BPd
  | .l0 t, L, F => if t.kind = 2 then ⟨L, F, 0, 0, true⟩ else if t.kind = 3 then ⟨L ++ [t.letter], F ++ [0], ishl 1 L.length, ishl 1 L.length, false⟩ else ⟨L, F, 0, 0, false⟩
  | .l1 t x, L, F => if t.kind = 6 then ⟨(bpT x L F).L, lkL (bpT x L F).l (bpT x L F).f (bpT x L F).F, (bpT x L F).f, (bpT x L F).l, true⟩ else ⟨L, F, 0, 0, false⟩
  | .l2 t x y, L, F =>
    if t.kind = 4 then
      ⟨(bpT y (bpT x L F).L (bpT x L F).F).L, lkL (bpT x L F).l (bpT y (bpT x L F).L (bpT x L F).F).f (bpT y (bpT x L F).L (bpT x L F).F).F,
        if (bpT x L F).n then ior (bpT x L F).f (bpT y (bpT x L F).L (bpT x L F).F).f else (bpT x L F).f,
        if (bpT y (bpT x L F).L (bpT x L F).F).n then ior (bpT x L F).l (bpT y (bpT x L F).L (bpT x L F).F).l else (bpT y (bpT x L F).L (bpT x L F).F).l,
        (bpT x L F).n && (bpT y (bpT x L F).L (bpT x L F).F).n⟩
    else if t.kind = 5 then
      ⟨(bpT y (bpT x L F).L (bpT x L F).F).L, (bpT y (bpT x L F).L (bpT x L F).F).F, ior (bpT x L F).f (bpT y (bpT x L F).L (bpT x L F).F).f, ior (bpT x L F).l (bpT y (bpT x L F).L (bpT x L F).F).l,
        (bpT x L F).n || (bpT y (bpT x L F).L (bpT x L F).F).n⟩
    else ⟨L, F, 0, 0, false⟩
section
variable {t ta tb : Tr} {L F : List Int}
end
def cntL (l : List Token) : Nat := l.countP fun t => decide (t.kind = 3)
def bpE (e : List Token) : BPd × Bool :=
  if (expE e).2 = true ∧ cntL (expE e).1 ≤ 20 then
    match treeL (expE e).1 with
    | some t => (bpT t [] [], true)
    | none => (⟨[], [], 0, 0, false⟩, false)
  else (⟨[], [], 0, 0, false⟩, false)
end Go.KLib

namespace Go.KLib
def grow (n : Nat) (f : Nat → Nat → Bool) (i : Nat) : List Bool := (List.range n).map (f i)
def grd (n : Nat) (f : Nat → Nat → Bool) : List (List Bool) := (List.range n).map (grow n f)
section
variable {n i j : Nat} {f g : Nat → Nat → Bool}
theorem grow_len : (grow n f i).length = n := by simp [grow]
theorem grd_len : (grd n f).length = n := by simp [grd]
theorem grow_get (h : j < n) : (grow n f i)[j]? = some (f i j) := by simp [grow, h]
theorem grd_get (h : i < n) : (grd n f)[i]? = some (grow n f i) := by simp [grd, h]
theorem grd_row {M : List (List Bool)} {ys : List Bool} (hM : M = grd n f) (h : M[i]? = some ys) : i < n ∧ ys = grow n f i := by
  subst hM
  by_cases hi : i < n
  · rw [grd_get hi] at h; cases h; exact ⟨hi, rfl⟩
  · rw [List.getElem?_eq_none (by rw [grd_len]; omega)] at h; cases h
theorem row_len {M : List (List Bool)} {ys : List Bool} (hM : M = grd n f) (h : M[i]? = some ys) : ys.length = n := by rw [(grd_row hM h).2, grow_len]
theorem grd_y {M : List (List Bool)} {ys : List Bool} {y : Bool} (hM : M = grd n f) (h : M[i]? = some ys) (hy : ys[j]? = some y) : y = f i j := by
  obtain ⟨h1, rfl⟩ := grd_row hM h
  by_cases hj : j < n
  · rw [grow_get hj] at hy; cases hy; rfl
  · rw [List.getElem?_eq_none (by rw [grow_len]; omega)] at hy; cases hy
theorem grow_eq (h : ∀ q, q < n → f i q = g i q) : grow n f i = grow n g i := by
  unfold grow
  exact List.map_congr_left fun q hq => h q (List.mem_range.1 hq)
theorem grd_eq (h : ∀ p q, p < n → q < n → f p q = g p q) : grd n f = grd n g := by
  unfold grd
  exact List.map_congr_left fun p hp => grow_eq fun q hq => h p q (List.mem_range.1 hp) hq
theorem grd_set {v : Bool} {M : List (List Bool)} {ys : List Bool} (hM : M = grd n f) (hy : M[i]? = some ys) (hv : g i j = v) (ho : ∀ p q, p < n → q < n → ¬(p = i ∧ q = j) → g p q = f p q) :
    M.set i (ys.set j v) = grd n g := by
  obtain ⟨hi, rfl⟩ := grd_row hM hy
  subst hM
  apply List.ext_getElem?
  intro p
  by_cases hp : p < n
  · rw [grd_get hp]
    rw [List.getElem?_set]
    by_cases e : i = p
    · subst e
      rw [if_pos rfl, if_pos (by rw [grd_len]; exact hi)]
      congr 1
      apply List.ext_getElem?
      intro q
      by_cases hq : q < n
      · rw [grow_get hq, List.getElem?_set]
        by_cases e2 : j = q
        · subst e2; rw [if_pos rfl, if_pos (by rw [grow_len]; exact hq), hv]
        · rw [if_neg e2, grow_get hq, ho i q hp hq (fun h => e2 h.2.symm)]
      · rw [List.getElem?_eq_none (by rw [List.length_set, grow_len]; omega), List.getElem?_eq_none (by rw [grow_len]; omega)]
    · rw [if_neg e, grd_get hp]
      congr 1
      exact (grow_eq fun q hq => ho p q hp hq (fun h => e h.1.symm)).symm
  · rw [List.getElem?_eq_none (by rw [List.length_set, grd_len]; omega), List.getElem?_eq_none (by rw [grd_len]; omega)]
def idM (s : Bool) : Nat → Nat → Bool := fun i j => s && decide (i = j)
theorem row_id {s : Bool} : (List.replicate n false).set i s = grow n (idM s) i := by
  apply List.ext_getElem?
  intro q
  rw [List.getElem?_set]
  by_cases e : i = q
  · subst e
    by_cases hi : i < n
    · rw [if_pos rfl, if_pos (by simpa using hi), grow_get hi]; simp [idM]
    · rw [if_pos rfl, if_neg (by simpa using hi), List.getElem?_eq_none (by rw [grow_len]; omega)]
  · rw [if_neg e]
    by_cases hq : q < n
    · rw [grow_get hq]; simp [idM, e, hq]
    · rw [List.getElem?_eq_none (by simp; omega), List.getElem?_eq_none (by rw [grow_len]; omega)]
def oeM (A B : Nat → Nat → Bool) : Nat → Nat → Bool := fun i j => A i j || B i j
def mulM (n : Nat) (A B : Nat → Nat → Bool) : Nat → Nat → Bool := fun i j => (List.range n).any fun k => A i k && B k j
def Tri (A : Nat → Nat → Bool) : Prop := ∀ i j, j < i → A i j = false
theorem Tri.id (s : Bool) : Tri (idM s) := fun i j h => by simp [idM]; intro _; omega
theorem Tri.or {A B : Nat → Nat → Bool} (a : Tri A) (b : Tri B) : Tri (oeM A B) := fun i j h => by simp [oeM, a i j h, b i j h]
theorem Tri.mul {A B : Nat → Nat → Bool} (a : Tri A) (b : Tri B) : Tri (mulM n A B) := fun i j h => by
  unfold mulM
  rw [List.any_eq_false]
  intro k _
  by_cases hk : k < i
  · rw [a i k hk]; simp
  · rw [b k j (by omega)]; simp
def upt (R : Nat → Nat → Bool) (i j : Nat) : Nat → Nat → Bool := fun p q => (decide (p < i) || (decide (p = i) && decide (q < j))) && R p q
theorem upt_zero {R : Nat → Nat → Bool} : grd n (idM false) = grd n (upt R 0 0) := grd_eq fun p q _ _ => by simp [idM, upt]
theorem upt_step {R : Nat → Nat → Bool} {v : Bool} {M : List (List Bool)} {ys : List Bool} (hM : M = grd n (upt R i j)) (hy : M[i]? = some ys) (hv : R i j = v) :
    M.set i (ys.set j v) = grd n (upt R i (j + 1)) := grd_set hM hy (by simp [upt, hv]) fun p q _ _ hn => by
  unfold upt
  by_cases h1 : p = i
  · subst h1
    have h2 : q ≠ j := fun h => hn ⟨rfl, h⟩
    have h3 : (q < j + 1) = (q < j) := by simp; omega
    simp [h3]
  · simp [h1]
theorem upt_row {R : Nat → Nat → Bool} {k : Nat} (hk : n ≤ k) : grd n (upt R i k) = grd n (upt R (i + 1) 0) := grd_eq fun p q _ hq => by
  unfold upt
  have h3 : (p < i + 1) = (p < i ∨ p = i) := by simp; omega
  have h4 : q < k := by omega
  simp [h3, h4]
theorem upt_all {R : Nat → Nat → Bool} {k : Nat} (hk : n ≤ k) : grd n (upt R k 0) = grd n R := grd_eq fun p q hp _ => by
  have h4 : p < k := by omega
  simp [upt, h4]
theorem upt_tri {R : Nat → Nat → Bool} (h : Tri R) : grd n (upt R i 0) = grd n (upt R i i) := grd_eq fun p q _ _ => by
  unfold upt
  by_cases h1 : p = i
  · subst h1
    by_cases h2 : q < p
    · simp [h2, h p q h2]
    · simp [h2]
  · simp [h1]
end
section
variable {n i j k : Nat} {A B : Nat → Nat → Bool}
def mupt (n : Nat) (A B : Nat → Nat → Bool) (i k j : Nat) : Nat → Nat → Bool := fun p q =>
  (decide (p < i) && mulM n A B p q) || (decide (p = i) && (((List.range k).any fun m => A i m && B m q) || (decide (q < j) && (A i k && B k q))))
theorem mupt_zero : grd n (idM false) = grd n (mupt n A B 0 0 0) := grd_eq fun p q _ _ => by simp [idM, mupt]
theorem mupt_step {v : Bool} {M : List (List Bool)} {ys : List Bool} (hM : M = grd n (mupt n A B i k j)) (hy : M[i]? = some ys) (hA : A i k = true) (hv : v = (mupt n A B i k j i j || B k j)) :
    M.set i (ys.set j v) = grd n (mupt n A B i k (j + 1)) := grd_set hM hy (by rw [hv]; simp [mupt, hA]) fun p q _ _ hn => by
  unfold mupt
  by_cases h1 : p = i
  · subst h1
    have h2 : q ≠ j := fun h => hn ⟨rfl, h⟩
    have h3 : (q < j + 1) = (q < j) := by simp; omega
    simp [h3]
  · simp [h1]
theorem mupt_row (h : n ≤ j ∨ A i k = false) : grd n (mupt n A B i k j) = grd n (mupt n A B i (k + 1) 0) := grd_eq fun p q _ hq => by
  unfold mupt
  rw [List.range_succ, List.any_append]
  by_cases h1 : p = i
  · subst h1
    rcases h with h | h
    · have h3 : q < j := by omega
      simp [h3]
    · simp [h]
  · simp [h1]
theorem mupt_next (h : k = n) : grd n (mupt n A B i k 0) = grd n (mupt n A B (i + 1) 0 0) := grd_eq fun p q _ _ => by
  unfold mupt
  have h3 : (p < i + 1) = (p < i ∨ p = i) := by simp; omega
  by_cases h1 : p = i
  · subst h1
    subst h
    simp [mulM]
  · have h2 : ¬ p = i := h1
    simp [h3, h2]
theorem mupt_all (h : n ≤ i) : grd n (mupt n A B i 0 0) = grd n (mulM n A B) := grd_eq fun p q hp _ => by
  have h3 : p < i := by omega
  have h4 : ¬ p = i := by omega
  simp [mupt, h3, h4]
theorem mupt_triA (h : Tri A) : grd n (mupt n A B i 0 0) = grd n (mupt n A B i i 0) := grd_eq fun p q _ _ => by
  have h4 : ((List.range i).any fun m => A i m && B m q) = false := by
    rw [List.any_eq_false]; intro m hm; rw [h i m (List.mem_range.1 hm)]; simp
  simp [mupt, h4]
theorem mupt_triB (h : Tri B) : grd n (mupt n A B i k 0) = grd n (mupt n A B i k k) := grd_eq fun p q _ _ => by
  by_cases h1 : q < k
  · simp [mupt, h k q h1]
  · simp [mupt, h1]
end
section
variable {n k : Nat} {A : Nat → Nat → Bool} {low : Int}
def powM (n : Nat) (A : Nat → Nat → Bool) : Nat → Nat → Nat → Bool
  | 0 => idM true
  | k + 1 => mulM n (powM n A k) A
def repM (n : Nat) (A : Nat → Nat → Bool) (low : Int) (k : Nat) : Nat → Nat → Bool := fun i j => (List.range k).any fun m => decide (low ≤ (m : Int)) && powM n A m i j
theorem pow_tri (h : Tri A) : ∀ k, Tri (powM n A k)
  | 0 => Tri.id true
  | k + 1 => (pow_tri h k).mul h
theorem rep_tri (h : Tri A) : Tri (repM n A low k) := fun i j hij => by
  unfold repM
  rw [List.any_eq_false]
  intro m _
  rw [pow_tri h m i j hij]; simp
theorem rep_zero : grd n (idM false) = grd n (repM n A low 0) := grd_eq fun p q _ _ => by simp [idM, repM]
theorem pw_succ : grd n (mulM n (powM n A k) A) = grd n (powM n A (k + 1)) := by rw [powM]
theorem rep_y (h : low ≤ (k : Int)) : grd n (oeM (repM n A low k) (powM n A k)) = grd n (repM n A low (k + 1)) := grd_eq fun p q _ _ => by
  unfold repM oeM
  rw [List.range_succ, List.any_append]
  simp [h]
theorem rep_n (h : ¬ low ≤ (k : Int)) : grd n (repM n A low k) = grd n (repM n A low (k + 1)) := grd_eq fun p q _ _ => by
  unfold repM
  rw [List.range_succ, List.any_append]
  simp [h]
end
theorem ne_blk {o : Value} {g i : Nat} (h : i ∉ bl o) (hg : bl o = [g]) : i < g ∨ g + 1 ≤ i := by
  rw [hg] at h
  have : i ≠ g := fun e => h (List.mem_singleton.2 e)
  omega
theorem Ol.lsE {α : Type} {cs : α → List Value} {e k : Nat} {w : World} {v : Value} {xs : List α} (h : Ol cs e k w v xs) (hn : 0 < xs.length) : ∃ g, bl v = [g] ∧ Ls cs k w g (g + 1) v xs := by
  have hc := fun g off cap => Ow.cells (g := g) (off := off) (cap := cap) h
  rcases h.2 with ⟨rfl, h0⟩ | ⟨g, off, cap, cur, rfl, hg, h1, h2, h3, _⟩
  · omega
  · exact ⟨g, by simp [bl, Value.ownBlock], h.1, _, cap, rfl, h1, h2, fun _ => ⟨_, rfl, ⟨Nat.le_refl _, Nat.lt_succ_self _⟩, fun j u hu => by rw [add_lit]; exact hc g off cap rfl j u hu⟩⟩
theorem Od.eq {α : Type} {cs : α → List Value} {e k : Nat} {w : World} {lo hi : Nat} {vs : List Sv} {xs ys : List (List α)} (h : Od cs e k w lo hi vs xs) (he : xs = ys) : Od cs e k w lo hi vs ys := he ▸ h
end Go.KLib

namespace Go.KLib
section
variable {n i j k m : Nat} {A : Nat → Nat → Bool} {w : List Int} {c : Int}
def ltM (c : Int) (w : List Int) : Nat → Nat → Bool := fun i j => decide (j = i + 1) && decide (w[i]? = some c)
theorem Tri.ltr : Tri (ltM c w) := fun i j h => by simp [ltM]; intro h2; omega
def lupt (c : Int) (w : List Int) (m : Nat) : Nat → Nat → Bool := fun p q => decide (p < m) && ltM c w p q
theorem lupt_zero : grd n (idM false) = grd n (lupt c w 0) := grd_eq fun p q _ _ => by simp [idM, lupt]
theorem lupt_step {v : Bool} {y : Int} {M : List (List Bool)} {ys : List Bool} (hM : M = grd n (lupt c w i)) (hy : M[i]? = some ys) (hw : w[i]? = some y) (hv : v = decide (y = c)) :
    M.set i (ys.set (i + 1) v) = grd n (lupt c w (i + 1)) := grd_set hM hy (by rw [hv]; simp [lupt, ltM, hw]) fun p q _ _ hn => by
  unfold lupt ltM
  by_cases h1 : p = i
  · subst h1
    have h2 : ¬ q = p + 1 := fun h => hn ⟨rfl, h⟩
    simp [h2]
  · have h3 : (p < i + 1) = (p < i) := by simp; omega
    simp [h3]
theorem lupt_all (hn : n = w.length + 1) (h : m = w.length) : grd n (lupt c w m) = grd n (ltM c w) := grd_eq fun p q hp _ => by
  unfold lupt ltM
  by_cases h1 : p < m
  · simp [h1]
  · have : w[p]? = none := List.getElem?_eq_none (by omega)
    simp [this]
def srM (n : Nat) (A : Nat → Nat → Bool) : Nat → Nat → Nat → Bool
  | 0 => idM true
  | m + 1 => oeM (srM n A m) (mulM n (srM n A m) A)
theorem st_succ : grd n (oeM (srM n A m) (mulM n (srM n A m) A)) = grd n (srM n A (m + 1)) := by rw [srM]
theorem st_tri (h : Tri A) : ∀ m, Tri (srM n A m)
  | 0 => Tri.id true
  | m + 1 => (st_tri h m).or ((st_tri h m).mul h)
theorem mul_iff {A B : Nat → Nat → Bool} : mulM n A B i j = true ↔ ∃ k, k < n ∧ A i k = true ∧ B k j = true := by
  unfold mulM
  rw [List.any_eq_true]
  exact ⟨fun ⟨k, hk, h⟩ => ⟨k, List.mem_range.1 hk, by simpa using h⟩, fun ⟨k, hk, h⟩ => ⟨k, List.mem_range.2 hk, by simpa using h⟩⟩
theorem st_iff : ∀ (m : Nat) (i j : Nat), srM n A m i j = true ↔ ∃ k, k ≤ m ∧ powM n A k i j = true
  | 0, i, j => ⟨fun h => ⟨0, Nat.le_refl _, h⟩, fun ⟨k, hk, h⟩ => by
      have e : k = 0 := by omega
      subst e
      exact h⟩
  | m + 1, i, j => by
    have ih := fun i j => st_iff m i j
    rw [srM]
    show (srM n A m i j || mulM n (srM n A m) A i j) = true ↔ _
    rw [Bool.or_eq_true, ih, mul_iff]
    constructor
    · rintro (⟨k, hk, h⟩ | ⟨x, hx, h1, h2⟩)
      · exact ⟨k, by omega, h⟩
      · obtain ⟨k, hk, h⟩ := (ih i x).1 h1
        exact ⟨k + 1, by omega, by rw [powM]; exact mul_iff.2 ⟨x, hx, h, h2⟩⟩
    · rintro ⟨k, hk, h⟩
      cases k with
      | zero => exact .inl ⟨0, by omega, h⟩
      | succ k =>
        rw [powM] at h
        obtain ⟨x, hx, h1, h2⟩ := mul_iff.1 h
        exact .inr ⟨x, hx, (ih i x).2 ⟨k, by omega, h1⟩, h2⟩
theorem pow_less (hA : Tri A) : ∀ (k i j : Nat), powM n A (k + 1) i j = true → j < i + (k + 1) → powM n A k i j = true
  | 0, i, j, h, hj => by
    rw [powM] at h
    obtain ⟨x, hx, h1, h2⟩ := mul_iff.1 h
    have e1 : i = x := by simpa [powM, idM] using h1
    subst e1
    have h3 : ¬ j < i := fun hh => by rw [hA i j hh] at h2; cases h2
    have e2 : i = j := by omega
    simp [powM, idM, e2]
  | k + 1, i, j, h, hj => by
    rw [powM] at h
    obtain ⟨x, hx, h1, h2⟩ := mul_iff.1 h
    have h3 : ¬ j < x := fun hh => by rw [hA x j hh] at h2; cases h2
    by_cases e : x = j
    · exact e ▸ h1
    · rw [powM]
      exact mul_iff.2 ⟨x, hx, pow_less hA k i x h1 (by omega), h2⟩
theorem rep0_iff : repM n A 0 k i j = true ↔ ∃ m, m < k ∧ powM n A m i j = true := by
  unfold repM
  rw [List.any_eq_true]
  exact ⟨fun ⟨m, hm, h⟩ => ⟨m, List.mem_range.1 hm, by simpa using h⟩, fun ⟨m, hm, h⟩ => ⟨m, List.mem_range.2 hm, by simpa using h⟩⟩
theorem st_rep (hA : Tri A) (hm : m = n) : grd n (srM n A m) = grd n (repM n A 0 n) := grd_eq fun p q hp hq => by
  subst hm
  rw [Bool.eq_iff_iff, st_iff, rep0_iff]
  constructor
  · rintro ⟨k, hk, h⟩
    by_cases e : k = m
    · subst e
      cases k with
      | zero => omega
      | succ k => exact ⟨k, by omega, pow_less hA k p q h (by omega)⟩
    · exact ⟨k, by omega, h⟩
  · rintro ⟨k, hk, h⟩
    exact ⟨k, by omega, h⟩
end
def mtT (w : List Int) : Tr → Nat → Nat → Bool
  | .l0 t => if t.kind = 2 then idM true else if t.kind = 3 then ltM t.letter w else idM false
  | .l1 t x => if t.kind = 6 then repM (w.length + 1) (mtT w x) 0 (w.length + 1) else if t.kind = 7 then repM (w.length + 1) (mtT w x) t.low (t.high + 1).toNat else idM false
  | .l2 t x y => if t.kind = 4 then mulM (w.length + 1) (mtT w x) (mtT w y) else if t.kind = 5 then oeM (mtT w x) (mtT w y) else idM false
theorem mt_tri (w : List Int) : ∀ t, Tri (mtT w t)
  | .l0 t => by unfold mtT; split; exact Tri.id _; split; exact Tri.ltr; exact Tri.id _
  | .l1 t x => by
    have h := mt_tri w x
    unfold mtT; split; exact rep_tri h; split; exact rep_tri h; exact Tri.id _
  | .l2 t x y => by
    have h := mt_tri w x
    have k := mt_tri w y
    unfold mtT; split; exact h.mul k; split; exact h.or k; exact Tri.id _
section
variable {t ta tb : Tr} {w : List Int}
theorem mt2 (hok : Okd t) (h : t.tok.kind = 2) : mtT w t = idM true := by
  have ha := hok.ar
  cases t with
  | l0 t => simp only [Tr.tok] at h; unfold mtT; rw [if_pos h]
  | l1 t x => simp only [Tr.tok, Tr.kids] at h ha; rw [arT_ok (by rw [ha]; simp), h] at ha; simp [arK] at ha
  | l2 t x y => simp only [Tr.tok, Tr.kids] at h ha; rw [arT_ok (by rw [ha]; simp), h] at ha; simp [arK] at ha
theorem mt3 (hok : Okd t) (h : t.tok.kind = 3) : mtT w t = ltM t.tok.letter w := by
  have ha := hok.ar
  cases t with
  | l0 t => simp only [Tr.tok] at h ⊢; unfold mtT; rw [if_neg (by omega), if_pos h]
  | l1 t x => simp only [Tr.tok, Tr.kids] at h ha; rw [arT_ok (by rw [ha]; simp), h] at ha; simp [arK] at ha
  | l2 t x y => simp only [Tr.tok, Tr.kids] at h ha; rw [arT_ok (by rw [ha]; simp), h] at ha; simp [arK] at ha
theorem mt4 (h : t.tok.kind = 4) (h0 : t.kids[0]? = some ta) (h1 : t.kids[1]? = some tb) : mtT w t = mulM (w.length + 1) (mtT w ta) (mtT w tb) := by
  cases t with
  | l0 t => simp [Tr.kids] at h0
  | l1 t x => simp [Tr.kids] at h1
  | l2 t x y =>
    simp [Tr.kids] at h0 h1; subst h0 h1
    simp only [Tr.tok] at h
    rw [mtT, if_pos h]
theorem mt5 (h : t.tok.kind = 5) (h0 : t.kids[0]? = some ta) (h1 : t.kids[1]? = some tb) : mtT w t = oeM (mtT w ta) (mtT w tb) := by
  cases t with
  | l0 t => simp [Tr.kids] at h0
  | l1 t x => simp [Tr.kids] at h1
  | l2 t x y =>
    simp [Tr.kids] at h0 h1; subst h0 h1
    simp only [Tr.tok] at h
    rw [mtT, if_neg (by omega), if_pos h]
theorem mt6 (hok : Okd t) (h : t.tok.kind = 6) (h0 : t.kids[0]? = some ta) : mtT w t = repM (w.length + 1) (mtT w ta) 0 (w.length + 1) := by
  have ha := hok.ar
  cases t with
  | l0 t => simp [Tr.kids] at h0
  | l1 t x =>
    simp [Tr.kids] at h0; subst h0
    simp only [Tr.tok] at h
    rw [mtT, if_pos h]
  | l2 t x y => simp only [Tr.tok, Tr.kids] at h ha; rw [arT_ok (by rw [ha]; simp), h] at ha; simp [arK] at ha
theorem mt7 (hok : Okd t) (h : t.tok.kind = 7) (h0 : t.kids[0]? = some ta) : mtT w t = repM (w.length + 1) (mtT w ta) t.tok.low (t.tok.high + 1).toNat := by
  have ha := hok.ar
  cases t with
  | l0 t => simp [Tr.kids] at h0
  | l1 t x =>
    simp [Tr.kids] at h0; subst h0
    simp only [Tr.tok] at h ⊢
    rw [mtT, if_neg (by omega), if_pos h]
  | l2 t x y => simp only [Tr.tok, Tr.kids] at h ha; rw [arT_ok (by rw [ha]; simp), h] at ha; simp [arK] at ha
theorem mt0 (h : t.tok.kind ≠ 2 ∧ t.tok.kind ≠ 3 ∧ t.tok.kind ≠ 4 ∧ t.tok.kind ≠ 5 ∧ t.tok.kind ≠ 6 ∧ t.tok.kind ≠ 7) : mtT w t = idM false := by
  obtain ⟨h2, h3, h4, h5, h6, h7⟩ := h
  cases t with
  | l0 t => simp only [Tr.tok] at *; rw [mtT, if_neg h2, if_neg h3]
  | l1 t x => simp only [Tr.tok] at *; rw [mtT, if_neg h6, if_neg h7]
  | l2 t x y => simp only [Tr.tok] at *; rw [mtT, if_neg h4, if_neg h5]
end
end Go.KLib

namespace Go.KLib
theorem Ol.lsR {α : Type} {cs : α → List Value} {e k lo hi : Nat} {w : World} {v : Value} {xs : List α} (h : Ol cs e k w v xs) (hl : Lo lo v) (hh : ∀ g ∈ bl v, g < hi) : Ls cs k w lo hi v xs := by
  have hc := fun g off cap => Ow.cells (g := g) (off := off) (cap := cap) h
  rcases h.2 with ⟨rfl, h0⟩ | ⟨g, off, cap, cur, rfl, hg, h1, h2, h3, _⟩
  · exact ⟨h.1, none, 0, by rw [h0], by omega, Nat.zero_le _, fun h => absurd h (by omega)⟩
  · have hb : g ∈ bl (.slice (some ⟨g, off, none⟩) xs.length cap) := by simp [bl, Value.ownBlock]
    exact ⟨h.1, _, cap, rfl, h1, h2, fun _ => ⟨_, rfl, ⟨hl g hb, hh g hb⟩, fun j u hu => by rw [add_lit]; exact hc g off cap rfl j u hu⟩⟩
theorem Od.rdR {α : Type} {cs : α → List Value} {e k lo hi : Nat} {w : World} {vs : List Sv} {xs : List (List α)} (h : Od cs e k w lo hi vs xs) : Rd cs k w lo hi vs xs := by
  refine ⟨h.1, fun i v x hv hx => ?_⟩
  obtain ⟨x', hx', ho, hr⟩ := h.ownget hv
  rw [hx] at hx'; cases hx'
  exact ho.lsR (fun g hg => (hr g hg).1) (fun g hg => (hr g hg).2)
def RT (w : World) (H : Nat) (b : List Nat) (wd : List Int) (vs : List Sv) (st : List Tr) : Prop :=
  vs.length = st.length ∧ ∀ (i : Nat) (v : Sv) (t : Tr), vs[i]? = some v → st.reverse[i]? = some t →
    ∃ us lo hi, Ls Sv.cs 1 w lo hi v.v us ∧ Rd bcs 1 w lo hi us (grd (wd.length + 1) (mtT wd t)) ∧ hi ≤ H ∧ ∀ g ∈ b, g < lo ∨ hi ≤ g
section
variable {w w' : World} {H H' : Nat} {b b' ws : List Nat} {wd : List Int} {vs : List Sv} {st : List Tr}
theorem RT.nil : RT w H b wd [] [] := ⟨rfl, fun _ _ _ h => by simp at h⟩
theorem RT.ch (h : RT w H b wd vs st) (c : Ch ws w w') (hw : ∀ i ∈ ws, H ≤ i ∨ i ∈ b) : RT w' H b wd vs st := ⟨h.1, fun i v t hv ht => by
  obtain ⟨us, lo, hi, h1, h2, h3, h4⟩ := h.2 i v t hv ht
  have hd : ∀ i ∈ ws, i < lo ∨ hi ≤ i := fun i hi' => by
    rcases hw i hi' with q | q
    · right; omega
    · exact h4 i q
  exact ⟨us, lo, hi, h1.ch c hd, h2.ch c hd, h3, h4⟩⟩
theorem RT.ch0 (h : RT w H b wd vs st) (c : Ch [] w w') : RT w' H b wd vs st := h.ch c (by simp)
theorem RT.get (h : RT w H b wd vs st) {i : Nat} {y : Sv} (hy : vs[i]? = some y) : ∃ t us lo hi, st.reverse[i]? = some t ∧ Ls Sv.cs 1 w lo hi y.v us ∧ Rd bcs 1 w lo hi us (grd (wd.length + 1) (mtT wd t)) ∧ hi ≤ H := by
  have hi : i < st.reverse.length := by
    have := (List.getElem?_eq_some_iff.1 hy).1
    rw [List.length_reverse]; have := h.1; omega
  obtain ⟨us, lo, hi', h1, h2, h3, _⟩ := h.2 i y _ hy (List.getElem?_eq_getElem hi)
  exact ⟨_, us, lo, hi', List.getElem?_eq_getElem hi, h1, h2, h3⟩
theorem RT.take (h : RT w H b wd vs st) {k : Nat} (hk : k ≤ st.length) : RT w H b wd (vs.take (vs.length - k)) (st.drop k) := by
  refine ⟨by rw [List.length_take, List.length_drop, h.1]; omega, fun i v t hv ht => ?_⟩
  have h9 := h.1
  rw [List.getElem?_take] at hv
  split at hv
  · rename_i hi
    refine h.2 i v t hv ?_
    have e : st.reverse = (st.drop k).reverse ++ (st.take k).reverse := by rw [← List.reverse_append, List.take_append_drop]
    rw [e, List.getElem?_append_left (by rw [List.length_reverse, List.length_drop]; omega)]
    exact ht
  · cases hv
theorem RT.add (h : RT w H b wd vs st) {v : Sv} {t : Tr} {us : List Sv} {lo hi : Nat} (h1 : Ls Sv.cs 1 w lo hi v.v us) (h2 : Rd bcs 1 w lo hi us (grd (wd.length + 1) (mtT wd t))) (h3 : hi ≤ H') (hH : H ≤ H')
    (hb : ∀ g ∈ b', g < lo ∨ hi ≤ g) (ho : ∀ g ∈ b', g ∈ b ∨ H ≤ g) : RT w H' b' wd (vs ++ [v]) (t :: st) := by
  refine ⟨by simp [h.1], fun i x u hx hu => ?_⟩
  have h9 := h.1
  rw [List.reverse_cons] at hu
  by_cases hi' : i < vs.length
  · rw [List.getElem?_append_left hi'] at hx
    rw [List.getElem?_append_left (by rw [List.length_reverse]; omega)] at hu
    obtain ⟨us, l, r, a1, a2, a3, a4⟩ := h.2 i x u hx hu
    refine ⟨us, l, r, a1, a2, by omega, fun g hg => ?_⟩
    rcases ho g hg with q | q
    · exact a4 g q
    · right; omega
  · have e : i = vs.length := by
      have := (List.getElem?_eq_some_iff.1 hx).1
      simp at this; omega
    subst e
    rw [List.getElem?_append_right (Nat.le_refl _), Nat.sub_self] at hx
    rw [List.getElem?_append_right (by rw [List.length_reverse]; omega), List.length_reverse, h9, Nat.sub_self] at hu
    simp at hx hu; subst hx hu
    exact ⟨us, lo, hi, h1, h2, h3, hb⟩
theorem RT.eq {vs' : List Sv} (h : RT w H b wd vs st) (e : vs = vs') : RT w H b wd vs' st := e ▸ h
end
section
variable {st s2 : List Tr} {y : Token} {l : List Token} {i : Nat} {t : Tr}
theorem prs_go (hl : treeL l = some t) (hp : prs [] (l.take i) = some st) (hy : l[i]? = some y) : ∃ s2, push st y = some s2 ∧ prs [] (l.take (i + 1)) = some s2 := by
  have h := prs_snoc hp hy
  cases hq : push st y with
  | some s2 => exact ⟨s2, rfl, by rw [h, hq]⟩
  | none =>
    rw [hq] at h
    have := prs_stop h
    unfold treeL at hl; rw [this] at hl; cases hl
theorem prs_fin (hl : treeL l = some t) (hp : prs [] (l.take i) = some st) (hi : l.length ≤ i) : st = [t] := by
  have h := prs_end hp hi
  unfold treeL at hl
  rw [h] at hl
  match st, hl with
  | [u], hl => cases hl; rfl
theorem push_ar (h : push st y = some s2) : arT y = arK y.kind ∧ 0 ≤ arT y := by
  have h0 : 0 ≤ arT y := by
    unfold push at h
    split at h
    · omega
    · split at h
      · omega
      · split at h
        · omega
        · cases h
  exact ⟨arT_ok h0, h0⟩
theorem push_k0 (h : push st y = some s2) (hk : arK y.kind = 0) : s2 = .l0 y :: st := by
  have e := (push_ar h).1
  unfold push at h
  rw [if_pos (by omega)] at h
  cases h; rfl
theorem push_k1 (h : push st y = some s2) (hk : arK y.kind = 1) : ∃ a r, st = a :: r ∧ s2 = .l1 y a :: r := by
  have e := (push_ar h).1
  unfold push at h
  rw [if_neg (by omega), if_pos (by omega)] at h
  match st, h with
  | a :: r, h => cases h; exact ⟨a, r, rfl, rfl⟩
theorem push_k2 (h : push st y = some s2) (hk : arK y.kind = 2) : ∃ a b r, st = b :: a :: r ∧ s2 = .l2 y a b :: r := by
  have e := (push_ar h).1
  unfold push at h
  rw [if_neg (by omega), if_neg (by omega), if_pos (by omega)] at h
  match st, h with
  | b :: a :: r, h => cases h; exact ⟨a, b, r, rfl, rfl⟩
theorem push_hi (h : push st y = some s2) (hk : y.kind = 7) : y.high ≤ 3 := by
  have e := (push_ar h).2
  unfold arT at e
  rw [if_neg (by omega), if_neg (by omega), if_neg (by omega), if_neg (by omega), if_pos hk] at e
  split at e
  · omega
  · omega
theorem top1 {a : Tr} {r : List Tr} {j : Nat} {u : Tr} (hj : j = r.length) (h : (a :: r).reverse[j]? = some u) : u = a := by
  subst hj
  rw [List.reverse_cons, List.getElem?_append_right (by simp), List.length_reverse, Nat.sub_self] at h
  simpa using h.symm
theorem top2 {a c : Tr} {r : List Tr} {j : Nat} {u : Tr} (hj : j = r.length) (h : (c :: a :: r).reverse[j]? = some u) : u = a := by
  subst hj
  rw [List.reverse_cons, List.getElem?_append_left (by simp)] at h
  exact top1 rfl h
end
section
variable {w : List Int} {y : Token} {a b : Tr}
theorem ml2 (h : y.kind = 2) : mtT w (.l0 y) = idM true := by rw [mtT, if_pos h]
theorem ml3 (h : y.kind = 3) : mtT w (.l0 y) = ltM y.letter w := by rw [mtT, if_neg (by omega), if_pos h]
theorem ml0 (h : y.kind ≠ 2 ∧ y.kind ≠ 3) : mtT w (.l0 y) = idM false := by rw [mtT, if_neg h.1, if_neg h.2]
theorem ml4 (h : y.kind = 4) : mtT w (.l2 y a b) = mulM (w.length + 1) (mtT w a) (mtT w b) := by rw [mtT, if_pos h]
theorem ml5 (h : y.kind = 5) : mtT w (.l2 y a b) = oeM (mtT w a) (mtT w b) := by rw [mtT, if_neg (by omega), if_pos h]
theorem ml6 (h : y.kind = 6) : mtT w (.l1 y a) = repM (w.length + 1) (mtT w a) 0 (w.length + 1) := by rw [mtT, if_pos h]
theorem ml7 (h : y.kind = 7) : mtT w (.l1 y a) = repM (w.length + 1) (mtT w a) y.low (y.high + 1).toNat := by rw [mtT, if_neg (by omega), if_pos h]
end
theorem fin_mt {w : List Int} {t u : Tr} {ys : List Bool} {x : Bool} (hu : [t].reverse[0]? = some u) (h : (grd (w.length + 1) (mtT w u))[0]? = some ys) (hx : ys[w.length]? = some x) : x = mtT w t 0 w.length := by
  have e : u = t := top1 rfl hu
  subst e
  exact grd_y rfl h hx
theorem set_last {vs : List Sv} {v : Sv} {j : Nat} (hj : j + 1 = vs.length) : vs.take (vs.length - 1) ++ [v] = vs.set j v := by
  apply List.ext_getElem?
  intro i
  rw [List.getElem?_set]
  by_cases e : j = i
  · subst e
    rw [if_pos rfl, if_pos (by omega), List.getElem?_append_right (by rw [List.length_take]; omega), List.length_take]
    rw [show j - min (vs.length - 1) vs.length = 0 by omega]; rfl
  · rw [if_neg e]
    by_cases hi : i < j
    · rw [List.getElem?_append_left (by rw [List.length_take]; omega), List.getElem?_take, if_pos (by omega)]
    · rw [List.getElem?_eq_none (by rw [List.length_append, List.length_take, List.length_singleton]; omega), List.getElem?_eq_none (by omega)]
noncomputable def mwE (e : List Token) (w : List Int) : Bool := ivE e && tt (IsWd w) && (match treeL e with | some t => mtT w t 0 w.length | none => false)
section
variable {e : List Token} {w : List Int} {t : Tr}
theorem mwE_n1 (h : ivE e = false) : mwE e w = false := by unfold mwE; rw [h]; rfl
theorem mwE_n2 (h : ¬ IsWd w) : mwE e w = false := by unfold mwE; rw [← tt_false h]; simp
theorem mwE_y (h : ivE e = true) (hw : IsWd w) (ht : treeL e = some t) : mwE e w = mtT w t 0 w.length := by unfold mwE; rw [h, ← tt_true hw, ht]; rfl
end
end Go.KLib

namespace Go.KLib
def extW (L : List Int) (w : List Int) : List (List Int) := L.map fun c => w ++ [c]
def wdL (L : List Int) : Nat → List (List Int)
  | 0 => [[]]
  | k + 1 => (wdL L k).flatMap (extW L)
def R9 : List Int := (List.range 9).map fun (i : Nat) => (i : Int)
def letT : Tr → List Int
  | .l0 t => if t.kind = 3 then [t.letter] else []
  | .l1 _ a => letT a
  | .l2 _ a b => letT a ++ letT b
theorem letT_flat : ∀ (t : Tr) (c : Int), c ∈ letT t → ∃ y ∈ t.flat, y.kind = 3 ∧ y.letter = c
  | .l0 t, c, h => by
    unfold letT at h
    split at h
    · rename_i hk
      exact ⟨t, by simp [Tr.flat], hk, (List.mem_singleton.1 h).symm⟩
    · cases h
  | .l1 t a, c, h => by
    obtain ⟨y, hy, h2⟩ := letT_flat a c h
    exact ⟨y, by simp [Tr.flat, hy], h2⟩
  | .l2 t a b, c, h => by
    unfold letT at h
    rcases List.mem_append.1 h with h | h
    · obtain ⟨y, hy, h2⟩ := letT_flat a c h
      exact ⟨y, by simp [Tr.flat, hy], h2⟩
    · obtain ⟨y, hy, h2⟩ := letT_flat b c h
      exact ⟨y, by simp [Tr.flat, hy], h2⟩
theorem Od.skip {α : Type} {cs : α → List Value} {e k : Nat} {w : World} {lo hi : Nat} {vs us : List Sv} {v : Sv} {xs ys : List (List α)} {x : List α} (h : Od cs e k w lo hi (vs ++ v :: us) (xs ++ x :: ys)) (hl : vs.length = xs.length) : Od cs e k w lo hi (vs ++ us) (xs ++ ys) := by
  have g1 : ∀ {β : Type} (a b : List β) (c : β) (i : Nat) (u : β), (a ++ b)[i]? = some u → (a ++ c :: b)[if i < a.length then i else i + 1]? = some u := by
    intro β a b c i u hu
    by_cases hi : i < a.length
    · rw [if_pos hi, List.getElem?_append_left hi]; rwa [List.getElem?_append_left hi] at hu
    · rw [if_neg hi, List.getElem?_append_right (by omega)]
      rw [List.getElem?_append_right (by omega)] at hu
      rw [show i + 1 - a.length = (i - a.length) + 1 by omega, List.getElem?_cons_succ]; exact hu
  refine ⟨by have := h.1; simp at this ⊢; omega, fun i v' x' a b => ?_, fun i j u u' a b hij => ?_⟩
  · have a' := g1 _ _ v _ _ a
    have b' := g1 _ _ x _ _ b
    rw [← hl] at b'
    exact h.2.1 _ _ _ a' b'
  · have a' := g1 _ _ v _ _ a
    have b' := g1 _ _ v _ _ b
    exact h.2.2 _ _ _ _ a' b' (by split <;> split <;> omega)
theorem drop_of {α : Type} {l : List α} {i : Nat} {y : α} (h : l[i]? = some y) : l.drop i = y :: l.drop (i + 1) := by
  obtain ⟨hi, e⟩ := List.getElem?_eq_some_iff.1 h
  rw [List.drop_eq_getElem_cons hi, e]
theorem Od.app {α : Type} {cs : α → List Value} {e k : Nat} {w : World} {lo hi lo2 hi2 : Nat} {vs us : List Sv} {xs ys : List (List α)} (h : Od cs e k w lo hi vs xs) (h2 : Od cs e k w lo2 hi2 us ys) (hh : hi ≤ lo2) (hl : lo ≤ lo2) (hu : hi ≤ hi2) : Od cs e k w lo hi2 (vs ++ us) (xs ++ ys) := by
  have h9 := h.1
  have k9 := h2.1
  refine ⟨by simp [h9, k9], fun i v x a b => ?_, fun i j u v a b hij => ?_⟩
  · by_cases hi' : i < vs.length
    · rw [List.getElem?_append_left hi'] at a
      rw [List.getElem?_append_left (by omega)] at b
      obtain ⟨o, r⟩ := h.2.1 i v x a b
      exact ⟨o, fun g hg => by have := r g hg; omega⟩
    · rw [List.getElem?_append_right (by omega)] at a
      rw [List.getElem?_append_right (by omega)] at b
      rw [h9] at a
      obtain ⟨o, r⟩ := h2.2.1 _ v x a b
      exact ⟨o, fun g hg => by have := r g hg; omega⟩
  · by_cases hi' : i < vs.length
    · rw [List.getElem?_append_left hi'] at a
      by_cases hj : j < vs.length
      · rw [List.getElem?_append_left hj] at b
        exact h.2.2 i j u v a b hij
      · rw [List.getElem?_append_right (by omega)] at b
        intro g hg hm
        have r1 := h.rng (List.mem_of_getElem? a) hg
        have r2 := h2.rng (List.mem_of_getElem? b) hm
        omega
    · rw [List.getElem?_append_right (by omega)] at a
      rw [List.getElem?_append_right (by omega)] at b
      exact h2.2.2 _ _ u v a b (by omega)
def wuT (L : List Int) (t : Tr) (m : Nat) : List (List Int) := (List.range m).flatMap fun k => (wdL L k).filter fun w => mtT w t 0 w.length
def wuR (e : List Token) (n : Int) : List (List Int) := if ivE e = true ∧ 0 ≤ n ∧ n ≤ 3 then (match treeL e with | some t => wuT R9 t (n + 1).toNat | none => []) else []
def wuS (e : List Token) (n : Int) : List (List Int) := if ivE e = true ∧ 0 ≤ n ∧ n ≤ 3 then (match treeL e with | some t => wuT (alphR e) t (n + 1).toNat | none => []) else []
section
variable {L : List Int} {t : Tr} {W : List (List Int)} {P : List Int → Bool} {y : List Int} {i j k m : Nat}
end
end Go.KLib

namespace Go.KLib
def bst (l : List UInt8) : Value := .string ⟨l.toArray⟩
def bys (l : List UInt8) : ByteArray := ⟨l.toArray⟩
theorem bst_def (l : List UInt8) : bst l = .string (bys l) := rfl
theorem bys_list (l : List UInt8) : (bys l).toList = l := ByteArray.toList_mk l
theorem bys_size (l : List UInt8) : (bys l).size = l.length := rfl
def scs (s : List UInt8) : List Value := [bst s]
theorem scs_len (s : List UInt8) : (scs s).length = 1 := rfl
theorem scs_one (s : List UInt8) : ∀ v ∈ scs s, v.oneCell' = true := fun v hv => by rw [List.mem_singleton.1 hv]; rfl
def ucs (n : Int) : List Value := [.int .u8 n]
theorem ucs_len (n : Int) : (ucs n).length = 1 := rfl
def bat (s : List UInt8) (i : Nat) : Int := ((s.getD i 0).toNat : Int)
theorem bat_rng (s : List UInt8) (i : Nat) : 0 ≤ bat s i ∧ bat s i ≤ 255 := by
  have := (s.getD i 0).toNat_lt
  unfold bat; omega
theorem bat_cv (s : List UInt8) (i : Nat) : -9223372036854775808 ≤ bat s i ∧ bat s i ≤ 9223372036854775807 := by have := bat_rng s i; omega
def w8 (x : Int) : Int := IntKind.u8.wrap x
def bLt (a b : List UInt8) : Bool := Op.bytesLess a b
section
variable {P : Program} {w : World} {l : KL} {dst : Option Tmp} {ty : TypeId} {pos : String} {aft : Array Go.Edge} {gd : Option (Nat × Bool)} {x y z : Operand} {xt yt : TypeId} {a b : Int} {k : IntKind} {s t : List UInt8}
theorem r_mul64 (hx : ev l x = some (.int .i64 a)) (hy : ev l y = some (.int .i64 b)) : Runs P l ⟨dst, .binOp .mul xt x y yt, ty, pos, aft, gd⟩ w (.int .i64 (w64 (a * b))) w := r_mulW hx hy
theorem r_sAdd (h : s.length + t.length ≤ 9223372036854775807) (hx : ev l x = some (bst s)) (hy : ev l y = some (bst t)) : Runs P l ⟨dst, .binOp .add xt x y yt, ty, pos, aft, gd⟩ w (bst (s ++ t)) w := fun ρ hρ => by
  have e := run_string_add_sum (P := P) w (bys s) (bys t) h
  rw [show bys s ++ bys t = bys (s ++ t) from ByteArray.mk_append_mk s t] at e
  rw [bst_def] at hx hy
  simp [execOp, hρ _ _ hx, hρ _ _ hy, eqGuard, binOp, e, bst_def]
theorem r_sEql (hx : ev l x = some (bst s)) (hy : ev l y = some (bst t)) : Runs P l ⟨dst, .binOp .eql xt x y yt, ty, pos, aft, gd⟩ w (.bool (decide (s = t))) w := fun ρ hρ => by
  have e : (s == t) = decide (s = t) := by by_cases h : s = t <;> simp [h]
  rw [bst_def] at hx hy
  simp [execOp, hρ _ _ hx, hρ _ _ hy, eqGuard, binOp, Op.stringOp, bys_list, e]
theorem r_lenB {t : TypeId} (ht : P.underlying t = some .string) (h : ev l x = some (bst s)) :
    Runs P l ⟨dst, .call { callee := .builtin .len, args := #[x], argTypes := #[t] }, ty, pos, aft, gd⟩ w (.int .i64 s.length) w := fun ρ hρ => by
  rw [bst_def] at h
  simp [execOp, resolve, invoke, builtin, Builtin.len_, run_underlying ht, hρ _ _ h, goInt, bys_size]
theorem r_sIndex {t : TypeId} {i : Int} (h0 : 0 ≤ i ∧ i < s.length) (ht : P.underlying t = some .string) (hx : ev l x = some (bst s)) (hy : ev l y = some (.int k i)) :
    Runs P l ⟨dst, .index t x y, ty, pos, aft, gd⟩ w (.int .u8 (bat s i.toNat)) w := fun ρ hρ => by
  have e := run_index_string (P := P) w t (bys s) k i ht
  rw [dif_pos (show 0 ≤ i ∧ i < ((bys s).size : Int) from h0)] at e
  have hlt : i.toNat < s.length := by omega
  have e2 : (bys s)[i.toNat]'(by show i.toNat < s.length; exact hlt) = s.getD i.toNat 0 := by
    show s.toArray[i.toNat]'(by simpa using hlt) = _
    simp [List.getD_eq_getElem?_getD, hlt]
  rw [bst_def] at hx
  rw [e2] at e
  simp [execOp, hρ _ _ hx, hρ _ _ hy, e, bat]
theorem r_sCut {t : TypeId} {i j : Int} {k' : IntKind} (h0 : 0 ≤ i ∧ i ≤ j ∧ j ≤ s.length) (ht : P.underlying t = some .string) (hx : ev l x = some (bst s)) (hy : ev l y = some (.int k i)) (hz : ev l z = some (.int k' j)) :
    Runs P l ⟨dst, .slice t x (some y) (some z) none, ty, pos, aft, gd⟩ w (bst ((s.drop i.toNat).take (j.toNat - i.toNat))) w := fun ρ hρ => by
  have e := run_slice_string (P := P) w t (bys s) k k' i j ht h0.1 h0.2.1 h0.2.2
  rw [show (bys s).extract i.toNat j.toNat = bys ((s.drop i.toNat).take (j.toNat - i.toNat)) from ByteArray.extract_mk s _ _] at e
  rw [bst_def] at hx
  simp [execOp, hρ _ _ hx, hρ _ _ hy, hρ _ _ hz, Instr.sliceAt, run_underlying ht, e, bst_def]
theorem r_sCutL {t : TypeId} {i : Int} (h0 : 0 ≤ i ∧ i ≤ s.length) (ht : P.underlying t = some .string) (hx : ev l x = some (bst s)) (hy : ev l y = some (.int k i)) :
    Runs P l ⟨dst, .slice t x (some y) none none, ty, pos, aft, gd⟩ w (bst (s.drop i.toNat)) w := fun ρ hρ => by
  have e := run_slice_string_l (P := P) w t (bys s) ht k i h0.1 h0.2
  rw [show (bys s).extract i.toNat (bys s).size = bys (s.drop i.toNat) from by
    rw [show (bys s).extract i.toNat (bys s).size = bys ((s.drop i.toNat).take (s.length - i.toNat)) from ByteArray.extract_mk s _ _, List.take_of_length_le (by simp)]] at e
  rw [bst_def] at hx
  simp [execOp, hρ _ _ hx, hρ _ _ hy, Instr.sliceAt, run_underlying ht, e, bst_def]
theorem fold_push (ns : List Int) : ∀ (s : ByteArray), (ns.foldl (fun r n => r.push (UInt8.ofNat n.toNat)) s).data.toList = s.data.toList ++ ns.map fun n => UInt8.ofNat n.toNat := by
  induction ns with
  | nil => intro s; simp
  | cons n ns ih => intro s; simp only [List.foldl_cons, ih]; simp [ByteArray.push]
def u8s (ns : List Int) : List UInt8 := ns.map fun n => UInt8.ofNat n.toNat
theorem r_bytesStr {src d e : TypeId} {ns : List Int} {v : Value} {L B : Nat} (hs : Ls ucs 1 w L B v ns) (h1 : elB P src = some e) (h2 : P.underlying e = some (.int .u8)) (h3 : P.underlying d = some .string) (hx : ev l x = some v) :
    Runs P l ⟨dst, .convert src d x, ty, pos, aft, gd⟩ w (bst (u8s ns)) w := fun ρ hρ => by
  obtain ⟨hl, A, c, rfl, hc, hm, hA⟩ := hs
  have hcv := fun a n c => run_convert_bytes_string (P := P) w src d e a n c (elB_spec h1) h2 h3
  have fm : ∀ ns : List Int, ns.flatMap ucs = ns.map (Value.int .u8) := fun ns => by induction ns with | nil => rfl | cons n ns ih => simp [ucs, ih]
  have fp : ∀ ns : List Int, ns.foldl (fun r n => r.push (UInt8.ofNat n.toNat)) ByteArray.empty = bys (u8s ns) := fun ns => by
    apply ByteArray.ext
    apply Array.toList_inj.1
    rw [fold_push]; simp [bys, u8s]
  by_cases hn : ns = []
  · subst hn
    have hk : (Conv.bytesToString (.slice A ([] : List Int).length c)).run P w = .ok (bst (u8s [])) w := by
      cases A with
      | none => simp [Conv.bytesToString]; rfl
      | some a =>
        have := run_bytesToString (P := P) w a 0 c [] (by simp [loadCells, loadCellsFrom])
        rw [fp] at this
        exact this
    simp only [execOp, hρ _ _ hx, Sem.run_bind, hcv, hk, Result.andThen_ok, Sem.run_pure]
  · obtain ⟨a, rfl, _, hcell⟩ := hA (by have := List.length_pos_iff.2 hn; omega)
    have hk := run_bytesToString (P := P) w a ns.length c ns (by
      have := run_loadCells_list (P := P) w a (ns.map (Value.int .u8)) (fun j v hj => hcell j v (by rw [fm]; exact hj))
      simpa using this)
    rw [fp] at hk
    simp only [execOp, hρ _ _ hx, Sem.run_bind, hcv, hk, Result.andThen_ok, Sem.run_pure]
    rfl
end
end Go.KLib

namespace Go.KLib
open Go.Sort Go.RowKit Go.Shelf Go.Proofs
def OnB (N : List (List Int)) (f s : Nat) : Prop := EdgeA N f s
noncomputable def onwL (N : List (List Int)) (f n : Nat) : List Bool := clL (OnB N f) (BackA N) n
def Cyc (N : List (List Int)) (s : Nat) : Prop := Cl (OnB N s) (BackA N) s
noncomputable def ifR (S : Int) (A : List Bool) (N : List (List Int)) : Bool := tt (ValidA S A N ∧ ∀ s ∈ usfR S A N, ¬ Cyc N s.toNat)
section
variable {B : Nat → Prop} {S : Int} {N : List (List Int)} {n j s k f : Nat} {l : List Bool} {r : List Int} {y : Int}
def FUpB (B : Nat → Prop) (N : List (List Int)) (j : Nat) (l : List Bool) (s : Nat) : Prop := ∀ q t, q < s → EdgeA N q t → ClN B (BackA N) j q → l[t]? = some true
def FRowB (B : Nat → Prop) (N : List (List Int)) (j : Nat) (l : List Bool) (s k : Nat) : Prop := ∀ (i t : Nat) (r : List Int), i < k → N[s]? = some r → r[i]? = some (t : Int) → ClN B (BackA N) j s → l[t]? = some true
def On1 (N : List (List Int)) (f : Nat) (l : List Bool) (k : Nat) : Prop := ∀ (i t : Nat) (r : List Int), i < k → N[f]? = some r → r[i]? = some (t : Int) → l[t]? = some true
end
section
variable {S : Int} {A : List Bool} {N : List (List Int)} {us : List Int} {i : Nat} {y : Int}
def NoC (N : List (List Int)) (l : List Int) (k : Nat) : Prop := ∀ x ∈ l.take k, ¬ Cyc N x.toNat
def stk (N : List (List Int)) (us : List Int) (s : Int) : Bool := !(N.getD s.toNat []).any fun t => decide (t ∈ us)
structure Lft (S : Int) (A : List Bool) (N : List (List Int)) (us : List Int) : Prop where
  sub : ∀ x ∈ us, x ∈ usfR S A N
  gone : ∀ x ∈ usfR S A N, x ∉ us → ¬ Cyc N x.toNat
end
end Go.KLib

namespace Go.KLib
def Cu (w : World) (b : Nat) : Prop := ∃ (v : Value) (xs : List Int) (t : TypeId) (i h : Int), Blk w b t [v, .int .i64 i, .int .i64 h] ∧ Ls ucs 1 w 0 b v xs ∧ 0 ≤ i ∧ i ≤ xs.length
theorem Cu.lt {w : World} {b : Nat} (h : Cu w b) : b < w.heap.size := by obtain ⟨_, _, _, _, _, h, _⟩ := h; exact h.lt
theorem Cu.ch {w w' : World} {b : Nat} {ws : List Nat} (h : Cu w b) (c : Ch ws w w') (hw : ∀ i ∈ ws, b < i) : Cu w' b := by
  obtain ⟨v, xs, t, i, k, h1, h2, h3⟩ := h
  exact ⟨v, xs, t, i, k, h1.ch c (fun hm => by have := hw _ hm; omega), Sl.ch h2 c (fun j hj => .inr (by have := hw _ hj; omega)), h3⟩
theorem Cu.ch0 {w w' : World} {b : Nat} (h : Cu w b) (c : Ch [] w w') : Cu w' b := h.ch c (fun _ hm => by cases hm)
theorem iand_le (x : Int) (m : Nat) (hm : m < 9223372036854775808) : 0 ≤ iand x m ∧ iand x m ≤ m := by
  unfold iand
  have h : (BitVec.ofInt IntKind.i64.bits x &&& BitVec.ofInt IntKind.i64.bits (m : Int)).toNat ≤ m := by
    rw [BitVec.toNat_and]
    refine Nat.le_trans Nat.and_le_right ?_
    rw [BitVec.toNat_ofInt]
    show ((m : Int) % (2 ^ 64 : Nat)).toNat ≤ m
    have : (m : Int) % ((2 ^ 64 : Nat) : Int) = m := Int.emod_eq_of_lt (by omega) (by omega)
    rw [this]; simp
  rw [IntWalk.i64_in _ (by omega)]
  omega
theorem iand255 (x : Int) : 0 ≤ iand x 255 ∧ iand x 255 ≤ 255 := iand_le x 255 (by decide)
theorem tmod_rng {x n : Int} (h : 0 ≤ x) (hn : 0 < n) : 0 ≤ x.tmod n ∧ x.tmod n < n := ⟨Int.tmod_nonneg _ h, Int.tmod_lt_of_pos _ hn⟩
def letS : List (List UInt8) := [[97], [97, 45], [98], [98, 45], [99], [99, 45], [48], [49], [50]]
def fmtL (n : Int) : List UInt8 := if 0 ≤ n ∧ n ≤ 8 then letS.getD n.toNat [] else []
theorem fmtL_y {n : Int} {y : List UInt8} (h : 0 ≤ n ∧ n ≤ 8) (hy : letS[n.toNat]? = some y) : y = fmtL n := by unfold fmtL; rw [if_pos h, getD_of hy]
theorem fmtL_n {n : Int} (h : ¬ (0 ≤ n ∧ n ≤ 8)) : [] = fmtL n := by unfold fmtL; rw [if_neg h]
def ltrI (s : List UInt8) (k : Nat) : Option Nat := (List.range k).find? fun i => decide (letS.getD i [] = s)
def plR (s : List UInt8) : Int × Bool := match ltrI s 9 with | some i => ((i : Int), true) | none => (0, false)
theorem ltrI_zero {s : List UInt8} : ltrI s 0 = none := rfl
theorem ltrI_n {s : List UInt8} {k : Nat} (h : ltrI s k = none) (hk : k < 9) (hn : ¬ fmtL k = s) : ltrI s (k + 1) = none := by
  unfold ltrI at *
  rw [List.range_succ, List.find?_append, h]
  unfold fmtL at hn
  rw [if_pos (by omega), Int.toNat_natCast, List.getD_eq_getElem?_getD] at hn
  simp [hn]
theorem find_more {p : Nat → Bool} {k i : Nat} (h : (List.range k).find? p = none) (hp : p k = true) (hi : k < i) : (List.range i).find? p = some k := by
  have e : List.range i = List.range k ++ (k :: (List.range' (k + 1) (i - (k + 1)))) := by
    rw [List.range_eq_range', List.range_eq_range', show k :: List.range' (k + 1) (i - (k + 1)) = List.range' k (i - k) from by
      rw [show i - k = (i - (k + 1)) + 1 by omega, List.range'_succ]]
    have := List.range'_append (s := 0) (m := k) (n := i - k) (step := 1)
    rw [Nat.one_mul, Nat.zero_add, show k + (i - k) = i by omega] at this
    exact this.symm
  rw [e, List.find?_append, h, List.find?_cons]
  simp [hp]
theorem plR_y {s : List UInt8} {k : Nat} (h : ltrI s k = none) (hk : k < 9) (hy : fmtL k = s) : ((k : Int), true) = plR s := by
  unfold fmtL at hy
  rw [if_pos (by omega), Int.toNat_natCast, List.getD_eq_getElem?_getD] at hy
  have : ltrI s 9 = some k := find_more h (by simp [hy]) hk
  unfold plR; rw [this]
theorem plR_n {s : List UInt8} {k : Nat} (h : ltrI s k = none) (hk : ¬ (k : Int) < 9) (hk2 : k ≤ 9) : ((0 : Int), false) = plR s := by
  obtain rfl : k = 9 := by omega
  unfold plR; rw [h]
def cutR : List UInt8 → Int → List UInt8 → List (List UInt8)
  | [], _, cur => [cur]
  | c :: s, sep, cur => if (c.toNat : Int) = sep then cur :: cutR s sep [] else cutR s sep (cur ++ [c])
theorem cutR_len : ∀ (s : List UInt8) (sep : Int) (cur : List UInt8), (cutR s sep cur).length ≤ s.length + 1
  | [], _, _ => by simp [cutR]
  | c :: s, sep, cur => by
    unfold cutR; split
    · have := cutR_len s sep []; simp; omega
    · have := cutR_len s sep (cur ++ [c]); simp; omega
theorem bat_get {s : List UInt8} {i : Nat} (h : i < s.length) : ∃ c, s[i]? = some c ∧ bat s i = (c.toNat : Int) := ⟨s[i], List.getElem?_eq_getElem h, by unfold bat; rw [List.getD_eq_getElem?_getD, List.getElem?_eq_getElem h]; rfl⟩
theorem cut_hit {s : List UInt8} {sep : Int} {i f : Nat} {out : List (List UInt8)} (h : out ++ cutR (s.drop i) sep ((s.drop f).take (i - f)) = cutR s sep []) (hi : i < s.length) (hc : bat s i = sep) :
    (out ++ [(s.drop f).take (i - f)]) ++ cutR (s.drop (i + 1)) sep ((s.drop (i + 1)).take (i + 1 - (i + 1))) = cutR s sep [] := by
  obtain ⟨c, h1, h2⟩ := bat_get hi
  rw [← h, drop_of h1]
  show _ = out ++ (if (c.toNat : Int) = sep then _ else _)
  rw [if_pos (by omega)]
  simp
theorem cut_miss {s : List UInt8} {sep : Int} {i f : Nat} {out : List (List UInt8)} (h : out ++ cutR (s.drop i) sep ((s.drop f).take (i - f)) = cutR s sep []) (hi : i < s.length) (hf : f ≤ i) (hc : ¬ bat s i = sep) :
    out ++ cutR (s.drop (i + 1)) sep ((s.drop f).take (i + 1 - f)) = cutR s sep [] := by
  obtain ⟨c, h1, h2⟩ := bat_get hi
  rw [← h, drop_of h1]
  show _ = out ++ (if (c.toNat : Int) = sep then _ else _)
  rw [if_neg (by omega), show i + 1 - f = (i - f) + 1 by omega]
  congr 2
  rw [take_snoc (xs := s.drop f) (by rw [List.getElem?_drop, show f + (i - f) = i by omega]; exact h1)]
theorem cut_end {s : List UInt8} {sep : Int} {i f : Nat} {out : List (List UInt8)} (h : out ++ cutR (s.drop i) sep ((s.drop f).take (i - f)) = cutR s sep []) (hi : s.length ≤ i) : out ++ [s.drop f] = cutR s sep [] := by
  rw [← h, List.drop_of_length_le hi, cutR, List.take_of_length_le (by rw [List.length_drop]; omega)]
theorem cut_zero {s : List UInt8} {sep : Int} : ([] : List (List UInt8)) ++ cutR (s.drop 0) sep ((s.drop 0).take (0 - 0)) = cutR s sep [] := by simp
theorem w8_in {x : Int} (h : 0 ≤ x ∧ x ≤ 255) : w8 x = x := by
  unfold w8 IntKind.wrap
  simp [IntKind.signed, IntKind.bits]
  omega
def dgF : Nat → Nat → List UInt8
  | 0, _ => []
  | f + 1, n => if n = 0 then [] else dgF f (n / 10) ++ [UInt8.ofNat (48 + n % 10)]
theorem dgF_fuel : ∀ (f g n : Nat), n < 10 ^ f → n < 10 ^ g → dgF f n = dgF g n
  | 0, 0, _, _, _ => rfl
  | 0, g + 1, n, h, _ => by
    have : n = 0 := by simpa using h
    subst this; simp [dgF]
  | f + 1, 0, n, _, h => by
    have : n = 0 := by simpa using h
    subst this; simp [dgF]
  | f + 1, g + 1, n, h, k => by
    unfold dgF
    split
    · rfl
    · rw [dgF_fuel f g (n / 10) (by rw [Nat.pow_succ] at h; omega) (by rw [Nat.pow_succ] at k; omega)]
theorem dgF_len : ∀ f n, (dgF f n).length ≤ f
  | 0, _ => by simp [dgF]
  | f + 1, n => by
    unfold dgF; split
    · simp
    · have := dgF_len f (n / 10); simp; omega
def fmtI (n : Int) : List UInt8 := if n = 0 then [48] else if n < 0 then 45 :: dgF 20 n.natAbs else dgF 20 n.natAbs
theorem fmtI_len (n : Int) : (fmtI n).length ≤ 21 := by
  have := dgF_len 20 n.natAbs
  unfold fmtI; split
  · simp
  · split
    · simp; omega
    · omega
theorem dg_step {m : Int} {d : Int} {out : List UInt8} {n : Int} (h : dgF 20 m.natAbs ++ out = dgF 20 n.natAbs) (hm : ¬ m = 0) (hb : -9223372036854775808 ≤ m ∧ m ≤ 9223372036854775807) (hd : d = m.tmod 10 ∨ d = -(m.tmod 10)) (h0 : 0 ≤ d) :
    dgF 20 (m.tdiv 10).natAbs ++ (u8s [w8 (48 + d)] ++ out) = dgF 20 n.natAbs := by
  have e1 : (m.tdiv 10).natAbs = m.natAbs / 10 := Int.natAbs_tdiv m 10
  have e2 : (m.tmod 10).natAbs = m.natAbs % 10 := Int.natAbs_tmod m 10
  have hd2 : d.toNat = m.natAbs % 10 := by rcases hd with e | e <;> omega
  have hd3 : d ≤ 9 := by omega
  rw [← h, e1]
  have e3 : dgF 20 m.natAbs = dgF 19 (m.natAbs / 10) ++ [UInt8.ofNat (48 + m.natAbs % 10)] := by
    rw [dgF, if_neg (by omega)]
  rw [e3, dgF_fuel 19 20 (m.natAbs / 10) (by omega) (by omega), List.append_assoc]
  congr 1
  show [UInt8.ofNat (w8 (48 + d)).toNat] ++ out = _
  rw [w8_in (by omega), show (48 + d).toNat = 48 + m.natAbs % 10 by omega]
theorem dg_end {out : List UInt8} {n : Int} {m : Int} (h : dgF 20 m.natAbs ++ out = dgF 20 n.natAbs) (hm : m = 0) : out = dgF 20 n.natAbs := by
  subst hm; simpa [dgF] using h
theorem fmtI_0 {n : Int} (h : n = 0) : [48] = fmtI n := by unfold fmtI; rw [if_pos h]
theorem fmtI_neg {n : Int} {out : List UInt8} (h : n < 0) (ho : out = dgF 20 n.natAbs) : [45] ++ out = fmtI n := by unfold fmtI; rw [if_neg (by omega), if_pos h, ho]; rfl
theorem fmtI_pos {n : Int} {out : List UInt8} (h : ¬ n < 0) (h0 : ¬ n = 0) (ho : out = dgF 20 n.natAbs) : out = fmtI n := by unfold fmtI; rw [if_neg h0, if_neg h, ho]
def tokS (t : Token) : List UInt8 :=
  if t.kind = 1 then [33] else if t.kind = 2 then [40, 41] else if t.kind = 3 then fmtL t.letter else if t.kind = 4 then [46] else if t.kind = 5 then [124] else if t.kind = 6 then [42]
  else (((([123] : List UInt8) ++ fmtI t.low) ++ [44]) ++ fmtI t.high) ++ [125]
def rdK (s : List UInt8) (k : Nat) : Option Nat := (List.range k).find? fun i => decide (1 ≤ i ∧ i ≠ 3 ∧ tokS ⟨(i : Int), 0, 0, 0⟩ = s)
theorem rdK_zero {s : List UInt8} : rdK s 1 = none := by simp [rdK, List.range_succ]
theorem rdK_n {s : List UInt8} {k : Nat} (h : rdK s k = none) (hn : k = 3 ∨ ¬ tokS ⟨(k : Int), 0, 0, 0⟩ = s) : rdK s (k + 1) = none := by
  unfold rdK at *
  rw [List.range_succ, List.find?_append, h]
  rcases hn with hn | hn <;> simp [hn]
def rdT (s : List UInt8) : Token := match rdK s 7 with
  | some i => ⟨(i : Int), 0, 0, 0⟩
  | none => if (plR s).2 = true then ⟨3, (plR s).1, 0, 0⟩ else if s.length = 5 ∧ bat s 0 = 123 ∧ bat s 2 = 44 ∧ bat s 4 = 125 then ⟨7, 0, bat s 1 - 48, bat s 3 - 48⟩ else ⟨0, 0, 0, 0⟩
theorem rdT_k {s : List UInt8} {k : Nat} (h : rdK s k = none) (h1 : 1 ≤ k) (h3 : ¬ k = 3) (h6 : k ≤ 6) (hy : tokS ⟨(k : Int), 0, 0, 0⟩ = s) : ⟨(k : Int), 0, 0, 0⟩ = rdT s := by
  have : rdK s 7 = some k := find_more h (by simp [hy, h1, h3]) (by omega)
  unfold rdT; rw [this]
theorem rdK_end {s : List UInt8} {k : Nat} (h : rdK s k = none) (h6 : ¬ (k : Int) ≤ 6) (h7 : k ≤ 7) : rdK s 7 = none := by
  obtain rfl : k = 7 := by omega
  exact h
theorem rdT_l {s : List UInt8} (h : rdK s 7 = none) (hp : (plR s).2 = true) : ⟨3, (plR s).1, 0, 0⟩ = rdT s := by unfold rdT; rw [h]; simp [hp]
theorem rdT_r {s : List UInt8} (h : rdK s 7 = none) (hp : (plR s).2 = false) (hc : s.length = 5 ∧ bat s 0 = 123 ∧ bat s 2 = 44 ∧ bat s 4 = 125) : ⟨7, 0, bat s 1 - 48, bat s 3 - 48⟩ = rdT s := by unfold rdT; rw [h]; simp [hp, hc]
theorem rdT_0 {s : List UInt8} (h : rdK s 7 = none) (hp : (plR s).2 = false) (hc : ¬ (s.length = 5 ∧ bat s 0 = 123 ∧ bat s 2 = 44 ∧ bat s 4 = 125)) : ⟨0, 0, 0, 0⟩ = rdT s := by unfold rdT; rw [h]; simp only [hp]; rw [if_neg (by simp), if_neg hc]
def parS (s : List UInt8) : List Token × Bool := if ivE (((cutR s 32 []).take 25).map rdT) = true then (((cutR s 32 []).take 25).map rdT, true) else ([], false)
theorem take_stop {α : Type} {l : List α} {i : Nat} (h : l.length ≤ i ∨ 25 ≤ i) (h2 : i ≤ 25) : l.take i = l.take 25 := by
  rcases h with h | h
  · rw [List.take_of_length_le h, List.take_of_length_le (by omega)]
  · rw [show i = 25 by omega]
theorem parS_y {s : List UInt8} {ts : List Token} (ht : ts = ((cutR s 32 []).take 25).map rdT) (h : ivE ts = true) : parS s = (ts, true) := by unfold parS; rw [← ht, if_pos h]
theorem parS_n {s : List UInt8} {ts : List Token} (ht : ts = ((cutR s 32 []).take 25).map rdT) (h : ivE ts = false) : parS s = ([], false) := by unfold parS; rw [← ht, if_neg (by rw [h]; simp)]
theorem map_take_step {α β : Type} {f : α → β} {l : List α} {i : Nat} {y : α} (h : l[i]? = some y) : (l.take i).map f ++ [f y] = (l.take (i + 1)).map f := by rw [take_snoc h, List.map_append]; rfl
def knownS : List (List UInt8) := [[97], [97, 32, 98, 32, 46], [97, 32, 42], [97, 32, 98, 32, 124, 32, 42], [97, 32, 97, 45, 32, 46], [97, 32, 42, 32, 98, 32, 46], [97, 32, 98, 32, 42, 32, 46, 32, 99, 32, 46], [97, 32, 97, 32, 124, 32, 42], [97, 32, 98, 32, 46, 32, 42], [48, 32, 97, 32, 46, 32, 42], [97, 32, 49, 32, 46, 32, 98, 32, 46], [97, 32, 123, 48, 44, 50, 125], [97, 32, 98, 32, 124, 32, 123, 49, 44, 51, 125], [40, 41], [33], [97, 45, 32, 42, 32, 97, 32, 46], [97, 32, 98, 45, 32, 46, 32, 42, 32, 99, 32, 124], [97, 32, 42, 32, 97, 32, 42, 32, 46], [97, 32, 48, 32, 124, 32, 42, 32, 98, 32, 46], [97, 32, 97, 32, 46, 32, 42], [97, 32, 98, 32, 46, 32, 98, 32, 97, 32, 46, 32, 124, 32, 42]]
theorem known_ok : ∀ x ∈ knownS, 1 ≤ (parS x).1.length ∧ (parS x).1.length ≤ 24 := by decide +kernel
end Go.KLib

namespace Go.KLib
section
variable {P : Program} {w : World} {l : KL} {dst : Option Tmp} {ty : TypeId} {pos : String} {aft : Array Go.Edge} {gd : Option (Nat × Bool)} {x y : Operand} {xt yt : TypeId} {a b : Int} {k : IntKind}
theorem r_neg {t : TypeId} (h : -9223372036854775808 ≤ -a ∧ -a ≤ 9223372036854775807) (hx : ev l x = some (.int .i64 a)) : Runs P l ⟨dst, .unOp .neg t x, ty, pos, aft, gd⟩ w (.int .i64 (-a)) w := fun ρ hρ => by
  have e : IntKind.i64.wrap (-a) = -a := IntWalk.i64_in _ h
  simp [execOp, hρ _ _ hx, Op.unary, Op.intArith, e]
theorem r_quo (hb : ¬ b = 0) (h : -9223372036854775808 ≤ a.tdiv b ∧ a.tdiv b ≤ 9223372036854775807) (hx : ev l x = some (.int .i64 a)) (hy : ev l y = some (.int .i64 b)) :
    Runs P l ⟨dst, .binOp .quo xt x y yt, ty, pos, aft, gd⟩ w (.int .i64 (a.tdiv b)) w := fun ρ hρ => by
  have e := IntWalk.i64_in _ h
  simp [execOp, hρ _ _ hx, hρ _ _ hy, eqGuard, binOp, Op.intDiv, hb, e]
end
theorem td10 {m : Int} (h : -9223372036854775808 ≤ m ∧ m ≤ 9223372036854775807) : -9223372036854775808 ≤ m.tdiv 10 ∧ m.tdiv 10 ≤ 9223372036854775807 := by
  have e1 : (m.tdiv 10).natAbs = m.natAbs / 10 := Int.natAbs_tdiv m 10
  omega
theorem td_lt {m : Int} (h : ¬ m = 0) : (m.tdiv 10).natAbs < m.natAbs := by
  have e1 : (m.tdiv 10).natAbs = m.natAbs / 10 := Int.natAbs_tdiv m 10
  omega
theorem tm10 (m : Int) : -9 ≤ m.tmod 10 ∧ m.tmod 10 ≤ 9 := by
  have e2 : (m.tmod 10).natAbs = m.natAbs % 10 := Int.natAbs_tmod m 10
  omega
theorem known_len : ∀ x ∈ knownS, x.length ≤ 20 := by decide
theorem mk_leaf {t : Token} {d : Int} (h : d = 0) : 1 ≤ [t].length ∧ [t].length + 1 ≤ 2 ^ (d.toNat + 1) := by subst h; simp
theorem mk_pow {d d1 : Int} (hd : d1 = d - 1) (h0 : 0 ≤ d1) : 2 ^ (d.toNat + 1) = 2 * 2 ^ (d1.toNat + 1) := by
  rw [show d.toNat + 1 = (d1.toNat + 1) + 1 by omega, Nat.pow_succ, Nat.mul_comm]
theorem mk_two {a b : List Token} {t : Token} {d d1 : Int} (ha : 1 ≤ a.length ∧ a.length + 1 ≤ 2 ^ (d1.toNat + 1)) (hb : 1 ≤ b.length ∧ b.length + 1 ≤ 2 ^ (d1.toNat + 1)) (hd : d1 = d - 1) (h0 : 0 ≤ d1) : 1 ≤ (a ++ b ++ [t]).length ∧ (a ++ b ++ [t]).length + 1 ≤ 2 ^ (d.toNat + 1) := by
  rw [mk_pow hd h0]; simp only [List.length_append, List.length_singleton]; omega
theorem mk_one {a : List Token} {t : Token} {d d1 : Int} (ha : 1 ≤ a.length ∧ a.length + 1 ≤ 2 ^ (d1.toNat + 1)) (hd : d1 = d - 1) (h0 : 0 ≤ d1) : 1 ≤ (a ++ [] ++ [t]).length ∧ (a ++ [] ++ [t]).length + 1 ≤ 2 ^ (d.toNat + 1) := by
  rw [mk_pow hd h0]; simp only [List.length_append, List.length_singleton, List.length_nil]; omega
theorem mk_le {n : Nat} {d : Int} (h : 1 ≤ n ∧ n + 1 ≤ 2 ^ (d.toNat + 1)) (h0 : d ≤ 3) : 1 ≤ n ∧ n ≤ 15 := by
  have : 2 ^ (d.toNat + 1) ≤ 2 ^ 4 := Nat.pow_le_pow_right (by decide) (by omega)
  omega
end Go.KLib

namespace Go.KLib
open Go.ChangeShapes Go.WideShapes Go.ChangeAt Go.RowKit Go.Deep Go.Joins
section
variable {H : Type} {enc : TypeId × Value → H} {P : Program} {w : World} {base : Nat} {spare : Nat → Bool} {held : Bool}
theorem open_U {t : TypeId} {fuel : Nat} {cs : List Value} {x : DataW H × List MemPlace} (ht : P.underlying t = some (.int .u8)) (h : DataW.trod enc P w base spare held fuel t cs = some x) : ∃ n : Int, cs = ucs n := by
  obtain ⟨n, hn, _⟩ := DataW.trod_int ht h
  exact ⟨n, hn⟩
end
end Go.KLib

namespace Go.KLib
def Pw (L : List Int → Prop) : Nat → List Int → Prop
  | 0, w => w = []
  | k + 1, w => ∃ u v, w = u ++ v ∧ Pw L k u ∧ L v
def Lg : Tr → List Int → Prop
  | .l0 t => fun w => if t.kind = 2 then w = [] else if t.kind = 3 then w = [t.letter] else False
  | .l1 t x => fun w => if t.kind = 6 then ∃ k, Pw (Lg x) k w else if t.kind = 7 then ∃ k : Nat, t.low ≤ (k : Int) ∧ (k : Int) ≤ t.high ∧ Pw (Lg x) k w else False
  | .l2 t x y => fun w => if t.kind = 4 then ∃ u v, w = u ++ v ∧ Lg x u ∧ Lg y v else if t.kind = 5 then Lg x w ∨ Lg y w else False
theorem Lg6 {t : Token} {x : Tr} {w : List Int} (h : t.kind = 6) : Lg (.l1 t x) w ↔ ∃ k, Pw (Lg x) k w := by simp only [Lg, if_pos h]
theorem Lg7 {t : Token} {x : Tr} {w : List Int} (h : t.kind = 7) : Lg (.l1 t x) w ↔ ∃ k : Nat, t.low ≤ (k : Int) ∧ (k : Int) ≤ t.high ∧ Pw (Lg x) k w := by simp only [Lg, if_neg (show ¬ t.kind = 6 by omega), if_pos h]
theorem Lg4 {t : Token} {x y : Tr} {w : List Int} (h : t.kind = 4) : Lg (.l2 t x y) w ↔ ∃ u v, w = u ++ v ∧ Lg x u ∧ Lg y v := by simp only [Lg, if_pos h]
theorem Lg5 {t : Token} {x y : Tr} {w : List Int} (h : t.kind = 5) : Lg (.l2 t x y) w ↔ Lg x w ∨ Lg y w := by simp only [Lg, if_neg (show ¬ t.kind = 4 by omega), if_pos h]
def seg (w : List Int) (i j : Nat) : List Int := (w.drop i).take (j - i)
section
variable {w : List Int} {i j k n : Nat} {A B : Nat → Nat → Bool} {L M : List Int → Prop}
theorem seg_nil (hi : i ≤ j) (hj : j ≤ w.length) : seg w i j = [] ↔ i = j := by
  unfold seg
  rw [← List.length_eq_zero_iff, List.length_take, List.length_drop]; omega
theorem seg_len (hi : i ≤ j) (hj : j ≤ w.length) : (seg w i j).length = j - i := by
  unfold seg; rw [List.length_take, List.length_drop]; omega
theorem seg_app (h1 : i ≤ k) (h2 : k ≤ j) : seg w i j = seg w i k ++ seg w k j := by
  unfold seg
  have e : j - i = (k - i) + (j - k) := by omega
  rw [e, List.take_add, List.drop_drop, show i + (k - i) = k by omega]
theorem seg_split {u v : List Int} (hi : i ≤ j) (hj : j ≤ w.length) (h : seg w i j = u ++ v) : seg w i (i + u.length) = u ∧ seg w (i + u.length) j = v ∧ i + u.length ≤ j := by
  have hl := congrArg List.length h
  rw [seg_len hi hj, List.length_append] at hl
  have h2 := seg_app (w := w) (i := i) (k := i + u.length) (j := j) (by omega) (by omega)
  have h3 : (seg w i (i + u.length)).length = u.length := by rw [seg_len (by omega) (by omega)]; omega
  rw [h] at h2
  obtain ⟨a, b⟩ := List.append_inj h2 (by rw [h3])
  exact ⟨a.symm, b.symm, by omega⟩
theorem seg_all : seg w 0 w.length = w := by simp [seg]
theorem seg_one {c : Int} (hi : i ≤ j) (hj : j ≤ w.length) : seg w i j = [c] ↔ j = i + 1 ∧ w[i]? = some c := by
  constructor
  · intro h
    have hl := congrArg List.length h
    rw [seg_len hi hj] at hl
    simp only [List.length_singleton] at hl
    refine ⟨by omega, ?_⟩
    have h2 : (seg w i j)[0]? = some c := by rw [h]; rfl
    unfold seg at h2
    rw [List.getElem?_take, if_pos (by omega), List.getElem?_drop] at h2
    exact h2
  · rintro ⟨rfl, h⟩
    unfold seg
    rw [show i + 1 - i = 1 by omega, List.drop_eq_getElem?_toList_append]
    rw [h]; rfl
theorem id_lg (hi : i ≤ j) (hj : j ≤ w.length) : idM true i j = true ↔ seg w i j = [] := by
  rw [seg_nil hi hj]; simp [idM]
theorem mul_lg (hn : n = w.length + 1) (ta : Tri A) (tb : Tri B) (hA : ∀ i j, i ≤ j → j ≤ w.length → (A i j = true ↔ L (seg w i j))) (hB : ∀ i j, i ≤ j → j ≤ w.length → (B i j = true ↔ M (seg w i j))) (hi : i ≤ j) (hj : j ≤ w.length) :
    mulM n A B i j = true ↔ ∃ u v, seg w i j = u ++ v ∧ L u ∧ M v := by
  rw [mul_iff]
  constructor
  · rintro ⟨k, hk, h1, h2⟩
    have e1 : i ≤ k := Nat.le_of_not_lt fun h => by rw [ta i k h] at h1; cases h1
    have e2 : k ≤ j := Nat.le_of_not_lt fun h => by rw [tb k j h] at h2; cases h2
    exact ⟨_, _, seg_app e1 e2, (hA i k e1 (by omega)).1 h1, (hB k j e2 hj).1 h2⟩
  · rintro ⟨u, v, h, h1, h2⟩
    obtain ⟨a, b, c⟩ := seg_split hi hj h
    exact ⟨i + u.length, by omega, (hA _ _ (by omega) (by omega)).2 (by rw [a]; exact h1), (hB _ _ c hj).2 (by rw [b]; exact h2)⟩
theorem pow_lg (hn : n = w.length + 1) (ta : Tri A) (hA : ∀ i j, i ≤ j → j ≤ w.length → (A i j = true ↔ L (seg w i j))) : ∀ (k i j : Nat), i ≤ j → j ≤ w.length → (powM n A k i j = true ↔ Pw L k (seg w i j))
  | 0, i, j, hi, hj => id_lg hi hj
  | k + 1, i, j, hi, hj => by
    rw [powM, mul_lg hn (pow_tri ta k) ta (pow_lg hn ta hA k) hA hi hj]; rfl
theorem pow_down (ta : Tri A) (hj : j < n) : ∀ k, powM n A k i j = true → ∃ m, m < n ∧ powM n A m i j = true
  | 0, h => ⟨0, by omega, h⟩
  | k + 1, h => by
    by_cases hk : k + 1 < n
    · exact ⟨k + 1, hk, h⟩
    · exact pow_down ta hj k (pow_less ta k i j h (by omega))
theorem rep_iff {low : Int} : repM n A low k i j = true ↔ ∃ m : Nat, m < k ∧ low ≤ (m : Int) ∧ powM n A m i j = true := by
  unfold repM
  rw [List.any_eq_true]
  exact ⟨fun ⟨m, hm, h⟩ => ⟨m, List.mem_range.1 hm, by simpa using h⟩, fun ⟨m, hm, h⟩ => ⟨m, List.mem_range.2 hm, by simpa using h⟩⟩
end
theorem idF (i j : Nat) : idM false i j = false := by simp [idM]
theorem mt_lg {w : List Int} : ∀ (t : Tr) (i j : Nat), i ≤ j → j ≤ w.length → (mtT w t i j = true ↔ Lg t (seg w i j))
  | .l0 t, i, j, hi, hj => by
    unfold mtT Lg
    by_cases h2 : t.kind = 2
    · rw [if_pos h2, if_pos h2]; exact id_lg hi hj
    · by_cases h3 : t.kind = 3
      · rw [if_neg h2, if_pos h3, if_neg h2, if_pos h3, seg_one hi hj]; simp [ltM]
      · rw [if_neg h2, if_neg h3, if_neg h2, if_neg h3, idF]; simp
  | .l1 t x, i, j, hi, hj => by
    have ih := mt_lg (w := w) x
    have tx := mt_tri w x
    unfold mtT Lg
    by_cases h6 : t.kind = 6
    · rw [if_pos h6, if_pos h6, rep_iff]
      constructor
      · rintro ⟨m, _, _, h⟩; exact ⟨m, (pow_lg rfl tx ih m i j hi hj).1 h⟩
      · rintro ⟨m, h⟩
        obtain ⟨q, hq, h⟩ := pow_down (i := i) (n := w.length + 1) tx (by omega) m ((pow_lg rfl tx ih m i j hi hj).2 h)
        exact ⟨q, hq, by omega, h⟩
    · by_cases h7 : t.kind = 7
      · rw [if_neg h6, if_pos h7, if_neg h6, if_pos h7, rep_iff]
        constructor
        · rintro ⟨m, h1, h2, h⟩; exact ⟨m, h2, by omega, (pow_lg rfl tx ih m i j hi hj).1 h⟩
        · rintro ⟨m, h1, h2, h⟩; exact ⟨m, by omega, h1, (pow_lg rfl tx ih m i j hi hj).2 h⟩
      · rw [if_neg h6, if_neg h7, if_neg h6, if_neg h7, idF]; simp
  | .l2 t x y, i, j, hi, hj => by
    have ih := mt_lg (w := w) x
    have ih2 := mt_lg (w := w) y
    unfold mtT Lg
    by_cases h4 : t.kind = 4
    · rw [if_pos h4, if_pos h4]; exact mul_lg rfl (mt_tri w x) (mt_tri w y) ih ih2 hi hj
    · by_cases h5 : t.kind = 5
      · rw [if_neg h4, if_pos h5, if_neg h4, if_pos h5]
        show (mtT w x i j || mtT w y i j) = true ↔ _
        rw [Bool.or_eq_true, ih i j hi hj, ih2 i j hi hj]
      · rw [if_neg h4, if_neg h5, if_neg h4, if_neg h5, idF]; simp
theorem mt_w {w : List Int} {t : Tr} : mtT w t 0 w.length = true ↔ Lg t w := by
  rw [mt_lg t 0 w.length (Nat.zero_le _) (Nat.le_refl _), seg_all]
section
variable {L M : List Int → Prop} {w u v : List Int} {k m : Nat}
theorem Pw.app (h : Pw L k u) : ∀ {m : Nat} {v : List Int}, Pw L m v → Pw L (k + m) (u ++ v)
  | 0, v, h2 => by rw [show v = [] from h2, List.append_nil]; exact h
  | m + 1, v, ⟨a, b, e, h2, h3⟩ => ⟨u ++ a, b, by rw [e, List.append_assoc], h.app h2, h3⟩
theorem Pw.one : Pw L 1 w ↔ L w := ⟨fun ⟨a, b, e, h, k⟩ => by rw [e, show a = [] from h]; exact k, fun h => ⟨[], w, rfl, rfl, h⟩⟩
theorem Pw.cons (h : L u) (k1 : Pw L k v) : Pw L (k + 1) (u ++ v) := by
  have := (Pw.one.2 h).app k1
  rwa [Nat.add_comm 1 k] at this
theorem Pw.nil (h : L []) : ∀ k, Pw L k []
  | 0 => rfl
  | k + 1 => ⟨[], [], rfl, Pw.nil h k, h⟩
theorem Pw.pad (h : L []) (h1 : Pw L k w) (hm : k ≤ m) : Pw L m w := by
  have := h1.app (Pw.nil h (m - k))
  rwa [List.append_nil, Nat.add_sub_cancel' hm] at this
theorem Pw.uncons : ∀ {k : Nat} {w : List Int}, Pw L (k + 1) w → ∃ u v, w = u ++ v ∧ L u ∧ Pw L k v
  | 0, w, h => ⟨w, [], by simp, Pw.one.1 h, rfl⟩
  | k + 1, w, ⟨a, b, e, h, h2⟩ => by
    obtain ⟨u, v, e2, h3, h4⟩ := Pw.uncons h
    exact ⟨u, v ++ b, by rw [e, e2, List.append_assoc], h3, v, b, rfl, h4, h2⟩
theorem Pw.mono (h : ∀ w, L w → M w) : ∀ {k : Nat} {w : List Int}, Pw L k w → Pw M k w
  | 0, _, h1 => h1
  | _ + 1, _, ⟨a, b, e, h1, h2⟩ => ⟨a, b, e, h1.mono h, h b h2⟩
theorem Pw.first {x : Int} : ∀ {k : Nat} {w : List Int}, Pw L k (x :: w) → ∃ u v m, w = u ++ v ∧ L (x :: u) ∧ Pw L m v ∧ m + 1 ≤ k ∧ (m + 1 = k ∨ L [])
  | 0, w, h => by cases h
  | k + 1, w, h => by
    obtain ⟨u, v, e, h1, h2⟩ := Pw.uncons h
    cases u with
    | nil =>
      simp only [List.nil_append] at e; subst e
      obtain ⟨u, v, m, e, a, b, c, _⟩ := Pw.first h2
      exact ⟨u, v, m, e, a, b, by omega, .inr h1⟩
    | cons y u =>
      simp only [List.cons_append, List.cons.injEq] at e
      obtain ⟨rfl, e⟩ := e
      exact ⟨u, v, k, e, h1, h2, Nat.le_refl _, .inl rfl⟩
end
def Ex (e : List Token) (L : List Int → Prop) : Prop := ∃ t, Okd t ∧ e = t.flat ∧ ∀ w, Lg t w ↔ L w
section
variable {a b : List Token} {L M N : List Int → Prop}
theorem Ex.iff (h : Ex a L) (k : ∀ w, L w ↔ M w) : Ex a M := let ⟨t, h1, h2, h3⟩ := h; ⟨t, h1, h2, fun w => (h3 w).trans (k w)⟩
theorem Ex.of {t : Tr} (h : Okd t) : Ex t.flat (Lg t) := ⟨t, h, rfl, fun _ => Iff.rfl⟩
theorem Ex.isE (h : Ex a L) : isE a = true := by
  obtain ⟨t, h1, h2, _⟩ := h
  unfold Go.KLib.isE; rw [h2, treeL_flat h1]; rfl
theorem Ex.single {t : Token} (h : Ex a L) (hl : a = [t]) : arT t = 0 ∧ ∀ w, L w ↔ Lg (.l0 t) w := by
  obtain ⟨x, h1, h2, h3⟩ := h
  rw [hl] at h2
  cases x with
  | l0 y =>
    simp only [Tr.flat, List.cons.injEq, and_true] at h2
    subst h2
    exact ⟨h1, fun w => (h3 w).symm⟩
  | l1 y q =>
    have := congrArg List.length h2
    rw [Tr.flat_len] at this
    have := q.sz_pos
    simp [Tr.sz] at *; omega
  | l2 y q r =>
    have := congrArg List.length h2
    rw [Tr.flat_len] at this
    have := q.sz_pos
    have := r.sz_pos
    simp [Tr.sz] at *; omega
theorem ex1 : Ex [⟨1, 0, 0, 0⟩] (fun _ => False) := ⟨.l0 ⟨1, 0, 0, 0⟩, by simp [Okd, arT], rfl, fun w => by simp [Lg]⟩
theorem ex2 : Ex [⟨2, 0, 0, 0⟩] (fun w => w = []) := ⟨.l0 ⟨2, 0, 0, 0⟩, by simp [Okd, arT], rfl, fun w => by simp [Lg]⟩
theorem Ex.cat (h : Ex a L) (k : Ex b M) : Ex (a ++ b ++ [⟨4, 0, 0, 0⟩]) (fun w => ∃ u v, w = u ++ v ∧ L u ∧ M v) := by
  obtain ⟨t, h1, h2, h3⟩ := h
  obtain ⟨s, k1, k2, k3⟩ := k
  refine ⟨.l2 ⟨4, 0, 0, 0⟩ t s, ⟨by simp [arT], h1, k1⟩, by rw [h2, k2]; rfl, fun w => ?_⟩
  simp only [Lg, if_true]
  exact ⟨fun ⟨u, v, e, p, q⟩ => ⟨u, v, e, (h3 u).1 p, (k3 v).1 q⟩, fun ⟨u, v, e, p, q⟩ => ⟨u, v, e, (h3 u).2 p, (k3 v).2 q⟩⟩
theorem Ex.uni (h : Ex a L) (k : Ex b M) : Ex (a ++ b ++ [⟨5, 0, 0, 0⟩]) (fun w => L w ∨ M w) := by
  obtain ⟨t, h1, h2, h3⟩ := h
  obtain ⟨s, k1, k2, k3⟩ := k
  refine ⟨.l2 ⟨5, 0, 0, 0⟩ t s, ⟨by simp [arT], h1, k1⟩, by rw [h2, k2]; rfl, fun w => ?_⟩
  simp [Lg, h3, k3]
theorem isK_t {e : List Token} {k : Int} (h : isK e k = true) : ∃ y, e = [y] ∧ y.kind = k := by
  unfold isK at h
  simp only [decide_eq_true_eq] at h
  obtain ⟨h1, h2⟩ := h
  match e, h1 with
  | [y], _ => exact ⟨y, rfl, h2⟩
theorem Ex.k1 (h : Ex a L) (hk : isK a 1 = true) : ∀ w, ¬ L w := fun w hw => by
  obtain ⟨y, rfl, hy⟩ := isK_t hk
  have := (h.single rfl).2 w
  rw [this] at hw
  simp [Lg, hy] at hw
theorem Ex.k2 (h : Ex a L) (hk : isK a 2 = true) : ∀ w, L w ↔ w = [] := fun w => by
  obtain ⟨y, rfl, hy⟩ := isK_t hk
  rw [(h.single rfl).2 w]
  simp [Lg, hy]
theorem Ex.catE (h : Ex a L) (k : Ex b M) : Ex (catE a b) (fun w => ∃ u v, w = u ++ v ∧ L u ∧ M v) := by
  unfold Go.KLib.catE
  by_cases h1 : isK a 1 = true
  · rw [h1]; exact ex1.iff fun w => ⟨False.elim, fun ⟨u, v, _, p, _⟩ => h.k1 h1 u p⟩
  by_cases h2 : isK b 1 = true
  · rw [h2, Bool.or_true]; exact ex1.iff fun w => ⟨False.elim, fun ⟨u, v, _, _, p⟩ => k.k1 h2 v p⟩
  rw [if_neg (by simp [h1, h2])]
  by_cases h3 : isK a 2 = true
  · rw [if_pos h3]
    exact k.iff fun w => ⟨fun p => ⟨[], w, rfl, (h.k2 h3 _).2 rfl, p⟩, fun ⟨u, v, e, p, q⟩ => by rw [e, (h.k2 h3 u).1 p]; exact q⟩
  rw [if_neg h3]
  by_cases h4 : isK b 2 = true
  · rw [if_pos h4]
    exact h.iff fun w => ⟨fun p => ⟨w, [], by simp, p, (k.k2 h4 _).2 rfl⟩, fun ⟨u, v, e, p, q⟩ => by rw [e, (k.k2 h4 v).1 q, List.append_nil]; exact p⟩
  rw [if_neg h4]
  exact h.cat k
theorem Ex.uniq (h : Ex a L) (k : Ex a M) : ∀ w, L w ↔ M w := fun w => by
  obtain ⟨t, h1, h2, h3⟩ := h
  obtain ⟨s, k1, k2, k3⟩ := k
  have e : t = s := by
    have p := treeL_flat h1
    have q := treeL_flat k1
    rw [← h2] at p; rw [← k2, p] at q
    injection q
  subst e
  rw [← h3, k3]
theorem Ex.uniE (h : Ex a L) (k : Ex b M) : Ex (uniE a b) (fun w => L w ∨ M w) := by
  unfold Go.KLib.uniE
  by_cases h1 : isK a 1 = true
  · rw [h1]; exact k.iff fun w => ⟨.inr, fun p => p.elim (fun q => (h.k1 h1 w q).elim) id⟩
  by_cases h2 : a = b
  · subst h2
    rw [if_pos (by simp)]
    exact k.iff fun w => ⟨.inr, fun p => p.elim (fun q => (h.uniq k w).1 q) id⟩
  rw [if_neg (by simp [h1, h2])]
  by_cases h3 : isK b 1 = true
  · rw [if_pos h3]; exact h.iff fun w => ⟨.inl, fun p => p.elim id fun q => (k.k1 h3 w q).elim⟩
  rw [if_neg h3]
  exact h.uni k
theorem Ex.star (h : Ex a L) : Ex (a ++ [⟨6, 0, 0, 0⟩]) (fun w => ∃ k, Pw L k w) := by
  obtain ⟨t, h1, h2, h3⟩ := h
  refine ⟨.l1 ⟨6, 0, 0, 0⟩ t, ⟨by simp [arT], h1⟩, by rw [h2]; rfl, fun w => ?_⟩
  simp only [Lg, if_true]
  exact ⟨fun ⟨k, p⟩ => ⟨k, p.mono fun w => (h3 w).1⟩, fun ⟨k, p⟩ => ⟨k, p.mono fun w => (h3 w).2⟩⟩
theorem Ex.starE (h : Ex a L) : Ex (starE a) (fun w => ∃ k, Pw L k w) := by
  unfold Go.KLib.starE
  by_cases h1 : isK a 1 = true
  · rw [h1]
    refine ex2.iff fun w => ⟨fun e => ⟨0, e⟩, fun ⟨k, p⟩ => ?_⟩
    cases k with
    | zero => exact p
    | succ k => obtain ⟨u, v, _, _, q⟩ := p; exact (h.k1 h1 v q).elim
  by_cases h2 : isK a 2 = true
  · rw [h2, Bool.or_true]
    refine ex2.iff fun w => ⟨fun e => ⟨0, e⟩, fun ⟨k, p⟩ => ?_⟩
    have : ∀ (k : Nat) (w : List Int), Pw L k w → w = [] := fun k => by
      induction k with
      | zero => exact fun w p => p
      | succ k ih => rintro w ⟨u, v, e, p, q⟩; rw [e, ih u p, (h.k2 h2 v).1 q]; rfl
    exact this k w p
  rw [if_neg (by simp [h1, h2])]
  split
  · rename_i hs
    obtain ⟨t, o1, o2, o3⟩ := id h
    obtain ⟨x, c, rfl⟩ : ∃ x c, t = .l1 x c := by
      have hl : (a.getD (a.length - 1) ⟨0, 0, 0, 0⟩) = t.tok := by
        rw [o2]
        cases t <;> simp [Tr.flat, Tr.tok, List.getD_eq_getElem?_getD]
      have hk : t.tok.kind = 6 := by rw [← hl]; exact hs.2
      obtain ⟨x, c, e⟩ := o1.one (.inl hk)
      exact ⟨x, c, e⟩
    have hk : x.kind = 6 := by
      have hl : (a.getD (a.length - 1) ⟨0, 0, 0, 0⟩) = x := by rw [o2]; simp [Tr.flat, List.getD_eq_getElem?_getD]
      rw [← hl]; exact hs.2
    have hL : ∀ w, L w ↔ ∃ k, Pw (Lg c) k w := fun w => by rw [← o3]; simp only [Lg, if_pos hk]
    refine h.iff fun w => ⟨fun p => ⟨1, Pw.one.2 p⟩, fun ⟨k, p⟩ => ?_⟩
    have : ∀ (k : Nat) (w : List Int), Pw L k w → L w := fun k => by
      induction k with
      | zero => rintro w rfl; exact (hL _).2 ⟨0, rfl⟩
      | succ k ih =>
        rintro w ⟨u, v, e, p, q⟩
        obtain ⟨m1, p1⟩ := (hL u).1 (ih u p)
        obtain ⟨m2, p2⟩ := (hL v).1 q
        rw [e]; exact (hL _).2 ⟨m1 + m2, p1.app p2⟩
    exact this k w p
  · exact h.star
theorem Ex.repE {low high : Int} (h : Ex a L) (h1 : 0 ≤ low ∧ low ≤ high ∧ high ≤ 3) : Ex (repE a low high) (fun w => ∃ k : Nat, low ≤ (k : Int) ∧ (k : Int) ≤ high ∧ Pw L k w) := by
  unfold Go.KLib.repE
  split
  · rename_i e
    refine ex2.iff fun w => ⟨fun e => ⟨0, by omega, by omega, e⟩, fun ⟨k, _, h2, p⟩ => ?_⟩
    have : k = 0 := by omega
    subst this; exact p
  · split
    · rename_i e
      refine h.iff fun w => ⟨fun p => ⟨1, by omega, by omega, Pw.one.2 p⟩, fun ⟨k, _, h2, p⟩ => ?_⟩
      have : k = 1 := by omega
      subst this; exact Pw.one.1 p
    · rename_i e1 e2
      obtain ⟨t, o1, o2, o3⟩ := h
      refine ⟨.l1 ⟨7, 0, low, high⟩ t, ⟨?_, o1⟩, by rw [o2]; rfl, fun w => ?_⟩
      · unfold arT; simp; omega
      · simp only [Lg, show ¬ ((7 : Int) = 6) by omega, if_false, if_true]
        exact ⟨fun ⟨k, a, b, p⟩ => ⟨k, a, b, p.mono fun w => (o3 w).1⟩, fun ⟨k, a, b, p⟩ => ⟨k, a, b, p.mono fun w => (o3 w).2⟩⟩
end
theorem null_lg : ∀ t : Tr, Okd t → (nullT t = true ↔ Lg t [])
  | .l0 t, h => by
    unfold nullT Lg
    by_cases h2 : t.kind = 2
    · simp [h2]
    · by_cases h3 : t.kind = 3
      · simp [h3]
      · simp [h2, h3]
  | .l1 t a, h => by
    have ih := null_lg a h.2
    have h67 : t.kind = 6 ∨ t.kind = 7 := by
      have h1 : arT t = 1 := h.1
      rw [arT_ok (by omega)] at h1
      unfold arK at h1
      split at h1
      · cases h1
      · split at h1
        · assumption
        · cases h1
    unfold nullT Lg
    rcases h67 with h6 | h7
    · rw [if_pos h6]; simp only [h6, decide_true, Bool.true_or, true_iff]; exact ⟨0, rfl⟩
    · have h6 : ¬ t.kind = 6 := by omega
      have r7 := Okd.r7 h (show (Tr.l1 t a).tok.kind = 7 from h7)
      simp only [Tr.tok] at r7
      rw [if_neg h6, if_pos h7]
      simp only [h6, decide_false, Bool.false_or, Bool.or_eq_true, decide_eq_true_eq, ih]
      constructor
      · rintro (e | e)
        · exact ⟨0, by omega, by omega, rfl⟩
        · exact ⟨t.high.toNat, by omega, by omega, Pw.nil e _⟩
      · rintro ⟨k, a1, a2, p⟩
        cases k with
        | zero => left; omega
        | succ k =>
          right
          obtain ⟨u, v, e, _, q⟩ := p
          have := List.append_eq_nil_iff.1 e.symm
          rw [this.2] at q; exact q
  | .l2 t a b, h => by
    have ih := null_lg a h.2.1
    have ih2 := null_lg b h.2.2
    have h45 : t.kind = 4 ∨ t.kind = 5 := by
      have h1 : arT t = 2 := h.1
      rw [arT_ok (by omega)] at h1
      unfold arK at h1
      split at h1
      · assumption
      · split at h1
        · cases h1
        · cases h1
    unfold nullT Lg
    rcases h45 with h4 | h5
    · rw [if_pos h4, if_pos h4, Bool.and_eq_true, ih, ih2]
      constructor
      · rintro ⟨p, q⟩; exact ⟨[], [], rfl, p, q⟩
      · rintro ⟨u, v, e, p, q⟩
        have := List.append_eq_nil_iff.1 e.symm
        rw [this.1] at p; rw [this.2] at q; exact ⟨p, q⟩
    · have h4 : ¬ t.kind = 4 := by omega
      rw [if_neg h4, if_neg h4, if_pos h5, Bool.or_eq_true, ih, ih2]
theorem der_lg (x : Int) : ∀ t : Tr, Okd t → Ex (derT x t) (fun w => Lg t (x :: w))
  | .l0 t, h => by
    unfold derT
    by_cases h3 : t.kind = 3 ∧ t.letter = x
    · rw [if_pos h3]
      refine ex2.iff fun w => ?_
      have : ¬ t.kind = 2 := by omega
      simp [Lg, this, h3.1, h3.2]
    · rw [if_neg h3]
      refine ex1.iff fun w => ?_
      unfold Lg
      by_cases h2 : t.kind = 2
      · simp [h2]
      · by_cases h4 : t.kind = 3
        · simp only [h2, h4, if_false, if_true, false_iff]
          intro e
          injection e with e1 e2
          exact h3 ⟨h4, e1.symm⟩
        · simp [h2, h4]
  | .l1 t a, h => by
    have ih := der_lg x a h.2
    have h67 : t.kind = 6 ∨ t.kind = 7 := by
      have h1 : arT t = 1 := h.1
      rw [arT_ok (by omega)] at h1
      unfold arK at h1
      split at h1
      · cases h1
      · split at h1
        · assumption
        · cases h1
    unfold derT
    rcases h67 with h6 | h7
    · rw [if_pos h6]
      have hs : Ex (a.flat ++ [t]) (Lg (.l1 t a)) := Ex.of (t := .l1 t a) h
      refine (ih.catE hs).iff fun w => ?_
      simp only [Lg6 h6]
      constructor
      · rintro ⟨u, v, e, p, k, q⟩; exact ⟨k + 1, by rw [e]; exact Pw.cons (u := x :: u) p q⟩
      · rintro ⟨k, p⟩
        obtain ⟨u, v, m, e, q, r, _⟩ := p.first
        exact ⟨u, v, e, q, m, r⟩
    · have h6 : ¬ t.kind = 6 := by omega
      have r7 := Okd.r7 h (show (Tr.l1 t a).tok.kind = 7 from h7)
      simp only [Tr.tok] at r7
      rw [if_neg h6]
      have hr := (Ex.of h.2).repE (low := if t.low - 1 > 0 then t.low - 1 else 0) (high := t.high - 1) (by split <;> omega)
      refine (ih.catE hr).iff fun w => ?_
      simp only [Lg7 h7]
      constructor
      · rintro ⟨u, v, e, p, k, q1, q2, q⟩
        exact ⟨k + 1, by split at q1 <;> omega, by omega, by rw [e]; exact Pw.cons (u := x :: u) p q⟩
      · rintro ⟨k, k1, k2, p⟩
        obtain ⟨u, v, m, e, q, r, hm, hn⟩ := p.first
        rcases hn with hn | hn
        · exact ⟨u, v, e, q, m, by split <;> omega, by omega, r⟩
        · exact ⟨u, v, e, q, k - 1, by split <;> omega, by omega, r.pad hn (by omega)⟩
  | .l2 t a b, h => by
    have ih := der_lg x a h.2.1
    have ih2 := der_lg x b h.2.2
    have h45 : t.kind = 4 ∨ t.kind = 5 := by
      have h1 : arT t = 2 := h.1
      rw [arT_ok (by omega)] at h1
      unfold arK at h1
      split at h1
      · assumption
      · split at h1
        · cases h1
        · cases h1
    have hb : Ex b.flat (Lg b) := Ex.of h.2.2
    unfold derT
    rcases h45 with h4 | h5
    · rw [if_pos h4]
      have hc := ih.catE hb
      have key : ∀ w, (∃ u v, x :: w = u ++ v ∧ Lg a u ∧ Lg b v) ↔ (∃ u v, w = u ++ v ∧ Lg a (x :: u) ∧ Lg b v) ∨ (Lg a [] ∧ Lg b (x :: w)) := fun w => by
        constructor
        · rintro ⟨u, v, e, p, q⟩
          cases u with
          | nil => right; simp only [List.nil_append] at e; rw [e]; exact ⟨p, q⟩
          | cons y u =>
            simp only [List.cons_append, List.cons.injEq] at e
            obtain ⟨rfl, e⟩ := e
            exact .inl ⟨u, v, e, p, q⟩
        · rintro (⟨u, v, e, p, q⟩ | ⟨p, q⟩)
          · exact ⟨x :: u, v, by rw [e]; rfl, p, q⟩
          · exact ⟨[], x :: w, rfl, p, q⟩
      by_cases hn : nullT a = true
      · rw [if_pos hn]
        refine (hc.uniE ih2).iff fun w => ?_
        simp only [Lg4 h4]
        rw [key w]
        exact ⟨fun p => p.elim .inl fun q => .inr ⟨(null_lg a h.2.1).1 hn, q⟩, fun p => p.elim .inl fun q => .inr q.2⟩
      · rw [if_neg hn]
        refine hc.iff fun w => ?_
        simp only [Lg4 h4]
        rw [key w]
        exact ⟨.inl, fun p => p.elim id fun q => (hn ((null_lg a h.2.1).2 q.1)).elim⟩
    · have h4 : ¬ t.kind = 4 := by omega
      rw [if_neg h4]
      refine (ih.uniE ih2).iff fun w => ?_
      simp only [Lg5 h5]
theorem derW_lg : ∀ (w : List Int) (e r : List Token) (L : List Int → Prop), Ex e L → derW e w = some r → Ex r (fun v => L (w ++ v))
  | [], e, r, L, h, hd => by simp [derW] at hd; subst hd; exact h
  | x :: w, e, r, L, h, hd => by
    simp only [derW] at hd
    split at hd
    · rename_i hy
      obtain ⟨t, h1, h2, h3⟩ := id h
      have ht : treeL e = some t := by rw [h2]; exact treeL_flat h1
      have e1 : (derE e x).1 = derT x t := by
        unfold derE at hy ⊢; rw [ht] at hy ⊢
        simp only at hy ⊢
        split at hy
        · rename_i hc; rw [if_pos hc]
        · cases hy
      rw [e1] at hd
      have := derW_lg w _ r _ ((der_lg x t h1).iff fun v => h3 (x :: v)) hd
      exact this
    · cases hd
theorem dw_law {e : List Token} {w : List Int} (h1 : (dwE e w).2 = true) (h2 : ivE e = true) (h3 : IsWd w) : nullE (dwE e w).1 = mwE e w := by
  obtain ⟨t, ht, hok, hf, _⟩ := ivE_y h2
  unfold dwE at h1 ⊢
  split at h1
  · rename_i hc
    rw [if_pos hc]
    cases hd : derW e w with
    | none => rw [hd] at h1; cases h1
    | some r =>
      have := derW_lg w e r (Lg t) ⟨t, hok, hf, fun _ => Iff.rfl⟩ hd
      obtain ⟨s, s1, s2, s3⟩ := this
      simp only
      rw [mwE_y h2 h3 ht, Bool.eq_iff_iff, mt_w, ← nullE_y (t := s) (by rw [s2]; exact treeL_flat s1), null_lg s s1, s3]
      show Lg t (w ++ []) ↔ _
      rw [List.append_nil]
  · cases h1
theorem der_no {x : Int} : ∀ t : Tr, x ∉ letT t → derT x t = [⟨1, 0, 0, 0⟩]
  | .l0 t, h => by
    unfold derT
    rw [if_neg]
    rintro ⟨h3, rfl⟩
    apply h; unfold letT; rw [if_pos h3]; exact List.mem_singleton.2 rfl
  | .l1 t a, h => by
    have ih := der_no a (by unfold letT at h; exact h)
    unfold derT; rw [ih]
    split <;> simp [catE, isK]
  | .l2 t a b, h => by
    unfold letT at h
    have iha := der_no a (fun k => h (List.mem_append_left _ k))
    have ihb := der_no b (fun k => h (List.mem_append_right _ k))
    unfold derT; rw [iha, ihb]
    have e1 : catE [⟨1, 0, 0, 0⟩] b.flat = [⟨1, 0, 0, 0⟩] := by simp [catE, isK]
    rw [e1]
    repeat' split
    all_goals simp [uniE, isK]
section
variable {e a b : List Token} {L M : List Int → Prop} {w : List Int}
theorem alph_letT {t : Tr} {x : Int} (h : treeL e = some t) (hx : 0 ≤ x ∧ x ≤ 8) (hn : x ∉ alphR e) : x ∉ letT t := fun hm => hn (by
  have hi : isE e = true := by unfold isE; rw [h]; rfl
  obtain ⟨y, hy, hk, hl⟩ := letT_flat t x hm
  rw [(treeL_ok h).2] at hy
  have hL : ((x.toNat : Nat) : Int) ∈ letL e e.length := by
    unfold letL
    rw [List.take_length]
    exact List.mem_map.2 ⟨y, List.mem_filter.2 ⟨hy, by simp [hk]⟩, by omega⟩
  have hb := (letm_bit (isE_letOk hi) x.toNat e.length).2 hL
  unfold alphR
  rw [hi]
  show x ∈ bitsL (letM e e.length) 30
  unfold bitsL
  exact List.mem_map.2 ⟨x.toNat, List.mem_filter.2 ⟨List.mem_range.2 (by omega), hb⟩, by omega⟩)
theorem der_none {x : Int} (h : (derE e x).2 = true) (hn : x ∉ alphR e) : alphR (derE e x).1 = [] ∧ nullE (derE e x).1 = false := by
  unfold derE at h ⊢
  cases ht : treeL e with
  | none => rw [ht] at h; cases h
  | some t =>
    rw [ht] at h
    simp only at h ⊢
    split at h
    · rename_i hc
      rw [if_pos hc, der_no t (alph_letT ht hc.2.1 hn)]
      constructor
      · unfold alphR
        rw [ex1.isE]
        show bitsL 0 30 = []
        decide
      · rfl
    · cases h
end
end Go.KLib

namespace Go.KLib
def lexI : List Int → List Int → Int
  | [], [] => 0
  | [], _ :: _ => -1
  | _ :: _, [] => 1
  | x :: a, y :: b => if x < y then -1 else if y < x then 1 else lexI a b
def cmpWd (a b : List Int) : Int := if a.length < b.length then -1 else if b.length < a.length then 1 else lexI a b
section
variable {e : List Token} {n : Int} {w u : List Int} {i : Nat}
end
end Go.KLib

namespace Go.KLib
def Rn (E : Nat → Nat → Prop) (La : Nat → Int → Prop) : Nat → List Int → Nat → Prop
  | p, [], q => p = q
  | p, c :: w, q => ∃ r, E p r ∧ La r c ∧ Rn E La r w q
def Ac (E : Nat → Nat → Prop) (La : Nat → Int → Prop) (f l : Nat → Prop) (n : Prop) : List Int → Prop
  | [] => n
  | c :: w => ∃ p q, f p ∧ La p c ∧ Rn E La p w q ∧ l q
section
variable {E E' Ex Ey : Nat → Nat → Prop} {La : Nat → Int → Prop} {f l fx lx fy ly sx : Nat → Prop} {n nx ny : Prop} {p q r : Nat} {u v w : List Int}
theorem Rn.app : ∀ {u : List Int} {p : Nat}, Rn E La p u q → Rn E La q v r → Rn E La p (u ++ v) r
  | [], p, h, k => by rw [show p = q from h]; exact k
  | c :: u, p, ⟨s, a, b, h⟩, k => ⟨s, a, b, h.app k⟩
theorem Rn.mono (h : ∀ p q, E p q → E' p q) : ∀ {w : List Int} {p : Nat}, Rn E La p w q → Rn E' La p w q
  | [], _, e => e
  | _ :: _, _, ⟨s, a, b, k⟩ => ⟨s, h _ _ a, b, k.mono h⟩
end
end Go.KLib

namespace Go.KLib
def bt (m : Int) (p : Nat) : Prop := m.toNat.testBit p = true
instance {m : Int} {p : Nat} : Decidable (bt m p) := inferInstanceAs (Decidable (_ = true))
def okm (m : Int) (n : Nat) : Prop := 0 ≤ m ∧ m.toNat < 2 ^ n
section
variable {a b m l f : Int} {n k p q s : Nat} {F L : List Int}
theorem okm.up (h : okm m n) (hn : n ≤ k) : okm m k := ⟨h.1, Nat.lt_of_lt_of_le h.2 (Nat.pow_le_pow_right (by decide) hn)⟩
end
def NoR : Tr → Prop
  | .l0 _ => True
  | .l1 t x => ¬ t.kind = 7 ∧ NoR x
  | .l2 _ x y => NoR x ∧ NoR y
def Ed (F : List Int) (m : Nat) (p q : Nat) : Prop := m ≤ p ∧ bt (F.getD p 0) q
structure Gk (L : List Int) (F : List Int) (t : Tr) (r : BPd) : Prop where
  X : ∃ X, r.L = L ++ X
  len : r.F.length = r.L.length
  old : ∀ p, p < L.length → r.F.getD p 0 = F.getD p 0
  f1 : okm r.f r.L.length
  f2 : ∀ p, bt r.f p → L.length ≤ p
  l1 : okm r.l r.L.length
  l2 : ∀ p, bt r.l p → L.length ≤ p
  F1 : ∀ p, L.length ≤ p → okm (r.F.getD p 0) r.L.length
  F2 : ∀ p q, L.length ≤ p → bt (r.F.getD p 0) q → L.length ≤ q
  ac : ∀ La : Nat → Int → Prop, (∀ p c, L.length ≤ p → p < r.L.length → (La p c ↔ r.L[p]? = some c)) → ∀ w, Ac (Ed r.F L.length) La (bt r.f) (bt r.l) (r.n = true) w ↔ Lg t w
end Go.KLib

namespace Go.KLib
end Go.KLib

namespace Go.KLib
def mkSS (k : Int) : List (List Int) → List (List Int)
  | [] => []
  | x :: xs => mkInt k x.length :: mkSS (k + x.length) xs
section
variable {a zs : List (List Int)} {i j : Nat} {x y : List Int} {k kk : Int}
end
noncomputable def heldSR (k : Int) (a : List (List Int)) : Int := bif tt (a = mkSS k a) then k + a.flatten.length else -1
section
variable {a : List (List Int)} {i : Nat} {k kk : Int}
end
end Go.KLib

