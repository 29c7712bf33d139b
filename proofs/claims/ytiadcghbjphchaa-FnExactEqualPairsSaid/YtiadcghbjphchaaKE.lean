/- Part 5 of the logic: the program's data as Lean data, and small laws on rows of one's own. -/
import Derived.Test.YtiadcghbjphchaaKD
namespace Go.KLib

structure Pair where
  f : Int
  t : Int
deriving DecidableEq
def Pair.cs (p : Pair) : List Value := [.int .i64 p.f, .int .i64 p.t]
theorem Pair.len (p : Pair) : p.cs.length = 2 := rfl
structure Token where
  kind : Int
  letter : Int
  low : Int
  high : Int
deriving DecidableEq
def Token.cs (p : Token) : List Value := [.int .i64 p.kind, .int .i64 p.letter, .int .i64 p.low, .int .i64 p.high]
theorem Token.len (p : Token) : p.cs.length = 4 := rfl
structure GEdge where
  id : Int
  f : Int
  t : Int
  label : Int
deriving DecidableEq
def GEdge.cs (p : GEdge) : List Value := [.int .i64 p.id, .int .i64 p.f, .int .i64 p.t, .int .i64 p.label]
theorem GEdge.len (p : GEdge) : p.cs.length = 4 := rfl
def ics (n : Int) : List Value := [.int .i64 n]
theorem ics_len (n : Int) : (ics n).length = 1 := rfl
def bcs (b : Bool) : List Value := [.bool b]
theorem bcs_len (b : Bool) : (bcs b).length = 1 := rfl

theorem Pair.inj {a b : Pair} (h : [a.f, a.t] = [b.f, b.t]) : a = b := by cases a; cases b; simpa using h
theorem Token.inj {a b : Token} (h : [a.kind, a.letter, a.low, a.high] = [b.kind, b.letter, b.low, b.high]) : a = b := by cases a; cases b; simpa using h
theorem GEdge.inj {a b : GEdge} (h : [a.id, a.f, a.t, a.label] = [b.id, b.f, b.t, b.label]) : a = b := by cases a; cases b; simpa using h
theorem pair_eq (a b : Pair) : decide ([a.f, a.t] = [b.f, b.t]) = decide (a = b) := by
  cases a; cases b; simp
theorem token_eq (a b : Token) : decide ([a.kind, a.letter, a.low, a.high] = [b.kind, b.letter, b.low, b.high]) = decide (a = b) := by
  cases a; cases b; simp
theorem edge_eq (a b : GEdge) : decide ([a.id, a.f, a.t, a.label] = [b.id, b.f, b.t, b.label]) = decide (a = b) := by
  cases a; cases b; simp

section
variable {α : Type} {cs : α → List Value} {e k n : Nat} {v : Value} {xs : List α} {w w' : World} {P : Program} {l : KL} {dst : Option Tmp} {ty : TypeId} {pos : String} {aft : Array Edge} {gd : Option (Nat × Bool)} {K : Value → World → Prop}

theorem flat_set {cs : α → List Value} (hc : ∀ x, (cs x).length = k) : ∀ (xs : List α) (j : Nat) (y : α), j < xs.length → (xs.flatMap cs).take (j * k) ++ cs y ++ (xs.flatMap cs).drop (j * k + k) = (xs.set j y).flatMap cs
  | [], j, y, h => by simp at h
  | x :: xs, 0, y, _ => by
    simp only [List.flatMap_cons, Nat.zero_mul, List.take_zero, List.nil_append, Nat.zero_add, List.set_cons_zero]
    rw [← hc x, List.drop_left]
  | x :: xs, j + 1, y, h => by
    have ih := flat_set hc xs j y (by simpa using h)
    simp only [List.flatMap_cons, List.set_cons_succ]
    rw [← ih, show (j + 1) * k = (cs x).length + j * k from by rw [hc x, Nat.succ_mul, Nat.add_comm], Nat.add_assoc, List.take_length_add_append, List.drop_length_add_append]
    simp [List.append_assoc]

theorem made_flat {z : Value} {z0 : α} (hz : z.cells.toList = cs z0) (hc : ∀ x, (cs x).length = k) (hk : 0 < k) (n : Nat) : (madeCells z.cells (n * k)).toList = (List.replicate n z0).flatMap cs := by
  have hs : z.cells.size = k := by rw [← Array.length_toList, hz, hc]
  induction n with
  | zero => simp [madeCells]
  | succ n ih =>
    rw [List.replicate_succ', List.flatMap_append, ← ih, Nat.succ_mul]
    unfold madeCells
    rw [Array.toList_map, Array.toList_range, List.range_add, List.map_append, Array.toList_map, Array.toList_range]
    congr 1
    simp only [List.flatMap_cons, List.flatMap_nil, List.append_nil, List.map_map]
    rw [← hz]
    apply List.ext_getElem?
    intro i
    by_cases hi : i < k
    · have hi' : i < z.cells.size := by omega
      simp [hs, Nat.mul_add_mod_of_lt, Nat.add_mod, Nat.mod_eq_of_lt hi, hi, hi']
    · simp [hs, hi]

theorem s_make {t : TypeId} {ln : Operand} {by_ n : Nat} {z : Value} (z0 : α) (ht : elB P t = some e) (hk : sizeB P e = some k) (hb : bytesB P e = some by_) (hz : zeroB P e = some z) (hc : ∀ x, (cs x).length = k) (hk0 : 0 < k) (hzc : z.cells.toList = cs z0)
    (hn : ev l ln = some (.int .i64 (n : Int))) (hbytes : by_ * n ≤ 140737488355328) (h63 : n ≤ 9223372036854775807)
    (kk : ∀ v w', Ol cs e k w' v (List.replicate n z0) → Lo w.heap.size v → Ch [] w w' → K v w') : Step P l ⟨dst, .makeSlice t ln ln, ty, pos, aft, gd⟩ w K := by
  obtain ⟨i, hi, h1, h2, h3⟩ := info_of hk hb hz
  have hm : n ≤ maxLen := by simp only [maxLen]; omega
  obtain ⟨w', hr, ho, hg⟩ := run_make_full (P := P) w w.heap.size t e i z k (elB_spec ht) hi h1 h2 .i64 .i64 n (by rw [h3]; omega) hm (Nat.le_refl _)
  refine Step.of (v := .slice (some ⟨w.heap.size, 0, none⟩) n n) (w' := w') (fun ρ hρ => ?_) (kk _ _ ?_ (fun g hg => by simp [bl, Value.ownBlock] at hg; omega) (Ch.of_grown hg))
  · simp [execOp, hρ _ _ hn, hr]
  · obtain ⟨hl, h⟩ := ho
    rw [made_flat hzc hc hk0 n] at hl h
    refine ⟨by rw [List.length_replicate]; exact hl, ?_⟩
    rw [List.length_replicate]
    rcases h with ⟨h, _⟩ | ⟨g, cap, cur, hv, _, hgg, hn', hm', hsz, htk⟩
    · cases h
    · exact .inr ⟨g, 0, cap, cur, hv, hgg, hn', hm', by omega, by simpa using htk⟩

theorem s_indexO {x ix : Operand} {t e' : TypeId} {j : Nat} {i : Int} {q : IntKind} (hs : Ol cs e' k w v xs) (ht : elB P t = some e) (hk : sizeB P e = some k)
    (hx : ev l x = some v) (hi : ev l ix = some (.int q i)) (hj : i = (j : Int)) (h1 : j < xs.length)
    (kk : ∀ g off cap, v = .slice (some ⟨g, off, none⟩) xs.length cap → K (.pointer (some ⟨g, off + j * k, none⟩)) w) : Step P l ⟨dst, .indexAddr t x ix, ty, pos, aft, gd⟩ w K := by
  subst hj
  obtain ⟨g, off, cap, hv, hr⟩ := r_indexO (P := P) (dst := dst) (ty := ty) (pos := pos) (aft := aft) (gd := gd) hs ht hk hx hi (by omega) (by omega)
  exact Step.of (hr w) (kk g off cap hv)

theorem s_storeO {a x : Operand} {t : TypeId} {g off cap j : Nat} {u : Value} (y : α) (hs : Ol cs e k w v xs) (hv : v = .slice (some ⟨g, off, none⟩) xs.length cap) (hc : ∀ x, (cs x).length = k) (ht : sizeB P t = some k)
    (ha : ev l a = some (.pointer (some ⟨g, off + j * k, none⟩))) (hx : ev l x = some u) (hu : u.cells.toList = cs y) (h1 : (cs y).all Value.oneCell' = true) (hj : j < xs.length)
    (kk : ∀ w', Ol cs e k w' v (xs.set j y) → Ch (bl v) w w' → K undef w') : Step P l ⟨dst, .store t a x, ty, pos, aft, gd⟩ w K := by
  obtain ⟨w', hr, ho, hch⟩ := r_storeO (P := P) (dst := dst) (ty := ty) (pos := pos) (aft := aft) (gd := gd) hs hv (hc y) ht h1 ha ⟨u, hx, by rw [← hu]⟩ hj
  rw [flat_set hc xs j y hj] at ho
  refine Step.ofU hr (kk w' ⟨by simpa using ho.1, by simpa using ho.2⟩ ?_)
  subst hv
  exact hch

theorem own_val (h : Ol cs e k w v xs) {j : Nat} (hj : j < xs.length) : ∃ g off cap, v = .slice (some ⟨g, off, none⟩) xs.length cap := by
  rcases h.2 with ⟨_, h0⟩ | ⟨g, off, cap, cur, hv, _⟩
  · omega
  · exact ⟨g, off, cap, hv⟩

end

/-! ### What a comparison of lists by their elements comes to -/
theorem take_eq_succ {α : Type} {xs ys : List α} {k : Nat} (h : xs.take k = ys.take k) {x y : α} (hx : xs[k]? = some x) (hy : ys[k]? = some y) (he : x = y) : xs.take (k + 1) = ys.take (k + 1) := by
  rw [List.take_add_one, List.take_add_one, hx, hy, h, he]
theorem eq_of_take {α : Type} {xs ys : List α} {k : Nat} (h : xs.take k = ys.take k) (h1 : xs.length ≤ k) (h2 : ys.length = xs.length) : xs = ys := by
  rwa [List.take_of_length_le h1, List.take_of_length_le (by omega)] at h
theorem ne_of_get {α : Type} {xs ys : List α} {k : Nat} {x y : α} (hx : xs[k]? = some x) (hy : ys[k]? = some y) (he : ¬ x = y) : ¬ xs = ys := by
  rintro rfl
  rw [hx] at hy
  injection hy with hy
  exact he hy

theorem fill_step {α : Type} (a : List α) (z : α) {k : Nat} {y : α} (h : a[k]? = some y) : (a.take k ++ List.replicate (a.length - k) z).set k y = a.take (k + 1) ++ List.replicate (a.length - (k + 1)) z := by
  have hk : k < a.length := (List.getElem?_eq_some_iff.1 h).1
  rw [List.take_add_one, h, List.set_append_right _ _ (by simp; omega)]
  have e1 : a.length - k = (a.length - (k + 1)) + 1 := by omega
  rw [e1, List.replicate_succ]
  simp [Nat.min_eq_left (Nat.le_of_lt hk)]

end Go.KLib
