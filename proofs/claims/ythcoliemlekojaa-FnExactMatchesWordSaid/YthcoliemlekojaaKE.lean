/- Part 5 of the logic: the program's data as Lean data, and small laws on rows of one's own. -/
import Derived.Test.YthcoliemlekojaaKD
namespace Go.KLib

structure Pair where
  f : Int
  t : Int
  deriving DecidableEq
def Pair.cs (p : Pair) : List Value := [.int .i64 p.f, .int .i64 p.t]
theorem Pair.len (p : Pair) : p.cs.length = 2 := rfl
structure Token where
  kind : Int
  letter : Int
  low : Int
  high : Int
  deriving DecidableEq
def Token.cs (p : Token) : List Value := [.int .i64 p.kind, .int .i64 p.letter, .int .i64 p.low, .int .i64 p.high]
theorem Token.len (p : Token) : p.cs.length = 4 := rfl
structure GEdge where
  id : Int
  f : Int
  t : Int
  label : Int
  deriving DecidableEq
def GEdge.cs (p : GEdge) : List Value := [.int .i64 p.id, .int .i64 p.f, .int .i64 p.t, .int .i64 p.label]
theorem GEdge.len (p : GEdge) : p.cs.length = 4 := rfl
def ics (n : Int) : List Value := [.int .i64 n]
theorem ics_len (n : Int) : (ics n).length = 1 := rfl
def bcs (b : Bool) : List Value := [.bool b]
theorem bcs_len (b : Bool) : (bcs b).length = 1 := rfl

theorem Pair.inj {a b : Pair} (h : [a.f, a.t] = [b.f, b.t]) : a = b := by cases a; cases b; simpa using h
theorem Token.inj {a b : Token} (h : [a.kind, a.letter, a.low, a.high] = [b.kind, b.letter, b.low, b.high]) : a = b := by cases a; cases b; simpa using h
theorem GEdge.inj {a b : GEdge} (h : [a.id, a.f, a.t, a.label] = [b.id, b.f, b.t, b.label]) : a = b := by cases a; cases b; simpa using h
theorem pair_eq (a b : Pair) : decide ([a.f, a.t] = [b.f, b.t]) = decide (a = b) := by
  cases a; cases b; simp
theorem token_eq (a b : Token) : decide ([a.kind, a.letter, a.low, a.high] = [b.kind, b.letter, b.low, b.high]) = decide (a = b) := by
  cases a; cases b; simp
theorem edge_eq (a b : GEdge) : decide ([a.id, a.f, a.t, a.label] = [b.id, b.f, b.t, b.label]) = decide (a = b) := by
  cases a; cases b; simp

section
variable {α : Type} {cs : α → List Value} {e k n : Nat} {v : Value} {xs : List α} {w w' : World} {P : Program} {l : KL} {dst : Option Tmp} {ty : TypeId} {pos : String} {aft : Array Edge} {gd : Option (Nat × Bool)} {K : Value → World → Prop}

theorem flat_set {cs : α → List Value} (hc : ∀ x, (cs x).length = k) : ∀ (xs : List α) (j : Nat) (y : α), j < xs.length → (xs.flatMap cs).take (j * k) ++ cs y ++ (xs.flatMap cs).drop (j * k + k) = (xs.set j y).flatMap cs
  | [], j, y, h => by simp at h
  | x :: xs, 0, y, _ => by
    simp only [List.flatMap_cons, Nat.zero_mul, List.take_zero, List.nil_append, Nat.zero_add, List.set_cons_zero]
    rw [← hc x, List.drop_left]
  | x :: xs, j + 1, y, h => by
    have ih := flat_set hc xs j y (by simpa using h)
    simp only [List.flatMap_cons, List.set_cons_succ]
    rw [← ih, show (j + 1) * k = (cs x).length + j * k from by rw [hc x, Nat.succ_mul, Nat.add_comm], Nat.add_assoc, List.take_length_add_append, List.drop_length_add_append]
    simp [List.append_assoc]

theorem made_flat {z : Value} {z0 : α} (hz : z.cells.toList = cs z0) (hc : ∀ x, (cs x).length = k) (hk : 0 < k) (n : Nat) : (madeCells z.cells (n * k)).toList = (List.replicate n z0).flatMap cs := by
  have hs : z.cells.size = k := by rw [← Array.length_toList, hz, hc]
  induction n with
  | zero => simp [madeCells]
  | succ n ih =>
    rw [List.replicate_succ', List.flatMap_append, ← ih, Nat.succ_mul]
    unfold madeCells
    rw [Array.toList_map, Array.toList_range, List.range_add, List.map_append, Array.toList_map, Array.toList_range]
    congr 1
    simp only [List.flatMap_cons, List.flatMap_nil, List.append_nil, List.map_map]
    rw [← hz]
    apply List.ext_getElem?
    intro i
    by_cases hi : i < k
    · have hi' : i < z.cells.size := by omega
      simp [hs, Nat.mul_add_mod_of_lt, Nat.add_mod, Nat.mod_eq_of_lt hi, hi, hi']
    · simp [hs, hi]

theorem s_make {t : TypeId} {ln : Operand} {by_ n : Nat} {z : Value} (z0 : α) (ht : elB P t = some e) (hk : sizeB P e = some k) (hb : bytesB P e = some by_) (hz : zeroB P e = some z) (hc : ∀ x, (cs x).length = k) (hk0 : 0 < k) (hzc : z.cells.toList = cs z0)
    (hn : ev l ln = some (.int .i64 (n : Int))) (hbytes : by_ * n ≤ 140737488355328) (h63 : n ≤ 9223372036854775807)
    (kk : ∀ v w', Ol cs e k w' v (List.replicate n z0) → Lo w.heap.size v → Ch [] w w' → K v w') : Step P l ⟨dst, .makeSlice t ln ln, ty, pos, aft, gd⟩ w K := by
  obtain ⟨i, hi, h1, h2, h3⟩ := info_of hk hb hz
  have hm : n ≤ maxLen := by simp only [maxLen]; omega
  obtain ⟨w', hr, ho, hg⟩ := run_make_full (P := P) w w.heap.size t e i z k (elB_spec ht) hi h1 h2 .i64 .i64 n (by rw [h3]; omega) hm (Nat.le_refl _)
  refine Step.of (v := .slice (some ⟨w.heap.size, 0, none⟩) n n) (w' := w') (fun ρ hρ => ?_) (kk _ _ ?_ (fun g hg => by simp [bl, Value.ownBlock] at hg; omega) (Ch.of_grown hg))
  · simp [execOp, hρ _ _ hn, hr]
  · obtain ⟨hl, h⟩ := ho
    rw [made_flat hzc hc hk0 n] at hl h
    refine ⟨by rw [List.length_replicate]; exact hl, ?_⟩
    rw [List.length_replicate]
    rcases h with ⟨h, _⟩ | ⟨g, cap, cur, hv, _, hgg, hn', hm', hsz, htk⟩
    · cases h
    · exact .inr ⟨g, 0, cap, cur, hv, hgg, hn', hm', by omega, by simpa using htk⟩

theorem s_indexO {x ix : Operand} {t e' : TypeId} {j : Nat} {i : Int} {q : IntKind} (hs : Ol cs e' k w v xs) (ht : elB P t = some e) (hk : sizeB P e = some k)
    (hx : ev l x = some v) (hi : ev l ix = some (.int q i)) (hj : i = (j : Int)) (h1 : j < xs.length)
    (kk : ∀ g off cap, v = .slice (some ⟨g, off, none⟩) xs.length cap → K (.pointer (some ⟨g, off + j * k, none⟩)) w) : Step P l ⟨dst, .indexAddr t x ix, ty, pos, aft, gd⟩ w K := by
  subst hj
  obtain ⟨g, off, cap, hv, hr⟩ := r_indexO (P := P) (dst := dst) (ty := ty) (pos := pos) (aft := aft) (gd := gd) hs ht hk hx hi (by omega) (by omega)
  exact Step.of (hr w) (kk g off cap hv)

theorem s_storeO {a x : Operand} {t : TypeId} {g off cap j : Nat} {u : Value} (y : α) (hs : Ol cs e k w v xs) (hv : v = .slice (some ⟨g, off, none⟩) xs.length cap) (hc : ∀ x, (cs x).length = k) (ht : sizeB P t = some k)
    (ha : ev l a = some (.pointer (some ⟨g, off + j * k, none⟩))) (hx : ev l x = some u) (hu : u.cells.toList = cs y) (h1 : (cs y).all Value.oneCell' = true) (hj : j < xs.length)
    (kk : ∀ w', Ol cs e k w' v (xs.set j y) → Ch (bl v) w w' → K undef w') : Step P l ⟨dst, .store t a x, ty, pos, aft, gd⟩ w K := by
  obtain ⟨w', hr, ho, hch⟩ := r_storeO (P := P) (dst := dst) (ty := ty) (pos := pos) (aft := aft) (gd := gd) hs hv (hc y) ht h1 ha ⟨u, hx, by rw [← hu]⟩ hj
  rw [flat_set hc xs j y hj] at ho
  refine Step.ofU hr (kk w' ⟨by simpa using ho.1, by simpa using ho.2⟩ ?_)
  subst hv
  exact hch

/-- One cell of a row of one's own. -/
theorem s_storeC {v : Value} {n : Nat} {ys : List Value} {a x : Operand} {t : TypeId} {g off cap i : Nat} {u : Value} (hs : Ow w e k v n ys) (hv : v = .slice (some ⟨g, off, none⟩) n cap) (ht : sizeB P t = some 1)
    (ha : ev l a = some (.pointer (some ⟨g, off + i, none⟩))) (hx : ev l x = some u) (h1 : u.oneCell' = true) (hi : i < n * k)
    (kk : ∀ w', Ow w' e k v n (ys.set i u) → Ch (bl v) w w' → K undef w') : Step P l ⟨dst, .store t a x, ty, pos, aft, gd⟩ w K := by
  rcases hs.2 with ⟨rfl, _⟩ | ⟨g', off', cap', cur, rfl, hg, hn, hm, hc, htk⟩
  · cases hv
  · injection hv with h1' _ h3
    injection h1' with h1'
    injection h1' with h1' h2'
    subst h1' h2' h3
    have hnk : n * k ≤ cap' * k := Nat.mul_le_mul_right _ hn
    have hlt : off' + i < cur.size := by omega
    have hcell : w.cell? ⟨g', off' + i, none⟩ = some cur[off' + i] := by simp [World.cell?, hg, hlt]
    have hfr : w.frozen? ⟨g', off' + i, none⟩ = false := by simp [World.frozen?, hg]
    have hst : (store (Addr.add ⟨g', off' + i, none⟩ 0) u).run P w = .ok () (w.setCell ⟨g', off' + i, none⟩ u) := by
      rw [add_lit, run_store P w _ u _ h1]
      simp only [Nat.add_zero]
      rw [hcell, hfr]
      rfl
    have hvc : u.cells = #[u] := by cases u <;> simp_all [Value.oneCell', Value.cells]
    refine Step.ofU (w' := w.setCell ⟨g', off' + i, none⟩ u) (fun ρ hρ => ?_) (kk _ ⟨by rw [List.length_set]; exact hs.1, .inr ⟨g', off', cap', cur.setIfInBounds (off' + i) u, rfl, ?_, hn, hm, by simpa using hc, ?_⟩⟩ (Ch.setCell w ⟨g', off' + i, none⟩ u))
    · simp [execOp, hρ _ _ ha, hρ _ _ hx, Instr.storeAt, Instr.sureAddr, storeVar, hvc, run_sizeB ht, storeCells, hst]
    · simp [World.setCell, Array.getElem?_modify, hg]
    · rw [Array.toList_setIfInBounds, ← htk]
      apply List.ext_getElem?
      intro q
      simp only [List.getElem?_take, List.getElem?_drop, List.getElem?_set, List.length_take, List.length_drop, Array.length_toList]
      by_cases hq : q < n * k
      · rw [if_pos hq]
        by_cases he : i = q
        · subst he
          rw [if_pos rfl, if_pos (by omega), if_pos rfl, if_pos (by omega)]
        · rw [if_neg (by omega), if_neg he, if_pos hq]
      · rw [if_neg hq, if_neg (by omega), if_neg hq]

theorem set_same {xs : List α} {j : Nat} {y : α} (hy : xs[j]? = some y) : xs.set j y = xs := by
  apply List.ext_getElem?
  intro q
  rw [List.getElem?_set]
  by_cases h : j = q
  · subst h
    rw [if_pos rfl, if_pos (List.getElem?_eq_some_iff.1 hy).1, hy]
  · rw [if_neg h]

theorem flat_setF {cs : α → List Value} (hc : ∀ x, (cs x).length = k) {xs : List α} {j fo : Nat} {y y' : α} {u : Value} (hy : xs[j]? = some y) (hy' : cs y' = (cs y).set fo u) (hf : fo < k) : (xs.flatMap cs).set (j * k + fo) u = (xs.set j y').flatMap cs := by
  have hj : j < xs.length := (List.getElem?_eq_some_iff.1 hy).1
  have hl := flat_len hc xs
  have hjk : j * k + k ≤ xs.length * k := by rw [← Nat.succ_mul]; exact Nat.mul_le_mul_right _ hj
  have h1 : xs.flatMap cs = (xs.flatMap cs).take (j * k) ++ cs y ++ (xs.flatMap cs).drop (j * k + k) := by
    have := flat_set hc xs j y hj
    rw [this]
    congr 1
    exact (set_same hy).symm
  rw [← flat_set hc xs j y' hj, hy']
  conv => lhs; rw [h1]
  have e1 : ((xs.flatMap cs).take (j * k)).length = j * k := by rw [List.length_take, hl]; omega
  rw [List.append_assoc, List.set_append_right _ _ (by omega), e1, Nat.add_sub_cancel_left, List.set_append_left _ _ (by rw [hc]; exact hf), List.append_assoc]

theorem s_storeF {a x : Operand} {t : TypeId} {g off cap j : Nat} {u : Value} (fo : Nat) (y y' : α) (hs : Ol cs e k w v xs) (hv : v = .slice (some ⟨g, off, none⟩) xs.length cap) (hy : xs[j]? = some y) (hc : ∀ x, (cs x).length = k) (hy' : cs y' = (cs y).set fo u) (ht : sizeB P t = some 1)
    (ha : ev l a = some (.pointer (some (Addr.add ⟨g, off + j * k, none⟩ fo)))) (hx : ev l x = some u) (h1 : u.oneCell' = true) (hf : Nat.blt fo k = true)
    (kk : ∀ w', Ol cs e k w' v (xs.set j y') → Ch (bl v) w w' → K undef w') : Step P l ⟨dst, .store t a x, ty, pos, aft, gd⟩ w K := by
  have hfo : fo < k := by simpa [Nat.blt_eq] using hf
  have hj : j < xs.length := (List.getElem?_eq_some_iff.1 hy).1
  have hjk : j * k + k ≤ xs.length * k := by rw [← Nat.succ_mul]; exact Nat.mul_le_mul_right _ hj
  refine s_storeC (i := j * k + fo) hs hv ht (by rw [ha, add_lit, Nat.add_assoc]) hx h1 (by omega) fun w' ho hch => kk w' ?_ hch
  rw [flat_setF hc hy hy' hfo] at ho
  exact ⟨by simpa using ho.1, by simpa using ho.2⟩

theorem get_some {xs : List α} {j : Nat} (h : j < xs.length) : ∃ y, xs[j]? = some y := ⟨_, List.getElem?_eq_getElem h⟩
theorem get_set {xs : List α} {j : Nat} {y : α} (h : xs[j]? = some y) (y' : α) : (xs.set j y')[j]? = some y' := by
  rw [List.getElem?_set_self (List.getElem?_eq_some_iff.1 h).1]

theorem own_val (h : Ol cs e k w v xs) {j : Nat} (hj : j < xs.length) : ∃ g off cap, v = .slice (some ⟨g, off, none⟩) xs.length cap := by
  rcases h.2 with ⟨_, h0⟩ | ⟨g, off, cap, cur, hv, _⟩
  · omega
  · exact ⟨g, off, cap, hv⟩

end

/-! ### What a comparison of lists by their elements comes to -/
theorem take_eq_succ {α : Type} {xs ys : List α} {k : Nat} (h : xs.take k = ys.take k) {x y : α} (hx : xs[k]? = some x) (hy : ys[k]? = some y) (he : x = y) : xs.take (k + 1) = ys.take (k + 1) := by
  rw [List.take_add_one, List.take_add_one, hx, hy, h, he]
theorem eq_of_take {α : Type} {xs ys : List α} {k : Nat} (h : xs.take k = ys.take k) (h1 : xs.length ≤ k) (h2 : ys.length = xs.length) : xs = ys := by
  rwa [List.take_of_length_le h1, List.take_of_length_le (by omega)] at h
theorem ne_of_get {α : Type} {xs ys : List α} {k : Nat} {x y : α} (hx : xs[k]? = some x) (hy : ys[k]? = some y) (he : ¬ x = y) : ¬ xs = ys := by
  rintro rfl
  rw [hx] at hy
  injection hy with hy
  exact he hy

theorem fill_step {α : Type} (a : List α) (z : α) {k : Nat} {y : α} (h : a[k]? = some y) : (a.take k ++ List.replicate (a.length - k) z).set k y = a.take (k + 1) ++ List.replicate (a.length - (k + 1)) z := by
  have hk : k < a.length := (List.getElem?_eq_some_iff.1 h).1
  rw [List.take_add_one, h, List.set_append_right _ _ (by simp; omega)]
  have e1 : a.length - k = (a.length - (k + 1)) + 1 := by omega
  rw [e1, List.replicate_succ]
  simp [Nat.min_eq_left (Nat.le_of_lt hk)]

theorem fill_step2 {α : Type} (a : List α) (f : Nat → α) {k : Nat} (hk : k < a.length) : ((List.range k).map f ++ a.drop k).set k (f k) = (List.range (k + 1)).map f ++ a.drop (k + 1) := by
  rw [List.range_succ, List.map_append, List.set_append_right _ _ (by simp)]
  rw [List.drop_eq_getElem_cons hk]
  simp only [List.length_map, List.length_range, Nat.sub_self, List.set_cons_zero, List.map_cons, List.map_nil, List.append_assoc, List.singleton_append]

def mkPair (k : Int) (n : Nat) : List Pair := (List.range n).map fun (i : Nat) => ⟨k + 2 * i, k + 2 * i + 1⟩
def mkToken (k : Int) (n : Nat) : List Token := (List.range n).map fun (i : Nat) => ⟨k + 4 * i, k + 4 * i + 1, k + 4 * i + 2, k + 4 * i + 3⟩
def mkGEdge (k : Int) (n : Nat) : List GEdge := (List.range n).map fun (i : Nat) => ⟨k + 4 * i, k + 4 * i + 1, k + 4 * i + 2, k + 4 * i + 3⟩
def mkInt (k : Int) (n : Nat) : List Int := (List.range n).map fun (i : Nat) => k + i
@[simp] theorem mkPair_len (k : Int) (n : Nat) : (mkPair k n).length = n := by simp [mkPair]
@[simp] theorem mkToken_len (k : Int) (n : Nat) : (mkToken k n).length = n := by simp [mkToken]
@[simp] theorem mkGEdge_len (k : Int) (n : Nat) : (mkGEdge k n).length = n := by simp [mkGEdge]
@[simp] theorem mkInt_len (k : Int) (n : Nat) : (mkInt k n).length = n := by simp [mkInt]

theorem mkPair_step (a : List Pair) {i : Nat} (hi : i < a.length) {kk k : Int} (h : kk = k + 2 * i) : (mkPair k i ++ a.drop i).set i ⟨kk, kk + 1⟩ = mkPair k (i + 1) ++ a.drop (i + 1) := by
  subst h
  have h2 := fill_step2 a (fun (q : Nat) => (⟨k + 2 * q, k + 2 * q + 1⟩ : Pair)) hi
  unfold mkPair
  refine Eq.trans (congrArg _ ?_) h2
  simp only [Int.add_assoc]
  all_goals rfl
theorem heldPair_get {a : List Pair} {k : Int} {i : Nat} {y : Pair} (e : a = mkPair k a.length) (hy : a[i]? = some y) : y.f = k + 2 * i ∧ y.t = k + 2 * i + 1 := by
  have hlt := (List.getElem?_eq_some_iff.1 hy).1
  rw [e] at hy
  simp only [mkPair, List.getElem?_map, List.getElem?_range hlt, Option.map_some] at hy
  injection hy with hy
  subst hy
  exact ⟨rfl, rfl⟩
theorem heldPair_step {a : List Pair} {k kk : Int} {i : Nat} {y0 y1 : Pair} (h : a.take i = mkPair k i) (hk : kk = k + 2 * i) (h0 : a[i]? = some y0) (e0 : y0.f = kk) (h1 : a[i]? = some y1) (e1 : y1.t = kk + 1) : a.take (i + 1) = mkPair k (i + 1) := by
  rw [h0] at h1; injection h1 with h1; subst h1
  rw [List.take_add_one, h, h0]
  simp only [mkPair, List.range_succ, List.map_append, List.map_cons, List.map_nil, Option.toList]
  congr 1
  obtain ⟨a0, a1⟩ := y0
  simp only at e0 e1
  subst e0 e1
  subst hk
  simp only [Int.add_assoc]
  all_goals rfl
theorem heldPair_all {a : List Pair} {k : Int} {i : Nat} (h : a.take i = mkPair k i) (h1 : i ≤ a.length) (h2 : a.length ≤ i) : a = mkPair k a.length := by
  have : i = a.length := by omega
  subst this
  rwa [List.take_length] at h

theorem mkToken_step (a : List Token) {i : Nat} (hi : i < a.length) {kk k : Int} (h : kk = k + 4 * i) : (mkToken k i ++ a.drop i).set i ⟨kk, kk + 1, kk + 1 + 1, kk + 1 + 1 + 1⟩ = mkToken k (i + 1) ++ a.drop (i + 1) := by
  subst h
  have h2 := fill_step2 a (fun (q : Nat) => (⟨k + 4 * q, k + 4 * q + 1, k + 4 * q + 2, k + 4 * q + 3⟩ : Token)) hi
  unfold mkToken
  refine Eq.trans (congrArg _ ?_) h2
  simp only [Int.add_assoc]
  all_goals rfl
theorem heldToken_get {a : List Token} {k : Int} {i : Nat} {y : Token} (e : a = mkToken k a.length) (hy : a[i]? = some y) : y.kind = k + 4 * i ∧ y.letter = k + 4 * i + 1 ∧ y.low = k + 4 * i + 2 ∧ y.high = k + 4 * i + 3 := by
  have hlt := (List.getElem?_eq_some_iff.1 hy).1
  rw [e] at hy
  simp only [mkToken, List.getElem?_map, List.getElem?_range hlt, Option.map_some] at hy
  injection hy with hy
  subst hy
  exact ⟨rfl, rfl, rfl, rfl⟩
theorem heldToken_step {a : List Token} {k kk : Int} {i : Nat} {y0 y1 y2 y3 : Token} (h : a.take i = mkToken k i) (hk : kk = k + 4 * i) (h0 : a[i]? = some y0) (e0 : y0.kind = kk) (h1 : a[i]? = some y1) (e1 : y1.letter = kk + 1) (h2 : a[i]? = some y2) (e2 : y2.low = kk + 1 + 1) (h3 : a[i]? = some y3) (e3 : y3.high = kk + 1 + 1 + 1) : a.take (i + 1) = mkToken k (i + 1) := by
  rw [h0] at h1; injection h1 with h1; subst h1; rw [h0] at h2; injection h2 with h2; subst h2; rw [h0] at h3; injection h3 with h3; subst h3
  rw [List.take_add_one, h, h0]
  simp only [mkToken, List.range_succ, List.map_append, List.map_cons, List.map_nil, Option.toList]
  congr 1
  obtain ⟨a0, a1, a2, a3⟩ := y0
  simp only at e0 e1 e2 e3
  subst e0 e1 e2 e3
  subst hk
  simp only [Int.add_assoc]
  all_goals rfl
theorem heldToken_all {a : List Token} {k : Int} {i : Nat} (h : a.take i = mkToken k i) (h1 : i ≤ a.length) (h2 : a.length ≤ i) : a = mkToken k a.length := by
  have : i = a.length := by omega
  subst this
  rwa [List.take_length] at h

theorem mkGEdge_step (a : List GEdge) {i : Nat} (hi : i < a.length) {kk k : Int} (h : kk = k + 4 * i) : (mkGEdge k i ++ a.drop i).set i ⟨kk, kk + 1, kk + 1 + 1, kk + 1 + 1 + 1⟩ = mkGEdge k (i + 1) ++ a.drop (i + 1) := by
  subst h
  have h2 := fill_step2 a (fun (q : Nat) => (⟨k + 4 * q, k + 4 * q + 1, k + 4 * q + 2, k + 4 * q + 3⟩ : GEdge)) hi
  unfold mkGEdge
  refine Eq.trans (congrArg _ ?_) h2
  simp only [Int.add_assoc]
  all_goals rfl
theorem heldGEdge_get {a : List GEdge} {k : Int} {i : Nat} {y : GEdge} (e : a = mkGEdge k a.length) (hy : a[i]? = some y) : y.id = k + 4 * i ∧ y.f = k + 4 * i + 1 ∧ y.t = k + 4 * i + 2 ∧ y.label = k + 4 * i + 3 := by
  have hlt := (List.getElem?_eq_some_iff.1 hy).1
  rw [e] at hy
  simp only [mkGEdge, List.getElem?_map, List.getElem?_range hlt, Option.map_some] at hy
  injection hy with hy
  subst hy
  exact ⟨rfl, rfl, rfl, rfl⟩
theorem heldGEdge_step {a : List GEdge} {k kk : Int} {i : Nat} {y0 y1 y2 y3 : GEdge} (h : a.take i = mkGEdge k i) (hk : kk = k + 4 * i) (h0 : a[i]? = some y0) (e0 : y0.id = kk) (h1 : a[i]? = some y1) (e1 : y1.f = kk + 1) (h2 : a[i]? = some y2) (e2 : y2.t = kk + 1 + 1) (h3 : a[i]? = some y3) (e3 : y3.label = kk + 1 + 1 + 1) : a.take (i + 1) = mkGEdge k (i + 1) := by
  rw [h0] at h1; injection h1 with h1; subst h1; rw [h0] at h2; injection h2 with h2; subst h2; rw [h0] at h3; injection h3 with h3; subst h3
  rw [List.take_add_one, h, h0]
  simp only [mkGEdge, List.range_succ, List.map_append, List.map_cons, List.map_nil, Option.toList]
  congr 1
  obtain ⟨a0, a1, a2, a3⟩ := y0
  simp only at e0 e1 e2 e3
  subst e0 e1 e2 e3
  subst hk
  simp only [Int.add_assoc]
  all_goals rfl
theorem heldGEdge_all {a : List GEdge} {k : Int} {i : Nat} (h : a.take i = mkGEdge k i) (h1 : i ≤ a.length) (h2 : a.length ≤ i) : a = mkGEdge k a.length := by
  have : i = a.length := by omega
  subst this
  rwa [List.take_length] at h

theorem mkInt_step (a : List Int) {i : Nat} (hi : i < a.length) {kk k : Int} (h : kk = k + i) : (mkInt k i ++ a.drop i).set i kk = mkInt k (i + 1) ++ a.drop (i + 1) := by
  subst h
  exact fill_step2 a (fun (q : Nat) => k + q) hi
theorem heldInt_get {a : List Int} {k : Int} {i : Nat} {y : Int} (e : a = mkInt k a.length) (hy : a[i]? = some y) : y = k + i := by
  have hlt := (List.getElem?_eq_some_iff.1 hy).1
  rw [e] at hy
  simp only [mkInt, List.getElem?_map, List.getElem?_range hlt, Option.map_some] at hy
  injection hy with hy
  exact hy.symm
theorem heldInt_step {a : List Int} {k kk : Int} {i : Nat} {y0 : Int} (h : a.take i = mkInt k i) (hk : kk = k + i) (h0 : a[i]? = some y0) (e0 : y0 = kk) : a.take (i + 1) = mkInt k (i + 1) := by
  rw [List.take_add_one, h, h0]
  simp only [mkInt, List.range_succ, List.map_append, List.map_cons, List.map_nil, Option.toList]
  rw [e0, hk]
theorem heldInt_all {a : List Int} {k : Int} {i : Nat} (h : a.take i = mkInt k i) (h1 : i ≤ a.length) (h2 : a.length ≤ i) : a = mkInt k a.length := by
  have : i = a.length := by omega
  subst this
  rwa [List.take_length] at h

end Go.KLib
