/- append onto a row of one's own; slices of slices; slice expressions. -/
import Derived.Test.YthcoliemlekojaaKI
import Derived.Laws.Append
import Derived.Laws.CopyRow
import Derived.Laws.AppendOwn
namespace Go.KLib

section
variable {P : Program} {w : World}
theorem run_append_room_off {t ty e : TypeId} {i : TypeInfo} (ht : P.underlying t = some (.slice e)) (hi : P.info? e = some i)
    {g off n cap : Nat} {cur : Array Value} (hg : w.heap[g]? = some (.cells cur e (0, 0)))
    {a : Addr} {m c : Nat} {news : List Value} (hl : news.length = m * i.size) (hnews : ∀ j u, news[j]? = some u → w.cell? (a.add j) = some u) (h1 : ∀ u ∈ news, u.oneCell' = true)
    (hroom : n + m ≤ cap) (hfit : off + n * i.size + news.length ≤ cur.size) :
    (Builtin.append_ #[t, t] ty #[.slice (some ⟨g, off, none⟩) n cap, .slice (some a) m c]).run P w =
      .ok (.slice (some ⟨g, off, none⟩) (n + m) cap) (w.setRow g (cur.toList.take (off + n * i.size) ++ news ++ cur.toList.drop (off + n * i.size + news.length)).toArray) := by
  have hf := run_firstCells_some (P := P) w i.size m a m c news hl hnews
  have hst := run_storeCells_at P g (off + n * i.size) e news 0 cur w hg (by simpa using hfit) h1
  simp only [Nat.add_zero] at hst
  simp [Builtin.append_, run_underlying ht, sizeOf, typeInfo, hi, Builtin.lenOf, hroom, hf, Addr.add_lit, hst]
theorem run_append_none {t ty e : TypeId} {i : TypeInfo} (ht : P.underlying t = some (.slice e)) (hi : P.info? e = some i)
    {k n : Nat} {v : Value} {xs : List Value} {e' : TypeId} (ho : Ow w e' k v n xs) (c : Nat) : (Builtin.append_ #[t, t] ty #[v, .slice none 0 c]).run P w = .ok v w := by
  rcases ho.2 with ⟨rfl, rfl⟩ | ⟨g, off, cap, cur, rfl, _, hnc, _⟩
  · simp [Builtin.append_, run_underlying ht, sizeOf, typeInfo, hi, Builtin.lenOf, Builtin.firstCells]
  · simp [Builtin.append_, run_underlying ht, sizeOf, typeInfo, hi, Builtin.lenOf, Builtin.firstCells, hnc, storeCells]

theorem Ow.append {t ty e : TypeId} {k by_ n m L B : Nat} {z v u : Value} {xs ys : List Value} (ht : elB P t = some e) (hk : sizeB P e = some k) (hb : bytesB P e = some by_) (hz : zeroB P e = some z)
    (hzs : z.cells.size = k) (hk0 : 0 < k) (ho : Ow w e k v n xs) (hs : Sl w L B k u m ys) (h1 : ∀ y ∈ ys, y.oneCell' = true) (h63 : n + m ≤ 9223372036854775807) (hbytes : (n + m) * by_ ≤ 140737488355328) :
    ∃ v' w', (Builtin.append_ #[t, t] ty #[v, u]).run P w = .ok v' w' ∧ Ow w' e k v' (n + m) (xs ++ ys) ∧ Ch (bl v) w w' ∧ (bl v' = bl v ∨ bl v' = [w.heap.size]) := by
  obtain ⟨i, hi, hiz, his, hib⟩ := info_of hk hb hz
  have hel := elB_spec ht
  obtain ⟨hyl, A, c, rfl, hmc, hcm, hA⟩ := hs
  have hmx : n + m ≤ maxLen := by simp only [maxLen]; omega
  have hlen : (xs ++ ys).length = (n + m) * k := by rw [List.length_append, ho.1, hyl, Nat.add_mul]
  rcases A with _ | ad
  · have hm : m = 0 := by
      rcases Nat.eq_zero_or_pos m with h | h
      · exact h
      · obtain ⟨ad, h2, _⟩ := hA h; cases h2
    subst hm
    have hys : ys = [] := List.eq_nil_of_length_eq_zero (by simpa using hyl)
    subst hys
    exact ⟨v, w, run_append_none hel hi ho c, by simpa using ho, Ch.refl _ _, .inl rfl⟩
  · have hcells : ∀ j u, ys[j]? = some u → w.cell? (ad.add j) = some u := by
      intro j u hu
      rcases Nat.eq_zero_or_pos m with h | h
      · subst h
        have hys : ys = [] := List.eq_nil_of_length_eq_zero (by simpa using hyl)
        subst hys; simp at hu
      · obtain ⟨ad', h2, ha⟩ := hA h
        injection h2 with h2; subst h2
        exact ha.cell j hu
    have grown : ∀ (old : Nat), old < n + m → ∃ cap,
        Ow (w.drew.alloc (.cells (xs.toArray ++ ys.toArray ++ Builtin.zeroCells z.cells (grownCap w (n + m) old e - (n + m))) e)) e k (.slice (some ⟨w.heap.size, 0, none⟩) (n + m) cap) (n + m) (xs ++ ys) ∧ cap = grownCap w (n + m) old e := by
      intro old hold
      have hge := grownCap_ge w (n + m) old e
      have hcm' : grownCap w (n + m) old e ≤ maxLen := grownCap_le_maxLen w (n + m) old e hmx
      refine ⟨_, ⟨hlen, .inr ⟨w.heap.size, 0, _, _, rfl, heap_alloc_new w.drew _, hge, hcm', ?_, ?_⟩⟩, rfl⟩
      · simp only [Array.size_append, List.size_toArray, size_zeroCells, hzs, ho.1, hyl, ← Nat.add_mul]
        refine Nat.le_of_eq ?_
        rw [Nat.zero_add]; congr 1; omega
      · simp only [Array.toList_append, List.append_assoc, List.drop_zero]
        rw [← List.append_assoc, ← hlen]
        exact List.take_left
    have grow : ∀ o, Ch (bl v) w (w.drew.alloc o) := fun o => ⟨rfl, rfl, rfl, by simp, fun j hj _ => heap_alloc_old w.drew _ hj⟩
    subst his hib
    rcases ho.2 with ⟨rfl, rfl⟩ | ⟨g, off, cap, cur, rfl, hg, hnc, hcp, hcs, htake⟩
    · have hx : xs = [] := List.eq_nil_of_length_eq_zero (by simpa using ho.1)
      subst hx
      by_cases hm : m = 0
      · subst hm
        have hys : ys = [] := List.eq_nil_of_length_eq_zero (by simpa using hyl)
        subst hys
        refine ⟨.slice none 0 0, w, ?_, Ow.nil w e _, Ch.refl _ _, .inl rfl⟩
        simp [Builtin.append_, run_underlying hel, sizeOf, typeInfo, hi, Builtin.lenOf, Builtin.firstCells, loadCells, loadCellsFrom]
      · have hr := run_append_nil (P := P) w t ty e i z hel hi hiz ad m c ys hyl hcells (by omega) (by omega) (by simp only [Nat.zero_add] at hbytes; omega)
        obtain ⟨cp, h2, rfl⟩ := grown 0 (by omega)
        simp only [Nat.zero_add, List.nil_append, Array.empty_append] at h2 ⊢
        exact ⟨_, _, hr, h2, grow _, .inr rfl⟩
    · by_cases hroom : n + m ≤ cap
      · have hfit : off + n * i.size + ys.length ≤ cur.size := by
          have := Nat.mul_le_mul_right i.size hroom
          rw [hyl]; rw [Nat.add_mul] at this; omega
        have hr := run_append_room_off (P := P) (ty := ty) (c := c) hel hi hg hyl hcells h1 hroom hfit
        refine ⟨_, _, hr, ⟨hlen, .inr ⟨g, off, cap, _, rfl, setRow_heap w g cur _ e _ hg, hroom, hcp, ?_, ?_⟩⟩, ⟨rfl, rfl, rfl, by simp [World.setRow], fun j _ hj => setRow_other w g j _ (fun e => hj (by simp [bl, Value.ownBlock, e]))⟩, .inl rfl⟩
        · simp only [List.size_toArray, List.length_append, List.length_take, List.length_drop, Array.length_toList]
          omega
        · have hto : (cur.toList.take (off + n * i.size)).drop off = xs := by
            rw [← htake, List.drop_take]; congr 1; omega
          have hol : off ≤ (cur.toList.take (off + n * i.size)).length := by rw [List.length_take, Array.length_toList]; omega
          show ((((cur.toList.take (off + n * i.size)) ++ ys ++ _).toArray).toList.drop off).take _ = _
          rw [show (∀ l : List Value, l.toArray.toList = l) from fun _ => rfl, List.append_assoc, List.drop_append_of_le_length hol, hto, ← List.append_assoc, ← hlen]
          exact List.take_left
      · have holds : ∀ j u, xs[j]? = some u → w.cell? ((⟨g, off, none⟩ : Addr).add j) = some u := fun j u hu => by rw [add_lit]; exact ho.cells rfl j u hu
        have hr := run_append_grow (P := P) w t ty e i z hel hi hiz ⟨g, off, none⟩ n cap xs ho.1 holds ad m c ys hyl hcells (by omega) (by omega) (growslice_fits (by omega) hbytes)
        obtain ⟨cp, h2, rfl⟩ := grown cap (by omega)
        exact ⟨_, _, hr, h2, grow _, .inr rfl⟩

variable {α : Type} {cs : α → List Value} {l : KL} {K : Value → World → Prop} {dst : Option Tmp} {pos : String} {aft : Array Go.Edge} {gd : Option (Nat × Bool)}
theorem s_append {s x : Operand} {t ty e : TypeId} {k by_ L B B0 : Nat} {z v u : Value} {xs ys : List α} (ht : elB P t = some e) (hk : sizeB P e = some k) (hb : bytesB P e = some by_) (hz : zeroB P e = some z)
    (hzs : z.cells.size = k) (hk0 : 0 < k) (h1 : ∀ x, ∀ y ∈ cs x, y.oneCell' = true) (ho : Ol cs e k w v xs) (hs : Ls cs k w L B u ys) (hx : ev l s = some v) (hy : ev l x = some u)
    (hbytes : (xs.length + ys.length) * by_ ≤ 140737488355328) (h63 : xs.length + ys.length ≤ 9223372036854775807) (hlo : Lo B0 v) (hB : B0 ≤ w.heap.size)
    (kk : ∀ v' w', Ol cs e k w' v' (xs ++ ys) → Lo B0 v' → (bl v' = bl v ∨ bl v' = [w.heap.size]) → Ch (bl v) w w' → K v' w') :
    Step P l ⟨dst, .call { callee := .builtin .append, args := #[s, x], argTypes := #[t, t] }, ty, pos, aft, gd⟩ w K := by
  obtain ⟨v', w', hr, h2, h3, h4⟩ := Ow.append (ty := ty) ht hk hb hz hzs hk0 ho hs (fun y hy => by obtain ⟨a, _, ha⟩ := List.mem_flatMap.1 hy; exact h1 a y ha) h63 hbytes
  refine Step.of (v := v') (w' := w') (fun ρ hρ => ?_) (kk v' w' ?_ ?_ h4 h3)
  · unfold execOp
    simp only [resolve, invoke, builtin, Sem.run_bind, Sem.run_pure, Result.andThen_ok, List.map_toArray, List.map_cons, List.map_nil, hρ _ _ hx, hρ _ _ hy, hr]
  · show Ow w' e k v' (xs ++ ys).length ((xs ++ ys).flatMap cs)
    rw [List.length_append, List.flatMap_append]; exact h2
  · intro g hg
    rcases h4 with h4 | h4
    · rw [h4] at hg; exact hlo g hg
    · rw [h4] at hg; have := List.mem_singleton.1 hg; omega
end
theorem ics_one (x : Int) : ∀ y ∈ ics x, y.oneCell' = true := by intro y hy; simp [ics] at hy; subst hy; rfl
theorem bcs_one (x : Bool) : ∀ y ∈ bcs x, y.oneCell' = true := by intro y hy; simp [bcs] at hy; subst hy; rfl
theorem Pair.one (x : Pair) : ∀ y ∈ x.cs, y.oneCell' = true := by intro y hy; simp [Pair.cs] at hy; rcases hy with rfl | rfl <;> rfl
theorem Token.one (x : Token) : ∀ y ∈ x.cs, y.oneCell' = true := by intro y hy; simp [Token.cs] at hy; rcases hy with rfl | rfl | rfl | rfl <;> rfl
theorem GEdge.one (x : GEdge) : ∀ y ∈ x.cs, y.oneCell' = true := by intro y hy; simp [GEdge.cs] at hy; rcases hy with rfl | rfl | rfl | rfl <;> rfl

/-! ### Slices of slices -/
structure Sv where
  A : Option Addr
  n : Nat
  c : Nat
def Sv.v (s : Sv) : Value := .slice s.A s.n s.c
def Sv.cs (s : Sv) : List Value := [.slice s.A s.n s.c]
theorem Sv.len (s : Sv) : s.cs.length = 1 := rfl
theorem Sv.one (x : Sv) : ∀ y ∈ x.cs, y.oneCell' = true := by intro y hy; simp [Sv.cs] at hy; subst hy; rfl

/-- Every slice of vs reads as the list in its place. -/
def Rd {α : Type} (cs : α → List Value) (k : Nat) (w : World) (L B : Nat) (vs : List Sv) (xs : List (List α)) : Prop :=
  vs.length = xs.length ∧ ∀ (i : Nat) (v : Sv) (x : List α), vs[i]? = some v → xs[i]? = some x → Ls cs k w L B v.v x
section
variable {α : Type} {cs : α → List Value} {k L L' B B' : Nat} {w w' : World} {vs : List Sv} {xs : List (List α)} {ws : List Nat}
theorem Rd.ch (h : Rd cs k w L B vs xs) (c : Ch ws w w') (hw : ∀ i ∈ ws, i < L ∨ B ≤ i) : Rd cs k w' L B vs xs := ⟨h.1, fun i v x a b => (h.2 i v x a b).ch c hw⟩
theorem Rd.ch0 (h : Rd cs k w L B vs xs) (c : Ch [] w w') : Rd cs k w' L B vs xs := h.ch c (by simp)
theorem Rd.up (h : Rd cs k w L B vs xs) (hL : L' ≤ L) (hB : B ≤ B') : Rd cs k w L' B' vs xs := ⟨h.1, fun i v x a b => (h.2 i v x a b).up hL hB⟩
theorem Rd.here (h : Rd cs k w L B vs xs) (hk : 0 < k) : Rd cs k w L w.heap.size vs xs := ⟨h.1, fun i v x a b => (h.2 i v x a b).here hk⟩
theorem Rd.nil : Rd cs k w L B [] ([] : List (List α)) := ⟨rfl, fun _ _ _ h => by simp at h⟩
theorem Rd.cons {v : Sv} {x : List α} (h : Ls cs k w L B v.v x) (r : Rd cs k w L B vs xs) : Rd cs k w L B (v :: vs) (x :: xs) := by
  refine ⟨by simp [r.1], fun i u y a b => ?_⟩
  cases i with
  | zero => simp at a b; subst a b; exact h
  | succ i => exact r.2 i u y (by simpa using a) (by simpa using b)
theorem Rd.get (h : Rd cs k w L B vs xs) {i : Nat} {y : Sv} (hy : vs[i]? = some y) : ∃ x, xs[i]? = some x ∧ Ls cs k w L B y.v x := by
  have hi := (List.getElem?_eq_some_iff.1 hy).1
  have hx : xs[i]? = some (xs[i]'(by have := h.1; omega)) := List.getElem?_eq_getElem _
  exact ⟨_, hx, h.2 i y _ hy hx⟩
theorem Ls.eqn {A : Option Addr} {n c : Nat} {x : List α} (h : Ls cs k w L B (Sv.v ⟨A, n, c⟩) x) : n = x.length := by
  obtain ⟨_, A', c', e, _⟩ := h
  unfold Sv.v at e
  injection e
end
theorem fl_le {α : Type} {xs : List (List α)} {k : Nat} {y : List α} (h : xs[k]? = some y) : (xs.take k).flatten.length + y.length ≤ xs.flatten.length := by
  induction xs generalizing k with
  | nil => simp at h
  | cons x xs ih =>
    cases k with
    | zero => simp at h; subst h; simp
    | succ k =>
      have := ih (k := k) (by simpa using h)
      rw [List.take_succ_cons, List.flatten_cons, List.flatten_cons, List.length_append, List.length_append]; omega
theorem fl_step {α : Type} {xs : List (List α)} {k : Nat} {y : List α} (h : xs[k]? = some y) : (xs.take k).flatten ++ y = (xs.take (k + 1)).flatten := by
  rw [List.take_add_one, h]; simp
end Go.KLib
