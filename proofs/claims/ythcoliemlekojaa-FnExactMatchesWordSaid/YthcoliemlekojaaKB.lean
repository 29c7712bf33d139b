/- Part 2 of the logic: memory. What a call changes; blocks known whole; cells that can be read; rows that the call owns; and what the operations on them do. -/
import Derived.Test.YthcoliemlekojaaKA
namespace Go.KLib

/-- From w to w' no block of w has turned but those of 'ws'. -/
structure Ch (ws : List Nat) (w w' : World) : Prop where
  os : w'.os = w.os
  tape : w'.tape = w.tape
  output : w'.output = w.output
  size : w.heap.size ≤ w'.heap.size
  block : ∀ k, k < w.heap.size → k ∉ ws → w'.heap[k]? = w.heap[k]?

theorem Ch.refl (ws : List Nat) (w : World) : Ch ws w w := ⟨rfl, rfl, rfl, Nat.le_refl _, fun _ _ _ => rfl⟩
theorem Ch.trans {ws : List Nat} {a b c : World} (h : Ch ws a b) (k : Ch ws b c) : Ch ws a c :=
  ⟨k.os.trans h.os, k.tape.trans h.tape, k.output.trans h.output, Nat.le_trans h.size k.size, fun i hi hn => (k.block i (Nat.lt_of_lt_of_le hi h.size) hn).trans (h.block i hi hn)⟩
theorem Ch.mono {ws ws' : List Nat} {a b : World} (h : Ch ws a b) (hs : ∀ k, k < a.heap.size → k ∈ ws → k ∈ ws') : Ch ws' a b :=
  ⟨h.os, h.tape, h.output, h.size, fun k hk hn => h.block k hk fun hm => hn (hs k hk hm)⟩
theorem Ch.of_nil {ws : List Nat} {a b : World} (h : Ch [] a b) : Ch ws a b := h.mono (fun _ _ hm => by cases hm)
/-- Blocks made since do not count. -/
theorem Ch.fresh {ws : List Nat} {a b : World} (h : Ch ws a b) (hf : ∀ k ∈ ws, a.heap.size ≤ k) : Ch [] a b :=
  h.mono fun k hk hm => absurd (hf k hm) (by omega)
/-- One step more, which wrote only into blocks made since 'a' (or into those of 'ws'). -/
theorem Ch.step {ws us : List Nat} {a b c : World} (h : Ch ws a b) (k : Ch us b c) (hf : ∀ i ∈ us, a.heap.size ≤ i ∨ i ∈ ws) : Ch ws a c :=
  ⟨k.os.trans h.os, k.tape.trans h.tape, k.output.trans h.output, Nat.le_trans h.size k.size, fun i hi hn =>
    (k.block i (Nat.lt_of_lt_of_le hi h.size) fun hm => by rcases hf i hm with h' | h'; omega; exact hn h').trans (h.block i hi hn)⟩
theorem Ch.drew {ws : List Nat} {a b : World} (h : Ch ws a b) : Ch ws a { b with drawn := b.drawn + 1 } := ⟨h.os, h.tape, h.output, h.size, h.block⟩
theorem Ch.below {a b : World} (h : Ch [] a b) : RowKit.Below a.heap.size a b := ⟨h.os, h.tape, h.output, h.size, fun k hk => h.block k hk (by simp)⟩
theorem Ch.of_below {a b : World} (h : RowKit.Below a.heap.size a b) : Ch [] a b := ⟨h.os, h.tape, h.output, h.size, fun k hk _ => h.block k hk⟩
theorem Ch.alloc (w : World) (o : Obj) : Ch [] w (w.alloc o) := ⟨rfl, rfl, rfl, by simp, fun k hk _ => RowKit.Below.heap_alloc w o k hk⟩
theorem Ch.setCell (w : World) (p : Addr) (v : Value) : Ch [p.block] w (w.setCell p v) :=
  ⟨rfl, rfl, rfl, by simp, fun k _ hn => RowKit.Below.heap_setCell w p v k (by simpa using hn)⟩
theorem Ch.of_grown {w w' : World} {row : Option Nat} (h : w.grownBy w' row) : Ch row.toList w w' :=
  ⟨h.os, h.tape, h.output, h.size, fun k hk hn => h.block k hk (fun e => hn (by rw [← e]; simp))⟩
theorem Ch.cell {ws : List Nat} {w w' : World} (h : Ch ws w w') {p : Addr} {u : Value} (hc : w.cell? p = some u) (hn : p.block ∉ ws) : w'.cell? p = some u :=
  (World.cell?_of_block (h.block p.block (World.block_lt_of_cell? w p hc) hn)).trans hc

theorem block_add (a : Addr) (n : Nat) : (a.add n).block = a.block := by unfold Addr.add; split <;> rfl
theorem add_add (a : Addr) (i j : Nat) : (a.add i).add j = a.add (i + j) := by
  unfold Addr.add
  by_cases hi : i = 0 <;> by_cases hj : j = 0 <;> simp [hi, hj, Nat.add_assoc]
theorem add_lit (b o n : Nat) : (⟨b, o, none⟩ : Addr).add n = ⟨b, o + n, none⟩ := by unfold Addr.add; split <;> simp_all

/-- From address p on the cells cs can be read; the block lies in L .. B. -/
def At (w : World) (L B : Nat) (p : Addr) (cs : List Value) : Prop := (L ≤ p.block ∧ p.block < B) ∧ ∀ j u, cs[j]? = some u → w.cell? (p.add j) = some u

section
variable {w w' : World} {L L' B B' : Nat} {p : Addr} {cs : List Value} {ws : List Nat}
theorem At.ch (h : At w L B p cs) (c : Ch ws w w') (hw : ∀ k ∈ ws, k < L ∨ B ≤ k) : At w' L B p cs :=
  ⟨h.1, fun j u hu => c.cell (h.2 j u hu) (by rw [block_add]; intro hm; have := hw _ hm; have := h.1; omega)⟩
theorem At.ch0 (h : At w L B p cs) (c : Ch [] w w') : At w' L B p cs := h.ch c (by simp)
theorem At.up (h : At w L B p cs) (hL : L' ≤ L) (hB : B ≤ B') : At w L' B' p cs := ⟨⟨Nat.le_trans hL h.1.1, Nat.lt_of_lt_of_le h.1.2 hB⟩, h.2⟩
theorem At.cell (h : At w L B p cs) (j : Nat) {u : Value} (hu : cs[j]? = some u) : w.cell? (p.add j) = some u := h.2 j u hu
theorem At.sub (h : At w L B p cs) (o n : Nat) : At w L B (p.add o) ((cs.drop o).take n) := by
  refine ⟨by rw [block_add]; exact h.1, fun j u hu => ?_⟩
  rw [add_add]
  refine h.2 (o + j) u ?_
  rw [List.getElem?_take] at hu
  split at hu
  · rwa [List.getElem?_drop] at hu
  · cases hu
theorem At.lt (h : At w L B p cs) : p.block < B := h.1.2
end

/-- Block b is just the cells cs. -/
def Blk (w : World) (b : Nat) (t : TypeId) (cs : List Value) : Prop := w.heap[b]? = some (.cells cs.toArray t (0, 0))

section
variable {w w' : World} {b : Nat} {t : TypeId} {cs : List Value} {ws : List Nat}
theorem Blk.lt (h : Blk w b t cs) : b < w.heap.size := by
  rcases Nat.lt_or_ge b w.heap.size with hlt | hge
  · exact hlt
  · unfold Blk at h; rw [Array.getElem?_eq_none hge] at h; cases h
theorem Blk.ch (h : Blk w b t cs) (c : Ch ws w w') (hn : b ∉ ws) : Blk w' b t cs := (c.block b h.lt hn).trans h
theorem Blk.ch0 (h : Blk w b t cs) (c : Ch [] w w') : Blk w' b t cs := h.ch c (by simp)
theorem Blk.cell (h : Blk w b t cs) (i : Nat) : w.cell? ⟨b, i, none⟩ = cs[i]? := by
  unfold Blk at h
  simp [World.cell?, h]
theorem Blk.at_ (h : Blk w b t cs) : At w b (b + 1) ⟨b, 0, none⟩ cs :=
  ⟨⟨Nat.le_refl b, Nat.lt_succ_self b⟩, fun j u hu => by rw [add_lit, h.cell]; simpa using hu⟩
theorem Blk.frozen (h : Blk w b t cs) (i : Nat) : w.frozen? ⟨b, i, none⟩ = false := by
  unfold Blk at h
  simp [World.frozen?, h]
theorem Blk.new (w : World) (t : TypeId) (cs : List Value) : Blk (w.alloc (.cells cs.toArray t)) w.heap.size t cs := heap_alloc_new w _
theorem Blk.set (h : Blk w b t cs) (i : Nat) (u : Value) : Blk (w.setCell ⟨b, i, none⟩ u) b t (cs.set i u) := by
  unfold Blk at h ⊢
  simp [World.setCell, Array.getElem?_modify, h]
end

/-- A slice of n elements of k cells each, nil or not, whose cells are xs and lie below block B. -/
def Sl (w : World) (L B k : Nat) (v : Value) (n : Nat) (xs : List Value) : Prop :=
  xs.length = n * k ∧ ∃ A c, v = .slice A n c ∧ n ≤ c ∧ c ≤ maxLen ∧ (0 < n → ∃ ad, A = some ad ∧ At w L B ad xs)

section
variable {w w' : World} {L L' B B' k n : Nat} {v : Value} {xs : List Value} {ws : List Nat}
theorem Sl.ch (h : Sl w L B k v n xs) (c : Ch ws w w') (hw : ∀ i ∈ ws, i < L ∨ B ≤ i) : Sl w' L B k v n xs := by
  obtain ⟨hl, A, cp, hv, h1, h2, h3⟩ := h
  exact ⟨hl, A, cp, hv, h1, h2, fun hn => let ⟨ad, he, ha⟩ := h3 hn; ⟨ad, he, ha.ch c hw⟩⟩
theorem Sl.ch0 (h : Sl w L B k v n xs) (c : Ch [] w w') : Sl w' L B k v n xs := h.ch c (by simp)
theorem Sl.up (h : Sl w L B k v n xs) (hL : L' ≤ L) (hB : B ≤ B') : Sl w L' B' k v n xs := by
  obtain ⟨hl, A, cp, hv, h1, h2, h3⟩ := h
  exact ⟨hl, A, cp, hv, h1, h2, fun hn => let ⟨ad, he, ha⟩ := h3 hn; ⟨ad, he, ha.up hL hB⟩⟩
theorem Sl.nil (w : World) (L B k : Nat) : Sl w L B k (.slice none 0 0) 0 [] := ⟨by simp, none, 0, rfl, Nat.le_refl _, Nat.zero_le _, fun h => absurd h (by omega)⟩
theorem Sl.len_le (h : Sl w L B k v n xs) : n ≤ 9223372036854775807 := by
  obtain ⟨_, _, _, _, h1, h2, _⟩ := h
  simp only [maxLen] at h2
  omega
end

/-- A row that is the call's own, of which the slice v shows n elements with the cells xs; it may grow to its capacity. -/
def Ow (w : World) (e : TypeId) (k : Nat) (v : Value) (n : Nat) (xs : List Value) : Prop :=
  xs.length = n * k ∧ ((v = .slice none 0 0 ∧ n = 0) ∨
    ∃ g off cap cur, v = .slice (some ⟨g, off, none⟩) n cap ∧ w.heap[g]? = some (.cells cur e (0, 0)) ∧ n ≤ cap ∧ cap ≤ maxLen ∧ off + cap * k ≤ cur.size ∧ (cur.toList.drop off).take (n * k) = xs)

/-- The block of a slice. -/
def bl (v : Value) : List Nat := v.ownBlock.toList
/-- The slice's block, if it has one, is B or later. -/
def Lo (B : Nat) (v : Value) : Prop := ∀ g ∈ bl v, B ≤ g

section
variable {w w' : World} {L L' B B' k n : Nat} {e : TypeId} {v : Value} {xs : List Value} {ws : List Nat}
theorem Ow.nil (w : World) (e : TypeId) (k : Nat) : Ow w e k (.slice none 0 0) 0 [] := ⟨by simp, .inl ⟨rfl, rfl⟩⟩
theorem Lo.nil (B : Nat) : Lo B (.slice none 0 0) := by intro g hg; simp [bl, Value.ownBlock] at hg
theorem Lo.down (h : Lo B v) (hB : B' ≤ B) : Lo B' v := fun g hg => Nat.le_trans hB (h g hg)
theorem Ow.lt (h : Ow w e k v n xs) : ∀ g ∈ bl v, g < w.heap.size := by
  intro g hg
  rcases h.2 with ⟨rfl, _⟩ | ⟨g', off, cap, cur, rfl, hgg, _⟩
  · simp [bl, Value.ownBlock] at hg
  · simp [bl, Value.ownBlock] at hg
    subst hg
    exact (Array.getElem?_eq_some_iff.1 hgg).1
theorem Ow.ch (h : Ow w e k v n xs) (c : Ch ws w w') (hn : ∀ g ∈ bl v, g ∉ ws) : Ow w' e k v n xs := by
  refine ⟨h.1, ?_⟩
  rcases h.2 with h0 | ⟨g, off, cap, cur, rfl, hg, rest⟩
  · exact .inl h0
  · exact .inr ⟨g, off, cap, cur, rfl, by rw [c.block g (Array.getElem?_eq_some_iff.1 hg).1 (hn g (by simp [bl, Value.ownBlock]))]; exact hg, rest⟩
theorem Ow.ch0 (h : Ow w e k v n xs) (c : Ch [] w w') : Ow w' e k v n xs := h.ch c (by simp)
/-- In another call's changes: its blocks are older than the row. -/
theorem Ow.chLo (h : Ow w e k v n xs) (c : Ch ws w w') (hl : Lo B v) (hw : ∀ i ∈ ws, i < B) : Ow w' e k v n xs :=
  h.ch c fun g hg hm => by have := hl g hg; have := hw g hm; omega
theorem Ow.cells (h : Ow w e k v n xs) {g off cap : Nat} (hv : v = .slice (some ⟨g, off, none⟩) n cap) : ∀ j u, xs[j]? = some u → w.cell? ⟨g, off + j, none⟩ = some u := by
  intro j u hu
  rcases h.2 with ⟨rfl, _⟩ | ⟨g', off', cap', cur, rfl, hg, _, _, _, ht⟩
  · cases hv
  · injection hv with h1 _ h3
    injection h1 with h1
    injection h1 with h1 h2
    subst h1 h2
    rw [← ht, List.getElem?_take] at hu
    split at hu
    · rw [List.getElem?_drop] at hu
      simpa [World.cell?, hg] using hu
    · cases hu
theorem Ow.sl (h : Ow w e k v n xs) : Sl w 0 w.heap.size k v n xs := by
  refine ⟨h.1, ?_⟩
  have hc := fun g off cap => h.cells (g := g) (off := off) (cap := cap)
  rcases h.2 with ⟨rfl, rfl⟩ | ⟨g, off, cap, cur, rfl, hg, h1, h2, h3, _⟩
  · exact ⟨none, 0, rfl, Nat.le_refl _, Nat.zero_le _, fun h => absurd h (by omega)⟩
  · exact ⟨_, cap, rfl, h1, h2, fun _ => ⟨_, rfl, ⟨Nat.zero_le _, (Array.getElem?_eq_some_iff.1 hg).1⟩, fun j u hu => by rw [add_lit]; exact hc g off cap rfl j u hu⟩⟩
/-- A row behind a new block. -/
theorem Ow.made (w : World) (e : TypeId) (k cap : Nat) (cur : Array Value) (n : Nat) (hn : n ≤ cap) (hm : cap ≤ maxLen) (hs : cur.size = cap * k) :
    Ow (w.alloc (.cells cur e)) e k (.slice (some ⟨w.heap.size, 0, none⟩) n cap) n (cur.toList.take (n * k)) := by
  refine ⟨?_, .inr ⟨w.heap.size, 0, cap, cur, rfl, heap_alloc_new w _, hn, hm, by omega, by simp⟩⟩
  rw [List.length_take, Array.length_toList, hs]
  exact Nat.min_eq_left (Nat.mul_le_mul_right _ hn)
theorem Ow.len_le (h : Ow w e k v n xs) : n ≤ 9223372036854775807 := h.sl.len_le
end

/-- A region that draws its order: its loads may count on every block but 'ws'. -/
theorem W_drawC {P : Program} {N : Nat} {ops : Array Oper} {Q : Po} {id : Nat} {l : KL} {w : World} (ws : List Nat) (n : Nat) (hm : P.follows .mixedOrders = true) (hn : ops.size = n)
    (h : ∀ w1, Ch [] w w1 → DR P N ops Q (Ch ws w1) n (Array.replicate n false) l w1) : W P N (.region id ops true) Q l w := by
  subst hn
  exact W_draw (Ch ws { w with drawn := w.drawn + 1 }) hm (Ch.refl _ _) (h _ (Ch.refl [] w).drew)

/-- The bound of a readable slice may be the size of the heap. -/
theorem Sl.here {w : World} {L B k n : Nat} {v : Value} {xs : List Value} (h : Sl w L B k v n xs) (hk : 0 < k) : Sl w L w.heap.size k v n xs := by
  obtain ⟨hl, A, c, hv, h1, h2, h3⟩ := h
  refine ⟨hl, A, c, hv, h1, h2, fun hn => ?_⟩
  obtain ⟨ad, he, hb, ha⟩ := h3 hn
  refine ⟨ad, he, ⟨hb.1, ?_⟩, ha⟩
  have hx : 0 < xs.length := by rw [hl]; exact Nat.mul_pos hn hk
  have := World.block_lt_of_cell? w _ (ha 0 _ (List.getElem?_eq_getElem hx))
  rwa [block_add] at this

end Go.KLib
