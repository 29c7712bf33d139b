/- Views of rows of one's own (a slice of a slice), and clearing one. -/
import Derived.Test.YthcoliemlekojaaJS
namespace Go.KLib
open Go.Sort

theorem zero_flat {α : Type} [Inhabited α] {cs : α → List Value} {k : Nat} (hc : ∀ x, (cs x).length = k) (z : Array Value) (z0 : α) (hz : z.toList = cs z0) (n : Nat) :
    (Builtin.zeroCells z n).toList = (List.replicate n z0).flatMap cs := by
  have hs : z.size = k := by rw [← Array.length_toList, hz, hc]
  have h := flatK_flat hc (List.replicate n z0)
  have e : Builtin.zeroCells z n = flatK cs k (List.replicate n z0).toArray := by
    unfold Builtin.zeroCells flatK
    rw [hs]
    simp only [List.size_toArray, List.length_replicate]
    apply Array.ext
    · simp
    · intro i h1 h2
      have hi : i < n * k := by simpa using h1
      simp only [Array.getElem_map, Array.getElem_range]
      have k0 : 0 < k := by
        rcases Nat.eq_zero_or_pos k with q | q
        · subst q; simp at hi
        · exact q
      have hq : i / k < n := (Nat.div_lt_iff_lt_mul k0).2 hi
      have hr : i % k < k := Nat.mod_lt _ k0
      have e1 : (List.replicate n z0).toArray[i / k]! = z0 := by
        rw [getElem!_pos _ _ (by simpa using hq)]; simp
      rw [e1, ← hz]
      rw [getElem!_pos z (i % k) (by omega), getElem!_pos z.toList (i % k) (by simp; omega)]
      simp
  rw [e, h]
theorem list_clear {β : Type} (C Z : List β) (off a : Nat) (h : off + a ≤ C.length) : ((C.take (off + a) ++ Z ++ C.drop (off + a + Z.length)).drop off).take (a + Z.length) = ((C.drop off).take a) ++ Z := by
  have h1 : ((C.drop off).take a).length = a := by rw [List.length_take, List.length_drop]; omega
  rw [List.append_assoc, List.drop_append_of_le_length (by rw [List.length_take]; omega), List.drop_take, show off + a - off = a by omega, ← List.append_assoc]
  rw [List.take_append_of_le_length (by rw [List.length_append, h1]; omega), List.take_of_length_le (by rw [List.length_append, h1]; omega)]
section
variable {P : Program} {w : World} {l : KL} {dst : Option Tmp} {ty : TypeId} {pos : String} {aft : Array Go.Edge} {gd : Option (Nat × Bool)} {K : Value → World → Prop}
variable {α : Type} {cs : α → List Value} {e k : Nat} {v : Value} {xs : List α}
theorem s_cutOV {e' : TypeId} {x : Operand} {t : TypeId} {Lo Hi : Option Operand} {ys : List α} (lo hi : Nat) (hs : Ol cs e' k w v xs) (hc : ∀ x, (cs x).length = k) (ht : elB P t = some e) (hk : sizeB P e = some k) (hx : ev l x = some v)
    (hL : bndB l Lo 0 lo) (hH : bndB l Hi xs.length hi) (h1 : lo ≤ hi) (h2 : hi ≤ xs.length) (hy : (xs.drop lo).take (hi - lo) = ys)
    (kk : ∀ v', v' = cutV v k lo hi → Ol cs e' k w v' ys → bl v' = bl v → ys.length = hi - lo → K v' w) : Step P l ⟨dst, .slice t x Lo Hi none, ty, pos, aft, gd⟩ w K :=
  Step.of (r_cut hs.ls ht hk hx hL hH h1 h2) (kk _ rfl (hy ▸ hs.cut hc h1 h2) (cut_bl _ _ _ _) (by rw [← hy, List.length_take, List.length_drop]; omega))
/-- a view, read anew from its row -/
theorem Ol.view {e' : TypeId} {v' : Value} {lo hi : Nat} (hs : Ol cs e' k w v xs) (hv : v' = cutV v k lo hi) (hc : ∀ x, (cs x).length = k) (h1 : lo ≤ hi) (h2 : hi ≤ xs.length) : Ol cs e' k w v' ((xs.drop lo).take (hi - lo)) := hv ▸ hs.cut hc h1 h2
theorem s_clear [Inhabited α] {x : Operand} {t : TypeId} {e' : TypeId} {u zv : Value} {zro : α} {lo : Nat} (hs : Ol cs e' k w v xs) (hu : u = cutV v k lo xs.length) (hc : ∀ x, (cs x).length = k) (ht : elB P t = some e) (hk : sizeB P e = some k) (hz : zeroB P e = some zv) (hzc : zv.cells.toList = cs zro)
    (h1 : ∀ y ∈ cs zro, y.oneCell' = true) (hx : ev l x = some u) (hlo : lo ≤ xs.length)
    (kk : ∀ w', Ol cs e' k w' v (xs.take lo ++ List.replicate (xs.length - lo) zro) → Ch (bl v) w w' → K (.tuple #[]) w') :
    Step P l ⟨dst, .call { callee := .builtin .clear, args := #[x], argTypes := #[t] }, ty, pos, aft, gd⟩ w K := by
  rcases Nat.eq_or_lt_of_le hlo with he | hlt
  · have e0 : ∃ A c, u = .slice A 0 c := by
      obtain ⟨hl, h⟩ := hs
      rcases h with ⟨rfl, h0⟩ | ⟨g, off, cap, cur, rfl, _⟩
      · rw [hu, he]; exact ⟨_, _, by simp only [cutV, sliced, Nat.sub_self]; rfl⟩
      · rw [hu, he]; exact ⟨_, _, by simp only [cutV, sliced, Nat.sub_self]; rfl⟩
    obtain ⟨A, c, hA⟩ := e0
    refine Step.of (v := .tuple #[]) (w' := w) (fun ρ hρ => ?_) (kk w ?_ (Ch.refl _ _))
    · have h2 := hρ _ _ hx
      cases A with
      | none => simp [execOp, resolve, invoke, builtin, Builtin.clear_, run_underlying (elB_spec ht), h2, hA]
      | some ad => simp [execOp, resolve, invoke, builtin, Builtin.clear_, run_underlying (elB_spec ht), h2, hA]
    · rw [he]; simpa using hs
  · obtain ⟨hl, h⟩ := hs
    rcases h with ⟨rfl, h0⟩ | ⟨g, off, cap, cur, rfl, hg, hn, hm, hf, ht2⟩
    · omega
    · have hcl : ¬ cap = lo := by omega
      have hu2 : u = .slice (some ⟨g, off + lo * k, none⟩) (xs.length - lo) (cap - lo) := by
        rw [hu]; simp only [cutV, sliced]
        rw [if_neg hcl]
        simp [add_lit]
      have hzf := zero_flat hc zv.cells zro hzc (xs.length - lo)
      have hzl : ((List.replicate (xs.length - lo) zro).flatMap cs).length = (xs.length - lo) * k := by rw [flat_len hc]; simp
      have hsum : lo * k + (xs.length - lo) * k = xs.length * k := by rw [← Nat.add_mul]; congr 1; omega
      have hcap : xs.length * k ≤ cap * k := Nat.mul_le_mul_right k hn
      have hst := run_storeCells_at (P := P) g (off + lo * k) e' ((List.replicate (xs.length - lo) zro).flatMap cs) 0 cur w hg (by rw [hzl]; omega) (by
        intro y hy
        obtain ⟨a, ha, hb⟩ := List.mem_flatMap.1 hy
        rw [(List.mem_replicate.1 ha).2] at hb
        exact h1 y hb)
      refine Step.of (v := .tuple #[]) (w' := w.setRow g (cur.toList.take (off + lo * k) ++ (List.replicate (xs.length - lo) zro).flatMap cs ++ cur.toList.drop (off + lo * k + ((List.replicate (xs.length - lo) zro).flatMap cs).length)).toArray) (fun ρ hρ => ?_) (kk _ ?_ (Ch.setRow w g _))
      · have h2 := hρ _ _ hx
        simp only [Nat.add_zero] at hst
        obtain ⟨m, hm2⟩ : ∃ m, xs.length - lo = m + 1 := ⟨xs.length - lo - 1, by omega⟩
        rw [hu2] at h2
        rw [hm2] at h2 hzf hst ⊢
        simp [execOp, resolve, invoke, builtin, Builtin.clear_, run_underlying (elB_spec ht), h2, run_zeroB hz, hzf, hst]
      · refine ⟨by rw [flat_len hc], .inr ⟨g, off, cap, _, ?_, heap_setRow_same hg, by simp; omega, hm, ?_, ?_⟩⟩
        · simp; omega
        · simp only [List.size_toArray, List.length_append, List.length_take, List.length_drop, Array.length_toList, hzl]; omega
        · have hlen : (xs.take lo ++ List.replicate (xs.length - lo) zro).length = xs.length := by simp; omega
          rw [List.flatMap_append, flat_take hc, ← ht2, hlen, List.take_take, show min (lo * k) (xs.length * k) = lo * k by omega]
          have hcl2 : cur.toList.length = cur.size := Array.length_toList
          have := list_clear cur.toList ((List.replicate (xs.length - lo) zro).flatMap cs) off (lo * k) (by omega)
          rw [hzl, hsum] at this
          rw [hzl]
          exact this
end

/-! ### Steps of the loops over pairs -/
theorem nomem_step {β : Type} {l : List β} {k : Nat} {p y : β} (h : p ∉ l.take k) (hy : l[k]? = some y) (hn : ¬ y = p) : p ∉ l.take (k + 1) := by
  rw [take_snoc hy]
  intro q
  rcases List.mem_append.1 q with q | q
  · exact h q
  · exact hn (List.mem_singleton.1 q).symm
theorem nomem_end {β : Type} {l : List β} {k : Nat} {p : β} (h : p ∉ l.take k) (hk : l.length ≤ k) : p ∉ l := by rwa [List.take_of_length_le hk] at h
theorem pl_step {l : List Pair} {k : Nat} {p y : Pair} (h : ∀ i x, i < k → l[i]? = some x → lessP x p) (hy : l[k]? = some y) (hl : lessP y p) : ∀ i x, i < k + 1 → l[i]? = some x → lessP x p := by
  intro i x hi hx
  rcases Nat.lt_or_ge i k with q | q
  · exact h i x q hx
  · rw [show i = k by omega, hy] at hx; injection hx with hx; rw [← hx]; exact hl
section
variable {α : Type} [DecidableEq α]
/-- nothing twice in a row, so far -/
theorem cp_same {l : List α} {k : Nat} {x y : α} (h : cptN l k = l.take k) (hk : 1 ≤ k) (hy : l[k]? = some y) (hx : l[k - 1]? = some x) (hn : ¬ y = x) : cptN l (k + 1) = l.take (k + 1) := by
  obtain ⟨j, rfl⟩ : ∃ j, k = j + 1 := ⟨k - 1, by omega⟩
  rw [cptN_n hy (by simpa using hx) (fun e => hn e.symm), h, ← take_snoc hy]
theorem cp_one {l : List α} : cptN l 1 = l.take 1 := by
  cases l with
  | nil => rfl
  | cons a l => simp [cptN]
theorem cp_zero {l : List α} (h : l.length < 2) : cpt l = l := by
  unfold cpt
  rcases Nat.lt_or_ge l.length 1 with q | q
  · rw [List.eq_nil_of_length_eq_zero (show l.length = 0 by omega)]; rfl
  · rw [show l.length = 1 by omega, cp_one, List.take_of_length_le (by omega)]
theorem cp_all {l : List α} {k : Nat} (h : cptN l k = l.take k) (hk : l.length ≤ k) : cpt l = l := by rw [← cptN_more hk, h, List.take_of_length_le hk]
/-- the second loop of compacting: L is what the row holds, m elements are settled, q have been looked at -/
structure CpI (s L : List α) (m q : Nat) : Prop where
  len : L.length = s.length
  m1 : 1 ≤ m
  mq : m ≤ q - 1
  q1 : q ≤ s.length
  set : L.take m = cptN s q
  rest : L.drop (q - 1) = s.drop (q - 1)
theorem cpi_0 {s : List α} {k : Nat} {x y : α} (h : cptN s k = s.take k) (hk : 1 ≤ k) (hy : s[k]? = some y) (hx : s[k - 1]? = some x) (he : y = x) : CpI s s k (k + 1) := by
  obtain ⟨j, rfl⟩ : ∃ j, k = j + 1 := ⟨k - 1, by omega⟩
  have := (List.getElem?_eq_some_iff.1 hy).1
  exact ⟨rfl, by omega, by omega, by omega, by rw [cptN_y hy (by simpa using hx) he.symm, h], rfl⟩
theorem cpi_get {s L : List α} {m q k j n : Nat} {y : α} (h : CpI s L m q) (hy : (((L.drop k).take n)[j]?) = some y) (hj : q - 1 ≤ k + j) : s[k + j]? = some y := by
  rw [List.getElem?_take] at hy
  split at hy
  · rw [List.getElem?_drop] at hy
    obtain ⟨d, hd⟩ : ∃ d, k + j = (q - 1) + d := ⟨k + j - (q - 1), by omega⟩
    rw [hd, ← List.getElem?_drop, ← h.rest, List.getElem?_drop, ← hd]; exact hy
  · cases hy
theorem cpi_y {s L : List α} {m q : Nat} {x y : α} (h : CpI s L m q) (hy : s[q]? = some y) (hx : s[q - 1]? = some x) (he : y = x) : CpI s L m (q + 1) := by
  obtain ⟨j, rfl⟩ : ∃ j, q = j + 1 := ⟨q - 1, by have := h.m1; have := h.mq; omega⟩
  have hl := (List.getElem?_eq_some_iff.1 hy).1
  have h1 := h.mq
  refine ⟨h.len, h.m1, by omega, by omega, by rw [cptN_y hy (by simpa using hx) he.symm]; exact h.set, ?_⟩
  have := congrArg (List.drop 1) h.rest
  simp only [List.drop_drop, Nat.add_sub_cancel] at this ⊢
  exact this
theorem cpi_n {s L : List α} {m q : Nat} {x y : α} (h : CpI s L m q) (hy : s[q]? = some y) (hx : s[q - 1]? = some x) (he : ¬ y = x) : CpI s (L.set m y) (m + 1) (q + 1) := by
  obtain ⟨j, rfl⟩ : ∃ j, q = j + 1 := ⟨q - 1, by have := h.m1; have := h.mq; omega⟩
  have hl := (List.getElem?_eq_some_iff.1 hy).1
  have h1 := h.mq
  have h2 := h.len
  refine ⟨by simp [h.len], by omega, by omega, by omega, ?_, ?_⟩
  · rw [cptN_n hy (by simpa using hx) (fun e => he e.symm), ← h.set, List.take_add_one, List.take_set_of_le (Nat.le_refl _), List.getElem?_set_self (by omega)]; rfl
  · have := congrArg (List.drop 1) h.rest
    simp only [List.drop_drop, Nat.add_sub_cancel] at this ⊢
    rw [List.drop_set_of_lt (by omega)]
    exact this
theorem cpi_end {s L : List α} {m q : Nat} {z : List α} (h : CpI s L m q) (hq : s.length ≤ q) : (L.take m ++ z).take m = cpt s := by
  have h1 := h.mq
  have h2 := h.len
  have h3 := h.q1
  rw [List.take_append_of_le_length (by rw [List.length_take]; omega), List.take_of_length_le (by rw [List.length_take]; omega), h.set, cptN_more hq]
/-- the first place at which p holds, or -1 -/
def ixP {β : Type} (p : β → Bool) (l : List β) : Int := if l.any p then ((l.findIdx p : Nat) : Int) else -1
theorem ixP_y {β : Type} {p : β → Bool} {l : List β} {k : Nat} {y : β} (h : (l.take k).any p = false) (hy : l[k]? = some y) (hp : p y = true) : (k : Int) = ixP p l := by
  have hk := (List.getElem?_eq_some_iff.1 hy).1
  unfold ixP
  rw [if_pos (List.any_eq_true.2 ⟨y, mem_of_get hy, hp⟩)]
  congr 1
  symm
  rw [List.findIdx_eq hk]
  refine ⟨?_, fun j hj => ?_⟩
  · have := (List.getElem?_eq_some_iff.1 hy).2
    rw [this]; exact hp
  · have h2 := List.any_eq_false.1 h (l[j]'(by omega)) (List.mem_take_iff_getElem.2 ⟨j, by omega, rfl⟩)
    simpa using h2
theorem ixP_n {β : Type} {p : β → Bool} {l : List β} {k : Nat} (h : (l.take k).any p = false) (hk : l.length ≤ k) : -1 = ixP p l := by
  rw [List.take_of_length_le hk] at h
  unfold ixP; rw [h]; rfl
theorem ixP_step {β : Type} {p : β → Bool} {l : List β} {k : Nat} {y : β} (h : (l.take k).any p = false) (hy : l[k]? = some y) (hp : p y = false) : (l.take (k + 1)).any p = false := by
  rw [take_snoc hy, List.any_append, h]; simp [hp]
theorem ixP_mem {l : List α} {x : α} : decide (0 ≤ ixP (fun y => decide (x = y)) l) = decide (x ∈ l) := by
  unfold ixP
  by_cases h : x ∈ l
  · rw [if_pos (List.any_eq_true.2 ⟨x, h, by simp⟩)]; simp [h]
  · rw [if_neg (fun q => h (by obtain ⟨y, h1, h2⟩ := List.any_eq_true.1 q; simp at h2; rw [h2]; exact h1))]; simp [h]
theorem ixP_none {β : Type} {p : β → Bool} {l : List β} (h : ixP p l = -1) : l.filter (fun x => !p x) = l := by
  unfold ixP at h
  split at h
  · omega
  · rename_i hn
    rw [List.filter_eq_self]
    intro a ha
    have := List.any_eq_false.1 (Bool.eq_false_iff.2 hn) a ha
    simpa using this
/-- deleting in place: L is what the row holds, i elements are kept, j have been looked at -/
structure DfI {β : Type} (p : β → Bool) (s L : List β) (i j : Nat) : Prop where
  len : L.length = s.length
  ij : i < j
  jl : j ≤ s.length
  set : L.take i = (s.take j).filter (fun x => !p x)
  rest : L.drop j = s.drop j
theorem dfi_0 {β : Type} {p : β → Bool} {s : List β} (h : ¬ ixP p s = -1) : ∃ k : Nat, ixP p s = k ∧ DfI p s s k (k + 1) := by
  unfold ixP at h ⊢
  split at h
  · rename_i ha
    refine ⟨s.findIdx p, by rw [if_pos ha], rfl, by omega, ?_, ?_, rfl⟩
    · obtain ⟨y, h1, h2⟩ := List.any_eq_true.1 ha
      exact List.findIdx_lt_length_of_exists ⟨y, h1, h2⟩
    · have hl : s.findIdx p < s.length := by
        obtain ⟨y, h1, h2⟩ := List.any_eq_true.1 ha
        exact List.findIdx_lt_length_of_exists ⟨y, h1, h2⟩
      have hg := List.findIdx_getElem (w := hl)
      rw [List.take_add_one, List.getElem?_eq_getElem hl, List.filter_append]
      have e1 : (s.take (s.findIdx p)).filter (fun x => !p x) = s.take (s.findIdx p) := by
        rw [List.filter_eq_self]
        intro a ha2
        obtain ⟨j, hj1, hj2⟩ := List.mem_take_iff_getElem.1 ha2
        have := List.not_of_lt_findIdx (p := p) (xs := s) (i := j) (by omega)
        rw [hj2] at this
        simpa using this
      rw [e1]
      simp [hg]
  · exact absurd rfl h
theorem dfi_get {β : Type} {p : β → Bool} {s L : List β} {i j : Nat} {y : β} (h : DfI p s L i j) (hy : L[j]? = some y) : s[j]? = some y := by
  have := congrArg (fun l => l[0]?) h.rest
  simp only [List.getElem?_drop, Nat.add_zero] at this
  rw [← this]; exact hy
theorem dfi_y {β : Type} {p : β → Bool} {s L : List β} {i j : Nat} {y : β} (h : DfI p s L i j) (hy : L[j]? = some y) (hp : p y = true) : DfI p s L i (j + 1) := by
  have hs := dfi_get h hy
  have h1 := h.ij
  refine ⟨h.len, by omega, (List.getElem?_eq_some_iff.1 hs).1, ?_, ?_⟩
  · rw [take_snoc hs, List.filter_append, h.set]; simp [hp]
  · have := congrArg (List.drop 1) h.rest
    simpa [List.drop_drop] using this
theorem dfi_n {β : Type} {p : β → Bool} {s L : List β} {i j : Nat} {y : β} (h : DfI p s L i j) (hy : L[j]? = some y) (hp : p y = false) : DfI p s (L.set i y) (i + 1) (j + 1) := by
  have hs := dfi_get h hy
  have h1 := h.ij
  have h2 := (List.getElem?_eq_some_iff.1 hs).1
  have h3 := h.len
  refine ⟨by simp [h.len], by omega, h2, ?_, ?_⟩
  · rw [take_snoc hs, List.filter_append, ← h.set, List.take_add_one, List.take_set_of_le (Nat.le_refl _), List.getElem?_set_self (by omega)]; simp [hp]
  · have := congrArg (List.drop 1) h.rest
    rw [List.drop_drop, List.drop_drop] at this
    rw [List.drop_set_of_lt (by omega)]
    exact this
theorem dfi_end {β : Type} {p : β → Bool} {s L z : List β} {i j : Nat} (h : DfI p s L i j) (hj : s.length ≤ j) : (L.take i ++ z).take i = s.filter (fun x => !p x) := by
  have h1 := h.ij
  have h2 := h.len
  have h3 := h.jl
  rw [List.take_append_of_le_length (by rw [List.length_take]; omega), List.take_of_length_le (by rw [List.length_take]; omega), h.set, List.take_of_length_le hj]
end
theorem psLen (l : List Pair) : (psP l).length ≤ l.length := ps_len l
theorem psSrt (l : List Pair) : SrtP (psP l) := ps_srt l
theorem psStep {a : List Pair} {k : Nat} {p : Pair} (h : a[k]? = some p) : psP (a.take (k + 1)) = putP (psP (a.take k)) p := ps_step h
theorem psStep2 {a b : List Pair} {k : Nat} {p : Pair} (h : b[k]? = some p) : psP (a ++ b.take (k + 1)) = putP (psP (a ++ b.take k)) p := ps_step2 h
end Go.KLib
