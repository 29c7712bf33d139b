/- Sorting pairs: the library's summary as a contract over rows of one's own. -/
import Derived.Test.YthcoliemlekojaaJR
import Derived.Ground.SlsfProg
import Derived.Shelf.SlSortCmp.NoneTotal
namespace Go.KLib
open Go.Sort Go.RowKit Go.Shelf Go.Proofs

instance : Inhabited Pair := ⟨⟨0, 0⟩⟩

theorem flatK_flat {α : Type} [Inhabited α] {cs : α → List Value} {k : Nat} (hc : ∀ x, (cs x).length = k) (xs : List α) : flatK cs k xs.toArray = (xs.flatMap cs).toArray := by
  apply Array.ext
  · simp [flat_len hc]
  · intro t h1 h2
    have ht : t < xs.length * k := by simpa using h1
    have k0 : 0 < k := by
      rcases Nat.eq_zero_or_pos k with h | h
      · subst h; simp at ht
      · exact h
    have hq : t / k < xs.length := (Nat.div_lt_iff_lt_mul k0).2 ht
    have hr : t % k < k := Nat.mod_lt _ k0
    have e1 := flat_get hc xs (t / k) _ (List.getElem?_eq_getElem hq)
    have e2 : ((xs.flatMap cs).drop (t / k * k)).take k = cs xs[t / k] := e1
    have e3 : (((xs.flatMap cs).drop (t / k * k)).take k)[t % k]? = (cs xs[t / k])[t % k]? := by rw [e2]
    rw [List.getElem?_take, if_pos hr, List.getElem?_drop, Nat.div_add_mod' t k] at e3
    have e4 := get_flatK cs k xs.toArray t (by simpa using ht)
    rw [getElem!_pos _ t h1] at e4
    rw [e4]
    simp only [List.getElem_toArray]
    have hlt : t < (xs.flatMap cs).length := by rw [flat_len hc]; exact ht
    have hcl : t % k < (cs xs[t / k]).length := by rw [hc]; exact hr
    rw [List.getElem?_eq_getElem hlt, List.getElem?_eq_getElem hcl] at e3
    injection e3 with e3
    rw [e3]
    rw [getElem!_pos (xs.toArray) (t / k) (by simpa using hq)]
    simp only [List.getElem_toArray]
    rw [getElem!_pos _ (t % k) hcl]
section
variable {α : Type} [Inhabited α] {cs : α → List Value} {k : Nat} {w : World} {e : TypeId} {g off cap n : Nat} {xs ys : List α}
theorem ol_holdsK (hc : ∀ x, (cs x).length = k) (h : Ol cs e k w (.slice (some ⟨g, off, none⟩) n cap) xs) :
    n = xs.length ∧ g < w.heap.size ∧ xs.length ≤ cap ∧ cap ≤ maxLen ∧ HoldsK cs k w g off xs.toArray := by
  obtain ⟨hl, ⟨hv, _⟩ | ⟨g', off', cap', cur, hv, hb, h1, h2, h3, h4⟩⟩ := h
  · cases hv
  · injection hv with ha hn hcp
    injection ha with ha
    injection ha with hg ho _
    subst hg ho hcp
    refine ⟨hn, (Array.getElem?_eq_some_iff.1 hb).1, h1, h2, ?_⟩
    unfold HoldsK
    rw [flatK_flat hc]
    intro j hj
    have hj' : j < (xs.flatMap cs).length := by simpa using hj
    have hjk : j < xs.length * k := by rwa [flat_len hc] at hj'
    have hc2 : cur[off + j]? = some ((xs.flatMap cs)[j]) := by
      have e1 : ((cur.toList.drop off).take (xs.length * k))[j]? = some ((xs.flatMap cs)[j]) := by
        rw [h4]; exact List.getElem?_eq_getElem hj'
      rw [List.getElem?_take, if_pos hjk, List.getElem?_drop] at e1
      simpa using e1
    refine ⟨?_, ?_⟩
    · have e5 : (xs.flatMap cs).toArray[j]! = (xs.flatMap cs)[j] := by rw [getElem!_pos _ j hj]; simp
      simp only [World.cell?, hb]
      rw [e5]
      simpa using hc2
    · simp [World.frozen?, hb]
theorem ch_putK {m : Nat} {d : Array α} {os : Array Obj} (hg : g < w.heap.size) : Ch [g] w (sortWorldK cs k w g off m d os) := by
  refine ⟨rfl, rfl, rfl, ?_, fun q hq hn => ?_⟩
  · simp [sortWorldK, putRowK, grow, putRow, mapBlock, Go.Sort.ahead]
  · have hkg : ¬ g = q := fun z => hn (by rw [z]; exact List.mem_singleton.2 rfl)
    simp only [sortWorldK, putRowK, grow, putRow, mapBlock, Go.Sort.ahead]
    rw [Array.getElem?_append_left (by simpa using hq), Array.getElem?_modify, if_neg hkg]
theorem ol_putK {m : Nat} {os : Array Obj} (hc : ∀ x, (cs x).length = k) (h : Ol cs e k w (.slice (some ⟨g, off, none⟩) n cap) xs) (hl : ys.length = xs.length) :
    Ol cs e k (sortWorldK cs k w g off m ys.toArray os) (.slice (some ⟨g, off, none⟩) n cap) ys := by
  obtain ⟨hl0, ⟨hv, _⟩ | ⟨g', off', cap', cur, hv, hb, h1, h2, h3, h4⟩⟩ := h
  · cases hv
  · injection hv with ha hn hcp
    injection ha with ha
    injection ha with hg ho _
    subst hg ho hcp
    have hgl := (Array.getElem?_eq_some_iff.1 hb).1
    have hfl := flat_len hc ys
    have hmul : ys.length * k ≤ cap * k := Nat.mul_le_mul_right k (by omega)
    refine ⟨hfl, .inr ⟨g, off, cap, putCells id off (flatK cs k ys.toArray) cur, by rw [hn, hl], ?_, by omega, h2, by simp [putCells]; omega, ?_⟩⟩
    · simp only [sortWorldK, putRowK, grow, putRow, mapBlock, Go.Sort.ahead]
      rw [Array.getElem?_append_left (by simpa using hgl), Array.getElem?_modify, if_pos rfl, hb]
      rfl
    · rw [flatK_flat hc]
      apply List.ext_getElem?
      intro j
      rw [List.getElem?_take]
      by_cases hj : j < ys.length * k
      · have hcu : off + j < cur.size := by omega
        rw [if_pos hj, List.getElem?_drop]
        have hj2 : j < (ys.flatMap cs).length := by rw [hfl]; exact hj
        have e9 : (putCells id off (ys.flatMap cs).toArray cur)[off + j]? = some ((ys.flatMap cs)[j]) := by
          rw [Array.getElem?_eq_getElem (by simpa [putCells] using hcu)]
          simp only [putCells, Array.getElem_mapIdx]
          have e8 : off ≤ off + j ∧ off + j < off + (ys.flatMap cs).toArray.size := ⟨by omega, by simp only [List.size_toArray]; omega⟩
          rw [if_pos e8]
          simp [Nat.add_sub_cancel_left]
          rw [List.getElem?_eq_getElem hj2]; rfl
        rw [Array.getElem?_toList, e9, List.getElem?_eq_getElem hj2]
      · rw [if_neg hj, List.getElem?_eq_none (by rw [hfl]; omega)]
end

instance (x y : Pair) : Decidable (lessP x y) := by unfold lessP; exact inferInstance
theorem ltP (x y : Pair) : ltOf cmpP x y = decide (lessP x y) := by
  unfold ltOf
  by_cases h : lessP x y
  · rw [decide_eq_true h, decide_eq_true ((cmpP_lt x y).2 h)]
  · rw [decide_eq_false h, decide_eq_false (fun q => h ((cmpP_lt x y).1 q))]
theorem swoP : SWO (ltOf cmpP) where
  irrefl x := by rw [ltP]; simp [less_self]
  trans x y z h1 h2 := by rw [ltP] at *; simp at *; exact less_trans h1 h2
  ntrans x y z h1 h2 := by rw [ltP] at *; simp at *; unfold lessP at *; omega
theorem totP (x y : Pair) (h1 : ltOf cmpP x y = false) (h2 : ltOf cmpP y x = false) : x = y := by
  rw [ltP] at h1 h2
  simp at h1 h2
  by_cases e : x = y
  · exact e
  · exact absurd (less_tri e h1) h2
def srtP (a : List Pair) : List Pair := a.mergeSort fun x y => !ltOf cmpP y x
theorem srtP_len (a : List Pair) : (srtP a).length = a.length := by simp [srtP]
theorem srtP_mem (a : List Pair) (x : Pair) : x ∈ srtP a ↔ x ∈ a := by simp [srtP]
theorem srtP_srt (a : List Pair) : (srtP a).Pairwise fun x y => lessP x y ∨ x = y := by
  have h := List.pairwise_mergeSort (le := fun x y : Pair => !ltOf cmpP y x) (fun a b c h1 h2 => by
    rw [ltP] at *; simp at *; unfold lessP at *; omega) (fun a b => by
    rw [ltP, ltP]; simp; unfold lessP; omega) a
  refine h.imp fun {x y} hxy => ?_
  rw [ltP] at hxy
  simp at hxy
  by_cases e : x = y
  · exact .inr e
  · exact .inl (less_tri (fun q => e q.symm) hxy)
theorem cpt_srtP (a : List Pair) : cpt (srtP a) = psP a := cpt_ps (srtP_srt a) fun x => srtP_mem a x
section
variable {P : Program} {ρ : Ren} {w : World} {e : TypeId} {v : Value} {a : List Pair}
theorem olP_cases (h : Ol Pair.cs e 2 w v a) : (v = .slice none 0 0 ∧ a = []) ∨ ∃ g off cap, v = .slice (some ⟨g, off, none⟩) a.length cap := by
  obtain ⟨hl, ⟨hv, h0⟩ | ⟨g', off', cap', cur, hv, hb, h1, h2, h3, h4⟩⟩ := h
  · exact .inl ⟨hv, List.eq_nil_of_length_eq_zero h0⟩
  · exact .inr ⟨g', off', cap', hv⟩
theorem sortP_ctr (L : SlLaysF0.n6 P ρ) (aE : ∀ w, (isAgg (ρ.t 24)).run P w = .ok true w) (zE : ∀ w, (Go.sizeOf (ρ.t 24)).run P w = .ok 2 w) (g : Nat)
    (eg : ∀ args w, (callFunc g args).run P w = .ok (.enter g args) w)
    (hc : ∀ (x y : Pair) W, Calls P g #[.agg #[.int .i64 x.f, .int .i64 x.t], .agg #[.int .i64 y.f, .int .i64 y.t]] W fun e w' => e = .returned (.int .i64 (cmpP x y)) ∧ ∃ q os', w' = grow (W.drewN q) os')
    (h : Ol Pair.cs e 2 w v a) (hb : a.length < 4611686018427387904) :
    Ctr P (ρ.f 6) #[v, .func (.func g) #[] #[]] w (fun u w' => u = .tuple #[] ∧ Ol Pair.cs e 2 w' v (srtP a) ∧ Ch (bl v) w w') := by
  rcases olP_cases h with ⟨rfl, rfl⟩ | ⟨gg, off, cap, rfl⟩
  · refine (AnyF.slices_SortFunc_none L none 0 (.func (.func g) #[] #[]) w).mono ?_
    rintro x w' ⟨rfl, rfl⟩
    exact ⟨_, rfl, rfl, by simpa [srtP] using h, Ch.refl _ _⟩
  · obtain ⟨_, hg, hcp, hm, hH⟩ := ol_holdsK Pair.len h
    have hs := AnyQ.slices_SortFunc_total L 2 aE zE Pair.cs Pair.len (fun x y hy => by simp [Pair.cs] at hy; rcases hy with rfl | rfl <;> rfl) cmpP swoP g #[] gg off cap a.toArray w eg (fun m os dk _ x y => hc x y _) hH hg (by simpa using hb) totP
    simp only [List.size_toArray] at hs
    refine hs.mono ?_
    rintro x w' ⟨rfl, n, os, rfl⟩
    refine ⟨_, rfl, rfl, ?_, ch_putK hg⟩
    exact ol_putK Pair.len h (srtP_len a)
end
end Go.KLib
