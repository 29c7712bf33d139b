/- Sorting and compacting rows of one's own: the library's summaries as contracts. -/
import Derived.Test.YthcoliemlekojaaJI
import Derived.Ground.NamesProg
import Derived.Ground.Names2Prog
import Derived.Shelf.Lay
import Derived.Shelf.Slices.In.SortNone
namespace Go.KLib
open Go.Sort Go.RowKit Go.Shelf Go.Proofs

theorem ol_cases {w : World} {e : TypeId} {v : Value} {a : List Int} (h : Ol ics e 1 w v a) : (v = .slice none 0 0 ∧ a = []) ∨ ∃ g off cap, v = .slice (some ⟨g, off, none⟩) a.length cap := by
  obtain ⟨hl, ⟨hv, h0⟩ | ⟨g', off', cap', cur, hv, hb, h1, h2, h3, h4⟩⟩ := h
  · exact .inl ⟨hv, List.eq_nil_of_length_eq_zero h0⟩
  · exact .inr ⟨g', off', cap', hv⟩
theorem bl_some (g off n cap : Nat) : bl (.slice (some ⟨g, off, none⟩) n cap) = [g] := rfl
theorem ol_pre {w : World} {e : TypeId} {g off cap n : Nat} {xs zs : List Int} (h : Ol ics e 1 w (.slice (some ⟨g, off, none⟩) n cap) (xs ++ zs)) : Ol ics e 1 w (.slice (some ⟨g, off, none⟩) xs.length cap) xs := by
  obtain ⟨hl, ⟨hv, _⟩ | ⟨g', off', cap', cur, hv, hb, h1, h2, h3, h4⟩⟩ := h
  · cases hv
  · injection hv with ha hn hc
    injection ha with ha
    injection ha with hg ho _
    subst hg ho hc
    rw [List.length_append] at h1
    refine ⟨by rw [ics_flat]; simp, .inr ⟨g, off, cap, cur, rfl, hb, by omega, h2, h3, ?_⟩⟩
    rw [ics_flat, Nat.mul_one, List.length_append] at h4
    rw [ics_flat, Nat.mul_one]
    have := congrArg (List.take xs.length) h4
    rw [List.take_take, Nat.min_eq_left (by omega)] at this
    rw [this, List.map_append, List.take_append_of_le_length (by simp), List.take_of_length_le (by simp)]
section
variable {P : Program} {ρ : Ren} {w : World} {e : TypeId} {v : Value} {a : List Int}
theorem sort_ctr (L : Lays.n189 P ρ) (h : Ol ics e 1 w v a) (hb : a.length < 4611686018427387904) :
    Ctr P (ρ.f 189) #[v] w (fun u w' => u = .tuple #[] ∧ Ol ics e 1 w' v (a.mergeSort fun x y => decide (x ≤ y)) ∧ Ch (bl v) w w') := by
  rcases ol_cases h with ⟨rfl, rfl⟩ | ⟨g, off, cap, rfl⟩
  · refine (Any.slices_Sort_int_none L none 0 w).mono ?_
    rintro x w' ⟨rfl, rfl⟩
    exact ⟨_, rfl, rfl, by simpa using h, Ch.refl _ _⟩
  · obtain ⟨_, hg, hc, hm, hH⟩ := ol_holds h
    refine (Any.slices_Sort_int L g off cap a w hH hg hb).mono ?_
    rintro x w' ⟨rfl, n, os, rfl⟩
    refine ⟨_, rfl, rfl, ?_, ch_put hg⟩
    exact ol_put h (by simp)
theorem compact_ctr (L : Lays2.n20 P ρ) (h : Ol ics e 1 w v a) (hb : a.length ≤ 9223372036854775807) :
    Ctr P (ρ.f 20) #[v] w (fun u w' => Ol ics e 1 w' u (Lib.compact a) ∧ bl u = bl v ∧ Ch (bl v) w w') := by
  rcases ol_cases h with ⟨rfl, rfl⟩ | ⟨g, off, cap, rfl⟩
  · refine (Any.slices_Compact_int_empty L none 0 w).mono ?_
    rintro x w' ⟨rfl, rfl⟩
    exact ⟨_, rfl, h, rfl, Ch.refl _ _⟩
  · obtain ⟨_, hg, hc, hm, hH⟩ := ol_holds h
    refine (Any.slices_Compact_int L g off cap a w hH hb hc).mono ?_
    rintro x w' ⟨rfl, q, rfl⟩
    refine ⟨_, rfl, ?_, rfl, ?_⟩
    · have hlen : (Lib.compact a).length ≤ a.length := by
        unfold Lib.compact Lib.compactUpTo
        rw [List.length_map]
        exact Nat.le_trans (List.length_filter_le _ _) (by simp)
      have := ol_put (m := q) (os := #[]) (ys := Lib.compact a ++ List.replicate (a.length - (Lib.compact a).length) 0) h (by simp; omega)
      rw [grow_empty] at this
      exact ol_pre this
    · have := ch_put (w := w) (g := g) (off := off) (m := q) (d := (Lib.compact a ++ List.replicate (a.length - (Lib.compact a).length) 0).toArray) (os := #[]) hg
      rw [grow_empty] at this
      exact this
end
end Go.KLib
