/- Rows of one's own, as the library's proved summaries speak of them: sorting, compacting, deleting. -/
import Derived.Test.YthcoliemlekojaaJG
import Derived.Shelf.Sort.Plain
import Derived.Shelf.Slices.CompactI
import Derived.Shelf.Slices.Delete
namespace Go.KLib
open Go.Sort Go.RowKit

theorem ics_flat (xs : List Int) : xs.flatMap ics = xs.map (Value.int .i64) := by
  induction xs with
  | nil => rfl
  | cons x xs ih => rw [List.flatMap_cons, ih]; rfl
theorem ol_holds {w : World} {e : TypeId} {g off cap n : Nat} {xs : List Int} (h : Ol ics e 1 w (.slice (some ⟨g, off, none⟩) n cap) xs) :
    n = xs.length ∧ g < w.heap.size ∧ xs.length ≤ cap ∧ cap ≤ maxLen ∧ Holds (Value.int .i64) w g off xs.toArray := by
  obtain ⟨hl, ⟨hv, _⟩ | ⟨g', off', cap', cur, hv, hb, h1, h2, h3, h4⟩⟩ := h
  · cases hv
  · injection hv with ha hn hc
    injection ha with ha
    injection ha with hg ho _
    subst hg ho hc
    refine ⟨hn, (Array.getElem?_eq_some_iff.1 hb).1, h1, h2, fun j hj => ?_⟩
    have hj' : j < xs.length := by simpa using hj
    rw [ics_flat, Nat.mul_one] at h4
    have hc : cur[off + j]? = some (Value.int .i64 xs[j]) := by
      have e1 : (cur.toList.drop off)[j]? = some (Value.int .i64 xs[j]) := by
        have e2 : ((cur.toList.drop off).take xs.length)[j]? = some (Value.int .i64 xs[j]) := by
          rw [h4]; simp [hj']
        rwa [List.getElem?_take, if_pos hj'] at e2
      rw [List.getElem?_drop] at e1
      simpa using e1
    refine ⟨?_, ?_⟩
    · simp [World.cell?, hb, hc, hj']
    · simp [World.frozen?, hb]
theorem ch_put {w : World} {g off m : Nat} {d : Array Int} {os : Array Obj} (hg : g < w.heap.size) : Ch [g] w (grow (putRow (Value.int .i64) (Go.Sort.ahead w m) g off d) os) := by
  refine ⟨rfl, rfl, rfl, ?_, fun k hk hn => ?_⟩
  · simp [grow, putRow, mapBlock, Go.Sort.ahead]
  · have hkg : ¬ g = k := fun q => hn (by rw [q]; exact List.mem_singleton.2 rfl)
    simp only [grow, putRow, mapBlock, Go.Sort.ahead]
    rw [Array.getElem?_append_left (by simpa using hk), Array.getElem?_modify, if_neg hkg]
theorem ol_put {w : World} {e : TypeId} {g off cap n m : Nat} {xs ys : List Int} {os : Array Obj} (h : Ol ics e 1 w (.slice (some ⟨g, off, none⟩) n cap) xs) (hl : ys.length = xs.length) :
    Ol ics e 1 (grow (putRow (Value.int .i64) (Go.Sort.ahead w m) g off ys.toArray) os) (.slice (some ⟨g, off, none⟩) n cap) ys := by
  obtain ⟨hl0, ⟨hv, _⟩ | ⟨g', off', cap', cur, hv, hb, h1, h2, h3, h4⟩⟩ := h
  · cases hv
  · injection hv with ha hn hc
    injection ha with ha
    injection ha with hg ho _
    subst hg ho hc
    have hgl := (Array.getElem?_eq_some_iff.1 hb).1
    refine ⟨by rw [ics_flat]; simp, .inr ⟨g, off, cap, putCells (Value.int .i64) off ys.toArray cur, by rw [hn, hl], ?_, by omega, h2, by simp [putCells]; omega, ?_⟩⟩
    · simp only [grow, putRow, mapBlock, Go.Sort.ahead]
      rw [Array.getElem?_append_left (by simpa using hgl), Array.getElem?_modify, if_pos rfl, hb]
      rfl
    · rw [ics_flat, Nat.mul_one]
      apply List.ext_getElem?
      intro j
      rw [List.getElem?_take]
      by_cases hj : j < ys.length
      · have hc : off + j < cur.size := by rw [hl] at hj; omega
        rw [if_pos hj, List.getElem?_drop]
        simp [putCells, hj, hc, Nat.add_sub_cancel_left]
      · rw [if_neg hj, List.getElem?_eq_none (by simpa using hj)]
end Go.KLib
