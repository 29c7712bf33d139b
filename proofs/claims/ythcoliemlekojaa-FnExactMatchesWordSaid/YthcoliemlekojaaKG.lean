/- Part 7 of the logic: literals of structs and slices, append, slicing. -/
import Derived.Test.YthcoliemlekojaaKF
namespace Go.KLib

def evp (l : KL) : List (Nat × Operand) → Option (List (Nat × Value))
  | [] => some []
  | p :: ps => match ev l p.2, evp l ps with
    | some v, some vs => some ((p.1, v) :: vs)
    | _, _ => none

theorem evp_map {l : KL} {ρ : Operand → Value} (hρ : ∀ x u, ev l x = some u → ρ x = u) : ∀ (ps : List (Nat × Operand)) (vs : List (Nat × Value)), evp l ps = some vs → ps.map (fun p => (p.1, ρ p.2)) = vs
  | [], vs, h => by simp [evp] at h; simp [h]
  | p :: ps, vs, h => by
    simp only [evp] at h
    cases h1 : ev l p.2 with
    | none => simp [h1] at h
    | some u =>
      cases h2 : evp l ps with
      | none => simp [h1, h2] at h
      | some us =>
        simp [h1, h2] at h
        rw [List.map_cons, hρ p.2 u h1, evp_map hρ ps us h2, h]

def fillL (place : Nat → Option (Nat × Nat)) (cells : List Value) : List (Nat × Value) → Option (List Value)
  | [] => some cells
  | p :: rest => match place p.1 with
    | none => none
    | some q => bif Nat.beq p.2.cells.size q.2 && Nat.ble (q.1 + q.2) cells.length then fillL place (cells.take q.1 ++ p.2.cells.toList ++ cells.drop (q.1 + q.2)) rest else none

theorem foldl_set (vs : List Value) : ∀ (o i : Nat) (cells : List Value), o + i + vs.length ≤ cells.length →
    ((vs.zipIdx i).foldl (fun (cs : Array Value) (p : Value × Nat) => cs.setIfInBounds (o + p.2) p.1) cells.toArray) = (cells.take (o + i) ++ vs ++ cells.drop (o + i + vs.length)).toArray := by
  induction vs with
  | nil => intro o i cells _; simp
  | cons v vs ih =>
    intro o i cells h
    simp only [List.length_cons] at h
    rw [List.zipIdx_cons, List.foldl_cons]
    have e : (cells.toArray.setIfInBounds (o + i) v) = (cells.set (o + i) v).toArray := by simp
    rw [e, ih o (i + 1) (cells.set (o + i) v) (by simp; omega)]
    congr 1
    have hlt : o + i < cells.length := by omega
    apply List.ext_getElem?
    intro q
    simp only [List.getElem?_append, List.getElem?_take, List.getElem?_drop, List.getElem?_set, List.length_append, List.length_take, List.length_set, List.length_cons]
    rcases Nat.lt_trichotomy q (o + i) with h1 | h1 | h1
    · simp [show q < min (o + (i + 1)) cells.length by omega, show q < min (o + i) cells.length by omega, show q < o + (i + 1) by omega, show ¬ o + i = q by omega, h1, show q < min (o + (i + 1)) cells.length + vs.length by omega, show q < min (o + i) cells.length + (vs.length + 1) by omega]
    · subst h1
      simp [show o + i < min (o + (i + 1)) cells.length by omega, show o + i < o + (i + 1) by omega, hlt, show o + i < min (o + (i + 1)) cells.length + vs.length by omega, show min (o + i) cells.length = o + i by omega]
    · have e1 : min (o + (i + 1)) cells.length = o + i + 1 := by omega
      have e2 : min (o + i) cells.length = o + i := by omega
      rw [e1, e2]
      by_cases h2 : q < o + i + 1 + vs.length
      · rw [if_pos h2, if_neg (by omega), if_pos (by omega), if_neg (by omega)]
        rw [show q - (o + i) = (q - (o + i + 1)) + 1 from by omega, List.getElem?_cons_succ]
      · rw [if_neg h2, if_neg (by omega), if_neg (by omega)]
        congr 1
        omega

theorem fill_fillL (place : Nat → Option (Nat × Nat)) : ∀ (parts : List (Nat × Value)) (cells cells' : List Value), fillL place cells parts = some cells' → Instr.fill place cells.toArray parts = some cells'.toArray
  | [], cells, cells', h => by simp [fillL] at h; simp [Instr.fill, h]
  | p :: rest, cells, cells', h => by
    obtain ⟨i, v⟩ := p
    simp only [fillL] at h
    cases hp : place i with
    | none => simp [hp] at h
    | some q =>
      obtain ⟨off, size⟩ := q
      simp only [hp] at h
      cases hc : (Nat.beq v.cells.size size && Nat.ble (off + size) cells.length) with
      | false => simp [hc] at h
      | true =>
        simp only [hc, cond_true] at h
        simp only [Bool.and_eq_true] at hc
        have h1 : v.cells.size = size := Nat.eq_of_beq_eq_true hc.1
        have h2 : off + size ≤ cells.length := Nat.le_of_ble_eq_true hc.2
        have ih := fill_fillL place rest _ _ h
        simp only [Instr.fill, hp]
        rw [if_neg (by simp [h1, h2])]
        have hf := foldl_set v.cells.toList off 0 cells (by rw [Array.length_toList, h1]; omega)
        simp only [Nat.add_zero, Array.length_toList, h1] at hf
        rw [← ih, ← hf]
        congr 1
        rw [← Array.foldl_toList, Array.toList_zipIdx]

def placesB (P : Program) (t : TypeId) : Option (List (Nat × Nat)) :=
  match P.underlying t with
  | some (.struct fs) => fs.toList.mapM fun f => (sizeB P f.type).map fun s => (f.offset, s)
  | _ => none

section
variable {P : Program} {w : World} {l : KL} {dst : Option Tmp} {ty : TypeId} {pos : String} {aft : Array Go.Edge} {gd : Option (Nat × Bool)} {K : Value → World → Prop}

theorem run_places {fs : List Field} {pl : List (Nat × Nat)} (h : fs.mapM (fun f => (sizeB P f.type).map fun s => (f.offset, s)) = some pl) :
    (fs.mapM (m := Sem) fun f => do pure (f.offset, ← sizeOf f.type)).run P w = .ok pl w := by
  induction fs generalizing pl with
  | nil => simp at h; simp [h]
  | cons f fs ih =>
    simp only [List.mapM_cons] at h
    cases hs : sizeB P f.type with
    | none => simp [hs] at h
    | some s =>
      cases hr : fs.mapM (fun f => (sizeB P f.type).map fun s => (f.offset, s)) with
      | none => simp [hs, hr] at h
      | some rs =>
        simp [hs, hr] at h
        simp only [List.mapM_cons, Sem.run_bind, run_sizeB hs, Result.andThen_ok, Sem.run_pure, ih hr, h]

theorem r_build {t : TypeId} {parts : List (Nat × Operand)} {vs : List (Nat × Value)} {pl : List (Nat × Nat)} {z : Value} {cells : List Value} (hz : zeroB P t = some z) (hp : placesB P t = some pl) (hv : evp l parts = some vs)
    (hf : fillL (fun (i : Nat) => pl[i]?) z.cells.toList vs = some cells) : Runs P l ⟨dst, .build t parts.toArray, ty, pos, aft, gd⟩ w (.agg cells.toArray) w := fun ρ hρ => by
  unfold placesB at hp
  cases hu : P.underlying t with
  | none => simp [hu] at hp
  | some d =>
    cases d with
    | struct fs =>
      simp only [hu] at hp
      have h1 := evp_map hρ parts vs hv
      have h2 : (fs.mapM (m := Sem) fun f => do pure (f.offset, ← sizeOf f.type)).run P w = .ok pl.toArray w := by
        rw [← Array.toArray_toList (xs := fs), List.mapM_toArray]
        simp only [Sem.run_map, run_places hp, Result.andThen_ok]
      have h3 := fill_fillL (fun (i : Nat) => pl[i]?) vs z.cells.toList cells hf
      have h4 : (parts.toArray.map fun p => (p.1, ρ p.2)) = vs.toArray := by rw [List.map_toArray, h1]
      have h5 : (fun (i : Nat) => pl.toArray[i]?) = fun (i : Nat) => pl[i]? := by funext i; simp
      simp only [Array.toArray_toList] at h3
      simp only [execOp, h4, Instr.build, Sem.run_bind, run_zeroB hz, Result.andThen_ok, run_underlying hu, h2, h5, h3, Sem.run_pure]
    | _ => simp [hu] at hp

variable {α : Type} {cs : α → List Value} {e k : Nat}

theorem s_buildSlice {t : TypeId} {n : Nat} {parts : List (Nat × Operand)} {vs : List (Nat × Value)} {z : Value} (z0 : α) (ys : List α) (ht : elB P t = some e) (hk : sizeB P e = some k) (hz : zeroB P e = some z) (hc : ∀ x, (cs x).length = k) (hk0 : 0 < k) (hzc : z.cells.toList = cs z0)
    (hv : evp l parts = some vs) (hn : ys.length = n) (hp : 0 < n) (hn0 : n * k ≤ 16777216) (hf : fillL (fun i => some (i * k, k)) ((List.replicate n z0).flatMap cs) vs = some (ys.flatMap cs))
    (kk : ∀ v w', Ol cs e k w' v ys → Lo w.heap.size v → Ch [] w w' → K v w') : Step P l ⟨dst, .buildSlice t n parts.toArray, ty, pos, aft, gd⟩ w K := by
  have hpk : 0 < n * k := Nat.mul_pos hp hk0
  have h0 : (Array.range (n * k)).map (z.cells[· % z.cells.size]!) = ((List.replicate n z0).flatMap cs).toArray := by
    have := made_flat hzc hc hk0 n
    rw [← this]
    unfold madeCells
    rw [Array.toArray_toList]
  have h3 := fill_fillL (fun i => some (i * k, k)) vs _ _ hf
  refine Step.of (v := .slice (some ⟨w.heap.size, 0, none⟩) n n) (w' := w.alloc (.cells (ys.flatMap cs).toArray e)) (fun ρ hρ => ?_) (kk _ _ ?_ (fun g hg => by simp [bl, Value.ownBlock] at hg; omega) (Ch.alloc w _))
  · have h1 := evp_map hρ parts vs hv
    have h4 : (parts.toArray.map fun p => (p.1, ρ p.2)) = vs.toArray := by rw [List.map_toArray, h1]
    have hlim : ¬ (n * k > 2 ^ 24) := by omega
    have hne : ¬ (n * k = 0) := by omega
    simp only [execOp, h4, Instr.buildSlice, Sem.run_bind, run_underlying (elB_spec ht), Result.andThen_ok, run_sizeB hk, hlim, if_false, hne, run_zeroB hz, Sem.run_pure, h0, h3]
    simp [newRow]
  · have hm : n ≤ maxLen := by
      have : n ≤ n * k := Nat.le_mul_of_pos_right _ hk0
      simp only [maxLen]; omega
    have := Ow.made w e k n (ys.flatMap cs).toArray n (Nat.le_refl _) hm (by simp [flat_len hc, hn])
    have hl : (ys.flatMap cs).length = n * k := by rw [flat_len hc, hn]
    rw [List.toList_toArray, List.take_of_length_le (by omega)] at this
    subst hn
    exact this

theorem s_buildSlice0 {t : TypeId} (cs : α → List Value) (ht : elB P t = some e) (hk : sizeB P e = some k)
    (kk : ∀ v w', Ol cs e k w' v ([] : List α) → Lo w.heap.size v → Ch [] w w' → K v w') : Step P l ⟨dst, .buildSlice t 0 #[], ty, pos, aft, gd⟩ w K := by
  have e0 : Array.range 0 = #[] := rfl
  refine Step.of (v := .slice (some ⟨w.heap.size, 0, none⟩) 0 0) (w' := w.alloc (.cells #[] e)) (fun ρ _ => ?_) (kk _ _ ?_ (fun g hg => by simp [bl, Value.ownBlock] at hg; omega) (Ch.alloc w _))
  · simp [execOp, Instr.buildSlice, run_underlying (elB_spec ht), run_sizeB hk, Instr.fill, newRow, e0]
  · have h := Ow.made w e k 0 #[] 0 (Nat.le_refl _) (Nat.zero_le _) (by simp)
    simp only [Nat.zero_mul, List.take_zero] at h
    exact h

end
end Go.KLib
