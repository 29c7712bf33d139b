/- Maps from places to true: which places a map holds. -/
import Derived.Test.YthcoliemlekojaaJO
import Derived.MapKept
namespace Go.KLib
open Go.MapKept

/-- how the values of a key's type are told apart -/
structure KeyT (P : Program) (t : TypeId) {T : Type} [DecidableEq T] (kv : T → Value) : Prop where
  check : ∀ (w : World) (e : Bool) (x : T), (Instr.checkKey e 10000 t (kv x)).run P w = .ok () w
  eq : ∀ (w : World) (x y : T), (Op.equal t (kv x) (kv y)).run P w = .ok (decide (x = y)) w
  now : ∃ d, P.underlying t = some d ∧ ((∀ x y, Instr.sameNow d (kv x) (kv y) = some (decide (x = y))) ∨ ∀ x y, Instr.sameNow d (kv x) (kv y) = none)

/-- The map in block b holds just the places of ks, each with true. -/
def Mp {T : Type} (kv : T → Value) (w : World) (b : Nat) (ks : List T) : Prop :=
  ∃ es clock, w.heap[b]? = some (.map es clock) ∧ es.toList.map (fun e => (e.key, e.val)) = ks.map (fun t => (kv t, Value.bool true))

def FndR {T : Type} (x : T) (ks : List T) (r : Option (Nat × Value)) : Prop := (r = none ∧ x ∉ ks) ∨ ((∃ i, r = some (i, .bool true)) ∧ x ∈ ks)

section
variable {P : Program} {t : TypeId} {T : Type} [DecidableEq T] {kv : T → Value} {w w' : World} {b : Nat} {ks : List T} {ws : List Nat}
omit [DecidableEq T] in
theorem Mp.lt (h : Mp kv w b ks) : b < w.heap.size := by
  obtain ⟨es, c, hb, _⟩ := h
  rcases Nat.lt_or_ge b w.heap.size with hlt | hge
  · exact hlt
  · rw [Array.getElem?_eq_none hge] at hb; cases hb
omit [DecidableEq T] in
theorem Mp.ch (h : Mp kv w b ks) (c : Ch ws w w') (hn : b ∉ ws) : Mp kv w' b ks := by
  have hl := h.lt
  obtain ⟨es, k, hb, he⟩ := h
  exact ⟨es, k, (c.block b hl hn).trans hb, he⟩
omit [DecidableEq T] in
theorem Mp.ch0 (h : Mp kv w b ks) (c : Ch [] w w') : Mp kv w' b ks := h.ch c (by simp)

theorem find_now {d : TypeDesc} (hd : ∀ x y, Instr.sameNow d (kv x) (kv y) = some (decide (x = y))) (x : T) : ∀ (es : List MapEntry) (ks : List T) (i : Nat), es.map (fun e => (e.key, e.val)) = ks.map (fun t => (kv t, Value.bool true)) →
    ∃ r, Instr.findNow d (kv x) es i = some r ∧ FndR x ks r
  | [], ks, i, h => by
    cases ks with
    | nil => exact ⟨none, rfl, .inl ⟨rfl, List.not_mem_nil⟩⟩
    | cons a qs => simp at h
  | e :: es, ks, i, h => by
    cases ks with
    | nil => simp at h
    | cons a qs =>
      simp only [List.map_cons, List.cons.injEq, Prod.mk.injEq] at h
      obtain ⟨⟨h1, h2⟩, h3⟩ := h
      unfold Instr.findNow
      rw [h1, hd, h2]
      by_cases hx : x = a
      · simp only [hx, decide_true]
        exact ⟨_, rfl, .inr ⟨⟨i, rfl⟩, by simp⟩⟩
      · simp only [hx, decide_false]
        obtain ⟨r, hr, hf⟩ := find_now hd x es qs (i + 1) h3
        refine ⟨r, hr, ?_⟩
        rcases hf with ⟨f1, f2⟩ | ⟨f1, f2⟩
        · exact .inl ⟨f1, by simp [hx, f2]⟩
        · exact .inr ⟨f1, List.mem_cons_of_mem _ f2⟩
theorem find_ask (K : KeyT P t kv) (x : T) : ∀ (es : List MapEntry) (ks : List T) (i : Nat), es.map (fun e => (e.key, e.val)) = ks.map (fun t => (kv t, Value.bool true)) →
    ∃ r, (Instr.findAsking t (kv x) es i).run P w = .ok r w ∧ FndR x ks r
  | [], ks, i, h => by
    cases ks with
    | nil => exact ⟨none, by simp [Instr.findAsking], .inl ⟨rfl, List.not_mem_nil⟩⟩
    | cons a qs => simp at h
  | e :: es, ks, i, h => by
    cases ks with
    | nil => simp at h
    | cons a qs =>
      simp only [List.map_cons, List.cons.injEq, Prod.mk.injEq] at h
      obtain ⟨⟨h1, h2⟩, h3⟩ := h
      unfold Instr.findAsking
      by_cases hx : x = a
      · refine ⟨some (i, .bool true), ?_, .inr ⟨⟨i, rfl⟩, by simp [hx]⟩⟩
        simp [h1, h2, K.eq, hx]
      · obtain ⟨r, hr, hf⟩ := find_ask K x es qs (i + 1) h3
        refine ⟨r, ?_, ?_⟩
        · simp [h1, K.eq, hx, hr]
        · rcases hf with ⟨f1, f2⟩ | ⟨f1, f2⟩
          · exact .inl ⟨f1, by simp [hx, f2]⟩
          · exact .inr ⟨f1, List.mem_cons_of_mem _ f2⟩
theorem find_key (K : KeyT P t kv) (x : T) (es : List MapEntry) (ks : List T) (h : es.map (fun e => (e.key, e.val)) = ks.map (fun t => (kv t, Value.bool true))) :
    ∃ r, (Instr.findKey t (kv x) es).run P w = .ok r w ∧ FndR x ks r := by
  obtain ⟨d, hu, hd⟩ := K.now
  rcases hd with hd | hd
  · obtain ⟨r, hr, hf⟩ := find_now hd x es ks 0 h
    exact ⟨r, by simp [Instr.findKey, run_underlying hu, hr], hf⟩
  · obtain ⟨r, hr, hf⟩ := find_ask (w := w) K x es ks 0 h
    refine ⟨r, ?_, hf⟩
    cases es with
    | nil =>
      have hr2 : r = none := by simp [Instr.findAsking] at hr; exact hr.symm
      simp [Instr.findKey, run_underlying hu, Instr.findNow, hr2]
    | cons e es =>
      cases ks with
      | nil => simp at h
      | cons a qs =>
        have h1 : e.key = kv a := by
          simp only [List.map_cons, List.cons.injEq, Prod.mk.injEq] at h
          exact h.1.1
        simp [Instr.findKey, run_underlying hu, Instr.findNow, h1, hd, hr]

end
section
variable {P : Program} {N : Nat} {w : World} {l : KL} {dst : Option Tmp} {ty : TypeId} {pos : String} {aft : Array Edge} {gd : Option (Nat × Bool)} {K' : Value → World → Prop} {t kt et : TypeId} {T : Type} [DecidableEq T] {kv : T → Value} {b : Nat} {ks : List T}
omit [DecidableEq T] in
theorem s_makeMap (kv : T → Value) (k : ∀ b w', Mp kv w' b [] → Ch [] w w' → b = w.heap.size → K' (.map (some b)) w') : Step P l ⟨dst, .makeMap t none, ty, pos, aft, gd⟩ w K' := by
  refine Step.of (v := .map (some w.heap.size)) (w' := w.alloc (.map #[] 0)) (fun ρ hρ => ?_) (k _ _ ⟨#[], 0, heap_alloc_new w _, rfl⟩ (Ch.alloc w _) rfl)
  simp [execOp, Instr.makeMap]
theorem run_mapPut (hu : P.underlying t = some (.map kt et)) (K : KeyT P kt kv) (x : T) (hm : Mp kv w b ks) (hx : x ∉ ks) :
    ∃ w', (Instr.mapUpdate t (.map (some b)) (kv x) (.bool true)).run P w = .ok () w' ∧ Mp kv w' b (ks ++ [x]) ∧ Ch [b] w w' := by
  have hl := hm.lt
  obtain ⟨es, c, hb, he⟩ := hm
  obtain ⟨r, hr, hf⟩ := find_key (w := w) K x es.toList ks he
  have hn : r = none := by
    rcases hf with ⟨f1, _⟩ | ⟨_, f2⟩
    · exact f1
    · exact absurd f2 hx
  subst hn
  refine ⟨{ w with heap := w.heap.setIfInBounds b (.map (es.push { key := kv x, val := .bool true, born := c }) (c + 1)) }, ?_, ⟨es.push { key := kv x, val := .bool true, born := c }, c + 1, ?_, ?_⟩, ⟨rfl, rfl, rfl, by simp, fun i hi hn => ?_⟩⟩
  · simp [Instr.mapUpdate, run_underlying hu, MapKept.run_getObj_map hb, K.check, hr, MapKept.run_setObj_map _ hb]
  · simp [Array.getElem?_setIfInBounds, hl]
  · simp [he]
  · simp at hn
    simp [Array.getElem?_setIfInBounds, Ne.symm hn]
theorem s_mapPut {m k x : Operand} (y : T) (hu : P.underlying t = some (.map kt et)) (K : KeyT P kt kv) (hm : Mp kv w b ks) (h1 : ev l m = some (.map (some b))) (h2 : ev l k = some (kv y)) (h3 : ev l x = some (.bool true)) (hx : y ∉ ks)
    (h : ∀ w', Mp kv w' b (ks ++ [y]) → Ch [b] w w' → K' undef w') : Step P l ⟨dst, .mapUpdate t m k x, ty, pos, aft, gd⟩ w K' := by
  obtain ⟨w', hr, a, c⟩ := run_mapPut hu K y hm hx
  refine Step.ofU (w' := w') (fun ρ hρ => ?_) (h w' a c)
  simp [execOp, hρ _ _ h1, hρ _ _ h2, hρ _ _ h3, hr]
theorem s_mapIns {m k x : Operand} (y : T) (hu : P.underlying t = some (.map kt et)) (K : KeyT P kt kv) (hm : Mp kv w b ks) (h1 : ev l m = some (.map (some b))) (h2 : ev l k = some (kv y)) (h3 : ev l x = some (.bool true)) (hx : y ∉ ks)
    (h : ∀ w', Mp kv w' b (ks ++ [y]) → Ch [b] w w' → K' undef w') : Step P l ⟨dst, .insert t m k x, ty, pos, aft, gd⟩ w K' := by
  obtain ⟨w', hr, a, c⟩ := run_mapPut hu K y hm hx
  refine Step.ofU (w' := w') (fun ρ hρ => ?_) (h w' a c)
  simp [execOp, hρ _ _ h1, hρ _ _ h2, hρ _ _ h3, hr]
theorem r_mapLook {m k : Operand} (y : T) (hu : P.underlying t = some (.map kt et)) (hz : zeroB P et = some (.bool false)) (K : KeyT P kt kv) (hm : Mp kv w b ks) (h1 : ev l m = some (.map (some b))) (h2 : ev l k = some (kv y)) :
    Runs P l ⟨dst, .lookup t m k false, ty, pos, aft, gd⟩ w (.bool (decide (y ∈ ks))) w := fun ρ hρ => by
  obtain ⟨es, c, hb, he⟩ := hm
  obtain ⟨r, hr, hf⟩ := find_key (w := w) K y es.toList ks he
  rcases hf with ⟨f1, f2⟩ | ⟨⟨i, f1⟩, f2⟩
  · subst f1
    simp [execOp, hρ _ _ h1, hρ _ _ h2, Instr.lookup, run_underlying hu, MapKept.run_getObj_map hb, K.check, hr, run_zeroB hz, f2]
  · subst f1
    simp [execOp, hρ _ _ h1, hρ _ _ h2, Instr.lookup, run_underlying hu, MapKept.run_getObj_map hb, K.check, hr, f2]
end
/-! ### The keys of these programs: ints, and structs of two ints -/
structure St2 where
  a : Int
  b : Int
  deriving DecidableEq
def St2.cs (s : St2) : List Value := [.int .i64 s.a, .int .i64 s.b]
theorem St2.len (s : St2) : s.cs.length = 2 := rfl
theorem St2.one (x : St2) : ∀ y ∈ x.cs, y.oneCell' = true := by intro y hy; simp [St2.cs] at hy; rcases hy with rfl | rfl <;> rfl
def kvI (x : Int) : Value := .int .i64 x
def kvS (x : St2) : Value := .agg #[.int .i64 x.a, .int .i64 x.b]
section
variable {P : Program} {t : TypeId}
theorem keyT_int (h : P.underlying t = some (.int .i64)) : KeyT P t kvI := by
  refine ⟨fun w e x => ?_, fun w x y => ?_, ⟨_, h, .inl fun x y => ?_⟩⟩
  · unfold Instr.checkKey; simp [run_underlying h, kvI]
  · exact run_equalIn_int w 9999 t .i64 .i64 x y h
  · simp [Instr.sameNow, kvI]; rfl
theorem list_two {β : Type} {fs : Array β} (h : fs.size = 2) : ∃ a b, fs = #[a, b] := by
  obtain ⟨l⟩ := fs
  match l, h with
  | [a, b], _ => exact ⟨a, b, rfl⟩
theorem keyT_st2 (h : intStructB P t 2 = true) : KeyT P t kvS := by
  have hi := h
  unfold intStructB at h
  cases hu : P.underlying t with
  | none => simp [hu] at h
  | some dd =>
    cases dd with
    | struct fs =>
      simp only [hu, Bool.and_eq_true, Bool.not_eq_true', beq_iff_eq, List.all_eq_true, List.mem_range] at h
      obtain ⟨⟨⟨h1, h2⟩, h3⟩, h4⟩ := h
      obtain ⟨f0, f1, rfl⟩ := list_two h1
      have a0 := h4 0 (by omega)
      have a1 := h4 1 (by omega)
      simp only [List.getElem?_toArray, List.getElem?_cons_zero, List.getElem?_cons_succ, Bool.and_eq_true, bne_iff_ne, beq_iff_eq] at a0 a1
      have u0 : P.underlying f0.type = some (.int .i64) := by
        have h5 := a0.2
        split at h5
        · assumption
        · cases h5
      have u1 : P.underlying f1.type = some (.int .i64) := by
        have h5 := a1.2
        split at h5
        · assumption
        · cases h5
      refine ⟨fun w e x => ?_, fun w x y => ?_, ⟨_, hu, .inr fun x y => ?_⟩⟩
      · have p0 := run_part1 (P := P) (w := w) (cs := #[.int .i64 x.a, .int .i64 x.b]) (i := f0.offset) (v := .int .i64 x.a) u0 (by rw [a0.1.2]; rfl)
        have p1 := run_part1 (P := P) (w := w) (cs := #[.int .i64 x.a, .int .i64 x.b]) (i := f1.offset) (v := .int .i64 x.b) u1 (by rw [a1.1.2]; rfl)
        unfold Instr.checkKey
        simp [run_underlying hu, kvS, a0.1.1, a1.1.1, p0, p1]
        unfold Instr.checkKey
        simp [run_underlying u0, run_underlying u1, p1]
      · have := (run_eqInts (P := P) (w := w) [x.a, x.b] [y.a, y.b] hi rfl).1
        simp only [List.map_cons, List.map_nil] at this
        rw [show Op.equal t (kvS x) (kvS y) = Op.equalIn 10000 t (.agg #[.int .i64 x.a, .int .i64 x.b]) (.agg #[.int .i64 y.a, .int .i64 y.b]) from rfl, this]
        congr 1
        obtain ⟨xa, xb⟩ := x
        obtain ⟨ya, yb⟩ := y
        simp
      · rfl
    | _ => simp [hu] at h
end
end Go.KLib
