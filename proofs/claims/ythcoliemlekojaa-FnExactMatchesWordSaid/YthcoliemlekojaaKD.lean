/- Part 4 of the logic: operations as steps whose outcome is handed on; typed slices; calls; append, make, slicing, struct literals. -/
import Derived.Test.YthcoliemlekojaaKC
namespace Go.KLib

def evs (l : KL) : List Operand → Option (List Value)
  | [] => some []
  | x :: xs => match ev l x, evs l xs with
    | some v, some vs => some (v :: vs)
    | _, _ => none

theorem evs_map {l : KL} {ρ : Operand → Value} (hρ : ∀ x u, ev l x = some u → ρ x = u) : ∀ (xs : List Operand) (vs : List Value), evs l xs = some vs → xs.map ρ = vs
  | [], vs, h => by simp [evs] at h; simp [h]
  | x :: xs, vs, h => by
    simp only [evs] at h
    cases h1 : ev l x with
    | none => simp [h1] at h
    | some u =>
      cases h2 : evs l xs with
      | none => simp [h1, h2] at h
      | some us =>
        simp [h1, h2] at h
        rw [List.map_cons, hρ x u h1, evs_map hρ xs us h2, h]

def fnB (P : Program) (f : FuncId) : Bool :=
  match P.funcs[f]? with
  | some fn => !(fn.name == "runtime.NumGoroutine") && fn.body.isSome
  | none => false

section
variable {P : Program} {w : World} {l : KL} {dst : Option Tmp} {ty : TypeId} {pos : String} {aft : Array Edge} {gd : Option (Nat × Bool)}

theorem run_callFunc {f : FuncId} (h : fnB P f = true) (args : Array Value) : (callFunc f args).run P w = .ok (.enter f args) w := by
  unfold fnB at h
  cases hf : P.funcs[f]? with
  | none => simp [hf] at h
  | some fn =>
    simp only [hf, Bool.and_eq_true, Bool.not_eq_true'] at h
    have hb : fn.body ≠ none := by intro hn; rw [hn] at h; simp at h
    have hnm : fn.name ≠ "runtime.NumGoroutine" := by simpa using h.1
    simp [callFunc, hf, hnm, hb]

theorem r_call {f : FuncId} {xs : List Operand} {vs : List Value} {ts : Array TypeId} (hf : fnB P f = true) (hx : evs l xs = some vs) :
    RunsC P l ⟨dst, .call { callee := .value (.func f), args := xs.toArray, argTypes := ts }, ty, pos, aft, gd⟩ w f vs.toArray := fun ρ hρ => by
  have h1 : ρ (.func f) = .func (.func f) #[] #[] := hρ _ _ rfl
  have h2 := evs_map hρ xs vs hx
  simp [execOp, resolve, h1, h2, Deferred.ofValue, invoke, run_callFunc hf]
theorem r_callV {f : FuncId} {t : Nat} {first captured : Array Value} {xs : List Operand} {vs as' : List Value} {ts : Array TypeId} (hf : fnB P f = true) (ht : look l t = some (.func (.func f) first captured)) (hx : evs l xs = some vs) (ha : first.toList ++ vs ++ captured.toList = as') :
    RunsC P l ⟨dst, .call { callee := .value (.tmp t), args := xs.toArray, argTypes := ts }, ty, pos, aft, gd⟩ w f as'.toArray := fun ρ hρ => by
  have h1 : ρ (.tmp t) = _ := hρ (.tmp t) _ ht
  have h2 := evs_map hρ xs vs hx
  have h3 : first ++ vs.toArray ++ captured = as'.toArray := by rw [← ha]; simp
  simp [execOp, resolve, h1, h2, Deferred.ofValue, invoke, run_callFunc hf]
  simpa using h3
theorem r_makeFunc {fn : Fn} {xs ys : List Operand} {vs us : List Value} (hx : evs l xs = some vs) (hy : evs l ys = some us) :
    Runs P l ⟨dst, .makeFunc fn xs.toArray ys.toArray, ty, pos, aft, gd⟩ w (.func fn vs.toArray us.toArray) w := fun ρ hρ => by
  simp [execOp, Instr.makeFunc, evs_map hρ xs vs hx, evs_map hρ ys us hy]

variable {K : Value → World → Prop}

theorem s_v {o : Oper} {v : Value} (hr : Runs P l o w v w) (h : K v w) : Step P l o w K := Step.of hr h
theorem s_box {x : Operand} {t : TypeId} {v : Value} (h : ev l x = some v) (k : ∀ b w', Blk w' b t v.cells.toList → Ch [] w w' → b = w.heap.size → K (.pointer (some ⟨b, 0, none⟩)) w') :
    Step P l ⟨dst, .box t x, ty, pos, aft, gd⟩ w K := by
  obtain ⟨b, w', hr, h1, h2, h3⟩ := r_box (P := P) (w := w) (dst := dst) (t := t) (ty := ty) (pos := pos) (aft := aft) (gd := gd) h
  exact Step.of hr (k b w' h1 h2 h3)
theorem s_alloc {t : TypeId} {z : Value} (hz : zeroB P t = some z) (k : ∀ b w', Blk w' b t z.cells.toList → Ch [] w w' → b = w.heap.size → K (.pointer (some ⟨b, 0, none⟩)) w') :
    Step P l ⟨dst, .alloc t, ty, pos, aft, gd⟩ w K := by
  obtain ⟨b, w', hr, h1, h2, h3⟩ := r_alloc (P := P) (w := w) (l := l) (dst := dst) (ty := ty) (pos := pos) (aft := aft) (gd := gd) hz
  exact Step.of hr (k b w' h1 h2 h3)
theorem s_store1 {a x : Operand} {t t' : TypeId} {b off : Nat} {cs : List Value} {v : Value} (hb : Blk w b t' cs) (ht : sizeB P t = some 1)
    (ha : ev l a = some (.pointer (some (Addr.add ⟨b, 0, none⟩ off)))) (hx : ev l x = some v) (h1 : v.oneCell' = true) (ho : Nat.blt off cs.length = true)
    (k : ∀ w', Blk w' b t' (cs.set off v) → Ch [b] w w' → K undef w') : Step P l ⟨dst, .store t a x, ty, pos, aft, gd⟩ w K := by
  obtain ⟨w', hr, h2, h3⟩ := r_store1 (P := P) (w := w) (dst := dst) (ty := ty) (pos := pos) (aft := aft) (gd := gd) hb ht h1 ha hx ho
  exact Step.ofU hr (k w' h2 h3)
theorem s_storeA {a x : Operand} {t t' : TypeId} {b off : Nat} {cs us : List Value} (n : Nat) (hb : Blk w b t' cs) (ht : sizeB P t = some n)
    (ha : ev l a = some (.pointer (some (Addr.add ⟨b, 0, none⟩ off)))) (hx : ev l x = some (.agg us.toArray)) (hn : us.length = n) (h1 : us.all Value.oneCell' = true) (ho : Nat.ble (off + us.length) cs.length = true)
    (k : ∀ w', Blk w' b t' (cs.take off ++ us ++ cs.drop (off + us.length)) → Ch [b] w w' → K undef w') : Step P l ⟨dst, .store t a x, ty, pos, aft, gd⟩ w K := by
  obtain ⟨w', hr, h2, h3⟩ := r_storeA (P := P) (w := w) (dst := dst) (ty := ty) (pos := pos) (aft := aft) (gd := gd) hb (by rw [hn]; exact ht) h1 ha hx ho
  exact Step.ofU hr (k w' h2 h3)

/-! ### Slices of elements of one make -/
theorem flat_get {α : Type} {cs : α → List Value} {k : Nat} (hc : ∀ x, (cs x).length = k) : ∀ (xs : List α) (i : Nat) (x : α), xs[i]? = some x → ((xs.flatMap cs).drop (i * k)).take k = cs x
  | [], i, x, h => by simp at h
  | y :: ys, 0, x, h => by
    simp at h
    subst h
    simp only [List.flatMap_cons, Nat.zero_mul, List.drop_zero]
    rw [← hc y, List.take_left]
  | y :: ys, i + 1, x, h => by
    have ih := flat_get hc ys i x (by simpa using h)
    simp only [List.flatMap_cons]
    rw [Nat.succ_mul, Nat.add_comm (i * k) k, ← List.drop_drop]
    conv => lhs; rw [← hc y]
    rw [List.drop_left, hc y]
    exact ih
theorem flat_len {α : Type} {cs : α → List Value} {k : Nat} (hc : ∀ x, (cs x).length = k) (xs : List α) : (xs.flatMap cs).length = xs.length * k := by
  induction xs with
  | nil => simp
  | cons x xs ih => simp [hc, ih, Nat.succ_mul, Nat.add_comm]

/-- A slice that reads as the list xs. -/
def Ls {α : Type} (cs : α → List Value) (k : Nat) (w : World) (L B : Nat) (v : Value) (xs : List α) : Prop := Sl w L B k v xs.length (xs.flatMap cs)
/-- A row of one's own that reads as xs. -/
def Ol {α : Type} (cs : α → List Value) (e k : Nat) (w : World) (v : Value) (xs : List α) : Prop := Ow w e k v xs.length (xs.flatMap cs)

section
variable {α : Type} {cs : α → List Value} {e k L L' B B' : Nat} {v : Value} {xs : List α} {w' : World} {ws : List Nat}
theorem Ls.ch (h : Ls cs k w L B v xs) (c : Ch ws w w') (hw : ∀ i ∈ ws, i < L ∨ B ≤ i) : Ls cs k w' L B v xs := Sl.ch h c hw
theorem Ls.ch0 (h : Ls cs k w L B v xs) (c : Ch [] w w') : Ls cs k w' L B v xs := Sl.ch0 h c
theorem Ls.up (h : Ls cs k w L B v xs) (hL : L' ≤ L) (hB : B ≤ B') : Ls cs k w L' B' v xs := Sl.up h hL hB
theorem Ls.here (h : Ls cs k w L B v xs) (hk : 0 < k) : Ls cs k w L w.heap.size v xs := Sl.here h hk
theorem Ls.eq {ys : List α} (h : Ls cs k w L B v xs) (he : xs = ys) : Ls cs k w L B v ys := by subst he; exact h
theorem Ol.eq {ys : List α} (h : Ol cs e k w v xs) (he : xs = ys) : Ol cs e k w v ys := by subst he; exact h
theorem Ls.nil (w : World) (L B : Nat) : Ls cs k w L B (.slice none 0 0) ([] : List α) := Sl.nil w L B k
theorem Ls.len (h : Ls cs k w L B v xs) : xs.length ≤ 9223372036854775807 := Sl.len_le h
theorem Ls.val (h : Ls cs k w L B v xs) : ∃ A c, v = .slice A xs.length c := by obtain ⟨_, A, c, hv, _⟩ := h; exact ⟨A, c, hv⟩
theorem Ol.ch (h : Ol cs e k w v xs) (c : Ch ws w w') (hn : ∀ g ∈ bl v, g ∉ ws) : Ol cs e k w' v xs := Ow.ch h c hn
theorem Ol.ch0 (h : Ol cs e k w v xs) (c : Ch [] w w') : Ol cs e k w' v xs := Ow.ch0 h c
theorem Ol.ls (h : Ol cs e k w v xs) : Ls cs k w 0 w.heap.size v xs := Ow.sl h
theorem Ol.lt (h : Ol cs e k w v xs) : ∀ g ∈ bl v, g < w.heap.size := Ow.lt h
theorem Ol.nil (w : World) : Ol cs e k w (.slice none 0 0) ([] : List α) := Ow.nil w e k
theorem Ol.len (h : Ol cs e k w v xs) : xs.length ≤ 9223372036854775807 := Ow.len_le h
theorem Ol.val (h : Ol cs e k w v xs) : ∃ A c, v = .slice A xs.length c := h.ls.val

theorem s_index {x ix : Operand} {t : TypeId} {j : Nat} {i : Int} {q : IntKind} (hs : Ls cs k w L B v xs) (hc : ∀ x, (cs x).length = k) (ht : elB P t = some e) (hk : sizeB P e = some k)
    (hx : ev l x = some v) (hi : ev l ix = some (.int q i)) (hj : i = (j : Int)) (h1 : j < xs.length)
    (kk : ∀ p y, xs[j]? = some y → At w L B p (cs y) → K (.pointer (some p)) w) : Step P l ⟨dst, .indexAddr t x ix, ty, pos, aft, gd⟩ w K := by
  subst hj
  obtain ⟨p, hr, ha⟩ := r_index (P := P) (dst := dst) (ty := ty) (pos := pos) (aft := aft) (gd := gd) hs ht hk hx hi (by omega) (by omega)
  have hy : xs[j]? = some xs[j] := List.getElem?_eq_getElem h1
  rw [Int.toNat_natCast, flat_get hc xs j _ hy] at ha
  exact Step.of (hr w) (kk p _ hy ha)
theorem t_index {S : World → Prop} {G : Value → Prop} {w0 : World} {x ix : Operand} {t : TypeId} {j : Nat} {i : Int} {q : IntKind} (hs : Ls cs k w0 L B v xs) (hc : ∀ x, (cs x).length = k) (ht : elB P t = some e) (hk : sizeB P e = some k)
    (hx : ev l x = some v) (hi : ev l ix = some (.int q i)) (hj : i = (j : Int)) (h1 : j < xs.length)
    (kk : ∀ p y, xs[j]? = some y → At w0 L B p (cs y) → G (.pointer (some p))) : Tk P S l ⟨dst, .indexAddr t x ix, ty, pos, aft, gd⟩ G := by
  subst hj
  obtain ⟨p, hr, ha⟩ := r_index (P := P) (dst := dst) (ty := ty) (pos := pos) (aft := aft) (gd := gd) hs ht hk hx hi (by omega) (by omega)
  have hy : xs[j]? = some xs[j] := List.getElem?_eq_getElem h1
  rw [Int.toNat_natCast, flat_get hc xs j _ hy] at ha
  exact Tk.of (fun w' _ => hr w') (kk p _ hy ha)
end

theorem t_v {S : World → Prop} {G : Value → Prop} {o : Oper} {v : Value} (h : ∀ w, Runs P l o w v w) (hG : G v) : Tk P S l o G := Tk.of (fun w _ => h w) hG
/-- A load in a region that draws: out of cells that the region leaves alone. -/
theorem t_loadAt {ws : List Nat} {w0 : World} {G : Value → Prop} {x : Operand} {t : TypeId} {p : Addr} {L B off : Nat} {cs : List Value} {v : Value} (ha : At w0 L B p cs) (hw : ∀ k ∈ ws, k < L ∨ B ≤ k) (ht : aggB P t = some false)
    (h : ev l x = some (.pointer (some (p.add off)))) (hv : cs[off]? = some v) (hG : G v) : Tk P (Ch ws w0) l ⟨dst, .load t x, ty, pos, aft, gd⟩ G :=
  Tk.of (fun _ c => r_loadAt (ha.ch c hw) ht h hv) hG
theorem t_loadAt0 {ws : List Nat} {w0 : World} {G : Value → Prop} {x : Operand} {t : TypeId} {p : Addr} {L B : Nat} {cs : List Value} {v : Value} (ha : At w0 L B p cs) (hw : ∀ k ∈ ws, k < L ∨ B ≤ k) (ht : aggB P t = some false)
    (h : ev l x = some (.pointer (some p))) (hv : cs[0]? = some v) (hG : G v) : Tk P (Ch ws w0) l ⟨dst, .load t x, ty, pos, aft, gd⟩ G :=
  Tk.of (fun _ c => r_loadAt0 (ha.ch c hw) ht h hv) hG
theorem t_loadAtA {ws : List Nat} {w0 : World} {G : Value → Prop} {x : Operand} {t : TypeId} {p : Addr} {L B off : Nat} {cs : List Value} (n : Nat) (ha : At w0 L B p cs) (hw : ∀ k ∈ ws, k < L ∨ B ≤ k) (ht : aggB P t = some true) (hz : sizeB P t = some n)
    (hn : ((cs.drop off).take n).length = n) (h : ev l x = some (.pointer (some (p.add off)))) (hG : G (.agg ((cs.drop off).take n).toArray)) : Tk P (Ch ws w0) l ⟨dst, .load t x, ty, pos, aft, gd⟩ G :=
  Tk.of (fun _ c => r_loadAtA n (ha.ch c hw) ht hz hn h) hG
theorem t_loadAtA0 {ws : List Nat} {w0 : World} {G : Value → Prop} {x : Operand} {t : TypeId} {p : Addr} {L B : Nat} {cs : List Value} (ha : At w0 L B p cs) (hw : ∀ k ∈ ws, k < L ∨ B ≤ k) (ht : aggB P t = some true) (hz : sizeB P t = some cs.length)
    (h : ev l x = some (.pointer (some p))) (hG : G (.agg cs.toArray)) : Tk P (Ch ws w0) l ⟨dst, .load t x, ty, pos, aft, gd⟩ G :=
  Tk.of (fun _ c => r_loadAtA0 (ha.ch c hw) ht hz h) hG

theorem resOf_loadA {t ty : Nat} {b : Nat} {t' : TypeId} {cs : List Value} {rs : List ResultVar} {vs : List Value} (hb : Blk w b t' cs) (hl : look l t = some (.pointer (some ⟨b, 0, none⟩))) (ht : aggB P ty = some true) (hz : sizeB P ty = some cs.length)
    (h : resOf P l w rs vs) : resOf P l w (.cell t ty :: rs) (.agg cs.toArray :: vs) := ⟨⟨_, hl, run_loadA ht hz hb.at_.2⟩, h⟩

/-! ### Structs of ints compared -/
def intStructB (P : Program) (t : TypeId) (n : Nat) : Bool :=
  match P.underlying t with
  | some (.struct fs) => fs.size == n && !P.stoodInHeld t && !P.eqGuardType P.depth t && (List.range n).all fun i => match fs[i]? with
      | some f => f.name != "_" && f.offset == i && (match P.underlying f.type with | some (.int .i64) => true | _ => false)
      | none => false
  | _ => false

theorem run_part1 {t : TypeId} {cs : Array Value} {i : Nat} {v : Value} (ht : P.underlying t = some (.int .i64)) (h : cs[i]? = some v) : (part t cs i).run P w = .ok v w := by
  simp [part, isAgg, run_underlying ht, h]

theorem run_eqFields_ints (xs ys : List Int) (d : Nat) : ∀ (fs : List Field) (o : Nat), o + fs.length = xs.length → o + fs.length = ys.length → (∀ i f, fs[i]? = some f → f.name ≠ "_" ∧ f.offset = o + i ∧ P.underlying f.type = some (.int .i64)) →
    (Op.eqFields (d + 1) (xs.map (.int .i64)).toArray (ys.map (.int .i64)).toArray fs).run P w = .ok (decide (xs.drop o = ys.drop o)) w
  | [], o, h1, h2, _ => by
    have e1 : xs.drop o = [] := List.drop_eq_nil_of_le (by simp at h1; omega)
    have e2 : ys.drop o = [] := List.drop_eq_nil_of_le (by simp at h2; omega)
    simp [Op.eqFields, e1, e2]
  | f :: fs, o, h1, h2, h => by
    obtain ⟨hn, ho, ht⟩ := h 0 f rfl
    simp only [List.length_cons] at h1 h2
    have hx : o < xs.length := by omega
    have hy : o < ys.length := by omega
    have p1 : ((xs.map (Value.int .i64)).toArray)[f.offset]? = some (.int .i64 xs[o]) := by simp [ho, hx]
    have p2 : ((ys.map (Value.int .i64)).toArray)[f.offset]? = some (.int .i64 ys[o]) := by simp [ho, hy]
    have ih := run_eqFields_ints xs ys d fs (o + 1) (by omega) (by omega) (fun i g hg => by
      obtain ⟨a, b, c⟩ := h (i + 1) g (by simpa using hg)
      exact ⟨a, by omega, c⟩)
    simp only [Op.eqFields, hn, ne_eq, not_false_iff, if_true, Sem.run_bind, run_part1 ht p1, run_part1 ht p2, Result.andThen_ok, run_equalIn_int w d f.type .i64 .i64 xs[o] ys[o] ht, Sem.run_ite, Sem.run_pure, ih]
    rw [List.drop_eq_getElem_cons hx, List.drop_eq_getElem_cons hy]
    simp only [List.cons.injEq]
    by_cases he : xs[o] = ys[o] <;> simp [he]

theorem run_eqInts {t : TypeId} (xs ys : List Int) (h : intStructB P t xs.length = true) (hl : ys.length = xs.length) :
    (Op.equalIn 10000 t (.agg (xs.map (.int .i64)).toArray) (.agg (ys.map (.int .i64)).toArray)).run P w = .ok (decide (xs = ys)) w ∧ P.eqGuardType P.depth t = false := by
  unfold intStructB at h
  cases hu : P.underlying t with
  | none => simp [hu] at h
  | some dd =>
    cases dd with
    | struct fs =>
      simp only [hu, Bool.and_eq_true, Bool.not_eq_true', beq_iff_eq, List.all_eq_true, List.mem_range] at h
      obtain ⟨⟨⟨h1, h2⟩, h3⟩, h4⟩ := h
      have hf : P.fieldsOf t = fs := by simp [Program.fieldsOf, hu]
      rw [run_equalIn_struct w 9999 t _ _ (by rw [hf]; exact hu) h2, hf]
      refine ⟨?_, h3⟩
      have := run_eqFields_ints (P := P) (w := w) xs ys 9998 fs.toList 0 (by simp [h1]) (by simp [h1, hl]) (fun i f hi => by
        have hlt : i < xs.length := by
          have := (List.getElem?_eq_some_iff.1 hi).1
          simp [h1] at this
          exact this
        have hi' : fs[i]? = some f := by simpa using hi
        have := h4 i hlt
        simp only [hi', Bool.and_eq_true, bne_iff_ne, beq_iff_eq] at this
        refine ⟨this.1.1, by omega, ?_⟩
        have h5 := this.2
        split at h5
        · assumption
        · cases h5)
      simpa using this
    | _ => simp [hu] at h

theorem r_eqlI {x y : Operand} {t yt : TypeId} (xs ys : List Int) (h : intStructB P t xs.length = true) (hl : ys.length = xs.length) (hx : ev l x = some (.agg (xs.map (.int .i64)).toArray)) (hy : ev l y = some (.agg (ys.map (.int .i64)).toArray)) :
    Runs P l ⟨dst, .binOp .eql t x y yt, ty, pos, aft, gd⟩ w (.bool (decide (xs = ys))) w := fun ρ hρ => by
  obtain ⟨h1, h2⟩ := run_eqInts (P := P) (w := w) xs ys h hl
  have hg := run_eqGuard_agg (P := P) w .eql t x y (xs.map (.int .i64)).toArray (ys.map (.int .i64)).toArray h2
  simp only [execOp, hρ _ _ hx, hρ _ _ hy, Sem.run_bind, hg, Result.andThen_ok, run_eql_struct, h1, Sem.run_pure]
theorem r_neqI {x y : Operand} {t yt : TypeId} (xs ys : List Int) (h : intStructB P t xs.length = true) (hl : ys.length = xs.length) (hx : ev l x = some (.agg (xs.map (.int .i64)).toArray)) (hy : ev l y = some (.agg (ys.map (.int .i64)).toArray)) :
    Runs P l ⟨dst, .binOp .neq t x y yt, ty, pos, aft, gd⟩ w (.bool (!decide (xs = ys))) w := fun ρ hρ => by
  obtain ⟨h1, h2⟩ := run_eqInts (P := P) (w := w) xs ys h hl
  have hg := run_eqGuard_agg (P := P) w .neq t x y (xs.map (.int .i64)).toArray (ys.map (.int .i64)).toArray h2
  simp only [execOp, hρ _ _ hx, hρ _ _ hy, Sem.run_bind, hg, Result.andThen_ok, run_neq_struct, h1, Sem.run_pure]

end
end Go.KLib
