/- Part 3 of the logic: what single operations do. -/
import Derived.Test.YthcoliemlekojaaKB
import Derived.WalkLawsBesides
import Derived.WalkSpells
namespace Go.KLib

/-! ### What the program's tables say of a type, as computed values -/
def aggB (P : Program) (t : TypeId) : Option Bool :=
  match P.underlying t with
  | some (.struct _) | some (.array _ _) => some true
  | some _ => some false
  | none => none
def sizeB (P : Program) (t : TypeId) : Option Nat := (P.info? t).map (·.size)
def bytesB (P : Program) (t : TypeId) : Option Nat := (P.info? t).map (·.bytes)
def zeroB (P : Program) (t : TypeId) : Option Value := (P.info? t).bind (·.zero)
def elB (P : Program) (t : TypeId) : Option TypeId :=
  match P.underlying t with
  | some (.slice e) => some e
  | _ => none
def faB (P : Program) (s field : Nat) : Option Nat :=
  match P.underlying s with
  | some (.struct fs) => match fs[field]? with
    | some f => match sizeB P f.type with
      | some (_ + 1) => some f.offset
      | _ => none
    | none => none
  | _ => none

section
variable {P : Program} {w : World}

theorem run_aggB {t : TypeId} {b : Bool} (h : aggB P t = some b) : (isAgg t).run P w = .ok b w := by
  unfold aggB at h
  cases hu : P.underlying t with
  | none => simp [hu] at h
  | some d => cases d <;> simp [hu] at h <;> simp [isAgg, run_underlying hu, h]
theorem run_sizeB {t : TypeId} {n : Nat} (h : sizeB P t = some n) : (sizeOf t).run P w = .ok n w := by
  unfold sizeB at h
  cases hi : P.info? t with
  | none => simp [hi] at h
  | some i => simp [hi] at h; simp [sizeOf, typeInfo, hi, h]
theorem run_zeroB {t : TypeId} {z : Value} (h : zeroB P t = some z) : (zeroValue t).run P w = .ok z w := by
  unfold zeroB at h
  cases hi : P.info? t with
  | none => simp [hi] at h
  | some i => simp [hi] at h; simp [zeroValue, typeInfo, hi, h]
theorem elB_spec {t e : TypeId} (h : elB P t = some e) : P.underlying t = some (.slice e) := by
  unfold elB at h
  cases hu : P.underlying t with
  | none => simp [hu] at h
  | some d => cases d <;> simp [hu] at h; rw [h]
theorem info_of {t : TypeId} {s b : Nat} {z : Value} (hs : sizeB P t = some s) (hb : bytesB P t = some b) (hz : zeroB P t = some z) : ∃ i, P.info? t = some i ∧ i.zero = some z ∧ i.size = s ∧ i.bytes = b := by
  unfold sizeB at hs; unfold bytesB at hb; unfold zeroB at hz
  cases hi : P.info? t with
  | none => simp [hi] at hs
  | some i => simp [hi] at hs hb hz; exact ⟨i, rfl, hz, hs, hb⟩

variable {l : KL} {dst : Option Tmp} {ty : TypeId} {pos : String} {aft : Array Edge} {gd : Option (Nat × Bool)}

theorem r_move {x : Operand} {v : Value} (h : ev l x = some v) : Runs P l ⟨dst, .move x, ty, pos, aft, gd⟩ w v w := fun ρ hρ => by simp [execOp, hρ x v h]
theorem r_assign {x : Operand} {v : Value} (h : ev l x = some v) : Runs P l ⟨dst, .assign x, ty, pos, aft, gd⟩ w v w := fun ρ hρ => by simp [execOp, hρ x v h]
theorem r_pick {c x y : Operand} {b : Bool} {u v : Value} (hc : ev l c = some (.bool b)) (hx : ev l x = some u) (hy : ev l y = some v) : Runs P l ⟨dst, .pick c x y, ty, pos, aft, gd⟩ w (bif b then u else v) w := fun ρ hρ => by
  cases b <;> simp [execOp, hρ _ _ hc, hρ _ _ hx, hρ _ _ hy, asBool]
theorem r_pickT {c x y : Operand} {u : Value} (hc : ev l c = some (.bool true)) (hx : ev l x = some u) : Runs P l ⟨dst, .pick c x y, ty, pos, aft, gd⟩ w u w := fun ρ hρ => by
  simp [execOp, hρ _ _ hc, hρ _ _ hx, asBool]
theorem r_pickF {c x y : Operand} {v : Value} (hc : ev l c = some (.bool false)) (hy : ev l y = some v) : Runs P l ⟨dst, .pick c x y, ty, pos, aft, gd⟩ w v w := fun ρ hρ => by
  simp [execOp, hρ _ _ hc, hρ _ _ hy, asBool]
theorem r_nilCheck {x : Operand} {p : Addr} (h : ev l x = some (.pointer (some p))) : Runs P l ⟨dst, .nilCheck x, ty, pos, aft, gd⟩ w (.pointer (some p)) w := fun ρ hρ => by simp [execOp, hρ x _ h]
theorem r_not {x : Operand} {t : TypeId} {b : Bool} (h : ev l x = some (.bool b)) : Runs P l ⟨dst, .unOp .not t x, ty, pos, aft, gd⟩ w (.bool (!b)) w := fun ρ hρ => by simp [execOp, hρ x _ h, Op.unary]
theorem r_extract {x : Operand} {vs : Array Value} {i : Nat} {v : Value} (h : ev l x = some (.tuple vs)) (hi : vs[i]? = some v) : Runs P l ⟨dst, .extract x i, ty, pos, aft, gd⟩ w v w := fun ρ hρ => by
  simp [execOp, hρ x _ h, Instr.extract, hi]

theorem r_fieldAddr {x : Operand} {s field off : Nat} {p : Addr} (hs : faB P s field = some off) (h : ev l x = some (.pointer (some p))) :
    Runs P l ⟨dst, .fieldAddr s x field, ty, pos, aft, gd⟩ w (.pointer (some (p.add off))) w := fun ρ hρ => by
  unfold faB at hs
  cases hu : P.underlying s with
  | none => simp [hu] at hs
  | some d =>
    cases d with
    | struct fs =>
      simp only [hu] at hs
      cases hf : fs[field]? with
      | none => simp [hf] at hs
      | some f =>
        simp only [hf] at hs
        cases hz : sizeB P f.type with
        | none => simp [hz] at hs
        | some n =>
          cases n with
          | zero => simp [hz] at hs
          | succ n =>
            simp [hz] at hs
            simp [execOp, hρ x _ h, Instr.fieldAt, run_underlying hu, hf, Instr.sureAddr, fieldPlace, run_sizeB hz, hs]
    | _ => simp [hu] at hs

theorem r_load1 {x : Operand} {t : TypeId} {p : Addr} {v : Value} (ht : aggB P t = some false) (h : ev l x = some (.pointer (some p))) (hc : w.cell? p = some v) :
    Runs P l ⟨dst, .load t x, ty, pos, aft, gd⟩ w v w := fun ρ hρ => by
  simp [execOp, hρ x _ h, Instr.loadAt, Instr.sureAddr, loadVar, run_aggB ht, hc]
theorem run_loadA {t : TypeId} {p : Addr} {cs : List Value} (ht : aggB P t = some true) (hz : sizeB P t = some cs.length) (hc : ∀ j u, cs[j]? = some u → w.cell? (p.add j) = some u) :
    (loadVar t p).run P w = .ok (.agg cs.toArray) w := by
  simp [loadVar, run_aggB ht, run_sizeB hz, run_loadCells_list w p cs hc]
theorem run_load1 {t : TypeId} {p : Addr} {v : Value} (ht : aggB P t = some false) (hc : w.cell? p = some v) : (loadVar t p).run P w = .ok v w := by
  simp [loadVar, run_aggB ht, hc]
theorem r_loadA {x : Operand} {t : TypeId} {p : Addr} {cs : List Value} (ht : aggB P t = some true) (hz : sizeB P t = some cs.length) (h : ev l x = some (.pointer (some p)))
    (hc : ∀ j u, cs[j]? = some u → w.cell? (p.add j) = some u) : Runs P l ⟨dst, .load t x, ty, pos, aft, gd⟩ w (.agg cs.toArray) w := fun ρ hρ => by
  simp [execOp, hρ x _ h, Instr.loadAt, Instr.sureAddr, run_loadA ht hz hc]
/-- Loads out of cells that can be read. -/
theorem r_loadAt {x : Operand} {t : TypeId} {p : Addr} {L B off : Nat} {cs : List Value} {v : Value} (ha : At w L B p cs) (ht : aggB P t = some false) (h : ev l x = some (.pointer (some (p.add off)))) (hv : cs[off]? = some v) :
    Runs P l ⟨dst, .load t x, ty, pos, aft, gd⟩ w v w := r_load1 ht h (ha.cell off hv)
theorem r_loadAtA {x : Operand} {t : TypeId} {p : Addr} {L B off : Nat} {cs : List Value} (n : Nat) (ha : At w L B p cs) (ht : aggB P t = some true) (hz : sizeB P t = some n) (hn : ((cs.drop off).take n).length = n) (h : ev l x = some (.pointer (some (p.add off)))) :
    Runs P l ⟨dst, .load t x, ty, pos, aft, gd⟩ w (.agg ((cs.drop off).take n).toArray) w := r_loadA ht (by rw [hn]; exact hz) h (ha.sub off n).2
theorem r_loadAt0 {x : Operand} {t : TypeId} {p : Addr} {L B : Nat} {cs : List Value} {v : Value} (ha : At w L B p cs) (ht : aggB P t = some false) (h : ev l x = some (.pointer (some p))) (hv : cs[0]? = some v) :
    Runs P l ⟨dst, .load t x, ty, pos, aft, gd⟩ w v w := r_load1 ht h (ha.cell 0 hv)
theorem r_loadAtA0 {x : Operand} {t : TypeId} {p : Addr} {L B : Nat} {cs : List Value} (ha : At w L B p cs) (ht : aggB P t = some true) (hz : sizeB P t = some cs.length) (h : ev l x = some (.pointer (some p))) :
    Runs P l ⟨dst, .load t x, ty, pos, aft, gd⟩ w (.agg cs.toArray) w := r_loadA ht hz h ha.2

/-! ### Integers -/
section
variable {x y : Operand} {xt yt : TypeId} {k : IntKind} {a b : Int}
theorem r_lss (hx : ev l x = some (.int k a)) (hy : ev l y = some (.int k b)) : Runs P l ⟨dst, .binOp .lss xt x y yt, ty, pos, aft, gd⟩ w (.bool (decide (a < b))) w := fun ρ hρ => by
  simp [execOp, hρ _ _ hx, hρ _ _ hy, eqGuard, binOp, Op.intCmp]
theorem r_leq (hx : ev l x = some (.int k a)) (hy : ev l y = some (.int k b)) : Runs P l ⟨dst, .binOp .leq xt x y yt, ty, pos, aft, gd⟩ w (.bool (decide (a ≤ b))) w := fun ρ hρ => by
  simp [execOp, hρ _ _ hx, hρ _ _ hy, eqGuard, binOp, Op.intCmp]
theorem r_gtr (hx : ev l x = some (.int k a)) (hy : ev l y = some (.int k b)) : Runs P l ⟨dst, .binOp .gtr xt x y yt, ty, pos, aft, gd⟩ w (.bool (decide (b < a))) w := fun ρ hρ => by
  simp [execOp, hρ _ _ hx, hρ _ _ hy, eqGuard, binOp, Op.intCmp]
theorem r_geq (hx : ev l x = some (.int k a)) (hy : ev l y = some (.int k b)) : Runs P l ⟨dst, .binOp .geq xt x y yt, ty, pos, aft, gd⟩ w (.bool (decide (b ≤ a))) w := fun ρ hρ => by
  simp [execOp, hρ _ _ hx, hρ _ _ hy, eqGuard, binOp, Op.intCmp]
theorem r_eql (hx : ev l x = some (.int k a)) (hy : ev l y = some (.int k b)) : Runs P l ⟨dst, .binOp .eql xt x y yt, ty, pos, aft, gd⟩ w (.bool (decide (a = b))) w := fun ρ hρ => by
  have e : (a == b) = decide (a = b) := by by_cases h : a = b <;> simp [h]
  simp [execOp, hρ _ _ hx, hρ _ _ hy, eqGuard, binOp, Op.intCmp, e]
theorem r_neq (hx : ev l x = some (.int k a)) (hy : ev l y = some (.int k b)) : Runs P l ⟨dst, .binOp .neq xt x y yt, ty, pos, aft, gd⟩ w (.bool (!decide (a = b))) w := fun ρ hρ => by
  have e : (a != b) = !decide (a = b) := by by_cases h : a = b <;> simp [h]
  simp [execOp, hρ _ _ hx, hρ _ _ hy, eqGuard, binOp, Op.intCmp, e]
theorem r_addW (hx : ev l x = some (.int k a)) (hy : ev l y = some (.int k b)) : Runs P l ⟨dst, .binOp .add xt x y yt, ty, pos, aft, gd⟩ w (.int k (k.wrap (a + b))) w := fun ρ hρ => by
  simp [execOp, hρ _ _ hx, hρ _ _ hy, eqGuard, binOp, Op.intArith]
theorem r_subW (hx : ev l x = some (.int k a)) (hy : ev l y = some (.int k b)) : Runs P l ⟨dst, .binOp .sub xt x y yt, ty, pos, aft, gd⟩ w (.int k (k.wrap (a - b))) w := fun ρ hρ => by
  simp [execOp, hρ _ _ hx, hρ _ _ hy, eqGuard, binOp, Op.intArith]
theorem r_mulW (hx : ev l x = some (.int k a)) (hy : ev l y = some (.int k b)) : Runs P l ⟨dst, .binOp .mul xt x y yt, ty, pos, aft, gd⟩ w (.int k (k.wrap (a * b))) w := fun ρ hρ => by
  simp [execOp, hρ _ _ hx, hρ _ _ hy, eqGuard, binOp, Op.intArith]
theorem r_add (h : -9223372036854775808 ≤ a + b ∧ a + b ≤ 9223372036854775807) (hx : ev l x = some (.int .i64 a)) (hy : ev l y = some (.int .i64 b)) : Runs P l ⟨dst, .binOp .add xt x y yt, ty, pos, aft, gd⟩ w (.int .i64 (a + b)) w := by
  have := r_addW (P := P) (w := w) (dst := dst) (xt := xt) (yt := yt) (ty := ty) (pos := pos) (aft := aft) (gd := gd) hx hy
  rwa [IntWalk.i64_in _ h] at this
theorem r_sub (h : -9223372036854775808 ≤ a - b ∧ a - b ≤ 9223372036854775807) (hx : ev l x = some (.int .i64 a)) (hy : ev l y = some (.int .i64 b)) : Runs P l ⟨dst, .binOp .sub xt x y yt, ty, pos, aft, gd⟩ w (.int .i64 (a - b)) w := by
  have := r_subW (P := P) (w := w) (dst := dst) (xt := xt) (yt := yt) (ty := ty) (pos := pos) (aft := aft) (gd := gd) hx hy
  rwa [IntWalk.i64_in _ h] at this
theorem r_mul (h : -9223372036854775808 ≤ a * b ∧ a * b ≤ 9223372036854775807) (hx : ev l x = some (.int .i64 a)) (hy : ev l y = some (.int .i64 b)) : Runs P l ⟨dst, .binOp .mul xt x y yt, ty, pos, aft, gd⟩ w (.int .i64 (a * b)) w := by
  have := r_mulW (P := P) (w := w) (dst := dst) (xt := xt) (yt := yt) (ty := ty) (pos := pos) (aft := aft) (gd := gd) hx hy
  rwa [IntWalk.i64_in _ h] at this
/-- int to int. -/
theorem r_convert {src d : TypeId} (hs : (P.underlying src).isSome = true) (hd : P.underlying d = some (.int k)) {k' : IntKind} (hx : ev l x = some (.int k' a)) :
    Runs P l ⟨dst, .convert src d x, ty, pos, aft, gd⟩ w (.int k (k.wrap a)) w := fun ρ hρ => by
  obtain ⟨d', hd'⟩ := Option.isSome_iff_exists.mp hs
  simp [execOp, hρ _ _ hx, convert, run_underlying hd', run_underlying hd, Conv.intToInt]
theorem r_convert64 {src d : TypeId} (h : -9223372036854775808 ≤ a ∧ a ≤ 9223372036854775807) (hs : (P.underlying src).isSome = true) (hd : P.underlying d = some (.int .i64)) {k' : IntKind} (hx : ev l x = some (.int k' a)) :
    Runs P l ⟨dst, .convert src d x, ty, pos, aft, gd⟩ w (.int .i64 a) w := by
  have := r_convert (P := P) (w := w) (dst := dst) (ty := ty) (pos := pos) (aft := aft) (gd := gd) hs hd hx
  rwa [IntWalk.i64_in _ h] at this
theorem run_equal_bool {t : TypeId} {p q : Bool} (ht : P.underlying t = some .bool) : (Op.equal t (.bool p) (.bool q)).run P w = .ok (p == q) w := by
  have e : ∀ d, (Op.equalIn (d + 1) t (.bool p) (.bool q)).run P w = .ok (p == q) w := fun d => by
    simp [Op.equalIn, run_underlying ht]
  exact e 9999
theorem r_eqlB {p q : Bool} (ht : P.underlying xt = some .bool) (hx : ev l x = some (.bool p)) (hy : ev l y = some (.bool q)) : Runs P l ⟨dst, .binOp .eql xt x y yt, ty, pos, aft, gd⟩ w (.bool (p == q)) w := fun ρ hρ => by
  have e : binOp .eql xt (.bool p) (.bool q) = (do pure (.bool (← Op.equal xt (.bool p) (.bool q)))) := rfl
  simp [execOp, hρ _ _ hx, hρ _ _ hy, eqGuard, e, run_equal_bool ht]
theorem r_neqB {p q : Bool} (ht : P.underlying xt = some .bool) (hx : ev l x = some (.bool p)) (hy : ev l y = some (.bool q)) : Runs P l ⟨dst, .binOp .neq xt x y yt, ty, pos, aft, gd⟩ w (.bool (!(p == q))) w := fun ρ hρ => by
  have e : binOp .neq xt (.bool p) (.bool q) = (do pure (.bool (!(← Op.equal xt (.bool p) (.bool q))))) := rfl
  simp [execOp, hρ _ _ hx, hρ _ _ hy, eqGuard, e, run_equal_bool ht]
end

/-! ### Slices -/
theorem r_len {x : Operand} {t : TypeId} {A : Option Addr} {n c : Nat} (ht : (elB P t).isSome = true) (h : ev l x = some (.slice A n c)) :
    Runs P l ⟨dst, .call { callee := .builtin .len, args := #[x], argTypes := #[t] }, ty, pos, aft, gd⟩ w (.int .i64 n) w := fun ρ hρ => by
  obtain ⟨e, he⟩ := Option.isSome_iff_exists.mp ht
  simp [execOp, resolve, invoke, builtin, Builtin.len_, run_underlying (elB_spec he), hρ _ _ h, goInt]
theorem r_lenS {x : Operand} {t : TypeId} {s : ByteArray} (ht : P.underlying t = some .string) (h : ev l x = some (.string s)) :
    Runs P l ⟨dst, .call { callee := .builtin .len, args := #[x], argTypes := #[t] }, ty, pos, aft, gd⟩ w (.int .i64 s.size) w := fun ρ hρ => by
  simp [execOp, resolve, invoke, builtin, Builtin.len_, run_underlying ht, hρ _ _ h, goInt]

/-- The address of element i, and what can be read there. -/
theorem r_index {x ix : Operand} {t e : TypeId} {k n L B : Nat} {v : Value} {xs : List Value} {i : Int} {q : IntKind} (hs : Sl w L B k v n xs) (ht : elB P t = some e) (hk : sizeB P e = some k)
    (hx : ev l x = some v) (hi : ev l ix = some (.int q i)) (h0 : 0 ≤ i) (h1 : i < n) :
    ∃ p, (∀ w', Runs P l ⟨dst, .indexAddr t x ix, ty, pos, aft, gd⟩ w' (.pointer (some p)) w') ∧ At w L B p ((xs.drop (i.toNat * k)).take k) := by
  obtain ⟨hl, A, c, rfl, hc, hm, hA⟩ := hs
  obtain ⟨ad, rfl, ha⟩ := hA (by omega)
  refine ⟨ad.add (i.toNat * k), fun w' ρ hρ => ?_, ha.sub _ _⟩
  simp [execOp, hρ _ _ hx, hρ _ _ hi, Instr.indexAt, asIntOf, run_underlying (elB_spec ht), run_sizeB hk, h0, h1]

/-- The address of an element of a row of one's own. -/
theorem r_indexO {x ix : Operand} {t e : TypeId} {k n : Nat} {v : Value} {xs : List Value} {i : Int} {q : IntKind} {e' : TypeId} (hs : Ow w e' k v n xs) (ht : elB P t = some e) (hk : sizeB P e = some k)
    (hx : ev l x = some v) (hi : ev l ix = some (.int q i)) (h0 : 0 ≤ i) (h1 : i < n) :
    ∃ g off cap, v = .slice (some ⟨g, off, none⟩) n cap ∧ ∀ w', Runs P l ⟨dst, .indexAddr t x ix, ty, pos, aft, gd⟩ w' (.pointer (some ⟨g, off + i.toNat * k, none⟩)) w' := by
  rcases hs.2 with ⟨rfl, rfl⟩ | ⟨g, off, cap, cur, rfl, _⟩
  · omega
  · refine ⟨g, off, cap, rfl, fun w' ρ hρ => ?_⟩
    simp [execOp, hρ _ _ hx, hρ _ _ hi, Instr.indexAt, asIntOf, run_underlying (elB_spec ht), run_sizeB hk, h0, h1, add_lit]

/-! ### New blocks and stores -/
theorem r_box {x : Operand} {t : TypeId} {v : Value} (h : ev l x = some v) :
    ∃ b w', Runs P l ⟨dst, .box t x, ty, pos, aft, gd⟩ w (.pointer (some ⟨b, 0, none⟩)) w' ∧ Blk w' b t v.cells.toList ∧ Ch [] w w' ∧ b = w.heap.size := by
  refine ⟨w.heap.size, w.alloc (.cells v.cells.toList.toArray t), fun ρ hρ => ?_, Blk.new w t _, Ch.alloc w _, rfl⟩
  simp [execOp, hρ _ _ h, Instr.box, newVar, newRow]
theorem r_alloc {t : TypeId} {z : Value} (hz : zeroB P t = some z) :
    ∃ b w', Runs P l ⟨dst, .alloc t, ty, pos, aft, gd⟩ w (.pointer (some ⟨b, 0, none⟩)) w' ∧ Blk w' b t z.cells.toList ∧ Ch [] w w' ∧ b = w.heap.size := by
  refine ⟨w.heap.size, w.alloc (.cells z.cells.toList.toArray t), fun ρ _ => ?_, Blk.new w t _, Ch.alloc w _, rfl⟩
  simp [execOp, Instr.alloc, run_zeroB hz, newVar, newRow]

theorem r_store1 {a x : Operand} {t t' : TypeId} {b off : Nat} {cs : List Value} {v : Value} (hb : Blk w b t' cs) (ht : sizeB P t = some 1) (h1 : v.oneCell' = true)
    (ha : ev l a = some (.pointer (some (Addr.add ⟨b, 0, none⟩ off)))) (hx : ev l x = some v) (ho : Nat.blt off cs.length = true) :
    ∃ w', RunsU P l ⟨dst, .store t a x, ty, pos, aft, gd⟩ w w' ∧ Blk w' b t' (cs.set off v) ∧ Ch [b] w w' := by
  have hlt : off < cs.length := by simpa [Nat.blt_eq] using ho
  refine ⟨w.setCell ⟨b, off, none⟩ v, fun ρ hρ => ?_, hb.set off v, Ch.setCell w ⟨b, off, none⟩ v⟩
  have hvc : v.cells = #[v] := by cases v <;> simp_all [Value.oneCell', Value.cells]
  have hst : (store (Addr.add (Addr.add ⟨b, 0, none⟩ off) 0) v).run P w = .ok () (w.setCell ⟨b, off, none⟩ v) := by
    rw [add_add, add_lit, run_store P w _ v _ h1]
    simp only [Nat.zero_add, Nat.add_zero]
    rw [hb.cell off, hb.frozen off, List.getElem?_eq_getElem hlt]
    rfl
  simp [execOp, hρ _ _ ha, hρ _ _ hx, Instr.storeAt, Instr.sureAddr, storeVar, hvc, run_sizeB ht, storeCells, hst]

theorem heap_setRow_same {w : World} {g : Nat} {cur cs : Array Value} {t : TypeId} (hg : w.heap[g]? = some (.cells cur t (0, 0))) : (w.setRow g cs).heap[g]? = some (.cells cs t (0, 0)) := setRow_heap w g cur cs t _ hg
theorem Ch.setRow (w : World) (g : Nat) (cs : Array Value) : Ch [g] w (w.setRow g cs) := ⟨rfl, rfl, rfl, by simp, fun k _ hn => setRow_other w g k _ (by simpa using hn)⟩

/-- A whole value into the cells of one's own block. -/
theorem r_storeA {a x : Operand} {t t' : TypeId} {b off : Nat} {cs us : List Value} (hb : Blk w b t' cs) (ht : sizeB P t = some us.length) (h1 : us.all Value.oneCell' = true)
    (ha : ev l a = some (.pointer (some (Addr.add ⟨b, 0, none⟩ off)))) (hx : ev l x = some (.agg us.toArray)) (ho : Nat.ble (off + us.length) cs.length = true) :
    ∃ w', RunsU P l ⟨dst, .store t a x, ty, pos, aft, gd⟩ w w' ∧ Blk w' b t' (cs.take off ++ us ++ cs.drop (off + us.length)) ∧ Ch [b] w w' := by
  have hle : off + us.length ≤ cs.length := Nat.le_of_ble_eq_true ho
  have hst := run_storeCells_at (P := P) b off t' us 0 cs.toArray w hb (by simpa using hle) (by simpa using h1)
  refine ⟨w.setRow b (cs.take off ++ us ++ cs.drop (off + us.length)).toArray, fun ρ hρ => ?_, heap_setRow_same hb, Ch.setRow w b _⟩
  simp only [Nat.add_zero] at hst
  simp [execOp, hρ _ _ ha, hρ _ _ hx, Instr.storeAt, Instr.sureAddr, storeVar, Value.cells, run_sizeB ht, add_lit, hst]

/-- A value of k cells into an element of a row of one's own. -/
theorem r_storeO {a x : Operand} {t e : TypeId} {g off cap n k j : Nat} {v : Value} {xs us : List Value} (hs : Ow w e k v n xs) (hv : v = .slice (some ⟨g, off, none⟩) n cap) (hu : us.length = k) (ht : sizeB P t = some k) (h1 : us.all Value.oneCell' = true)
    (ha : ev l a = some (.pointer (some ⟨g, off + j * k, none⟩))) (hx : ∃ u, ev l x = some u ∧ u.cells = us.toArray) (hj : j < n) :
    ∃ w', RunsU P l ⟨dst, .store t a x, ty, pos, aft, gd⟩ w w' ∧ Ow w' e k v n (xs.take (j * k) ++ us ++ xs.drop (j * k + k)) ∧ Ch [g] w w' := by
  obtain ⟨u, hxu, hcells⟩ := hx
  rcases hs.2 with ⟨rfl, _⟩ | ⟨g', off', cap', cur, rfl, hg, hn, hm, hc, htk⟩
  · cases hv
  · injection hv with h1' _ h3
    injection h1' with h1'
    injection h1' with h1' h2'
    subst h1' h2' h3
    have hjk : j * k + k ≤ n * k := by rw [← Nat.succ_mul]; exact Nat.mul_le_mul_right _ hj
    have hnk : n * k ≤ cap' * k := Nat.mul_le_mul_right _ hn
    have hst := run_storeCells_at (P := P) g' (off' + j * k) e us 0 cur w hg (by omega) (by simpa using h1)
    refine ⟨w.setRow g' (cur.toList.take (off' + j * k) ++ us ++ cur.toList.drop (off' + j * k + us.length)).toArray, fun ρ hρ => ?_, ⟨?_, .inr ⟨g', off', cap', _, rfl, heap_setRow_same hg, hn, hm, ?_, ?_⟩⟩, Ch.setRow w g' _⟩
    · simp only [Nat.add_zero] at hst
      simp [execOp, hρ _ _ ha, hρ _ _ hxu, Instr.storeAt, Instr.sureAddr, storeVar, hcells, hu, run_sizeB ht, hst]
    · have hl := hs.1
      simp only [List.length_append, List.length_take, List.length_drop, hu, hl]
      omega
    · simp only [List.size_toArray, List.length_append, List.length_take, List.length_drop, Array.length_toList]
      omega
    · have hcl : off' + cap' * k ≤ cur.toList.length := by simpa using hc
      apply List.ext_getElem?
      intro i
      have hxl := hs.1
      rw [← htk]
      simp only [List.getElem?_take, List.getElem?_drop, List.getElem?_append, List.length_append, List.length_take, List.length_drop, hu]
      have e1 : min (off' + j * k) cur.toList.length = off' + j * k := by omega
      have e2 : min (j * k) (min (n * k) (cur.toList.length - off')) = j * k := by omega
      rw [e1, e2]
      by_cases hi : i < n * k
      · rw [if_pos hi]
        by_cases h1 : i < j * k
        · rw [if_pos (by omega), if_pos (by omega), if_pos (by omega), if_pos (by omega), if_pos h1, if_pos hi, if_pos h1]
        · by_cases h2 : i < j * k + k
          · rw [if_pos (by omega), if_neg (by omega), if_pos (by omega), if_neg (by omega)]
            congr 1
            omega
          · rw [if_neg (by omega), if_neg (by omega), if_pos (by omega)]
            congr 1
            omega
      · rw [if_neg hi, if_neg (by omega), if_neg (by omega)]

end
end Go.KLib
