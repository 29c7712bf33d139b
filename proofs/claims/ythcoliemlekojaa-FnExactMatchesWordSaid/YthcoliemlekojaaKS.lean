/- Slice expressions on rows; ranges of blocks. -/
import Derived.Test.YthcoliemlekojaaKR
namespace Go.KLib

section
variable {P : Program} {w : World} {l : KL} {dst : Option Tmp} {ty : TypeId} {pos : String} {aft : Array Go.Edge} {gd : Option (Nat × Bool)} {K : Value → World → Prop}

theorem elem_of {t e : TypeId} (h : elB P t = some e) : P.underlying t = some (.slice (P.elem t)) ∧ P.elem t = e := by
  have h1 := elB_spec h
  have h2 : P.elem t = e := by simp [Program.elem, h1]
  exact ⟨by rw [h2]; exact h1, h2⟩
/-- What a slice expression yields. -/
def cutV (v : Value) (k lo hi : Nat) : Value :=
  match v with
  | .slice A n c => sliced A lo hi c k
  | v => v
theorem cut_bl (v : Value) (k lo hi : Nat) : bl (cutV v k lo hi) = bl v := by
  cases v <;> try rfl
  rename_i A n c
  cases A with
  | none => simp [cutV, sliced, bl, Value.ownBlock]
  | some a =>
    simp only [cutV, sliced, Option.map_some]
    split
    · rfl
    · simp [bl, Value.ownBlock, block_add]

theorem run_cut {t e : TypeId} {k n c lo hi : Nat} {A : Option Addr} (ht : elB P t = some e) (hk : sizeB P e = some k) (L H : Option Value)
    (hL : (∃ q, L = some (.int q (lo : Int))) ∨ (L = none ∧ lo = 0)) (hH : (∃ q, H = some (.int q (hi : Int))) ∨ (H = none ∧ hi = n)) (h1 : lo ≤ hi) (h2 : hi ≤ c) (hn : n ≤ c) :
    (Instr.sliceAt t (.slice A n c) L H none).run P w = .ok (cutV (.slice A n c) k lo hi) w := by
  obtain ⟨hu, he⟩ := elem_of ht
  have hs : (sizeOf (P.elem t)).run P w = .ok k w := by rw [he]; exact run_sizeB hk
  rw [run_sliceAt_slice (P := P) (w := w) t _ _ _ _ hu]
  rcases hL with ⟨q, rfl⟩ | ⟨rfl, rfl⟩ <;> rcases hH with ⟨q', rfl⟩ | ⟨rfl, rfl⟩
  · rw [run_slice_lh (P := P) (w := w) t A n c hu q q' lo hi (by omega) (by omega) (by omega), hs]; rfl
  · rw [run_slice_l (P := P) (w := w) t A hi c hu q lo (by omega) (by omega), hs]; rfl
  · rw [run_slice_h (P := P) (w := w) t A n c hu q' hi (by omega) (by omega), hs]; rfl
  · rw [run_slice_all (P := P) (w := w) t A hi c hu, hs]; rfl

variable {α : Type} {cs : α → List Value} {e k L B : Nat} {v : Value} {xs : List α}
theorem flat_drop (hc : ∀ x, (cs x).length = k) (xs : List α) (i : Nat) : (xs.drop i).flatMap cs = (xs.flatMap cs).drop (i * k) := by
  induction xs generalizing i with
  | nil => simp
  | cons x xs ih =>
    cases i with
    | zero => simp
    | succ i =>
      rw [List.drop_succ_cons, ih, List.flatMap_cons, show (i + 1) * k = (cs x).length + i * k by rw [hc x, Nat.succ_mul, Nat.add_comm], List.drop_length_add_append]
theorem flat_take (hc : ∀ x, (cs x).length = k) (xs : List α) (i : Nat) : (xs.take i).flatMap cs = (xs.flatMap cs).take (i * k) := by
  induction xs generalizing i with
  | nil => simp
  | cons x xs ih =>
    cases i with
    | zero => simp
    | succ i =>
      rw [List.take_succ_cons, List.flatMap_cons, ih, List.flatMap_cons, show (i + 1) * k = (cs x).length + i * k by rw [hc x, Nat.succ_mul, Nat.add_comm], List.take_length_add_append]
theorem cut_flat (hc : ∀ x, (cs x).length = k) (xs : List α) (lo n : Nat) : ((xs.drop lo).take n).flatMap cs = ((xs.flatMap cs).drop (lo * k)).take (n * k) := by
  rw [flat_take hc, flat_drop hc]

theorem Ls.cut (h : Ls cs k w L B v xs) (hc : ∀ x, (cs x).length = k) {lo hi : Nat} (h1 : lo ≤ hi) (h2 : hi ≤ xs.length) : Ls cs k w L B (cutV v k lo hi) ((xs.drop lo).take (hi - lo)) := by
  obtain ⟨hl, A, c, rfl, hn, hm, hA⟩ := h
  have hlen : ((xs.drop lo).take (hi - lo)).length = hi - lo := by rw [List.length_take, List.length_drop]; omega
  refine ⟨by rw [flat_len hc], _, _, by rw [hlen]; rfl, by omega, by omega, fun h0 => ?_⟩
  rw [hlen] at h0
  obtain ⟨ad, rfl, ha⟩ := hA (by omega)
  rw [if_neg (by omega)]
  refine ⟨ad.add (lo * k), rfl, ?_⟩
  have h3 := ha.sub (lo * k) ((hi - lo) * k)
  rw [← cut_flat hc] at h3
  exact h3
theorem Ol.cut (h : Ol cs e k w v xs) (hc : ∀ x, (cs x).length = k) {lo hi : Nat} (h1 : lo ≤ hi) (h2 : hi ≤ xs.length) : Ol cs e k w (cutV v k lo hi) ((xs.drop lo).take (hi - lo)) := by
  have hlen : ((xs.drop lo).take (hi - lo)).length = hi - lo := by rw [List.length_take, List.length_drop]; omega
  refine ⟨by rw [flat_len hc], ?_⟩
  rcases h.2 with ⟨rfl, h0⟩ | ⟨g, off, cap, cur, rfl, hg, hn, hm, hf, ht⟩
  · refine .inl ⟨?_, by omega⟩
    obtain rfl : hi = 0 := by omega
    obtain rfl : lo = 0 := by omega
    rfl
  · refine .inr ⟨g, if cap = lo then off else off + lo * k, cap - lo, cur, ?_, hg, by omega, by omega, ?_, ?_⟩
    · rw [hlen]
      simp only [cutV, sliced]
      split
      · rfl
      · simp [add_lit]
    · split
      · rename_i hcl
        subst hcl
        have : off ≤ cur.size := by
          have := Nat.le_trans (Nat.le_add_right off (cap * k)) hf
          exact this
        simp; omega
      · have h5 : lo * k + (cap - lo) * k = cap * k := by rw [← Nat.add_mul]; congr 1; omega
        omega
    · rw [cut_flat hc, ← ht, hlen]
      split
      · have : hi - lo = 0 := by omega
        rw [this]; simp
      · rw [← List.drop_drop, List.drop_take, List.take_take]
        congr 1
        have h6 : (hi - lo) * k + lo * k ≤ xs.length * k := by rw [← Nat.add_mul]; exact Nat.mul_le_mul_right _ (by omega)
        omega

/-- The bound of a slice expression. -/
def bndB (l : KL) (o : Option Operand) (dflt n : Nat) : Prop :=
  match o with
  | some x => ∃ q i, ev l x = some (.int q i) ∧ i = (n : Int)
  | none => n = dflt
theorem r_cut {w' : World} {x : Operand} {t : TypeId} {Lo Hi : Option Operand} {lo hi : Nat} (hs : Ls cs k w L B v xs) (ht : elB P t = some e) (hk : sizeB P e = some k) (hx : ev l x = some v)
    (hL : bndB l Lo 0 lo) (hH : bndB l Hi xs.length hi) (h1 : lo ≤ hi) (h2 : hi ≤ xs.length) : Runs P l ⟨dst, .slice t x Lo Hi none, ty, pos, aft, gd⟩ w' (cutV v k lo hi) w' := fun ρ hρ => by
  obtain ⟨hl, A, c, rfl, hn, hm, hA⟩ := hs
  have e1 := run_cut (P := P) (w := w') (A := A) (n := xs.length) (c := c) ht hk (Lo.map ρ) (Hi.map ρ)
    (by cases Lo with
      | none => exact .inr ⟨rfl, hL⟩
      | some y => obtain ⟨q, i, hq, rfl⟩ := hL; exact .inl ⟨q, by simp [hρ _ _ hq]⟩)
    (by cases Hi with
      | none => exact .inr ⟨rfl, hH⟩
      | some y => obtain ⟨q, i, hq, rfl⟩ := hH; exact .inl ⟨q, by simp [hρ _ _ hq]⟩) h1 (Nat.le_trans h2 hn) hn
  unfold execOp
  simp only [Option.map_none, hρ _ _ hx, Sem.run_bind, e1, Result.andThen_ok, Sem.run_pure]
theorem s_cut {x : Operand} {t : TypeId} {Lo Hi : Option Operand} {ys : List α} (lo hi : Nat) (hs : Ls cs k w L B v xs) (hc : ∀ x, (cs x).length = k) (ht : elB P t = some e) (hk : sizeB P e = some k) (hx : ev l x = some v)
    (hL : bndB l Lo 0 lo) (hH : bndB l Hi xs.length hi) (h1 : lo ≤ hi) (h2 : hi ≤ xs.length) (hy : (xs.drop lo).take (hi - lo) = ys)
    (kk : ∀ v', Ls cs k w L B v' ys → bl v' = bl v → ys.length = hi - lo → K v' w) : Step P l ⟨dst, .slice t x Lo Hi none, ty, pos, aft, gd⟩ w K :=
  Step.of (r_cut hs ht hk hx hL hH h1 h2) (kk _ (hy ▸ hs.cut hc h1 h2) (cut_bl _ _ _ _) (by rw [← hy, List.length_take, List.length_drop]; omega))
theorem s_cutO {e' : TypeId} {x : Operand} {t : TypeId} {Lo Hi : Option Operand} {ys : List α} (lo hi : Nat) (hs : Ol cs e' k w v xs) (hc : ∀ x, (cs x).length = k) (ht : elB P t = some e) (hk : sizeB P e = some k) (hx : ev l x = some v)
    (hL : bndB l Lo 0 lo) (hH : bndB l Hi xs.length hi) (h1 : lo ≤ hi) (h2 : hi ≤ xs.length) (hy : (xs.drop lo).take (hi - lo) = ys)
    (kk : ∀ v', Ol cs e' k w v' ys → bl v' = bl v → ys.length = hi - lo → K v' w) : Step P l ⟨dst, .slice t x Lo Hi none, ty, pos, aft, gd⟩ w K :=
  Step.of (r_cut hs.ls ht hk hx hL hH h1 h2) (kk _ (hy ▸ hs.cut hc h1 h2) (cut_bl _ _ _ _) (by rw [← hy, List.length_take, List.length_drop]; omega))
theorem t_cut {S : World → Prop} {G : Value → Prop} {x : Operand} {t : TypeId} {Lo Hi : Option Operand} {ys : List α} (lo hi : Nat) (hs : Ls cs k w L B v xs) (hc : ∀ x, (cs x).length = k) (ht : elB P t = some e) (hk : sizeB P e = some k) (hx : ev l x = some v)
    (hL : bndB l Lo 0 lo) (hH : bndB l Hi xs.length hi) (h1 : lo ≤ hi) (h2 : hi ≤ xs.length) (hy : (xs.drop lo).take (hi - lo) = ys)
    (kk : ∀ v', Ls cs k w L B v' ys → bl v' = bl v → ys.length = hi - lo → G v') : Tk P S l ⟨dst, .slice t x Lo Hi none, ty, pos, aft, gd⟩ G :=
  Tk.of (fun _ _ => r_cut hs ht hk hx hL hH h1 h2) (kk _ (hy ▸ hs.cut hc h1 h2) (cut_bl _ _ _ _) (by rw [← hy, List.length_take, List.length_drop]; omega))
theorem t_cutO {S : World → Prop} {G : Value → Prop} {e' : TypeId} {x : Operand} {t : TypeId} {Lo Hi : Option Operand} {ys : List α} (lo hi : Nat) (hs : Ol cs e' k w v xs) (hc : ∀ x, (cs x).length = k) (ht : elB P t = some e) (hk : sizeB P e = some k) (hx : ev l x = some v)
    (hL : bndB l Lo 0 lo) (hH : bndB l Hi xs.length hi) (h1 : lo ≤ hi) (h2 : hi ≤ xs.length) (hy : (xs.drop lo).take (hi - lo) = ys)
    (kk : ∀ v', Ol cs e' k w v' ys → bl v' = bl v → ys.length = hi - lo → G v') : Tk P S l ⟨dst, .slice t x Lo Hi none, ty, pos, aft, gd⟩ G :=
  Tk.of (fun _ _ => r_cut hs.ls ht hk hx hL hH h1 h2) (kk _ (hy ▸ hs.cut hc h1 h2) (cut_bl _ _ _ _) (by rw [← hy, List.length_take, List.length_drop]; omega))
theorem cut_all (xs : List α) (lo : Nat) : (xs.drop lo).take (xs.length - lo) = xs.drop lo := List.take_of_length_le (by rw [List.length_drop]; exact Nat.le_refl _)
theorem cut_to (xs : List α) (hi : Nat) : (xs.drop 0).take (hi - 0) = xs.take hi := rfl
end

/-! ### Pointers held against nil -/
def ptrB (P : Program) (t : TypeId) : Bool :=
  match P.underlying t with
  | some (.pointer _) => true
  | _ => false
section
variable {P : Program} {w : World} {l : KL} {dst : Option Tmp} {ty : TypeId} {pos : String} {aft : Array Go.Edge} {gd : Option (Nat × Bool)} {x y : Operand} {xt yt : TypeId} {p : Option Addr}
theorem run_equal_pn (ht : ptrB P xt = true) : (Op.equal xt (.pointer p) (.pointer none)).run P w = .ok p.isNone w := by
  unfold ptrB at ht
  split at ht
  · rename_i e he
    have h : ∀ d, (Op.equalIn (d + 1) xt (.pointer p) (.pointer none)).run P w = .ok p.isNone w := fun d => by
      cases p <;> simp [Op.equalIn, run_underlying he]
    exact h 9999
  · cases ht
theorem r_eqPN (ht : ptrB P xt = true) (hx : ev l x = some (.pointer p)) (hy : ev l y = some (.pointer none)) : Runs P l ⟨dst, .binOp .eql xt x y yt, ty, pos, aft, gd⟩ w (.bool p.isNone) w := fun ρ hρ => by
  have e : binOp .eql xt (.pointer p) (.pointer none) = (do pure (.bool (← Op.equal xt (.pointer p) (.pointer none)))) := rfl
  simp [execOp, hρ _ _ hx, hρ _ _ hy, eqGuard, e, run_equal_pn ht]
theorem r_nePN (ht : ptrB P xt = true) (hx : ev l x = some (.pointer p)) (hy : ev l y = some (.pointer none)) : Runs P l ⟨dst, .binOp .neq xt x y yt, ty, pos, aft, gd⟩ w (.bool (!p.isNone)) w := fun ρ hρ => by
  have e : binOp .neq xt (.pointer p) (.pointer none) = (do pure (.bool (!(← Op.equal xt (.pointer p) (.pointer none))))) := rfl
  simp [execOp, hρ _ _ hx, hρ _ _ hy, eqGuard, e, run_equal_pn ht]
end

/-! ### A field of a field -/
theorem r_fieldAddrN {P : Program} {w : World} {l : KL} {dst : Option Tmp} {ty : TypeId} {pos : String} {aft : Array Go.Edge} {gd : Option (Nat × Bool)} {x : Operand} {s field off a n : Nat} {p : Addr} (hs : faB P s field = some off)
    (h : ev l x = some (.pointer (some (p.add a)))) (hn : n = a + off) : Runs P l ⟨dst, .fieldAddr s x field, ty, pos, aft, gd⟩ w (.pointer (some (p.add n))) w := by
  have := r_fieldAddr (P := P) (w := w) (dst := dst) (ty := ty) (pos := pos) (aft := aft) (gd := gd) hs h
  rwa [add_add, ← hn] at this

/-! ### Conditions that the way has settled -/
section
variable {P : Program} {N : Nat} {Q : Po} {l : KL} {w : World} {ops : Array Oper} {rest : List Oper}
theorem bnot_inj {b c : Bool} (h : (!b) = c) : b = !c := by cases b <;> cases c <;> simp_all
theorem W_condTk {c : Operand} {x y : Code} {b : Bool} (hc : ev l c = some (.bool b)) (hb : b = true) (ht : W P N x Q l w) : W P N (.cond c x y) Q l w := by subst hb; exact W_condT hc ht
theorem W_condFk {c : Operand} {x y : Code} {b : Bool} (hc : ev l c = some (.bool b)) (hb : b = false) (hf : W P N y Q l w) : W P N (.cond c x y) Q l w := by subst hb; exact W_condF hc hf
theorem WL_splitT {d : Nat} {b : Bool} (hd : look l d = some (.bool b)) (hb : b = true) (h : WL P N ops Q rest ((d, .bool true) :: l) w) : WL P N ops Q rest l w := by subst hb; exact WL_sub (Sub.cons hd (Sub.refl l)) h
theorem WL_splitF {d : Nat} {b : Bool} (hd : look l d = some (.bool b)) (hb : b = false) (h : WL P N ops Q rest ((d, .bool false) :: l) w) : WL P N ops Q rest l w := by subst hb; exact WL_sub (Sub.cons hd (Sub.refl l)) h
theorem DR_splitT {S : World → Prop} {fuel : Nat} {listed : Array Bool} {d : Nat} {b : Bool} (hd : look l d = some (.bool b)) (hb : b = true) (h : DR P N ops Q S fuel listed ((d, .bool true) :: l) w) : DR P N ops Q S fuel listed l w := by subst hb; exact DR_sub (Sub.cons hd (Sub.refl l)) h
theorem DR_splitF {S : World → Prop} {fuel : Nat} {listed : Array Bool} {d : Nat} {b : Bool} (hd : look l d = some (.bool b)) (hb : b = false) (h : DR P N ops Q S fuel listed ((d, .bool false) :: l) w) : DR P N ops Q S fuel listed l w := by subst hb; exact DR_sub (Sub.cons hd (Sub.refl l)) h
end

/-! ### Ranges of blocks -/
def Rg (lo hi : Nat) : List Nat := List.range' lo (hi - lo)
theorem mem_rg {lo hi g : Nat} (h : g ∈ Rg lo hi) : lo ≤ g ∧ g < hi := by
  have := List.mem_range'_1.1 h; omega
theorem rg_mem {lo hi g : Nat} (h : lo ≤ g ∧ g < hi) : g ∈ Rg lo hi := List.mem_range'_1.2 (by omega)
theorem Ch.rg {ws : List Nat} {w w' : World} {lo hi : Nat} (c : Ch ws w w') (h : ∀ g ∈ ws, lo ≤ g ∧ g < hi) : Ch (Rg lo hi) w w' := c.mono fun _ _ hm => rg_mem (h _ hm)
/-- No slice of vs shares the block of v. -/
def Sep (v : Value) (vs : List Sv) : Prop := ∀ u ∈ vs, ∀ g ∈ bl u.v, g ∉ bl v
end Go.KLib
