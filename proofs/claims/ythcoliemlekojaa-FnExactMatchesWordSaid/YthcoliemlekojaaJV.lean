/- The position automaton of a tree. -/
import Derived.Test.YthcoliemlekojaaJU
namespace Go.KLib

theorem DR_three {P : Program} {N : Nat} {ops : Array Oper} {Q : Po} {l : KL} {w : World} {S : World → Prop} {fuel : Nat} {listed : Array Bool} (i j m : Nat) (hr : Region.ready .any ops listed = [i, j, m])
    (h1 : DO P N ops Q S fuel listed i l w) (h2 : DO P N ops Q S fuel listed j l w) (h3 : DO P N ops Q S fuel listed m l w) : DR P N ops Q S (fuel + 1) listed l w :=
  DR_all hr (by simp) (by
    intro k hk
    rcases List.mem_cons.1 hk with rfl | hk
    · exact h1
    · rcases List.mem_cons.1 hk with rfl | hk
      · exact h2
      · rw [List.mem_singleton.1 hk]; exact h3)
theorem nbOld {z : Value} {n b c : Nat} {R : List Nat} (h : ∀ g ∈ bl z, n ≤ g ∨ g ∈ b :: R) (hb : b ∉ bl z) (hn : c < n) (hr : c ∉ R) : c ∉ bl z := fun hm => by
  rcases h _ hm with q | q
  · omega
  · rcases List.mem_cons.1 q with q | q
    · exact hb (q ▸ hm)
    · exact hr q
theorem nin2 {c : Nat} {A B : List Nat} (h : c ∉ A) (k : c ∉ B) : c ∉ A ++ B := fun q => by
  rcases List.mem_append.1 q with q | q
  · exact h q
  · exact k q
theorem inOld {z : Value} {n b m : Nat} {R W : List Nat} (h : ∀ g ∈ bl z, n ≤ g ∨ g ∈ b :: R) (hb : b ∉ bl z) (hn : m ≤ n) (hr : ∀ g ∈ R, m ≤ g ∨ g ∈ W) : ∀ g ∈ bl z, m ≤ g ∨ g ∈ W := fun g hm => by
  rcases h _ hm with q | q
  · left; omega
  · rcases List.mem_cons.1 q with q | q
    · exact absurd (q ▸ hm) hb
    · exact hr _ q
theorem all2 {A B : List Nat} {p : Nat → Prop} (h : ∀ g ∈ A, p g) (k : ∀ g ∈ B, p g) : ∀ g ∈ A ++ B, p g := fun g q => by
  rcases List.mem_append.1 q with q | q
  · exact h g q
  · exact k g q
theorem loOld {z : Value} {n b L : Nat} {R : List Nat} (h : ∀ g ∈ bl z, n ≤ g ∨ g ∈ b :: R) (hb : b ∉ bl z) (hn : L ≤ n) (hr : ∀ g ∈ R, L ≤ g) : Lo L z := fun g hm => by
  rcases h _ hm with q | q
  · omega
  · rcases List.mem_cons.1 q with q | q
    · exact absurd (q ▸ hm) hb
    · exact hr _ q
theorem ior_comm (a b : Int) : ior a b = ior b a := by unfold ior; rw [BitVec.or_comm]
theorem inOldE {z : Value} {n b : Nat} {R W : List Nat} {w0 w1 : World} (E : Ch W w0 w1) (h : ∀ g ∈ bl z, n ≤ g ∨ g ∈ b :: R) (hb : b ∉ bl z) (hn : w0.heap.size ≤ n) (hr : ∀ g ∈ R, w0.heap.size ≤ g ∨ g ∈ W) : ∀ g ∈ bl z, w0.heap.size ≤ g ∨ g ∈ W := inOld h hb hn hr
theorem no_in {v : Value} {L W b : Nat} (lo : Lo L v) (hi : ∀ g ∈ bl v, g < W) (h : b < L ∨ W ≤ b) : b ∉ bl v := fun hm => by
  have h1 := lo _ hm
  have h2 := hi _ hm
  omega
theorem nin3 {a b : Nat} {A B : List Nat} (h : b ≠ a) (hA : b ∉ A) (hB : b ∉ B) : b ∉ a :: (A ++ B) := fun hm => by
  rcases List.mem_cons.1 hm with q | q
  · exact h q
  · exact nin2 hA hB q
theorem lwr3 {v v' : Value} {L B La Lb a : Nat} (h : a < L ∨ B ≤ a) (lo : Lo La v) (hA : B ≤ La) (lo' : Lo Lb v') (hB : B ≤ Lb) : ∀ i ∈ a :: (bl v ++ bl v'), i < L ∨ B ≤ i := fun i hm => by
  rcases List.mem_cons.1 hm with q | q
  · omega
  · rcases List.mem_append.1 q with q | q
    · have h1 := lo _ q
      omega
    · have h1 := lo' _ q
      omega
theorem no_hi {v : Value} {W b : Nat} (hi : ∀ g ∈ bl v, g < W) (h : W ≤ b) : b ∉ bl v := fun hm => by
  have h2 := hi _ hm
  omega
theorem Ow.lsB {e : TypeId} {k n B : Nat} {w : World} {v : Value} {xs : List Value} (h : Ow w e k v n xs) (hi : ∀ g ∈ bl v, g < B) : Sl w 0 B k v n xs := by
  refine ⟨h.1, ?_⟩
  have hc := fun g off cap => h.cells (g := g) (off := off) (cap := cap)
  rcases h.2 with ⟨rfl, rfl⟩ | ⟨g, off, cap, cur, rfl, hg, h1, h2, h3, _⟩
  · exact ⟨none, 0, rfl, Nat.le_refl _, Nat.zero_le _, fun h => absurd h (by omega)⟩
  · exact ⟨_, cap, rfl, h1, h2, fun _ => ⟨_, rfl, ⟨Nat.zero_le _, hi g (by simp [bl, Value.ownBlock])⟩, fun j u hu => by rw [add_lit]; exact hc g off cap rfl j u hu⟩⟩
theorem Ol.lsB {α : Type} {cs : α → List Value} {e : TypeId} {k B : Nat} {w : World} {v : Value} {xs : List α} (h : Ol cs e k w v xs) (hi : ∀ g ∈ bl v, g < B) : Ls cs k w 0 B v xs := Ow.lsB h hi
theorem ne1 {a b : Nat} (h : a ≠ b) : a ∉ [b] := fun hm => h (List.mem_singleton.1 hm)
theorem tfr1 {L B b : Nat} (h : b < L ∨ B ≤ b) : ∀ i ∈ [b], i < L ∨ B ≤ i := fun i hi => by
  have h1 := List.mem_singleton.1 hi
  omega
theorem oneL {W b : Nat} {X : List Nat} (h : W ≤ b) : ∀ i ∈ [b], W ≤ i ∨ i ∈ X := fun i hi => by
  have h1 := List.mem_singleton.1 hi
  left
  omega
theorem inL {v : Value} {L W : Nat} {X : List Nat} (lo : Lo L v) (h : W ≤ L) : ∀ i ∈ bl v, W ≤ i ∨ i ∈ X := fun i hi => .inl (Nat.le_trans h (lo _ hi))
theorem all3 {a : Nat} {A B : List Nat} {p : Nat → Prop} (h : p a) (hA : ∀ g ∈ A, p g) (hB : ∀ g ∈ B, p g) : ∀ g ∈ a :: (A ++ B), p g := fun g q => by
  rcases List.mem_cons.1 q with q | q
  · exact q ▸ h
  · exact all2 hA hB g q
theorem inCall {z : Value} {n b m : Nat} {l r X : List Nat} (h : ∀ g ∈ bl z, n ≤ g ∨ g ∈ b :: (l ++ r)) (hn : m ≤ n) (hb : m ≤ b ∨ b ∈ X) (hl : ∀ g ∈ l, m ≤ g ∨ g ∈ X) (hr : ∀ g ∈ r, m ≤ g ∨ g ∈ X) : ∀ g ∈ bl z, m ≤ g ∨ g ∈ X := fun g hg => by
  rcases h g hg with q | q
  · left; omega
  · exact all3 (p := fun g => m ≤ g ∨ g ∈ X) hb hl hr g q
theorem mAL {a : Nat} {A : List Nat} (B : List Nat) (h : a ∈ A) : a ∈ A ++ B := List.mem_append_left B h
theorem mAR {b : Nat} (A : List Nat) {B : List Nat} (h : b ∈ B) : b ∈ A ++ B := List.mem_append_right A h
theorem mSg {a b : Nat} : a ∈ [b] ↔ a = b := List.mem_singleton
theorem mCo {a : Nat} (y : Nat) {l : List Nat} (h : a ∈ l) : a ∈ y :: l := List.mem_cons_of_mem y h
theorem rbA {α : Type} {c : Prop} [Decidable c] {a b : α} (h : c) : (if c then a else b) = a := if_pos h
theorem rbB {α : Type} {c : Bool} {a b : α} (h : c = false) : (if c then a else b) = b := by rw [h]; rfl
theorem rbC {c : Prop} [Decidable c] {a b d : Int} (h : c) : (if c then ior a b else d) = ior b a := by rw [if_pos h, ior_comm]
theorem rbD {α : Type} {c : Prop} [Decidable c] {a b : α} (h : c) : a = (if c then a else b) := (if_pos h).symm
theorem rbE {c : Prop} [Decidable c] {a b d : Int} (h : c) : ior b a = (if c then ior a b else d) := (rbC h).symm
def lkN (l f : Int) (F : List Int) : Nat → List Int
  | 0 => F
  | k + 1 => if iand (ishr l k) 1 = 1 then (lkN l f F k).set k (ior ((lkN l f F k).getD k 0) f) else lkN l f F k
theorem lkN_len (l f : Int) (F : List Int) : ∀ k, (lkN l f F k).length = F.length
  | 0 => rfl
  | k + 1 => by unfold lkN; split <;> simp [lkN_len l f F k]
theorem lkN_y {l f y : Int} {F : List Int} {k : Nat} (h : iand (ishr l k) 1 = 1) (hy : (lkN l f F k)[k]? = some y) : (lkN l f F k).set k (ior y f) = lkN l f F (k + 1) := by
  show _ = if _ then _ else _
  rw [if_pos h, getD_of hy]
theorem lkN_n {l f : Int} {F : List Int} {k : Nat} (h : ¬ iand (ishr l k) 1 = 1) : lkN l f F k = lkN l f F (k + 1) := by
  show _ = if _ then _ else _
  rw [if_neg h]
def lkL (l f : Int) (F : List Int) : List Int := lkN l f F F.length
theorem lkL_len (l f : Int) (F : List Int) : (lkL l f F).length = F.length := lkN_len _ _ _ _

structure BPd where
  L : List Int
  F : List Int
  f : Int
  l : Int
  n : Bool
def bpT : Tr → List Int → List Int → BPd
  | .l0 t, L, F => if t.kind = 2 then ⟨L, F, 0, 0, true⟩ else if t.kind = 3 then ⟨L ++ [t.letter], F ++ [0], ishl 1 L.length, ishl 1 L.length, false⟩ else ⟨L, F, 0, 0, false⟩
  | .l1 t x, L, F => if t.kind = 6 then ⟨(bpT x L F).L, lkL (bpT x L F).l (bpT x L F).f (bpT x L F).F, (bpT x L F).f, (bpT x L F).l, true⟩ else ⟨L, F, 0, 0, false⟩
  | .l2 t x y, L, F =>
    if t.kind = 4 then
      ⟨(bpT y (bpT x L F).L (bpT x L F).F).L, lkL (bpT x L F).l (bpT y (bpT x L F).L (bpT x L F).F).f (bpT y (bpT x L F).L (bpT x L F).F).F,
        if (bpT x L F).n then ior (bpT x L F).f (bpT y (bpT x L F).L (bpT x L F).F).f else (bpT x L F).f,
        if (bpT y (bpT x L F).L (bpT x L F).F).n then ior (bpT x L F).l (bpT y (bpT x L F).L (bpT x L F).F).l else (bpT y (bpT x L F).L (bpT x L F).F).l,
        (bpT x L F).n && (bpT y (bpT x L F).L (bpT x L F).F).n⟩
    else if t.kind = 5 then
      ⟨(bpT y (bpT x L F).L (bpT x L F).F).L, (bpT y (bpT x L F).L (bpT x L F).F).F, ior (bpT x L F).f (bpT y (bpT x L F).L (bpT x L F).F).f, ior (bpT x L F).l (bpT y (bpT x L F).L (bpT x L F).F).l,
        (bpT x L F).n || (bpT y (bpT x L F).L (bpT x L F).F).n⟩
    else ⟨L, F, 0, 0, false⟩
theorem bpT_len : ∀ (t : Tr) (L F : List Int), (bpT t L F).L.length ≤ L.length + t.sz ∧ (bpT t L F).F.length ≤ F.length + t.sz
  | .l0 t, L, F => by unfold bpT; repeat' split; all_goals simp [Tr.sz]
  | .l1 t x, L, F => by
    have h := bpT_len x L F
    unfold bpT; split
    · simp only [lkL_len, Tr.sz]; omega
    · simp only [Tr.sz]; omega
  | .l2 t x y, L, F => by
    have h := bpT_len x L F
    have k := bpT_len y (bpT x L F).L (bpT x L F).F
    unfold bpT; repeat' split
    all_goals (simp only [lkL_len, Tr.sz]; omega)
section
variable {t ta tb : Tr} {L F : List Int}
theorem bp2 (hok : Okd t) (h : t.tok.kind = 2) : bpT t L F = ⟨L, F, 0, 0, true⟩ := by
  have ha := hok.ar
  cases t with
  | l0 t => simp only [Tr.tok] at h; unfold bpT; rw [if_pos h]
  | l1 t x => simp only [Tr.tok, Tr.kids] at h ha; rw [arT_ok (by rw [ha]; simp), h] at ha; simp [arK] at ha
  | l2 t x y => simp only [Tr.tok, Tr.kids] at h ha; rw [arT_ok (by rw [ha]; simp), h] at ha; simp [arK] at ha
theorem bp3 (hok : Okd t) (h : t.tok.kind = 3) : bpT t L F = ⟨L ++ [t.tok.letter], F ++ [0], ishl 1 L.length, ishl 1 L.length, false⟩ := by
  have ha := hok.ar
  cases t with
  | l0 t => simp only [Tr.tok] at h ⊢; unfold bpT; rw [if_neg (by omega), if_pos h]
  | l1 t x => simp only [Tr.tok, Tr.kids] at h ha; rw [arT_ok (by rw [ha]; simp), h] at ha; simp [arK] at ha
  | l2 t x y => simp only [Tr.tok, Tr.kids] at h ha; rw [arT_ok (by rw [ha]; simp), h] at ha; simp [arK] at ha
theorem bp4 (hok : Okd t) (h : t.tok.kind = 4) (h0 : t.kids[0]? = some ta) (h1 : t.kids[1]? = some tb) :
    bpT t L F = ⟨(bpT tb (bpT ta L F).L (bpT ta L F).F).L, lkL (bpT ta L F).l (bpT tb (bpT ta L F).L (bpT ta L F).F).f (bpT tb (bpT ta L F).L (bpT ta L F).F).F,
        if (bpT ta L F).n then ior (bpT ta L F).f (bpT tb (bpT ta L F).L (bpT ta L F).F).f else (bpT ta L F).f,
        if (bpT tb (bpT ta L F).L (bpT ta L F).F).n then ior (bpT ta L F).l (bpT tb (bpT ta L F).L (bpT ta L F).F).l else (bpT tb (bpT ta L F).L (bpT ta L F).F).l,
        (bpT ta L F).n && (bpT tb (bpT ta L F).L (bpT ta L F).F).n⟩ := by
  cases t with
  | l0 t => simp [Tr.kids] at h0
  | l1 t x => simp [Tr.kids] at h1
  | l2 t x y =>
    simp [Tr.kids] at h0 h1; subst h0 h1
    simp only [Tr.tok] at h
    rw [bpT, if_pos h]
theorem bp5 (hok : Okd t) (h : t.tok.kind = 5) (h0 : t.kids[0]? = some ta) (h1 : t.kids[1]? = some tb) :
    bpT t L F = ⟨(bpT tb (bpT ta L F).L (bpT ta L F).F).L, (bpT tb (bpT ta L F).L (bpT ta L F).F).F, ior (bpT ta L F).f (bpT tb (bpT ta L F).L (bpT ta L F).F).f, ior (bpT ta L F).l (bpT tb (bpT ta L F).L (bpT ta L F).F).l,
        (bpT ta L F).n || (bpT tb (bpT ta L F).L (bpT ta L F).F).n⟩ := by
  cases t with
  | l0 t => simp [Tr.kids] at h0
  | l1 t x => simp [Tr.kids] at h1
  | l2 t x y =>
    simp [Tr.kids] at h0 h1; subst h0 h1
    simp only [Tr.tok] at h
    rw [bpT, if_neg (by omega), if_pos h]
theorem bp6 (hok : Okd t) (h : t.tok.kind = 6) (h0 : t.kids[0]? = some ta) :
    bpT t L F = ⟨(bpT ta L F).L, lkL (bpT ta L F).l (bpT ta L F).f (bpT ta L F).F, (bpT ta L F).f, (bpT ta L F).l, true⟩ := by
  have ha := hok.ar
  cases t with
  | l0 t => simp [Tr.kids] at h0
  | l1 t x =>
    simp [Tr.kids] at h0; subst h0
    simp only [Tr.tok] at h
    rw [bpT, if_pos h]
  | l2 t x y => simp only [Tr.tok, Tr.kids] at h ha; rw [arT_ok (by rw [ha]; simp), h] at ha; simp [arK] at ha
theorem bp0 (h : t.tok.kind ≠ 2 ∧ t.tok.kind ≠ 3 ∧ t.tok.kind ≠ 4 ∧ t.tok.kind ≠ 5 ∧ t.tok.kind ≠ 6) : bpT t L F = ⟨L, F, 0, 0, false⟩ := by
  obtain ⟨h2, h3, h4, h5, h6⟩ := h
  cases t with
  | l0 t => simp only [Tr.tok] at *; rw [bpT, if_neg h2, if_neg h3]
  | l1 t x => simp only [Tr.tok] at *; rw [bpT, if_neg h6]
  | l2 t x y => simp only [Tr.tok] at *; rw [bpT, if_neg h4, if_neg h5]
end
def cntL (l : List Token) : Nat := l.countP fun t => decide (t.kind = 3)
theorem cntL_y {l : List Token} {k : Nat} {y : Token} (h : l[k]? = some y) (hk : y.kind = 3) : cntL (l.take (k + 1)) = cntL (l.take k) + 1 := by
  unfold cntL; rw [take_snoc h, List.countP_append]; simp [hk]
theorem cntL_n {l : List Token} {k : Nat} {y : Token} (h : l[k]? = some y) (hk : ¬ y.kind = 3) : cntL (l.take (k + 1)) = cntL (l.take k) := by
  unfold cntL; rw [take_snoc h, List.countP_append]; simp [hk]
theorem cntL_le (l : List Token) : cntL l ≤ l.length := List.countP_le_length
def bpE (e : List Token) : BPd × Bool :=
  if (expE e).2 = true ∧ cntL (expE e).1 ≤ 20 then
    match treeL (expE e).1 with
    | some t => (bpT t [] [], true)
    | none => (⟨[], [], 0, 0, false⟩, false)
  else (⟨[], [], 0, 0, false⟩, false)
theorem bpE_n {e : List Token} (h : ¬ ((expE e).2 = true ∧ cntL (expE e).1 ≤ 20)) : bpE e = (⟨[], [], 0, 0, false⟩, false) := by unfold bpE; rw [if_neg h]
theorem bpE_y {e : List Token} {t : Tr} (h : (expE e).2 = true) (h1 : cntL (expE e).1 ≤ 20) (ht : treeL (expE e).1 = some t) : bpE e = (bpT t [] [], true) := by unfold bpE; rw [if_pos ⟨h, h1⟩, ht]
theorem tim_ok {x : Tr} (hx : Okd x) : ∀ (low : Int) (h : Nat), Okd (timT x low h)
  | _, 0 => by show arT _ = 0; rfl
  | low, h + 1 => by
    have ih := tim_ok hx (if low - 1 > 0 then low - 1 else 0) h
    unfold timT
    split
    · exact ⟨rfl, hx, ih⟩
    · exact ⟨rfl, ⟨rfl, hx, ih⟩, rfl⟩
theorem exp_ok : ∀ {t : Tr}, Okd t → Okd (expT t)
  | .l0 _, h => h
  | .l1 t a, h => by
    have ih := exp_ok h.2
    unfold expT
    split
    · exact tim_ok ih _ _
    · exact ⟨h.1, ih⟩
  | .l2 t a b, h => ⟨h.1, exp_ok h.2.1, exp_ok h.2.2⟩
theorem expE_tree {e : List Token} (h : (expE e).2 = true) : ∃ t, treeL (expE e).1 = some t ∧ Okd t ∧ (expE e).1 = t.flat ∧ (expE e).1.length ≤ 400 := by
  have hl := expE_len e
  cases hi : ivE e with
  | false => rw [expE_n hi] at h; cases h
  | true =>
    obtain ⟨t, h1, h2, _, h4⟩ := ivE_y hi
    by_cases hb : bndT t ≤ 5000
    · by_cases hs : (expT t).sz ≤ 400
      · have e1 := expE_y h1 h4 hb hs
        rw [e1] at hl ⊢
        exact ⟨expT t, treeL_flat (exp_ok h2), exp_ok h2, rfl, hl⟩
      · rw [expE_n3 h1 hs] at h; cases h
    · rw [expE_n2 h1 hb] at h; cases h
theorem bpE_len (e : List Token) : (bpE e).1.L.length ≤ 400 ∧ (bpE e).1.F.length ≤ 400 := by
  by_cases h : (expE e).2 = true ∧ cntL (expE e).1 ≤ 20
  · obtain ⟨t, h1, h2, h3, h4⟩ := expE_tree h.1
    rw [bpE_y h.1 h.2 h1]
    have := bpT_len t [] []
    have h5 := t.flat_len
    rw [h3] at h4
    simp at this
    exact ⟨by simp only; omega, by simp only; omega⟩
  · rw [bpE_n h]; simp
end Go.KLib
