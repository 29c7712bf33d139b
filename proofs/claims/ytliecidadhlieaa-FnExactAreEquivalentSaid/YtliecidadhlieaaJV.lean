/- The position automaton of a tree. -/
import Derived.Test.YtliecidadhlieaaJU
namespace Go.KLib

def lkN (l f : Int) (F : List Int) : Nat → List Int
  | 0 => F
  | k + 1 => if iand (ishr l k) 1 = 1 then (lkN l f F k).set k (ior ((lkN l f F k).getD k 0) f) else lkN l f F k
theorem lkN_len (l f : Int) (F : List Int) : ∀ k, (lkN l f F k).length = F.length
  | 0 => rfl
  | k + 1 => by unfold lkN; split <;> simp [lkN_len l f F k]
theorem lkN_y {l f y : Int} {F : List Int} {k : Nat} (h : iand (ishr l k) 1 = 1) (hy : (lkN l f F k)[k]? = some y) : (lkN l f F k).set k (ior y f) = lkN l f F (k + 1) := by
  show _ = if _ then _ else _
  rw [if_pos h, getD_of hy]
theorem lkN_n {l f : Int} {F : List Int} {k : Nat} (h : ¬ iand (ishr l k) 1 = 1) : lkN l f F k = lkN l f F (k + 1) := by
  show _ = if _ then _ else _
  rw [if_neg h]
def lkL (l f : Int) (F : List Int) : List Int := lkN l f F F.length
theorem lkL_len (l f : Int) (F : List Int) : (lkL l f F).length = F.length := lkN_len _ _ _ _

structure BPd where
  L : List Int
  F : List Int
  f : Int
  l : Int
  n : Bool
def bpT : Tr → List Int → List Int → BPd
  | .l0 t, L, F => if t.kind = 2 then ⟨L, F, 0, 0, true⟩ else if t.kind = 3 then ⟨L ++ [t.letter], F ++ [0], ishl 1 L.length, ishl 1 L.length, false⟩ else ⟨L, F, 0, 0, false⟩
  | .l1 t x, L, F => if t.kind = 6 then ⟨(bpT x L F).L, lkL (bpT x L F).l (bpT x L F).f (bpT x L F).F, (bpT x L F).f, (bpT x L F).l, true⟩ else ⟨L, F, 0, 0, false⟩
  | .l2 t x y, L, F =>
    if t.kind = 4 then
      ⟨(bpT y (bpT x L F).L (bpT x L F).F).L, lkL (bpT x L F).l (bpT y (bpT x L F).L (bpT x L F).F).f (bpT y (bpT x L F).L (bpT x L F).F).F,
        if (bpT x L F).n then ior (bpT x L F).f (bpT y (bpT x L F).L (bpT x L F).F).f else (bpT x L F).f,
        if (bpT y (bpT x L F).L (bpT x L F).F).n then ior (bpT x L F).l (bpT y (bpT x L F).L (bpT x L F).F).l else (bpT y (bpT x L F).L (bpT x L F).F).l,
        (bpT x L F).n && (bpT y (bpT x L F).L (bpT x L F).F).n⟩
    else if t.kind = 5 then
      ⟨(bpT y (bpT x L F).L (bpT x L F).F).L, (bpT y (bpT x L F).L (bpT x L F).F).F, ior (bpT x L F).f (bpT y (bpT x L F).L (bpT x L F).F).f, ior (bpT x L F).l (bpT y (bpT x L F).L (bpT x L F).F).l,
        (bpT x L F).n || (bpT y (bpT x L F).L (bpT x L F).F).n⟩
    else ⟨L, F, 0, 0, false⟩
theorem ior_comm (a b : Int) : ior a b = ior b a := by unfold ior; rw [BitVec.or_comm]
theorem bpT_len : ∀ (t : Tr) (L F : List Int), (bpT t L F).L.length ≤ L.length + t.sz ∧ (bpT t L F).F.length ≤ F.length + t.sz
  | .l0 t, L, F => by unfold bpT; repeat' split; all_goals simp [Tr.sz]
  | .l1 t x, L, F => by
    have h := bpT_len x L F
    unfold bpT; split
    · simp only [lkL_len, Tr.sz]; omega
    · simp only [Tr.sz]; omega
  | .l2 t x y, L, F => by
    have h := bpT_len x L F
    have k := bpT_len y (bpT x L F).L (bpT x L F).F
    unfold bpT; repeat' split
    all_goals (simp only [lkL_len, Tr.sz]; omega)
section
variable {t ta tb : Tr} {L F : List Int}
theorem bp2 (hok : Okd t) (h : t.tok.kind = 2) : bpT t L F = ⟨L, F, 0, 0, true⟩ := by
  have ha := hok.ar
  cases t with
  | l0 t => simp only [Tr.tok] at h; unfold bpT; rw [if_pos h]
  | l1 t x => simp only [Tr.tok, Tr.kids] at h ha; rw [arT_ok (by rw [ha]; simp), h] at ha; simp [arK] at ha
  | l2 t x y => simp only [Tr.tok, Tr.kids] at h ha; rw [arT_ok (by rw [ha]; simp), h] at ha; simp [arK] at ha
theorem bp3 (hok : Okd t) (h : t.tok.kind = 3) : bpT t L F = ⟨L ++ [t.tok.letter], F ++ [0], ishl 1 L.length, ishl 1 L.length, false⟩ := by
  have ha := hok.ar
  cases t with
  | l0 t => simp only [Tr.tok] at h ⊢; unfold bpT; rw [if_neg (by omega), if_pos h]
  | l1 t x => simp only [Tr.tok, Tr.kids] at h ha; rw [arT_ok (by rw [ha]; simp), h] at ha; simp [arK] at ha
  | l2 t x y => simp only [Tr.tok, Tr.kids] at h ha; rw [arT_ok (by rw [ha]; simp), h] at ha; simp [arK] at ha
theorem bp4 (hok : Okd t) (h : t.tok.kind = 4) (h0 : t.kids[0]? = some ta) (h1 : t.kids[1]? = some tb) :
    bpT t L F = ⟨(bpT tb (bpT ta L F).L (bpT ta L F).F).L, lkL (bpT ta L F).l (bpT tb (bpT ta L F).L (bpT ta L F).F).f (bpT tb (bpT ta L F).L (bpT ta L F).F).F,
        if (bpT ta L F).n then ior (bpT ta L F).f (bpT tb (bpT ta L F).L (bpT ta L F).F).f else (bpT ta L F).f,
        if (bpT tb (bpT ta L F).L (bpT ta L F).F).n then ior (bpT ta L F).l (bpT tb (bpT ta L F).L (bpT ta L F).F).l else (bpT tb (bpT ta L F).L (bpT ta L F).F).l,
        (bpT ta L F).n && (bpT tb (bpT ta L F).L (bpT ta L F).F).n⟩ := by
  cases t with
  | l0 t => simp [Tr.kids] at h0
  | l1 t x => simp [Tr.kids] at h1
  | l2 t x y =>
    simp [Tr.kids] at h0 h1; subst h0 h1
    simp only [Tr.tok] at h
    rw [bpT, if_pos h]
theorem bp5 (hok : Okd t) (h : t.tok.kind = 5) (h0 : t.kids[0]? = some ta) (h1 : t.kids[1]? = some tb) :
    bpT t L F = ⟨(bpT tb (bpT ta L F).L (bpT ta L F).F).L, (bpT tb (bpT ta L F).L (bpT ta L F).F).F, ior (bpT ta L F).f (bpT tb (bpT ta L F).L (bpT ta L F).F).f, ior (bpT ta L F).l (bpT tb (bpT ta L F).L (bpT ta L F).F).l,
        (bpT ta L F).n || (bpT tb (bpT ta L F).L (bpT ta L F).F).n⟩ := by
  cases t with
  | l0 t => simp [Tr.kids] at h0
  | l1 t x => simp [Tr.kids] at h1
  | l2 t x y =>
    simp [Tr.kids] at h0 h1; subst h0 h1
    simp only [Tr.tok] at h
    rw [bpT, if_neg (by omega), if_pos h]
theorem bp6 (hok : Okd t) (h : t.tok.kind = 6) (h0 : t.kids[0]? = some ta) :
    bpT t L F = ⟨(bpT ta L F).L, lkL (bpT ta L F).l (bpT ta L F).f (bpT ta L F).F, (bpT ta L F).f, (bpT ta L F).l, true⟩ := by
  have ha := hok.ar
  cases t with
  | l0 t => simp [Tr.kids] at h0
  | l1 t x =>
    simp [Tr.kids] at h0; subst h0
    simp only [Tr.tok] at h
    rw [bpT, if_pos h]
  | l2 t x y => simp only [Tr.tok, Tr.kids] at h ha; rw [arT_ok (by rw [ha]; simp), h] at ha; simp [arK] at ha
theorem bp0 (h : t.tok.kind ≠ 2 ∧ t.tok.kind ≠ 3 ∧ t.tok.kind ≠ 4 ∧ t.tok.kind ≠ 5 ∧ t.tok.kind ≠ 6) : bpT t L F = ⟨L, F, 0, 0, false⟩ := by
  obtain ⟨h2, h3, h4, h5, h6⟩ := h
  cases t with
  | l0 t => simp only [Tr.tok] at *; rw [bpT, if_neg h2, if_neg h3]
  | l1 t x => simp only [Tr.tok] at *; rw [bpT, if_neg h6]
  | l2 t x y => simp only [Tr.tok] at *; rw [bpT, if_neg h4, if_neg h5]
end
def cntL (l : List Token) : Nat := l.countP fun t => decide (t.kind = 3)
theorem cntL_y {l : List Token} {k : Nat} {y : Token} (h : l[k]? = some y) (hk : y.kind = 3) : cntL (l.take (k + 1)) = cntL (l.take k) + 1 := by
  unfold cntL; rw [take_snoc h, List.countP_append]; simp [hk]
theorem cntL_n {l : List Token} {k : Nat} {y : Token} (h : l[k]? = some y) (hk : ¬ y.kind = 3) : cntL (l.take (k + 1)) = cntL (l.take k) := by
  unfold cntL; rw [take_snoc h, List.countP_append]; simp [hk]
theorem cntL_le (l : List Token) : cntL l ≤ l.length := List.countP_le_length
def bpE (e : List Token) : BPd × Bool :=
  if (expE e).2 = true ∧ cntL (expE e).1 ≤ 20 then
    match treeL (expE e).1 with
    | some t => (bpT t [] [], true)
    | none => (⟨[], [], 0, 0, false⟩, false)
  else (⟨[], [], 0, 0, false⟩, false)
theorem bpE_n {e : List Token} (h : ¬ ((expE e).2 = true ∧ cntL (expE e).1 ≤ 20)) : bpE e = (⟨[], [], 0, 0, false⟩, false) := by unfold bpE; rw [if_neg h]
theorem bpE_y {e : List Token} {t : Tr} (h : (expE e).2 = true) (h1 : cntL (expE e).1 ≤ 20) (ht : treeL (expE e).1 = some t) : bpE e = (bpT t [] [], true) := by unfold bpE; rw [if_pos ⟨h, h1⟩, ht]
theorem tim_ok {x : Tr} (hx : Okd x) : ∀ (low : Int) (h : Nat), Okd (timT x low h)
  | _, 0 => by show arT _ = 0; rfl
  | low, h + 1 => by
    have ih := tim_ok hx (if low - 1 > 0 then low - 1 else 0) h
    unfold timT
    split
    · exact ⟨rfl, hx, ih⟩
    · exact ⟨rfl, ⟨rfl, hx, ih⟩, rfl⟩
theorem exp_ok : ∀ {t : Tr}, Okd t → Okd (expT t)
  | .l0 _, h => h
  | .l1 t a, h => by
    have ih := exp_ok h.2
    unfold expT
    split
    · exact tim_ok ih _ _
    · exact ⟨h.1, ih⟩
  | .l2 t a b, h => ⟨h.1, exp_ok h.2.1, exp_ok h.2.2⟩
theorem expE_tree {e : List Token} (h : (expE e).2 = true) : ∃ t, treeL (expE e).1 = some t ∧ Okd t ∧ (expE e).1 = t.flat ∧ (expE e).1.length ≤ 400 := by
  have hl := expE_len e
  cases hi : ivE e with
  | false => rw [expE_n hi] at h; cases h
  | true =>
    obtain ⟨t, h1, h2, _, h4⟩ := ivE_y hi
    by_cases hb : bndT t ≤ 5000
    · by_cases hs : (expT t).sz ≤ 400
      · have e1 := expE_y h1 h4 hb hs
        rw [e1] at hl ⊢
        exact ⟨expT t, treeL_flat (exp_ok h2), exp_ok h2, rfl, hl⟩
      · rw [expE_n3 h1 hs] at h; cases h
    · rw [expE_n2 h1 hb] at h; cases h
theorem bpE_len (e : List Token) : (bpE e).1.L.length ≤ 400 ∧ (bpE e).1.F.length ≤ 400 := by
  by_cases h : (expE e).2 = true ∧ cntL (expE e).1 ≤ 20
  · obtain ⟨t, h1, h2, h3, h4⟩ := expE_tree h.1
    rw [bpE_y h.1 h.2 h1]
    have := bpT_len t [] []
    have h5 := t.flat_len
    rw [h3] at h4
    simp at this
    exact ⟨by simp only; omega, by simp only; omega⟩
  · rw [bpE_n h]; simp
end Go.KLib
