/- The stack of trees from which the tree of an expression is built. -/
import Derived.Test.YthcoliemlekojaaKS
namespace Go.KLib

/-- The trees of a stack (the top one first), whose blocks are not that of the row. -/
def Tks (w : World) (L : Nat) (v : Value) (ps : List Addr) (st : List Tr) : Prop := KdF w (fun b => L ≤ b ∧ b < w.heap.size ∧ b ∉ bl v) ps st.reverse
theorem Tks.nil (w : World) (L : Nat) (v : Value) : Tks w L v [] [] := ⟨rfl, fun _ _ _ h => by simp at h⟩
theorem KdF.ch {w w' : World} {F : Nat → Prop} {ps : List Addr} {ts : List Tr} {ws : List Nat} (h : KdF w F ps ts) (c : Ch ws w w') (hw : ∀ i, F i → i ∉ ws) : KdF w' F ps ts :=
  ⟨h.1, fun i q t a b => (h.2 i q t a b).ch c hw⟩
theorem KdF.mono {w : World} {F G : Nat → Prop} {ps : List Addr} {ts : List Tr} (h : KdF w F ps ts) (hF : ∀ i, F i → G i) : KdF w G ps ts :=
  ⟨h.1, fun i q t a b => (h.2 i q t a b).mono hF⟩
theorem KdF.drop {w : World} {F : Nat → Prop} {ps : List Addr} {ts : List Tr} (h : KdF w F ps ts) (k : Nat) : KdF w F (ps.drop k) (ts.drop k) :=
  ⟨by simp [h.1], fun i q t a b => h.2 (k + i) q t (by simpa using a) (by simpa using b)⟩
theorem KdF.take {w : World} {F : Nat → Prop} {ps : List Addr} {ts : List Tr} (h : KdF w F ps ts) (k : Nat) : KdF w F (ps.take k) (ts.take k) := by
  refine ⟨by simp [h.1], fun i q t a b => ?_⟩
  rw [List.getElem?_take] at a b
  split at a
  · rename_i hi; rw [if_pos hi] at b; exact h.2 i q t a b
  · cases a
theorem KdF.snoc {w : World} {F : Nat → Prop} {ps : List Addr} {ts : List Tr} {p : Addr} {t : Tr} (h : KdF w F ps ts) (ht : TrF w F p t) : KdF w F (ps ++ [p]) (ts ++ [t]) := by
  refine ⟨by simp [h.1], fun i q u a b => ?_⟩
  rcases get_snoc a with ⟨a1, a2⟩ | ⟨a1, a2⟩
  · rcases get_snoc b with ⟨b1, b2⟩ | ⟨b1, b2⟩
    · exact h.2 i q u a2 b2
    · have := h.1; omega
  · rcases get_snoc b with ⟨b1, b2⟩ | ⟨b1, b2⟩
    · have := h.1; omega
    · subst a2 b2; exact ht
theorem push_mk {st : List Tr} {tok : Token} (h0 : 0 ≤ arT tok) {n : Nat} (hn : (n : Int) = arT tok) (hl : n ≤ st.length) : push st tok = some (mkTr tok (st.take n).reverse :: st.drop n) ∧ n ≤ 2 := by
  unfold push
  rcases arT_cases tok with e | e | e | e <;> rw [e] at h0 hn ⊢
  · omega
  · obtain rfl : n = 0 := by omega
    exact ⟨rfl, by omega⟩
  · obtain rfl : n = 1 := by omega
    match st, hl with
    | a :: r, _ => exact ⟨rfl, by omega⟩
  · obtain rfl : n = 2 := by omega
    match st, hl with
    | a :: b :: r, _ => exact ⟨rfl, by omega⟩
theorem Tks.push {w0 w1 w2 : World} {v v1 v2 u : Value} {ps : List Addr} {st : List Tr} {tok : Token} {b k e ty L : Nat} (h : Tks w0 L v ps st) (hL : L ≤ w0.heap.size) (hv : ∀ g ∈ bl v, g < w0.heap.size) (c1 : Ch [] w0 w1)
    (hb : Blk w1 b ty [.int .i64 tok.kind, .int .i64 tok.letter, .int .i64 tok.low, .int .i64 tok.high, u]) (hb0 : w0.heap.size ≤ b) (hu : Ol acs e 1 w1 u (ps.drop k)) (hul : ∀ g ∈ bl u, w0.heap.size ≤ g)
    (b1 : bl v1 = bl v) (c2 : Ch (bl v1) w1 w2) (b2 : bl v2 = bl v1 ∨ bl v2 = [w1.heap.size]) (hok : 0 ≤ arT tok) (hk : (k : Int) = ps.length - arK tok.kind) :
    ∃ st', Go.KLib.push st tok = some st' ∧ Tks w2 L v2 (ps.take k ++ [⟨b, 0, none⟩]) st' ∧ st'.length = k + 1 := by
  have hl : ps.length = st.length := by have := h.1; simpa using this
  rw [← arT_ok hok] at hk
  have hn : ((st.length - k : Nat) : Int) = arT tok := by have := arT_cases tok; omega
  obtain ⟨h1, h2⟩ := push_mk (st := st) hok hn (Nat.sub_le _ _)
  refine ⟨_, h1, ?_, by simp only [List.length_cons, List.length_drop]; have := arT_cases tok; omega⟩
  have hF1 : KdF w1 (fun b => L ≤ b ∧ b < w1.heap.size ∧ b ∉ bl v) ps st.reverse := (KdF.ch h c1 (by simp)).mono fun i hi => ⟨hi.1, Nat.lt_of_lt_of_le hi.2.1 c1.size, hi.2.2⟩
  have er : (st.take (st.length - k)).reverse = st.reverse.drop k := by
    rw [List.reverse_take]; congr 1; have := arT_cases tok; omega
  have er2 : (st.drop (st.length - k)).reverse = st.reverse.take k := by
    rw [List.reverse_drop]; congr 1; have := arT_cases tok; omega
  have ht : TrF w1 (fun b => L ≤ b ∧ b < w1.heap.size ∧ b ∉ bl v) ⟨b, 0, none⟩ (mkTr tok (st.take (st.length - k)).reverse) := by
    rw [er]
    refine TrF.mk (v := u) (ps := ps.drop k) ⟨Nat.le_trans hL hb0, hb.lt, fun hm => by have := hv b hm; omega⟩ (fun j x hx => ?_) hu.ls (fun A n c hA _ => ?_) (hF1.drop k) (by rw [List.length_drop]; omega)
    · rw [add_lit, hb.cell]; simpa [Token.cs] using hx
    · subst hA
      have hg : A.block ∈ bl (.slice (some A) n c) := by simp [bl, Value.ownBlock]
      exact ⟨by have := hul _ hg; omega, hu.lt _ hg, fun hm => by have := hv _ hm; have := hul _ hg; omega⟩
  have hS := (hF1.take k).snoc ht
  have hS2 : KdF w2 (fun b => L ≤ b ∧ b < w1.heap.size ∧ b ∉ bl v) (ps.take k ++ [⟨b, 0, none⟩]) (st.reverse.take k ++ [mkTr tok (st.take (st.length - k)).reverse]) := hS.ch c2 fun i hi hm => hi.2.2 (b1 ▸ hm)
  show KdF w2 _ _ (mkTr tok _ :: _).reverse
  rw [List.reverse_cons, er2]
  refine hS2.mono fun i hi => ⟨hi.1, Nat.lt_of_lt_of_le hi.2.1 c2.size, fun hm => ?_⟩
  rcases b2 with e | e
  · rw [e, b1] at hm; exact hi.2.2 hm
  · rw [e] at hm; have := List.mem_singleton.1 hm; omega
theorem Tks.one {w : World} {v : Value} {ps : List Addr} {st : List Tr} {q : Addr} {L : Nat} (h : Tks w L v ps st) (hl : (ps.length : Int) = 1) (hq : ps[0]? = some q) : ∃ t, st = [t] ∧ TrAt w L w.heap.size q t := by
  have h1 : st.length = 1 := by have := h.1; simp at this; omega
  match st, h1 with
  | [t], _ => exact ⟨t, rfl, (h.2 0 q t hq rfl).mono fun _ h => ⟨h.1, h.2.1⟩⟩
theorem Tks.len {w : World} {v : Value} {ps : List Addr} {st : List Tr} {L : Nat} (h : Tks w L v ps st) : ps.length = st.length := by have := h.1; simpa using this
theorem treeL_none {l : List Token} {k : Nat} {st : List Tr} (h : prs [] (l.take k) = some st) (hk : l.length ≤ k) (hl : ¬ (st.length : Int) = 1) : treeL l = none := by
  rw [treeL_end h hk]
  match st with
  | [] => rfl
  | [t] => simp at hl
  | a :: b :: r => rfl
theorem treeL_some {l : List Token} {k : Nat} {t : Tr} (h : prs [] (l.take k) = some [t]) (hk : l.length ≤ k) : treeL l = some t := by rw [treeL_end h hk]
theorem push_bad {st : List Tr} {tok : Token} (h : tokOk tok = false ∨ (st.length : Int) - arK tok.kind < 0) : push st tok = none := by
  refine push_no ?_
  rcases h with h | h
  · exact .inl (by simpa [tokOk] using h)
  · by_cases h0 : arT tok < 0
    · exact .inl h0
    · right; rw [arT_ok (by omega)]; omega
theorem isE_some {l : List Token} {t : Tr} (h : treeL l = some t) : true = isE l := by unfold isE; rw [h]; rfl
theorem isE_none {l : List Token} (h : treeL l = none) : false = isE l := by unfold isE; rw [h]; rfl
def ivE (e : List Token) : Bool := decide (e.length ≤ 24) && isE e
end Go.KLib
