/- Trees in memory. -/
import Derived.Test.YthcoliemlekojaaKQ
namespace Go.KLib

def acs (a : Addr) : List Value := [.pointer (some a)]
theorem acs_len (a : Addr) : (acs a).length = 1 := rfl
theorem acs_one (x : Addr) : ∀ y ∈ acs x, y.oneCell' = true := by intro y hy; simp [acs] at hy; subst hy; rfl
def Cel (w : World) (p : Addr) (cs : List Value) : Prop := ∀ j u, cs[j]? = some u → w.cell? (p.add j) = some u
theorem Cel.ch {w w' : World} {p : Addr} {cs : List Value} {ws : List Nat} (h : Cel w p cs) (c : Ch ws w w') (hn : p.block ∉ ws) : Cel w' p cs :=
  fun j u hu => c.cell (h j u hu) (by rwa [block_add])

/-- A tree whose blocks are in F. -/
def TrF (w : World) (F : Nat → Prop) : Addr → Tr → Prop
  | p, .l0 t => F p.block ∧ ∃ A C, Cel w p (t.cs ++ [.slice A 0 C]) ∧ C ≤ maxLen
  | p, .l1 t a => F p.block ∧ ∃ d C q, Cel w p (t.cs ++ [.slice (some d) 1 C]) ∧ 1 ≤ C ∧ C ≤ maxLen ∧ F d.block ∧ Cel w d [.pointer (some q)] ∧ TrF w F q a
  | p, .l2 t a b => F p.block ∧ ∃ d C q r, Cel w p (t.cs ++ [.slice (some d) 2 C]) ∧ 2 ≤ C ∧ C ≤ maxLen ∧ F d.block ∧ Cel w d [.pointer (some q), .pointer (some r)] ∧ TrF w F q a ∧ TrF w F r b
section
variable {w w' : World} {F G : Nat → Prop} {p : Addr} {t : Tr} {ws : List Nat} {L L' B B' : Nat}
theorem TrF.ch (c : Ch ws w w') (hw : ∀ i, F i → i ∉ ws) : ∀ {t : Tr} {p : Addr}, TrF w F p t → TrF w' F p t
  | .l0 _, _, ⟨h0, A, C, h1, h2⟩ => ⟨h0, A, C, h1.ch c (hw _ h0), h2⟩
  | .l1 _ _, _, ⟨h0, d, C, q, h1, h2, h3, h4, h5, h6⟩ => ⟨h0, d, C, q, h1.ch c (hw _ h0), h2, h3, h4, h5.ch c (hw _ h4), h6.ch c hw⟩
  | .l2 _ _ _, _, ⟨h0, d, C, q, r, h1, h2, h3, h4, h5, h6, h7⟩ => ⟨h0, d, C, q, r, h1.ch c (hw _ h0), h2, h3, h4, h5.ch c (hw _ h4), h6.ch c hw, h7.ch c hw⟩
theorem TrF.mono (hF : ∀ i, F i → G i) : ∀ {t : Tr} {p : Addr}, TrF w F p t → TrF w G p t
  | .l0 _, _, ⟨h0, A, C, h1, h2⟩ => ⟨hF _ h0, A, C, h1, h2⟩
  | .l1 _ _, _, ⟨h0, d, C, q, h1, h2, h3, h4, h5, h6⟩ => ⟨hF _ h0, d, C, q, h1, h2, h3, hF _ h4, h5, h6.mono hF⟩
  | .l2 _ _ _, _, ⟨h0, d, C, q, r, h1, h2, h3, h4, h5, h6, h7⟩ => ⟨hF _ h0, d, C, q, r, h1, h2, h3, hF _ h4, h5, h6.mono hF, h7.mono hF⟩
/-- All its blocks lie in the heap. -/
theorem Cel.lt {v : Value} {cs : List Value} (h : Cel w p (v :: cs)) : p.block < w.heap.size := by
  have := World.block_lt_of_cell? w _ (h 0 v rfl)
  rwa [block_add] at this
theorem TrF.here : ∀ {t : Tr} {p : Addr}, TrF w F p t → TrF w (fun b => b < w.heap.size ∧ F b) p t
  | .l0 _, _, ⟨h0, A, C, h1, h2⟩ => ⟨⟨Cel.lt h1, h0⟩, A, C, h1, h2⟩
  | .l1 _ _, _, ⟨h0, d, C, q, h1, h2, h3, h4, h5, h6⟩ => ⟨⟨Cel.lt h1, h0⟩, d, C, q, h1, h2, h3, ⟨Cel.lt h5, h4⟩, h5, h6.here⟩
  | .l2 _ _ _, _, ⟨h0, d, C, q, r, h1, h2, h3, h4, h5, h6, h7⟩ => ⟨⟨Cel.lt h1, h0⟩, d, C, q, r, h1, h2, h3, ⟨Cel.lt h5, h4⟩, h5, h6.here, h7.here⟩

def TrAt (w : World) (L B : Nat) (p : Addr) (t : Tr) : Prop := TrF w (fun b => L ≤ b ∧ b < B) p t
theorem TrAt.ch (h : TrAt w L B p t) (c : Ch ws w w') (hw : ∀ i ∈ ws, i < L ∨ B ≤ i) : TrAt w' L B p t := TrF.ch c (fun i hi hm => by have := hw i hm; omega) h
theorem TrAt.ch0 (h : TrAt w L B p t) (c : Ch [] w w') : TrAt w' L B p t := h.ch c (by simp)
theorem TrAt.up (h : TrAt w L B p t) (hL : L' ≤ L) (hB : B ≤ B') : TrAt w L' B' p t := TrF.mono (fun i hi => ⟨Nat.le_trans hL hi.1, Nat.lt_of_lt_of_le hi.2 hB⟩) h
theorem TrAt.here (h : TrAt w L B p t) : TrAt w L w.heap.size p t := TrF.mono (fun _ h => ⟨h.2.1, h.1⟩) (TrF.here h)
/-- Pointers to trees. -/
def Kd (w : World) (L B : Nat) (ps : List Addr) (ts : List Tr) : Prop := ps.length = ts.length ∧ ∀ (i : Nat) (q : Addr) (t : Tr), ps[i]? = some q → ts[i]? = some t → TrAt w L B q t
variable {ps : List Addr} {ts : List Tr}
theorem Kd.ch (h : Kd w L B ps ts) (c : Ch ws w w') (hw : ∀ i ∈ ws, i < L ∨ B ≤ i) : Kd w' L B ps ts := ⟨h.1, fun i q t a b => (h.2 i q t a b).ch c hw⟩
theorem Kd.ch0 (h : Kd w L B ps ts) (c : Ch [] w w') : Kd w' L B ps ts := h.ch c (by simp)
theorem Kd.up (h : Kd w L B ps ts) (hL : L' ≤ L) (hB : B ≤ B') : Kd w L' B' ps ts := ⟨h.1, fun i q t a b => (h.2 i q t a b).up hL hB⟩
theorem Kd.get (h : Kd w L B ps ts) {i : Nat} {y : Addr} (hy : ps[i]? = some y) : ∃ k, ts[i]? = some k ∧ TrAt w L B y k := by
  have hi := (List.getElem?_eq_some_iff.1 hy).1
  have hx : ts[i]? = some (ts[i]'(by have := h.1; omega)) := List.getElem?_eq_getElem _
  exact ⟨_, hx, h.2 i y _ hy hx⟩
theorem Kd.nil : Kd w L B [] [] := ⟨rfl, fun _ _ _ h => by simp at h⟩
theorem Kd.cons {q : Addr} (h : TrAt w L B q t) (r : Kd w L B ps ts) : Kd w L B (q :: ps) (t :: ts) := by
  refine ⟨by simp [r.1], fun i u y a b => ?_⟩
  cases i with
  | zero => simp at a b; subst a b; exact h
  | succ i => exact r.2 i u y (by simpa using a) (by simpa using b)
theorem Cel.at {cs : List Value} (h : Cel w p cs) (hb : L ≤ p.block ∧ p.block < B) : At w L B p cs := ⟨hb, h⟩

theorem TrAt.open (h : TrAt w L B p t) : ∃ (A : Option Addr) (C : Nat) (ps : List Addr), At w L B p [.int .i64 t.tok.kind, .int .i64 t.tok.letter, .int .i64 t.tok.low, .int .i64 t.tok.high, .slice A ps.length C] ∧ Ls acs 1 w L B (.slice A ps.length C) ps ∧ Kd w L B ps t.kids := by
  cases t with
  | l0 k =>
    obtain ⟨h0, A, C, h1, h2⟩ := h
    exact ⟨A, C, [], ⟨h0, h1⟩, ⟨rfl, A, C, rfl, Nat.zero_le _, h2, fun h => absurd h (by simp)⟩, Kd.nil⟩
  | l1 k a =>
    obtain ⟨h0, d, C, q, h1, h2, h3, h4, h5, h6⟩ := h
    exact ⟨some d, C, [q], ⟨h0, h1⟩, ⟨rfl, some d, C, rfl, h2, h3, fun _ => ⟨d, rfl, h4, h5⟩⟩, Kd.cons h6 Kd.nil⟩
  | l2 k a b =>
    obtain ⟨h0, d, C, q, r, h1, h2, h3, h4, h5, h6, h7⟩ := h
    exact ⟨some d, C, [q, r], ⟨h0, h1⟩, ⟨rfl, some d, C, rfl, h2, h3, fun _ => ⟨d, rfl, h4, h5⟩⟩, Kd.cons h6 (Kd.cons h7 Kd.nil)⟩

/-- A node over what has been built. -/
def mkTr (t : Token) : List Tr → Tr
  | [] => .l0 t
  | [a] => .l1 t a
  | a :: b :: _ => .l2 t a b
def KdF (w : World) (F : Nat → Prop) (ps : List Addr) (ts : List Tr) : Prop := ps.length = ts.length ∧ ∀ (i : Nat) (q : Addr) (t : Tr), ps[i]? = some q → ts[i]? = some t → TrF w F q t
theorem TrF.mk {k : Token} {v : Value} (hp : F p.block) (hc : Cel w p (k.cs ++ [v])) (hs : Ls acs 1 w L B v ps) (hF : ∀ A n c, v = .slice (some A) n c → 0 < n → F A.block) (hk : KdF w F ps ts) (h2 : ps.length ≤ 2) : TrF w F p (mkTr k ts) := by
  obtain ⟨hl, A, C, rfl, hn, hm, hA⟩ := hs
  obtain ⟨he, hk⟩ := hk
  match ps, ts, he with
  | [], [], _ => exact ⟨hp, A, C, hc, hm⟩
  | [q], [a], _ =>
    obtain ⟨d, rfl, hd⟩ := hA (by simp)
    exact ⟨hp, d, C, q, hc, hn, hm, hF _ _ _ rfl (by simp), hd.2, hk 0 q a rfl rfl⟩
  | [q, r], [a, b], _ =>
    obtain ⟨d, rfl, hd⟩ := hA (by simp)
    exact ⟨hp, d, C, q, r, hc, hn, hm, hF _ _ _ rfl (by simp), hd.2, hk 0 q a rfl rfl, hk 1 r b rfl rfl⟩
  | _ :: _ :: _ :: _, _, _ => simp at h2
end
/-! ### Literals of slices of pointers -/
def pcs (a : Option Addr) : List Value := [.pointer a]
theorem flat_pcs (ys : List Addr) : (ys.map some).flatMap pcs = ys.flatMap acs := by
  induction ys with
  | nil => rfl
  | cons y ys ih => simp only [List.map_cons, List.flatMap_cons, ih]; rfl
theorem Ol.pcs {w : World} {e : Nat} {v : Value} {ys : List Addr} (h : Ol Go.KLib.pcs e 1 w v (ys.map some)) : Ol acs e 1 w v ys := by
  unfold Ol at h ⊢
  rw [flat_pcs, List.length_map] at h
  exact h
theorem s_buildSliceP {P : Program} {w : World} {l : KL} {dst : Option Tmp} {ty : TypeId} {pos : String} {aft : Array Go.Edge} {gd : Option (Nat × Bool)} {K : Value → World → Prop} {e : Nat}
    {t : TypeId} {n : Nat} {parts : List (Nat × Operand)} {vs : List (Nat × Value)} (ys : List Addr) (ht : elB P t = some e) (hk : sizeB P e = some 1) (hz : zeroB P e = some (.pointer none))
    (hv : evp l parts = some vs) (hn : (ys.map some).length = n) (hp : 0 < n) (hn0 : n * 1 ≤ 16777216) (hf : fillL (fun i => some (i * 1, 1)) ((List.replicate n (none : Option Addr)).flatMap pcs) vs = some ((ys.map some).flatMap pcs))
    (kk : ∀ v w', Ol acs e 1 w' v ys → Lo w.heap.size v → Ch [] w w' → K v w') : Step P l ⟨dst, .buildSlice t n parts.toArray, ty, pos, aft, gd⟩ w K :=
  s_buildSlice (cs := pcs) (k := 1) none (ys.map some) ht hk hz (fun _ => rfl) (by decide) rfl hv hn hp hn0 hf fun v w' h1 h2 h3 => kk v w' h1.pcs h2 h3
end Go.KLib
