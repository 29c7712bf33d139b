/- Part 6 of the logic: from a row's reading of its arguments to readable slices, and from a walk to the row. -/
import Derived.Test.YthcoliemlekojaaKE
import Derived.ProofKit
import Derived.Deep.Slices
import Derived.Deep.Fields
import Derived.Lib.SmallJoins
namespace Go.KLib
open Go.ChangeShapes Go.WideShapes Go.ChangeAt Go.RowKit Go.Deep Go.Joins

section
variable {H : Type} {enc : TypeId × Value → H} {P : Program} {w : World} {base : Nat} {spare : Nat → Bool} {held : Bool}

theorem list_of {α : Type} {n : Nat} {Q : Nat → α → Prop} (h : ∀ i, i < n → ∃ x, Q i x) : ∃ xs : List α, xs.length = n ∧ ∀ i x, xs[i]? = some x → Q i x := by
  induction n with
  | zero => exact ⟨[], rfl, fun i x hx => by simp at hx⟩
  | succ n ih =>
    obtain ⟨xs, hl, hq⟩ := ih fun i hi => h i (by omega)
    obtain ⟨x, hx⟩ := h n (by omega)
    refine ⟨xs ++ [x], by simp [hl], fun i y hy => ?_⟩
    rcases Nat.lt_or_ge i xs.length with hi | hi
    · exact hq i y (by rwa [List.getElem?_append_left hi] at hy)
    · have hlt := (List.getElem?_eq_some_iff.1 hy).1
      simp at hlt
      have : i = n := by omega
      subst this
      rw [List.getElem?_append_right hi, hl, Nat.sub_self] at hy
      simp at hy
      subst hy
      exact hx

/-- A slice that reads as data is a list of what its elements read as. -/
theorem open_ls {α : Type} {cs : α → List Value} {k : Nat} {t e : TypeId} {fuel : Nat} {v : Value} {x : DataW H × List MemPlace} (ht : P.underlying t = some (.slice e)) (hk : P.cellsOf e = k) (hk0 : 0 < k) (hc : ∀ x, (cs x).length = k)
    (he : ∀ fuel vs y, vs.length = k → DataW.trod enc P w base spare held fuel e vs = some y → ∃ x : α, vs = cs x) (h : DataW.trod enc P w base spare held fuel t [v] = some x) : ∃ xs : List α, Ls cs k w 0 w.heap.size v xs := by
  rcases open_slice ht h with ⟨h0, _⟩ | ⟨a, len, cap, m, n, D, Pl, h0, _, hl, hm, hmm, _, hi⟩
  · injection h0 with h0
    subst h0
    exact ⟨[], Ls.nil w _ _⟩
  · injection h0 with h0
    subst h0
    have hlm : len ≤ m := by rw [hmm]; split <;> omega
    obtain ⟨xs, hxl, hx⟩ := list_of (n := len) (Q := fun i (x : α) => ∀ j u, (cs x)[j]? = some u → w.cell? (a.add (i * k + j)) = some u) fun i hlt => by
      obtain ⟨cs', hcs, htr⟩ := hi i (by omega)
      obtain ⟨_, hcl, hat⟩ := World.cells?_some hcs
      rw [hk] at hcl hat
      obtain ⟨y, hy⟩ := he _ _ _ hcl htr
      refine ⟨y, fun j u hu => ?_⟩
      have hj : j < k := by have := (List.getElem?_eq_some_iff.1 hu).1; rw [hc] at this; exact this
      have h1 := hat j hj
      rw [hy, hu, Go.KLib.add_add] at h1
      exact h1
    refine ⟨xs, Sl.here (L := 0) (B := a.block + 1) ⟨flat_len hc xs, some a, cap, by rw [hxl], by omega, hm, fun _ => ⟨a, rfl, ⟨Nat.zero_le _, Nat.lt_succ_self _⟩, fun j u hu => ?_⟩⟩ hk0⟩
    have hjl : j < xs.length * k := by have := (List.getElem?_eq_some_iff.1 hu).1; rwa [flat_len hc] at this
    have hd : j / k < xs.length := Nat.div_lt_of_lt_mul (by rwa [Nat.mul_comm])
    have hg := flat_get hc xs (j / k) xs[j / k] (List.getElem?_eq_getElem hd)
    have h2 := hx (j / k) xs[j / k] (List.getElem?_eq_getElem hd) (j % k) u (by
      rw [← hg, List.getElem?_take, if_pos (Nat.mod_lt _ hk0), List.getElem?_drop, Nat.mul_comm, Nat.div_add_mod]
      exact hu)
    rwa [Nat.mul_comm, Nat.div_add_mod] at h2

def intFlatB (P : Program) (t : TypeId) (n : Nat) : Bool :=
  P.cellsOf t == n && match P.underlying t with
  | some (.struct fs) => fs.size == n && (List.range n).all fun i => match fs[i]? with
      | some f => f.offset == i && P.cellsOf f.type == 1 && (match P.underlying f.type with | some (.int .i64) => true | _ => false)
      | none => false
  | _ => false

theorem trod_ints {t : TypeId} {n fuel : Nat} {cs : List Value} {x : DataW H × List MemPlace} (hb : intFlatB P t n = true) (h : DataW.trod enc P w base spare held fuel t cs = some x) : ∃ is : List Int, is.length = n ∧ cs = is.map (.int .i64) := by
  unfold intFlatB at hb
  cases hu : P.underlying t with
  | none => simp [hu] at hb
  | some d =>
    cases d with
    | struct fs =>
      simp only [hu, Bool.and_eq_true, beq_iff_eq, List.all_eq_true, List.mem_range] at hb
      obtain ⟨h0, h1, h2⟩ := hb
      obtain ⟨ys, m, _, _, hcl, hyl, hf⟩ := DataW.trod_struct hu h
      obtain ⟨is, hil, hi⟩ := list_of (n := n) (Q := fun i (z : Int) => cs[i]? = some (.int .i64 z)) fun i hlt => by
        have h3 := h2 i hlt
        cases hfi : fs[i]? with
        | none => simp [hfi] at h3
        | some f =>
          simp only [hfi, Bool.and_eq_true, beq_iff_eq] at h3
          obtain ⟨⟨h4, h5⟩, h6⟩ := h3
          have h7 : P.underlying f.type = some (.int .i64) := by split at h6; assumption; cases h6
          have h8 := hf i f hfi
          rw [h4, h5] at h8
          have hic : i < cs.length := by omega
          have h9 : (cs.drop i).take 1 = [cs[i]] := by rw [List.drop_eq_getElem_cons hic]; rfl
          rw [h9] at h8
          have hiy : i < ys.length := by omega
          rw [List.getElem?_eq_getElem hiy] at h8
          obtain ⟨z, hz, _⟩ := DataW.trod_int h7 h8
          injection hz with hz
          exact ⟨z, by rw [List.getElem?_eq_getElem hic, hz]⟩
      refine ⟨is, hil, List.ext_getElem? fun i => ?_⟩
      rcases Nat.lt_or_ge i is.length with hlt | hge
      · rw [hi i is[i] (List.getElem?_eq_getElem hlt)]; simp [hlt]
      · rw [List.getElem?_eq_none (by omega), List.getElem?_eq_none (by simpa using hge)]
    | _ => simp [hu] at hb

theorem open_Pair {t : TypeId} {fuel : Nat} {cs : List Value} {x : DataW H × List MemPlace} (hb : intFlatB P t 2 = true) (h : DataW.trod enc P w base spare held fuel t cs = some x) : ∃ p : Pair, cs = p.cs := by
  obtain ⟨is, hl, rfl⟩ := trod_ints hb h
  match is, hl with
  | [a, b], _ => exact ⟨⟨a, b⟩, rfl⟩
theorem open_Token {t : TypeId} {fuel : Nat} {cs : List Value} {x : DataW H × List MemPlace} (hb : intFlatB P t 4 = true) (h : DataW.trod enc P w base spare held fuel t cs = some x) : ∃ p : Token, cs = p.cs := by
  obtain ⟨is, hl, rfl⟩ := trod_ints hb h
  match is, hl with
  | [a, b, c, d], _ => exact ⟨⟨a, b, c, d⟩, rfl⟩
theorem open_GEdge {t : TypeId} {fuel : Nat} {cs : List Value} {x : DataW H × List MemPlace} (hb : intFlatB P t 4 = true) (h : DataW.trod enc P w base spare held fuel t cs = some x) : ∃ p : GEdge, cs = p.cs := by
  obtain ⟨is, hl, rfl⟩ := trod_ints hb h
  match is, hl with
  | [a, b, c, d], _ => exact ⟨⟨a, b, c, d⟩, rfl⟩
theorem open_I {t : TypeId} {fuel : Nat} {cs : List Value} {x : DataW H × List MemPlace} (ht : P.underlying t = some (.int .i64)) (h : DataW.trod enc P w base spare held fuel t cs = some x) : ∃ n : Int, cs = ics n := by
  obtain ⟨n, hn, _⟩ := DataW.trod_int ht h
  exact ⟨n, hn⟩
theorem open_B {t : TypeId} {fuel : Nat} {cs : List Value} {x : DataW H × List MemPlace} (ht : P.underlying t = some .bool) (h : DataW.trod enc P w base spare held fuel t cs = some x) : ∃ b : Bool, cs = bcs b := by
  obtain ⟨b, hb, _⟩ := DataW.trod_bool ht h
  exact ⟨b, hb⟩
/-- An int among the arguments, with its range. -/
theorem open_I1 {t : TypeId} {fuel : Nat} {v : Value} {x : DataW H × List MemPlace} (ht : P.underlying t = some (.int .i64)) (h : DataW.trod enc P w base spare held fuel t [v] = some x) :
    ∃ n : Int, v = .int .i64 n ∧ -9223372036854775808 ≤ n ∧ n ≤ 9223372036854775807 := by
  obtain ⟨n, hn, _, hw⟩ := DataW.trod_int ht h
  injection hn with hn
  simp [Lit.wf, IntKind.min, IntKind.max, IntKind.signed, IntKind.bits] at hw
  exact ⟨n, hn, by omega, by omega⟩
theorem open_B1 {t : TypeId} {fuel : Nat} {v : Value} {x : DataW H × List MemPlace} (ht : P.underlying t = some .bool) (h : DataW.trod enc P w base spare held fuel t [v] = some x) : ∃ b : Bool, v = .bool b := by
  obtain ⟨b, hb, _⟩ := DataW.trod_bool ht h
  injection hb with hb
  exact ⟨b, hb⟩

theorem list1 {α : Type} {l : List α} (h : l.length = 1) : ∃ a, l = [a] := by match l, h with | [a], _ => exact ⟨a, rfl⟩
theorem list2 {α : Type} {l : List α} (h : l.length = 2) : ∃ a b, l = [a, b] := by match l, h with | [a, b], _ => exact ⟨a, b, rfl⟩
theorem list3 {α : Type} {l : List α} (h : l.length = 3) : ∃ a b c, l = [a, b, c] := by match l, h with | [a, b, c], _ => exact ⟨a, b, c, rfl⟩
theorem list4 {α : Type} {l : List α} (h : l.length = 4) : ∃ a b c d, l = [a, b, c, d] := by match l, h with | [a, b, c, d], _ => exact ⟨a, b, c, d, rfl⟩
theorem list5 {α : Type} {l : List α} (h : l.length = 5) : ∃ a b c d e, l = [a, b, c, d, e] := by match l, h with | [a, b, c, d, e], _ => exact ⟨a, b, c, d, e, rfl⟩

/-- A struct of one-cell fields: its cells, each with its own reading. -/
theorem open_cells {r : Reach} {b0 : Nat} {t : TypeId} {fs : Array Field} {v : Value} {d : DataW H} {p : List MemPlace} (n : Nat) (hs : P.underlying t = some (.struct fs)) (hone : oneCellFields P fs = true) (hC : P.cellsOf t = n) (hn : fs.size = n)
    (hv : Value.okWide P w r b0 t v) (h : DataW.Trod enc P w base spare held t v d p) :
    ∃ cs : List Value, v = .agg cs.toArray ∧ cs.length = n ∧ ∀ (i : Nat) (f : Field) (c : Value), fs[i]? = some f → cs[i]? = some c → ∃ n y, DataW.trod enc P w base spare held n f.type [c] = some y := by
  obtain ⟨⟨cs⟩, rfl, hsz⟩ := okWide_struct hs hv
  obtain ⟨fuel, hf⟩ := h
  obtain ⟨xs, n, _, _, _, hlen, hg⟩ := DataW.trod_struct hs hf
  refine ⟨cs, rfl, by simpa using hsz.trans hC, fun i f c hi hc => ?_⟩
  obtain ⟨o0, k0⟩ := hone_of hone i f hi
  have h1 := hg i f hi
  have hil : i < cs.length := (List.getElem?_eq_some_iff.1 hc).1
  have hix : i < xs.length := by have h2 := hsz.trans hC; simp at h2; omega
  simp only [Value.cells] at h1
  have h9 : (cs.drop i).take 1 = [c] := by
    rw [List.getElem?_eq_getElem hil] at hc
    injection hc with hc
    rw [List.drop_eq_getElem_cons hil, hc]
    rfl
  rw [o0, k0, List.getElem?_eq_getElem hix] at h1
  rw [h9] at h1
  exact ⟨n, _, h1⟩

/-- A slice among the arguments is one cell. -/
theorem trod_slice1 {r : Reach} {b0 : Nat} {t e : TypeId} {v : Value} {d : DataW H} {p : List MemPlace} (hs : P.underlying t = some (.slice e)) (hv : Value.okWide P w r b0 t v) (h : DataW.Trod enc P w base spare held t v d p) :
    ∃ fuel x, DataW.trod enc P w base spare held fuel t [v] = some x := by
  obtain ⟨a, len, cap, rfl⟩ := okWide_slice hs hv
  obtain ⟨fuel, hf⟩ := h
  exact ⟨fuel, _, hf⟩
theorem trod_int1 {r : Reach} {b0 : Nat} {t : TypeId} {k : IntKind} {v : Value} {d : DataW H} {p : List MemPlace} (hs : P.underlying t = some (.int k)) (hv : Value.okWide P w r b0 t v) (h : DataW.Trod enc P w base spare held t v d p) :
    ∃ fuel x, DataW.trod enc P w base spare held fuel t [v] = some x := by
  obtain ⟨n, rfl, _⟩ := open_int hs hv h
  obtain ⟨fuel, hf⟩ := h
  exact ⟨fuel, _, hf⟩
theorem trod_bool1 {r : Reach} {b0 : Nat} {t : TypeId} {v : Value} {d : DataW H} {p : List MemPlace} (hs : P.underlying t = some .bool) (hv : Value.okWide P w r b0 t v) (h : DataW.Trod enc P w base spare held t v d p) :
    ∃ fuel x, DataW.trod enc P w base spare held fuel t [v] = some x := by
  obtain ⟨b, rfl, _⟩ := open_bool hs hv h
  obtain ⟨fuel, hf⟩ := h
  exact ⟨fuel, _, hf⟩

/-- The arguments read as they did. -/
theorem trodAll_kept {W W' : World} (hl : laidOutB P = true) (hb : Ch [] W W') : ∀ (ts : List TypeId) (vs : List Value) (ds : List (DataW H)) (ps : List MemPlace), (∀ t ∈ ts, P.readableRec t = true ∧ t < P.types.size) →
    (∀ x ∈ ps, x.block < W.heap.size) → DataW.TrodAll enc P W 0 (fun _ => true) true ts vs ds ps → DataW.TrodAll enc P W' 0 (fun b => decide (b < W.heap.size)) true ts vs ds ps
  | [], [], [], ps, _, _, h => h
  | t :: ts, v :: vs, d :: ds, ps, hts, hps, h => by
    obtain ⟨p, q, h1, h2, rfl⟩ := h
    exact ⟨p, q, Below.trod hl (hts t (by simp)).1 (hts t (by simp)).2 h1 hb.below (fun x hx => hps x (by simp [hx])),
      trodAll_kept hl hb ts vs ds q (fun t' ht' => hts t' (by simp [ht'])) (fun x hx => hps x (by simp [hx])) h2, rfl⟩
  | [], v :: vs, _, _, _, _, h => by simp [DataW.TrodAll] at h
  | [], [], d :: ds, _, _, _, h => by simp [DataW.TrodAll] at h
  | t :: ts, [], _, _, _, _, h => by simp [DataW.TrodAll] at h
  | t :: ts, v :: vs, [], _, _, _, h => by simp [DataW.TrodAll] at h

/-- A law's row out of its walk: it returns true, the memory that was there is as it was. -/
theorem law_post {fn : Func} {s : ChangeSpec} {W W' : World} {args : Array Value} {ds : List (DataW H)} {ps : List MemPlace} {tb : TypeId} (hl : laidOutB P = true) (hts : fn.params.toList.all (fun t => P.readableRec t && decide (t < P.types.size)) = true)
    (hr : fn.resultTypes = #[tb]) (htb : P.underlying tb = some .bool) (hvars : s.vars = []) (hfn : s.fn H (ds ++ []) = { results := [.lit (.bool true)], args := ds })
    (hW : DataW.Whole enc P fn.params.toList s.vars false W args.toList ds [] ps) (hb : Ch [] W W') :
    s.post enc P fn false true false false W args (.bool true) W' := by
  have hW0 := hW
  obtain ⟨p, q, hA, hV, rfl, _, _⟩ := hW
  rw [hvars] at hV
  have hq : q = [] := hV
  subst hq
  have hlt : ∀ x ∈ p, x.block < W.heap.size := fun x hx => hW0.lt x (by simpa using hx)
  refine ⟨ds, [], _, [], p, [], hW0, ?_, ?_, ?_, hb.below.frame _, fun h => by cases h⟩
  · rw [hfn, hr]
    exact trodAll_mk1 (shut_bool htb true)
  · rw [hfn]
    refine trodAll_kept hl hb _ _ _ _ (fun t ht => ?_) hlt hA
    have := List.all_eq_true.1 hts t ht
    simpa using this
  · rw [hfn, hvars]
    exact rfl
end
end Go.KLib
