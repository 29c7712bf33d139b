/- The library of this proof: a logic of the code's forms, memory, data, and plain laws. It speaks of no program. -/
import Derived.WalkKit
import Derived.OrdersHeld
import Derived.WalkLawsBesides
import Derived.WalkSpells
import Derived.ProofKit
import Derived.Deep.Slices
import Derived.Deep.Fields
import Derived.Lib.SmallJoins
import Derived.Laws.Append
import Derived.Laws.CopyRow
import Derived.Laws.AppendOwn
import Derived.Laws.Small
import Derived.Shelf.Sort.Plain
import Derived.Shelf.Slices.CompactI
import Derived.Shelf.Slices.Delete
import Derived.Ground.NamesProg
import Derived.Ground.Names2Prog
import Derived.Shelf.Lay
import Derived.Shelf.Slices.In.SortNone
import Derived.MapKept
import Derived.Ground.SlsfProg
import Derived.Shelf.SlSortCmp.NoneTotal
import Derived.Laws.BytesString
import Derived.Laws.Strings2
import Derived.Laws.Concat
import Derived.Test.YtholldndjafnpaaLibA

namespace Go.KLib
theorem Ol.lsR {α : Type} {cs : α → List Value} {e k lo hi : Nat} {w : World} {v : Value} {xs : List α} (h : Ol cs e k w v xs) (hl : Lo lo v) (hh : ∀ g ∈ bl v, g < hi) : Ls cs k w lo hi v xs := by
  have hc := fun g off cap => Ow.cells (g := g) (off := off) (cap := cap) h
  rcases h.2 with ⟨rfl, h0⟩ | ⟨g, off, cap, cur, rfl, hg, h1, h2, h3, _⟩
  · exact ⟨h.1, none, 0, by rw [h0], by omega, Nat.zero_le _, fun h => absurd h (by omega)⟩
  · have hb : g ∈ bl (.slice (some ⟨g, off, none⟩) xs.length cap) := by simp [bl, Value.ownBlock]
    exact ⟨h.1, _, cap, rfl, h1, h2, fun _ => ⟨_, rfl, ⟨hl g hb, hh g hb⟩, fun j u hu => by rw [add_lit]; exact hc g off cap rfl j u hu⟩⟩
theorem Od.rdR {α : Type} {cs : α → List Value} {e k lo hi : Nat} {w : World} {vs : List Sv} {xs : List (List α)} (h : Od cs e k w lo hi vs xs) : Rd cs k w lo hi vs xs := by
  refine ⟨h.1, fun i v x hv hx => ?_⟩
  obtain ⟨x', hx', ho, hr⟩ := h.ownget hv
  rw [hx] at hx'; cases hx'
  exact ho.lsR (fun g hg => (hr g hg).1) (fun g hg => (hr g hg).2)
def RT (w : World) (H : Nat) (b : List Nat) (wd : List Int) (vs : List Sv) (st : List Tr) : Prop :=
  vs.length = st.length ∧ ∀ (i : Nat) (v : Sv) (t : Tr), vs[i]? = some v → st.reverse[i]? = some t →
    ∃ us lo hi, Ls Sv.cs 1 w lo hi v.v us ∧ Rd bcs 1 w lo hi us (grd (wd.length + 1) (mtT wd t)) ∧ hi ≤ H ∧ ∀ g ∈ b, g < lo ∨ hi ≤ g
section
variable {w w' : World} {H H' : Nat} {b b' ws : List Nat} {wd : List Int} {vs : List Sv} {st : List Tr}
theorem RT.nil : RT w H b wd [] [] := ⟨rfl, fun _ _ _ h => by simp at h⟩
theorem RT.ch (h : RT w H b wd vs st) (c : Ch ws w w') (hw : ∀ i ∈ ws, H ≤ i ∨ i ∈ b) : RT w' H b wd vs st := ⟨h.1, fun i v t hv ht => by
  obtain ⟨us, lo, hi, h1, h2, h3, h4⟩ := h.2 i v t hv ht
  have hd : ∀ i ∈ ws, i < lo ∨ hi ≤ i := fun i hi' => by
    rcases hw i hi' with q | q
    · right; omega
    · exact h4 i q
  exact ⟨us, lo, hi, h1.ch c hd, h2.ch c hd, h3, h4⟩⟩
theorem RT.ch0 (h : RT w H b wd vs st) (c : Ch [] w w') : RT w' H b wd vs st := h.ch c (by simp)
theorem RT.get (h : RT w H b wd vs st) {i : Nat} {y : Sv} (hy : vs[i]? = some y) : ∃ t us lo hi, st.reverse[i]? = some t ∧ Ls Sv.cs 1 w lo hi y.v us ∧ Rd bcs 1 w lo hi us (grd (wd.length + 1) (mtT wd t)) ∧ hi ≤ H := by
  have hi : i < st.reverse.length := by
    have := (List.getElem?_eq_some_iff.1 hy).1
    rw [List.length_reverse]; have := h.1; omega
  obtain ⟨us, lo, hi', h1, h2, h3, _⟩ := h.2 i y _ hy (List.getElem?_eq_getElem hi)
  exact ⟨_, us, lo, hi', List.getElem?_eq_getElem hi, h1, h2, h3⟩
theorem RT.take (h : RT w H b wd vs st) {k : Nat} (hk : k ≤ st.length) : RT w H b wd (vs.take (vs.length - k)) (st.drop k) := by
  refine ⟨by rw [List.length_take, List.length_drop, h.1]; omega, fun i v t hv ht => ?_⟩
  have h9 := h.1
  rw [List.getElem?_take] at hv
  split at hv
  · rename_i hi
    refine h.2 i v t hv ?_
    have e : st.reverse = (st.drop k).reverse ++ (st.take k).reverse := by rw [← List.reverse_append, List.take_append_drop]
    rw [e, List.getElem?_append_left (by rw [List.length_reverse, List.length_drop]; omega)]
    exact ht
  · cases hv
theorem RT.add (h : RT w H b wd vs st) {v : Sv} {t : Tr} {us : List Sv} {lo hi : Nat} (h1 : Ls Sv.cs 1 w lo hi v.v us) (h2 : Rd bcs 1 w lo hi us (grd (wd.length + 1) (mtT wd t))) (h3 : hi ≤ H') (hH : H ≤ H')
    (hb : ∀ g ∈ b', g < lo ∨ hi ≤ g) (ho : ∀ g ∈ b', g ∈ b ∨ H ≤ g) : RT w H' b' wd (vs ++ [v]) (t :: st) := by
  refine ⟨by simp [h.1], fun i x u hx hu => ?_⟩
  have h9 := h.1
  rw [List.reverse_cons] at hu
  by_cases hi' : i < vs.length
  · rw [List.getElem?_append_left hi'] at hx
    rw [List.getElem?_append_left (by rw [List.length_reverse]; omega)] at hu
    obtain ⟨us, l, r, a1, a2, a3, a4⟩ := h.2 i x u hx hu
    refine ⟨us, l, r, a1, a2, by omega, fun g hg => ?_⟩
    rcases ho g hg with q | q
    · exact a4 g q
    · right; omega
  · have e : i = vs.length := by
      have := (List.getElem?_eq_some_iff.1 hx).1
      simp at this; omega
    subst e
    rw [List.getElem?_append_right (Nat.le_refl _), Nat.sub_self] at hx
    rw [List.getElem?_append_right (by rw [List.length_reverse]; omega), List.length_reverse, h9, Nat.sub_self] at hu
    simp at hx hu; subst hx hu
    exact ⟨us, lo, hi, h1, h2, h3, hb⟩
theorem RT.eq {vs' : List Sv} (h : RT w H b wd vs st) (e : vs = vs') : RT w H b wd vs' st := e ▸ h
end
section
variable {st s2 : List Tr} {y : Token} {l : List Token} {i : Nat} {t : Tr}
theorem prs_go (hl : treeL l = some t) (hp : prs [] (l.take i) = some st) (hy : l[i]? = some y) : ∃ s2, push st y = some s2 ∧ prs [] (l.take (i + 1)) = some s2 := by
  have h := prs_snoc hp hy
  cases hq : push st y with
  | some s2 => exact ⟨s2, rfl, by rw [h, hq]⟩
  | none =>
    rw [hq] at h
    have := prs_stop h
    unfold treeL at hl; rw [this] at hl; cases hl
theorem prs_fin (hl : treeL l = some t) (hp : prs [] (l.take i) = some st) (hi : l.length ≤ i) : st = [t] := by
  have h := prs_end hp hi
  unfold treeL at hl
  rw [h] at hl
  match st, hl with
  | [u], hl => cases hl; rfl
theorem push_ar (h : push st y = some s2) : arT y = arK y.kind ∧ 0 ≤ arT y := by
  have h0 : 0 ≤ arT y := by
    unfold push at h
    split at h
    · omega
    · split at h
      · omega
      · split at h
        · omega
        · cases h
  exact ⟨arT_ok h0, h0⟩
theorem push_k0 (h : push st y = some s2) (hk : arK y.kind = 0) : s2 = .l0 y :: st := by
  have e := (push_ar h).1
  unfold push at h
  rw [if_pos (by omega)] at h
  cases h; rfl
theorem push_k1 (h : push st y = some s2) (hk : arK y.kind = 1) : ∃ a r, st = a :: r ∧ s2 = .l1 y a :: r := by
  have e := (push_ar h).1
  unfold push at h
  rw [if_neg (by omega), if_pos (by omega)] at h
  match st, h with
  | a :: r, h => cases h; exact ⟨a, r, rfl, rfl⟩
theorem push_k2 (h : push st y = some s2) (hk : arK y.kind = 2) : ∃ a b r, st = b :: a :: r ∧ s2 = .l2 y a b :: r := by
  have e := (push_ar h).1
  unfold push at h
  rw [if_neg (by omega), if_neg (by omega), if_pos (by omega)] at h
  match st, h with
  | b :: a :: r, h => cases h; exact ⟨a, b, r, rfl, rfl⟩
theorem push_hi (h : push st y = some s2) (hk : y.kind = 7) : y.high ≤ 3 := by
  have e := (push_ar h).2
  unfold arT at e
  rw [if_neg (by omega), if_neg (by omega), if_neg (by omega), if_neg (by omega), if_pos hk] at e
  split at e
  · omega
  · omega
theorem top1 {a : Tr} {r : List Tr} {j : Nat} {u : Tr} (hj : j = r.length) (h : (a :: r).reverse[j]? = some u) : u = a := by
  subst hj
  rw [List.reverse_cons, List.getElem?_append_right (by simp), List.length_reverse, Nat.sub_self] at h
  simpa using h.symm
theorem top2 {a c : Tr} {r : List Tr} {j : Nat} {u : Tr} (hj : j = r.length) (h : (c :: a :: r).reverse[j]? = some u) : u = a := by
  subst hj
  rw [List.reverse_cons, List.getElem?_append_left (by simp)] at h
  exact top1 rfl h
end
section
variable {w : List Int} {y : Token} {a b : Tr}
theorem ml2 (h : y.kind = 2) : mtT w (.l0 y) = idM true := by rw [mtT, if_pos h]
theorem ml3 (h : y.kind = 3) : mtT w (.l0 y) = ltM y.letter w := by rw [mtT, if_neg (by omega), if_pos h]
theorem ml0 (h : y.kind ≠ 2 ∧ y.kind ≠ 3) : mtT w (.l0 y) = idM false := by rw [mtT, if_neg h.1, if_neg h.2]
theorem ml4 (h : y.kind = 4) : mtT w (.l2 y a b) = mulM (w.length + 1) (mtT w a) (mtT w b) := by rw [mtT, if_pos h]
theorem ml5 (h : y.kind = 5) : mtT w (.l2 y a b) = oeM (mtT w a) (mtT w b) := by rw [mtT, if_neg (by omega), if_pos h]
theorem ml6 (h : y.kind = 6) : mtT w (.l1 y a) = repM (w.length + 1) (mtT w a) 0 (w.length + 1) := by rw [mtT, if_pos h]
theorem ml7 (h : y.kind = 7) : mtT w (.l1 y a) = repM (w.length + 1) (mtT w a) y.low (y.high + 1).toNat := by rw [mtT, if_neg (by omega), if_pos h]
end
theorem fin_mt {w : List Int} {t u : Tr} {ys : List Bool} {x : Bool} (hu : [t].reverse[0]? = some u) (h : (grd (w.length + 1) (mtT w u))[0]? = some ys) (hx : ys[w.length]? = some x) : x = mtT w t 0 w.length := by
  have e : u = t := top1 rfl hu
  subst e
  exact grd_y rfl h hx
theorem set_last {vs : List Sv} {v : Sv} {j : Nat} (hj : j + 1 = vs.length) : vs.take (vs.length - 1) ++ [v] = vs.set j v := by
  apply List.ext_getElem?
  intro i
  rw [List.getElem?_set]
  by_cases e : j = i
  · subst e
    rw [if_pos rfl, if_pos (by omega), List.getElem?_append_right (by rw [List.length_take]; omega), List.length_take]
    rw [show j - min (vs.length - 1) vs.length = 0 by omega]; rfl
  · rw [if_neg e]
    by_cases hi : i < j
    · rw [List.getElem?_append_left (by rw [List.length_take]; omega), List.getElem?_take, if_pos (by omega)]
    · rw [List.getElem?_eq_none (by rw [List.length_append, List.length_take, List.length_singleton]; omega), List.getElem?_eq_none (by omega)]
noncomputable def mwE (e : List Token) (w : List Int) : Bool := ivE e && tt (IsWd w) && (match treeL e with | some t => mtT w t 0 w.length | none => false)
section
variable {e : List Token} {w : List Int} {t : Tr}
theorem mwE_n1 (h : ivE e = false) : mwE e w = false := by unfold mwE; rw [h]; rfl
theorem mwE_n2 (h : ¬ IsWd w) : mwE e w = false := by unfold mwE; rw [← tt_false h]; simp
theorem mwE_y (h : ivE e = true) (hw : IsWd w) (ht : treeL e = some t) : mwE e w = mtT w t 0 w.length := by unfold mwE; rw [h, ← tt_true hw, ht]; rfl
end
end Go.KLib

namespace Go.KLib
def extW (L : List Int) (w : List Int) : List (List Int) := L.map fun c => w ++ [c]
def wdL (L : List Int) : Nat → List (List Int)
  | 0 => [[]]
  | k + 1 => (wdL L k).flatMap (extW L)
def R9 : List Int := (List.range 9).map fun (i : Nat) => (i : Int)
theorem flat_if {α β : Type} (a : α → Bool) (f : α → List β) : ∀ l : List α, (l.filter a).flatMap f = l.flatMap fun w => bif a w then f w else []
  | [] => rfl
  | x :: l => by
    rw [List.filter_cons, List.flatMap_cons, ← flat_if a f l]
    cases h : a x <;> simp
theorem ext_filter (L : List Int) (q : Int → Bool) (w : List Int) : (extW L w).filter (fun v => v.all q) = bif w.all q then extW (L.filter q) w else [] := by
  unfold extW
  rw [List.filter_map]
  cases h : w.all q with
  | true =>
    have e : ((fun v : List Int => v.all q) ∘ fun c => w ++ [c]) = q := by funext c; simp [List.all_append, h]
    rw [e]; rfl
  | false =>
    have e : ((fun v : List Int => v.all q) ∘ fun c => w ++ [c]) = fun _ => false := by funext c; simp only [Function.comp, List.all_append, h, Bool.false_and]
    rw [e]; simp
theorem wdL_filter (L : List Int) (q : Int → Bool) : ∀ k, wdL (L.filter q) k = (wdL L k).filter fun v => v.all q
  | 0 => rfl
  | k + 1 => by
    have ih := wdL_filter L q k
    rw [wdL, wdL, ih, flat_if, List.filter_flatMap]
    congr 1
    funext w
    rw [ext_filter]
theorem wdL_len {L : List Int} : ∀ {k : Nat} {w : List Int}, w ∈ wdL L k → w.length = k
  | 0, w, h => by simp [wdL] at h; subst h; rfl
  | k + 1, w, h => by
    rw [wdL, List.mem_flatMap] at h
    obtain ⟨v, hv, hw⟩ := h
    unfold extW at hw
    obtain ⟨c, _, rfl⟩ := List.mem_map.1 hw
    rw [List.length_append, wdL_len hv]; rfl
theorem wdL_size (L : List Int) : ∀ k, (wdL L k).length = L.length ^ k
  | 0 => rfl
  | k + 1 => by
    rw [wdL, List.length_flatMap]
    have e : ((wdL L k).map fun a => (extW L a).length) = (wdL L k).map fun _ => L.length := List.map_congr_left fun a _ => by simp [extW]
    rw [e, Nat.pow_succ, ← wdL_size L k]
    generalize wdL L k = l
    induction l with
    | nil => simp
    | cons x l ih => simp only [List.map_cons, List.sum_cons, ih, List.length_cons]; rw [Nat.succ_mul]; omega
theorem filt_sub {α : Type} (P q : α → Bool) (l : List α) (h : ∀ x ∈ l, P x = true → q x = true) : (l.filter q).filter P = l.filter P := by
  rw [List.filter_filter]
  exact List.filter_congr fun x hx => by
    cases hp : P x with
    | false => rfl
    | true => rw [h x hx hp]; rfl
theorem words_same (q : Int → Bool) (P : List Int → Bool) (k : Nat) (h : ∀ w, P w = true → w.all q = true) : (wdL (R9.filter q) k).filter P = (wdL R9 k).filter P := by
  rw [wdL_filter]
  exact filt_sub P _ _ fun w _ hp => h w hp
def letT : Tr → List Int
  | .l0 t => if t.kind = 3 then [t.letter] else []
  | .l1 _ a => letT a
  | .l2 _ a b => letT a ++ letT b
theorem pow_lets {n : Nat} {A : Nat → Nat → Bool} {w : List Int} {S : List Int} (hA : ∀ i j, A i j = true → i ≤ j ∧ ∀ p c, i ≤ p → p < j → w[p]? = some c → c ∈ S) :
    ∀ (k i j : Nat), powM n A k i j = true → i ≤ j ∧ ∀ p c, i ≤ p → p < j → w[p]? = some c → c ∈ S
  | 0, i, j, h => by
    have e : i = j := by simpa [powM, idM] using h
    subst e
    exact ⟨Nat.le_refl _, fun p c h1 h2 => by omega⟩
  | k + 1, i, j, h => by
    rw [powM] at h
    obtain ⟨x, _, h1, h2⟩ := mul_iff.1 h
    obtain ⟨a1, a2⟩ := pow_lets hA k i x h1
    obtain ⟨b1, b2⟩ := hA x j h2
    exact ⟨by omega, fun p c q1 q2 q3 => by
      by_cases e : p < x
      · exact a2 p c q1 e q3
      · exact b2 p c (by omega) q2 q3⟩
theorem rep_lets {n : Nat} {A : Nat → Nat → Bool} {w : List Int} {S : List Int} {low : Int} {k : Nat} (hA : ∀ i j, A i j = true → i ≤ j ∧ ∀ p c, i ≤ p → p < j → w[p]? = some c → c ∈ S) (i j : Nat) (h : repM n A low k i j = true) :
    i ≤ j ∧ ∀ p c, i ≤ p → p < j → w[p]? = some c → c ∈ S := by
  unfold repM at h
  obtain ⟨m, _, hm⟩ := List.any_eq_true.1 h
  rw [Bool.and_eq_true] at hm
  exact pow_lets hA m i j hm.2
theorem mt_lets (w : List Int) : ∀ (t : Tr) (i j : Nat), mtT w t i j = true → i ≤ j ∧ ∀ p c, i ≤ p → p < j → w[p]? = some c → c ∈ letT t
  | .l0 t, i, j, h => by
    unfold mtT at h
    split at h
    · have e : i = j := by simpa [idM] using h
      exact ⟨by omega, fun p c h1 h2 => by omega⟩
    · split at h
      · rename_i hk
        have h2 : j = i + 1 ∧ w[i]? = some t.letter := by simpa [ltM] using h
        refine ⟨by omega, fun p c q1 q2 q3 => ?_⟩
        have e : p = i := by omega
        subst e
        rw [h2.2] at q3; cases q3
        unfold letT; rw [if_pos hk]; exact List.mem_singleton.2 rfl
      · simp [idM] at h
  | .l1 t a, i, j, h => by
    have ih := mt_lets w a
    unfold mtT at h
    split at h
    · exact rep_lets (S := letT a) ih i j h
    · split at h
      · exact rep_lets (S := letT a) ih i j h
      · simp [idM] at h
  | .l2 t a b, i, j, h => by
    have ia := mt_lets w a
    have ib := mt_lets w b
    unfold mtT at h
    split at h
    · obtain ⟨x, _, h1, h2⟩ := mul_iff.1 h
      obtain ⟨a1, a2⟩ := ia i x h1
      obtain ⟨b1, b2⟩ := ib x j h2
      exact ⟨by omega, fun p c q1 q2 q3 => by
        unfold letT
        by_cases e : p < x
        · exact List.mem_append_left _ (a2 p c q1 e q3)
        · exact List.mem_append_right _ (b2 p c (by omega) q2 q3)⟩
    · split at h
      · have h2 : mtT w a i j = true ∨ mtT w b i j = true := by simpa [oeM] using h
        unfold letT
        rcases h2 with h2 | h2
        · obtain ⟨a1, a2⟩ := ia i j h2
          exact ⟨a1, fun p c q1 q2 q3 => List.mem_append_left _ (a2 p c q1 q2 q3)⟩
        · obtain ⟨a1, a2⟩ := ib i j h2
          exact ⟨a1, fun p c q1 q2 q3 => List.mem_append_right _ (a2 p c q1 q2 q3)⟩
      · simp [idM] at h
theorem mt_all {w : List Int} {t : Tr} {q : Int → Bool} (hq : ∀ c ∈ letT t, q c = true) (h : mtT w t 0 w.length = true) : w.all q = true := by
  rw [List.all_eq_true]
  intro c hc
  obtain ⟨p, hp, e⟩ := List.getElem_of_mem hc
  exact hq c ((mt_lets w t 0 w.length h).2 p c (Nat.zero_le _) hp (by rw [List.getElem?_eq_getElem hp, e]))
theorem letT_flat : ∀ (t : Tr) (c : Int), c ∈ letT t → ∃ y ∈ t.flat, y.kind = 3 ∧ y.letter = c
  | .l0 t, c, h => by
    unfold letT at h
    split at h
    · rename_i hk
      exact ⟨t, by simp [Tr.flat], hk, (List.mem_singleton.1 h).symm⟩
    · cases h
  | .l1 t a, c, h => by
    obtain ⟨y, hy, h2⟩ := letT_flat a c h
    exact ⟨y, by simp [Tr.flat, hy], h2⟩
  | .l2 t a b, c, h => by
    unfold letT at h
    rcases List.mem_append.1 h with h | h
    · obtain ⟨y, hy, h2⟩ := letT_flat a c h
      exact ⟨y, by simp [Tr.flat, hy], h2⟩
    · obtain ⟨y, hy, h2⟩ := letT_flat b c h
      exact ⟨y, by simp [Tr.flat, hy], h2⟩
theorem Od.skip {α : Type} {cs : α → List Value} {e k : Nat} {w : World} {lo hi : Nat} {vs us : List Sv} {v : Sv} {xs ys : List (List α)} {x : List α} (h : Od cs e k w lo hi (vs ++ v :: us) (xs ++ x :: ys)) (hl : vs.length = xs.length) : Od cs e k w lo hi (vs ++ us) (xs ++ ys) := by
  have g1 : ∀ {β : Type} (a b : List β) (c : β) (i : Nat) (u : β), (a ++ b)[i]? = some u → (a ++ c :: b)[if i < a.length then i else i + 1]? = some u := by
    intro β a b c i u hu
    by_cases hi : i < a.length
    · rw [if_pos hi, List.getElem?_append_left hi]; rwa [List.getElem?_append_left hi] at hu
    · rw [if_neg hi, List.getElem?_append_right (by omega)]
      rw [List.getElem?_append_right (by omega)] at hu
      rw [show i + 1 - a.length = (i - a.length) + 1 by omega, List.getElem?_cons_succ]; exact hu
  refine ⟨by have := h.1; simp at this ⊢; omega, fun i v' x' a b => ?_, fun i j u u' a b hij => ?_⟩
  · have a' := g1 _ _ v _ _ a
    have b' := g1 _ _ x _ _ b
    rw [← hl] at b'
    exact h.2.1 _ _ _ a' b'
  · have a' := g1 _ _ v _ _ a
    have b' := g1 _ _ v _ _ b
    exact h.2.2 _ _ _ _ a' b' (by split <;> split <;> omega)
theorem R9_pow {n : Nat} (h : n ≤ 3) : R9.length ^ n ≤ 729 := by
  have e : R9.length = 9 := rfl
  rw [e]
  match n, h with
  | 0, _ => decide
  | 1, _ => decide
  | 2, _ => decide
  | 3, _ => decide
theorem ext_step {W : List (List Int)} {i k : Nat} {y : List Int} (hy : W[i]? = some y) (hk : k < 9) :
    (W.take i).flatMap (extW R9) ++ (extW R9 y).take k ++ [y ++ [((k : Nat) : Int)]] = (W.take i).flatMap (extW R9) ++ (extW R9 y).take (k + 1) := by
  rw [List.append_assoc]
  congr 1
  have e : (extW R9 y)[k]? = some (y ++ [((k : Nat) : Int)]) := by simp [extW, R9, hk]
  rw [take_snoc e]
theorem ext_all {W : List (List Int)} {i k : Nat} {y : List Int} (hy : W[i]? = some y) (hk : 9 ≤ k) :
    (W.take i).flatMap (extW R9) ++ (extW R9 y).take k = (W.take (i + 1)).flatMap (extW R9) := by
  have e : (extW R9 y).length = 9 := by simp [extW, R9]
  rw [take_snoc hy, List.flatMap_append, List.take_of_length_le (l := extW R9 y) (by omega)]
  simp
theorem wd_end {L : Int} {i : Nat} (h : 1 ≤ L) (hi : (wdL R9 (L - 1).toNat).length ≤ i) : ((wdL R9 (L - 1).toNat).take i).flatMap (extW R9) = wdL R9 L.toNat := by
  rw [List.take_of_length_le hi, show L.toNat = (L - 1).toNat + 1 by omega]
  rfl
theorem drop_of {α : Type} {l : List α} {i : Nat} {y : α} (h : l[i]? = some y) : l.drop i = y :: l.drop (i + 1) := by
  obtain ⟨hi, e⟩ := List.getElem?_eq_some_iff.1 h
  rw [List.drop_eq_getElem_cons hi, e]
theorem Od.eq2 {α : Type} {cs : α → List Value} {e k : Nat} {w : World} {lo hi : Nat} {vs vs' : List Sv} {xs ys : List (List α)} (h : Od cs e k w lo hi vs xs) (hv : vs = vs') (he : xs = ys) : Od cs e k w lo hi vs' ys := hv ▸ he ▸ h
theorem Od.app {α : Type} {cs : α → List Value} {e k : Nat} {w : World} {lo hi lo2 hi2 : Nat} {vs us : List Sv} {xs ys : List (List α)} (h : Od cs e k w lo hi vs xs) (h2 : Od cs e k w lo2 hi2 us ys) (hh : hi ≤ lo2) (hl : lo ≤ lo2) (hu : hi ≤ hi2) : Od cs e k w lo hi2 (vs ++ us) (xs ++ ys) := by
  have h9 := h.1
  have k9 := h2.1
  refine ⟨by simp [h9, k9], fun i v x a b => ?_, fun i j u v a b hij => ?_⟩
  · by_cases hi' : i < vs.length
    · rw [List.getElem?_append_left hi'] at a
      rw [List.getElem?_append_left (by omega)] at b
      obtain ⟨o, r⟩ := h.2.1 i v x a b
      exact ⟨o, fun g hg => by have := r g hg; omega⟩
    · rw [List.getElem?_append_right (by omega)] at a
      rw [List.getElem?_append_right (by omega)] at b
      rw [h9] at a
      obtain ⟨o, r⟩ := h2.2.1 _ v x a b
      exact ⟨o, fun g hg => by have := r g hg; omega⟩
  · by_cases hi' : i < vs.length
    · rw [List.getElem?_append_left hi'] at a
      by_cases hj : j < vs.length
      · rw [List.getElem?_append_left hj] at b
        exact h.2.2 i j u v a b hij
      · rw [List.getElem?_append_right (by omega)] at b
        intro g hg hm
        have r1 := h.rng (List.mem_of_getElem? a) hg
        have r2 := h2.rng (List.mem_of_getElem? b) hm
        omega
    · rw [List.getElem?_append_right (by omega)] at a
      rw [List.getElem?_append_right (by omega)] at b
      exact h2.2.2 _ _ u v a b (by omega)
def wuT (L : List Int) (t : Tr) (m : Nat) : List (List Int) := (List.range m).flatMap fun k => (wdL L k).filter fun w => mtT w t 0 w.length
theorem wuT_succ {L : List Int} {t : Tr} {m : Nat} : wuT L t (m + 1) = wuT L t m ++ (wdL L m).filter fun w => mtT w t 0 w.length := by
  unfold wuT
  rw [List.range_succ, List.flatMap_append]
  simp
def wuR (e : List Token) (n : Int) : List (List Int) := if ivE e = true ∧ 0 ≤ n ∧ n ≤ 3 then (match treeL e with | some t => wuT R9 t (n + 1).toNat | none => []) else []
theorem wuR_n {e : List Token} {n : Int} (h : ¬ (ivE e = true ∧ 0 ≤ n ∧ n ≤ 3)) : [] = wuR e n := by unfold wuR; rw [if_neg h]
theorem wuR_y {e : List Token} {n : Int} {t : Tr} {m : Nat} (h : ivE e = true) (h1 : 0 ≤ n ∧ n ≤ 3) (ht : treeL e = some t) (hm : m = (n + 1).toNat) : wuT R9 t m = wuR e n := by
  subst hm
  unfold wuR; rw [if_pos ⟨h, h1⟩, ht]
theorem wu_keep {W : List (List Int)} {X : List (List Int)} {P : List Int → Bool} {i : Nat} {y : List Int} (hy : W[i]? = some y) (hp : P y = true) : X ++ (W.take i).filter P ++ W.drop i = X ++ (W.take (i + 1)).filter P ++ W.drop (i + 1) := by
  rw [take_snoc hy, List.filter_append, drop_of hy]
  simp [hp]
theorem wu_drop {W : List (List Int)} {X : List (List Int)} {P : List Int → Bool} {i : Nat} {y : List Int} (hy : W[i]? = some y) (hp : P y = false) : X ++ (W.take i).filter P ++ W.drop (i + 1) = X ++ (W.take (i + 1)).filter P ++ W.drop (i + 1) := by
  rw [take_snoc hy, List.filter_append]
  simp [hp]
theorem subSep {o : Value} {vs us : List Sv} (h : Sep o vs) (hs : ∀ u ∈ us, u ∈ vs) : Sep o us := fun u hu => h u (hs u hu)
theorem appSep {o : Value} {vs us : List Sv} (h : Sep o vs) (k : Sep o us) : Sep o (vs ++ us) := fun u hu => (List.mem_append.1 hu).elim (h u) (k u)
theorem wuT_le {t : Tr} : ∀ {m : Nat}, m ≤ 4 → (wuT R9 t m).length ≤ m * 729
  | 0, _ => Nat.zero_le _
  | m + 1, h => by
    have ih := wuT_le (t := t) (m := m) (by omega)
    have h1 := List.length_filter_le (fun w => mtT w t 0 w.length) (wdL R9 m)
    have h2 := wdL_size R9 m
    have h3 := R9_pow (n := m) (by omega)
    rw [wuT_succ, List.length_append]
    omega
theorem wu_le {t : Tr} {m i : Nat} {W : List (List Int)} {P : List Int → Bool} (h : m ≤ 4) (hi : i ≤ W.length) : (wuT R9 t m ++ (W.take i).filter P).length ≤ 2916 + W.length := by
  have h1 := wuT_le (t := t) h
  have h2 := List.length_filter_le P (W.take i)
  rw [List.length_append]
  rw [List.length_take] at h2
  omega
def wuS (e : List Token) (n : Int) : List (List Int) := if ivE e = true ∧ 0 ≤ n ∧ n ≤ 3 then (match treeL e with | some t => wuT (alphR e) t (n + 1).toNat | none => []) else []
theorem wuS_n {e : List Token} {n : Int} (h : ¬ (ivE e = true ∧ 0 ≤ n ∧ n ≤ 3)) : [] = wuS e n := by unfold wuS; rw [if_neg h]
theorem wuS_y {e : List Token} {n : Int} {t : Tr} {m : Nat} (h : ivE e = true) (h1 : 0 ≤ n ∧ n ≤ 3) (ht : treeL e = some t) (hm : m = (n + 1).toNat) : wuT (alphR e) t m = wuS e n := by
  subst hm
  unfold wuS; rw [if_pos ⟨h, h1⟩, ht]
theorem ext_stepL {L : List Int} {W : List (List Int)} {i j : Nat} {y y2 : List Int} {c : Int} (hy : W[i]? = some y) (hy2 : W[i]? = some y2) (hc : L[j]? = some c) :
    (W.take i).flatMap (extW L) ++ (extW L y).take j ++ [y2 ++ [c]] = (W.take i).flatMap (extW L) ++ (extW L y).take (j + 1) := by
  obtain rfl := get_uniq hy hy2
  rw [List.append_assoc]
  congr 1
  have e : (extW L y)[j]? = some (y ++ [c]) := by simp [extW, hc]
  rw [take_snoc e]
section
variable {L : List Int} {t : Tr} {W : List (List Int)} {P : List Int → Bool} {y : List Int} {i j k m : Nat}
theorem wdL_le (h : L.length ≤ 400) (hk : k ≤ 3) : (wdL L k).length ≤ 64000000 := by
  rw [wdL_size]
  have h1 : L.length ^ k ≤ 400 ^ k := Nat.pow_le_pow_left h k
  have h2 : 400 ^ k ≤ 400 ^ 3 := Nat.pow_le_pow_right (by decide) hk
  have h3 : (400 : Nat) ^ 3 = 64000000 := by decide
  omega
theorem wuTL_le (h : L.length ≤ 400) : ∀ {m : Nat}, m ≤ 4 → (wuT L t m).length ≤ m * 64000000
  | 0, _ => Nat.zero_le _
  | m + 1, hm => by
    have ih := wuTL_le h (m := m) (by omega)
    have h1 := List.length_filter_le (fun w => mtT w t 0 w.length) (wdL L m)
    have h2 := wdL_le (k := m) h (by omega)
    rw [wuT_succ, List.length_append]
    omega
theorem wuL_le (h : L.length ≤ 400) (hm : m ≤ 4) : (wuT L t m ++ (W.take i).filter P).length ≤ 256000000 + W.length := by
  have h1 := wuTL_le (t := t) h hm
  have h2 := List.length_filter_le P (W.take i)
  rw [List.length_append]
  rw [List.length_take] at h2
  omega
theorem flatL_le (h : L.length ≤ 400) : ((W.take i).flatMap (extW L)).length ≤ 400 * W.length := by
  have key : ∀ V : List (List Int), (V.flatMap (extW L)).length ≤ 400 * V.length := fun V => by
    induction V with
    | nil => simp
    | cons x V ih =>
      rw [List.flatMap_cons, List.length_append, List.length_cons]
      have : (extW L x).length = L.length := by simp [extW]
      omega
  have h1 := key (W.take i)
  rw [List.length_take] at h1
  omega
theorem flatJ_le (h : L.length ≤ 400) : ((W.take i).flatMap (extW L) ++ (extW L y).take j).length ≤ 400 * W.length + 400 := by
  have h1 := flatL_le (W := W) (i := i) h
  have h2 : (extW L y).length = L.length := by simp [extW]
  rw [List.length_append, List.length_take]
  omega
end
theorem ext_allL {L : List Int} {W : List (List Int)} {i k : Nat} {y : List Int} (hy : W[i]? = some y) (hk : L.length ≤ k) :
    (W.take i).flatMap (extW L) ++ (extW L y).take k = (W.take (i + 1)).flatMap (extW L) := by
  have e : (extW L y).length = L.length := by simp [extW]
  rw [take_snoc hy, List.flatMap_append, List.take_of_length_le (l := extW L y) (by omega)]
  simp
end Go.KLib

namespace Go.KLib
def bst (l : List UInt8) : Value := .string ⟨l.toArray⟩
def bys (l : List UInt8) : ByteArray := ⟨l.toArray⟩
theorem bst_def (l : List UInt8) : bst l = .string (bys l) := rfl
theorem bys_list (l : List UInt8) : (bys l).toList = l := ByteArray.toList_mk l
theorem bys_size (l : List UInt8) : (bys l).size = l.length := rfl
def scs (s : List UInt8) : List Value := [bst s]
theorem scs_len (s : List UInt8) : (scs s).length = 1 := rfl
theorem scs_one (s : List UInt8) : ∀ v ∈ scs s, v.oneCell' = true := fun v hv => by rw [List.mem_singleton.1 hv]; rfl
def ucs (n : Int) : List Value := [.int .u8 n]
theorem ucs_len (n : Int) : (ucs n).length = 1 := rfl
def bat (s : List UInt8) (i : Nat) : Int := ((s.getD i 0).toNat : Int)
theorem bat_rng (s : List UInt8) (i : Nat) : 0 ≤ bat s i ∧ bat s i ≤ 255 := by
  have := (s.getD i 0).toNat_lt
  unfold bat; omega
theorem bat_cv (s : List UInt8) (i : Nat) : -9223372036854775808 ≤ bat s i ∧ bat s i ≤ 9223372036854775807 := by have := bat_rng s i; omega
def w8 (x : Int) : Int := IntKind.u8.wrap x
def bLt (a b : List UInt8) : Bool := Op.bytesLess a b
section
variable {P : Program} {w : World} {l : KL} {dst : Option Tmp} {ty : TypeId} {pos : String} {aft : Array Go.Edge} {gd : Option (Nat × Bool)} {x y z : Operand} {xt yt : TypeId} {a b : Int} {k : IntKind} {s t : List UInt8}
theorem r_mul64 (hx : ev l x = some (.int .i64 a)) (hy : ev l y = some (.int .i64 b)) : Runs P l ⟨dst, .binOp .mul xt x y yt, ty, pos, aft, gd⟩ w (.int .i64 (w64 (a * b))) w := r_mulW hx hy
theorem r_sAdd (h : s.length + t.length ≤ 9223372036854775807) (hx : ev l x = some (bst s)) (hy : ev l y = some (bst t)) : Runs P l ⟨dst, .binOp .add xt x y yt, ty, pos, aft, gd⟩ w (bst (s ++ t)) w := fun ρ hρ => by
  have e := run_string_add_sum (P := P) w (bys s) (bys t) h
  rw [show bys s ++ bys t = bys (s ++ t) from ByteArray.mk_append_mk s t] at e
  rw [bst_def] at hx hy
  simp [execOp, hρ _ _ hx, hρ _ _ hy, eqGuard, binOp, e, bst_def]
theorem r_sEql (hx : ev l x = some (bst s)) (hy : ev l y = some (bst t)) : Runs P l ⟨dst, .binOp .eql xt x y yt, ty, pos, aft, gd⟩ w (.bool (decide (s = t))) w := fun ρ hρ => by
  have e : (s == t) = decide (s = t) := by by_cases h : s = t <;> simp [h]
  rw [bst_def] at hx hy
  simp [execOp, hρ _ _ hx, hρ _ _ hy, eqGuard, binOp, Op.stringOp, bys_list, e]
theorem r_lenB {t : TypeId} (ht : P.underlying t = some .string) (h : ev l x = some (bst s)) :
    Runs P l ⟨dst, .call { callee := .builtin .len, args := #[x], argTypes := #[t] }, ty, pos, aft, gd⟩ w (.int .i64 s.length) w := fun ρ hρ => by
  rw [bst_def] at h
  simp [execOp, resolve, invoke, builtin, Builtin.len_, run_underlying ht, hρ _ _ h, goInt, bys_size]
theorem r_sIndex {t : TypeId} {i : Int} (h0 : 0 ≤ i ∧ i < s.length) (ht : P.underlying t = some .string) (hx : ev l x = some (bst s)) (hy : ev l y = some (.int k i)) :
    Runs P l ⟨dst, .index t x y, ty, pos, aft, gd⟩ w (.int .u8 (bat s i.toNat)) w := fun ρ hρ => by
  have e := run_index_string (P := P) w t (bys s) k i ht
  rw [dif_pos (show 0 ≤ i ∧ i < ((bys s).size : Int) from h0)] at e
  have hlt : i.toNat < s.length := by omega
  have e2 : (bys s)[i.toNat]'(by show i.toNat < s.length; exact hlt) = s.getD i.toNat 0 := by
    show s.toArray[i.toNat]'(by simpa using hlt) = _
    simp [List.getD_eq_getElem?_getD, hlt]
  rw [bst_def] at hx
  rw [e2] at e
  simp [execOp, hρ _ _ hx, hρ _ _ hy, e, bat]
theorem r_sCut {t : TypeId} {i j : Int} {k' : IntKind} (h0 : 0 ≤ i ∧ i ≤ j ∧ j ≤ s.length) (ht : P.underlying t = some .string) (hx : ev l x = some (bst s)) (hy : ev l y = some (.int k i)) (hz : ev l z = some (.int k' j)) :
    Runs P l ⟨dst, .slice t x (some y) (some z) none, ty, pos, aft, gd⟩ w (bst ((s.drop i.toNat).take (j.toNat - i.toNat))) w := fun ρ hρ => by
  have e := run_slice_string (P := P) w t (bys s) k k' i j ht h0.1 h0.2.1 h0.2.2
  rw [show (bys s).extract i.toNat j.toNat = bys ((s.drop i.toNat).take (j.toNat - i.toNat)) from ByteArray.extract_mk s _ _] at e
  rw [bst_def] at hx
  simp [execOp, hρ _ _ hx, hρ _ _ hy, hρ _ _ hz, Instr.sliceAt, run_underlying ht, e, bst_def]
theorem r_sCutL {t : TypeId} {i : Int} (h0 : 0 ≤ i ∧ i ≤ s.length) (ht : P.underlying t = some .string) (hx : ev l x = some (bst s)) (hy : ev l y = some (.int k i)) :
    Runs P l ⟨dst, .slice t x (some y) none none, ty, pos, aft, gd⟩ w (bst (s.drop i.toNat)) w := fun ρ hρ => by
  have e := run_slice_string_l (P := P) w t (bys s) ht k i h0.1 h0.2
  rw [show (bys s).extract i.toNat (bys s).size = bys (s.drop i.toNat) from by
    rw [show (bys s).extract i.toNat (bys s).size = bys ((s.drop i.toNat).take (s.length - i.toNat)) from ByteArray.extract_mk s _ _, List.take_of_length_le (by simp)]] at e
  rw [bst_def] at hx
  simp [execOp, hρ _ _ hx, hρ _ _ hy, Instr.sliceAt, run_underlying ht, e, bst_def]
theorem fold_push (ns : List Int) : ∀ (s : ByteArray), (ns.foldl (fun r n => r.push (UInt8.ofNat n.toNat)) s).data.toList = s.data.toList ++ ns.map fun n => UInt8.ofNat n.toNat := by
  induction ns with
  | nil => intro s; simp
  | cons n ns ih => intro s; simp only [List.foldl_cons, ih]; simp [ByteArray.push]
def u8s (ns : List Int) : List UInt8 := ns.map fun n => UInt8.ofNat n.toNat
theorem r_bytesStr {src d e : TypeId} {ns : List Int} {v : Value} {L B : Nat} (hs : Ls ucs 1 w L B v ns) (h1 : elB P src = some e) (h2 : P.underlying e = some (.int .u8)) (h3 : P.underlying d = some .string) (hx : ev l x = some v) :
    Runs P l ⟨dst, .convert src d x, ty, pos, aft, gd⟩ w (bst (u8s ns)) w := fun ρ hρ => by
  obtain ⟨hl, A, c, rfl, hc, hm, hA⟩ := hs
  have hcv := fun a n c => run_convert_bytes_string (P := P) w src d e a n c (elB_spec h1) h2 h3
  have fm : ∀ ns : List Int, ns.flatMap ucs = ns.map (Value.int .u8) := fun ns => by induction ns with | nil => rfl | cons n ns ih => simp [ucs, ih]
  have fp : ∀ ns : List Int, ns.foldl (fun r n => r.push (UInt8.ofNat n.toNat)) ByteArray.empty = bys (u8s ns) := fun ns => by
    apply ByteArray.ext
    apply Array.toList_inj.1
    rw [fold_push]; simp [bys, u8s]
  by_cases hn : ns = []
  · subst hn
    have hk : (Conv.bytesToString (.slice A ([] : List Int).length c)).run P w = .ok (bst (u8s [])) w := by
      cases A with
      | none => simp [Conv.bytesToString]; rfl
      | some a =>
        have := run_bytesToString (P := P) w a 0 c [] (by simp [loadCells, loadCellsFrom])
        rw [fp] at this
        exact this
    simp only [execOp, hρ _ _ hx, Sem.run_bind, hcv, hk, Result.andThen_ok, Sem.run_pure]
  · obtain ⟨a, rfl, _, hcell⟩ := hA (by have := List.length_pos_iff.2 hn; omega)
    have hk := run_bytesToString (P := P) w a ns.length c ns (by
      have := run_loadCells_list (P := P) w a (ns.map (Value.int .u8)) (fun j v hj => hcell j v (by rw [fm]; exact hj))
      simpa using this)
    rw [fp] at hk
    simp only [execOp, hρ _ _ hx, Sem.run_bind, hcv, hk, Result.andThen_ok, Sem.run_pure]
    rfl
end
end Go.KLib

namespace Go.KLib
open Go.Sort Go.RowKit Go.Shelf Go.Proofs
def OnB (N : List (List Int)) (f s : Nat) : Prop := EdgeA N f s
noncomputable def onwL (N : List (List Int)) (f n : Nat) : List Bool := clL (OnB N f) (BackA N) n
def Cyc (N : List (List Int)) (s : Nat) : Prop := Cl (OnB N s) (BackA N) s
noncomputable def ifR (S : Int) (A : List Bool) (N : List (List Int)) : Bool := tt (ValidA S A N ∧ ∀ s ∈ usfR S A N, ¬ Cyc N s.toNat)
section
variable {B : Nat → Prop} {S : Int} {N : List (List Int)} {n j s k f : Nat} {l : List Bool} {r : List Int} {y : Int}
def FUpB (B : Nat → Prop) (N : List (List Int)) (j : Nat) (l : List Bool) (s : Nat) : Prop := ∀ q t, q < s → EdgeA N q t → ClN B (BackA N) j q → l[t]? = some true
def FRowB (B : Nat → Prop) (N : List (List Int)) (j : Nat) (l : List Bool) (s k : Nat) : Prop := ∀ (i t : Nat) (r : List Int), i < k → N[s]? = some r → r[i]? = some (t : Int) → ClN B (BackA N) j s → l[t]? = some true
def On1 (N : List (List Int)) (f : Nat) (l : List Bool) (k : Nat) : Prop := ∀ (i t : Nat) (r : List Int), i < k → N[f]? = some r → r[i]? = some (t : Int) → l[t]? = some true
end
section
variable {S : Int} {A : List Bool} {N : List (List Int)} {us : List Int} {i : Nat} {y : Int}
def NoC (N : List (List Int)) (l : List Int) (k : Nat) : Prop := ∀ x ∈ l.take k, ¬ Cyc N x.toNat
def stk (N : List (List Int)) (us : List Int) (s : Int) : Bool := !(N.getD s.toNat []).any fun t => decide (t ∈ us)
structure Lft (S : Int) (A : List Bool) (N : List (List Int)) (us : List Int) : Prop where
  sub : ∀ x ∈ us, x ∈ usfR S A N
  gone : ∀ x ∈ usfR S A N, x ∉ us → ¬ Cyc N x.toNat
end
end Go.KLib

namespace Go.KLib
def Cu (w : World) (b : Nat) : Prop := ∃ (v : Value) (xs : List Int) (t : TypeId) (i h : Int), Blk w b t [v, .int .i64 i, .int .i64 h] ∧ Ls ucs 1 w 0 b v xs ∧ 0 ≤ i ∧ i ≤ xs.length
theorem Cu.lt {w : World} {b : Nat} (h : Cu w b) : b < w.heap.size := by obtain ⟨_, _, _, _, _, h, _⟩ := h; exact h.lt
theorem Cu.ch {w w' : World} {b : Nat} {ws : List Nat} (h : Cu w b) (c : Ch ws w w') (hw : ∀ i ∈ ws, b < i) : Cu w' b := by
  obtain ⟨v, xs, t, i, k, h1, h2, h3⟩ := h
  exact ⟨v, xs, t, i, k, h1.ch c (fun hm => by have := hw _ hm; omega), Sl.ch h2 c (fun j hj => .inr (by have := hw _ hj; omega)), h3⟩
theorem Cu.ch0 {w w' : World} {b : Nat} (h : Cu w b) (c : Ch [] w w') : Cu w' b := h.ch c (fun _ hm => by cases hm)
theorem iand_le (x : Int) (m : Nat) (hm : m < 9223372036854775808) : 0 ≤ iand x m ∧ iand x m ≤ m := by
  unfold iand
  have h : (BitVec.ofInt IntKind.i64.bits x &&& BitVec.ofInt IntKind.i64.bits (m : Int)).toNat ≤ m := by
    rw [BitVec.toNat_and]
    refine Nat.le_trans Nat.and_le_right ?_
    rw [BitVec.toNat_ofInt]
    show ((m : Int) % (2 ^ 64 : Nat)).toNat ≤ m
    have : (m : Int) % ((2 ^ 64 : Nat) : Int) = m := Int.emod_eq_of_lt (by omega) (by omega)
    rw [this]; simp
  rw [IntWalk.i64_in _ (by omega)]
  omega
theorem iand255 (x : Int) : 0 ≤ iand x 255 ∧ iand x 255 ≤ 255 := iand_le x 255 (by decide)
theorem tmod_rng {x n : Int} (h : 0 ≤ x) (hn : 0 < n) : 0 ≤ x.tmod n ∧ x.tmod n < n := ⟨Int.tmod_nonneg _ h, Int.tmod_lt_of_pos _ hn⟩
def letS : List (List UInt8) := [[97], [97, 45], [98], [98, 45], [99], [99, 45], [48], [49], [50]]
def fmtL (n : Int) : List UInt8 := if 0 ≤ n ∧ n ≤ 8 then letS.getD n.toNat [] else []
theorem fmtL_y {n : Int} {y : List UInt8} (h : 0 ≤ n ∧ n ≤ 8) (hy : letS[n.toNat]? = some y) : y = fmtL n := by unfold fmtL; rw [if_pos h, getD_of hy]
theorem fmtL_n {n : Int} (h : ¬ (0 ≤ n ∧ n ≤ 8)) : [] = fmtL n := by unfold fmtL; rw [if_neg h]
def ltrI (s : List UInt8) (k : Nat) : Option Nat := (List.range k).find? fun i => decide (letS.getD i [] = s)
def plR (s : List UInt8) : Int × Bool := match ltrI s 9 with | some i => ((i : Int), true) | none => (0, false)
theorem ltrI_zero {s : List UInt8} : ltrI s 0 = none := rfl
theorem ltrI_n {s : List UInt8} {k : Nat} (h : ltrI s k = none) (hk : k < 9) (hn : ¬ fmtL k = s) : ltrI s (k + 1) = none := by
  unfold ltrI at *
  rw [List.range_succ, List.find?_append, h]
  unfold fmtL at hn
  rw [if_pos (by omega), Int.toNat_natCast, List.getD_eq_getElem?_getD] at hn
  simp [hn]
theorem find_more {p : Nat → Bool} {k i : Nat} (h : (List.range k).find? p = none) (hp : p k = true) (hi : k < i) : (List.range i).find? p = some k := by
  have e : List.range i = List.range k ++ (k :: (List.range' (k + 1) (i - (k + 1)))) := by
    rw [List.range_eq_range', List.range_eq_range', show k :: List.range' (k + 1) (i - (k + 1)) = List.range' k (i - k) from by
      rw [show i - k = (i - (k + 1)) + 1 by omega, List.range'_succ]]
    have := List.range'_append (s := 0) (m := k) (n := i - k) (step := 1)
    rw [Nat.one_mul, Nat.zero_add, show k + (i - k) = i by omega] at this
    exact this.symm
  rw [e, List.find?_append, h, List.find?_cons]
  simp [hp]
theorem plR_y {s : List UInt8} {k : Nat} (h : ltrI s k = none) (hk : k < 9) (hy : fmtL k = s) : ((k : Int), true) = plR s := by
  unfold fmtL at hy
  rw [if_pos (by omega), Int.toNat_natCast, List.getD_eq_getElem?_getD] at hy
  have : ltrI s 9 = some k := find_more h (by simp [hy]) hk
  unfold plR; rw [this]
theorem plR_n {s : List UInt8} {k : Nat} (h : ltrI s k = none) (hk : ¬ (k : Int) < 9) (hk2 : k ≤ 9) : ((0 : Int), false) = plR s := by
  obtain rfl : k = 9 := by omega
  unfold plR; rw [h]
def cutR : List UInt8 → Int → List UInt8 → List (List UInt8)
  | [], _, cur => [cur]
  | c :: s, sep, cur => if (c.toNat : Int) = sep then cur :: cutR s sep [] else cutR s sep (cur ++ [c])
theorem cutR_len : ∀ (s : List UInt8) (sep : Int) (cur : List UInt8), (cutR s sep cur).length ≤ s.length + 1
  | [], _, _ => by simp [cutR]
  | c :: s, sep, cur => by
    unfold cutR; split
    · have := cutR_len s sep []; simp; omega
    · have := cutR_len s sep (cur ++ [c]); simp; omega
theorem bat_get {s : List UInt8} {i : Nat} (h : i < s.length) : ∃ c, s[i]? = some c ∧ bat s i = (c.toNat : Int) := ⟨s[i], List.getElem?_eq_getElem h, by unfold bat; rw [List.getD_eq_getElem?_getD, List.getElem?_eq_getElem h]; rfl⟩
theorem cut_hit {s : List UInt8} {sep : Int} {i f : Nat} {out : List (List UInt8)} (h : out ++ cutR (s.drop i) sep ((s.drop f).take (i - f)) = cutR s sep []) (hi : i < s.length) (hc : bat s i = sep) :
    (out ++ [(s.drop f).take (i - f)]) ++ cutR (s.drop (i + 1)) sep ((s.drop (i + 1)).take (i + 1 - (i + 1))) = cutR s sep [] := by
  obtain ⟨c, h1, h2⟩ := bat_get hi
  rw [← h, drop_of h1]
  show _ = out ++ (if (c.toNat : Int) = sep then _ else _)
  rw [if_pos (by omega)]
  simp
theorem cut_miss {s : List UInt8} {sep : Int} {i f : Nat} {out : List (List UInt8)} (h : out ++ cutR (s.drop i) sep ((s.drop f).take (i - f)) = cutR s sep []) (hi : i < s.length) (hf : f ≤ i) (hc : ¬ bat s i = sep) :
    out ++ cutR (s.drop (i + 1)) sep ((s.drop f).take (i + 1 - f)) = cutR s sep [] := by
  obtain ⟨c, h1, h2⟩ := bat_get hi
  rw [← h, drop_of h1]
  show _ = out ++ (if (c.toNat : Int) = sep then _ else _)
  rw [if_neg (by omega), show i + 1 - f = (i - f) + 1 by omega]
  congr 2
  rw [take_snoc (xs := s.drop f) (by rw [List.getElem?_drop, show f + (i - f) = i by omega]; exact h1)]
theorem cut_end {s : List UInt8} {sep : Int} {i f : Nat} {out : List (List UInt8)} (h : out ++ cutR (s.drop i) sep ((s.drop f).take (i - f)) = cutR s sep []) (hi : s.length ≤ i) : out ++ [s.drop f] = cutR s sep [] := by
  rw [← h, List.drop_of_length_le hi, cutR, List.take_of_length_le (by rw [List.length_drop]; omega)]
theorem cut_zero {s : List UInt8} {sep : Int} : ([] : List (List UInt8)) ++ cutR (s.drop 0) sep ((s.drop 0).take (0 - 0)) = cutR s sep [] := by simp
theorem w8_in {x : Int} (h : 0 ≤ x ∧ x ≤ 255) : w8 x = x := by
  unfold w8 IntKind.wrap
  simp [IntKind.signed, IntKind.bits]
  omega
def dgF : Nat → Nat → List UInt8
  | 0, _ => []
  | f + 1, n => if n = 0 then [] else dgF f (n / 10) ++ [UInt8.ofNat (48 + n % 10)]
theorem dgF_fuel : ∀ (f g n : Nat), n < 10 ^ f → n < 10 ^ g → dgF f n = dgF g n
  | 0, 0, _, _, _ => rfl
  | 0, g + 1, n, h, _ => by
    have : n = 0 := by simpa using h
    subst this; simp [dgF]
  | f + 1, 0, n, _, h => by
    have : n = 0 := by simpa using h
    subst this; simp [dgF]
  | f + 1, g + 1, n, h, k => by
    unfold dgF
    split
    · rfl
    · rw [dgF_fuel f g (n / 10) (by rw [Nat.pow_succ] at h; omega) (by rw [Nat.pow_succ] at k; omega)]
theorem dgF_len : ∀ f n, (dgF f n).length ≤ f
  | 0, _ => by simp [dgF]
  | f + 1, n => by
    unfold dgF; split
    · simp
    · have := dgF_len f (n / 10); simp; omega
def fmtI (n : Int) : List UInt8 := if n = 0 then [48] else if n < 0 then 45 :: dgF 20 n.natAbs else dgF 20 n.natAbs
theorem fmtI_len (n : Int) : (fmtI n).length ≤ 21 := by
  have := dgF_len 20 n.natAbs
  unfold fmtI; split
  · simp
  · split
    · simp; omega
    · omega
theorem dg_step {m : Int} {d : Int} {out : List UInt8} {n : Int} (h : dgF 20 m.natAbs ++ out = dgF 20 n.natAbs) (hm : ¬ m = 0) (hb : -9223372036854775808 ≤ m ∧ m ≤ 9223372036854775807) (hd : d = m.tmod 10 ∨ d = -(m.tmod 10)) (h0 : 0 ≤ d) :
    dgF 20 (m.tdiv 10).natAbs ++ (u8s [w8 (48 + d)] ++ out) = dgF 20 n.natAbs := by
  have e1 : (m.tdiv 10).natAbs = m.natAbs / 10 := Int.natAbs_tdiv m 10
  have e2 : (m.tmod 10).natAbs = m.natAbs % 10 := Int.natAbs_tmod m 10
  have hd2 : d.toNat = m.natAbs % 10 := by rcases hd with e | e <;> omega
  have hd3 : d ≤ 9 := by omega
  rw [← h, e1]
  have e3 : dgF 20 m.natAbs = dgF 19 (m.natAbs / 10) ++ [UInt8.ofNat (48 + m.natAbs % 10)] := by
    rw [dgF, if_neg (by omega)]
  rw [e3, dgF_fuel 19 20 (m.natAbs / 10) (by omega) (by omega), List.append_assoc]
  congr 1
  show [UInt8.ofNat (w8 (48 + d)).toNat] ++ out = _
  rw [w8_in (by omega), show (48 + d).toNat = 48 + m.natAbs % 10 by omega]
theorem dg_end {out : List UInt8} {n : Int} {m : Int} (h : dgF 20 m.natAbs ++ out = dgF 20 n.natAbs) (hm : m = 0) : out = dgF 20 n.natAbs := by
  subst hm; simpa [dgF] using h
theorem fmtI_0 {n : Int} (h : n = 0) : [48] = fmtI n := by unfold fmtI; rw [if_pos h]
theorem fmtI_neg {n : Int} {out : List UInt8} (h : n < 0) (ho : out = dgF 20 n.natAbs) : [45] ++ out = fmtI n := by unfold fmtI; rw [if_neg (by omega), if_pos h, ho]; rfl
theorem fmtI_pos {n : Int} {out : List UInt8} (h : ¬ n < 0) (h0 : ¬ n = 0) (ho : out = dgF 20 n.natAbs) : out = fmtI n := by unfold fmtI; rw [if_neg h0, if_neg h, ho]
def tokS (t : Token) : List UInt8 :=
  if t.kind = 1 then [33] else if t.kind = 2 then [40, 41] else if t.kind = 3 then fmtL t.letter else if t.kind = 4 then [46] else if t.kind = 5 then [124] else if t.kind = 6 then [42]
  else (((([123] : List UInt8) ++ fmtI t.low) ++ [44]) ++ fmtI t.high) ++ [125]
def rdK (s : List UInt8) (k : Nat) : Option Nat := (List.range k).find? fun i => decide (1 ≤ i ∧ i ≠ 3 ∧ tokS ⟨(i : Int), 0, 0, 0⟩ = s)
theorem rdK_zero {s : List UInt8} : rdK s 1 = none := by simp [rdK, List.range_succ]
theorem rdK_n {s : List UInt8} {k : Nat} (h : rdK s k = none) (hn : k = 3 ∨ ¬ tokS ⟨(k : Int), 0, 0, 0⟩ = s) : rdK s (k + 1) = none := by
  unfold rdK at *
  rw [List.range_succ, List.find?_append, h]
  rcases hn with hn | hn <;> simp [hn]
def rdT (s : List UInt8) : Token := match rdK s 7 with
  | some i => ⟨(i : Int), 0, 0, 0⟩
  | none => if (plR s).2 = true then ⟨3, (plR s).1, 0, 0⟩ else if s.length = 5 ∧ bat s 0 = 123 ∧ bat s 2 = 44 ∧ bat s 4 = 125 then ⟨7, 0, bat s 1 - 48, bat s 3 - 48⟩ else ⟨0, 0, 0, 0⟩
theorem rdT_k {s : List UInt8} {k : Nat} (h : rdK s k = none) (h1 : 1 ≤ k) (h3 : ¬ k = 3) (h6 : k ≤ 6) (hy : tokS ⟨(k : Int), 0, 0, 0⟩ = s) : ⟨(k : Int), 0, 0, 0⟩ = rdT s := by
  have : rdK s 7 = some k := find_more h (by simp [hy, h1, h3]) (by omega)
  unfold rdT; rw [this]
theorem rdK_end {s : List UInt8} {k : Nat} (h : rdK s k = none) (h6 : ¬ (k : Int) ≤ 6) (h7 : k ≤ 7) : rdK s 7 = none := by
  obtain rfl : k = 7 := by omega
  exact h
theorem rdT_l {s : List UInt8} (h : rdK s 7 = none) (hp : (plR s).2 = true) : ⟨3, (plR s).1, 0, 0⟩ = rdT s := by unfold rdT; rw [h]; simp [hp]
theorem rdT_r {s : List UInt8} (h : rdK s 7 = none) (hp : (plR s).2 = false) (hc : s.length = 5 ∧ bat s 0 = 123 ∧ bat s 2 = 44 ∧ bat s 4 = 125) : ⟨7, 0, bat s 1 - 48, bat s 3 - 48⟩ = rdT s := by unfold rdT; rw [h]; simp [hp, hc]
theorem rdT_0 {s : List UInt8} (h : rdK s 7 = none) (hp : (plR s).2 = false) (hc : ¬ (s.length = 5 ∧ bat s 0 = 123 ∧ bat s 2 = 44 ∧ bat s 4 = 125)) : ⟨0, 0, 0, 0⟩ = rdT s := by unfold rdT; rw [h]; simp only [hp]; rw [if_neg (by simp), if_neg hc]
def parS (s : List UInt8) : List Token × Bool := if ivE (((cutR s 32 []).take 25).map rdT) = true then (((cutR s 32 []).take 25).map rdT, true) else ([], false)
theorem take_stop {α : Type} {l : List α} {i : Nat} (h : l.length ≤ i ∨ 25 ≤ i) (h2 : i ≤ 25) : l.take i = l.take 25 := by
  rcases h with h | h
  · rw [List.take_of_length_le h, List.take_of_length_le (by omega)]
  · rw [show i = 25 by omega]
theorem parS_y {s : List UInt8} {ts : List Token} (ht : ts = ((cutR s 32 []).take 25).map rdT) (h : ivE ts = true) : parS s = (ts, true) := by unfold parS; rw [← ht, if_pos h]
theorem parS_n {s : List UInt8} {ts : List Token} (ht : ts = ((cutR s 32 []).take 25).map rdT) (h : ivE ts = false) : parS s = ([], false) := by unfold parS; rw [← ht, if_neg (by rw [h]; simp)]
theorem map_take_step {α β : Type} {f : α → β} {l : List α} {i : Nat} {y : α} (h : l[i]? = some y) : (l.take i).map f ++ [f y] = (l.take (i + 1)).map f := by rw [take_snoc h, List.map_append]; rfl
def knownS : List (List UInt8) := [[97], [97, 32, 98, 32, 46], [97, 32, 42], [97, 32, 98, 32, 124, 32, 42], [97, 32, 97, 45, 32, 46], [97, 32, 42, 32, 98, 32, 46], [97, 32, 98, 32, 42, 32, 46, 32, 99, 32, 46], [97, 32, 97, 32, 124, 32, 42], [97, 32, 98, 32, 46, 32, 42], [48, 32, 97, 32, 46, 32, 42], [97, 32, 49, 32, 46, 32, 98, 32, 46], [97, 32, 123, 48, 44, 50, 125], [97, 32, 98, 32, 124, 32, 123, 49, 44, 51, 125], [40, 41], [33], [97, 45, 32, 42, 32, 97, 32, 46], [97, 32, 98, 45, 32, 46, 32, 42, 32, 99, 32, 124], [97, 32, 42, 32, 97, 32, 42, 32, 46], [97, 32, 48, 32, 124, 32, 42, 32, 98, 32, 46], [97, 32, 97, 32, 46, 32, 42], [97, 32, 98, 32, 46, 32, 98, 32, 97, 32, 46, 32, 124, 32, 42]]
theorem known_ok : ∀ x ∈ knownS, 1 ≤ (parS x).1.length ∧ (parS x).1.length ≤ 24 := by decide +kernel
end Go.KLib

namespace Go.KLib
section
variable {P : Program} {w : World} {l : KL} {dst : Option Tmp} {ty : TypeId} {pos : String} {aft : Array Go.Edge} {gd : Option (Nat × Bool)} {x y : Operand} {xt yt : TypeId} {a b : Int} {k : IntKind}
theorem r_neg {t : TypeId} (h : -9223372036854775808 ≤ -a ∧ -a ≤ 9223372036854775807) (hx : ev l x = some (.int .i64 a)) : Runs P l ⟨dst, .unOp .neg t x, ty, pos, aft, gd⟩ w (.int .i64 (-a)) w := fun ρ hρ => by
  have e : IntKind.i64.wrap (-a) = -a := IntWalk.i64_in _ h
  simp [execOp, hρ _ _ hx, Op.unary, Op.intArith, e]
theorem r_quo (hb : ¬ b = 0) (h : -9223372036854775808 ≤ a.tdiv b ∧ a.tdiv b ≤ 9223372036854775807) (hx : ev l x = some (.int .i64 a)) (hy : ev l y = some (.int .i64 b)) :
    Runs P l ⟨dst, .binOp .quo xt x y yt, ty, pos, aft, gd⟩ w (.int .i64 (a.tdiv b)) w := fun ρ hρ => by
  have e := IntWalk.i64_in _ h
  simp [execOp, hρ _ _ hx, hρ _ _ hy, eqGuard, binOp, Op.intDiv, hb, e]
end
theorem td10 {m : Int} (h : -9223372036854775808 ≤ m ∧ m ≤ 9223372036854775807) : -9223372036854775808 ≤ m.tdiv 10 ∧ m.tdiv 10 ≤ 9223372036854775807 := by
  have e1 : (m.tdiv 10).natAbs = m.natAbs / 10 := Int.natAbs_tdiv m 10
  omega
theorem td_lt {m : Int} (h : ¬ m = 0) : (m.tdiv 10).natAbs < m.natAbs := by
  have e1 : (m.tdiv 10).natAbs = m.natAbs / 10 := Int.natAbs_tdiv m 10
  omega
theorem tm10 (m : Int) : -9 ≤ m.tmod 10 ∧ m.tmod 10 ≤ 9 := by
  have e2 : (m.tmod 10).natAbs = m.natAbs % 10 := Int.natAbs_tmod m 10
  omega
theorem known_len : ∀ x ∈ knownS, x.length ≤ 20 := by decide
theorem mk_leaf {t : Token} {d : Int} (h : d = 0) : 1 ≤ [t].length ∧ [t].length + 1 ≤ 2 ^ (d.toNat + 1) := by subst h; simp
theorem mk_pow {d d1 : Int} (hd : d1 = d - 1) (h0 : 0 ≤ d1) : 2 ^ (d.toNat + 1) = 2 * 2 ^ (d1.toNat + 1) := by
  rw [show d.toNat + 1 = (d1.toNat + 1) + 1 by omega, Nat.pow_succ, Nat.mul_comm]
theorem mk_two {a b : List Token} {t : Token} {d d1 : Int} (ha : 1 ≤ a.length ∧ a.length + 1 ≤ 2 ^ (d1.toNat + 1)) (hb : 1 ≤ b.length ∧ b.length + 1 ≤ 2 ^ (d1.toNat + 1)) (hd : d1 = d - 1) (h0 : 0 ≤ d1) : 1 ≤ (a ++ b ++ [t]).length ∧ (a ++ b ++ [t]).length + 1 ≤ 2 ^ (d.toNat + 1) := by
  rw [mk_pow hd h0]; simp only [List.length_append, List.length_singleton]; omega
theorem mk_one {a : List Token} {t : Token} {d d1 : Int} (ha : 1 ≤ a.length ∧ a.length + 1 ≤ 2 ^ (d1.toNat + 1)) (hd : d1 = d - 1) (h0 : 0 ≤ d1) : 1 ≤ (a ++ [] ++ [t]).length ∧ (a ++ [] ++ [t]).length + 1 ≤ 2 ^ (d.toNat + 1) := by
  rw [mk_pow hd h0]; simp only [List.length_append, List.length_singleton, List.length_nil]; omega
theorem mk_le {n : Nat} {d : Int} (h : 1 ≤ n ∧ n + 1 ≤ 2 ^ (d.toNat + 1)) (h0 : d ≤ 3) : 1 ≤ n ∧ n ≤ 15 := by
  have : 2 ^ (d.toNat + 1) ≤ 2 ^ 4 := Nat.pow_le_pow_right (by decide) (by omega)
  omega
end Go.KLib

namespace Go.KLib
open Go.ChangeShapes Go.WideShapes Go.ChangeAt Go.RowKit Go.Deep Go.Joins
section
variable {H : Type} {enc : TypeId × Value → H} {P : Program} {w : World} {base : Nat} {spare : Nat → Bool} {held : Bool}
theorem open_U {t : TypeId} {fuel : Nat} {cs : List Value} {x : DataW H × List MemPlace} (ht : P.underlying t = some (.int .u8)) (h : DataW.trod enc P w base spare held fuel t cs = some x) : ∃ n : Int, cs = ucs n := by
  obtain ⟨n, hn, _⟩ := DataW.trod_int ht h
  exact ⟨n, hn⟩
end
end Go.KLib

namespace Go.KLib
def Pw (L : List Int → Prop) : Nat → List Int → Prop
  | 0, w => w = []
  | k + 1, w => ∃ u v, w = u ++ v ∧ Pw L k u ∧ L v
def Lg : Tr → List Int → Prop
  | .l0 t => fun w => if t.kind = 2 then w = [] else if t.kind = 3 then w = [t.letter] else False
  | .l1 t x => fun w => if t.kind = 6 then ∃ k, Pw (Lg x) k w else if t.kind = 7 then ∃ k : Nat, t.low ≤ (k : Int) ∧ (k : Int) ≤ t.high ∧ Pw (Lg x) k w else False
  | .l2 t x y => fun w => if t.kind = 4 then ∃ u v, w = u ++ v ∧ Lg x u ∧ Lg y v else if t.kind = 5 then Lg x w ∨ Lg y w else False
def seg (w : List Int) (i j : Nat) : List Int := (w.drop i).take (j - i)
section
variable {w : List Int} {i j k n : Nat} {A B : Nat → Nat → Bool} {L M : List Int → Prop}
end
section
variable {L M : List Int → Prop} {w u v : List Int} {k m : Nat}
theorem Pw.app (h : Pw L k u) : ∀ {m : Nat} {v : List Int}, Pw L m v → Pw L (k + m) (u ++ v)
  | 0, v, h2 => by rw [show v = [] from h2, List.append_nil]; exact h
  | m + 1, v, ⟨a, b, e, h2, h3⟩ => ⟨u ++ a, b, by rw [e, List.append_assoc], h.app h2, h3⟩
theorem Pw.one : Pw L 1 w ↔ L w := ⟨fun ⟨a, b, e, h, k⟩ => by rw [e, show a = [] from h]; exact k, fun h => ⟨[], w, rfl, rfl, h⟩⟩
theorem Pw.cons (h : L u) (k1 : Pw L k v) : Pw L (k + 1) (u ++ v) := by
  have := (Pw.one.2 h).app k1
  rwa [Nat.add_comm 1 k] at this
theorem Pw.nil (h : L []) : ∀ k, Pw L k []
  | 0 => rfl
  | k + 1 => ⟨[], [], rfl, Pw.nil h k, h⟩
theorem Pw.uncons : ∀ {k : Nat} {w : List Int}, Pw L (k + 1) w → ∃ u v, w = u ++ v ∧ L u ∧ Pw L k v
  | 0, w, h => ⟨w, [], by simp, Pw.one.1 h, rfl⟩
  | k + 1, w, ⟨a, b, e, h, h2⟩ => by
    obtain ⟨u, v, e2, h3, h4⟩ := Pw.uncons h
    exact ⟨u, v ++ b, by rw [e, e2, List.append_assoc], h3, v, b, rfl, h4, h2⟩
theorem Pw.mono (h : ∀ w, L w → M w) : ∀ {k : Nat} {w : List Int}, Pw L k w → Pw M k w
  | 0, _, h1 => h1
  | _ + 1, _, ⟨a, b, e, h1, h2⟩ => ⟨a, b, e, h1.mono h, h b h2⟩
theorem Pw.first {x : Int} : ∀ {k : Nat} {w : List Int}, Pw L k (x :: w) → ∃ u v m, w = u ++ v ∧ L (x :: u) ∧ Pw L m v ∧ m + 1 ≤ k ∧ (m + 1 = k ∨ L [])
  | 0, w, h => by cases h
  | k + 1, w, h => by
    obtain ⟨u, v, e, h1, h2⟩ := Pw.uncons h
    cases u with
    | nil =>
      simp only [List.nil_append] at e; subst e
      obtain ⟨u, v, m, e, a, b, c, _⟩ := Pw.first h2
      exact ⟨u, v, m, e, a, b, by omega, .inr h1⟩
    | cons y u =>
      simp only [List.cons_append, List.cons.injEq] at e
      obtain ⟨rfl, e⟩ := e
      exact ⟨u, v, k, e, h1, h2, Nat.le_refl _, .inl rfl⟩
end
def Ex (e : List Token) (L : List Int → Prop) : Prop := ∃ t, Okd t ∧ e = t.flat ∧ ∀ w, Lg t w ↔ L w
section
variable {a b : List Token} {L M N : List Int → Prop}
theorem Ex.iff (h : Ex a L) (k : ∀ w, L w ↔ M w) : Ex a M := let ⟨t, h1, h2, h3⟩ := h; ⟨t, h1, h2, fun w => (h3 w).trans (k w)⟩
theorem Ex.of {t : Tr} (h : Okd t) : Ex t.flat (Lg t) := ⟨t, h, rfl, fun _ => Iff.rfl⟩
theorem Ex.isE (h : Ex a L) : isE a = true := by
  obtain ⟨t, h1, h2, _⟩ := h
  unfold Go.KLib.isE; rw [h2, treeL_flat h1]; rfl
theorem Ex.single {t : Token} (h : Ex a L) (hl : a = [t]) : arT t = 0 ∧ ∀ w, L w ↔ Lg (.l0 t) w := by
  obtain ⟨x, h1, h2, h3⟩ := h
  rw [hl] at h2
  cases x with
  | l0 y =>
    simp only [Tr.flat, List.cons.injEq, and_true] at h2
    subst h2
    exact ⟨h1, fun w => (h3 w).symm⟩
  | l1 y q =>
    have := congrArg List.length h2
    rw [Tr.flat_len] at this
    have := q.sz_pos
    simp [Tr.sz] at *; omega
  | l2 y q r =>
    have := congrArg List.length h2
    rw [Tr.flat_len] at this
    have := q.sz_pos
    have := r.sz_pos
    simp [Tr.sz] at *; omega
theorem ex1 : Ex [⟨1, 0, 0, 0⟩] (fun _ => False) := ⟨.l0 ⟨1, 0, 0, 0⟩, by simp [Okd, arT], rfl, fun w => by simp [Lg]⟩
theorem ex2 : Ex [⟨2, 0, 0, 0⟩] (fun w => w = []) := ⟨.l0 ⟨2, 0, 0, 0⟩, by simp [Okd, arT], rfl, fun w => by simp [Lg]⟩
theorem Ex.cat (h : Ex a L) (k : Ex b M) : Ex (a ++ b ++ [⟨4, 0, 0, 0⟩]) (fun w => ∃ u v, w = u ++ v ∧ L u ∧ M v) := by
  obtain ⟨t, h1, h2, h3⟩ := h
  obtain ⟨s, k1, k2, k3⟩ := k
  refine ⟨.l2 ⟨4, 0, 0, 0⟩ t s, ⟨by simp [arT], h1, k1⟩, by rw [h2, k2]; rfl, fun w => ?_⟩
  simp only [Lg, if_true]
  exact ⟨fun ⟨u, v, e, p, q⟩ => ⟨u, v, e, (h3 u).1 p, (k3 v).1 q⟩, fun ⟨u, v, e, p, q⟩ => ⟨u, v, e, (h3 u).2 p, (k3 v).2 q⟩⟩
theorem Ex.uni (h : Ex a L) (k : Ex b M) : Ex (a ++ b ++ [⟨5, 0, 0, 0⟩]) (fun w => L w ∨ M w) := by
  obtain ⟨t, h1, h2, h3⟩ := h
  obtain ⟨s, k1, k2, k3⟩ := k
  refine ⟨.l2 ⟨5, 0, 0, 0⟩ t s, ⟨by simp [arT], h1, k1⟩, by rw [h2, k2]; rfl, fun w => ?_⟩
  simp [Lg, h3, k3]
theorem isK_t {e : List Token} {k : Int} (h : isK e k = true) : ∃ y, e = [y] ∧ y.kind = k := by
  unfold isK at h
  simp only [decide_eq_true_eq] at h
  obtain ⟨h1, h2⟩ := h
  match e, h1 with
  | [y], _ => exact ⟨y, rfl, h2⟩
theorem Ex.k1 (h : Ex a L) (hk : isK a 1 = true) : ∀ w, ¬ L w := fun w hw => by
  obtain ⟨y, rfl, hy⟩ := isK_t hk
  have := (h.single rfl).2 w
  rw [this] at hw
  simp [Lg, hy] at hw
theorem Ex.k2 (h : Ex a L) (hk : isK a 2 = true) : ∀ w, L w ↔ w = [] := fun w => by
  obtain ⟨y, rfl, hy⟩ := isK_t hk
  rw [(h.single rfl).2 w]
  simp [Lg, hy]
theorem Ex.catE (h : Ex a L) (k : Ex b M) : Ex (catE a b) (fun w => ∃ u v, w = u ++ v ∧ L u ∧ M v) := by
  unfold Go.KLib.catE
  by_cases h1 : isK a 1 = true
  · rw [h1]; exact ex1.iff fun w => ⟨False.elim, fun ⟨u, v, _, p, _⟩ => h.k1 h1 u p⟩
  by_cases h2 : isK b 1 = true
  · rw [h2, Bool.or_true]; exact ex1.iff fun w => ⟨False.elim, fun ⟨u, v, _, _, p⟩ => k.k1 h2 v p⟩
  rw [if_neg (by simp [h1, h2])]
  by_cases h3 : isK a 2 = true
  · rw [if_pos h3]
    exact k.iff fun w => ⟨fun p => ⟨[], w, rfl, (h.k2 h3 _).2 rfl, p⟩, fun ⟨u, v, e, p, q⟩ => by rw [e, (h.k2 h3 u).1 p]; exact q⟩
  rw [if_neg h3]
  by_cases h4 : isK b 2 = true
  · rw [if_pos h4]
    exact h.iff fun w => ⟨fun p => ⟨w, [], by simp, p, (k.k2 h4 _).2 rfl⟩, fun ⟨u, v, e, p, q⟩ => by rw [e, (k.k2 h4 v).1 q, List.append_nil]; exact p⟩
  rw [if_neg h4]
  exact h.cat k
theorem Ex.uniq (h : Ex a L) (k : Ex a M) : ∀ w, L w ↔ M w := fun w => by
  obtain ⟨t, h1, h2, h3⟩ := h
  obtain ⟨s, k1, k2, k3⟩ := k
  have e : t = s := by
    have p := treeL_flat h1
    have q := treeL_flat k1
    rw [← h2] at p; rw [← k2, p] at q
    injection q
  subst e
  rw [← h3, k3]
theorem Ex.uniE (h : Ex a L) (k : Ex b M) : Ex (uniE a b) (fun w => L w ∨ M w) := by
  unfold Go.KLib.uniE
  by_cases h1 : isK a 1 = true
  · rw [h1]; exact k.iff fun w => ⟨.inr, fun p => p.elim (fun q => (h.k1 h1 w q).elim) id⟩
  by_cases h2 : a = b
  · subst h2
    rw [if_pos (by simp)]
    exact k.iff fun w => ⟨.inr, fun p => p.elim (fun q => (h.uniq k w).1 q) id⟩
  rw [if_neg (by simp [h1, h2])]
  by_cases h3 : isK b 1 = true
  · rw [if_pos h3]; exact h.iff fun w => ⟨.inl, fun p => p.elim id fun q => (k.k1 h3 w q).elim⟩
  rw [if_neg h3]
  exact h.uni k
theorem Ex.star (h : Ex a L) : Ex (a ++ [⟨6, 0, 0, 0⟩]) (fun w => ∃ k, Pw L k w) := by
  obtain ⟨t, h1, h2, h3⟩ := h
  refine ⟨.l1 ⟨6, 0, 0, 0⟩ t, ⟨by simp [arT], h1⟩, by rw [h2]; rfl, fun w => ?_⟩
  simp only [Lg, if_true]
  exact ⟨fun ⟨k, p⟩ => ⟨k, p.mono fun w => (h3 w).1⟩, fun ⟨k, p⟩ => ⟨k, p.mono fun w => (h3 w).2⟩⟩
theorem Ex.starE (h : Ex a L) : Ex (starE a) (fun w => ∃ k, Pw L k w) := by
  unfold Go.KLib.starE
  by_cases h1 : isK a 1 = true
  · rw [h1]
    refine ex2.iff fun w => ⟨fun e => ⟨0, e⟩, fun ⟨k, p⟩ => ?_⟩
    cases k with
    | zero => exact p
    | succ k => obtain ⟨u, v, _, _, q⟩ := p; exact (h.k1 h1 v q).elim
  by_cases h2 : isK a 2 = true
  · rw [h2, Bool.or_true]
    refine ex2.iff fun w => ⟨fun e => ⟨0, e⟩, fun ⟨k, p⟩ => ?_⟩
    have : ∀ (k : Nat) (w : List Int), Pw L k w → w = [] := fun k => by
      induction k with
      | zero => exact fun w p => p
      | succ k ih => rintro w ⟨u, v, e, p, q⟩; rw [e, ih u p, (h.k2 h2 v).1 q]; rfl
    exact this k w p
  rw [if_neg (by simp [h1, h2])]
  split
  · rename_i hs
    obtain ⟨t, o1, o2, o3⟩ := id h
    obtain ⟨x, c, rfl⟩ : ∃ x c, t = .l1 x c := by
      have hl : (a.getD (a.length - 1) ⟨0, 0, 0, 0⟩) = t.tok := by
        rw [o2]
        cases t <;> simp [Tr.flat, Tr.tok, List.getD_eq_getElem?_getD]
      have hk : t.tok.kind = 6 := by rw [← hl]; exact hs.2
      obtain ⟨x, c, e⟩ := o1.one (.inl hk)
      exact ⟨x, c, e⟩
    have hk : x.kind = 6 := by
      have hl : (a.getD (a.length - 1) ⟨0, 0, 0, 0⟩) = x := by rw [o2]; simp [Tr.flat, List.getD_eq_getElem?_getD]
      rw [← hl]; exact hs.2
    have hL : ∀ w, L w ↔ ∃ k, Pw (Lg c) k w := fun w => by rw [← o3]; simp only [Lg, if_pos hk]
    refine h.iff fun w => ⟨fun p => ⟨1, Pw.one.2 p⟩, fun ⟨k, p⟩ => ?_⟩
    have : ∀ (k : Nat) (w : List Int), Pw L k w → L w := fun k => by
      induction k with
      | zero => rintro w rfl; exact (hL _).2 ⟨0, rfl⟩
      | succ k ih =>
        rintro w ⟨u, v, e, p, q⟩
        obtain ⟨m1, p1⟩ := (hL u).1 (ih u p)
        obtain ⟨m2, p2⟩ := (hL v).1 q
        rw [e]; exact (hL _).2 ⟨m1 + m2, p1.app p2⟩
    exact this k w p
  · exact h.star
theorem Ex.repE {low high : Int} (h : Ex a L) (h1 : 0 ≤ low ∧ low ≤ high ∧ high ≤ 3) : Ex (repE a low high) (fun w => ∃ k : Nat, low ≤ (k : Int) ∧ (k : Int) ≤ high ∧ Pw L k w) := by
  unfold Go.KLib.repE
  split
  · rename_i e
    refine ex2.iff fun w => ⟨fun e => ⟨0, by omega, by omega, e⟩, fun ⟨k, _, h2, p⟩ => ?_⟩
    have : k = 0 := by omega
    subst this; exact p
  · split
    · rename_i e
      refine h.iff fun w => ⟨fun p => ⟨1, by omega, by omega, Pw.one.2 p⟩, fun ⟨k, _, h2, p⟩ => ?_⟩
      have : k = 1 := by omega
      subst this; exact Pw.one.1 p
    · rename_i e1 e2
      obtain ⟨t, o1, o2, o3⟩ := h
      refine ⟨.l1 ⟨7, 0, low, high⟩ t, ⟨?_, o1⟩, by rw [o2]; rfl, fun w => ?_⟩
      · unfold arT; simp; omega
      · simp only [Lg, show ¬ ((7 : Int) = 6) by omega, if_false, if_true]
        exact ⟨fun ⟨k, a, b, p⟩ => ⟨k, a, b, p.mono fun w => (o3 w).1⟩, fun ⟨k, a, b, p⟩ => ⟨k, a, b, p.mono fun w => (o3 w).2⟩⟩
end
section
variable {e a b : List Token} {L M : List Int → Prop} {w : List Int}
end
end Go.KLib

namespace Go.KLib
def lexI : List Int → List Int → Int
  | [], [] => 0
  | [], _ :: _ => -1
  | _ :: _, [] => 1
  | x :: a, y :: b => if x < y then -1 else if y < x then 1 else lexI a b
def cmpWd (a b : List Int) : Int := if a.length < b.length then -1 else if b.length < a.length then 1 else lexI a b
theorem lexI_step {a b : List Int} {i : Nat} {x y : Int} (ha : a[i]? = some x) (hb : b[i]? = some y) (h1 : ¬ x < y) (h2 : ¬ y < x) (h : lexI (a.drop i) (b.drop i) = lexI a b) : lexI (a.drop (i + 1)) (b.drop (i + 1)) = lexI a b := by
  rw [drop_of ha, drop_of hb] at h
  rw [← h, lexI, if_neg h1, if_neg h2]
theorem lexI_lt {a b : List Int} {i : Nat} {x y : Int} (ha : a[i]? = some x) (hb : b[i]? = some y) (h1 : x < y) (h : lexI (a.drop i) (b.drop i) = lexI a b) : -1 = lexI a b := by
  rw [drop_of ha, drop_of hb] at h
  rw [← h, lexI, if_pos h1]
theorem lexI_gt {a b : List Int} {i : Nat} {x y : Int} (ha : a[i]? = some x) (hb : b[i]? = some y) (h1 : y < x) (h : lexI (a.drop i) (b.drop i) = lexI a b) : 1 = lexI a b := by
  rw [drop_of ha, drop_of hb] at h
  rw [← h, lexI, if_neg (by omega), if_pos h1]
theorem lexI_end {a b : List Int} {i : Nat} (hi : a.length ≤ i ∨ b.length ≤ i) (hk : i ≤ a.length ∧ i ≤ b.length) (h : lexI (a.drop i) (b.drop i) = lexI a b) : (if a.length < b.length then -1 else if b.length < a.length then 1 else 0 : Int) = lexI a b := by
  rw [← h]
  by_cases h1 : a.length ≤ i
  · rw [List.drop_of_length_le h1]
    cases hb : b.drop i with
    | nil => have := congrArg List.length hb; simp at this; rw [if_neg (by omega), if_neg (by omega)]; rfl
    | cons y l => have := congrArg List.length hb; simp at this; rw [if_pos (by omega)]; rfl
  · rw [List.drop_of_length_le (l := b) (by omega)]
    cases ha : a.drop i with
    | nil => have := congrArg List.length ha; simp at this; omega
    | cons y l => have := congrArg List.length ha; simp at this; rw [if_neg (by omega), if_pos (by omega)]; rfl
theorem val_fold : ∀ (w : List Int) (a : Nat), w.foldl (fun a c => 9 * a + c.toNat + 1) a = a * 9 ^ w.length + val w
  | [], a => by simp [val]
  | c :: w, a => by
    have h1 := val_fold w (9 * a + c.toNat + 1)
    have h2 := val_fold w (9 * 0 + c.toNat + 1)
    have h3 : val (c :: w) = w.foldl (fun a c => 9 * a + c.toNat + 1) (9 * 0 + c.toNat + 1) := rfl
    rw [List.foldl_cons, h1, h3, h2, List.length_cons, Nat.pow_succ]
    simp only [Nat.add_mul, Nat.mul_zero, Nat.zero_add]
    have : 9 * a * 9 ^ w.length = a * (9 ^ w.length * 9) := by rw [Nat.mul_comm 9 a, Nat.mul_assoc, Nat.mul_comm 9]
    omega
theorem val_cons (c : Int) (w : List Int) : val (c :: w) = (c.toNat + 1) * 9 ^ w.length + val w := by
  have h3 : val (c :: w) = w.foldl (fun a c => 9 * a + c.toNat + 1) (9 * 0 + c.toNat + 1) := rfl
  rw [h3, val_fold]; simp
theorem rep9_pow : ∀ n, 8 * rep9 n + 1 = 9 ^ n
  | 0 => rfl
  | n + 1 => by have := rep9_pow n; rw [Nat.pow_succ, rep9]; omega
theorem lex_val : ∀ {a b : List Int}, okW a → okW b → a.length = b.length → val a < val b → lexI a b = -1
  | [], [], _, _, _, h => by simp at h
  | [], _ :: _, _, _, h, _ => by simp at h
  | _ :: _, [], _, _, h, _ => by simp at h
  | x :: a, y :: b, ha, hb, hl, h => by
    have hl' : a.length = b.length := by simpa using hl
    have ha' : okW a := fun c hc => ha c (List.mem_cons_of_mem _ hc)
    have hb' : okW b := fun c hc => hb c (List.mem_cons_of_mem _ hc)
    have hx := ha x (by simp)
    have hy := hb y (by simp)
    rw [val_cons, val_cons, hl'] at h
    have va := val_len ha'
    have vb := val_len hb'
    rw [hl'] at va
    have hp := rep9_pow b.length
    unfold lexI
    by_cases h1 : x < y
    · rw [if_pos h1]
    · by_cases h2 : y < x
      · exfalso
        have h3 : (y.toNat + 1) + 1 ≤ x.toNat + 1 := by omega
        have h4 := Nat.mul_le_mul_right (9 ^ b.length) h3
        rw [Nat.add_mul (y.toNat + 1) 1, Nat.one_mul] at h4
        omega
      · rw [if_neg h1, if_neg h2]
        have : x = y := by omega
        subst this
        exact lex_val ha' hb' hl' (by omega)
theorem cmp_val {a b : List Int} (ha : okW a) (hb : okW b) (h : val a < val b) : cmpWd a b < 0 := by
  have hl := len_of_val ha hb (Nat.le_of_lt h)
  unfold cmpWd
  by_cases h1 : a.length < b.length
  · rw [if_pos h1]; omega
  · rw [if_neg h1, if_neg (by omega), lex_val ha hb (by omega) h]; omega
theorem R9_ok {c : Int} (h : c ∈ R9) : 0 ≤ c ∧ c ≤ 8 := by
  unfold R9 at h
  obtain ⟨i, hi, rfl⟩ := List.mem_map.1 h
  have := List.mem_range.1 hi
  omega
theorem wd_ok : ∀ {k : Nat} {w : List Int}, w ∈ wdL R9 k → okW w
  | 0, w, h => by rw [List.mem_singleton.1 h]; exact okW_nil
  | k + 1, w, h => by
    obtain ⟨u, hu, hw⟩ := List.mem_flatMap.1 h
    obtain ⟨c, hc, rfl⟩ := List.mem_map.1 hw
    exact okW_snoc.2 ⟨wd_ok hu, R9_ok hc⟩
theorem wdl_all : ∀ (w : List Int), okW w → w ∈ wdL R9 w.length := fun w => by
  induction w using snoc_ind with
  | h0 => intro _; exact List.mem_singleton.2 rfl
  | h1 u c ih =>
    intro h
    obtain ⟨h1, h2⟩ := okW_snoc.1 h
    rw [List.length_append, List.length_singleton]
    refine List.mem_flatMap.2 ⟨u, ih h1, List.mem_map.2 ⟨c, ?_, rfl⟩⟩
    unfold R9
    exact List.mem_map.2 ⟨c.toNat, List.mem_range.2 (by omega), by omega⟩
theorem wd_srt : ∀ k, (wdL R9 k).Pairwise fun a b => val a < val b
  | 0 => List.pairwise_singleton _ _
  | k + 1 => by
    refine List.pairwise_flatMap.2 ⟨fun w _ => ?_, (wd_srt k).imp fun {a b} hab => ?_⟩
    · refine List.pairwise_map.2 ?_
      have : R9.Pairwise fun c d => c.toNat < d.toNat := by decide
      exact this.imp fun {c d} h => by rw [val_snoc, val_snoc]; omega
    · intro x hx y hy
      obtain ⟨c, hc, rfl⟩ := List.mem_map.1 hx
      obtain ⟨d, hd, rfl⟩ := List.mem_map.1 hy
      have := R9_ok hc
      rw [val_snoc, val_snoc]; omega
theorem wu_srt {t : Tr} {m : Nat} : (wuT R9 t m).Pairwise fun a b => val a < val b := by
  refine List.pairwise_flatMap.2 ⟨fun k _ => (wd_srt k).filter _, ?_⟩
  refine List.pairwise_lt_range.imp fun {i j} hij => ?_
  intro x hx y hy
  have h1 := (List.mem_filter.1 hx).1
  have h2 := (List.mem_filter.1 hy).1
  refine Nat.lt_of_not_le fun q => ?_
  have := len_of_val (wd_ok h2) (wd_ok h1) q
  rw [wdL_len h1, wdL_len h2] at this; omega
section
variable {e : List Token} {n : Int} {w u : List Int} {i : Nat}
theorem wu_mem (h : w ∈ wuR e n) : (w.length : Int) ≤ n ∧ okW w ∧ mwE e w = true := by
  unfold wuR at h
  split at h
  · rename_i hc
    obtain ⟨t, ht, _⟩ := ivE_y hc.1
    rw [ht] at h
    obtain ⟨k, hk, hw⟩ := List.mem_flatMap.1 h
    obtain ⟨h1, h2⟩ := List.mem_filter.1 hw
    have hl := wdL_len h1
    have hk' := List.mem_range.1 hk
    have ok := wd_ok h1
    refine ⟨by omega, ok, ?_⟩
    have hd : IsWd w := ⟨fun j x hj hx => ok x (List.mem_of_getElem? hx), by omega⟩
    rw [mwE_y hc.1 hd ht]; exact h2
  · cases h
theorem wu_adj {x y : List Int} (hx : (wuR e n)[i - 1]? = some x) (hy : (wuR e n)[i]? = some y) (hi : 0 < i) : cmpWd x y < 0 := by
  refine cmp_val (wu_mem (List.mem_of_getElem? hx)).2.1 (wu_mem (List.mem_of_getElem? hy)).2.1 ?_
  unfold wuR at hx hy
  split at hx
  · rename_i hc
    obtain ⟨t, ht, _⟩ := ivE_y hc.1
    rw [if_pos hc, ht] at hy
    rw [ht] at hx
    obtain ⟨b1, e1⟩ := List.getElem?_eq_some_iff.1 hx
    obtain ⟨b2, e2⟩ := List.getElem?_eq_some_iff.1 hy
    have := List.pairwise_iff_getElem.1 (wu_srt (t := t) (m := (n + 1).toNat)) (i - 1) i b1 b2 (by omega)
    rw [e1, e2] at this; exact this
  · simp at hx
theorem wu_has (hl : (w.length : Int) ≤ n) (hn : n ≤ 3) (h : mwE e w = true) : w ∈ wuR e n := by
  unfold mwE at h
  simp only [Bool.and_eq_true] at h
  obtain ⟨⟨h1, h2⟩, h3⟩ := h
  obtain ⟨t, ht, _⟩ := ivE_y h1
  have hw := tt_iff.1 h2
  unfold wuR
  rw [if_pos ⟨h1, by omega, hn⟩, ht]
  rw [ht] at h3
  have ok : okW w := fun c hc => by
    obtain ⟨j, hj⟩ := List.getElem?_of_mem hc
    exact wd_val hw hj
  exact List.mem_flatMap.2 ⟨w.length, List.mem_range.2 (by omega), List.mem_filter.2 ⟨wdl_all w ok, h3⟩⟩
end
end Go.KLib

namespace Go.KLib
def Rn (E : Nat → Nat → Prop) (La : Nat → Int → Prop) : Nat → List Int → Nat → Prop
  | p, [], q => p = q
  | p, c :: w, q => ∃ r, E p r ∧ La r c ∧ Rn E La r w q
def Ac (E : Nat → Nat → Prop) (La : Nat → Int → Prop) (f l : Nat → Prop) (n : Prop) : List Int → Prop
  | [] => n
  | c :: w => ∃ p q, f p ∧ La p c ∧ Rn E La p w q ∧ l q
section
variable {E E' Ex Ey : Nat → Nat → Prop} {La : Nat → Int → Prop} {f l fx lx fy ly sx : Nat → Prop} {n nx ny : Prop} {p q r : Nat} {u v w : List Int}
theorem Rn.app : ∀ {u : List Int} {p : Nat}, Rn E La p u q → Rn E La q v r → Rn E La p (u ++ v) r
  | [], p, h, k => by rw [show p = q from h]; exact k
  | c :: u, p, ⟨s, a, b, h⟩, k => ⟨s, a, b, h.app k⟩
theorem Rn.mono (h : ∀ p q, E p q → E' p q) : ∀ {w : List Int} {p : Nat}, Rn E La p w q → Rn E' La p w q
  | [], _, e => e
  | _ :: _, _, ⟨s, a, b, k⟩ => ⟨s, h _ _ a, b, k.mono h⟩
end
end Go.KLib

namespace Go.KLib
def bt (m : Int) (p : Nat) : Prop := m.toNat.testBit p = true
instance {m : Int} {p : Nat} : Decidable (bt m p) := inferInstanceAs (Decidable (_ = true))
def okm (m : Int) (n : Nat) : Prop := 0 ≤ m ∧ m.toNat < 2 ^ n
section
variable {a b m l f : Int} {n k p q s : Nat} {F L : List Int}
theorem okm.up (h : okm m n) (hn : n ≤ k) : okm m k := ⟨h.1, Nat.lt_of_lt_of_le h.2 (Nat.pow_le_pow_right (by decide) hn)⟩
end
def NoR : Tr → Prop
  | .l0 _ => True
  | .l1 t x => ¬ t.kind = 7 ∧ NoR x
  | .l2 _ x y => NoR x ∧ NoR y
def Ed (F : List Int) (m : Nat) (p q : Nat) : Prop := m ≤ p ∧ bt (F.getD p 0) q
structure Gk (L : List Int) (F : List Int) (t : Tr) (r : BPd) : Prop where
  X : ∃ X, r.L = L ++ X
  len : r.F.length = r.L.length
  old : ∀ p, p < L.length → r.F.getD p 0 = F.getD p 0
  f1 : okm r.f r.L.length
  f2 : ∀ p, bt r.f p → L.length ≤ p
  l1 : okm r.l r.L.length
  l2 : ∀ p, bt r.l p → L.length ≤ p
  F1 : ∀ p, L.length ≤ p → okm (r.F.getD p 0) r.L.length
  F2 : ∀ p q, L.length ≤ p → bt (r.F.getD p 0) q → L.length ≤ q
  ac : ∀ La : Nat → Int → Prop, (∀ p c, L.length ≤ p → p < r.L.length → (La p c ↔ r.L[p]? = some c)) → ∀ w, Ac (Ed r.F L.length) La (bt r.f) (bt r.l) (r.n = true) w ↔ Lg t w
end Go.KLib

namespace Go.KLib
theorem alph_R9 {e : List Token} (h : isE e = true) : alphR e = R9.filter (fun c => (letM e e.length).testBit c.toNat) := by
  have hlt := letm_lt (isE_letOk h) e.length
  unfold alphR
  rw [h]
  show bitsL (letM e e.length) 30 = _
  have h0 : letM e e.length >>> 9 = 0 := by rw [Nat.shiftRight_eq_div_pow]; exact Nat.div_eq_of_lt (by omega)
  have := bitsL_end h0 21
  rw [show 9 + 21 = 30 by rfl] at this
  rw [this]
  unfold bitsL R9
  rw [List.filter_map]
  congr 1
theorem wu_same (e : List Token) (n : Int) : wuS e n = wuR e n := by
  by_cases hc : ivE e = true ∧ 0 ≤ n ∧ n ≤ 3
  · obtain ⟨t, ht, ok, hf, _⟩ := ivE_y hc.1
    have hi : isE e = true := by unfold isE; rw [ht]; rfl
    rw [← wuS_y hc.1 hc.2 ht rfl, ← wuR_y hc.1 hc.2 ht rfl]
    unfold wuT
    congr 1
    funext k
    rw [alph_R9 hi]
    refine words_same _ _ k fun w hw => mt_all (t := t) (fun c hcl => ?_) hw
    obtain ⟨y, hy, hk, hl⟩ := letT_flat t c hcl
    rw [← hf] at hy
    have ho := isE_letOk hi y hy hk
    have hm : ((c.toNat : Nat) : Int) ∈ letL e e.length := by
      unfold letL
      rw [List.take_length]
      exact List.mem_map.2 ⟨y, List.mem_filter.2 ⟨hy, by simp [hk]⟩, by omega⟩
    exact (letm_bit (isE_letOk hi) c.toNat e.length).2 hm
  · rw [← wuS_n hc, ← wuR_n hc]
end Go.KLib

namespace Go.KLib
def mkSS (k : Int) : List (List Int) → List (List Int)
  | [] => []
  | x :: xs => mkInt k x.length :: mkSS (k + x.length) xs
section
variable {a zs : List (List Int)} {i j : Nat} {x y : List Int} {k kk : Int}
end
noncomputable def heldSR (k : Int) (a : List (List Int)) : Int := bif tt (a = mkSS k a) then k + a.flatten.length else -1
section
variable {a : List (List Int)} {i : Nat} {k kk : Int}
end
end Go.KLib

namespace Go.KLib
section
variable {a b m set nx c last f : Int} {n k p q s : Nat} {F L : List Int} {nl : Bool}
structure PosOk (L F : List Int) (f l : Int) : Prop where
  n20 : L.length ≤ 50
  len : F.length = L.length
  f1 : okm f L.length
  l1 : okm l L.length
  F1 : ∀ p, okm (F.getD p 0) L.length
variable {l : Int} {w : List Int}
theorem Rn.snoc {E : Nat → Nat → Prop} {La : Nat → Int → Prop} : ∀ {v : List Int} {p : Nat}, Rn E La p (v ++ [c]) q ↔ ∃ j, Rn E La p v j ∧ E j q ∧ La q c
  | [], p => ⟨fun ⟨r, h1, h2, h3⟩ => by rw [show r = q from h3] at h1 h2; exact ⟨p, rfl, h1, h2⟩, fun ⟨j, h1, h2, h3⟩ => by rw [show p = j from h1]; exact ⟨q, h2, h3, rfl⟩⟩
  | d :: v, p => by
    constructor
    · rintro ⟨r, h1, h2, h3⟩
      obtain ⟨j, h4, h5⟩ := Rn.snoc.1 h3
      exact ⟨j, ⟨r, h1, h2, h4⟩, h5⟩
    · rintro ⟨j, ⟨r, h1, h2, h4⟩, h5⟩
      exact ⟨r, h1, h2, Rn.snoc.2 ⟨j, h4, h5⟩⟩
end
end Go.KLib

namespace Go.KLib
section
variable {w : List Int} {x t : Tr} {e : List Token}
theorem Pw.congr {L M : List Int → Prop} (h : ∀ w, L w ↔ M w) {k : Nat} : Pw L k w ↔ Pw M k w := ⟨Pw.mono fun w => (h w).1, Pw.mono fun w => (h w).2⟩
end
end Go.KLib

