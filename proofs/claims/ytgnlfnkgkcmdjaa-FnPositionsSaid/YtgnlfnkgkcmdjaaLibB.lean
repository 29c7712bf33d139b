/- The library of this proof: a logic of the code's forms, memory, data, and plain laws. It speaks of no program. -/
import Derived.WalkKit
import Derived.OrdersHeld
import Derived.WalkLawsBesides
import Derived.WalkSpells
import Derived.ProofKit
import Derived.Deep.Slices
import Derived.Deep.Fields
import Derived.Lib.SmallJoins
import Derived.Laws.Append
import Derived.Laws.CopyRow
import Derived.Laws.AppendOwn
import Derived.Laws.Small
import Derived.Shelf.Sort.Plain
import Derived.Shelf.Slices.CompactI
import Derived.Shelf.Slices.Delete
import Derived.Ground.NamesProg
import Derived.Ground.Names2Prog
import Derived.Shelf.Lay
import Derived.Shelf.Slices.In.SortNone
import Derived.MapKept
import Derived.Ground.SlsfProg
import Derived.Shelf.SlSortCmp.NoneTotal
import Derived.Laws.BytesString
import Derived.Laws.Strings2
import Derived.Laws.Concat
import Derived.Test.YtgnlfnkgkcmdjaaLibA

namespace Go.KLib
section
variable {n i j k m : Nat} {A : Nat → Nat → Bool} {w : List Int} {c : Int}
def ltM (c : Int) (w : List Int) : Nat → Nat → Bool := fun i j => decide (j = i + 1) && decide (w[i]? = some c)
theorem Tri.ltr : Tri (ltM c w) := fun i j h => by simp [ltM]; intro h2; omega
def lupt (c : Int) (w : List Int) (m : Nat) : Nat → Nat → Bool := fun p q => decide (p < m) && ltM c w p q
theorem Zkz : grd n (idM false) = grd n (lupt c w 0) := Zby fun p q _ _ => by simp [idM, lupt]
theorem Zln {v : Bool} {y : Int} {M : List (List Bool)} {ys : List Bool} (hM : M = grd n (lupt c w i)) (hy : M[i]? = some ys) (hw : w[i]? = some y) (hv : v = decide (y = c)) :
   M.set i (ys.set (i + 1) v) = grd n (lupt c w (i + 1)) := Zmg hM hy (by rw [hv]; simp [lupt, ltM, hw]) fun p q _ _ hn => by
 unfold lupt ltM
 by_cases h1 : p = i
 ·subst h1
  have h2 : ¬ q = p + 1 := fun h => hn ⟨rfl, h⟩
  simp [h2]
 have h3 : (p < i + 1) = (p < i) := by simp; omega
 simp [h3]
theorem Zns (hn : n = w.length + 1) (h : m = w.length) : grd n (lupt c w m) = grd n (ltM c w) := Zby fun p q hp _ => by
 unfold lupt ltM
 by_cases h1 : p < m
 ·simp [h1]
 have : w[p]? = none := List.getElem?_eq_none (by omega)
 simp [this]
def srM (n : Nat) (A : Nat → Nat → Bool) : Nat → Nat → Nat → Bool
 | 0 => idM true
 | m + 1 => oeM (srM n A m) (mulM n (srM n A m) A)
theorem Zuh : grd n (oeM (srM n A m) (mulM n (srM n A m) A)) = grd n (srM n A (m + 1)) := by rw [srM]
theorem Zku (h : Tri A) : ∀ m, Tri (srM n A m)
 | 0 => Tri.id true
 | m + 1 => (Zku h m).or ((Zku h m).mul h)
theorem Zei {A B : Nat → Nat → Bool} : mulM n A B i j = true ↔ ∃ k, k < n ∧ A i k = true ∧ B k j = true := by
 unfold mulM
 rw [List.any_eq_true]
 exact ⟨fun ⟨k, hk, h⟩ => ⟨k, List.mem_range.1 hk, by simpa using h⟩, fun ⟨k, hk, h⟩ => ⟨k, List.mem_range.2 hk, by simpa using h⟩⟩
theorem Zsm : ∀ (m : Nat) (i j : Nat), srM n A m i j = true ↔ ∃ k, k ≤ m ∧ powM n A k i j = true
 | 0, i, j => ⟨fun h => ⟨0, Nat.le_refl _, h⟩, fun ⟨k, hk, h⟩ => by
  have e : k = 0 := by omega
  subst e
  exact h⟩
 | m + 1, i, j => by
  have ih := fun i j => Zsm m i j
  rw [srM]
  show (srM n A m i j || mulM n (srM n A m) A i j) = true ↔ _
  rw [Bool.or_eq_true, ih, Zei]
  constructor
  ·rintro (⟨k, hk, h⟩ | ⟨x, hx, h1, h2⟩)
   ·exact ⟨k, by omega, h⟩
   obtain ⟨k, hk, h⟩ := (ih i x).1 h1
   exact ⟨k + 1, by omega, by rw [powM]; exact Zei.2 ⟨x, hx, h, h2⟩⟩
  rintro ⟨k, hk, h⟩
  cases k with
  | zero => exact .inl ⟨0, by omega, h⟩
  | succ k =>
   rw [powM] at h
   obtain ⟨x, hx, h1, h2⟩ := Zei.1 h
   exact .inr ⟨x, hx, (ih i x).2 ⟨k, by omega, h1⟩, h2⟩
theorem Zjy (hA : Tri A) : ∀ (k i j : Nat), powM n A (k + 1) i j = true → j < i + (k + 1) → powM n A k i j = true
 | 0, i, j, h, hj => by
  rw [powM] at h
  obtain ⟨x, hx, h1, h2⟩ := Zei.1 h
  have e1 : i = x := by simpa [powM, idM] using h1
  subst e1
  have h3 : ¬ j < i := fun hh => by rw [hA i j hh] at h2; cases h2
  have e2 : i = j := by omega
  simp [powM, idM, e2]
 | k + 1, i, j, h, hj => by
  rw [powM] at h
  obtain ⟨x, hx, h1, h2⟩ := Zei.1 h
  have h3 : ¬ j < x := fun hh => by rw [hA x j hh] at h2; cases h2
  by_cases e : x = j
  ·exact e ▸ h1
  rw [powM]
  exact Zei.2 ⟨x, hx, Zjy hA k i x h1 (by omega), h2⟩
theorem Zrs : repM n A 0 k i j = true ↔ ∃ m, m < k ∧ powM n A m i j = true := by
 unfold repM
 rw [List.any_eq_true]
 exact ⟨fun ⟨m, hm, h⟩ => ⟨m, List.mem_range.1 hm, by simpa using h⟩, fun ⟨m, hm, h⟩ => ⟨m, List.mem_range.2 hm, by simpa using h⟩⟩
theorem Zwj (hA : Tri A) (hm : m = n) : grd n (srM n A m) = grd n (repM n A 0 n) := Zby fun p q hp hq => by
 subst hm
 rw [Bool.eq_iff_iff, Zsm, Zrs]
 constructor
 ·rintro ⟨k, hk, h⟩
  by_cases e : k = m
  ·subst e
   cases k with
   | zero => omega
   | succ k => exact ⟨k, by omega, Zjy hA k p q h (by omega)⟩
  exact ⟨k, by omega, h⟩
 rintro ⟨k, hk, h⟩
 exact ⟨k, by omega, h⟩
end
def mtT (w : List Int) : Tr → Nat → Nat → Bool
 | .l0 t => if t.kind = 2 then idM true else if t.kind = 3 then ltM t.letter w else idM false
 | .l1 t x => if t.kind = 6 then repM (w.length + 1) (mtT w x) 0 (w.length + 1) else if t.kind = 7 then repM (w.length + 1) (mtT w x) t.low (t.high + 1).toNat else idM false
 | .l2 t x y => if t.kind = 4 then mulM (w.length + 1) (mtT w x) (mtT w y) else if t.kind = 5 then oeM (mtT w x) (mtT w y) else idM false
theorem Qr (w : List Int) : ∀ t, Tri (mtT w t)
 | .l0 t => by unfold mtT; split; exact Tri.id _; split; exact Tri.ltr; exact Tri.id _
 | .l1 t x => by
  have h := Qr w x
  unfold mtT; split; exact Zjn h; split; exact Zjn h; exact Tri.id _
 | .l2 t x y => by
  have h := Qr w x
  have k := Qr w y
  unfold mtT; split; exact h.mul k; split; exact h.or k; exact Tri.id _
section
variable {t ta tb : Tr} {w : List Int}
theorem mt2 (hok : Okd t) (h : t.tok.kind = 2) : mtT w t = idM true := by
 have ha := hok.ar
 cases t with
 | l0 t => simp only [Tr.tok] at h; unfold mtT; rw [if_pos h]
 | l1 t x => simp only [Tr.tok, Tr.kids] at h ha; rw [Zaz (by rw [ha]; simp), h] at ha; simp [arK] at ha
 | l2 t x y => simp only [Tr.tok, Tr.kids] at h ha; rw [Zaz (by rw [ha]; simp), h] at ha; simp [arK] at ha
theorem mt3 (hok : Okd t) (h : t.tok.kind = 3) : mtT w t = ltM t.tok.letter w := by
 have ha := hok.ar
 cases t with
 | l0 t => simp only [Tr.tok] at h ⊢; unfold mtT; rw [if_neg (by omega), if_pos h]
 | l1 t x => simp only [Tr.tok, Tr.kids] at h ha; rw [Zaz (by rw [ha]; simp), h] at ha; simp [arK] at ha
 | l2 t x y => simp only [Tr.tok, Tr.kids] at h ha; rw [Zaz (by rw [ha]; simp), h] at ha; simp [arK] at ha
theorem mt4 (h : t.tok.kind = 4) (h0 : t.kids[0]? = some ta) (h1 : t.kids[1]? = some tb) : mtT w t = mulM (w.length + 1) (mtT w ta) (mtT w tb) := by
 cases t with
 | l0 t => simp [Tr.kids] at h0
 | l1 t x => simp [Tr.kids] at h1
 | l2 t x y =>
  simp [Tr.kids] at h0 h1; subst h0 h1
  simp only [Tr.tok] at h
  rw [mtT, if_pos h]
theorem mt5 (h : t.tok.kind = 5) (h0 : t.kids[0]? = some ta) (h1 : t.kids[1]? = some tb) : mtT w t = oeM (mtT w ta) (mtT w tb) := by
 cases t with
 | l0 t => simp [Tr.kids] at h0
 | l1 t x => simp [Tr.kids] at h1
 | l2 t x y =>
  simp [Tr.kids] at h0 h1; subst h0 h1
  simp only [Tr.tok] at h
  rw [mtT, if_neg (by omega), if_pos h]
theorem mt6 (hok : Okd t) (h : t.tok.kind = 6) (h0 : t.kids[0]? = some ta) : mtT w t = repM (w.length + 1) (mtT w ta) 0 (w.length + 1) := by
 have ha := hok.ar
 cases t with
 | l0 t => simp [Tr.kids] at h0
 | l1 t x =>
  simp [Tr.kids] at h0; subst h0
  simp only [Tr.tok] at h
  rw [mtT, if_pos h]
 | l2 t x y => simp only [Tr.tok, Tr.kids] at h ha; rw [Zaz (by rw [ha]; simp), h] at ha; simp [arK] at ha
theorem mt7 (hok : Okd t) (h : t.tok.kind = 7) (h0 : t.kids[0]? = some ta) : mtT w t = repM (w.length + 1) (mtT w ta) t.tok.low (t.tok.high + 1).toNat := by
 have ha := hok.ar
 cases t with
 | l0 t => simp [Tr.kids] at h0
 | l1 t x =>
  simp [Tr.kids] at h0; subst h0
  simp only [Tr.tok] at h ⊢
  rw [mtT, if_neg (by omega), if_pos h]
 | l2 t x y => simp only [Tr.tok, Tr.kids] at h ha; rw [Zaz (by rw [ha]; simp), h] at ha; simp [arK] at ha
theorem mt0 (h : t.tok.kind ≠ 2 ∧ t.tok.kind ≠ 3 ∧ t.tok.kind ≠ 4 ∧ t.tok.kind ≠ 5 ∧ t.tok.kind ≠ 6 ∧ t.tok.kind ≠ 7) : mtT w t = idM false := by
 obtain ⟨h2, h3, h4, h5, h6, h7⟩ := h
 cases t with
 | l0 t => simp only [Tr.tok] at *; rw [mtT, if_neg h2, if_neg h3]
 | l1 t x => simp only [Tr.tok] at *; rw [mtT, if_neg h6, if_neg h7]
 | l2 t x y => simp only [Tr.tok] at *; rw [mtT, if_neg h4, if_neg h5]
end
end Go.KLib

namespace Go.KLib
theorem Ol.lsR {α : Type} {cs : α → List Value} {e k lo hi : Nat} {w : World} {v : Value} {xs : List α} (h : Ol cs e k w v xs) (hl : Lo lo v) (hh : ∀ g ∈ bl v, g < hi) : Ls cs k w lo hi v xs := by
 have hc := fun g off cap => Ow.cells (g := g) (off := off) (cap := cap) h
 rcases h.2 with ⟨rfl, h0⟩ | ⟨g, off, cap, cur, rfl, hg, h1, h2, h3, _⟩
 ·exact ⟨h.1, none, 0, by rw [h0], by omega, Nat.zero_le _, fun h => absurd h (by omega)⟩
 have hb : g ∈ bl (.slice (some ⟨g, off, none⟩) xs.length cap) := by simp [bl, Value.ownBlock]
 exact ⟨h.1, _, cap, rfl, h1, h2, fun _ => ⟨_, rfl, ⟨hl g hb, hh g hb⟩, fun j u hu => by rw [add_lit]; exact hc g off cap rfl j u hu⟩⟩
theorem Od.rdR {α : Type} {cs : α → List Value} {e k lo hi : Nat} {w : World} {vs : List Sv} {xs : List (List α)} (h : Od cs e k w lo hi vs xs) : Rd cs k w lo hi vs xs := by
 refine ⟨h.1, fun i v x hv hx => ?_⟩
 obtain ⟨x', hx', ho, hr⟩ := h.ownget hv
 rw [hx] at hx'; cases hx'
 exact ho.lsR (fun g hg => (hr g hg).1) (fun g hg => (hr g hg).2)
def RT (w : World) (H : Nat) (b : List Nat) (wd : List Int) (vs : List Sv) (st : List Tr) : Prop :=
 vs.length = st.length ∧ ∀ (i : Nat) (v : Sv) (t : Tr), vs[i]? = some v → st.reverse[i]? = some t →
  ∃ us lo hi, Ls Sv.cs 1 w lo hi v.v us ∧ Rd bcs 1 w lo hi us (grd (wd.length + 1) (mtT wd t)) ∧ hi ≤ H ∧ ∀ g ∈ b, g < lo ∨ hi ≤ g
section
variable {w w' : World} {H H' : Nat} {b b' ws : List Nat} {wd : List Int} {vs : List Sv} {st : List Tr}
theorem RT.nil : RT w H b wd [] [] := ⟨rfl, fun _ _ _ h => by simp at h⟩
theorem RT.ch (h : RT w H b wd vs st) (c : Ch ws w w') (hw : ∀ i ∈ ws, H ≤ i ∨ i ∈ b) : RT w' H b wd vs st := ⟨h.1, fun i v t hv ht => by
 obtain ⟨us, lo, hi, h1, h2, h3, h4⟩ := h.2 i v t hv ht
 have hd : ∀ i ∈ ws, i < lo ∨ hi ≤ i := fun i hi' => by
  rcases hw i hi' with q | q
  ·right; omega
  exact h4 i q
 exact ⟨us, lo, hi, h1.ch c hd, h2.ch c hd, h3, h4⟩⟩
theorem RT.ch0 (h : RT w H b wd vs st) (c : Ch [] w w') : RT w' H b wd vs st := h.ch c (by simp)
theorem RT.get (h : RT w H b wd vs st) {i : Nat} {y : Sv} (hy : vs[i]? = some y) : ∃ t us lo hi, st.reverse[i]? = some t ∧ Ls Sv.cs 1 w lo hi y.v us ∧ Rd bcs 1 w lo hi us (grd (wd.length + 1) (mtT wd t)) ∧ hi ≤ H := by
 have hi : i < st.reverse.length := by
  have := (List.getElem?_eq_some_iff.1 hy).1
  rw [List.length_reverse]; have := h.1; omega
 obtain ⟨us, lo, hi', h1, h2, h3, _⟩ := h.2 i y _ hy (List.getElem?_eq_getElem hi)
 exact ⟨_, us, lo, hi', List.getElem?_eq_getElem hi, h1, h2, h3⟩
theorem RT.take (h : RT w H b wd vs st) {k : Nat} (hk : k ≤ st.length) : RT w H b wd (vs.take (vs.length - k)) (st.drop k) := by
 refine ⟨by rw [List.length_take, List.length_drop, h.1]; omega, fun i v t hv ht => ?_⟩
 have h9 := h.1
 rw [List.getElem?_take] at hv
 split at hv
 ·rename_i hi
  refine h.2 i v t hv ?_
  have e : st.reverse = (st.drop k).reverse ++ (st.take k).reverse := by rw [← List.reverse_append, List.take_append_drop]
  rw [e, List.getElem?_append_left (by rw [List.length_reverse, List.length_drop]; omega)]
  exact ht
 cases hv
theorem RT.add (h : RT w H b wd vs st) {v : Sv} {t : Tr} {us : List Sv} {lo hi : Nat} (h1 : Ls Sv.cs 1 w lo hi v.v us) (h2 : Rd bcs 1 w lo hi us (grd (wd.length + 1) (mtT wd t))) (h3 : hi ≤ H') (hH : H ≤ H')
   (hb : ∀ g ∈ b', g < lo ∨ hi ≤ g) (ho : ∀ g ∈ b', g ∈ b ∨ H ≤ g) : RT w H' b' wd (vs ++ [v]) (t :: st) := by
 refine ⟨by simp [h.1], fun i x u hx hu => ?_⟩
 have h9 := h.1
 rw [List.reverse_cons] at hu
 by_cases hi' : i < vs.length
 ·rw [List.getElem?_append_left hi'] at hx
  rw [List.getElem?_append_left (by rw [List.length_reverse]; omega)] at hu
  obtain ⟨us, l, r, a1, a2, a3, a4⟩ := h.2 i x u hx hu
  refine ⟨us, l, r, a1, a2, by omega, fun g hg => ?_⟩
  rcases ho g hg with q | q
  ·exact a4 g q
  right; omega
 have e : i = vs.length := by
  have := (List.getElem?_eq_some_iff.1 hx).1
  simp at this; omega
 subst e
 rw [List.getElem?_append_right (Nat.le_refl _), Nat.sub_self] at hx
 rw [List.getElem?_append_right (by rw [List.length_reverse]; omega), List.length_reverse, h9, Nat.sub_self] at hu
 simp at hx hu; subst hx hu
 exact ⟨us, lo, hi, h1, h2, h3, hb⟩
theorem RT.eq {vs' : List Sv} (h : RT w H b wd vs st) (e : vs = vs') : RT w H b wd vs' st := e ▸ h
end
section
variable {st s2 : List Tr} {y : Token} {l : List Token} {i : Nat} {t : Tr}
theorem Zvw (hl : Qx l = some t) (hp : prs [] (l.take i) = some st) (hy : l[i]? = some y) : ∃ s2, push st y = some s2 ∧ prs [] (l.take (i + 1)) = some s2 := by
 have h := Zgy hp hy
 cases hq : push st y with
 | some s2 => exact ⟨s2, rfl, by rw [h, hq]⟩
 | none =>
  rw [hq] at h
  have := Znc h
  unfold Qx at hl; rw [this] at hl; cases hl
theorem Zut (hl : Qx l = some t) (hp : prs [] (l.take i) = some st) (hi : l.length ≤ i) : st = [t] := by
 have h := Zpl hp hi
 unfold Qx at hl
 rw [h] at hl
 match st, hl with
 | [u], hl => cases hl; rfl
theorem Zjv (h : push st y = some s2) : arT y = arK y.kind ∧ 0 ≤ arT y := by
 have h0 : 0 ≤ arT y := by
  unfold push at h
  split at h
  ·omega
  split at h
  ·omega
  split at h
  ·omega
  cases h
 exact ⟨Zaz h0, h0⟩
theorem Zml (h : push st y = some s2) (hk : arK y.kind = 0) : s2 = .l0 y :: st := by
 have e := (Zjv h).1
 unfold push at h
 rw [if_pos (by omega)] at h
 cases h; rfl
theorem Zqg (h : push st y = some s2) (hk : arK y.kind = 1) : ∃ a r, st = a :: r ∧ s2 = .l1 y a :: r := by
 have e := (Zjv h).1
 unfold push at h
 rw [if_neg (by omega), if_pos (by omega)] at h
 match st, h with
 | a :: r, h => cases h; exact ⟨a, r, rfl, rfl⟩
theorem Zph (h : push st y = some s2) (hk : arK y.kind = 2) : ∃ a b r, st = b :: a :: r ∧ s2 = .l2 y a b :: r := by
 have e := (Zjv h).1
 unfold push at h
 rw [if_neg (by omega), if_neg (by omega), if_pos (by omega)] at h
 match st, h with
 | b :: a :: r, h => cases h; exact ⟨a, b, r, rfl, rfl⟩
theorem Zub (h : push st y = some s2) (hk : y.kind = 7) : y.high ≤ 3 := by
 have e := (Zjv h).2
 unfold arT at e
 rw [if_neg (by omega), if_neg (by omega), if_neg (by omega), if_neg (by omega), if_pos hk] at e
 split at e
 ·omega
 omega
theorem top1 {a : Tr} {r : List Tr} {j : Nat} {u : Tr} (hj : j = r.length) (h : (a :: r).reverse[j]? = some u) : u = a := by
 subst hj
 rw [List.reverse_cons, List.getElem?_append_right (by simp), List.length_reverse, Nat.sub_self] at h
 simpa using h.symm
theorem top2 {a c : Tr} {r : List Tr} {j : Nat} {u : Tr} (hj : j = r.length) (h : (c :: a :: r).reverse[j]? = some u) : u = a := by
 subst hj
 rw [List.reverse_cons, List.getElem?_append_left (by simp)] at h
 exact top1 rfl h
end
section
variable {w : List Int} {y : Token} {a b : Tr}
theorem ml2 (h : y.kind = 2) : mtT w (.l0 y) = idM true := by rw [mtT, if_pos h]
theorem ml3 (h : y.kind = 3) : mtT w (.l0 y) = ltM y.letter w := by rw [mtT, if_neg (by omega), if_pos h]
theorem ml0 (h : y.kind ≠ 2 ∧ y.kind ≠ 3) : mtT w (.l0 y) = idM false := by rw [mtT, if_neg h.1, if_neg h.2]
theorem ml4 (h : y.kind = 4) : mtT w (.l2 y a b) = mulM (w.length + 1) (mtT w a) (mtT w b) := by rw [mtT, if_pos h]
theorem ml5 (h : y.kind = 5) : mtT w (.l2 y a b) = oeM (mtT w a) (mtT w b) := by rw [mtT, if_neg (by omega), if_pos h]
theorem ml6 (h : y.kind = 6) : mtT w (.l1 y a) = repM (w.length + 1) (mtT w a) 0 (w.length + 1) := by rw [mtT, if_pos h]
theorem ml7 (h : y.kind = 7) : mtT w (.l1 y a) = repM (w.length + 1) (mtT w a) y.low (y.high + 1).toNat := by rw [mtT, if_neg (by omega), if_pos h]
end
theorem Zvt {w : List Int} {t u : Tr} {ys : List Bool} {x : Bool} (hu : [t].reverse[0]? = some u) (h : (grd (w.length + 1) (mtT w u))[0]? = some ys) (hx : ys[w.length]? = some x) : x = mtT w t 0 w.length := by
 have e : u = t := top1 rfl hu
 subst e
 exact Zbp rfl h hx
theorem Zno {vs : List Sv} {v : Sv} {j : Nat} (hj : j + 1 = vs.length) : vs.take (vs.length - 1) ++ [v] = vs.set j v := by
 apply List.ext_getElem?
 intro i
 rw [List.getElem?_set]
 by_cases e : j = i
 ·subst e
  rw [if_pos rfl, if_pos (by omega), List.getElem?_append_right (by rw [List.length_take]; omega), List.length_take]
  rw [show j - min (vs.length - 1) vs.length = 0 by omega]; rfl
 rw [if_neg e]
 by_cases hi : i < j
 ·rw [List.getElem?_append_left (by rw [List.length_take]; omega), List.getElem?_take, if_pos (by omega)]
 rw [List.getElem?_eq_none (by rw [List.length_append, List.length_take, List.length_singleton]; omega), List.getElem?_eq_none (by omega)]
noncomputable def mwE (e : List Token) (w : List Int) : Bool := ivE e && tt (IsWd w) && (match Qx e with | some t => mtT w t 0 w.length | none => false)
section
variable {e : List Token} {w : List Int} {t : Tr}
theorem Zis (h : ivE e = false) : mwE e w = false := by unfold mwE; rw [h]; rfl
theorem Ziu (h : ¬ IsWd w) : mwE e w = false := by unfold mwE; rw [← Xp h]; simp
theorem Zlx (h : ivE e = true) (hw : IsWd w) (ht : Qx e = some t) : mwE e w = mtT w t 0 w.length := by unfold mwE; rw [h, ← Zbl hw, ht]; rfl
end
end Go.KLib

namespace Go.KLib
def R9 : List Int := (List.range 9).map fun (i : Nat) => (i : Int)
def letT : Tr → List Int
 | .l0 t => if t.kind = 3 then [t.letter] else []
 | .l1 _ a => letT a
 | .l2 _ a b => letT a ++ letT b
theorem Zfb : ∀ (t : Tr) (c : Int), c ∈ letT t → ∃ y ∈ t.flat, y.kind = 3 ∧ y.letter = c
 | .l0 t, c, h => by
  unfold letT at h
  split at h
  ·rename_i hk
   exact ⟨t, by simp [Tr.flat], hk, (List.mem_singleton.1 h).symm⟩
  cases h
 | .l1 t a, c, h => by
  obtain ⟨y, hy, h2⟩ := Zfb a c h
  exact ⟨y, by simp [Tr.flat, hy], h2⟩
 | .l2 t a b, c, h => by
  unfold letT at h
  rcases List.mem_append.1 h with h | h
  ·obtain ⟨y, hy, h2⟩ := Zfb a c h
   exact ⟨y, by simp [Tr.flat, hy], h2⟩
  obtain ⟨y, hy, h2⟩ := Zfb b c h
  exact ⟨y, by simp [Tr.flat, hy], h2⟩
theorem Od.skip {α : Type} {cs : α → List Value} {e k : Nat} {w : World} {lo hi : Nat} {vs us : List Sv} {v : Sv} {xs ys : List (List α)} {x : List α} (h : Od cs e k w lo hi (vs ++ v :: us) (xs ++ x :: ys)) (hl : vs.length = xs.length) : Od cs e k w lo hi (vs ++ us) (xs ++ ys) := by
 have g1 : ∀ {β : Type} (a b : List β) (c : β) (i : Nat) (u : β), (a ++ b)[i]? = some u → (a ++ c :: b)[if i < a.length then i else i + 1]? = some u := by
  intro β a b c i u hu
  by_cases hi : i < a.length
  ·rw [if_pos hi, List.getElem?_append_left hi]; rwa [List.getElem?_append_left hi] at hu
  rw [if_neg hi, List.getElem?_append_right (by omega)]
  rw [List.getElem?_append_right (by omega)] at hu
  rw [show i + 1 - a.length = (i - a.length) + 1 by omega, List.getElem?_cons_succ]; exact hu
 refine ⟨by have := h.1; simp at this ⊢; omega, fun i v' x' a b => ?_, fun i j u u' a b hij => ?_⟩
 ·have a' := g1 _ _ v _ _ a
  have b' := g1 _ _ x _ _ b
  rw [← hl] at b'
  exact h.2.1 _ _ _ a' b'
 have a' := g1 _ _ v _ _ a
 have b' := g1 _ _ v _ _ b
 exact h.2.2 _ _ _ _ a' b' (by split <;> split <;> omega)
theorem Zpd {α : Type} {l : List α} {i : Nat} {y : α} (h : l[i]? = some y) : l.drop i = y :: l.drop (i + 1) := by
 obtain ⟨hi, e⟩ := List.getElem?_eq_some_iff.1 h
 rw [List.drop_eq_getElem_cons hi, e]
theorem Od.app {α : Type} {cs : α → List Value} {e k : Nat} {w : World} {lo hi lo2 hi2 : Nat} {vs us : List Sv} {xs ys : List (List α)} (h : Od cs e k w lo hi vs xs) (h2 : Od cs e k w lo2 hi2 us ys) (hh : hi ≤ lo2) (hl : lo ≤ lo2) (hu : hi ≤ hi2) : Od cs e k w lo hi2 (vs ++ us) (xs ++ ys) := by
 have h9 := h.1
 have k9 := h2.1
 refine ⟨by simp [h9, k9], fun i v x a b => ?_, fun i j u v a b hij => ?_⟩
 ·by_cases hi' : i < vs.length
  ·rw [List.getElem?_append_left hi'] at a
   rw [List.getElem?_append_left (by omega)] at b
   obtain ⟨o, r⟩ := h.2.1 i v x a b
   exact ⟨o, fun g hg => by have := r g hg; omega⟩
  rw [List.getElem?_append_right (by omega)] at a
  rw [List.getElem?_append_right (by omega)] at b
  rw [h9] at a
  obtain ⟨o, r⟩ := h2.2.1 _ v x a b
  exact ⟨o, fun g hg => by have := r g hg; omega⟩
 by_cases hi' : i < vs.length
 ·rw [List.getElem?_append_left hi'] at a
  by_cases hj : j < vs.length
  ·rw [List.getElem?_append_left hj] at b
   exact h.2.2 i j u v a b hij
  rw [List.getElem?_append_right (by omega)] at b
  intro g hg hm
  have r1 := h.rng (List.mem_of_getElem? a) hg
  have r2 := h2.rng (List.mem_of_getElem? b) hm
  omega
 rw [List.getElem?_append_right (by omega)] at a
 rw [List.getElem?_append_right (by omega)] at b
 exact h2.2.2 _ _ u v a b (by omega)
section
variable {L : List Int} {t : Tr} {W : List (List Int)} {P : List Int → Bool} {y : List Int} {i j k m : Nat}
end
end Go.KLib

namespace Go.KLib
def bst (l : List UInt8) : Value := .string ⟨l.toArray⟩
def bys (l : List UInt8) : ByteArray := ⟨l.toArray⟩
theorem Zcz (l : List UInt8) : bst l = .string (bys l) := rfl
theorem Zsf (l : List UInt8) : (bys l).toList = l := ByteArray.toList_mk l
theorem Zrt (l : List UInt8) : (bys l).size = l.length := rfl
def scs (s : List UInt8) : List Value := [bst s]
theorem Zej (s : List UInt8) : (scs s).length = 1 := rfl
theorem Zqa (s : List UInt8) : ∀ v ∈ scs s, v.oneCell' = true := fun v hv => by rw [List.mem_singleton.1 hv]; rfl
def ucs (n : Int) : List Value := [.int .u8 n]
theorem Zhv (n : Int) : (ucs n).length = 1 := rfl
def bat (s : List UInt8) (i : Nat) : Int := ((s.getD i 0).toNat : Int)
theorem Zme (s : List UInt8) (i : Nat) : 0 ≤ bat s i ∧ bat s i ≤ 255 := by
 have := (s.getD i 0).toNat_lt
 unfold bat; omega
theorem Zso (s : List UInt8) (i : Nat) : -9223372036854775808 ≤ bat s i ∧ bat s i ≤ 9223372036854775807 := by have := Zme s i; omega
def w8 (x : Int) : Int := IntKind.u8.wrap x
section
variable {P : Program} {w : World} {l : KL} {dst : Option Tmp} {ty : TypeId} {pos : String} {aft : Array Go.Edge} {gd : Option (Nat × Bool)} {x y z : Operand} {xt yt : TypeId} {a b : Int} {k : IntKind} {s t : List UInt8}
theorem Zqh (hx : ev l x = some (.int .i64 a)) (hy : ev l y = some (.int .i64 b)) : Qd P l ⟨dst, .binOp .mul xt x y yt, ty, pos, aft, gd⟩ w (.int .i64 (w64 (a * b))) w := Zth hx hy
theorem Zhj (h : s.length + t.length ≤ 9223372036854775807) (hx : ev l x = some (bst s)) (hy : ev l y = some (bst t)) : Qd P l ⟨dst, .binOp .add xt x y yt, ty, pos, aft, gd⟩ w (bst (s ++ t)) w := fun ρ hρ => by
 have e := run_string_add_sum (P := P) w (bys s) (bys t) h
 rw [show bys s ++ bys t = bys (s ++ t) from ByteArray.mk_append_mk s t] at e
 rw [Zcz] at hx hy
 simp [execOp, hρ _ _ hx, hρ _ _ hy, eqGuard, binOp, e, Zcz]
theorem Zsu (hx : ev l x = some (bst s)) (hy : ev l y = some (bst t)) : Qd P l ⟨dst, .binOp .eql xt x y yt, ty, pos, aft, gd⟩ w (.bool (decide (s = t))) w := fun ρ hρ => by
 have e : (s == t) = decide (s = t) := by by_cases h : s = t <;> simp [h]
 rw [Zcz] at hx hy
 simp [execOp, hρ _ _ hx, hρ _ _ hy, eqGuard, binOp, Op.stringOp, Zsf, e]
theorem Zta {t : TypeId} (ht : P.underlying t = some .string) (h : ev l x = some (bst s)) :
   Qd P l ⟨dst, .call { callee := .builtin .len, args := #[x], argTypes := #[t] }, ty, pos, aft, gd⟩ w (.int .i64 s.length) w := fun ρ hρ => by
 rw [Zcz] at h
 simp [execOp, resolve, invoke, builtin, Builtin.len_, run_underlying ht, hρ _ _ h, goInt, Zrt]
theorem Zdw {t : TypeId} {i : Int} (h0 : 0 ≤ i ∧ i < s.length) (ht : P.underlying t = some .string) (hx : ev l x = some (bst s)) (hy : ev l y = some (.int k i)) :
   Qd P l ⟨dst, .index t x y, ty, pos, aft, gd⟩ w (.int .u8 (bat s i.toNat)) w := fun ρ hρ => by
 have e := run_index_string (P := P) w t (bys s) k i ht
 rw [dif_pos (show 0 ≤ i ∧ i < ((bys s).size : Int) from h0)] at e
 have hlt : i.toNat < s.length := by omega
 have e2 : (bys s)[i.toNat]'(by show i.toNat < s.length; exact hlt) = s.getD i.toNat 0 := by
  show s.toArray[i.toNat]'(by simpa using hlt) = _
  simp [List.getD_eq_getElem?_getD, hlt]
 rw [Zcz] at hx
 rw [e2] at e
 simp [execOp, hρ _ _ hx, hρ _ _ hy, e, bat]
theorem Zwk {t : TypeId} {i j : Int} {k' : IntKind} (h0 : 0 ≤ i ∧ i ≤ j ∧ j ≤ s.length) (ht : P.underlying t = some .string) (hx : ev l x = some (bst s)) (hy : ev l y = some (.int k i)) (hz : ev l z = some (.int k' j)) :
   Qd P l ⟨dst, .slice t x (some y) (some z) none, ty, pos, aft, gd⟩ w (bst ((s.drop i.toNat).take (j.toNat - i.toNat))) w := fun ρ hρ => by
 have e := run_slice_string (P := P) w t (bys s) k k' i j ht h0.1 h0.2.1 h0.2.2
 rw [show (bys s).extract i.toNat j.toNat = bys ((s.drop i.toNat).take (j.toNat - i.toNat)) from ByteArray.extract_mk s _ _] at e
 rw [Zcz] at hx
 simp [execOp, hρ _ _ hx, hρ _ _ hy, hρ _ _ hz, Instr.sliceAt, run_underlying ht, e, Zcz]
theorem Zts {t : TypeId} {i : Int} (h0 : 0 ≤ i ∧ i ≤ s.length) (ht : P.underlying t = some .string) (hx : ev l x = some (bst s)) (hy : ev l y = some (.int k i)) :
   Qd P l ⟨dst, .slice t x (some y) none none, ty, pos, aft, gd⟩ w (bst (s.drop i.toNat)) w := fun ρ hρ => by
 have e := run_slice_string_l (P := P) w t (bys s) ht k i h0.1 h0.2
 rw [show (bys s).extract i.toNat (bys s).size = bys (s.drop i.toNat) from by
  rw [show (bys s).extract i.toNat (bys s).size = bys ((s.drop i.toNat).take (s.length - i.toNat)) from ByteArray.extract_mk s _ _, List.take_of_length_le (by simp)]] at e
 rw [Zcz] at hx
 simp [execOp, hρ _ _ hx, hρ _ _ hy, Instr.sliceAt, run_underlying ht, e, Zcz]
theorem Zqt (ns : List Int) : ∀ (s : ByteArray), (ns.foldl (fun r n => r.push (UInt8.ofNat n.toNat)) s).data.toList = s.data.toList ++ ns.map fun n => UInt8.ofNat n.toNat := by
 induction ns with
 | nil => intro s; simp
 | cons n ns ih => intro s; simp only [List.foldl_cons, ih]; simp [ByteArray.push]
def u8s (ns : List Int) : List UInt8 := ns.map fun n => UInt8.ofNat n.toNat
theorem Zjd {src d e : TypeId} {ns : List Int} {v : Value} {L B : Nat} (hs : Ls ucs 1 w L B v ns) (h1 : elB P src = some e) (h2 : P.underlying e = some (.int .u8)) (h3 : P.underlying d = some .string) (hx : ev l x = some v) :
   Qd P l ⟨dst, .convert src d x, ty, pos, aft, gd⟩ w (bst (u8s ns)) w := fun ρ hρ => by
 obtain ⟨hl, A, c, rfl, hc, hm, hA⟩ := hs
 have hcv := fun a n c => run_convert_bytes_string (P := P) w src d e a n c (Zbs h1) h2 h3
 have fm : ∀ ns : List Int, ns.flatMap ucs = ns.map (Value.int .u8) := fun ns => by induction ns with | nil => rfl | cons n ns ih => simp [ucs, ih]
 have fp : ∀ ns : List Int, ns.foldl (fun r n => r.push (UInt8.ofNat n.toNat)) ByteArray.empty = bys (u8s ns) := fun ns => by
  apply ByteArray.ext
  apply Array.toList_inj.1
  rw [Zqt]; simp [bys, u8s]
 by_cases hn : ns = []
 ·subst hn
  have hk : (Conv.bytesToString (.slice A ([] : List Int).length c)).run P w = .ok (bst (u8s [])) w := by
   cases A with
   | none => simp [Conv.bytesToString]; rfl
   | some a =>
    have := run_bytesToString (P := P) w a 0 c [] (by simp [loadCells, loadCellsFrom])
    rw [fp] at this
    exact this
  simp only [execOp, hρ _ _ hx, Sem.run_bind, hcv, hk, Result.andThen_ok, Sem.run_pure]
 obtain ⟨a, rfl, _, hcell⟩ := hA (by have := List.length_pos_iff.2 hn; omega)
 have hk := run_bytesToString (P := P) w a ns.length c ns (by
  have := run_loadCells_list (P := P) w a (ns.map (Value.int .u8)) (fun j v hj => hcell j v (by rw [fm]; exact hj))
  simpa using this)
 rw [fp] at hk
 simp only [execOp, hρ _ _ hx, Sem.run_bind, hcv, hk, Result.andThen_ok, Sem.run_pure]
 rfl
end
end Go.KLib

namespace Go.KLib
open Go.Sort Go.RowKit Go.Shelf Go.Proofs
section
variable {B : Nat → Prop} {S : Int} {N : List (List Int)} {n j s k f : Nat} {l : List Bool} {r : List Int} {y : Int}
end
section
variable {S : Int} {A : List Bool} {N : List (List Int)} {us : List Int} {i : Nat} {y : Int}
end
end Go.KLib

namespace Go.KLib
def Cu (w : World) (b : Nat) : Prop := ∃ (v : Value) (xs : List Int) (t : TypeId) (i h : Int), Blk w b t [v, .int .i64 i, .int .i64 h] ∧ Ls ucs 1 w 0 b v xs ∧ 0 ≤ i ∧ i ≤ xs.length
theorem Cu.lt {w : World} {b : Nat} (h : Cu w b) : b < w.heap.size := by obtain ⟨_, _, _, _, _, h, _⟩ := h; exact h.lt
theorem Cu.ch {w w' : World} {b : Nat} {ws : List Nat} (h : Cu w b) (c : Ch ws w w') (hw : ∀ i ∈ ws, b < i) : Cu w' b := by
 obtain ⟨v, xs, t, i, k, h1, h2, h3⟩ := h
 exact ⟨v, xs, t, i, k, h1.ch c (fun hm => by have := hw _ hm; omega), Sl.ch h2 c (fun j hj => .inr (by have := hw _ hj; omega)), h3⟩
theorem Cu.ch0 {w w' : World} {b : Nat} (h : Cu w b) (c : Ch [] w w') : Cu w' b := h.ch c (fun _ hm => by cases hm)
theorem Zul (x : Int) (m : Nat) (hm : m < 9223372036854775808) : 0 ≤ iand x m ∧ iand x m ≤ m := by
 unfold iand
 have h : (BitVec.ofInt IntKind.i64.bits x &&& BitVec.ofInt IntKind.i64.bits (m : Int)).toNat ≤ m := by
  rw [BitVec.toNat_and]
  refine Nat.le_trans Nat.and_le_right ?_
  rw [BitVec.toNat_ofInt]
  show ((m : Int) % (2 ^ 64 : Nat)).toNat ≤ m
  have : (m : Int) % ((2 ^ 64 : Nat) : Int) = m := Int.emod_eq_of_lt (by omega) (by omega)
  rw [this]; simp
 rw [IntWalk.i64_in _ (by omega)]
 omega
theorem Zpv (x : Int) : 0 ≤ iand x 255 ∧ iand x 255 ≤ 255 := Zul x 255 (by decide)
theorem Zkc {x n : Int} (h : 0 ≤ x) (hn : 0 < n) : 0 ≤ x.tmod n ∧ x.tmod n < n := ⟨Int.tmod_nonneg _ h, Int.tmod_lt_of_pos _ hn⟩
def letS : List (List UInt8) := [[97], [97, 45], [98], [98, 45], [99], [99, 45], [48], [49], [50]]
def fmtL (n : Int) : List UInt8 := if 0 ≤ n ∧ n ≤ 8 then letS.getD n.toNat [] else []
theorem Zvr {n : Int} {y : List UInt8} (h : 0 ≤ n ∧ n ≤ 8) (hy : letS[n.toNat]? = some y) : y = fmtL n := by unfold fmtL; rw [if_pos h, Zak hy]
theorem Zwf {n : Int} (h : ¬ (0 ≤ n ∧ n ≤ 8)) : [] = fmtL n := by unfold fmtL; rw [if_neg h]
def ltrI (s : List UInt8) (k : Nat) : Option Nat := (List.range k).find? fun i => decide (letS.getD i [] = s)
def plR (s : List UInt8) : Int × Bool := match ltrI s 9 with | some i => ((i : Int), true) | none => (0, false)
theorem Zqj {s : List UInt8} : ltrI s 0 = none := rfl
theorem Zvv {s : List UInt8} {k : Nat} (h : ltrI s k = none) (hk : k < 9) (hn : ¬ fmtL k = s) : ltrI s (k + 1) = none := by
 unfold ltrI at *
 rw [List.range_succ, List.find?_append, h]
 unfold fmtL at hn
 rw [if_pos (by omega), Int.toNat_natCast, List.getD_eq_getElem?_getD] at hn
 simp [hn]
theorem Zlc {p : Nat → Bool} {k i : Nat} (h : (List.range k).find? p = none) (hp : p k = true) (hi : k < i) : (List.range i).find? p = some k := by
 have e : List.range i = List.range k ++ (k :: (List.range' (k + 1) (i - (k + 1)))) := by
  rw [List.range_eq_range', List.range_eq_range', show k :: List.range' (k + 1) (i - (k + 1)) = List.range' k (i - k) from by
   rw [show i - k = (i - (k + 1)) + 1 by omega, List.range'_succ]]
  have := List.range'_append (s := 0) (m := k) (n := i - k) (step := 1)
  rw [Nat.one_mul, Nat.zero_add, show k + (i - k) = i by omega] at this
  exact this.symm
 rw [e, List.find?_append, h, List.find?_cons]
 simp [hp]
theorem Zrb {s : List UInt8} {k : Nat} (h : ltrI s k = none) (hk : k < 9) (hy : fmtL k = s) : ((k : Int), true) = plR s := by
 unfold fmtL at hy
 rw [if_pos (by omega), Int.toNat_natCast, List.getD_eq_getElem?_getD] at hy
 have : ltrI s 9 = some k := Zlc h (by simp [hy]) hk
 unfold plR; rw [this]
theorem Zrd {s : List UInt8} {k : Nat} (h : ltrI s k = none) (hk : ¬ (k : Int) < 9) (hk2 : k ≤ 9) : ((0 : Int), false) = plR s := by
 obtain rfl : k = 9 := by omega
 unfold plR; rw [h]
def Qe : List UInt8 → Int → List UInt8 → List (List UInt8)
 | [], _, cur => [cur]
 | c :: s, sep, cur => if (c.toNat : Int) = sep then cur :: Qe s sep [] else Qe s sep (cur ++ [c])
theorem Zha : ∀ (s : List UInt8) (sep : Int) (cur : List UInt8), (Qe s sep cur).length ≤ s.length + 1
 | [], _, _ => by simp [Qe]
 | c :: s, sep, cur => by
  unfold Qe; split
  ·have := Zha s sep []; simp; omega
  have := Zha s sep (cur ++ [c]); simp; omega
theorem Zox {s : List UInt8} {i : Nat} (h : i < s.length) : ∃ c, s[i]? = some c ∧ bat s i = (c.toNat : Int) := ⟨s[i], List.getElem?_eq_getElem h, by unfold bat; rw [List.getD_eq_getElem?_getD, List.getElem?_eq_getElem h]; rfl⟩
theorem Zpa {s : List UInt8} {sep : Int} {i f : Nat} {out : List (List UInt8)} (h : out ++ Qe (s.drop i) sep ((s.drop f).take (i - f)) = Qe s sep []) (hi : i < s.length) (hc : bat s i = sep) :
   (out ++ [(s.drop f).take (i - f)]) ++ Qe (s.drop (i + 1)) sep ((s.drop (i + 1)).take (i + 1 - (i + 1))) = Qe s sep [] := by
 obtain ⟨c, h1, h2⟩ := Zox hi
 rw [← h, Zpd h1]
 show _ = out ++ (if (c.toNat : Int) = sep then _ else _)
 rw [if_pos (by omega)]
 simp
theorem Zng {s : List UInt8} {sep : Int} {i f : Nat} {out : List (List UInt8)} (h : out ++ Qe (s.drop i) sep ((s.drop f).take (i - f)) = Qe s sep []) (hi : i < s.length) (hf : f ≤ i) (hc : ¬ bat s i = sep) :
   out ++ Qe (s.drop (i + 1)) sep ((s.drop f).take (i + 1 - f)) = Qe s sep [] := by
 obtain ⟨c, h1, h2⟩ := Zox hi
 rw [← h, Zpd h1]
 show _ = out ++ (if (c.toNat : Int) = sep then _ else _)
 rw [if_neg (by omega), show i + 1 - f = (i - f) + 1 by omega]
 congr 2
 rw [Zaa (xs := s.drop f) (by rw [List.getElem?_drop, show f + (i - f) = i by omega]; exact h1)]
theorem Ztt {s : List UInt8} {sep : Int} {i f : Nat} {out : List (List UInt8)} (h : out ++ Qe (s.drop i) sep ((s.drop f).take (i - f)) = Qe s sep []) (hi : s.length ≤ i) : out ++ [s.drop f] = Qe s sep [] := by
 rw [← h, List.drop_of_length_le hi, Qe, List.take_of_length_le (by rw [List.length_drop]; omega)]
theorem Zri {s : List UInt8} {sep : Int} : ([] : List (List UInt8)) ++ Qe (s.drop 0) sep ((s.drop 0).take (0 - 0)) = Qe s sep [] := by simp
theorem Zwu {x : Int} (h : 0 ≤ x ∧ x ≤ 255) : w8 x = x := by
 unfold w8 IntKind.wrap
 simp [IntKind.signed, IntKind.bits]
 omega
def dgF : Nat → Nat → List UInt8
 | 0, _ => []
 | f + 1, n => if n = 0 then [] else dgF f (n / 10) ++ [UInt8.ofNat (48 + n % 10)]
theorem Znq : ∀ (f g n : Nat), n < 10 ^ f → n < 10 ^ g → dgF f n = dgF g n
 | 0, 0, _, _, _ => rfl
 | 0, g + 1, n, h, _ => by
  have : n = 0 := by simpa using h
  subst this; simp [dgF]
 | f + 1, 0, n, _, h => by
  have : n = 0 := by simpa using h
  subst this; simp [dgF]
 | f + 1, g + 1, n, h, k => by
  unfold dgF
  split
  ·rfl
  rw [Znq f g (n / 10) (by rw [Nat.pow_succ] at h; omega) (by rw [Nat.pow_succ] at k; omega)]
theorem Zmd : ∀ f n, (dgF f n).length ≤ f
 | 0, _ => by simp [dgF]
 | f + 1, n => by
  unfold dgF; split
  ·simp
  have := Zmd f (n / 10); simp; omega
def fmtI (n : Int) : List UInt8 := if n = 0 then [48] else if n < 0 then 45 :: dgF 20 n.natAbs else dgF 20 n.natAbs
theorem Zne (n : Int) : (fmtI n).length ≤ 21 := by
 have := Zmd 20 n.natAbs
 unfold fmtI; split
 ·simp
 split
 ·simp; omega
 omega
theorem Zpk {m : Int} {d : Int} {out : List UInt8} {n : Int} (h : dgF 20 m.natAbs ++ out = dgF 20 n.natAbs) (hm : ¬ m = 0) (hb : -9223372036854775808 ≤ m ∧ m ≤ 9223372036854775807) (hd : d = m.tmod 10 ∨ d = -(m.tmod 10)) (h0 : 0 ≤ d) :
   dgF 20 (m.tdiv 10).natAbs ++ (u8s [w8 (48 + d)] ++ out) = dgF 20 n.natAbs := by
 have e1 : (m.tdiv 10).natAbs = m.natAbs / 10 := Int.natAbs_tdiv m 10
 have e2 : (m.tmod 10).natAbs = m.natAbs % 10 := Int.natAbs_tmod m 10
 have hd2 : d.toNat = m.natAbs % 10 := by rcases hd with e | e <;> omega
 have hd3 : d ≤ 9 := by omega
 rw [← h, e1]
 have e3 : dgF 20 m.natAbs = dgF 19 (m.natAbs / 10) ++ [UInt8.ofNat (48 + m.natAbs % 10)] := by
  rw [dgF, if_neg (by omega)]
 rw [e3, Znq 19 20 (m.natAbs / 10) (by omega) (by omega), List.append_assoc]
 congr 1
 show [UInt8.ofNat (w8 (48 + d)).toNat] ++ out = _
 rw [Zwu (by omega), show (48 + d).toNat = 48 + m.natAbs % 10 by omega]
theorem Zsn {out : List UInt8} {n : Int} {m : Int} (h : dgF 20 m.natAbs ++ out = dgF 20 n.natAbs) (hm : m = 0) : out = dgF 20 n.natAbs := by
 subst hm; simpa [dgF] using h
theorem Zwl {n : Int} (h : n = 0) : [48] = fmtI n := by unfold fmtI; rw [if_pos h]
theorem Zrp {n : Int} {out : List UInt8} (h : n < 0) (ho : out = dgF 20 n.natAbs) : [45] ++ out = fmtI n := by unfold fmtI; rw [if_neg (by omega), if_pos h, ho]; rfl
theorem Zrh {n : Int} {out : List UInt8} (h : ¬ n < 0) (h0 : ¬ n = 0) (ho : out = dgF 20 n.natAbs) : out = fmtI n := by unfold fmtI; rw [if_neg h0, if_neg h, ho]
def tokS (t : Token) : List UInt8 :=
 if t.kind = 1 then [33] else if t.kind = 2 then [40, 41] else if t.kind = 3 then fmtL t.letter else if t.kind = 4 then [46] else if t.kind = 5 then [124] else if t.kind = 6 then [42]
 else (((([123] : List UInt8) ++ fmtI t.low) ++ [44]) ++ fmtI t.high) ++ [125]
def rdK (s : List UInt8) (k : Nat) : Option Nat := (List.range k).find? fun i => decide (1 ≤ i ∧ i ≠ 3 ∧ tokS ⟨(i : Int), 0, 0, 0⟩ = s)
theorem Zsh {s : List UInt8} : rdK s 1 = none := by simp [rdK, List.range_succ]
theorem Zvb {s : List UInt8} {k : Nat} (h : rdK s k = none) (hn : k = 3 ∨ ¬ tokS ⟨(k : Int), 0, 0, 0⟩ = s) : rdK s (k + 1) = none := by
 unfold rdK at *
 rw [List.range_succ, List.find?_append, h]
 rcases hn with hn | hn <;> simp [hn]
def rdT (s : List UInt8) : Token := match rdK s 7 with
 | some i => ⟨(i : Int), 0, 0, 0⟩
 | none => if (plR s).2 = true then ⟨3, (plR s).1, 0, 0⟩ else if s.length = 5 ∧ bat s 0 = 123 ∧ bat s 2 = 44 ∧ bat s 4 = 125 then ⟨7, 0, bat s 1 - 48, bat s 3 - 48⟩ else ⟨0, 0, 0, 0⟩
theorem Zly {s : List UInt8} {k : Nat} (h : rdK s k = none) (h1 : 1 ≤ k) (h3 : ¬ k = 3) (h6 : k ≤ 6) (hy : tokS ⟨(k : Int), 0, 0, 0⟩ = s) : ⟨(k : Int), 0, 0, 0⟩ = rdT s := by
 have : rdK s 7 = some k := Zlc h (by simp [hy, h1, h3]) (by omega)
 unfold rdT; rw [this]
theorem Qy {s : List UInt8} {k : Nat} (h : rdK s k = none) (h6 : ¬ (k : Int) ≤ 6) (h7 : k ≤ 7) : rdK s 7 = none := by
 obtain rfl : k = 7 := by omega
 exact h
theorem Zlz {s : List UInt8} (h : rdK s 7 = none) (hp : (plR s).2 = true) : ⟨3, (plR s).1, 0, 0⟩ = rdT s := by unfold rdT; rw [h]; simp [hp]
theorem Zlw {s : List UInt8} (h : rdK s 7 = none) (hp : (plR s).2 = false) (hc : s.length = 5 ∧ bat s 0 = 123 ∧ bat s 2 = 44 ∧ bat s 4 = 125) : ⟨7, 0, bat s 1 - 48, bat s 3 - 48⟩ = rdT s := by unfold rdT; rw [h]; simp [hp, hc]
theorem Zlu {s : List UInt8} (h : rdK s 7 = none) (hp : (plR s).2 = false) (hc : ¬ (s.length = 5 ∧ bat s 0 = 123 ∧ bat s 2 = 44 ∧ bat s 4 = 125)) : ⟨0, 0, 0, 0⟩ = rdT s := by unfold rdT; rw [h]; simp only [hp]; rw [if_neg (by simp), if_neg hc]
def parS (s : List UInt8) : List Token × Bool := if ivE (((Qe s 32 []).take 25).map rdT) = true then (((Qe s 32 []).take 25).map rdT, true) else ([], false)
theorem Qp {α : Type} {l : List α} {i : Nat} (h : l.length ≤ i ∨ 25 ≤ i) (h2 : i ≤ 25) : l.take i = l.take 25 := by
 rcases h with h | h
 ·rw [List.take_of_length_le h, List.take_of_length_le (by omega)]
 rw [show i = 25 by omega]
theorem Zgd {s : List UInt8} {ts : List Token} (ht : ts = ((Qe s 32 []).take 25).map rdT) (h : ivE ts = true) : parS s = (ts, true) := by unfold parS; rw [← ht, if_pos h]
theorem Zge {s : List UInt8} {ts : List Token} (ht : ts = ((Qe s 32 []).take 25).map rdT) (h : ivE ts = false) : parS s = ([], false) := by unfold parS; rw [← ht, if_neg (by rw [h]; simp)]
theorem Zdf {α β : Type} {f : α → β} {l : List α} {i : Nat} {y : α} (h : l[i]? = some y) : (l.take i).map f ++ [f y] = (l.take (i + 1)).map f := by rw [Zaa h, List.map_append]; rfl
def Ztc : List (List UInt8) := [[97], [97, 32, 98, 32, 46], [97, 32, 42], [97, 32, 98, 32, 124, 32, 42], [97, 32, 97, 45, 32, 46], [97, 32, 42, 32, 98, 32, 46], [97, 32, 98, 32, 42, 32, 46, 32, 99, 32, 46], [97, 32, 97, 32, 124, 32, 42], [97, 32, 98, 32, 46, 32, 42], [48, 32, 97, 32, 46, 32, 42], [97, 32, 49, 32, 46, 32, 98, 32, 46], [97, 32, 123, 48, 44, 50, 125], [97, 32, 98, 32, 124, 32, 123, 49, 44, 51, 125], [40, 41], [33], [97, 45, 32, 42, 32, 97, 32, 46], [97, 32, 98, 45, 32, 46, 32, 42, 32, 99, 32, 124], [97, 32, 42, 32, 97, 32, 42, 32, 46], [97, 32, 48, 32, 124, 32, 42, 32, 98, 32, 46], [97, 32, 97, 32, 46, 32, 42], [97, 32, 98, 32, 46, 32, 98, 32, 97, 32, 46, 32, 124, 32, 42]]
theorem Zrj : ∀ x ∈ Ztc, 1 ≤ (parS x).1.length ∧ (parS x).1.length ≤ 24 := by decide +kernel
end Go.KLib

namespace Go.KLib
section
variable {P : Program} {w : World} {l : KL} {dst : Option Tmp} {ty : TypeId} {pos : String} {aft : Array Go.Edge} {gd : Option (Nat × Bool)} {x y : Operand} {xt yt : TypeId} {a b : Int} {k : IntKind}
theorem Zwo {t : TypeId} (h : -9223372036854775808 ≤ -a ∧ -a ≤ 9223372036854775807) (hx : ev l x = some (.int .i64 a)) : Qd P l ⟨dst, .unOp .neg t x, ty, pos, aft, gd⟩ w (.int .i64 (-a)) w := fun ρ hρ => by
 have e : IntKind.i64.wrap (-a) = -a := IntWalk.i64_in _ h
 simp [execOp, hρ _ _ hx, Op.unary, Op.intArith, e]
theorem Zvc (hb : ¬ b = 0) (h : -9223372036854775808 ≤ a.tdiv b ∧ a.tdiv b ≤ 9223372036854775807) (hx : ev l x = some (.int .i64 a)) (hy : ev l y = some (.int .i64 b)) :
   Qd P l ⟨dst, .binOp .quo xt x y yt, ty, pos, aft, gd⟩ w (.int .i64 (a.tdiv b)) w := fun ρ hρ => by
 have e := IntWalk.i64_in _ h
 simp [execOp, hρ _ _ hx, hρ _ _ hy, eqGuard, binOp, Op.intDiv, hb, e]
end
theorem td10 {m : Int} (h : -9223372036854775808 ≤ m ∧ m ≤ 9223372036854775807) : -9223372036854775808 ≤ m.tdiv 10 ∧ m.tdiv 10 ≤ 9223372036854775807 := by
 have e1 : (m.tdiv 10).natAbs = m.natAbs / 10 := Int.natAbs_tdiv m 10
 omega
theorem Zvl {m : Int} (h : ¬ m = 0) : (m.tdiv 10).natAbs < m.natAbs := by
 have e1 : (m.tdiv 10).natAbs = m.natAbs / 10 := Int.natAbs_tdiv m 10
 omega
theorem tm10 (m : Int) : -9 ≤ m.tmod 10 ∧ m.tmod 10 ≤ 9 := by
 have e2 : (m.tmod 10).natAbs = m.natAbs % 10 := Int.natAbs_tmod m 10
 omega
theorem Zqp : ∀ x ∈ Ztc, x.length ≤ 20 := by decide
theorem Zdm {t : Token} {d : Int} (h : d = 0) : 1 ≤ [t].length ∧ [t].length + 1 ≤ 2 ^ (d.toNat + 1) := by subst h; simp
theorem Zsv {d d1 : Int} (hd : d1 = d - 1) (h0 : 0 ≤ d1) : 2 ^ (d.toNat + 1) = 2 * 2 ^ (d1.toNat + 1) := by
 rw [show d.toNat + 1 = (d1.toNat + 1) + 1 by omega, Nat.pow_succ, Nat.mul_comm]
theorem Zbw {a b : List Token} {t : Token} {d d1 : Int} (ha : 1 ≤ a.length ∧ a.length + 1 ≤ 2 ^ (d1.toNat + 1)) (hb : 1 ≤ b.length ∧ b.length + 1 ≤ 2 ^ (d1.toNat + 1)) (hd : d1 = d - 1) (h0 : 0 ≤ d1) : 1 ≤ (a ++ b ++ [t]).length ∧ (a ++ b ++ [t]).length + 1 ≤ 2 ^ (d.toNat + 1) := by
 rw [Zsv hd h0]; simp only [List.length_append, List.length_singleton]; omega
theorem Zbv {a : List Token} {t : Token} {d d1 : Int} (ha : 1 ≤ a.length ∧ a.length + 1 ≤ 2 ^ (d1.toNat + 1)) (hd : d1 = d - 1) (h0 : 0 ≤ d1) : 1 ≤ (a ++ [] ++ [t]).length ∧ (a ++ [] ++ [t]).length + 1 ≤ 2 ^ (d.toNat + 1) := by
 rw [Zsv hd h0]; simp only [List.length_append, List.length_singleton, List.length_nil]; omega
theorem Zhg {n : Nat} {d : Int} (h : 1 ≤ n ∧ n + 1 ≤ 2 ^ (d.toNat + 1)) (h0 : d ≤ 3) : 1 ≤ n ∧ n ≤ 15 := by
 have : 2 ^ (d.toNat + 1) ≤ 2 ^ 4 := Nat.pow_le_pow_right (by decide) (by omega)
 omega
end Go.KLib

namespace Go.KLib
open Go.ChangeShapes Go.WideShapes Go.ChangeAt Go.RowKit Go.Deep Go.Joins
section
variable {H : Type} {enc : TypeId × Value → H} {P : Program} {w : World} {base : Nat} {spare : Nat → Bool} {held : Bool}
theorem Zwb {t : TypeId} {fuel : Nat} {cs : List Value} {x : DataW H × List MemPlace} (ht : P.underlying t = some (.int .u8)) (h : DataW.trod enc P w base spare held fuel t cs = some x) : ∃ n : Int, cs = ucs n := by
 obtain ⟨n, hn, _⟩ := DataW.trod_int ht h
 exact ⟨n, hn⟩
end
end Go.KLib

namespace Go.KLib
def Pw (L : List Int → Prop) : Nat → List Int → Prop
 | 0, w => w = []
 | k + 1, w => ∃ u v, w = u ++ v ∧ Pw L k u ∧ L v
def Lg : Tr → List Int → Prop
 | .l0 t => fun w => if t.kind = 2 then w = [] else if t.kind = 3 then w = [t.letter] else False
 | .l1 t x => fun w => if t.kind = 6 then ∃ k, Pw (Lg x) k w else if t.kind = 7 then ∃ k : Nat, t.low ≤ (k : Int) ∧ (k : Int) ≤ t.high ∧ Pw (Lg x) k w else False
 | .l2 t x y => fun w => if t.kind = 4 then ∃ u v, w = u ++ v ∧ Lg x u ∧ Lg y v else if t.kind = 5 then Lg x w ∨ Lg y w else False
theorem Lg6 {t : Token} {x : Tr} {w : List Int} (h : t.kind = 6) : Lg (.l1 t x) w ↔ ∃ k, Pw (Lg x) k w := by simp only [Lg, if_pos h]
theorem Lg7 {t : Token} {x : Tr} {w : List Int} (h : t.kind = 7) : Lg (.l1 t x) w ↔ ∃ k : Nat, t.low ≤ (k : Int) ∧ (k : Int) ≤ t.high ∧ Pw (Lg x) k w := by simp only [Lg, if_neg (show ¬ t.kind = 6 by omega), if_pos h]
theorem Lg4 {t : Token} {x y : Tr} {w : List Int} (h : t.kind = 4) : Lg (.l2 t x y) w ↔ ∃ u v, w = u ++ v ∧ Lg x u ∧ Lg y v := by simp only [Lg, if_pos h]
theorem Lg5 {t : Token} {x y : Tr} {w : List Int} (h : t.kind = 5) : Lg (.l2 t x y) w ↔ Lg x w ∨ Lg y w := by simp only [Lg, if_neg (show ¬ t.kind = 4 by omega), if_pos h]
def seg (w : List Int) (i j : Nat) : List Int := (w.drop i).take (j - i)
section
variable {w : List Int} {i j k n : Nat} {A B : Nat → Nat → Bool} {L M : List Int → Prop}
theorem Zuk (hi : i ≤ j) (hj : j ≤ w.length) : seg w i j = [] ↔ i = j := by
 unfold seg
 rw [← List.length_eq_zero_iff, List.length_take, List.length_drop]; omega
theorem Zma (hi : i ≤ j) (hj : j ≤ w.length) : (seg w i j).length = j - i := by
 unfold seg; rw [List.length_take, List.length_drop]; omega
theorem Zpb (h1 : i ≤ k) (h2 : k ≤ j) : seg w i j = seg w i k ++ seg w k j := by
 unfold seg
 have e : j - i = (k - i) + (j - k) := by omega
 rw [e, List.take_add, List.drop_drop, show i + (k - i) = k by omega]
theorem Zqk {u v : List Int} (hi : i ≤ j) (hj : j ≤ w.length) (h : seg w i j = u ++ v) : seg w i (i + u.length) = u ∧ seg w (i + u.length) j = v ∧ i + u.length ≤ j := by
 have hl := congrArg List.length h
 rw [Zma hi hj, List.length_append] at hl
 have h2 := Zpb (w := w) (i := i) (k := i + u.length) (j := j) (by omega) (by omega)
 have h3 : (seg w i (i + u.length)).length = u.length := by rw [Zma (by omega) (by omega)]; omega
 rw [h] at h2
 obtain ⟨a, b⟩ := List.append_inj h2 (by rw [h3])
 exact ⟨a.symm, b.symm, by omega⟩
theorem Ztv : seg w 0 w.length = w := by simp [seg]
theorem Ztr {c : Int} (hi : i ≤ j) (hj : j ≤ w.length) : seg w i j = [c] ↔ j = i + 1 ∧ w[i]? = some c := by
 constructor
 ·intro h
  have hl := congrArg List.length h
  rw [Zma hi hj] at hl
  simp only [List.length_singleton] at hl
  refine ⟨by omega, ?_⟩
  have h2 : (seg w i j)[0]? = some c := by rw [h]; rfl
  unfold seg at h2
  rw [List.getElem?_take, if_pos (by omega), List.getElem?_drop] at h2
  exact h2
 rintro ⟨rfl, h⟩
 unfold seg
 rw [show i + 1 - i = 1 by omega, List.drop_eq_getElem?_toList_append]
 rw [h]; rfl
theorem Zvd (hi : i ≤ j) (hj : j ≤ w.length) : idM true i j = true ↔ seg w i j = [] := by
 rw [Zuk hi hj]; simp [idM]
theorem Zsj (hn : n = w.length + 1) (ta : Tri A) (tb : Tri B) (hA : ∀ i j, i ≤ j → j ≤ w.length → (A i j = true ↔ L (seg w i j))) (hB : ∀ i j, i ≤ j → j ≤ w.length → (B i j = true ↔ M (seg w i j))) (hi : i ≤ j) (hj : j ≤ w.length) :
   mulM n A B i j = true ↔ ∃ u v, seg w i j = u ++ v ∧ L u ∧ M v := by
 rw [Zei]
 constructor
 ·rintro ⟨k, hk, h1, h2⟩
  have e1 : i ≤ k := Nat.le_of_not_lt fun h => by rw [ta i k h] at h1; cases h1
  have e2 : k ≤ j := Nat.le_of_not_lt fun h => by rw [tb k j h] at h2; cases h2
  exact ⟨_, _, Zpb e1 e2, (hA i k e1 (by omega)).1 h1, (hB k j e2 hj).1 h2⟩
 rintro ⟨u, v, h, h1, h2⟩
 obtain ⟨a, b, c⟩ := Zqk hi hj h
 exact ⟨i + u.length, by omega, (hA _ _ (by omega) (by omega)).2 (by rw [a]; exact h1), (hB _ _ c hj).2 (by rw [b]; exact h2)⟩
theorem Zkp (hn : n = w.length + 1) (ta : Tri A) (hA : ∀ i j, i ≤ j → j ≤ w.length → (A i j = true ↔ L (seg w i j))) : ∀ (k i j : Nat), i ≤ j → j ≤ w.length → (powM n A k i j = true ↔ Pw L k (seg w i j))
 | 0, i, j, hi, hj => Zvd hi hj
 | k + 1, i, j, hi, hj => by
  rw [powM, Zsj hn (Zcy ta k) ta (Zkp hn ta hA k) hA hi hj]; rfl
theorem Znl (ta : Tri A) (hj : j < n) : ∀ k, powM n A k i j = true → ∃ m, m < n ∧ powM n A m i j = true
 | 0, h => ⟨0, by omega, h⟩
 | k + 1, h => by
  by_cases hk : k + 1 < n
  ·exact ⟨k + 1, hk, h⟩
  exact Znl ta hj k (Zjy ta k i j h (by omega))
theorem Zqd {low : Int} : repM n A low k i j = true ↔ ∃ m : Nat, m < k ∧ low ≤ (m : Int) ∧ powM n A m i j = true := by
 unfold repM
 rw [List.any_eq_true]
 exact ⟨fun ⟨m, hm, h⟩ => ⟨m, List.mem_range.1 hm, by simpa using h⟩, fun ⟨m, hm, h⟩ => ⟨m, List.mem_range.2 hm, by simpa using h⟩⟩
end
theorem idF (i j : Nat) : idM false i j = false := by simp [idM]
theorem Zrg {w : List Int} : ∀ (t : Tr) (i j : Nat), i ≤ j → j ≤ w.length → (mtT w t i j = true ↔ Lg t (seg w i j))
 | .l0 t, i, j, hi, hj => by
  unfold mtT Lg
  by_cases h2 : t.kind = 2
  ·rw [if_pos h2, if_pos h2]; exact Zvd hi hj
  by_cases h3 : t.kind = 3
  ·rw [if_neg h2, if_pos h3, if_neg h2, if_pos h3, Ztr hi hj]; simp [ltM]
  rw [if_neg h2, if_neg h3, if_neg h2, if_neg h3, idF]; simp
 | .l1 t x, i, j, hi, hj => by
  have ih := Zrg (w := w) x
  have tx := Qr w x
  unfold mtT Lg
  by_cases h6 : t.kind = 6
  ·rw [if_pos h6, if_pos h6, Zqd]
   constructor
   ·rintro ⟨m, _, _, h⟩; exact ⟨m, (Zkp rfl tx ih m i j hi hj).1 h⟩
   rintro ⟨m, h⟩
   obtain ⟨q, hq, h⟩ := Znl (i := i) (n := w.length + 1) tx (by omega) m ((Zkp rfl tx ih m i j hi hj).2 h)
   exact ⟨q, hq, by omega, h⟩
  by_cases h7 : t.kind = 7
  ·rw [if_neg h6, if_pos h7, if_neg h6, if_pos h7, Zqd]
   constructor
   ·rintro ⟨m, h1, h2, h⟩; exact ⟨m, h2, by omega, (Zkp rfl tx ih m i j hi hj).1 h⟩
   rintro ⟨m, h1, h2, h⟩; exact ⟨m, by omega, h1, (Zkp rfl tx ih m i j hi hj).2 h⟩
  rw [if_neg h6, if_neg h7, if_neg h6, if_neg h7, idF]; simp
 | .l2 t x y, i, j, hi, hj => by
  have ih := Zrg (w := w) x
  have ih2 := Zrg (w := w) y
  unfold mtT Lg
  by_cases h4 : t.kind = 4
  ·rw [if_pos h4, if_pos h4]; exact Zsj rfl (Qr w x) (Qr w y) ih ih2 hi hj
  by_cases h5 : t.kind = 5
  ·rw [if_neg h4, if_pos h5, if_neg h4, if_pos h5]
   show (mtT w x i j || mtT w y i j) = true ↔ _
   rw [Bool.or_eq_true, ih i j hi hj, ih2 i j hi hj]
  rw [if_neg h4, if_neg h5, if_neg h4, if_neg h5, idF]; simp
theorem mt_w {w : List Int} {t : Tr} : mtT w t 0 w.length = true ↔ Lg t w := by
 rw [Zrg t 0 w.length (Nat.zero_le _) (Nat.le_refl _), Ztv]
section
variable {L M : List Int → Prop} {w u v : List Int} {k m : Nat}
theorem Pw.app (h : Pw L k u) : ∀ {m : Nat} {v : List Int}, Pw L m v → Pw L (k + m) (u ++ v)
 | 0, v, h2 => by rw [show v = [] from h2, List.append_nil]; exact h
 | m + 1, v, ⟨a, b, e, h2, h3⟩ => ⟨u ++ a, b, by rw [e, List.append_assoc], h.app h2, h3⟩
theorem Pw.one : Pw L 1 w ↔ L w := ⟨fun ⟨a, b, e, h, k⟩ => by rw [e, show a = [] from h]; exact k, fun h => ⟨[], w, rfl, rfl, h⟩⟩
theorem Pw.cons (h : L u) (k1 : Pw L k v) : Pw L (k + 1) (u ++ v) := by
 have := (Pw.one.2 h).app k1
 rwa [Nat.add_comm 1 k] at this
theorem Pw.nil (h : L []) : ∀ k, Pw L k []
 | 0 => rfl
 | k + 1 => ⟨[], [], rfl, Pw.nil h k, h⟩
theorem Pw.uncons : ∀ {k : Nat} {w : List Int}, Pw L (k + 1) w → ∃ u v, w = u ++ v ∧ L u ∧ Pw L k v
 | 0, w, h => ⟨w, [], by simp, Pw.one.1 h, rfl⟩
 | k + 1, w, ⟨a, b, e, h, h2⟩ => by
  obtain ⟨u, v, e2, h3, h4⟩ := Pw.uncons h
  exact ⟨u, v ++ b, by rw [e, e2, List.append_assoc], h3, v, b, rfl, h4, h2⟩
theorem Pw.mono (h : ∀ w, L w → M w) : ∀ {k : Nat} {w : List Int}, Pw L k w → Pw M k w
 | 0, _, h1 => h1
 | _ + 1, _, ⟨a, b, e, h1, h2⟩ => ⟨a, b, e, h1.mono h, h b h2⟩
theorem Pw.first {x : Int} : ∀ {k : Nat} {w : List Int}, Pw L k (x :: w) → ∃ u v m, w = u ++ v ∧ L (x :: u) ∧ Pw L m v ∧ m + 1 ≤ k ∧ (m + 1 = k ∨ L [])
 | 0, w, h => by cases h
 | k + 1, w, h => by
  obtain ⟨u, v, e, h1, h2⟩ := Pw.uncons h
  cases u with
  | nil =>
   simp only [List.nil_append] at e; subst e
   obtain ⟨u, v, m, e, a, b, c, _⟩ := Pw.first h2
   exact ⟨u, v, m, e, a, b, by omega, .inr h1⟩
  | cons y u =>
   simp only [List.cons_append, List.cons.injEq] at e
   obtain ⟨rfl, e⟩ := e
   exact ⟨u, v, k, e, h1, h2, Nat.le_refl _, .inl rfl⟩
end
def Ex (e : List Token) (L : List Int → Prop) : Prop := ∃ t, Okd t ∧ e = t.flat ∧ ∀ w, Lg t w ↔ L w
section
variable {a b : List Token} {L M N : List Int → Prop}
theorem Ex.of {t : Tr} (h : Okd t) : Ex t.flat (Lg t) := ⟨t, h, rfl, fun _ => Iff.rfl⟩
theorem Ex.isE (h : Ex a L) : isE a = true := by
 obtain ⟨t, h1, h2, _⟩ := h
 unfold Go.KLib.isE; rw [h2, Zcr h1]; rfl
theorem Ex.single {t : Token} (h : Ex a L) (hl : a = [t]) : arT t = 0 ∧ ∀ w, L w ↔ Lg (.l0 t) w := by
 obtain ⟨x, h1, h2, h3⟩ := h
 rw [hl] at h2
 cases x with
 | l0 y =>
  simp only [Tr.flat, List.cons.injEq, and_true] at h2
  subst h2
  exact ⟨h1, fun w => (h3 w).symm⟩
 | l1 y q =>
  have := congrArg List.length h2
  rw [Tr.flat_len] at this
  have := q.sz_pos
  simp [Tr.sz] at *; omega
 | l2 y q r =>
  have := congrArg List.length h2
  rw [Tr.flat_len] at this
  have := q.sz_pos
  have := r.sz_pos
  simp [Tr.sz] at *; omega
theorem Zvm {e : List Token} {k : Int} (h : isK e k = true) : ∃ y, e = [y] ∧ y.kind = k := by
 unfold isK at h
 simp only [decide_eq_true_eq] at h
 obtain ⟨h1, h2⟩ := h
 match e, h1 with
 | [y], _ => exact ⟨y, rfl, h2⟩
theorem Ex.k1 (h : Ex a L) (hk : isK a 1 = true) : ∀ w, ¬ L w := fun w hw => by
 obtain ⟨y, rfl, hy⟩ := Zvm hk
 have := (h.single rfl).2 w
 rw [this] at hw
 simp [Lg, hy] at hw
theorem Ex.k2 (h : Ex a L) (hk : isK a 2 = true) : ∀ w, L w ↔ w = [] := fun w => by
 obtain ⟨y, rfl, hy⟩ := Zvm hk
 rw [(h.single rfl).2 w]
 simp [Lg, hy]
end
section
variable {e a b : List Token} {L M : List Int → Prop} {w : List Int}
theorem Zot (h : Ex e L) (hv : ivE e = true) (hw : IsWd w) : mwE e w = true ↔ L w := by
 obtain ⟨t, h1, h2, h3⟩ := h
 rw [Zlx hv hw (t := t) (by rw [h2]; exact Zcr h1), mt_w, h3]
end
end Go.KLib

namespace Go.KLib
section
variable {e : List Token} {n : Int} {w u : List Int} {i : Nat}
end
end Go.KLib

namespace Go.KLib
def Rn (E : Nat → Nat → Prop) (La : Nat → Int → Prop) : Nat → List Int → Nat → Prop
 | p, [], q => p = q
 | p, c :: w, q => ∃ r, E p r ∧ La r c ∧ Rn E La r w q
def Ac (E : Nat → Nat → Prop) (La : Nat → Int → Prop) (f l : Nat → Prop) (n : Prop) : List Int → Prop
 | [] => n
 | c :: w => ∃ p q, f p ∧ La p c ∧ Rn E La p w q ∧ l q
section
variable {E E' Ex Ey : Nat → Nat → Prop} {La : Nat → Int → Prop} {f l fx lx fy ly sx : Nat → Prop} {n nx ny : Prop} {p q r : Nat} {u v w : List Int}
theorem Rn.app : ∀ {u : List Int} {p : Nat}, Rn E La p u q → Rn E La q v r → Rn E La p (u ++ v) r
 | [], p, h, k => by rw [show p = q from h]; exact k
 | c :: u, p, ⟨s, a, b, h⟩, k => ⟨s, a, b, h.app k⟩
theorem Rn.mono (h : ∀ p q, E p q → E' p q) : ∀ {w : List Int} {p : Nat}, Rn E La p w q → Rn E' La p w q
 | [], _, e => e
 | _ :: _, _, ⟨s, a, b, k⟩ => ⟨s, h _ _ a, b, k.mono h⟩
theorem Zud : Ac (fun p q => E p q ∨ (l p ∧ f q)) La f l True w ↔ ∃ k, Pw (Ac E La f l n) k w := by
 constructor
 ·intro h
  have key : ∀ (w : List Int) (p q : Nat), Rn (fun p q => E p q ∨ (l p ∧ f q)) La p w q → l q → ∃ u v, w = u ++ v ∧ (∃ q1, Rn E La p u q1 ∧ l q1) ∧ ∃ k, Pw (Ac E La f l n) k v := by
   intro w
   induction w with
   | nil => intro p q h hl; exact ⟨[], [], rfl, ⟨p, rfl, by rw [show p = q from h]; exact hl⟩, 0, rfl⟩
   | cons c w ih =>
    rintro p q ⟨s, a, b, h⟩ hl
    obtain ⟨u, v, e, ⟨q1, h1, h2⟩, k, h3⟩ := ih s q h hl
    rcases a with a | ⟨a1, a2⟩
    ·exact ⟨c :: u, v, by rw [e]; rfl, ⟨q1, ⟨s, a, b, h1⟩, h2⟩, k, h3⟩
    exact ⟨[], c :: w, rfl, ⟨p, rfl, a1⟩, k + 1, by rw [e]; exact Pw.cons (u := c :: u) (show Ac E La f l n (c :: u) from ⟨s, q1, a2, b, h1, h2⟩) h3⟩
  cases w with
  | nil => exact ⟨0, rfl⟩
  | cons c w =>
   obtain ⟨p, q, h1, h2, h3, h4⟩ := h
   obtain ⟨u, v, e, ⟨q1, h5, h6⟩, k, h7⟩ := key w p q h3 h4
   exact ⟨k + 1, by rw [e]; exact Pw.cons (u := c :: u) (show Ac E La f l n (c :: u) from ⟨p, q1, h1, h2, h5, h6⟩) h7⟩
 rintro ⟨k, h⟩
 induction k generalizing w with
 | zero => rw [show w = [] from h]; trivial
 | succ k ih =>
  obtain ⟨u, v, e, h1, h2⟩ := Pw.uncons h
  have h3 := ih h2
  cases u with
  | nil => rw [e]; exact h3
  | cons c u =>
   obtain ⟨p, q, a1, a2, a3, a4⟩ := h1
   have a5 := a3.mono (E' := fun p q => E p q ∨ (l p ∧ f q)) (fun _ _ => .inl)
   rw [e]
   cases v with
   | nil => rw [List.append_nil]; exact ⟨p, q, a1, a2, a5, a4⟩
   | cons d v =>
    obtain ⟨p2, q2, b1, b2, b3, b4⟩ := h3
    exact ⟨p, q2, a1, a2, a5.app (v := d :: v) ⟨p2, .inr ⟨a4, b1⟩, b2, b3⟩, b4⟩
theorem Zwe (hx : ∀ p q, Ex p q → sx p ∧ sx q) (hy : ∀ p q, Ey p q → ¬ sx p ∧ ¬ sx q) (hfx : ∀ p, fx p → sx p) (hlx : ∀ p, lx p → sx p) (hfy : ∀ p, fy p → ¬ sx p) (hly : ∀ p, ly p → ¬ sx p) :
   Ac (fun p q => Ex p q ∨ Ey p q ∨ (lx p ∧ fy q)) La (fun p => fx p ∨ (nx ∧ fy p)) (fun p => ly p ∨ (ny ∧ lx p)) (nx ∧ ny) w ↔ ∃ u v, w = u ++ v ∧ Ac Ex La fx lx nx u ∧ Ac Ey La fy ly ny v := by
 have ky : ∀ (w : List Int) (p q : Nat), ¬ sx p → Rn (fun p q => Ex p q ∨ Ey p q ∨ (lx p ∧ fy q)) La p w q → Rn Ey La p w q ∧ ¬ sx q := by
  intro w
  induction w with
  | nil => intro p q hp h; exact ⟨h, by rw [← show p = q from h]; exact hp⟩
  | cons c w ih =>
   rintro p q hp ⟨s, a, b, h⟩
   rcases a with a | a | a
   ·exact (hp (hx _ _ a).1).elim
   ·have := ih s q (hy _ _ a).2 h
    exact ⟨⟨s, a, b, this.1⟩, this.2⟩
   exact (hp (hlx _ a.1)).elim
 have kx : ∀ (w : List Int) (p q : Nat), sx p → Rn (fun p q => Ex p q ∨ Ey p q ∨ (lx p ∧ fy q)) La p w q → (sx q ∧ Rn Ex La p w q) ∨ (¬ sx q ∧ ∃ u c v p1 p2, w = u ++ c :: v ∧ Rn Ex La p u p1 ∧ lx p1 ∧ fy p2 ∧ La p2 c ∧ Rn Ey La p2 v q) := by
  intro w
  induction w with
  | nil => intro p q hp h; exact .inl ⟨by rw [← show p = q from h]; exact hp, h⟩
  | cons c w ih =>
   rintro p q hp ⟨s, a, b, h⟩
   rcases a with a | a | a
   ·rcases ih s q (hx _ _ a).2 h with ⟨h1, h2⟩ | ⟨h1, u, d, v, p1, p2, e, h2, h3, h4, h5, h6⟩
    ·exact .inl ⟨h1, s, a, b, h2⟩
    exact .inr ⟨h1, c :: u, d, v, p1, p2, by rw [e]; rfl, ⟨s, a, b, h2⟩, h3, h4, h5, h6⟩
   ·exact ((hy _ _ a).1 hp).elim
   have := ky w s q (hfy _ a.2) h
   exact .inr ⟨this.2, [], c, w, p, s, rfl, rfl, a.1, a.2, b, this.1⟩
 constructor
 ·intro h
  cases w with
  | nil => exact ⟨[], [], rfl, h.1, h.2⟩
  | cons c w =>
   obtain ⟨p, q, h1, h2, h3, h4⟩ := h
   rcases h1 with h1 | ⟨h0, h1⟩
   ·rcases kx w p q (hfx _ h1) h3 with ⟨k1, k2⟩ | ⟨k1, u, d, v, p1, p2, e, k2, k3, k4, k5, k6⟩
    ·rcases h4 with h4 | ⟨h4, h5⟩
     ·exact (hly _ h4 k1).elim
     exact ⟨c :: w, [], by simp, ⟨p, q, h1, h2, k2, h5⟩, h4⟩
    rcases h4 with h4 | ⟨h4, h5⟩
    ·exact ⟨c :: u, d :: v, by rw [e]; rfl, ⟨p, p1, h1, h2, k2, k3⟩, ⟨p2, q, k4, k5, k6, h4⟩⟩
    exact (k1 (hlx _ h5)).elim
   have k := ky w p q (hfy _ h1) h3
   rcases h4 with h4 | ⟨h4, h5⟩
   ·exact ⟨[], c :: w, rfl, h0, ⟨p, q, h1, h2, k.1, h4⟩⟩
   exact (k.2 (hlx _ h5)).elim
 rintro ⟨u, v, e, h1, h2⟩
 rw [e]
 cases u with
 | nil =>
  cases v with
  | nil => exact ⟨h1, h2⟩
  | cons d v =>
   obtain ⟨p, q, a1, a2, a3, a4⟩ := h2
   exact ⟨p, q, .inr ⟨h1, a1⟩, a2, a3.mono fun _ _ h => .inr (.inl h), .inl a4⟩
 | cons c u =>
  obtain ⟨p, q, a1, a2, a3, a4⟩ := h1
  have a5 := a3.mono (E' := fun p q => Ex p q ∨ Ey p q ∨ (lx p ∧ fy q)) fun _ _ h => .inl h
  cases v with
  | nil => rw [List.append_nil]; exact ⟨p, q, .inl a1, a2, a5, .inr ⟨h2, a4⟩⟩
  | cons d v =>
   obtain ⟨p2, q2, b1, b2, b3, b4⟩ := h2
   exact ⟨p, q2, .inl a1, a2, a5.app (v := d :: v) ⟨p2, .inr (.inr ⟨a4, b1⟩), b2, b3.mono fun _ _ h => .inr (.inl h)⟩, .inl b4⟩
theorem Zwd (hx : ∀ p q, Ex p q → sx p ∧ sx q) (hy : ∀ p q, Ey p q → ¬ sx p ∧ ¬ sx q) (hfx : ∀ p, fx p → sx p) (hlx : ∀ p, lx p → sx p) (hfy : ∀ p, fy p → ¬ sx p) (hly : ∀ p, ly p → ¬ sx p) :
   Ac (fun p q => Ex p q ∨ Ey p q) La (fun p => fx p ∨ fy p) (fun p => lx p ∨ ly p) (nx ∨ ny) w ↔ Ac Ex La fx lx nx w ∨ Ac Ey La fy ly ny w := by
 have ky : ∀ (w : List Int) (p q : Nat), ¬ sx p → Rn (fun p q => Ex p q ∨ Ey p q) La p w q → Rn Ey La p w q ∧ ¬ sx q := by
  intro w
  induction w with
  | nil => intro p q hp h; exact ⟨h, by rw [← show p = q from h]; exact hp⟩
  | cons c w ih =>
   rintro p q hp ⟨s, a, b, h⟩
   rcases a with a | a
   ·exact (hp (hx _ _ a).1).elim
   have := ih s q (hy _ _ a).2 h
   exact ⟨⟨s, a, b, this.1⟩, this.2⟩
 have kx : ∀ (w : List Int) (p q : Nat), sx p → Rn (fun p q => Ex p q ∨ Ey p q) La p w q → Rn Ex La p w q ∧ sx q := by
  intro w
  induction w with
  | nil => intro p q hp h; exact ⟨h, by rw [← show p = q from h]; exact hp⟩
  | cons c w ih =>
   rintro p q hp ⟨s, a, b, h⟩
   rcases a with a | a
   ·have := ih s q (hx _ _ a).2 h
    exact ⟨⟨s, a, b, this.1⟩, this.2⟩
   exact ((hy _ _ a).1 hp).elim
 cases w with
 | nil => exact Iff.rfl
 | cons c w =>
  constructor
  ·rintro ⟨p, q, h1, h2, h3, h4⟩
   rcases h1 with h1 | h1
   ·have k := kx w p q (hfx _ h1) h3
    rcases h4 with h4 | h4
    ·exact .inl ⟨p, q, h1, h2, k.1, h4⟩
    exact (hly _ h4 k.2).elim
   have k := ky w p q (hfy _ h1) h3
   rcases h4 with h4 | h4
   ·exact (k.2 (hlx _ h4)).elim
   exact .inr ⟨p, q, h1, h2, k.1, h4⟩
  rintro (⟨p, q, h1, h2, h3, h4⟩ | ⟨p, q, h1, h2, h3, h4⟩)
  ·exact ⟨p, q, .inl h1, h2, h3.mono fun _ _ => .inl, .inl h4⟩
  exact ⟨p, q, .inr h1, h2, h3.mono fun _ _ => .inr, .inr h4⟩
theorem Zjj {f' l' : Nat → Prop} {n' : Prop} (hE : ∀ p q, E p q ↔ E' p q) (hf : ∀ p, f p ↔ f' p) (hl : ∀ p, l p ↔ l' p) (hn : n ↔ n') : Ac E La f l n w ↔ Ac E' La f' l' n' w := by
 have e1 : E = E' := funext fun p => funext fun q => propext (hE p q)
 have e2 : f = f' := funext fun p => propext (hf p)
 have e3 : l = l' := funext fun p => propext (hl p)
 have e4 : n = n' := propext hn
 rw [e1, e2, e3, e4]
end
end Go.KLib

namespace Go.KLib
def bt (m : Int) (p : Nat) : Prop := m.toNat.testBit p = true
instance {m : Int} {p : Nat} : Decidable (bt m p) := inferInstanceAs (Decidable (_ = true))
def okm (m : Int) (n : Nat) : Prop := 0 ≤ m ∧ m.toNat < 2 ^ n
section
variable {a b m l f : Int} {n k p q s : Nat} {F L : List Int}
theorem okm.up (h : okm m n) (hn : n ≤ k) : okm m k := ⟨h.1, Nat.lt_of_lt_of_le h.2 (Nat.pow_le_pow_right (by decide) hn)⟩
theorem okm.lt62 (h : okm m n) (hn : n ≤ 60) : m < 4611686018427387904 := by
 have h1 := (h.up hn).2
 have h2 : (2 : Nat) ^ 60 = 1152921504606846976 := by decide
 have := h.1
 omega
theorem Zje (h : okm m n) (hb : bt m p) : p < n := by
 refine Nat.lt_of_not_le fun hp => ?_
 have := Nat.testBit_lt_two_pow (Nat.lt_of_lt_of_le h.2 (Nat.pow_le_pow_right (by decide) hp))
 unfold bt at hb; rw [this] at hb; cases hb
theorem bt0 : ¬ bt 0 p := by simp [bt]
theorem okm0 : okm 0 n := ⟨Int.le_refl _, Nat.two_pow_pos n⟩
theorem Zkm (ha : okm a n) (hb : okm b n) (hn : n ≤ 60) : okm (ior a b) n := by
 obtain ⟨x, rfl⟩ := Int.eq_ofNat_of_zero_le ha.1
 obtain ⟨y, rfl⟩ := Int.eq_ofNat_of_zero_le hb.1
 rw [Zmn (by have := ha.lt62 hn; omega) (by have := hb.lt62 hn; omega)]
 exact ⟨by omega, by rw [Int.toNat_natCast]; exact Nat.or_lt_two_pow ha.2 hb.2⟩
theorem Zeq (ha : okm a n) (hb : okm b n) (hn : n ≤ 60) : bt (ior a b) p ↔ bt a p ∨ bt b p := by
 obtain ⟨x, rfl⟩ := Int.eq_ofNat_of_zero_le ha.1
 obtain ⟨y, rfl⟩ := Int.eq_ofNat_of_zero_le hb.1
 rw [Zmn (by have := ha.lt62 hn; omega) (by have := hb.lt62 hn; omega)]
 unfold bt
 simp [Nat.testBit_or]
theorem Zks (hs : s < n) (hn : n ≤ 60) : okm (ishl 1 s) n := by
 rw [Zgw (by omega)]
 exact ⟨Int.natCast_nonneg _, by rw [Int.toNat_natCast]; exact Nat.pow_lt_pow_right (by decide) hs⟩
theorem Zcl (hs : s < 60) : bt (ishl 1 s) p ↔ p = s := by
 rw [Zgw (by omega)]
 unfold bt
 rw [Int.toNat_natCast, Nat.testBit_two_pow]
 simp [eq_comm]
theorem Zgb (h : okm m n) (hn : n ≤ 60) (hp : p ≤ 64) : iand (ishr m p) 1 = 1 ↔ bt m p := by
 have h1 := h.lt62 hn
 constructor
 ·intro e; exact Zvf e h.1 h1 hp
 intro e
 apply Classical.byContradiction
 intro hc
 have := Zva hc h.1 h1 hp
 unfold bt at e; rw [this] at e; cases e
theorem Ztf (hl : okm l n) (hn : n ≤ 60) : ∀ k, k ≤ F.length → k ≤ 60 → ∀ p, (lkN l f F k).getD p 0 = if p < k ∧ bt l p then ior (F.getD p 0) f else F.getD p 0
 | 0, _, _, p => by simp [lkN]
 | k + 1, hk, hk2, p => by
  have ih := Ztf hl hn k (by omega) (by omega)
  have hlen := Zda l f F k
  rw [lkN]
  by_cases hb : bt l k
  ·rw [if_pos ((Zgb hl hn (by omega)).2 hb), List.getD_eq_getElem?_getD, List.getElem?_set]
   by_cases e : k = p
   ·subst e
    rw [if_pos rfl, if_pos (by omega), if_pos ⟨by omega, hb⟩, ih k, if_neg (by omega)]; rfl
   rw [if_neg e, ← List.getD_eq_getElem?_getD, ih p]
   by_cases hc : p < k ∧ bt l p
   ·rw [if_pos hc, if_pos ⟨by omega, hc.2⟩]
   rw [if_neg hc, if_neg (fun c => hc ⟨by omega, c.2⟩)]
  rw [if_neg (fun c => hb ((Zgb hl hn (by omega)).1 c)), ih p]
  by_cases hc : p < k ∧ bt l p
  ·rw [if_pos hc, if_pos ⟨by omega, hc.2⟩]
  rw [if_neg hc, if_neg]
  rintro ⟨c1, c2⟩
  have : p ≠ k := fun e => hb (e ▸ c2)
  exact hc ⟨by omega, c2⟩
theorem Zov (hl : okm l n) (hn : n ≤ 60) (hF : F.length = n) (p : Nat) : (lkL l f F).getD p 0 = if bt l p then ior (F.getD p 0) f else F.getD p 0 := by
 unfold lkL
 rw [Ztf hl hn F.length (Nat.le_refl _) (by omega) p]
 by_cases hb : bt l p
 ·rw [if_pos ⟨by rw [hF]; exact Zje hl hb, hb⟩, if_pos hb]
 rw [if_neg (fun c => hb c.2), if_neg hb]
end
def NoR : Tr → Prop
 | .l0 _ => True
 | .l1 t x => ¬ t.kind = 7 ∧ NoR x
 | .l2 _ x y => NoR x ∧ NoR y
def Ed (F : List Int) (m : Nat) (p q : Nat) : Prop := m ≤ p ∧ bt (F.getD p 0) q
structure Gk (L : List Int) (F : List Int) (t : Tr) (r : BPd) : Prop where
 X : ∃ X, r.L = L ++ X
 len : r.F.length = r.L.length
 old : ∀ p, p < L.length → r.F.getD p 0 = F.getD p 0
 f1 : okm r.f r.L.length
 f2 : ∀ p, bt r.f p → L.length ≤ p
 l1 : okm r.l r.L.length
 l2 : ∀ p, bt r.l p → L.length ≤ p
 F1 : ∀ p, L.length ≤ p → okm (r.F.getD p 0) r.L.length
 F2 : ∀ p q, L.length ≤ p → bt (r.F.getD p 0) q → L.length ≤ q
 ac : ∀ La : Nat → Int → Prop, (∀ p c, L.length ≤ p → p < r.L.length → (La p c ↔ r.L[p]? = some c)) → ∀ w, Ac (Ed r.F L.length) La (bt r.f) (bt r.l) (r.n = true) w ↔ Lg t w
theorem Gk.le {L F : List Int} {t : Tr} {r : BPd} (h : Gk L F t r) : L.length ≤ r.L.length := by
 obtain ⟨X, hX⟩ := h.X
 rw [hX, List.length_append]; omega
theorem Zcg {F : List Int} {p : Nat} (h : F.length ≤ p) : F.getD p 0 = 0 := by
 rw [List.getD_eq_getElem?_getD, List.getElem?_eq_none h]; rfl
theorem Zqx : ∀ (t : Tr) (L F : List Int), Okd t → NoR t → F.length = L.length → (bpT t L F).L.length ≤ 50 → Gk L F t (bpT t L F)
 | .l0 t, L, F, hok, _, hF, hb => by
  unfold bpT at hb ⊢
  by_cases h2 : t.kind = 2
  ·rw [if_pos h2]
   refine ⟨⟨[], by simp⟩, hF, fun _ _ => rfl, okm0, fun p h => (bt0 h).elim, okm0, fun p h => (bt0 h).elim, fun p hp => ?_, fun p q hp h => ?_, fun La _ w => ?_⟩
   ·show okm (F.getD p 0) _; rw [Zcg (by omega)]; exact okm0
   ·replace h : bt (F.getD p 0) q := h; rw [Zcg (by omega)] at h; exact (bt0 h).elim
   simp only [Lg, if_pos h2]
   cases w with
   | nil => simp [Ac]
   | cons c w => simp only [Ac]; exact ⟨fun ⟨p, q, h, _⟩ => (bt0 h).elim, fun h => by cases h⟩
  by_cases h3 : t.kind = 3
  ·rw [if_neg h2, if_pos h3] at hb ⊢
   simp only [List.length_append, List.length_singleton] at hb
   have e0 : (F ++ [0]).getD L.length 0 = 0 := by rw [List.getD_eq_getElem?_getD, ← hF]; simp
   have e1 : ∀ p, L.length ≤ p → (F ++ [0]).getD p 0 = 0 := fun p hp => by
    by_cases e : p = L.length
    ·rw [e, e0]
    exact Zcg (by simp; omega)
   refine ⟨⟨[t.letter], rfl⟩, by simp [hF], fun p hp => ?_, ?_, fun p h => ?_, ?_, fun p h => ?_, fun p hp => ?_, fun p q hp h => ?_, fun La hLa w => ?_⟩
   ·show (F ++ [0]).getD p 0 = _
    rw [List.getD_eq_getElem?_getD, List.getElem?_append_left (by omega), ← List.getD_eq_getElem?_getD]
   ·exact Zks (by simp) (by simp; omega)
   ·rw [(Zcl (by omega)).1 h]; exact Nat.le_refl _
   ·exact Zks (by simp) (by simp; omega)
   ·rw [(Zcl (by omega)).1 h]; exact Nat.le_refl _
   ·show okm ((F ++ [0]).getD p 0) _; rw [e1 p hp]; exact okm0
   ·replace h : bt ((F ++ [0]).getD p 0) q := h; rw [e1 p hp] at h; exact (bt0 h).elim
   have hl := hLa L.length
   simp only [List.length_append, List.length_singleton] at hl
   simp only [Lg, if_neg h2, if_pos h3]
   cases w with
   | nil => simp [Ac]
   | cons c w =>
    simp only [Ac]
    constructor
    ·rintro ⟨p, q, h4, h5, h6, h7⟩
     have hp := (Zcl (by omega)).1 h4
     subst hp
     have h8 := (hl c (Nat.le_refl _) (by omega)).1 h5
     simp at h8
     cases w with
     | nil => rw [h8]
     | cons d w =>
      obtain ⟨r, h9, _⟩ := h6
      have := h9.2
      rw [e0] at this
      exact (bt0 this).elim
    intro e
    injection e with e1 e2
    subst e1 e2
    exact ⟨L.length, L.length, (Zcl (by omega)).2 rfl, (hl _ (Nat.le_refl _) (by omega)).2 (by simp), rfl, (Zcl (by omega)).2 rfl⟩
  rw [if_neg h2, if_neg h3]
  refine ⟨⟨[], by simp⟩, hF, fun _ _ => rfl, okm0, fun p h => (bt0 h).elim, okm0, fun p h => (bt0 h).elim, fun p hp => ?_, fun p q hp h => ?_, fun La _ w => ?_⟩
  ·show okm (F.getD p 0) _; rw [Zcg (by omega)]; exact okm0
  ·replace h : bt (F.getD p 0) q := h; rw [Zcg (by omega)] at h; exact (bt0 h).elim
  simp only [Lg, if_neg h2, if_neg h3]
  cases w with
  | nil => simp [Ac]
  | cons c w => simp only [Ac]; exact ⟨fun ⟨p, q, h, _⟩ => (bt0 h).elim, fun h => h.elim⟩
 | .l1 t x, L, F, hok, hnr, hF, hb => by
  have h6 : t.kind = 6 := by
   have h1 : arT t = 1 := hok.1
   have h2 := hnr.1
   rw [Zaz (by omega)] at h1
   unfold arK at h1
   split at h1
   ·cases h1
   split at h1
   ·omega
   cases h1
  unfold bpT at hb ⊢
  rw [if_pos h6] at hb ⊢
  have g := Zqx x L F hok.2 hnr.2 hF hb
  have hle := g.le
  have hn : (bpT x L F).L.length ≤ 60 := by simp only at hb; omega
  have hg := Zov (f := (bpT x L F).f) g.l1 hn g.len
  refine ⟨g.X, by simp only [Zjl]; exact g.len, fun p hp => ?_, g.f1, g.f2, g.l1, g.l2, fun p hp => ?_, fun p q hp h => ?_, fun La hLa w => ?_⟩
  ·simp only; rw [hg, if_neg (fun c => by have := g.l2 p c; omega)]; exact g.old p hp
  ·simp only; rw [hg]; split
   ·exact Zkm (g.F1 p hp) g.f1 hn
   exact g.F1 p hp
  ·simp only at h; rw [hg] at h
   split at h
   ·rcases (Zeq (g.F1 p hp) g.f1 hn).1 h with h | h
    ·exact g.F2 p q hp h
    exact g.f2 q h
   exact g.F2 p q hp h
  have hE : ∀ p q, Ed (lkL (bpT x L F).l (bpT x L F).f (bpT x L F).F) L.length p q ↔ (Ed (bpT x L F).F L.length p q ∨ (bt (bpT x L F).l p ∧ bt (bpT x L F).f q)) := fun p q => by
   unfold Ed
   rw [hg]
   by_cases hb : bt (bpT x L F).l p
   ·have hp := g.l2 p hb
    rw [if_pos hb, Zeq (g.F1 p hp) g.f1 hn]
    simp [hp, hb]
   rw [if_neg hb]; simp [hb]
  rw [Zjj hE (fun _ => Iff.rfl) (fun _ => Iff.rfl) (show (true = true) ↔ True by simp), Zud]
  simp only [Lg, if_pos h6]
  have e : Ac (Ed (bpT x L F).F L.length) La (bt (bpT x L F).f) (bt (bpT x L F).l) ((bpT x L F).n = true) = Lg x := funext fun w => propext (g.ac La hLa w)
  rw [e]
 | .l2 t x y, L, F, hok, hnr, hF, hb => by
  have h45 : t.kind = 4 ∨ t.kind = 5 := by
   have h1 : arT t = 2 := hok.1
   rw [Zaz (by omega)] at h1
   unfold arK at h1
   split at h1
   ·assumption
   split at h1
   ·cases h1
   cases h1
  have hbL : (bpT y (bpT x L F).L (bpT x L F).F).L.length ≤ 50 := by
   unfold bpT at hb
   rcases h45 with h4 | h5
   ·rw [if_pos h4] at hb; exact hb
   rw [if_neg (by omega), if_pos h5] at hb; exact hb
  have hbx : (bpT x L F).L.length ≤ (bpT y (bpT x L F).L (bpT x L F).F).L.length := by
   have : ∀ (t : Tr) (L F : List Int), L.length ≤ (bpT t L F).L.length := fun t => by
    induction t with
    | l0 t =>
     intro L F; unfold bpT
     by_cases h2 : t.kind = 2
     ·rw [if_pos h2]; exact Nat.le_refl _
     by_cases h3 : t.kind = 3
     ·rw [if_neg h2, if_pos h3]; simp
     rw [if_neg h2, if_neg h3]; exact Nat.le_refl _
    | l1 t x ih =>
     intro L F; unfold bpT
     by_cases h6 : t.kind = 6
     ·rw [if_pos h6]; exact ih L F
     rw [if_neg h6]; exact Nat.le_refl _
    | l2 t x y ih1 ih2 =>
     intro L F
     have h1 := ih1 L F
     have h2 := ih2 (bpT x L F).L (bpT x L F).F
     unfold bpT
     by_cases h4 : t.kind = 4
     ·rw [if_pos h4]; simp only; omega
     by_cases h5 : t.kind = 5
     ·rw [if_neg h4, if_pos h5]; simp only; omega
     rw [if_neg h4, if_neg h5]; exact Nat.le_refl _
   exact this y _ _
  have gx := Zqx x L F hok.2.1 hnr.1 hF (by omega)
  have gy := Zqx y (bpT x L F).L (bpT x L F).F hok.2.2 hnr.2 gx.len hbL
  generalize hX : bpT x L F = rx at *
  generalize hY : bpT y rx.L rx.F = ry at *
  have hn : ry.L.length ≤ 60 := by omega
  have lx := gx.le
  have ly := gy.le
  obtain ⟨X, eX⟩ := gx.X
  obtain ⟨Y, eY⟩ := gy.X
  have xf := gx.f1.up ly
  have xl := gx.l1.up ly
  have hxy : ∀ p, L.length ≤ p → ry.F.getD p 0 = rx.F.getD p 0 ∨ rx.L.length ≤ p := fun p _ => by
   by_cases h : p < rx.L.length
   ·exact .inl (gy.old p h)
   exact .inr (by omega)
  have okY : ∀ p, L.length ≤ p → okm (ry.F.getD p 0) ry.L.length := fun p hp => by
   by_cases h : p < rx.L.length
   ·rw [gy.old p h]; exact (gx.F1 p hp).up ly
   exact gy.F1 p (by omega)
  have geY : ∀ p q, L.length ≤ p → bt (ry.F.getD p 0) q → L.length ≤ q := fun p q hp h => by
   by_cases h2 : p < rx.L.length
   ·rw [gy.old p h2] at h; exact gx.F2 p q hp h
   have := gy.F2 p q (by omega) h; omega
  have oldY : ∀ p, p < L.length → ry.F.getD p 0 = F.getD p 0 := fun p hp => by rw [gy.old p (by omega), gx.old p hp]
  have edX : ∀ p q, Ed rx.F L.length p q → p < rx.L.length ∧ q < rx.L.length := fun p q h => by
   constructor
   ·refine Nat.lt_of_not_le fun hp => ?_
    have := h.2
    rw [Zcg (by rw [gx.len]; exact hp)] at this
    exact bt0 this
   exact Zje (gx.F1 p h.1) h.2
  have edY : ∀ p q, Ed ry.F rx.L.length p q → ¬ p < rx.L.length ∧ ¬ q < rx.L.length := fun p q h => ⟨by have := h.1; omega, by have := gy.F2 p q h.1 h.2; omega⟩
  have split : ∀ p q, Ed ry.F L.length p q ↔ (Ed rx.F L.length p q ∨ Ed ry.F rx.L.length p q) := fun p q => by
   unfold Ed
   by_cases h : p < rx.L.length
   ·rw [gy.old p h]
    exact ⟨fun k => .inl k, fun k => k.elim id (fun k => by have := k.1; omega)⟩
   rw [Zcg (F := rx.F) (by rw [gx.len]; omega)]
   exact ⟨fun k => .inr ⟨by omega, k.2⟩, fun k => k.elim (fun k => (bt0 k.2).elim) fun k => ⟨by omega, k.2⟩⟩
  have acX : ∀ La : Nat → Int → Prop, (∀ p c, L.length ≤ p → p < ry.L.length → (La p c ↔ ry.L[p]? = some c)) → ∀ w, Ac (Ed rx.F L.length) La (bt rx.f) (bt rx.l) (rx.n = true) w ↔ Lg x w := fun La hLa =>
   gx.ac La fun p c h1 h2 => by rw [hLa p c h1 (by omega), eY, List.getElem?_append_left h2]
  have acY : ∀ La : Nat → Int → Prop, (∀ p c, L.length ≤ p → p < ry.L.length → (La p c ↔ ry.L[p]? = some c)) → ∀ w, Ac (Ed ry.F rx.L.length) La (bt ry.f) (bt ry.l) (ry.n = true) w ↔ Lg y w := fun La hLa =>
   gy.ac La fun p c h1 h2 => hLa p c (by omega) h2
  unfold bpT
  rw [hX, hY]
  rcases h45 with h4 | h5
  ·rw [if_pos h4]
   have hg := Zov (f := ry.f) xl hn gy.len
   refine ⟨⟨X ++ Y, by simp only; rw [eY, eX, List.append_assoc]⟩, by simp only [Zjl]; exact gy.len, fun p hp => ?_, ?_, fun p h => ?_, ?_, fun p h => ?_, fun p hp => ?_, fun p q hp h => ?_, fun La hLa w => ?_⟩
   ·simp only; rw [hg, if_neg (fun c => by have := gx.l2 p c; omega)]; exact oldY p hp
   ·simp only; split
    ·exact Zkm xf gy.f1 hn
    exact xf
   ·simp only at h
    split at h
    ·rcases (Zeq xf gy.f1 hn).1 h with h | h
     ·exact gx.f2 p h
     have := gy.f2 p h; omega
    exact gx.f2 p h
   ·simp only; split
    ·exact Zkm xl gy.l1 hn
    exact gy.l1
   ·simp only at h
    split at h
    ·rcases (Zeq xl gy.l1 hn).1 h with h | h
     ·exact gx.l2 p h
     have := gy.l2 p h; omega
    have := gy.l2 p h; omega
   ·simp only; rw [hg]; split
    ·exact Zkm (okY p hp) gy.f1 hn
    exact okY p hp
   ·simp only at h; rw [hg] at h
    split at h
    ·rcases (Zeq (okY p hp) gy.f1 hn).1 h with h | h
     ·exact geY p q hp h
     have := gy.f2 q h; omega
    exact geY p q hp h
   have hE : ∀ p q, Ed (lkL rx.l ry.f ry.F) L.length p q ↔ (Ed rx.F L.length p q ∨ Ed ry.F rx.L.length p q ∨ (bt rx.l p ∧ bt ry.f q)) := fun p q => by
    have h0 : Ed (lkL rx.l ry.f ry.F) L.length p q ↔ (Ed ry.F L.length p q ∨ (bt rx.l p ∧ bt ry.f q)) := by
     unfold Ed
     rw [hg]
     by_cases hb : bt rx.l p
     ·have hp := gx.l2 p hb
      rw [if_pos hb, Zeq (okY p hp) gy.f1 hn]
      simp [hp, hb]
     rw [if_neg hb]; simp [hb]
    rw [h0, split, or_assoc]
   have hf : ∀ p, bt (if rx.n = true then ior rx.f ry.f else rx.f) p ↔ (bt rx.f p ∨ (rx.n = true ∧ bt ry.f p)) := fun p => by
    split
    ·rename_i hq; rw [Zeq xf gy.f1 hn]; simp [hq]
    rename_i hq; simp [hq]
   have hl : ∀ p, bt (if ry.n = true then ior rx.l ry.l else ry.l) p ↔ (bt ry.l p ∨ (ry.n = true ∧ bt rx.l p)) := fun p => by
    split
    ·rename_i hq; rw [Zeq xl gy.l1 hn]; simp [hq, or_comm]
    rename_i hq; simp [hq]
   rw [Zjj hE hf hl (show (rx.n && ry.n) = true ↔ (rx.n = true ∧ ry.n = true) by simp),
    Zwe (sx := fun p => p < rx.L.length) edX edY (fun p h => Zje gx.f1 h) (fun p h => Zje gx.l1 h) (fun p h => by have := gy.f2 p h; omega) (fun p h => by have := gy.l2 p h; omega)]
   simp only [Lg, if_pos h4]
   exact ⟨fun ⟨u, v, e, p, q⟩ => ⟨u, v, e, (acX La hLa u).1 p, (acY La hLa v).1 q⟩, fun ⟨u, v, e, p, q⟩ => ⟨u, v, e, (acX La hLa u).2 p, (acY La hLa v).2 q⟩⟩
  rw [if_neg (by omega), if_pos h5]
  refine ⟨⟨X ++ Y, by simp only; rw [eY, eX, List.append_assoc]⟩, gy.len, oldY, Zkm xf gy.f1 hn, fun p h => ?_, Zkm xl gy.l1 hn, fun p h => ?_, okY, geY, fun La hLa w => ?_⟩
  ·rcases (Zeq xf gy.f1 hn).1 h with h | h
   ·exact gx.f2 p h
   have := gy.f2 p h; omega
  ·rcases (Zeq xl gy.l1 hn).1 h with h | h
   ·exact gx.l2 p h
   have := gy.l2 p h; omega
  rw [Zjj split (fun p => Zeq xf gy.f1 hn) (fun p => Zeq xl gy.l1 hn) (show (rx.n || ry.n) = true ↔ (rx.n = true ∨ ry.n = true) by simp),
   Zwd (sx := fun p => p < rx.L.length) edX edY (fun p h => Zje gx.f1 h) (fun p h => Zje gx.l1 h) (fun p h => by have := gy.f2 p h; omega) (fun p h => by have := gy.l2 p h; omega), acX La hLa, acY La hLa]
  simp only [Lg, if_neg (show ¬ t.kind = 4 by omega), if_pos h5]
end Go.KLib

namespace Go.KLib
end Go.KLib

namespace Go.KLib
section
variable {a zs : List (List Int)} {i j : Nat} {x y : List Int} {k kk : Int}
end
section
variable {a : List (List Int)} {i : Nat} {k kk : Int}
end
end Go.KLib

namespace Go.KLib
theorem Zrw {a b : Nat} (ha : a < 4611686018427387904) (hb : b < 4611686018427387904) : iand a b = ((a &&& b : Nat) : Int) := by
 have h3 : a &&& b ≤ a := Nat.and_le_left
 have e : (BitVec.ofInt IntKind.i64.bits (a : Int) &&& BitVec.ofInt IntKind.i64.bits (b : Int)).toNat = a &&& b := by
  rw [Zir, Zir]
  show (BitVec.ofNat 64 a &&& BitVec.ofNat 64 b).toNat = _
  rw [BitVec.toNat_and, BitVec.toNat_ofNat, BitVec.toNat_ofNat, Nat.mod_eq_of_lt (by omega), Nat.mod_eq_of_lt (by omega)]
 unfold iand; rw [e]; exact IntWalk.i64_in _ (by omega)
section
variable {a b m set nx c last f : Int} {n k p q s : Nat} {F L : List Int} {nl : Bool}
theorem Zpr (h : okm m n) (hn : n ≤ 60) (hp : p ≤ 63) : iand (ishr m (p + 1)) 1 = 1 ↔ bt m (p + 1) := by
 have := Zgb (p := p + 1) h hn (by omega)
 rwa [show ((p + 1 : Nat) : Int) = (p : Int) + 1 by omega] at this
theorem Zmf (h : okm m n) (hn : n ≤ 60) : iand m 1 = 1 ↔ bt m 0 := by
 have := Zgb (p := 0) h hn (by omega)
 rw [Zkd h.1 (by omega), Nat.shiftRight_zero, Int.toNat_of_nonneg h.1] at this
 exact this
structure PosOk (L F : List Int) (f l : Int) : Prop where
 n20 : L.length ≤ 50
 len : F.length = L.length
 f1 : okm f L.length
 l1 : okm l L.length
 F1 : ∀ p, okm (F.getD p 0) L.length
theorem Zni (h : ∀ p, okm (F.getD p 0) n) (hn : n ≤ 50) (hs : okm set (n + 1)) (hm : okm m n) : ∀ k, k ≤ 50 → okm (nxt F set m k) n ∧ ∀ p, bt (nxt F set m k) p ↔ bt m p ∨ ∃ j, j < k ∧ bt set (j + 1) ∧ bt (F.getD j 0) p
 | 0, _ => ⟨hm, fun p => ⟨.inl, fun q => q.elim id fun ⟨j, hj, _⟩ => by omega⟩⟩
 | k + 1, hk => by
  obtain ⟨ih1, ih2⟩ := Zni h hn hs hm k (by omega)
  rw [nxt]
  by_cases hb : bt set (k + 1)
  ·rw [if_pos ((Zpr hs (by omega) (by omega)).2 hb)]
   refine ⟨Zkm ih1 (h k) (by omega), fun p => ?_⟩
   rw [Zeq ih1 (h k) (by omega), ih2]
   constructor
   ·rintro ((h1 | ⟨j, h1, h2⟩) | h1)
    ·exact .inl h1
    ·exact .inr ⟨j, by omega, h2⟩
    exact .inr ⟨k, by omega, hb, h1⟩
   rintro (h1 | ⟨j, h1, h2, h3⟩)
   ·exact .inl (.inl h1)
   by_cases e : j = k
   ·subst e; exact .inr h3
   exact .inl (.inr ⟨j, by omega, h2, h3⟩)
  rw [if_neg (fun c => hb ((Zpr hs (by omega) (by omega)).1 c))]
  refine ⟨ih1, fun p => ?_⟩
  rw [ih2]
  constructor
  ·rintro (h1 | ⟨j, h1, h2⟩)
   ·exact .inl h1
   exact .inr ⟨j, by omega, h2⟩
  rintro (h1 | ⟨j, h1, h2, h3⟩)
  ·exact .inl h1
  by_cases e : j = k
  ·subst e; exact (hb h2).elim
  exact .inr ⟨j, by omega, h2, h3⟩
theorem Znb (hn : L.length ≤ 50) (hx : okm nx L.length) : ∀ k, k ≤ L.length → okm (outP L nx c k) (L.length + 1) ∧ ∀ q, bt (outP L nx c k) q ↔ ∃ p, p < k ∧ q = p + 1 ∧ L[p]? = some c ∧ bt nx p
 | 0, _ => ⟨okm0, fun q => ⟨fun h => (bt0 h).elim, fun ⟨p, hp, _⟩ => by omega⟩⟩
 | k + 1, hk => by
  obtain ⟨ih1, ih2⟩ := Znb hn hx k (by omega)
  have hg : L[k]? = some (L.getD k 0) := by rw [List.getD_eq_getElem?_getD, List.getElem?_eq_getElem (show k < L.length by omega)]; rfl
  have hok : okm (ishl 1 ((k : Int) + 1)) (L.length + 1) := by
   have := Zks (s := k + 1) (n := L.length + 1) (by omega) (by omega)
   rwa [show ((k + 1 : Nat) : Int) = (k : Int) + 1 by omega] at this
  rw [outP]
  by_cases hb : L.getD k 0 = c ∧ bt nx k
  ·rw [if_pos ⟨hb.1, (Zgb hx (by omega) (by omega)).2 hb.2⟩]
   refine ⟨Zkm ih1 hok (by omega), fun q => ?_⟩
   have hone : bt (ishl 1 ((k : Int) + 1)) q ↔ q = k + 1 := by
    have := Zcl (s := k + 1) (p := q) (by omega)
    rwa [show ((k + 1 : Nat) : Int) = (k : Int) + 1 by omega] at this
   rw [Zeq ih1 hok (by omega), ih2, hone]
   constructor
   ·rintro (⟨p, h1, h2⟩ | h1)
    ·exact ⟨p, by omega, h2⟩
    exact ⟨k, by omega, h1, by rw [hg, hb.1], hb.2⟩
   rintro ⟨p, h1, h2, h3⟩
   by_cases e : p = k
   ·subst e; exact .inr h2
   exact .inl ⟨p, by omega, h2, h3⟩
  rw [if_neg (fun c => hb ⟨c.1, (Zgb hx (by omega) (by omega)).1 c.2⟩)]
  refine ⟨ih1, fun q => ?_⟩
  rw [ih2]
  constructor
  ·rintro ⟨p, h1, h2⟩; exact ⟨p, by omega, h2⟩
  rintro ⟨p, h1, h2, h3, h4⟩
  by_cases e : p = k
  ·subst e; exact (hb ⟨by rw [hg] at h3; injection h3, h4⟩).elim
  exact ⟨p, by omega, h2, h3, h4⟩
variable {l : Int} {w : List Int}
theorem Zcd (H : PosOk L F f l) (hs : okm set (L.length + 1)) : okm (Zbx L f F set c) (L.length + 1) ∧ ∀ q, bt (Zbx L f F set c) q ↔ ∃ p, q = p + 1 ∧ L[p]? = some c ∧ ((bt set 0 ∧ bt f p) ∨ ∃ j, bt set (j + 1) ∧ bt (F.getD j 0) p) := by
 have hn := H.n20
 unfold Zbx
 have hm : okm (if iand set 1 = 1 then f else 0) L.length ∧ ∀ p, bt (if iand set 1 = 1 then f else 0) p ↔ bt set 0 ∧ bt f p := by
  by_cases h0 : bt set 0
  ·rw [if_pos ((Zmf hs (by omega)).2 h0)]; exact ⟨H.f1, fun p => by simp [h0]⟩
  rw [if_neg (fun c => h0 ((Zmf hs (by omega)).1 c))]; exact ⟨okm0, fun p => ⟨fun h => (bt0 h).elim, fun h => (h0 h.1).elim⟩⟩
 obtain ⟨n1, n2⟩ := Zni H.F1 hn hs hm.1 L.length (by omega)
 obtain ⟨o1, o2⟩ := Znb (c := c) hn n1 L.length (Nat.le_refl _)
 refine ⟨o1, fun q => ?_⟩
 rw [o2]
 constructor
 ·rintro ⟨p, _, h1, h2, h3⟩
  rcases (n2 p).1 h3 with h4 | ⟨j, _, h5⟩
  ·exact ⟨p, h1, h2, .inl ((hm.2 p).1 h4)⟩
  exact ⟨p, h1, h2, .inr ⟨j, h5⟩⟩
 rintro ⟨p, h1, h2, h3⟩
 refine ⟨p, (List.getElem?_eq_some_iff.1 h2).1, h1, h2, (n2 p).2 ?_⟩
 rcases h3 with h3 | ⟨j, h4, h5⟩
 ·exact .inl ((hm.2 p).2 h3)
 exact .inr ⟨j, by have := Zje hs h4; omega, h4, h5⟩
theorem Zmk (H : PosOk L F f l) (hs : okm set (L.length + 1)) : accB l nl set = true ↔ (bt set 0 ∧ nl = true) ∨ ∃ q, bt set (q + 1) ∧ bt l q := by
 have hn := H.n20
 unfold accB
 rw [Bool.or_eq_true, Bool.and_eq_true, decide_eq_true_eq, Zmf hs (by omega), Bool.not_eq_true', decide_eq_false_iff_not]
 have e1 : ishr set 1 = ((set.toNat >>> 1 : Nat) : Int) := Zkd (i := 1) hs.1 (by omega)
 have hl := H.l1.lt62 (by omega)
 have hs2 := hs.lt62 (by omega)
 have hle : set.toNat >>> 1 ≤ set.toNat := by rw [Nat.shiftRight_eq_div_pow]; exact Nat.div_le_self _ _
 have h1 := hs.1
 have h2 := H.l1.1
 have e2 : iand (ishr set 1) l = ((set.toNat >>> 1 &&& l.toNat : Nat) : Int) := by
  rw [e1]
  have := Zrw (a := set.toNat >>> 1) (b := l.toNat) (by omega) (by omega)
  rwa [Int.toNat_of_nonneg h2] at this
 rw [e2]
 refine or_congr Iff.rfl ?_
 constructor
 ·intro h
  have h3 : set.toNat >>> 1 &&& l.toNat ≠ 0 := fun e => h (by rw [e]; rfl)
  have hex : ∃ i, (set.toNat >>> 1 &&& l.toNat).testBit i = true := Classical.byContradiction fun hc => h3 (Nat.eq_of_testBit_eq fun i => by
   rw [Nat.zero_testBit]
   cases hb : (set.toNat >>> 1 &&& l.toNat).testBit i
   ·rfl
   exact absurd ⟨i, hb⟩ hc)
  obtain ⟨i, hi⟩ := hex
  rw [Nat.testBit_and, Bool.and_eq_true, Nat.testBit_shiftRight] at hi
  exact ⟨i, by unfold bt; rw [Nat.add_comm]; exact hi.1, hi.2⟩
 rintro ⟨q, h3, h4⟩ e
 have h5 : (set.toNat >>> 1 &&& l.toNat).testBit q = true := by
  rw [Nat.testBit_and, Bool.and_eq_true, Nat.testBit_shiftRight, Nat.add_comm]; exact ⟨h3, h4⟩
 have h6 : set.toNat >>> 1 &&& l.toNat = 0 := by omega
 rw [h6] at h5; simp at h5
theorem bt1 : bt 1 p ↔ p = 0 := by
 have := Zcl (s := 0) (p := p) (by omega)
 rw [show ishl 1 ((0 : Nat) : Int) = 1 by decide] at this
 exact this
theorem Rn.snoc {E : Nat → Nat → Prop} {La : Nat → Int → Prop} : ∀ {v : List Int} {p : Nat}, Rn E La p (v ++ [c]) q ↔ ∃ j, Rn E La p v j ∧ E j q ∧ La q c
 | [], p => ⟨fun ⟨r, h1, h2, h3⟩ => by rw [show r = q from h3] at h1 h2; exact ⟨p, rfl, h1, h2⟩, fun ⟨j, h1, h2, h3⟩ => by rw [show p = j from h1]; exact ⟨q, h2, h3, rfl⟩⟩
 | d :: v, p => by
  constructor
  ·rintro ⟨r, h1, h2, h3⟩
   obtain ⟨j, h4, h5⟩ := Rn.snoc.1 h3
   exact ⟨j, ⟨r, h1, h2, h4⟩, h5⟩
  rintro ⟨j, ⟨r, h1, h2, h4⟩, h5⟩
  exact ⟨r, h1, h2, Rn.snoc.2 ⟨j, h4, h5⟩⟩
theorem Zdy (H : PosOk L F f l) (w : List Int) : ∀ k, k ≤ w.length → okm (runP L f F w k) (L.length + 1) ∧ (bt (runP L f F w k) 0 ↔ k = 0) ∧
   ∀ q, bt (runP L f F w k) (q + 1) ↔ ∃ c v p, w.take k = c :: v ∧ bt f p ∧ L[p]? = some c ∧ Rn (fun p q => bt (F.getD p 0) q) (fun p c => L[p]? = some c) p v q
 | 0, _ => ⟨⟨by show (0 : Int) ≤ 1; decide, by show (1 : Int).toNat < _; exact Nat.one_lt_two_pow (by omega)⟩, by simp [runP, bt1], fun q => ⟨fun h => by have := bt1.1 h; omega, fun ⟨c, v, p, h, _⟩ => by simp at h⟩⟩
 | k + 1, hk => by
  obtain ⟨i1, i2, i3⟩ := Zdy H w k (by omega)
  obtain ⟨a1, a2⟩ := Zcd (c := w.getD k 0) H i1
  have hg : w[k]? = some (w.getD k 0) := by rw [List.getD_eq_getElem?_getD, List.getElem?_eq_getElem (show k < w.length by omega)]; rfl
  rw [runP]
  refine ⟨a1, ?_, fun q => ?_⟩
  ·rw [a2]
   exact ⟨fun ⟨p, h, _⟩ => by omega, fun h => by omega⟩
  rw [a2, Zaa hg]
  constructor
  ·rintro ⟨p, hp, h1, h2⟩
   obtain rfl : q = p := by omega
   rcases h2 with ⟨h2, h3⟩ | ⟨j, h2, h3⟩
   ·obtain rfl := i2.1 h2
    exact ⟨_, [], q, rfl, h3, h1, rfl⟩
   obtain ⟨d, v, p, h4, h5, h6, h7⟩ := (i3 j).1 h2
   exact ⟨d, v ++ [w.getD k 0], p, by rw [h4]; rfl, h5, h6, Rn.snoc.2 ⟨j, h7, h3, h1⟩⟩
  rintro ⟨d, v, p, h1, h2, h3, h4⟩
  cases hk0 : w.take k with
  | nil =>
   have hl := congrArg List.length hk0
   rw [List.length_take] at hl
   simp only [List.length_nil] at hl
   rw [hk0] at h1
   injection h1 with h5 h6
   subst h5 h6
   obtain rfl : p = q := h4
   exact ⟨p, rfl, h3, .inl ⟨i2.2 (by omega), h2⟩⟩
  | cons e u =>
   rw [hk0] at h1
   injection h1 with h5 h6
   subst h5
   rw [← h6] at h4
   obtain ⟨j, h7, h8, h9⟩ := Rn.snoc.1 h4
   exact ⟨q, rfl, h9, .inr ⟨j, (i3 j).2 ⟨e, u, p, hk0, h2, h3, h7⟩, h8⟩⟩
theorem Zvz (H : PosOk L F f l) (w : List Int) : accB l nl (runP L f F w w.length) = true ↔ Ac (fun p q => bt (F.getD p 0) q) (fun p c => L[p]? = some c) (bt f) (bt l) (nl = true) w := by
 obtain ⟨i1, i2, i3⟩ := Zdy H w w.length (Nat.le_refl _)
 rw [Zmk H i1]
 cases w with
 | nil =>
  constructor
  ·rintro (⟨_, h⟩ | ⟨q, h, _⟩)
   ·exact h
   obtain ⟨c, v, p, h, _⟩ := (i3 q).1 h; simp at h
  intro h; exact .inl ⟨i2.2 rfl, h⟩
 | cons c w =>
  constructor
  ·rintro (⟨h, _⟩ | ⟨q, h, h2⟩)
   ·have := i2.1 h; simp at this
   obtain ⟨d, v, p, h3, h4, h5, h6⟩ := (i3 q).1 h
   rw [List.take_length] at h3
   injection h3 with h7 h8
   subst h7 h8
   exact ⟨p, q, h4, h5, h6, h2⟩
  rintro ⟨p, q, h1, h2, h3, h4⟩
  exact .inr ⟨q, (i3 q).2 ⟨c, w, p, by rw [List.take_length], h1, h2, h3⟩, h4⟩
theorem Zsy {x c : Int} (hx : 0 ≤ x) (hc : 0 ≤ c) : 0 < mn (x + c) ↔ 0 < x ∨ 0 < c := by
 unfold mn; split <;> omega
theorem Zjs {nx : List Int} (h : Rg9 nx) (k : Nat) : 0 ≤ nx.getD k 0 := by
 rw [List.getD_eq_getElem?_getD]
 cases hk : nx[k]? with
 | none => exact Int.le_refl _
 | some y => exact (h y (Xw hk)).1
theorem Znt {nx : List Int} {i k : Nat} {y : Int} : (nx.set i y).getD k 0 = if i = k ∧ i < nx.length then y else nx.getD k 0 := by
 rw [List.getD_eq_getElem?_getD, List.getElem?_set, List.getD_eq_getElem?_getD]
 by_cases e : i = k
 ·by_cases hl : i < nx.length
  ·rw [if_pos e, if_pos hl, if_pos ⟨e, hl⟩]; rfl
  rw [if_pos e, if_neg hl, if_neg (fun c => hl c.2), List.getElem?_eq_none (by omega)]
 rw [if_neg e, if_neg (fun c => e c.1)]
theorem Zqc {T c : Int} {nx : List Int} (hT : okm T n) (hn : n ≤ 60) (hx : Rg9 nx) (hc : 0 ≤ c) (k : Nat) : ∀ m, m ≤ 60 → m ≤ nx.length → (0 < (cr1 T c nx m).getD k 0 ↔ 0 < nx.getD k 0 ∨ (k < m ∧ 0 < c ∧ bt T k))
 | 0, _, _ => ⟨.inl, fun h => h.elim id fun h => by omega⟩
 | m + 1, hm, hl => by
  have ih := Zqc hT hn hx hc k m (by omega) (by omega)
  have hlen := Zjq T c nx m
  have h0 := Zjs (Zmy (T := T) (c := c) hx m) m
  rw [cr1]; unfold crB
  by_cases hb : 0 < c ∧ bt T m
  ·rw [decide_eq_true hb.1, decide_eq_true ((Zgb hT hn (by omega)).2 hb.2)]
   simp only [Bool.and_self, cond_true]
   rw [Znt]
   by_cases e : m = k
   ·subst e
    rw [if_pos ⟨rfl, by omega⟩, Zsy h0 hc]
    exact ⟨fun _ => .inr ⟨by omega, hb⟩, fun _ => .inr hb.1⟩
   rw [if_neg (fun q => e q.1), ih]
   exact or_congr Iff.rfl ⟨fun q => ⟨by omega, q.2⟩, fun q => ⟨by omega, q.2⟩⟩
  have : (decide (0 < c) && decide (iand (ishr T m) 1 = 1)) = false := by
   rw [Bool.and_eq_false_iff, decide_eq_false_iff_not, decide_eq_false_iff_not, Zgb hT hn (by omega)]
   by_cases h1 : 0 < c
   ·exact .inr fun h2 => hb ⟨h1, h2⟩
   exact .inl h1
  rw [this, cond_false, ih]
  refine or_congr Iff.rfl ⟨fun q => ⟨by omega, q.2⟩, fun q => ⟨?_, q.2⟩⟩
  have : k ≠ m := fun e => hb (e ▸ q.2)
  omega
theorem Zqe {Tf : Nat → Int} {ns nx : List Int} {m : Nat} (hT : ∀ s, s < m → okm (Tf s) n) (hn : n ≤ 60) (hm : m ≤ 60) (hx : Rg9 nx) (hns : Rg9 ns) (hl : m ≤ nx.length) (k : Nat) : ∀ s, s ≤ m → (0 < (cr2 Tf ns nx m s).getD k 0 ↔ 0 < nx.getD k 0 ∨ ∃ j, j < s ∧ k < m ∧ 0 < ns.getD j 0 ∧ bt (Tf j) k)
 | 0, _ => ⟨.inl, fun h => h.elim id fun ⟨j, hj, _⟩ => by omega⟩
 | s + 1, hs => by
  have ih := Zqe hT hn hm hx hns hl k s (by omega)
  rw [cr2, Zqc (hT s (by omega)) hn (Zmu hx s) (Zjs hns s) k m hm (by rw [Zjg]; exact hl), ih]
  constructor
  ·rintro ((h | ⟨j, h1, h2⟩) | h)
   ·exact .inl h
   ·exact .inr ⟨j, by omega, h2⟩
   exact .inr ⟨s, by omega, h⟩
  rintro (h | ⟨j, h1, h2⟩)
  ·exact .inl (.inl h)
  by_cases e : j = s
  ·subst e; exact .inr h2
  exact .inl (.inr ⟨j, by omega, h2⟩)
theorem Zld {m k : Nat} : (List.replicate m (0 : Int)).getD k 0 = 0 := by
 rw [List.getD_eq_getElem?_getD, List.getElem?_replicate]; split <;> rfl
theorem Zjh (H : PosOk L F f l) (w : List Int) : ∀ i, i ≤ w.length → ∀ s, 0 < (crN L f F w i).getD s 0 ↔ bt (runP L f F w i) s
 | 0, _, s => by
  rw [crN, Znt, runP, bt1, Zld]
  simp only [List.length_replicate]
  by_cases e : 0 = s
  ·subst e; simp
  rw [if_neg (fun q => e q.1)]; omega
 | i + 1, hi, s => by
  have hn := H.n20
  have ih := Zjh H w i (by omega)
  obtain ⟨r1, _, _⟩ := Zdy H w i (by omega)
  have hone : ∀ j, j < L.length + 1 → okm (ishl 1 (j : Int)) (L.length + 1) := fun j hj => Zks hj (by omega)
  have hT : ∀ j, j < L.length + 1 → okm (crT L f F w i j) (L.length + 1) := fun j hj => (Zcd H (hone j hj)).1
  rw [crN, Zqe hT (by omega) (by omega) (Zhd _) (Zor L f F w i) (by simp) s (L.length + 1) (Nat.le_refl _), Zld, runP]
  obtain ⟨a1, a2⟩ := Zcd (c := w.getD i 0) H r1
  rw [a2]
  constructor
  ·rintro (h | ⟨j, hj, h1, h2, h3⟩)
   ·omega
   obtain ⟨p, e, h4, h5⟩ := ((Zcd H (hone j hj)).2 s).1 h3
   refine ⟨p, e, h4, ?_⟩
   have hb := (ih j).1 h2
   rcases h5 with ⟨h5, h6⟩ | ⟨q, h5, h6⟩
   ·have := (Zcl (by omega)).1 h5
    subst this; exact .inl ⟨hb, h6⟩
   have := (Zcl (by omega)).1 h5
   subst this; exact .inr ⟨q, hb, h6⟩
  rintro ⟨p, e, h4, h5⟩
  have hp := (List.getElem?_eq_some_iff.1 h4).1
  right
  rcases h5 with ⟨h5, h6⟩ | ⟨q, h5, h6⟩
  ·exact ⟨0, by omega, by omega, (ih 0).2 h5, ((Zcd H (hone 0 (by omega))).2 s).2 ⟨p, e, h4, .inl ⟨(Zcl (by omega)).2 rfl, h6⟩⟩⟩
  have hq := Zje r1 h5
  exact ⟨q + 1, hq, by omega, (ih (q + 1)).2 h5, ((Zcd H (hone (q + 1) hq)).2 s).2 ⟨p, e, h4, .inr ⟨q, (Zcl (by omega)).2 rfl, h6⟩⟩⟩
theorem Znd {ns : List Int} (h : Rg9 ns) : ∀ s, 0 ≤ Zdl last nl ns s
 | 0 => Int.le_refl _
 | s + 1 => by
  have ih := Znd h s
  have h0 := Zjs h s
  rw [Zdl]
  cases accB last nl (ishl 1 s)
  ·exact ih
  simp only [cond_true]; unfold mn; split <;> omega
theorem Zlb {ns : List Int} (h : Rg9 ns) : ∀ s, 0 < Zdl last nl ns s ↔ ∃ j, j < s ∧ accB last nl (ishl 1 j) = true ∧ 0 < ns.getD j 0
 | 0 => ⟨fun h => absurd h (by simp [Zdl]), fun ⟨j, hj, _⟩ => by omega⟩
 | s + 1 => by
  have ih := Zlb h s
  rw [Zdl]
  cases hb : accB last nl (ishl 1 s)
  ·rw [cond_false, ih]
   constructor
   ·rintro ⟨j, h1, h2⟩; exact ⟨j, by omega, h2⟩
   rintro ⟨j, h1, h2, h3⟩
   have : j ≠ s := fun e => by rw [e, hb] at h2; cases h2
   exact ⟨j, by omega, h2, h3⟩
  rw [cond_true, Zsy (Znd h s) (Zjs h s), ih]
  constructor
  ·rintro (⟨j, h1, h2⟩ | h1)
   ·exact ⟨j, by omega, h2⟩
   exact ⟨s, by omega, hb, h1⟩
  rintro ⟨j, h1, h2, h3⟩
  by_cases e : j = s
  ·subst e; exact .inr h3
  exact .inl ⟨j, by omega, h2, h3⟩
theorem Zwn (H : PosOk L F f l) (w : List Int) : 0 < Zdl l nl (crN L f F w w.length) (L.length + 1) ↔ accB l nl (runP L f F w w.length) = true := by
 have hn := H.n20
 obtain ⟨r1, _, _⟩ := Zdy H w w.length (Nat.le_refl _)
 rw [Zlb (Zor L f F w _), Zmk H r1]
 have hone : ∀ j, j < L.length + 1 → (accB l nl (ishl 1 (j : Int)) = true ↔ (j = 0 ∧ nl = true) ∨ ∃ q, j = q + 1 ∧ bt l q) := fun j hj => by
  rw [Zmk H (Zks hj (by omega)), Zcl (by omega)]
  refine or_congr ⟨fun h => ⟨h.1.symm, h.2⟩, fun h => ⟨h.1.symm, h.2⟩⟩ ⟨fun ⟨q, h1, h2⟩ => ⟨q, ((Zcl (by omega)).1 h1).symm, h2⟩, fun ⟨q, h1, h2⟩ => ⟨q, (Zcl (by omega)).2 h1.symm, h2⟩⟩
 constructor
 ·rintro ⟨j, h1, h2, h3⟩
  have hb := (Zjh H w _ (Nat.le_refl _) j).1 h3
  rcases (hone j h1).1 h2 with ⟨e, h4⟩ | ⟨q, e, h4⟩
  ·subst e; exact .inl ⟨hb, h4⟩
  subst e; exact .inr ⟨q, hb, h4⟩
 rintro (⟨h1, h2⟩ | ⟨q, h1, h2⟩)
 ·exact ⟨0, by omega, (hone 0 (by omega)).2 (.inl ⟨rfl, h2⟩), (Zjh H w _ (Nat.le_refl _) 0).2 h1⟩
 have hq := Zje r1 h1
 exact ⟨q + 1, hq, (hone (q + 1) hq).2 (.inr ⟨q, rfl, h2⟩), (Zjh H w _ (Nat.le_refl _) (q + 1)).2 h1⟩
end
end Go.KLib

namespace Go.KLib
section
variable {w : List Int} {x t : Tr} {e : List Token}
theorem Pw.congr {L M : List Int → Prop} (h : ∀ w, L w ↔ M w) {k : Nat} : Pw L k w ↔ Pw M k w := ⟨Pw.mono fun w => (h w).1, Pw.mono fun w => (h w).2⟩
theorem Zst : ∀ (h : Nat) (low : Int) (w : List Int), 0 ≤ low → low ≤ h → (Lg (Qz x low h) w ↔ ∃ k : Nat, low ≤ (k : Int) ∧ (k : Int) ≤ h ∧ Pw (Lg x) k w)
 | 0, low, w, h0, h1 => by
  have : low = 0 := by omega
  subst this
  unfold Qz
  simp only [Lg, if_true]
  constructor
  ·intro e; exact ⟨0, by omega, by omega, e⟩
  rintro ⟨k, _, hk, p⟩
  obtain rfl : k = 0 := by omega
  exact p
 | h + 1, low, w, h0, h1 => by
  have ih := fun w => Zst h (if low - 1 > 0 then low - 1 else 0) w (by split <;> omega) (by split <;> omega)
  have key : (∃ u v, w = u ++ v ∧ Lg x u ∧ Lg (Qz x (if low - 1 > 0 then low - 1 else 0) h) v) ↔ ∃ k : Nat, 1 ≤ k ∧ low ≤ (k : Int) ∧ (k : Int) ≤ ((h + 1 : Nat) : Int) ∧ Pw (Lg x) k w := by
   constructor
   ·rintro ⟨u, v, e, p, q⟩
    obtain ⟨k, k1, k2, k3⟩ := (ih v).1 q
    exact ⟨k + 1, by omega, by split at k1 <;> omega, by omega, by rw [e]; exact Pw.cons p k3⟩
   rintro ⟨k, k0, k1, k2, k3⟩
   cases k with
   | zero => omega
   | succ k =>
    obtain ⟨u, v, e, p, q⟩ := Pw.uncons k3
    exact ⟨u, v, e, p, (ih v).2 ⟨k, by split <;> omega, by omega, q⟩⟩
  unfold Qz
  by_cases hl : low > 0
  ·rw [if_pos hl, Lg4 rfl, key]
   exact ⟨fun ⟨k, _, r⟩ => ⟨k, r⟩, fun ⟨k, r⟩ => ⟨k, by have := r.1; omega, r⟩⟩
  rw [if_neg hl, Lg5 rfl, Lg4 rfl, key]
  constructor
  ·rintro (⟨k, _, r⟩ | e)
   ·exact ⟨k, r⟩
   exact ⟨0, by omega, by omega, by have e2 : w = [] := e; exact e2⟩
  rintro ⟨k, r⟩
  cases k with
  | zero => right; show w = []; exact r.2.2
  | succ k => exact .inl ⟨k + 1, by omega, r⟩
theorem Zkt : ∀ (t : Tr), Okd t → ∀ w, Lg (Xl t) w ↔ Lg t w
 | .l0 _, _, _ => Iff.rfl
 | .l1 t a, h, w => by
  have ih := Zkt a h.2
  have h67 : t.kind = 6 ∨ t.kind = 7 := by
   have h1 : arT t = 1 := h.1
   rw [Zaz (by omega)] at h1
   unfold arK at h1
   split at h1
   ·cases h1
   split at h1
   ·assumption
   cases h1
  unfold Xl
  rcases h67 with h6 | h7
  ·rw [if_neg (by omega), Lg6 h6, Lg6 h6]
   exact exists_congr fun k => Pw.congr ih
  have r7 := Okd.r7 h (show (Tr.l1 t a).tok.kind = 7 from h7)
  simp only [Tr.tok] at r7
  rw [if_pos h7, Zst _ _ _ (by omega) (by omega), Lg7 h7]
  exact exists_congr fun k => and_congr Iff.rfl (and_congr (by rw [Int.toNat_of_nonneg (by omega)]) (Pw.congr ih))
 | .l2 t a b, h, w => by
  have ih := Zkt a h.2.1
  have ih2 := Zkt b h.2.2
  unfold Xl Lg
  split
  ·simp only [ih, ih2]
  simp only [ih, ih2]
theorem Zpy (hx : NoR x) : ∀ (h : Nat) (low : Int), NoR (Qz x low h)
 | 0, _ => trivial
 | h + 1, low => by
  have ih := Zpy hx h (if low - 1 > 0 then low - 1 else 0)
  unfold Qz
  split
  ·exact ⟨hx, ih⟩
  exact ⟨⟨hx, ih⟩, trivial⟩
theorem Zhs : ∀ t : Tr, NoR (Xl t)
 | .l0 _ => trivial
 | .l1 t a => by
  have ih := Zhs a
  unfold Xl
  split
  ·exact Zpy ih _ _
  rename_i h; exact ⟨h, ih⟩
 | .l2 t a b => ⟨Zhs a, Zhs b⟩
theorem bp_L : ∀ (t : Tr) (L F : List Int), Okd t → NoR t → (bpT t L F).L = L ++ letT t
 | .l0 t, L, F, _, _ => by
  unfold bpT letT
  by_cases h2 : t.kind = 2
  ·rw [if_pos h2, if_neg (by omega)]; simp
  by_cases h3 : t.kind = 3
  ·rw [if_neg h2, if_pos h3, if_pos h3]
  rw [if_neg h2, if_neg h3, if_neg h3]; simp
 | .l1 t x, L, F, h, hn => by
  have h6 : t.kind = 6 := by
   have h1 : arT t = 1 := h.1
   have h2 := hn.1
   rw [Zaz (by omega)] at h1
   unfold arK at h1
   split at h1
   ·cases h1
   split at h1
   ·omega
   cases h1
  unfold bpT letT
  rw [if_pos h6]; exact bp_L x L F h.2 hn.2
 | .l2 t x y, L, F, h, hn => by
  have h45 : t.kind = 4 ∨ t.kind = 5 := by
   have h1 : arT t = 2 := h.1
   rw [Zaz (by omega)] at h1
   unfold arK at h1
   split at h1
   ·assumption
   split at h1
   ·cases h1
   cases h1
  have hx := bp_L x L F h.2.1 hn.1
  have hy := bp_L y (bpT x L F).L (bpT x L F).F h.2.2 hn.2
  unfold bpT letT
  rcases h45 with h4 | h5
  ·rw [if_pos h4]; simp only; rw [hy, hx, List.append_assoc]
  rw [if_neg (by omega), if_pos h5]; simp only; rw [hy, hx, List.append_assoc]
theorem Zhf : ∀ t : Tr, Okd t → (letT t).length = cntL t.flat
 | .l0 t, _ => by unfold letT cntL Tr.flat; by_cases h : t.kind = 3 <;> simp [h]
 | .l1 t a, h => by
  have ih := Zhf a h.2
  have hk : ¬ t.kind = 3 := fun e => by
   have h1 : arT t = 1 := h.1
   rw [Zaz (by omega), e] at h1
   simp [arK] at h1
  unfold letT; rw [ih]; unfold cntL; rw [Tr.flat, List.countP_append]; simp [hk]
 | .l2 t a b, h => by
  have ih := Zhf a h.2.1
  have ih2 := Zhf b h.2.2
  have hk : ¬ t.kind = 3 := fun e => by
   have h1 : arT t = 2 := h.1
   rw [Zaz (by omega), e] at h1
   simp [arK] at h1
  unfold letT; rw [List.length_append, ih, ih2]; unfold cntL; rw [Tr.flat, List.countP_append, List.countP_append]; simp [hk]
theorem Zhu {n : Nat} {x : Int} (hn : n ≤ 60) : inM (n : Int) x ↔ okm x n := by
 have h1 : (2 : Nat) ^ n ≤ 2 ^ 60 := Nat.pow_le_pow_right (by decide) hn
 have h2 : (2 : Nat) ^ 60 = 1152921504606846976 := by decide
 have h3 := Nat.two_pow_pos n
 unfold inM okm
 rw [Zgw (by omega)]
 have e : w64 (((2 ^ n : Nat) : Int) - 1) = ((2 ^ n : Nat) : Int) - 1 := IntWalk.i64_in _ (by omega)
 rw [e]
 constructor
 ·rintro ⟨a, b⟩; exact ⟨a, by omega⟩
 rintro ⟨a, b⟩; exact ⟨a, by omega⟩
theorem Zga (h : (bpE e).2 = true) : ivE e = true ∧ PosOk (bpE e).1.L (bpE e).1.F (bpE e).1.f (bpE e).1.l ∧ Zcf (bpE e).1.L (bpE e).1.f (bpE e).1.l (bpE e).1.F ∧
   ∀ w, IsWd w → (accB (bpE e).1.l (bpE e).1.n (runP (bpE e).1.L (bpE e).1.f (bpE e).1.F w w.length) = true ↔ mwE e w = true) := by
 have hc : (Qc e).2 = true ∧ cntL (Qc e).1 ≤ 20 := by
  apply Classical.byContradiction
  intro hn; rw [Xj hn] at h; cases h
 have hv : ivE e = true := by
  cases hi : ivE e with
  | true => rfl
  | false => have := hc.1; rw [Zbj hi] at this; cases this
 obtain ⟨t0, h1, h2, h3, h4⟩ := Zkn hv
 have hb : Xt t0 ≤ 5000 := by
  apply Classical.byContradiction
  intro hn; have := hc.1; rw [Zah h1 hn] at this; cases this
 have hz : (Xl t0).sz ≤ 400 := by
  apply Classical.byContradiction
  intro hn; have := hc.1; rw [Zaj h1 hn] at this; cases this
 have e1 := Zbk h1 h4 hb hz
 have ok := Zhk h2
 have ht : Qx (Qc e).1 = some (Xl t0) := by rw [e1]; exact Zcr ok
 have e2 := Qq hc.1 hc.2 ht
 rw [e2]
 simp only
 have eL := bp_L (Xl t0) [] [] ok (Zhs t0)
 rw [List.nil_append] at eL
 have hlen : (bpT (Xl t0) [] []).L.length ≤ 20 := by
  rw [eL, Zhf _ ok]
  have := hc.2; rw [e1] at this; exact this
 have g := Zqx (Xl t0) [] [] ok (Zhs t0) rfl (by omega)
 have H : PosOk (bpT (Xl t0) [] []).L (bpT (Xl t0) [] []).F (bpT (Xl t0) [] []).f (bpT (Xl t0) [] []).l := ⟨by omega, g.len, g.f1, g.l1, fun p => g.F1 p (Nat.zero_le _)⟩
 refine ⟨hv, H, ⟨hlen, g.len, (Zhu (by omega)).2 g.f1, (Zhu (by omega)).2 g.l1, fun i y hi hy => ?_, fun i y hi hy => ?_⟩, fun w hw => ?_⟩
 ·rw [eL] at hy
  obtain ⟨z, hz, hk, hl⟩ := Zfb _ y (List.mem_of_getElem? hy)
  have := Zdn (show isE (Xl t0).flat = true by unfold isE; rw [Zcr ok]; rfl) z hz hk
  unfold isL; omega
 ·have := g.F1 i (Nat.zero_le _)
  rw [Zak hy] at this
  exact (Zhu (by omega)).2 this
 rw [Zvz H w, Zot (L := Lg t0) ⟨t0, h2, h3, fun _ => Iff.rfl⟩ hv hw, ← Zkt t0 h2 w, ← g.ac (fun p c => (bpT (Xl t0) [] []).L[p]? = some c) (fun _ _ _ _ => Iff.rfl) w]
 refine Zjj (fun p q => ?_) (fun _ => Iff.rfl) (fun _ => Iff.rfl) Iff.rfl
 unfold Ed; simp
theorem Zbz (h : (bpE e).2 = false) : (bpE e).1.L = [] := by
 by_cases hc : (Qc e).2 = true ∧ cntL (Qc e).1 ≤ 20
 ·obtain ⟨t, ht, _⟩ := Zia hc.1
  rw [Qq hc.1 hc.2 ht] at h; cases h
 rw [Xj hc]
theorem Zwg (h : (Qc e).2 = true) (hx : ivE (Qc e).1 = true) (hw : IsWd w) : mwE (Qc e).1 w = mwE e w := by
 have hv : ivE e = true := by
  cases hi : ivE e with
  | true => rfl
  | false => rw [Zbj hi] at h; cases h
 obtain ⟨t0, h1, h2, h3, h4⟩ := Zkn hv
 have hb : Xt t0 ≤ 5000 := by
  apply Classical.byContradiction
  intro hn; rw [Zah h1 hn] at h; cases h
 have hz : (Xl t0).sz ≤ 400 := by
  apply Classical.byContradiction
  intro hn; rw [Zaj h1 hn] at h; cases h
 have e1 := Zbk h1 h4 hb hz
 rw [Bool.eq_iff_iff, Zot (L := Lg t0) ⟨t0, h2, h3, fun _ => Iff.rfl⟩ hv hw, Zot (L := Lg (Xl t0)) ⟨Xl t0, Zhk h2, by rw [e1], fun _ => Iff.rfl⟩ hx hw, Zkt t0 h2]
theorem Zey (h : (bpE e).2 = true) (hw : IsWd w) : tt ((Zcf (bpE e).1.L (bpE e).1.f (bpE e).1.l (bpE e).1.F ∧ IsWd w) ∧ accB (bpE e).1.l (bpE e).1.n (runP (bpE e).1.L (bpE e).1.f (bpE e).1.F w w.length) = true) = mwE e w := by
 obtain ⟨_, _, hv, ha⟩ := Zga h
 rw [Bool.eq_iff_iff, Zeb, ← ha w hw]
 exact ⟨fun q => q.2, fun q => ⟨⟨hv, hw⟩, q⟩⟩
theorem Qa (h : (bpE e).2 = true) (hw : IsWd w) : decide (0 < crR (bpE e).1.L (bpE e).1.f (bpE e).1.l (bpE e).1.F (bpE e).1.n w) = mwE e w := by
 obtain ⟨_, H, hv, ha⟩ := Zga h
 rw [Bool.eq_iff_iff, decide_eq_true_eq, ← ha w hw, ← Zwn H w]
 unfold crR
 rw [← Zbl ⟨hv, hw⟩]; rfl
theorem Zjp (h : (bpE e).2 = true) (hw : IsWd w) {i : Nat} (hi : w.length ≤ i) (hi2 : i ≤ w.length) : tt ((Zcf (bpE e).1.L (bpE e).1.f (bpE e).1.l (bpE e).1.F ∧ inM ((bpE e).1.L.length + 1) (runP (bpE e).1.L (bpE e).1.f (bpE e).1.F w i)) ∧ accB (bpE e).1.l (bpE e).1.n (runP (bpE e).1.L (bpE e).1.f (bpE e).1.F w i) = true) = mwE e w := by
 obtain ⟨_, H, hv, ha⟩ := Zga h
 obtain rfl : i = w.length := by omega
 have hm := (Zdy H w w.length (Nat.le_refl _)).1
 have hn := H.n20
 have hin : inM (((bpE e).1.L.length : Int) + 1) (runP (bpE e).1.L (bpE e).1.f (bpE e).1.F w w.length) := by
  have := (Zhu (n := (bpE e).1.L.length + 1) (by omega)).2 hm
  rwa [show (((bpE e).1.L.length + 1 : Nat) : Int) = ((bpE e).1.L.length : Int) + 1 by omega] at this
 rw [Bool.eq_iff_iff, Zeb, ← ha w hw]
 exact ⟨fun q => q.2, fun q => ⟨⟨hv, hin⟩, q⟩⟩
theorem Zex (h : (bpE e).2 = true) {k : Nat} {y : Int} (hk : w[k]? = some y) : Zec (bpE e).1.L (bpE e).1.f (bpE e).1.l (bpE e).1.F (runP (bpE e).1.L (bpE e).1.f (bpE e).1.F w k) y = runP (bpE e).1.L (bpE e).1.f (bpE e).1.F w (k + 1) := by
 obtain ⟨_, H, hv, _⟩ := Zga h
 have hm := (Zdy H w k (by have := (List.getElem?_eq_some_iff.1 hk).1; omega)).1
 have hn := H.n20
 have hin : inM (((bpE e).1.L.length : Int) + 1) (runP (bpE e).1.L (bpE e).1.f (bpE e).1.F w k) := by
  have := (Zhu (n := (bpE e).1.L.length + 1) (by omega)).2 hm
  rwa [show (((bpE e).1.L.length + 1 : Nat) : Int) = ((bpE e).1.L.length : Int) + 1 by omega] at this
 rw [← Zfq ⟨hv, hin⟩, ← Znm rfl hk]
end
end Go.KLib

namespace Go.KLib
section
variable {S : Int} {A : List Bool} {N : List (List Int)} {C : List Int} {s t n : Nat}
theorem Zdp {T : Type} (nx : T → Nat → T) (t0 : T) (c : Int) (v : List Int) : runT nx t0 (c :: v) = runT nx (nx t0 c.toNat) v := rfl
theorem Zjz {c : Int} {v : List Int} : okW (c :: v) ↔ (0 ≤ c ∧ c ≤ 8) ∧ okW v :=
 ⟨fun h => ⟨h c (List.mem_cons_self ..), fun x hx => h x (List.mem_cons_of_mem _ hx)⟩, fun h x hx => by
  rcases List.mem_cons.1 hx with e | e
  ·rw [e]; exact h.1
  exact h.2 x e⟩
theorem Zrx {x : Int} (h : x < 0) (k : Nat) : nxI N x k = -1 := by unfold nxI Ztk; rw [if_pos (.inl h)]
theorem Zji : ∀ (v : List Int) (x : Int), x < 0 → accA A (runT (nxI N) x v) = false
 | [], x, h => by show accA A x = false; exact (Zvy (by omega)).symm
 | c :: v, x, h => by rw [Zdp, Zrx h]; exact Zji v (-1) (by omega)
theorem Zoo {x : Int} (hx : 0 ≤ x) {k : Nat} (hk : k ≤ 8) : nxI N x k = (N.getD x.toNat []).getD k 0 := by
 unfold nxI Ztk; rw [if_neg (by omega)]; rfl
theorem Zou (h : Zgc S A N) (hs : s < A.length) {k : Nat} (hk : k ≤ 8) : ∃ r, N[s]? = some r ∧ r[k]? = some (nxI N s k) := by
 have hN := h.2.2.1
 have hr : N[s]? = some (N[s]'(by omega)) := List.getElem?_eq_getElem _
 have hl := (Zgz h.2 hr).1
 refine ⟨_, hr, ?_⟩
 rw [Zoo (Int.natCast_nonneg s) hk, Int.toNat_natCast, Zak hr, List.getD_eq_getElem?_getD, List.getElem?_eq_getElem (by omega)]
 rfl
theorem Zop (h : Zgc S A N) (hs : s < A.length) {k : Nat} (hk : k ≤ 8) : -1 ≤ nxI N s k ∧ nxI N s k ≤ (A.length : Int) - 1 := by
 obtain ⟨r, h1, h2⟩ := Zou h hs hk
 exact Ztp h.2 h1 h2
theorem Zms {s : Nat} : accA A (s : Int) = A.getD s false := by unfold accA; simp
theorem Zui (h : Zgc S A N) : ∀ {s : Nat}, Cl (Zqz A) (Zom N) s → ∃ v, okW v ∧ accA A (runT (nxI N) (s : Int) v) = true := fun hc => by
 induction hc with
 | @base s hb => exact ⟨[], Zpq, by show accA A (s : Int) = true; rw [Zms]; exact Zak hb⟩
 | @step s t he hk ih =>
  obtain ⟨v, hv, ha⟩ := ih
  obtain ⟨i, r, h1, h2⟩ := he
  have hl := (Zgz h.2 h1).1
  have hi := (List.getElem?_eq_some_iff.1 h2).1
  have hN := h.2.2.1
  have hs := (List.getElem?_eq_some_iff.1 h1).1
  obtain ⟨r', h3, h4⟩ := Zou h (s := s) (by omega) (k := i) (by omega)
  rw [h1] at h3; injection h3 with h3; subst h3
  rw [h2] at h4; injection h4 with h4
  exact ⟨(i : Int) :: v, Zjz.2 ⟨by omega, hv⟩, by rw [Zdp, Int.toNat_natCast, ← h4]; exact ha⟩
theorem Zpu (h : Zgc S A N) : ∀ (v : List Int) (s : Nat), s < A.length → okW v → accA A (runT (nxI N) (s : Int) v) = true → Cl (Zqz A) (Zom N) s
 | [], s, hs, _, ha => by
  have e : accA A (s : Int) = true := ha
  rw [Zms] at e
  refine .base ?_
  show A[s]? = some true
  rw [List.getD_eq_getElem?_getD, List.getElem?_eq_getElem hs] at e
  rw [List.getElem?_eq_getElem hs]; exact congrArg some e
 | c :: v, s, hs, hv, ha => by
  rw [Zjz] at hv
  rw [Zdp] at ha
  have hk : c.toNat ≤ 8 := by omega
  obtain ⟨r, h1, h2⟩ := Zou h hs hk
  have hr := Zop h hs hk
  rcases Int.lt_or_le (nxI N s c.toNat) 0 with hn | hn
  ·rw [Zji v _ hn] at ha; cases ha
  obtain ⟨t, e⟩ := Int.eq_ofNat_of_zero_le hn
  rw [e] at ha h2
  exact .step ⟨_, r, h1, h2⟩ (Zpu h v t (by omega) hv.2 ha)
theorem Zkb (h : Zgc S A N) (hs : s < A.length) : (Zbf A N).getD s false = true ↔ ∃ v, okW v ∧ accA A (runT (nxI N) (s : Int) v) = true := by
 have e : (Zbf A N).getD s false = tt (Cl (Zqz A) (Zom N) s) := by unfold Zbf; exact Zak (Zur hs)
 rw [e, Zeb]
 exact ⟨Zui h, fun ⟨v, h1, h2⟩ => Zpu h v s hs h1 h2⟩
theorem Zkv (C : List Int) (N : List (List Int)) : ∀ m s, s < m → (C.getD s 0 < 0 → (rfn C N m).2[s]? = some (-1)) ∧
   (¬ C.getD s 0 < 0 → keyC C (N.getD s []) (C.getD s 0) ∈ (rfn C N m).1 ∧ (rfn C N m).2[s]? = some ((rfn C N m).1.idxOf (keyC C (N.getD s []) (C.getD s 0)) : Int))
 | 0, _, h => absurd h (by omega)
 | m + 1, s, h => by
  have hl := (Zpx C N m).1
  by_cases e : s = m
  ·subst e
   rcases Zhz C N s with ⟨h1, e⟩ | ⟨h1, hk, e⟩ | ⟨h1, hk, e⟩ <;> rw [e]
   ·refine ⟨fun _ => ?_, fun q => absurd h1 q⟩
    simp [List.getElem?_append, hl]
   ·refine ⟨fun q => absurd q h1, fun _ => ⟨hk, ?_⟩⟩
    simp [List.getElem?_append, hl]
   refine ⟨fun q => absurd q h1, fun _ => ⟨by simp, ?_⟩⟩
   rw [List.idxOf_append, if_neg hk, List.getElem?_append_right (by omega), hl]
   simp
  have ih := Zkv C N m s (by omega)
  have g : ∀ x, ((rfn C N m).2 ++ [x])[s]? = (rfn C N m).2[s]? := fun x => List.getElem?_append_left (by omega)
  rcases Zhz C N m with ⟨h1, e⟩ | ⟨h1, hk, e⟩ | ⟨h1, hk, e⟩ <;> rw [e] <;> simp only [g]
  ·exact ih
  ·exact ih
  refine ⟨ih.1, fun q => ?_⟩
  obtain ⟨a, b⟩ := ih.2 q
  exact ⟨List.mem_append_left _ a, by rw [b, List.idxOf_append, if_pos a]⟩
theorem Zmj (hs : s < n) : (rfn C N n).2.getD s 0 < 0 ↔ C.getD s 0 < 0 := by
 have h := Zkv C N n s hs
 by_cases e : C.getD s 0 < 0
 ·rw [Zak (h.1 e)]; exact ⟨fun _ => e, fun _ => by omega⟩
 rw [Zak (h.2 e).2]; exact ⟨fun q => by omega, fun q => absurd q e⟩
theorem Zpt (hs : s < n) (ht : t < n) : (rfn C N n).2.getD s 0 = (rfn C N n).2.getD t 0 ↔ (C.getD s 0 < 0 ∧ C.getD t 0 < 0) ∨ (¬ C.getD s 0 < 0 ∧ ¬ C.getD t 0 < 0 ∧ keyC C (N.getD s []) (C.getD s 0) = keyC C (N.getD t []) (C.getD t 0)) := by
 have h := Zkv C N n s hs
 have g := Zkv C N n t ht
 by_cases e : C.getD s 0 < 0 <;> by_cases f : C.getD t 0 < 0
 ·rw [Zak (h.1 e), Zak (g.1 f)]; exact ⟨fun _ => .inl ⟨e, f⟩, fun _ => rfl⟩
 ·rw [Zak (h.1 e), Zak (g.2 f).2]
  exact ⟨fun q => by omega, fun q => q.elim (fun q => absurd q.2 f) fun q => absurd e q.1⟩
 ·rw [Zak (h.2 e).2, Zak (g.1 f)]
  exact ⟨fun q => by omega, fun q => q.elim (fun q => absurd q.1 e) fun q => absurd f q.2.1⟩
 rw [Zak (h.2 e).2, Zak (g.2 f).2]
 obtain ⟨a1, _⟩ := h.2 e
 obtain ⟨a2, _⟩ := g.2 f
 constructor
 ·intro q
  refine .inr ⟨e, f, ?_⟩
  have i1 := List.idxOf_lt_length_of_mem a1
  have i2 := List.idxOf_lt_length_of_mem a2
  have q' : (rfn C N n).1.idxOf (keyC C (N.getD s []) (C.getD s 0)) = (rfn C N n).1.idxOf (keyC C (N.getD t []) (C.getD t 0)) := by omega
  rw [← List.getElem_idxOf i1, ← List.getElem_idxOf i2]
  simp only [q']
 rintro (q | q)
 ·exact absurd q.1 e
 rw [q.2.2]
theorem Znw (h0 : C.length = n) (hs : s < n) : ∀ i, (clsD N C n i).getD s 0 < 0 ↔ C.getD s 0 < 0
 | 0 => Iff.rfl
 | i + 1 => (Zmj hs).trans (Znw h0 hs i)
theorem Zfn (hs : s < A.length) : (clsI A (Zbf A N) A.length).getD s 0 = if (Zbf A N).getD s false = false then -1 else if A.getD s false then 1 else 0 := by
 unfold clsI
 exact Zak (by rw [List.getElem?_map, List.getElem?_range hs]; rfl)
theorem Zer (hs : s < A.length) : (clsI A (Zbf A N) A.length).getD s 0 < 0 ↔ (Zbf A N).getD s false = false := by
 rw [Zfn hs]
 by_cases h : (Zbf A N).getD s false = false
 ·rw [if_pos h]; exact ⟨fun _ => h, fun _ => by omega⟩
 rw [if_neg h]; exact ⟨fun q => by split at q <;> omega, fun q => absurd q h⟩
theorem Zux (h : Zgc S A N) (hs : s < A.length) (hd : (Zbf A N).getD s false = false) {v : List Int} (hv : okW v) : accA A (runT (nxI N) (s : Int) v) = false := by
 cases e : accA A (runT (nxI N) (s : Int) v) with
 | false => rfl
 | true => rw [(Zkb h hs).2 ⟨v, hv, e⟩] at hd; cases hd
theorem Ztg (h : Zgc S A N) (hs : s < A.length) : (N.getD s []).length = 9 := by
 have hN := h.2.2.1
 have hr : N[s]? = some (N[s]'(by omega)) := List.getElem?_eq_getElem _
 rw [Zak hr]; exact (Zgz h.2 hr).1
theorem apart (h : Zgc S A N) : ∀ i s t, s < A.length → t < A.length → (clsD N (clsI A (Zbf A N) A.length) A.length i).getD s 0 ≠ (clsD N (clsI A (Zbf A N) A.length) A.length i).getD t 0 → ∃ v, okW v ∧ accA A (runT (nxI N) (s : Int) v) ≠ accA A (runT (nxI N) (t : Int) v)
 | i, s, t, hs, ht, hne => by
  have h0 := Zry A (Zbf A N) A.length
  have one : ∀ s t : Nat, s < A.length → t < A.length → (Zbf A N).getD s false = true → (Zbf A N).getD t false = false → ∃ v, okW v ∧ accA A (runT (nxI N) (s : Int) v) ≠ accA A (runT (nxI N) (t : Int) v) := fun s t hs ht a b => by
   obtain ⟨v, hv, e⟩ := (Zkb h hs).1 a
   exact ⟨v, hv, by rw [e, Zux h ht b hv]; decide⟩
  cases a : (Zbf A N).getD s false <;> cases b : (Zbf A N).getD t false
  ·exfalso
   have e1 := (Znw (N := N) h0 hs i).2 ((Zer hs).2 a)
   have e2 := (Znw (N := N) h0 ht i).2 ((Zer ht).2 b)
   cases i with
   | zero =>
    have e1' := Zfn (N := N) hs
    have e2' := Zfn (N := N) ht
    rw [if_pos a] at e1'; rw [if_pos b] at e2'
    exact hne (e1'.trans e2'.symm)
   | succ i => exact hne ((Zpt hs ht).2 (.inl ⟨(Zmj hs).1 e1, (Zmj ht).1 e2⟩))
  ·obtain ⟨v, hv, e⟩ := one t s ht hs b a
   exact ⟨v, hv, fun q => e q.symm⟩
  ·exact one s t hs ht a b
  have n1 : ∀ i, ¬ (clsD N (clsI A (Zbf A N) A.length) A.length i).getD s 0 < 0 := fun i q => by
   have := (Zer hs).1 ((Znw (N := N) h0 hs i).1 q); rw [a] at this; cases this
  have n2 : ∀ i, ¬ (clsD N (clsI A (Zbf A N) A.length) A.length i).getD t 0 < 0 := fun i q => by
   have := (Zer ht).1 ((Znw (N := N) h0 ht i).1 q); rw [b] at this; cases this
  cases i with
  | zero =>
   refine ⟨[], Zpq, fun q => hne ?_⟩
   have q' : accA A (s : Int) = accA A (t : Int) := q
   rw [Zms, Zms] at q'
   show (clsI A (Zbf A N) A.length).getD s 0 = (clsI A (Zbf A N) A.length).getD t 0
   rw [Zfn hs, Zfn ht, a, b, q']
  | succ i =>
   by_cases hc : (clsD N (clsI A (Zbf A N) A.length) A.length i).getD s 0 = (clsD N (clsI A (Zbf A N) A.length) A.length i).getD t 0
   ·have hk : (N.getD s []).map (keyE (clsD N (clsI A (Zbf A N) A.length) A.length i)) ≠ (N.getD t []).map (keyE (clsD N (clsI A (Zbf A N) A.length) A.length i)) := fun q =>
     hne ((Zpt hs ht).2 (.inr ⟨n1 i, n2 i, by unfold keyC; rw [hc, q]⟩))
    have l1 := Ztg h hs
    have l2 := Ztg h ht
    have ⟨k, hk9, hq⟩ : ∃ k, k < 9 ∧ keyE (clsD N (clsI A (Zbf A N) A.length) A.length i) ((N.getD s []).getD k 0) ≠ keyE (clsD N (clsI A (Zbf A N) A.length) A.length i) ((N.getD t []).getD k 0) := by
     apply Classical.byContradiction
     intro hh
     refine hk (List.ext_getElem (by rw [List.length_map, List.length_map, l1, l2]) fun k g1 g2 => ?_)
     have g3 : k < 9 := by rwa [List.length_map, l1] at g1
     rw [List.getElem_map, List.getElem_map]
     apply Classical.byContradiction
     intro hn
     refine hh ⟨k, g3, ?_⟩
     rwa [List.getD_eq_getElem?_getD, List.getElem?_eq_getElem (by omega), Option.getD_some, List.getD_eq_getElem?_getD (l := N.getD t []), List.getElem?_eq_getElem (by omega), Option.getD_some]
    have hx : nxI N s k = (N.getD s []).getD k 0 := by rw [Zoo (Int.natCast_nonneg s) (by omega), Int.toNat_natCast]
    have hy : nxI N t k = (N.getD t []).getD k 0 := by rw [Zoo (Int.natCast_nonneg t) (by omega), Int.toNat_natCast]
    rw [← hx, ← hy] at hq
    have r1 := Zop h hs (k := k) (by omega)
    have r2 := Zop h ht (k := k) (by omega)
    have fin : (∃ v, okW v ∧ accA A (runT (nxI N) (nxI N s k) v) ≠ accA A (runT (nxI N) (nxI N t k) v)) → ∃ v, okW v ∧ accA A (runT (nxI N) (s : Int) v) ≠ accA A (runT (nxI N) (t : Int) v) := fun ⟨v, hv, e⟩ =>
     ⟨(k : Int) :: v, Zjz.2 ⟨by omega, hv⟩, by rw [Zdp, Zdp, Int.toNat_natCast]; exact e⟩
    apply fin
    have lv : ∀ x : Nat, x < A.length → keyE (clsD N (clsI A (Zbf A N) A.length) A.length i) (x : Int) ≠ -1 → ∃ v, okW v ∧ accA A (runT (nxI N) (x : Int) v) = true := fun x hx hk => by
     refine (Zkb h hx).1 ?_
     cases e : (Zbf A N).getD x false with
     | true => rfl
     | false =>
      exfalso
      refine hk ?_
      unfold keyE; rw [if_neg (by omega), Int.toNat_natCast]
      cases i with
      | zero => have := Zfn (N := N) hx; rw [if_pos e] at this; exact this
      | succ i => exact Zak ((Zkv _ N A.length x hx).1 ((Znw (N := N) h0 hx i).2 ((Zer hx).2 e)))
    have km : ∀ x : Int, x < 0 → keyE (clsD N (clsI A (Zbf A N) A.length) A.length i) x = -1 := fun x hx => by unfold keyE; rw [if_pos hx]
    rcases Int.lt_or_le (nxI N s k) 0 with p1 | p1 <;> rcases Int.lt_or_le (nxI N t k) 0 with p2 | p2
    ·exact absurd ((km _ p1).trans (km _ p2).symm) hq
    ·obtain ⟨y, ey⟩ := Int.eq_ofNat_of_zero_le p2
     rw [km _ p1, ey] at hq
     obtain ⟨v, hv, e⟩ := lv y (by omega) (fun q => hq q.symm)
     exact ⟨v, hv, by rw [Zji v _ p1, ey, e]; decide⟩
    ·obtain ⟨y, ey⟩ := Int.eq_ofNat_of_zero_le p1
     rw [km _ p2, ey] at hq
     obtain ⟨v, hv, e⟩ := lv y (by omega) hq
     exact ⟨v, hv, by rw [Zji v _ p2, ey, e]; decide⟩
    obtain ⟨x, ex⟩ := Int.eq_ofNat_of_zero_le p1
    obtain ⟨y, ey⟩ := Int.eq_ofNat_of_zero_le p2
    rw [ex, ey] at hq ⊢
    refine apart h i x y (by omega) (by omega) fun q => hq ?_
    unfold keyE; rw [if_neg (by omega), if_neg (by omega), Int.toNat_natCast, Int.toNat_natCast]; exact q
   exact apart h i s t hs ht hc
 termination_by i => i
end
end Go.KLib

namespace Go.KLib
section
variable {α : Type} {cs : α → List Value} {e k lo hi hi' : Nat} {w w' : World} {vs : List Sv} {xs : List (List α)} {ws : List Nat}
theorem Od.put {i : Nat} {v v' : Sv} {x x' : List α} (h : Od cs e k w lo hi vs xs) (hv : vs[i]? = some v) (hx : xs[i]? = some x) (c : Ch ws w w') (hw : ∀ g ∈ ws, g ∈ bl v.v) (ho : Ol cs e k w' v'.v x') (hb : ∀ g ∈ bl v'.v, g ∈ bl v.v ∨ (hi ≤ g ∧ g < hi')) (hh : hi ≤ hi') (hl : lo ≤ hi) : Od cs e k w' lo hi' (vs.set i v') (xs.set i x') := by
 have i1 := (List.getElem?_eq_some_iff.1 hv).1
 have i2 := (List.getElem?_eq_some_iff.1 hx).1
 have old : ∀ g ∈ bl v.v, lo ≤ g ∧ g < hi := (h.2.1 i v x hv hx).2
 refine ⟨by simp [h.1], fun j u y a b => ?_, fun j1 j2 u1 u2 a b hj => ?_⟩
 ·rw [List.getElem?_set] at a b
  by_cases e1 : i = j
  ·subst e1
   rw [if_pos rfl, if_pos i1] at a
   rw [if_pos rfl, if_pos i2] at b
   injection a with a; injection b with b; subst a; subst b
   exact ⟨ho, fun g hg => by
    rcases hb g hg with q | q
    ·have := old g q; omega
    omega⟩
  rw [if_neg e1] at a b
  have t := h.2.1 j u y a b
  refine ⟨t.1.ch c fun g hg hm => ?_, fun g hg => by have := t.2 g hg; omega⟩
  rcases Nat.lt_or_gt_of_ne e1 with h1 | h1
  ·exact h.2.2 i j v u hv a h1 g (hw g hm) hg
  exact h.2.2 j i u v a hv h1 g hg (hw g hm)
 rw [List.getElem?_set] at a b
 have rng : ∀ (j : Nat) (u : Sv), vs[j]? = some u → ∀ g ∈ bl u.v, lo ≤ g ∧ g < hi := fun j u hu => by
  obtain ⟨_, _, _, r⟩ := h.ownget hu; exact r
 by_cases e1 : i = j1 <;> by_cases e2 : i = j2
 ·omega
 ·subst e1
  rw [if_pos rfl, if_pos i1] at a; rw [if_neg e2] at b
  injection a with a; subst a
  intro g hg hm
  rcases hb g hg with q | q
  ·exact h.2.2 i j2 v u2 hv b hj g q hm
  have := rng j2 u2 b g hm; omega
 ·subst e2
  rw [if_pos rfl, if_pos i1] at b; rw [if_neg e1] at a
  injection b with b; subst b
  intro g hg hm
  rcases hb g hm with q | q
  ·exact h.2.2 j1 i u1 v a hv hj g hg q
  have := rng j1 u1 a g hg; omega
 rw [if_neg e1] at a; rw [if_neg e2] at b
 exact h.2.2 j1 j2 u1 u2 a b hj
theorem Sep.put {o : Value} {i : Nat} {v v' : Sv} (h : Sep o vs) (hv : vs[i]? = some v) (hb : ∀ g ∈ bl v'.v, g ∈ bl v.v ∨ (hi ≤ g ∧ g < hi')) (ho : ∀ g ∈ bl o, g < hi) : Sep o (vs.set i v') := fun u hu g hg hm => by
 rcases List.mem_or_eq_of_mem_set hu with q | q
 ·exact h u q g hg hm
 subst q
 rcases hb g hg with q | q
 ·exact h v (Xw hv) g q hm
 have := ho g hm; omega
end
structure GStp where
 ed : Int
 bk : Bool
 deriving DecidableEq
structure PStep where
 edge : Int
 back : Bool
 node : Int
 state : Int
 deriving DecidableEq
structure Arc where
 edge : Int
 back : Bool
 letter : Int
 to_ : Int
 deriving DecidableEq
def GStp.cs (p : GStp) : List Value := [.int .i64 p.ed, .bool p.bk]
def PStep.cs (p : PStep) : List Value := [.int .i64 p.edge, .bool p.back, .int .i64 p.node, .int .i64 p.state]
def Arc.cs (p : Arc) : List Value := [.int .i64 p.edge, .bool p.back, .int .i64 p.letter, .int .i64 p.to_]
theorem GStp.len (p : GStp) : p.cs.length = 2 := rfl
theorem PStep.len (p : PStep) : p.cs.length = 4 := rfl
theorem Arc.len (p : Arc) : p.cs.length = 4 := rfl
theorem GStp.one (x : GStp) : ∀ y ∈ x.cs, y.oneCell' = true := by intro y hy; simp [GStp.cs] at hy; rcases hy with rfl | rfl <;> rfl
theorem PStep.one (x : PStep) : ∀ y ∈ x.cs, y.oneCell' = true := by intro y hy; simp [PStep.cs] at hy; rcases hy with rfl | rfl | rfl | rfl <;> rfl
theorem Arc.one (x : Arc) : ∀ y ∈ x.cs, y.oneCell' = true := by intro y hy; simp [Arc.cs] at hy; rcases hy with rfl | rfl | rfl | rfl <;> rfl
section
variable {S s t x y : Int} {A : List Bool} {N : List (List Int)}
end
end Go.KLib

namespace Go.KLib
section
variable {S aS bS : Int} {A aA bA : List Bool} {N aN bN : List (List Int)}
end
end Go.KLib

namespace Go.KLib
def Zhr (k : Int) (n : Nat) : List PStep := (List.range n).map fun (i : Nat) => ⟨k + 4 * i, decide ((k + 4 * i + 1).tmod 3 = 0), k + 4 * i + 2, k + 4 * i + 3⟩
@[simp] theorem mkPStep_len (k : Int) (n : Nat) : (Zhr k n).length = n := by simp [Zhr]
theorem Ztj (a : List PStep) {i : Nat} (hi : i < a.length) {kk k : Int} (h : kk = k + 4 * i) : (Zhr k i ++ a.drop i).set i ⟨kk, decide ((kk + 1).tmod 3 = 0), kk + 1 + 1, kk + 1 + 1 + 1⟩ = Zhr k (i + 1) ++ a.drop (i + 1) := by
 subst h
 have h2 := Zjb a (fun (q : Nat) => (⟨k + 4 * q, decide ((k + 4 * q + 1).tmod 3 = 0), k + 4 * q + 2, k + 4 * q + 3⟩ : PStep)) hi
 unfold Zhr
 refine Eq.trans (congrArg _ ?_) h2
 simp only [Int.add_assoc]
 all_goals rfl
section
variable {V : List Int} {E : List GEdge} {node : Int} {k : Nat} {e y : GEdge}
end
section
variable {S : Int} {A : List Bool} {N : List (List Int)} {x v m : Int}
end
section
variable {V : List Int} {E : List GEdge} {S node s : Int} {A : List Bool} {N : List (List Int)}
end
end Go.KLib

namespace Go.KLib
section
variable {V : List Int} {E : List GEdge} {node s : Int} {k : Nat} {e y : GEdge} {S : Int} {A : List Bool} {N : List (List Int)}
variable {c q : Nat} {x m t : Int} {r : List Int}
end
section
variable {N : List (List Int)} {x v m z : Int} {l : List Int} {k : Nat} {q : Int}
end
end Go.KLib

namespace Go.KLib
theorem om {P : Prop} (h : P := by omega) : P := h
theorem bd {P : Prop} (h : P := by first | omega | (simp only [List.length_append, List.length_nil, List.length_cons, List.length_replicate, List.length_set, List.length_reverse, List.length_map] at *; omega) | (simp at *; omega)) : P := h
section
variable {α : Type} {cs : α → List Value} {e k : Nat} {w : World} {v : Value} {xs : List α} {L B b c lo hi : Nat} {P : Nat → Prop}
theorem Ol.opn (h : Ol cs e k w v xs) : ∃ A C, v = .slice A xs.length C ∧ xs.length ≤ 9223372036854775807 ∧ ∀ g ∈ bl v, g < w.heap.size := by
 obtain ⟨A, C, e⟩ := h.val
 exact ⟨A, C, e, h.len, h.lt⟩
theorem nS (h : b ≠ c) : b ∉ [c] := fun q => h (List.mem_singleton.1 q)
theorem lS (h : lo ≤ b) : ∀ i ∈ [b], lo ≤ i ∨ P i := fun i q => .inl (by rw [List.mem_singleton.1 q]; exact h)
theorem oS (h : P b) : ∀ i ∈ [b], P i := fun i q => by rw [List.mem_singleton.1 q]; exact h
theorem dS (h1 : Lo lo v) (h2 : ∀ g ∈ bl v, g < hi) (h : b < lo ∨ hi ≤ b) : ∀ g ∈ bl v, g ∉ [b] := fun g hg hm => by
 have q := List.mem_singleton.1 hm
 have a := h1 g hg
 have z := h2 g hg
 omega
end
section
variable {P : Program} {N : Nat} {ops : Array Oper} {Q : Po} {l : KL} {w : World} {o : Oper} {S : World → Prop} {fuel : Nat} {listed : Array Bool} {v : Value}
theorem dT (i : Nat) (hi : ops[i]? = some o) (hd : dOk N o.dst = true) (hg : Zgm ops l o = some true) (h : Tk P S l o fun v => DR P N ops Q S fuel (listed.setIfInBounds i true) (pu l o.dst v) w) (hk : Zgg ops listed i = true := by kernel_rfl) : DR P N ops Q S (fuel + 1) listed l w := DR_s i hi hk hd hg h
theorem dV (i : Nat) (hi : ops[i]? = some o) (hd : dOk N o.dst = true) (hg : Zgm ops l o = some true) (hv : ∀ w, Qd P l o w v w) (h : DR P N ops Q S fuel (listed.setIfInBounds i true) (pu l o.dst v) w) (hk : Zgg ops listed i = true := by kernel_rfl) : DR P N ops Q S (fuel + 1) listed l w := DR_s i hi hk hd hg (t_v hv h)
theorem dK (i : Nat) (hi : ops[i]? = some o) (hd : dOk N o.dst = true) (hg : Zgm ops l o = some false) (h : DR P N ops Q S fuel (listed.setIfInBounds i true) (pu l o.dst undef) w) (hk : Zgg ops listed i = true := by kernel_rfl) : DR P N ops Q S (fuel + 1) listed l w := Ztz i hi hk hd hg h
theorem dO (i : Nat) (h : DO P N ops Q S fuel listed i l w) (hr : Region.ready .any ops listed = [i] := by kernel_rfl) : DR P N ops Q S (fuel + 1) listed l w := Zvs i hr h
end
section
variable {l l9 : KL}
theorem sC1 {t0 : Nat} {v0 : Value} (h0 : look l9 t0 = some v0) (h : Sub l l9) : Sub ((t0, v0) :: l) l9 := (Sub.cons h0 h)
theorem sC2 {t0 t1 : Nat} {v0 v1 : Value} (h0 : look l9 t0 = some v0) (h1 : look l9 t1 = some v1) (h : Sub l l9) : Sub ((t0, v0) :: (t1, v1) :: l) l9 := (Sub.cons h0 (Sub.cons h1 h))
theorem sC4 {t0 t1 t2 t3 : Nat} {v0 v1 v2 v3 : Value} (h0 : look l9 t0 = some v0) (h1 : look l9 t1 = some v1) (h2 : look l9 t2 = some v2) (h3 : look l9 t3 = some v3) (h : Sub l l9) : Sub ((t0, v0) :: (t1, v1) :: (t2, v2) :: (t3, v3) :: l) l9 := (Sub.cons h0 (Sub.cons h1 (Sub.cons h2 (Sub.cons h3 h))))
theorem sC8 {t0 t1 t2 t3 t4 t5 t6 t7 : Nat} {v0 v1 v2 v3 v4 v5 v6 v7 : Value} (h0 : look l9 t0 = some v0) (h1 : look l9 t1 = some v1) (h2 : look l9 t2 = some v2) (h3 : look l9 t3 = some v3) (h4 : look l9 t4 = some v4) (h5 : look l9 t5 = some v5) (h6 : look l9 t6 = some v6) (h7 : look l9 t7 = some v7) (h : Sub l l9) : Sub ((t0, v0) :: (t1, v1) :: (t2, v2) :: (t3, v3) :: (t4, v4) :: (t5, v5) :: (t6, v6) :: (t7, v7) :: l) l9 := (Sub.cons h0 (Sub.cons h1 (Sub.cons h2 (Sub.cons h3 (Sub.cons h4 (Sub.cons h5 (Sub.cons h6 (Sub.cons h7 h))))))))
end
end Go.KLib

