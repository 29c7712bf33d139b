/- The library of this proof: a logic of the code's forms, memory, data, and plain laws. It speaks of no program. -/
import Derived.WalkKit
import Derived.OrdersHeld
import Derived.WalkLawsBesides
import Derived.WalkSpells
import Derived.ProofKit
import Derived.Deep.Slices
import Derived.Deep.Fields
import Derived.Lib.SmallJoins
import Derived.Laws.Append
import Derived.Laws.CopyRow
import Derived.Laws.AppendOwn
import Derived.Laws.Small
import Derived.Shelf.Sort.Plain
import Derived.Shelf.Slices.CompactI
import Derived.Shelf.Slices.Delete
import Derived.Ground.NamesProg
import Derived.Ground.Names2Prog
import Derived.Shelf.Lay
import Derived.Shelf.Slices.In.SortNone
import Derived.MapKept
import Derived.Ground.SlsfProg
import Derived.Shelf.SlSortCmp.NoneTotal
import Derived.Laws.BytesString
import Derived.Laws.Strings2
import Derived.Laws.Concat
import Derived.Shelf.Strconv.Itoa3
import Derived.Shelf.Strings.OnBuilder
import Derived.Lib.Split
import Derived.Shelf.Strings.SplitShaped
import Derived.Lib.AppendZerosOnto
import Derived.Lib.Overlaps
import Derived.Handed
import Derived.ShapedOpen
import Derived.Lib.SlTrimSet
import Derived.Lib.IndexMore
import Derived.Lib.Atoi
import Derived.Lib.AtoiBound
import Derived.Lib.ItoaNum
import Derived.Shelf.Strconv.Atoi
import Derived.Shelf.Strconv.ErrVar
import Derived.Shelf.Strings.Cut
import Derived.Shelf.Strings.SlTrimAscii
import Derived.Stop.LaidErr
import Derived.Lib.AppendIntMem
import Derived.Lib.AtoiErrMem
import Derived.Test.YtbnnkffdhnefnaaGreatDoorLibA

namespace Go.KLib
open Go.Sort Go.RowKit Go.Shelf Go.Proofs
def piR (s : List UInt8) : Int × Bool :=
 if 10 < s.length then (0, false) else
 match Lib.atoi s with
 | some n => if Lib.itoa n = s ∧ -999999999 ≤ n ∧ n ≤ 999999999 then (n, true) else (0, false)
 | none => (0, false)
def brS (p : List UInt8) : List UInt8 × List UInt8 × Bool := Lib.cut (Lib.trimS p [123, 125]) [44]
def tkR (p : List UInt8) : Token :=
 if p = [33] then ⟨1, 0, 0, 0⟩ else if p = [40, 41] then ⟨2, 0, 0, 0⟩ else if p = [46] then ⟨4, 0, 0, 0⟩ else if p = [124] then ⟨5, 0, 0, 0⟩ else if p = [42] then ⟨6, 0, 0, 0⟩
 else if (plR p).2 = true then ⟨3, (plR p).1, 0, 0⟩ else ⟨7, 0, (piR (brS p).1).1, (piR (brS p).2.1).1⟩
def allT : List Token := [⟨1, 0, 0, 0⟩, ⟨2, 0, 0, 0⟩, ⟨3, 0, 0, 0⟩, ⟨3, 1, 0, 0⟩, ⟨3, 2, 0, 0⟩, ⟨3, 3, 0, 0⟩, ⟨3, 4, 0, 0⟩, ⟨3, 5, 0, 0⟩, ⟨3, 6, 0, 0⟩, ⟨3, 7, 0, 0⟩, ⟨3, 8, 0, 0⟩, ⟨4, 0, 0, 0⟩, ⟨5, 0, 0, 0⟩, ⟨6, 0, 0, 0⟩,
 ⟨7, 0, 0, 1⟩, ⟨7, 0, 1, 1⟩, ⟨7, 0, 0, 2⟩, ⟨7, 0, 1, 2⟩, ⟨7, 0, 2, 2⟩, ⟨7, 0, 0, 3⟩, ⟨7, 0, 1, 3⟩, ⟨7, 0, 2, 3⟩, ⟨7, 0, 3, 3⟩]
theorem Zhs {t : Token} (h : 0 ≤ arT t) : t ∈ allT := by
 obtain ⟨k, l, a, b⟩ := t
 unfold arT at h
 dsimp only at h
 split at h
 ·rename_i hk
  split at h
  ·rename_i e; obtain ⟨rfl, rfl, rfl⟩ := e
   rcases hk with rfl | rfl <;> decide
  omega
 split at h
 ·rename_i _ hk
  subst hk
  split at h
  ·rename_i e; obtain ⟨⟨e1, e2⟩, rfl, rfl⟩ := e
   obtain ⟨n, rfl⟩ := Int.eq_ofNat_of_zero_le e1
   have : n < 9 := by omega
   have key : ∀ n : Nat, n < 9 → (⟨3, (n : Int), 0, 0⟩ : Token) ∈ allT := by decide
   exact key n this
  omega
 split at h
 ·rename_i hk
  split at h
  ·rename_i e; obtain ⟨rfl, rfl, rfl⟩ := e
   rcases hk with rfl | rfl <;> decide
  omega
 split at h
 ·rename_i hk
  subst hk
  split at h
  ·rename_i e; obtain ⟨rfl, rfl, rfl⟩ := e; decide
  omega
 split at h
 ·rename_i hk
  subst hk
  split at h
  ·rename_i e; obtain ⟨rfl, ⟨h1, h2⟩, h3, h4⟩ := e
   obtain ⟨n, rfl⟩ := Int.eq_ofNat_of_zero_le h3
   obtain ⟨m, rfl⟩ := Int.eq_ofNat_of_zero_le (show 0 ≤ b by omega)
   have key : ∀ m : Nat, m < 4 → ∀ n : Nat, n < 4 → (¬ (1 ≤ m ∧ n ≤ m)) ∨ (⟨7, 0, (n : Int), (m : Int)⟩ : Token) ∈ allT := by decide
   exact (key m (by omega) n (by omega)).resolve_left (by omega)
  omega
 omega
theorem Zka : ∀ t ∈ allT, rdT (Xa t) = t := by decide +kernel
theorem Zjt : ∀ t ∈ allT, tkR (Xa t) = t := by decide +kernel
theorem Zjr : ∀ t ∈ allT, (32 : UInt8) ∉ Xa t := by decide +kernel
theorem Zee {p : Nat → Bool} {l : List Nat} {i : Nat} (h : l.find? p = some i) : p i = true := List.find?_some h
theorem Zkl {p : List UInt8} (h : 0 ≤ arT (rdT p)) : Xa (rdT p) = p := by
 unfold rdT at *
 cases hk : rdK p 7 with
 | some i =>
  have := Zee hk
  simpa using (of_decide_eq_true this).2.2
 | none =>
  rw [hk] at h
  dsimp only at h ⊢
  by_cases hl : (plR p).2 = true
  ·rw [if_pos hl] at h ⊢
   unfold plR at *
   cases hi : ltrI p 9 with
   | none => rw [hi] at hl; cases hl
   | some i =>
    dsimp only
    have h1 := of_decide_eq_true (Zee hi)
    have h2 : i < 9 := by have := List.mem_of_find?_eq_some hi; simpa using this
    show Xa ⟨3, (i : Int), 0, 0⟩ = p
    have e : Xa ⟨3, (i : Int), 0, 0⟩ = fmtL (i : Int) := rfl
    rw [e, ← h1]; unfold fmtL; rw [if_pos (by omega), Int.toNat_natCast]
  rw [if_neg hl] at h ⊢
  by_cases hc : p.length = 5 ∧ bat p 0 = 123 ∧ bat p 2 = 44 ∧ bat p 4 = 125
  ·rw [if_pos hc] at h ⊢
   obtain ⟨h5, h0, h2, h4⟩ := hc
   match p, h5 with
   | [a, b, c, d, e], _ =>
    have e0 : bat [a, b, c, d, e] 0 = (a.toNat : Int) := rfl
    have e1 : bat [a, b, c, d, e] 1 = (b.toNat : Int) := rfl
    have e2 : bat [a, b, c, d, e] 2 = (c.toNat : Int) := rfl
    have e3 : bat [a, b, c, d, e] 3 = (d.toNat : Int) := rfl
    have e4 : bat [a, b, c, d, e] 4 = (e.toNat : Int) := rfl
    rw [e0] at h0; rw [e2] at h2; rw [e4] at h4; rw [e1, e3] at h ⊢
    obtain rfl : a = 123 := UInt8.toNat_inj.1 (by have : (123 : UInt8).toNat = 123 := rfl; omega)
    obtain rfl : c = 44 := UInt8.toNat_inj.1 (by have : (44 : UInt8).toNat = 44 := rfl; omega)
    obtain rfl : e = 125 := UInt8.toNat_inj.1 (by have : (125 : UInt8).toNat = 125 := rfl; omega)
    have hr : (1 ≤ (d.toNat : Int) - 48 ∧ (d.toNat : Int) - 48 ≤ 3) ∧ 0 ≤ (b.toNat : Int) - 48 ∧ (b.toNat : Int) - 48 ≤ (d.toNat : Int) - 48 := by
     unfold arT at h
     dsimp only at h
     rw [if_neg (by decide), if_neg (by decide), if_neg (by decide), if_neg (by decide), if_pos rfl] at h
     split at h
     ·rename_i q; exact q.2
     omega
    have et : Xa ⟨7, 0, (b.toNat : Int) - 48, (d.toNat : Int) - 48⟩ = (((([123] : List UInt8) ++ fmtI ((b.toNat : Int) - 48)) ++ [44]) ++ fmtI ((d.toNat : Int) - 48)) ++ [125] := rfl
    rw [et, Zdd (by omega), Zdd (by omega)]; rfl
  rw [if_neg hc] at h
  exact absurd h (by decide)
theorem Ziw {c : UInt8} : ∀ (ps : List (List UInt8)), ps ≠ [] → (∀ p ∈ ps, c ∉ p) → Zq (jnS [c] ps) (c.toNat : Int) [] = ps
 | [], h, _ => absurd rfl h
 | [p], _, h => by rw [Zjg, Zci p [] (h p (List.mem_singleton.2 rfl))]; rfl
 | p :: q :: r, _, h => by
  rw [Zgr (by simp), List.append_assoc]
  show Zq (p ++ c :: jnS [c] (q :: r)) _ [] = _
  rw [Zdl p [] _ (h p (List.mem_cons_self ..)), Ziw (q :: r) (by simp) (fun x hx => h x (List.mem_cons_of_mem _ hx))]; rfl
theorem Zgp {e : List Token} (h : ivE e = true) : e.length ≤ 24 := by
 unfold ivE at h; rw [Bool.and_eq_true] at h; exact of_decide_eq_true h.1
theorem Zfb {e : List Token} (h : ivE e = true) : ∀ t ∈ e, t ∈ allT := fun t ht => by
 obtain ⟨i, hi, rfl⟩ := List.mem_iff_getElem.1 ht
 exact Zhs (Zfg h (List.getElem?_eq_getElem hi))
theorem Zlg {e : List Token} (h : ivE e = true) : e ≠ [] := fun q => by subst q; revert h; decide
theorem Zcf {α β : Type} {f : α → β} {g : β → α} {l : List α} (h : ∀ x ∈ l, g (f x) = x) : (l.map f).map g = l := by
 rw [List.map_map]
 conv => rhs; rw [← List.map_id l]
 exact List.map_congr_left fun x hx => h x hx
theorem Ziq {e : List Token} (h : ivE e = true) : Zq (exS e) 32 [] = e.map Xa := by
 unfold exS
 exact Ziw (c := 32) (e.map Xa) (by simpa using Zlg h) fun p hp => by
  obtain ⟨t, ht, rfl⟩ := List.mem_map.1 hp
  exact Zjr t (Zfb h t ht)
theorem Zjc {e : List Token} (h : ivE e = true) : Xf (exS e) = (e, true) := by
 refine Zat ?_ h
 rw [Ziq h, List.take_of_length_le (by rw [List.length_map]; have := Zgp h; omega), Zcf fun t ht => Zka t (Zfb h t ht)]
theorem Zlf {e : List Token} (h : ivE e = true) : exS e ≠ [] := fun q => by
 have h1 := Zjc h
 rw [q] at h1
 have : (Xf []).2 = false := by decide +kernel
 rw [h1] at this; cases this
theorem Zly {s : List UInt8} {es : List Token} (h1 : (Xf s).2 = true) (he : es = (Xf s).1) : ivE es = true ∧ exS es = s ∧ es = (Zq s 32 []).map rdT := by
 subst he
 unfold Xf at *
 split at h1
 ·rename_i hv
  rw [if_pos hv]
  have hl := Zgp hv
  rw [List.length_map, List.length_take] at hl
  have ht : (Zq s 32 []).take 25 = Zq s 32 [] := List.take_of_length_le (by omega)
  rw [ht] at hv ⊢
  refine ⟨hv, ?_, rfl⟩
  have := Zgh (32 : UInt8) s []
  unfold exS
  rw [Zcf fun p hp => ?_]
  ·exact this
  obtain ⟨i, hi, rfl⟩ := List.mem_iff_getElem.1 hp
  exact Zkl (Zfg hv (k := i) (by rw [List.getElem?_map, List.getElem?_eq_getElem hi]; rfl))
 cases h1
section
variable {s : List UInt8} {ts : List Token}
theorem pe_y (ht : ts = (Zq s 32 []).map tkR) (h : exR ts = s) (h0 : s ≠ []) : Xf s = (ts, true) := by
 have hv : ivE ts = true := by
  cases q : ivE ts with
  | true => rfl
  | false => rw [← Zkx q] at h; exact absurd h.symm h0
 rw [← Zjl hv] at h
 rw [← h]; exact Zjc hv
theorem pe_n (ht : ts = (Zq s 32 []).map tkR) (h : s = [] ∨ exR ts ≠ s) : Xf s = ([], false) := by
 cases q : (Xf s).2 with
 | false =>
  unfold Xf at *
  split at q
  ·cases q
  rename_i hn; rw [if_neg hn]
 | true =>
  obtain ⟨hv, hs, he⟩ := Zly q rfl
  rcases h with h | h
  ·subst h; exact absurd hs (Zlf hv)
  refine absurd ?_ h
  have : ts = (Xf s).1 := by
   have hc : Zq s 32 [] = (Xf s).1.map Xa := by rw [← Ziq hv, hs]
   rw [ht, hc]; exact Zcf fun t h => Zjt t (Zfb hv t h)
  rw [this, ← Zjl hv]; exact hs
end
section
variable {s p : List UInt8} {n : Int}
def aiN (s : List UInt8) : Int := (Lib.atoi s).getD 0
theorem Xw (h : 10 < s.length) : ((0 : Int), false) = piR s := by unfold piR; rw [if_pos h]
theorem Xv (h : ¬ 10 < s.length) (ha : (Lib.atoi s).isNone = true) : ((0 : Int), false) = piR s := by
 unfold piR; rw [if_neg h, Option.isNone_iff_eq_none.1 ha]
theorem Zhc (ha : (Lib.atoi s).isNone = false) : Lib.atoi s = some (aiN s) := by
 unfold aiN
 cases q : Lib.atoi s with
 | none => rw [q] at ha; cases ha
 | some n => rfl
theorem Yy (h : ¬ 10 < s.length) (ha : (Lib.atoi s).isNone = false) (hb : ¬ (Lib.itoa (aiN s) = s ∧ -999999999 ≤ aiN s ∧ aiN s ≤ 999999999)) : ((0 : Int), false) = piR s := by
 unfold piR; rw [if_neg h, Zhc ha]; exact (if_neg hb).symm
theorem pi_y (h : ¬ 10 < s.length) (ha : (Lib.atoi s).isNone = false) (hb : Lib.itoa (aiN s) = s ∧ -999999999 ≤ aiN s ∧ aiN s ≤ 999999999) : (aiN s, true) = piR s := by
 unfold piR; rw [if_neg h, Zhc ha]; exact (if_pos hb).symm
theorem Zlo (h : ¬ 10 < s.length) : -1000000000000000000 < aiN s ∧ aiN s < 1000000000000000000 := by
 unfold aiN
 cases q : Lib.atoi s with
 | none => exact ⟨by decide, by decide⟩
 | some n => exact Lib.atoi_bound q (by omega)
theorem tk_1 (h : p = [33]) : ⟨1, 0, 0, 0⟩ = tkR p := by unfold tkR; rw [if_pos h]
theorem tk_2 (h1 : ¬ p = [33]) (h : p = [40, 41]) : ⟨2, 0, 0, 0⟩ = tkR p := by unfold tkR; rw [if_neg h1, if_pos h]
theorem tk_4 (h1 : ¬ p = [33]) (h2 : ¬ p = [40, 41]) (h : p = [46]) : ⟨4, 0, 0, 0⟩ = tkR p := by unfold tkR; rw [if_neg h1, if_neg h2, if_pos h]
theorem tk_5 (h1 : ¬ p = [33]) (h2 : ¬ p = [40, 41]) (h3 : ¬ p = [46]) (h : p = [124]) : ⟨5, 0, 0, 0⟩ = tkR p := by unfold tkR; rw [if_neg h1, if_neg h2, if_neg h3, if_pos h]
theorem tk_6 (h1 : ¬ p = [33]) (h2 : ¬ p = [40, 41]) (h3 : ¬ p = [46]) (h4 : ¬ p = [124]) (h : p = [42]) : ⟨6, 0, 0, 0⟩ = tkR p := by unfold tkR; rw [if_neg h1, if_neg h2, if_neg h3, if_neg h4, if_pos h]
theorem tk_3 (h1 : ¬ p = [33]) (h2 : ¬ p = [40, 41]) (h3 : ¬ p = [46]) (h4 : ¬ p = [124]) (h5 : ¬ p = [42]) (h : (plR p).2 = true) : ⟨3, (plR p).1, 0, 0⟩ = tkR p := by unfold tkR; rw [if_neg h1, if_neg h2, if_neg h3, if_neg h4, if_neg h5, if_pos h]
theorem tk_7 (h1 : ¬ p = [33]) (h2 : ¬ p = [40, 41]) (h3 : ¬ p = [46]) (h4 : ¬ p = [124]) (h5 : ¬ p = [42]) (h : (plR p).2 = false) : ⟨7, 0, (piR (Lib.cut (Lib.trimS p [123, 125]) [44]).1).1, (piR (Lib.cut (Lib.trimS p [123, 125]) [44]).2.1).1⟩ = tkR p := by
 unfold tkR; rw [if_neg h1, if_neg h2, if_neg h3, if_neg h4, if_neg h5, if_neg (by rw [h]; decide)]; rfl
theorem Zge {α : Type} (q : α → Bool) : ∀ l : List α, (l.dropWhile q).length ≤ l.length
 | [] => Nat.le_refl _
 | a :: l => by
  rw [List.dropWhile_cons]
  split
  ·have := Zge q l; simp; omega
  exact Nat.le_refl _
theorem Zhk (l cs : List UInt8) : (Lib.trimS l cs).length ≤ l.length := by
 unfold Lib.trimS Lib.trimLeftS Lib.trimRightS
 refine Nat.le_trans (Zge _ _) ?_
 rw [List.length_reverse]
 refine Nat.le_trans (Zge _ _) ?_
 rw [List.length_reverse]; exact Nat.le_refl _
theorem Zbi : ∀ (s : List UInt8) (sep : Int) (cur : List UInt8) (p : List UInt8), p ∈ Zq s sep cur → p.length ≤ cur.length + s.length
 | [], _, cur, p, h => by
  have : p = cur := by simpa [Zq] using h
  rw [this]; simp
 | c :: s, sep, cur, p, h => by
  rw [Qf] at h
  split at h
  ·rcases List.mem_cons.1 h with h | h
   ·rw [h]; simp
   have := Zbi s sep [] p h; simp at this ⊢; omega
  have := Zbi s sep (cur ++ [c]) p h; simp at this ⊢; omega
end
end Go.KLib

namespace Go.KLib
open Go.Sort Go.RowKit Go.Shelf Go.Proofs
structure GS (P : Program) (gM : Nat) (w : World) : Prop where
 m : ∃ m, w.cell? ⟨gM, 0, none⟩ = some (.int .i64 m)
 e : ∃ tp p, w.var? P "strconv.ErrSyntax" = some #[.iface tp p]
 t : Lib.TabIs P w "internal/strconv.uint64pow10" .u64 Lib.pow10Tab
theorem Zjb {P : Program} {w w' : World} {n : String} {cs : Array Value} (h : w.var? P n = some cs) (c : Ch [] w w') : w'.var? P n = some cs := by
 unfold World.var? at h ⊢
 cases hg : P.globalNamed n with
 | none => simp [hg] at h
 | some g =>
  simp only [hg, Option.bind_some] at h ⊢
  have hlt : g < w.heap.size := by
   rcases Nat.lt_or_ge g w.heap.size with h' | h'
   ·exact h'
   simp [Array.getElem?_eq_none h'] at h
  rw [c.block g hlt (by simp)]; exact h
theorem GS.ch {P : Program} {gM : Nat} {w w' : World} (h : GS P gM w) (c : Ch [] w w') : GS P gM w' := by
 obtain ⟨⟨m, hm⟩, ⟨tp, p, he⟩, ht⟩ := h
 exact ⟨⟨m, c.cell hm (by simp)⟩, ⟨tp, p, Zjb he c⟩, Zjb ht c⟩
section
variable {P : Program} {ρ : Ren} {w : World} {s sep : List UInt8} {n : Int}
theorem Zjy (L : LaysM.n146 P ρ) (h : GS P (ρ.g 1) w) (hb : s.length ≤ 4194304) :
   Ctr P (ρ.f 146) #[bst s, bst [32]] w (fun v w' => Ol scs (ρ.t 9) 1 w' v (Zq s 32 []) ∧ Lo w.heap.size v ∧ Ch [] w w') :=
 let ⟨_, hm⟩ := h.m
 Zhe L (Zlh hm) hb
theorem Zme (L : Lays.n145 P ρ) (h : GS P (ρ.g 1) w) (hb : s.length ≤ 4194304) :
   Ctr P (ρ.f 145) #[bst s, bst sep] w (fun v w' => v = .tuple #[bst (Lib.cut s sep).1, bst (Lib.cut s sep).2.1, .bool (Lib.cut s sep).2.2] ∧ Ch [] w w') := by
 obtain ⟨m, hm⟩ := h.m
 have e1 : (bys s).data.toList = s := by simp [bys]
 have e2 : (bys sep).data.toList = sep := by simp [bys]
 refine (Any.strings_Cut L (bys s) (bys sep) m w (by show s.length < _; omega) hm).mono ?_
 rintro e w' ⟨rfl, k, rfl⟩
 refine ⟨_, rfl, ?_, ⟨rfl, rfl, rfl, Nat.le_refl _, fun _ _ _ => rfl⟩⟩
 rw [e1, e2]; rfl
theorem Zll (L : Lays.n160 P ρ) (h116 : (P.info? (ρ.t 116)).map (fun i => (i.zero, i.size)) = some (some (.agg (Array.replicate 256 (.bool false))), 256)) (hb : s.length ≤ 4194304) :
   Ctr P (ρ.f 160) #[bst s, bst [123, 125]] w (fun v w' => v = bst (Lib.trimS s [123, 125]) ∧ Ch [] w w') := by
 have e1 : (bys s).data.toList = s := by simp [bys]
 have e2 : (bys [123, 125]).data.toList = [123, 125] := by simp [bys]
 refine (Any.strings_Trim_laid L h116 (bys s) (bys [123, 125]) w (by show s.length ≤ _; omega) (by decide) (ascii_of_all (by decide))).mono ?_
 rintro e w' ⟨rfl, hb⟩
 refine ⟨_, rfl, ?_, Ch.of_below hb⟩
 rw [e1, e2]; rfl
def ErrB (e : Value) (b : Bool) : Prop := match b with
 | true => ∃ t p, e = .iface t p
 | false => e = .nilIface
theorem Zki (w : World) (e : TypeId) (s : ByteArray) : Ch [] w (Lib.bytesWorld w e s) := Ch.of_below (Lib.bytesWorld_below w e s)
theorem Zlw (L : LaysC.n172 P ρ) (L2 : Lays.n172 P ρ) {gM : Nat} (h : GS P gM w) (hb : s.length ≤ 18) :
   Ctr P (ρ.f 172) #[bst s] w (fun v w' => ∃ e, v = .tuple #[.int .i64 (aiN s), e] ∧ ErrB e (Lib.atoi s).isNone ∧ Ch [] w w') := by
 have e1 : (bys s).data.toList = s := by simp [bys]
 unfold aiN
 cases ha : Lib.atoi s with
 | some n =>
  refine (Any.strconv_Atoi L2 (bys s) n hb (by rw [e1]; exact ha) w).mono ?_
  rintro e w' ⟨rfl, t, rfl⟩
  exact ⟨_, rfl, _, rfl, rfl, Zki _ _ _⟩
 | none =>
  obtain ⟨tp, p, hv⟩ := h.e
  refine (Any.strconv_Atoi_err_var L (bys s) hb (by rw [e1]; exact ha) tp p w hv).mono ?_
  rintro e w' ⟨N, rfl, _, _, hc⟩
  exact ⟨_, rfl, _, rfl, ⟨_, _, rfl⟩, Ch.of_below hc⟩
theorem Zlt (L : LaysM.n171 P ρ) {gM : Nat} (h : GS P gM w) (hn : -9223372036854775808 ≤ n ∧ n ≤ 9223372036854775807) :
   Ctr P (ρ.f 171) #[.int .i64 n] w (fun v w' => v = bst (Lib.itoa n) ∧ Ch [] w w') := by
 refine (Any.strconv_Itoa L n hn.1 hn.2 w h.t).mono ?_
 rintro e w' ⟨rfl, k, os, rfl⟩
 exact ⟨_, rfl, rfl, Ch.of_below (Lib.below_grow _ w (Nat.le_refl _) k os)⟩
end
def ifB (P : Program) (t : TypeId) : Bool :=
 match P.underlying t with
 | some (.interface _) => true
 | _ => false
section
variable {P : Program} {w : World} {l : KL} {dst : Option Tmp} {ty : TypeId} {pos : String} {aft : Array Go.Edge} {gd : Option (Nat × Bool)} {x : Operand} {xt yt : TypeId} {e : Value} {b : Bool}
theorem Zel (ht : ifB P xt = true) (he : ErrB e b) : (Op.equal xt e .nilIface).run P w = .ok (!b) w := by
 unfold ifB at ht
 split at ht
 ·rename_i ms hu
  have h : ∀ d, (Op.equalIn (d + 1) xt e .nilIface).run P w = .ok (!b) w := fun d => by
   cases b with
   | true => obtain ⟨t, p, rfl⟩ := he; simp [Op.equalIn, run_underlying hu]
   | false => obtain rfl : e = .nilIface := he; simp [Op.equalIn, run_underlying hu]
  exact h 9999
 cases ht
theorem Zma (ht : ifB P xt = true) (he : ErrB e b) (hx : ev l x = some e) : Ym P l ⟨dst, .binOp .neq xt x (.const .nilIface) yt, ty, pos, aft, gd⟩ w (.bool b) w := fun ρ hρ => by
 have e1 : binOp .neq xt e .nilIface = (do pure (.bool (!(← Op.equal xt e .nilIface)))) := by
  cases b with
  | true => obtain ⟨t, p, rfl⟩ := he; rfl
  | false => obtain rfl : e = .nilIface := he; rfl
 have e2 : (eqGuard .neq xt x (.const .nilIface) e .nilIface).run P w = .ok () w := by
  cases b with
  | true => obtain ⟨t, p, rfl⟩ := he; simp [eqGuard]
  | false => obtain rfl : e = .nilIface := he; simp [eqGuard]
 simp [execOp, hρ _ _ hx, hρ (.const .nilIface) .nilIface rfl, e2, e1, Zel ht he]
end
theorem Zmk {P : Program} {W : World} {gM g gt t e n : Nat} {ti tp te ts : TypeId} {ms : Array (String × TypeId)} {f : Field} {a b c d k : String × DataW Unit} {r : List (String × DataW Unit)} {text : List UInt8} {nm : String}
   (hm : ∃ m, W.cell? ⟨gM, 0, none⟩ = some (.int .i64 m)) (h : laidMet P (a :: b :: ("internal/strconv.uint64pow10", Lib.tabData .u64 Lib.pow10Tab) :: c :: d :: ("strconv.ErrSyntax", .iface nm (.ptr (.agg [.lit (.string text)]))) :: k :: r) W)
   (hgt : P.globalNamed "internal/strconv.uint64pow10" = some gt) (hty : (P.globals[gt]?).map (·.type) = some t) (ht : P.underlying t = some (.array n e)) (he : P.underlying e = some (.int .u64)) (hce : P.cellsOf e = 1) (hct : P.cellsOf t = n)
   (hg : P.globalNamed "strconv.ErrSyntax" = some g) (hgy : (P.globals[g]?).map (·.type) = some ti) (hi : P.underlying ti = some (.interface ms)) (hrow : ∀ u, P.typeName? 3 u = some nm → u = tp)
   (hp : P.underlying tp = some (.pointer te)) (hte : P.underlying te = some (.struct #[f])) (hft : f.type = ts) (hfo : f.offset = 0) (hs : P.underlying ts = some .string) (hc : P.cellsOf te = 1) (hcs : P.cellsOf ts = 1) : GS P gM W := by
 obtain ⟨_, _, hv, _⟩ := laid_sentinel (h.tail.tail.tail.tail.tail) hg hgy hi hrow hp hte hft hfo hs hc hcs
 exact ⟨hm, ⟨_, _, hv⟩, Lib.tabIs_of_head hgt hty ht he hce hct h.tail.tail⟩
end Go.KLib
namespace Go
theorem Zbo {H : Type} {enc : TypeId × Value → H} {a : Assume} {C : Checked} {os : Os} {f : FuncId} {fn : Func} {s : ChangeSpec} {conds : List PathCond} {apart fresh handsOn again : Bool} {X : World → Array Value → Prop}
   (hX : ∀ (w w' : World) (args : Array Value), w.heap = w'.heap → X w args → X w' args)
   (own : ownKnob C.prog.godebug = none) (started : os.Started) (noInit : C.prog.inits.idxOf? f = none) (hfn : C.prog.funcs[f]? = some fn)
   (witness : ∃ (w : World) (tape : Tape) (i : Input), w.os = os ∧ (w.forCall tape i).Shaped C.prog ∧ i.vars = [] ∧ Input.okWide C.prog (w.forCall tape i) .any w.heap.size f i ∧
     ((s.pre enc C.prog fn conds apart (w.forCall tape i).memory i.args ∧ X (w.forCall tape i).memory i.args) ∧ sizedMet enc C.prog fn (OpenSpec.ofChange s) apart (w.forCall tape i).memory i.args) ∧ a.holds C.prog (lone (Frame.enter C.prog f i.args .normal) [] (w.forCall tape i)))
   (contract : ∀ (W : World) (base : Nat) (args : Array Value) (ds gs : List (DataW H)) (before : List MemPlace),
     (∀ (j : Nat) t v, fn.params[j]? = some t → args[j]? = some v → Value.okWide C.prog W .any base t v) →
     DataW.Whole enc C.prog fn.params.toList s.vars apart W args.toList ds gs before →
     W.ShapedOpen C.prog → X W args → Calls C.prog f args W fun e W' => ∃ v, e = .returned v ∧ s.post enc C.prog fn apart fresh handsOn again W args v W') :
   ReturnsInHanded a C os f .any (fun w args => (s.pre enc C.prog fn conds apart w args ∧ X w args) ∧ sizedMet enc C.prog fn (OpenSpec.ofChange s) apart w args) (s.post enc C.prog fn apart fresh handsOn again) := by
 refine returnsInHanded_of_calls own started noInit witness ?_
 intro w tape i _ hsh _ hok hpre hholds
 obtain ⟨_, _, _, fn', hfn', _, _, _, _, hval⟩ := hok
 have e : fn' = fn := Option.some.inj (hfn'.symm.trans hfn)
 subst e
 obtain ⟨⟨⟨ds, gs, before, hw, hc⟩, hx⟩, hz⟩ := hpre
 have hw' := DataW.Whole.of_heap (w' := w.forCall tape i) (by rfl) hw
 refine (contract (w.forCall tape i) w.heap.size i.args ds gs before hval hw' hsh (hX _ _ _ (by rfl) hx)).mono fun e W' ⟨v, he, hp⟩ => ?_
 subst he
 exact ChangeSpec.post_blind hp
end Go

namespace Go.KLib
section
variable {e : List Token}
end
end Go.KLib

namespace Go.KLib
theorem om {P : Prop} (h : P := by omega) : P := h
theorem bd {P : Prop} (h : P := by first | omega | (simp only [List.length_append, List.length_nil, List.length_cons, List.length_replicate, List.length_set, List.length_reverse, List.length_map] at *; omega) | (simp at *; omega)) : P := h
section
variable {α : Type} {cs : α → List Value} {e k : Nat} {w : World} {v : Value} {xs : List α} {L B b c lo hi : Nat} {P : Nat → Prop}
theorem Ol.opn (h : Ol cs e k w v xs) : ∃ A C, v = .slice A xs.length C ∧ xs.length ≤ 9223372036854775807 ∧ ∀ g ∈ bl v, g < w.heap.size := by
 obtain ⟨A, C, e⟩ := h.val
 exact ⟨A, C, e, h.len, h.lt⟩
theorem nS (h : b ≠ c) : b ∉ [c] := fun q => h (List.mem_singleton.1 q)
theorem lS (h : lo ≤ b) : ∀ i ∈ [b], lo ≤ i ∨ P i := fun i q => .inl (by rw [List.mem_singleton.1 q]; exact h)
theorem oS (h : P b) : ∀ i ∈ [b], P i := fun i q => by rw [List.mem_singleton.1 q]; exact h
theorem dS (h1 : Lo lo v) (h2 : ∀ g ∈ bl v, g < hi) (h : b < lo ∨ hi ≤ b) : ∀ g ∈ bl v, g ∉ [b] := fun g hg hm => by
 have q := List.mem_singleton.1 hm
 have a := h1 g hg
 have z := h2 g hg
 omega
end
section
variable {P : Program} {N : Nat} {ops : Array Oper} {Q : Po} {l : KL} {w : World} {o : Oper} {S : World → Prop} {fuel : Nat} {listed : Array Bool} {v : Value}
theorem dT (i : Nat) (hi : ops[i]? = some o) (hd : dOk N o.dst = true) (hg : Zcp ops l o = some true) (h : Tk P S l o fun v => DR P N ops Q S fuel (listed.setIfInBounds i true) (pu l o.dst v) w) (hk : Zeb ops listed i = true := by kernel_rfl) : DR P N ops Q S (fuel + 1) listed l w := DR_s i hi hk hd hg h
theorem dV (i : Nat) (hi : ops[i]? = some o) (hd : dOk N o.dst = true) (hg : Zcp ops l o = some true) (hv : ∀ w, Ym P l o w v w) (h : DR P N ops Q S fuel (listed.setIfInBounds i true) (pu l o.dst v) w) (hk : Zeb ops listed i = true := by kernel_rfl) : DR P N ops Q S (fuel + 1) listed l w := DR_s i hi hk hd hg (t_v hv h)
theorem dO (i : Nat) (h : DO P N ops Q S fuel listed i l w) (hr : Region.ready .any ops listed = [i] := by kernel_rfl) : DR P N ops Q S (fuel + 1) listed l w := Zlp i hr h
end
section
variable {l l9 : KL}
theorem sC1 {t0 : Nat} {v0 : Value} (h0 : Xx l9 t0 = some v0) (h : Sub l l9) : Sub ((t0, v0) :: l) l9 := (Sub.cons h0 h)
theorem sC2 {t0 t1 : Nat} {v0 v1 : Value} (h0 : Xx l9 t0 = some v0) (h1 : Xx l9 t1 = some v1) (h : Sub l l9) : Sub ((t0, v0) :: (t1, v1) :: l) l9 := (Sub.cons h0 (Sub.cons h1 h))
theorem sC4 {t0 t1 t2 t3 : Nat} {v0 v1 v2 v3 : Value} (h0 : Xx l9 t0 = some v0) (h1 : Xx l9 t1 = some v1) (h2 : Xx l9 t2 = some v2) (h3 : Xx l9 t3 = some v3) (h : Sub l l9) : Sub ((t0, v0) :: (t1, v1) :: (t2, v2) :: (t3, v3) :: l) l9 := (Sub.cons h0 (Sub.cons h1 (Sub.cons h2 (Sub.cons h3 h))))
end
end Go.KLib

