/- The library of this proof: a logic of the code's forms, memory, data, and plain laws. It speaks of no program. -/
import Derived.WalkKit
import Derived.OrdersHeld
import Derived.WalkLawsBesides
import Derived.WalkSpells
import Derived.ProofKit
import Derived.Deep.Slices
import Derived.Deep.Fields
import Derived.Lib.SmallJoins
import Derived.Laws.Append
import Derived.Laws.CopyRow
import Derived.Laws.AppendOwn
import Derived.Laws.Small
import Derived.Shelf.Sort.Plain
import Derived.Shelf.Slices.CompactI
import Derived.Shelf.Slices.Delete
import Derived.Ground.NamesProg
import Derived.Ground.Names2Prog
import Derived.Shelf.Lay
import Derived.Shelf.Slices.In.SortNone
import Derived.MapKept
import Derived.Ground.SlsfProg
import Derived.Shelf.SlSortCmp.NoneTotal
import Derived.Laws.BytesString
import Derived.Laws.Strings2
import Derived.Laws.Concat
import Derived.Shelf.Strconv.Itoa3
import Derived.Shelf.Strings.OnBuilder
import Derived.Lib.Split
import Derived.Shelf.Strings.SplitShaped
import Derived.Lib.AppendZerosOnto
import Derived.Lib.Overlaps
import Derived.Handed
import Derived.ShapedOpen
import Derived.Lib.SlTrimSet
import Derived.Lib.IndexMore
import Derived.Lib.Atoi
import Derived.Lib.AtoiBound
import Derived.Lib.ItoaNum
import Derived.Shelf.Strconv.Atoi
import Derived.Shelf.Strconv.ErrVar
import Derived.Shelf.Strings.Cut
import Derived.Shelf.Strings.SlTrimAscii
import Derived.Stop.LaidErr
import Derived.Lib.AppendIntMem
import Derived.Lib.AtoiErrMem
import Derived.Test.YtmdgciibgjhidaaGreatDoorLibA

namespace Go.KLib
def Zee (k : Int) (n : Nat) : List PStep := (List.range n).map fun (i : Nat) => ⟨k + 4 * i, decide ((k + 4 * i + 1).tmod 3 = 0), k + 4 * i + 2, k + 4 * i + 3⟩
@[simp] theorem mkPStep_len (k : Int) (n : Nat) : (Zee k n).length = n := by simp [Zee]
theorem Zmn (a : List PStep) {i : Nat} (hi : i < a.length) {kk k : Int} (h : kk = k + 4 * i) : (Zee k i ++ a.drop i).set i ⟨kk, decide ((kk + 1).tmod 3 = 0), kk + 1 + 1, kk + 1 + 1 + 1⟩ = Zee k (i + 1) ++ a.drop (i + 1) := by
 subst h
 have h2 := Zde a (fun (q : Nat) => (⟨k + 4 * q, decide ((k + 4 * q + 1).tmod 3 = 0), k + 4 * q + 2, k + 4 * q + 3⟩ : PStep)) hi
 unfold Zee
 refine Eq.trans (congrArg _ ?_) h2
 simp only [Int.add_assoc]
 all_goals rfl
section
variable {V : List Int} {E : List GEdge} {node : Int} {k : Nat} {e y : GEdge}
end
section
variable {S : Int} {A : List Bool} {N : List (List Int)} {x v m : Int}
end
section
variable {V : List Int} {E : List GEdge} {S node s : Int} {A : List Bool} {N : List (List Int)}
end
end Go.KLib

namespace Go.KLib
section
variable {V : List Int} {E : List GEdge} {node s : Int} {k : Nat} {e y : GEdge} {S : Int} {A : List Bool} {N : List (List Int)}
variable {c q : Nat} {x m t : Int} {r : List Int}
end
section
variable {N : List (List Int)} {x v m z : Int} {l : List Int} {k : Nat} {q : Int}
end
end Go.KLib

namespace Go.KLib
open Go.Sort Go.RowKit Go.Shelf Go.Proofs
theorem Zgj {n : Nat} (h : n < 100) : Lib.decDigits n = fmtI (n : Int) := by
 by_cases h10 : n < 10
 ·rw [Lib.decDigits, dif_pos h10]
  by_cases h0 : n = 0
  ·subst h0; rfl
  unfold fmtI
  rw [if_neg (by omega), if_neg (by omega), Int.natAbs_natCast]
  simp only [dgF]
  rw [if_neg h0, show n / 10 = 0 by omega, if_pos rfl, show n % 10 = n by omega]; rfl
 rw [Lib.decDigits, dif_neg h10, Lib.decDigits, dif_pos (show n / 10 < 10 by omega)]
 unfold fmtI
 rw [if_neg (by omega), if_neg (by omega), Int.natAbs_natCast]
 simp only [dgF]
 rw [if_neg (by omega : ¬ n = 0), if_neg (by omega : ¬ n / 10 = 0), show n / 10 / 10 = 0 by omega, if_pos rfl, show n / 10 % 10 = n / 10 by omega]; rfl
theorem Zkr {P : Program} {ρ : Ren} {w : World} {n : Int} (L : Lays.n171 P ρ) (h : 0 ≤ n ∧ n < 100) : Ctr P (ρ.f 171) #[.int .i64 n] w (fun v w' => v = bst (fmtI n) ∧ Ch [] w w') := by
 obtain ⟨k, rfl⟩ := Int.eq_ofNat_of_zero_le h.1
 refine (Any.strconv_Itoa_small L k (by omega) w).mono ?_
 rintro e w' ⟨rfl, rfl⟩
 refine ⟨_, rfl, ?_, Ch.refl _ _⟩
 rw [Zgj (by omega)]; rfl
def jnS (sep : List UInt8) (xs : List (List UInt8)) : List UInt8 := Lib.join xs sep
theorem Zmc (sep x : List UInt8) : jnS sep [x] = x := Lib.join_one _ _
theorem Zjs (xs : List (List UInt8)) : (xs.map bys).map (·.data.toList) = xs := by
 rw [List.map_map]
 have : ((fun x : ByteArray => x.data.toList) ∘ bys) = id := funext fun x => by simp [bys]
 rw [this, List.map_id]
theorem Zfm (xs : List (List UInt8)) : xs.flatMap scs = xs.map bst := by
 induction xs with
 | nil => rfl
 | cons a t ih => rw [List.flatMap_cons, ih]; rfl
theorem Zlg {P : Program} {ρ : Ren} {w : World} {v : Value} {e : TypeId} {xs : List (List UInt8)} {sep : List UInt8} (L : Lays.n156 P ρ) (X : Builder.Extra P ρ) (h : Ol scs e 1 w v xs) (hN : xs.length ≤ 4194304) (hlen : (jnS sep xs).length ≤ 140737488355328) :
   Ctr P (ρ.f 156) #[v, bst sep] w (fun u w' => u = bst (jnS sep xs) ∧ Ch [] w w') := by
 have hc := h
 obtain ⟨hl, ⟨rfl, h0⟩ | ⟨g, off, cap, cur, rfl, hg, hn, hm, hs, he⟩⟩ := h
 ·obtain rfl : xs = [] := List.eq_nil_of_length_eq_zero h0
  refine (Any.strings_Join_none L X none 0 (bys sep) w).mono ?_
  rintro e w' ⟨rfl, rfl⟩
  exact ⟨_, rfl, rfl, Ch.refl _ _⟩
 have hcells : ∀ (j : Nat) y, (xs.map bys)[j]? = some y → w.cell? ⟨g, off + j, none⟩ = some (.string y) := fun j y hj => by
  rw [List.getElem?_map] at hj
  cases hx : xs[j]? with
  | none => rw [hx] at hj; cases hj
  | some z =>
   rw [hx] at hj; injection hj with hj
   refine Ow.cells hc rfl j _ ?_
   rw [Zfm, List.getElem?_map, hx, ← hj]; rfl
 have hb : (bys sep).data.toList = sep := by simp [bys]
 have key := Any.strings_Join L X g off cap (xs.map bys) (bys sep) w hcells (Array.getElem?_eq_some_iff.1 hg).1 (by rw [List.length_map]; omega) (by rw [List.length_map]; exact hn) (by rw [Zjs, hb]; exact hlen)
 rw [List.length_map, Zjs, hb] at key
 refine key.mono ?_
 rintro e w' ⟨rfl, hb⟩
 exact ⟨_, rfl, rfl, Ch.of_below hb⟩
end Go.KLib

namespace Go.KLib
section
variable {β : Type} {f : β → List UInt8} {l : List β} {k : Nat} {y : β} {sep : List UInt8}
theorem Zpq {c : Nat} (sep : List UInt8) : ∀ xs : List (List UInt8), (∀ x ∈ xs, x.length ≤ c) → (jnS sep xs).length ≤ (c + sep.length) * xs.length
 | [], _ => Nat.le_refl _
 | x :: r, h => by
  unfold jnS
  rw [Lib.join_cons, List.length_append]
  have h1 := h x (List.mem_cons_self ..)
  have h2 : ∀ r : List (List UInt8), (∀ x ∈ r, x.length ≤ c) → (Lib.joinTail sep r).length ≤ (c + sep.length) * r.length := by
   intro r
   induction r with
   | nil => intro _; exact Nat.le_refl _
   | cons a t ih =>
    intro ha
    have e : Lib.joinTail sep (a :: t) = sep ++ a ++ Lib.joinTail sep t := by unfold Lib.joinTail; simp
    have i := ih fun x hx => ha x (List.mem_cons_of_mem _ hx)
    have b := ha a (List.mem_cons_self ..)
    rw [e, List.length_append, List.length_append, List.length_cons, Nat.mul_succ]; omega
  have h3 := h2 r fun x hx => h x (List.mem_cons_of_mem _ hx)
  rw [List.length_cons, Nat.mul_succ]; omega
theorem Znl {c : Nat} (sep : List UInt8) (hf : ∀ y, (f y).length ≤ c) (l : List β) : (jnS sep (l.map f)).length ≤ (c + sep.length) * l.length := by
 have := Zpq sep (l.map f) (c := c) (fun x hx => by obtain ⟨y, _, rfl⟩ := List.mem_map.1 hx; exact hf y)
 rwa [List.length_map] at this
end
section
variable {l : List Pair} {k : Nat} {y : Pair}
end
section
variable {l : List Pair}
end
section
variable {S : Int} {A : List Bool} {N : List (List Int)} {r : List Int} {k i : Nat} {t : Int} {b : Bool} {X : List UInt8}
end
def exS (e : List Token) : List UInt8 := jnS [32] (e.map Qc)
theorem Zjb (e : List Token) : (exS e).length ≤ 46 * e.length := Znl [32] Zkp e
end Go.KLib

namespace Go.KLib
open Go.Sort Go.RowKit Go.Shelf Go.Proofs
theorem Zms {a b : UInt8} : ((a.toNat : Int) = (b.toNat : Int)) ↔ a = b := by
 constructor
 ·intro h; exact UInt8.toNat_inj.1 (by omega)
 rintro rfl; rfl
theorem Zay (x : UInt8) (s : List UInt8) (sep : Int) (cur : List UInt8) : Zx (x :: s) sep cur = if (x.toNat : Int) = sep then cur :: Zx s sep [] else Zx s sep (cur ++ [x]) := rfl
theorem Zek {c : UInt8} : ∀ (s cur : List UInt8), c ∉ s → Zx s (c.toNat : Int) cur = [cur ++ s]
 | [], cur, _ => by simp [Zx]
 | x :: s, cur, h => by
  have hx : ¬ (x.toNat : Int) = (c.toNat : Int) := fun e => h (by rw [← Zms.1 e]; exact List.mem_cons_self ..)
  rw [Zay, if_neg hx, Zek s (cur ++ [x]) (fun hm => h (List.mem_cons_of_mem _ hm))]; simp
theorem Zfh {c : UInt8} : ∀ (a cur s : List UInt8), c ∉ a → Zx (a ++ c :: s) (c.toNat : Int) cur = (cur ++ a) :: Zx s (c.toNat : Int) []
 | [], cur, s, _ => by
  show Zx (c :: s) _ cur = _
  rw [Zay, if_pos rfl, List.append_nil]
 | x :: a, cur, s, h => by
  show Zx (x :: (a ++ c :: s)) _ cur = _
  have hx : ¬ (x.toNat : Int) = (c.toNat : Int) := fun e => h (by rw [← Zms.1 e]; exact List.mem_cons_self ..)
  rw [Zay, if_neg hx, Zfh a (cur ++ [x]) s (fun hm => h (List.mem_cons_of_mem _ hm))]; simp
theorem Zhl {s : List UInt8} {c : UInt8} {i : Nat} : Lib.occAt s [c] i = true ↔ s[i]? = some c := by
 unfold Lib.occAt
 rw [← List.head?_drop]
 cases s.drop i with
 | nil => simp
 | cons a t =>
  show (c == a && List.isPrefixOf [] t) = true ↔ some a = some c
  rw [Bool.and_eq_true, beq_iff_eq, Option.some.injEq]
  exact ⟨fun h => h.1.symm, fun h => ⟨h.symm, rfl⟩⟩
theorem Zkv {s : List UInt8} {c : UInt8} {i : Nat} (h : s[i]? = some c) : s = s.take i ++ c :: s.drop (i + 1) := by
 have hi := (List.getElem?_eq_some_iff.1 h).1
 have e : s[i] = c := (List.getElem?_eq_some_iff.1 h).2
 rw [← e, List.getElem_cons_drop, List.take_append_drop]
theorem Zgq (c : UInt8) : ∀ (n : Nat) (s : List UInt8), s.length < n → Lib.splitK [c] 0 (Lib.count s [c]) s = Zx s (c.toNat : Int) []
 | 0, _, h => absurd h (Nat.not_lt_zero _)
 | n + 1, s, h => by
  rcases Lib.index_spec s [c] with ⟨h1, h2⟩ | ⟨i, h1, h2, h3, h4⟩
  ·rw [Lib.count_miss h1]
   have hm : c ∉ s := fun hm => by
    obtain ⟨j, hj, e⟩ := List.getElem_of_mem hm
    have := h2 j (by omega)
    rw [Zhl.2 (List.getElem?_eq_some_iff.2 ⟨hj, e⟩)] at this; cases this
   rw [Zek s [] hm]; rfl
  have hc := Zhl.1 h3
  have hl := (List.getElem?_eq_some_iff.1 hc).1
  rw [Lib.count_hit (by simp) h1, Nat.add_comm]
  have hn : ¬ (Lib.index s [c] == -1) = true := fun e => by have := beq_iff_eq.1 e; omega
  have et : (Lib.index s [c]).toNat = i := by omega
  unfold Lib.splitK
  rw [if_neg hn, et, Nat.add_zero, Zgq c n (s.drop (i + [c].length)) (by rw [List.length_drop, List.length_singleton]; omega)]
  have hm : c ∉ s.take i := fun hm => by
   obtain ⟨j, hj, e⟩ := List.getElem_of_mem hm
   rw [List.length_take] at hj
   have := h4 j (by omega)
   rw [Zhl.2 (List.getElem?_eq_some_iff.2 ⟨by omega, by rw [List.getElem_take] at e; exact e⟩)] at this; cases this
  have := Zfh (s.take i) [] (s.drop (i + 1)) hm
  rw [← Zkv hc] at this
  rw [this]; rfl
theorem Znc (s : List UInt8) (sep : Int) (cur : List UInt8) : Zx s sep cur ≠ [] := by
 induction s generalizing cur with
 | nil => simp [Zx]
 | cons x s ih =>
  rw [Zay]; split
  ·simp
  exact ih _
theorem Zjl {sep x : List UInt8} {r : List (List UInt8)} (h : r ≠ []) : jnS sep (x :: r) = x ++ sep ++ jnS sep r := by
 cases r with
 | nil => exact absurd rfl h
 | cons y r =>
  unfold jnS
  rw [Lib.join_cons, Lib.join_cons]
  unfold Lib.joinTail
  simp
theorem Zis (c : UInt8) : ∀ (s cur : List UInt8), jnS [c] (Zx s (c.toNat : Int) cur) = cur ++ s
 | [], cur => by simp [Zx, Zmc]
 | x :: s, cur => by
  rw [Zay]
  by_cases h : (x.toNat : Int) = (c.toNat : Int)
  ·rw [if_pos h, Zjl (Znc _ _ _), Zis c s [], Zms.1 h]; simp
  rw [if_neg h, Zis c s]; simp
theorem Zfa {b : UInt8} (h : 0 ≤ (b.toNat : Int) - 48 ∧ (b.toNat : Int) - 48 ≤ 4) : fmtI ((b.toNat : Int) - 48) = [b] := by
 obtain ⟨k, hk⟩ := Int.eq_ofNat_of_zero_le h.1
 rw [hk, ← Zgj (by omega), Lib.decDigits, dif_pos (by omega)]
 have : 48 + k = b.toNat := by omega
 rw [this, UInt8.ofNat_toNat]
section
variable {s : List UInt8} {k : Nat} {p : List UInt8}
end
end Go.KLib

namespace Go.KLib
structure Chg where
 ins : Bool
 eid : Int
 ef : Int
 et : Int
 el : Int
 deriving DecidableEq
def Chg.cs (p : Chg) : List Value := [.bool p.ins, .int .i64 p.eid, .int .i64 p.ef, .int .i64 p.et, .int .i64 p.el]
theorem Chg.len (p : Chg) : p.cs.length = 5 := rfl
theorem Chg.one (x : Chg) : ∀ y ∈ x.cs, y.oneCell' = true := by intro y hy; simp [Chg.cs] at hy; rcases hy with rfl | rfl | rfl | rfl | rfl <;> rfl
def Chg.edge (c : Chg) : GEdge := ⟨c.eid, c.ef, c.et, c.el⟩
def Zik (k : Int) (n : Nat) : List Chg := (List.range n).map fun (i : Nat) => ⟨decide ((k + 5 * i).tmod 3 = 0), k + 5 * i + 1, k + 5 * i + 2, k + 5 * i + 3, k + 5 * i + 4⟩
@[simp] theorem mkChg_len (k : Int) (n : Nat) : (Zik k n).length = n := by simp [Zik]
theorem Zog (a : List Chg) {i : Nat} (hi : i < a.length) {kk k : Int} (h : kk = k + 5 * i) : (Zik k i ++ a.drop i).set i ⟨decide (kk.tmod 3 = 0), kk + 1, kk + 1 + 1, kk + 1 + 1 + 1, kk + 1 + 1 + 1 + 1⟩ = Zik k (i + 1) ++ a.drop (i + 1) := by
 subst h
 have h2 := Zde a (fun (q : Nat) => (⟨decide ((k + 5 * q).tmod 3 = 0), k + 5 * q + 1, k + 5 * q + 2, k + 5 * q + 3, k + 5 * q + 4⟩ : Chg)) hi
 unfold Zik
 refine Eq.trans (congrArg _ ?_) h2
 simp only [Int.add_assoc]
 all_goals rfl
section
variable {V : List Int} {E : List GEdge} {e y : GEdge} {id : Int} {k : Nat}
end
end Go.KLib

namespace Go.KLib
section
variable {V : List Int} {E F : List GEdge} {c : Chg} {l : List Chg} {k m : Nat}
end
end Go.KLib

namespace Go.KLib
open Go.Sort
section
variable {P : Program} {w : World} {l : KL} {dst : Option Tmp} {ty : TypeId} {pos : String} {aft : Array Go.Edge} {gd : Option (Nat × Bool)} {K : Value → World → Prop}
variable {e k n N m lo hi c L B : Nat} {v u sv : Value} {xs ys : List Value}
theorem Ow.ext {g off cap : Nat} (h : Ow w e k (.slice (some ⟨g, off, none⟩) n cap) n xs) (hc : n < cap) : ∃ z, z.length = k ∧ Ow w e k (.slice (some ⟨g, off, none⟩) (n + 1) cap) (n + 1) (xs ++ z) := by
 obtain ⟨hl, ⟨hv, _⟩ | ⟨g', off', cap', cur, hv, hg, hn, hm, hs, he⟩⟩ := h
 ·cases hv
 injection hv with hv h2 h3
 injection hv with hv; injection hv with h4 h5
 subst h3 h4 h5
 have hk : (n + 1) * k ≤ cap * k := Nat.mul_le_mul_right k hc
 rw [Nat.succ_mul] at hk
 have hcl : cur.toList.length = cur.size := Array.length_toList
 refine ⟨((cur.toList.drop off).drop (n * k)).take k, ?_, ?_, .inr ⟨g, off, cap, cur, rfl, hg, hc, hm, hs, ?_⟩⟩
 ·rw [List.length_take, List.length_drop, List.length_drop]; omega
 ·rw [List.length_append, hl, List.length_take, List.length_drop, List.length_drop, Nat.succ_mul]; omega
 rw [Nat.succ_mul, List.take_add, he]
end
end Go.KLib

namespace Go.KLib
section
variable {S : Int} {A : List Bool} {N : List (List Int)} {r : List Int} {k i : Nat} {t : Int}
end
noncomputable def exR (e : List Token) : List UInt8 := bif ivE e then exS e else []
theorem Zmu {e : List Token} (h : ivE e = false) : [] = exR e := by unfold exR; rw [h]; rfl
theorem Zio {e : List Token} (h : ivE e = true) : exS e = exR e := by unfold exR; rw [h]; rfl
theorem Zkz (l : List Token) (k : Nat) : (exS (l.take k)).length ≤ 46 * k := by
 have := Zjb (l.take k); rw [List.length_take] at this; omega
section
variable {l : List Token} {k : Nat} {y : Token}
end
theorem Zdx : ∀ (t : Tr), Okd t → ∀ y ∈ t.flat, 0 ≤ arT y
 | .l0 t, h, y, hy => by
  have e : y = t := by simpa [Tr.flat] using hy
  subst e; exact Int.le_of_eq h.symm
 | .l1 t a, h, y, hy => by
  rcases (by simpa [Tr.flat] using hy : y ∈ a.flat ∨ y = t) with q | q
  ·exact Zdx a h.2 y q
  subst q; have := h.1; omega
 | .l2 t a b, h, y, hy => by
  rcases (by simpa [Tr.flat] using hy : y ∈ a.flat ∨ y ∈ b.flat ∨ y = t) with q | q | q
  ·exact Zdx a h.2.1 y q
  ·exact Zdx b h.2.2 y q
  subst q; have := h.1; omega
theorem Zhj {e : List Token} (h : ivE e = true) {k : Nat} {y : Token} (hy : e[k]? = some y) : 0 ≤ arT y := by
 obtain ⟨t, _, h2, h3, _⟩ := Zqe h
 rw [h3] at hy
 exact Zdx t h2 y (Zaa hy)
theorem Zpp {e : List Token} (h : ivE e = true) {k : Nat} {y : Token} (hy : e[k]? = some y) : 0 ≤ y.low ∧ y.low ≤ 99 ∧ 0 ≤ y.high ∧ y.high ≤ 99 := by
 have h1 := Zhj h hy
 unfold arT at h1
 repeat' split at h1
 all_goals omega
end Go.KLib

namespace Go.KLib
open Go.Sort Go.RowKit Go.Shelf Go.Proofs
theorem Zjz {P : Program} {ρ : Ren} {w : World} {s : List UInt8} {m : Int} {L0 B : Nat} (L : LaysM.n146 P ρ) (h : Ls ics 1 w L0 B (.slice (some ⟨ρ.g 1, 0, none⟩) 1 1) [m]) (hb : s.length ≤ 4194304) :
   Ctr P (ρ.f 146) #[bst s, bst [32]] w (fun v w' => Ol scs (ρ.t 9) 1 w' v (Zx s 32 []) ∧ Lo w.heap.size v ∧ Ch [] w w') := by
 have hm : w.cell? ⟨ρ.g 1, 0, none⟩ = some (.int .i64 m) := by
  obtain ⟨_, A, c, hv, _, _, h3⟩ := h
  obtain ⟨ad, he, ha⟩ := h3 (by simp)
  injection hv with hv _ _
  rw [he] at hv; injection hv with hv; subst hv
  have := ha.2 0 (.int .i64 m) (by simp [ics])
  rwa [Addr.add_lit] at this
 have h32 : (bys [32]).data.toList = [32] := by simp [bys]
 have hsd : (bys s).data.toList = s := by simp [bys]
 have hcnt : Lib.countB (bys s) (bys [32]) = Lib.count s [32] := by
  show Lib.count (bys s).data.toList (bys [32]).data.toList = _
  rw [h32, hsd]
 have hdat : (Lib.splitB (bys [32]) 0 (Lib.countB (bys s) (bys [32])) (bys s)).map (·.data.toList) = Zx s 32 [] := by
  rw [Lib.splitB_data, h32, hsd, hcnt]
  exact Zgq 32 _ s (Nat.lt_succ_self _)
 have hall := Lib.splitB_all (bys [32]) (by decide) 0 _ (bys s) rfl
 refine (Any.strings_Split { L with } L.i9 (bys s) (bys [32]) m w (by show s.length < _; omega) hm (by decide)).mono ?_
 rintro e w' ⟨rfl, rfl⟩
 obtain ⟨X, hX⟩ : ∃ X, X = Lib.splitB (bys [32]) 0 (Lib.countB (bys s) (bys [32])) (bys s) := ⟨_, rfl⟩
 rw [← hX] at hdat hall ⊢
 have hc := Zbu s 32 []
 have hl : X.length = (Zx s 32 []).length := by rw [← hdat, List.length_map]
 have hval : X.map Value.string = (Zx s 32 []).flatMap scs := by
  rw [Zfm, ← hdat, List.map_map]
  refine List.map_congr_left fun x _ => ?_
  show Value.string x = .string ⟨x.data.toList.toArray⟩
  congr 1
 refine ⟨_, rfl, ?_, ?_, Ch.alloc w _⟩
 ·have := Ow.made w (ρ.t 9) 1 (Lib.countB (bys s) (bys [32]) + 1) (X.map Value.string).toArray (Lib.countB (bys s) (bys [32]) + 1) (Nat.le_refl _) (by simp only [maxLen]; omega) (by simp; omega)
  rw [← hall, hl] at this ⊢
  unfold Ol
  rw [hval] at this ⊢
  have hz : ((Zx s 32 []).flatMap scs).length = (Zx s 32 []).length := by rw [Zfm, List.length_map]
  rwa [List.toList_toArray, List.take_of_length_le (by rw [hz, Nat.mul_one]; exact Nat.le_refl _)] at this
 intro g hg
 simp [bl, Value.ownBlock] at hg
 omega
theorem Zpf {W : World} {g : Nat} {m : Int} (h : W.cell? ⟨g, 0, none⟩ = some (.int .i64 m)) : Ls ics 1 W 0 W.heap.size (.slice (some ⟨g, 0, none⟩) 1 1) [m] := by
 have hb := World.block_lt_of_cell? _ _ h
 refine ⟨rfl, _, _, rfl, Nat.le_refl _, by decide, fun _ => ⟨_, rfl, ⟨Nat.zero_le _, hb⟩, fun j u hu => ?_⟩⟩
 have e : [m].flatMap ics = [Value.int .i64 m] := rfl
 rw [e] at hu
 match j, hu with
 | 0, hu =>
  injection hu with hu; subst hu
  rw [Addr.add_lit]; exact h
end Go.KLib
namespace Go
end Go

namespace Go.KLib
open Go.Sort
section
variable {P : Program} {w : World} {l : KL} {dst : Option Tmp} {ty : TypeId} {pos : String} {aft : Array Go.Edge} {gd : Option (Nat × Bool)} {K : Value → World → Prop}
variable {α : Type} {cs : α → List Value} {e k n lo hi i : Nat} {v : Value} {xs : List α} {C D : List Value}
end
section
variable {β : Type} {C X Z : List β} {i n k : Nat}
end
end Go.KLib

namespace Go.KLib
open Go.Sort
instance : Inhabited GEdge := ⟨⟨0, 0, 0, 0⟩⟩
section
variable {P : Program} {w : World} {l : KL} {dst : Option Tmp} {ty : TypeId} {pos : String} {aft : Array Go.Edge} {gd : Option (Nat × Bool)} {K : Value → World → Prop}
variable {α : Type} {cs : α → List Value} {e k n N m lo hi c i j : Nat} {v u sv : Value} {A : Option Addr} {xs ys : List Value} {X : List α}
theorem Ow.some (h : Ow w e k (.slice A n c) n xs) (h0 : 0 < n) : ∃ g off, A = some ⟨g, off, none⟩ := by
 obtain ⟨_, ⟨_, h1⟩ | ⟨g, off, cap, cur, hv, _⟩⟩ := h
 ·omega
 injection hv with h2 _ _
 exact ⟨g, off, h2⟩
end
section
variable {β : Type} {Z : List β} {i n k : Nat}
end
section
variable {P : Program} {w : World} {l : KL} {dst : Option Tmp} {ty : TypeId} {pos : String} {aft : Array Go.Edge} {gd : Option (Nat × Bool)} {K : Value → World → Prop}
variable {α : Type} {cs : α → List Value} {e k n m i j c by_ N : Nat} {z : Value} {A : Option Addr} {s : List α}
end
section
variable {F : Int} {G : List GD} {C : List Chg} {z : GD} {i : Nat}
end
section
open Go.ChangeShapes Go.WideShapes Go.ChangeAt Go.RowKit Go.Deep Go.Joins
variable {H : Type} {enc : TypeId × Value → H} {P : Program} {w : World} {base : Nat} {spare : Nat → Bool} {held : Bool}
end
end Go.KLib

namespace Go.KLib
section
variable {V : List Int} {E F : List GEdge} {e : GEdge} {c : Chg} {l : List Chg} {m i : Nat}
end
section
variable {F : Int} {G H : List GD} {C : List Chg} {x z : GD} {n v : Int}
end
theorem SepH.put {o : Value} {vs : List Gv} {i : Nat} {p : Gv} (h : SepH o vs) (h1 : ∀ g ∈ bl p.v.v, g ∉ bl o) (h2 : ∀ g ∈ bl p.e.v, g ∉ bl o) : SepH o (vs.set i p) := fun u hu => by
 rcases List.mem_or_eq_of_mem_set hu with q | q
 ·exact h u q
 rw [q]; exact ⟨h1, h2⟩
theorem OdG.put {e1 e2 lo hi hi' i : Nat} {w : World} {vs : List Gv} {xs : List GD} {y p : Gv} {z x : GD} (h : OdG e1 e2 w lo hi vs xs) (hy : vs[i]? = some y) (hz : xs[i]? = some z) (o1 : Ol ics e1 1 w p.v.v x.V) (o2 : Ol GEdge.cs e2 4 w p.e.v x.E) (l1 : Lo hi p.v.v) (l2 : Lo hi p.e.v) (u1 : ∀ g ∈ bl p.v.v, g < hi') (u2 : ∀ g ∈ bl p.e.v, g < hi') (hd : ∀ g ∈ bl p.v.v, g ∉ bl p.e.v) (hh : hi ≤ hi') (hlo : lo ≤ hi) : OdG e1 e2 w lo hi' (vs.set i p) (xs.set i x) := by
 refine ⟨by simp [h.1], ?_, ?_, fun u hu t ht g hg hm => ?_⟩
 ·rw [List.map_set, List.map_set]; exact h.2.1.put (Zbj (f := (·.v)) hy) (Zbj (f := (·.V)) hz) (Ch.refl [] w) (fun g hg => by cases hg) o1 (fun g hg => .inr ⟨l1 g hg, u1 g hg⟩) hh hlo
 ·rw [List.map_set, List.map_set]; exact h.2.2.1.put (Zbj (f := (·.e)) hy) (Zbj (f := (·.E)) hz) (Ch.refl [] w) (fun g hg => by cases hg) o2 (fun g hg => .inr ⟨l2 g hg, u2 g hg⟩) hh hlo
 rcases List.mem_or_eq_of_mem_set hu with q | q <;> rcases List.mem_or_eq_of_mem_set ht with r | r
 ·exact h.2.2.2 u q t r g hg hm
 ·rw [r] at hm; have a := ((h.rng q).1 g hg).2; have b := l2 g hm; omega
 ·rw [q] at hg; have a := ((h.rng r).2 g hm).2; have b := l1 g hg; omega
 rw [q] at hg; rw [r] at hm; exact hd g hg hm
section
variable {P : Program} {l : KL} {dst : Option Tmp} {ty : TypeId} {pos : String} {aft : Array Go.Edge} {gd : Option (Nat × Bool)}
theorem Tk.and {S X : World → Prop} {o : Oper} {G : Value → Prop} (h : Tk P S l o G) : Tk P (fun w => S w ∧ X w) l o G := let ⟨v, h1, h2⟩ := h; ⟨v, fun w hw => h1 w hw.1, h2⟩
end
end Go.KLib

namespace Go.KLib
open Go.Sort Go.RowKit Go.Shelf Go.Proofs
def piR (s : List UInt8) : Int × Bool :=
 if 10 < s.length then (0, false) else
 match Lib.atoi s with
 | some n => if Lib.itoa n = s ∧ -999999999 ≤ n ∧ n ≤ 999999999 then (n, true) else (0, false)
 | none => (0, false)
def brS (p : List UInt8) : List UInt8 × List UInt8 × Bool := Lib.cut (Lib.trimS p [123, 125]) [44]
def tkR (p : List UInt8) : Token :=
 if p = [33] then ⟨1, 0, 0, 0⟩ else if p = [40, 41] then ⟨2, 0, 0, 0⟩ else if p = [46] then ⟨4, 0, 0, 0⟩ else if p = [124] then ⟨5, 0, 0, 0⟩ else if p = [42] then ⟨6, 0, 0, 0⟩
 else if (plR p).2 = true then ⟨3, (plR p).1, 0, 0⟩ else ⟨7, 0, (piR (brS p).1).1, (piR (brS p).2.1).1⟩
def allT : List Token := [⟨1, 0, 0, 0⟩, ⟨2, 0, 0, 0⟩, ⟨3, 0, 0, 0⟩, ⟨3, 1, 0, 0⟩, ⟨3, 2, 0, 0⟩, ⟨3, 3, 0, 0⟩, ⟨3, 4, 0, 0⟩, ⟨3, 5, 0, 0⟩, ⟨3, 6, 0, 0⟩, ⟨3, 7, 0, 0⟩, ⟨3, 8, 0, 0⟩, ⟨4, 0, 0, 0⟩, ⟨5, 0, 0, 0⟩, ⟨6, 0, 0, 0⟩,
 ⟨7, 0, 0, 1⟩, ⟨7, 0, 1, 1⟩, ⟨7, 0, 0, 2⟩, ⟨7, 0, 1, 2⟩, ⟨7, 0, 2, 2⟩, ⟨7, 0, 0, 3⟩, ⟨7, 0, 1, 3⟩, ⟨7, 0, 2, 3⟩, ⟨7, 0, 3, 3⟩]
theorem Zlp {t : Token} (h : 0 ≤ arT t) : t ∈ allT := by
 obtain ⟨k, l, a, b⟩ := t
 unfold arT at h
 dsimp only at h
 split at h
 ·rename_i hk
  split at h
  ·rename_i e; obtain ⟨rfl, rfl, rfl⟩ := e
   rcases hk with rfl | rfl <;> decide
  omega
 split at h
 ·rename_i _ hk
  subst hk
  split at h
  ·rename_i e; obtain ⟨⟨e1, e2⟩, rfl, rfl⟩ := e
   obtain ⟨n, rfl⟩ := Int.eq_ofNat_of_zero_le e1
   have : n < 9 := by omega
   have key : ∀ n : Nat, n < 9 → (⟨3, (n : Int), 0, 0⟩ : Token) ∈ allT := by decide
   exact key n this
  omega
 split at h
 ·rename_i hk
  split at h
  ·rename_i e; obtain ⟨rfl, rfl, rfl⟩ := e
   rcases hk with rfl | rfl <;> decide
  omega
 split at h
 ·rename_i hk
  subst hk
  split at h
  ·rename_i e; obtain ⟨rfl, rfl, rfl⟩ := e; decide
  omega
 split at h
 ·rename_i hk
  subst hk
  split at h
  ·rename_i e; obtain ⟨rfl, ⟨h1, h2⟩, h3, h4⟩ := e
   obtain ⟨n, rfl⟩ := Int.eq_ofNat_of_zero_le h3
   obtain ⟨m, rfl⟩ := Int.eq_ofNat_of_zero_le (show 0 ≤ b by omega)
   have key : ∀ m : Nat, m < 4 → ∀ n : Nat, n < 4 → (¬ (1 ≤ m ∧ n ≤ m)) ∨ (⟨7, 0, (n : Int), (m : Int)⟩ : Token) ∈ allT := by decide
   exact (key m (by omega) n (by omega)).resolve_left (by omega)
  omega
 omega
theorem Zng : ∀ t ∈ allT, rdT (Qc t) = t := by decide +kernel
theorem Zmx : ∀ t ∈ allT, tkR (Qc t) = t := by decide +kernel
theorem Zoe : ∀ t ∈ allT, (32 : UInt8) ∉ Qc t := by decide +kernel
theorem Zgh {p : Nat → Bool} {l : List Nat} {i : Nat} (h : l.find? p = some i) : p i = true := List.find?_some h
theorem Znk {p : List UInt8} (h : 0 ≤ arT (rdT p)) : Qc (rdT p) = p := by
 unfold rdT at *
 cases hk : rdK p 7 with
 | some i =>
  have := Zgh hk
  simpa using (of_decide_eq_true this).2.2
 | none =>
  rw [hk] at h
  dsimp only at h ⊢
  by_cases hl : (plR p).2 = true
  ·rw [if_pos hl] at h ⊢
   unfold plR at *
   cases hi : ltrI p 9 with
   | none => rw [hi] at hl; cases hl
   | some i =>
    dsimp only
    have h1 := of_decide_eq_true (Zgh hi)
    have h2 : i < 9 := by have := List.mem_of_find?_eq_some hi; simpa using this
    show Qc ⟨3, (i : Int), 0, 0⟩ = p
    have e : Qc ⟨3, (i : Int), 0, 0⟩ = fmtL (i : Int) := rfl
    rw [e, ← h1]; unfold fmtL; rw [if_pos (by omega), Int.toNat_natCast]
  rw [if_neg hl] at h ⊢
  by_cases hc : p.length = 5 ∧ bat p 0 = 123 ∧ bat p 2 = 44 ∧ bat p 4 = 125
  ·rw [if_pos hc] at h ⊢
   obtain ⟨h5, h0, h2, h4⟩ := hc
   match p, h5 with
   | [a, b, c, d, e], _ =>
    have e0 : bat [a, b, c, d, e] 0 = (a.toNat : Int) := rfl
    have e1 : bat [a, b, c, d, e] 1 = (b.toNat : Int) := rfl
    have e2 : bat [a, b, c, d, e] 2 = (c.toNat : Int) := rfl
    have e3 : bat [a, b, c, d, e] 3 = (d.toNat : Int) := rfl
    have e4 : bat [a, b, c, d, e] 4 = (e.toNat : Int) := rfl
    rw [e0] at h0; rw [e2] at h2; rw [e4] at h4; rw [e1, e3] at h ⊢
    obtain rfl : a = 123 := UInt8.toNat_inj.1 (by have : (123 : UInt8).toNat = 123 := rfl; omega)
    obtain rfl : c = 44 := UInt8.toNat_inj.1 (by have : (44 : UInt8).toNat = 44 := rfl; omega)
    obtain rfl : e = 125 := UInt8.toNat_inj.1 (by have : (125 : UInt8).toNat = 125 := rfl; omega)
    have hr : (1 ≤ (d.toNat : Int) - 48 ∧ (d.toNat : Int) - 48 ≤ 3) ∧ 0 ≤ (b.toNat : Int) - 48 ∧ (b.toNat : Int) - 48 ≤ (d.toNat : Int) - 48 := by
     unfold arT at h
     dsimp only at h
     rw [if_neg (by decide), if_neg (by decide), if_neg (by decide), if_neg (by decide), if_pos rfl] at h
     split at h
     ·rename_i q; exact q.2
     omega
    have et : Qc ⟨7, 0, (b.toNat : Int) - 48, (d.toNat : Int) - 48⟩ = (((([123] : List UInt8) ++ fmtI ((b.toNat : Int) - 48)) ++ [44]) ++ fmtI ((d.toNat : Int) - 48)) ++ [125] := rfl
    rw [et, Zfa (by omega), Zfa (by omega)]; rfl
  rw [if_neg hc] at h
  exact absurd h (by decide)
theorem Zlu {c : UInt8} : ∀ (ps : List (List UInt8)), ps ≠ [] → (∀ p ∈ ps, c ∉ p) → Zx (jnS [c] ps) (c.toNat : Int) [] = ps
 | [], h, _ => absurd rfl h
 | [p], _, h => by rw [Zmc, Zek p [] (h p (List.mem_singleton.2 rfl))]; rfl
 | p :: q :: r, _, h => by
  rw [Zjl (by simp), List.append_assoc]
  show Zx (p ++ c :: jnS [c] (q :: r)) _ [] = _
  rw [Zfh p [] _ (h p (List.mem_cons_self ..)), Zlu (q :: r) (by simp) (fun x hx => h x (List.mem_cons_of_mem _ hx))]; rfl
theorem Zjo {e : List Token} (h : ivE e = true) : e.length ≤ 24 := by
 unfold ivE at h; rw [Bool.and_eq_true] at h; exact of_decide_eq_true h.1
theorem Zhk {e : List Token} (h : ivE e = true) : ∀ t ∈ e, t ∈ allT := fun t ht => by
 obtain ⟨i, hi, rfl⟩ := List.mem_iff_getElem.1 ht
 exact Zlp (Zhj h (List.getElem?_eq_getElem hi))
theorem Zpr {e : List Token} (h : ivE e = true) : e ≠ [] := fun q => by subst q; revert h; decide
theorem Zel {α β : Type} {f : α → β} {g : β → α} {l : List α} (h : ∀ x ∈ l, g (f x) = x) : (l.map f).map g = l := by
 rw [List.map_map]
 conv => rhs; rw [← List.map_id l]
 exact List.map_congr_left fun x hx => h x hx
theorem Zlz {e : List Token} (h : ivE e = true) : Zx (exS e) 32 [] = e.map Qc := by
 unfold exS
 exact Zlu (c := 32) (e.map Qc) (by simpa using Zpr h) fun p hp => by
  obtain ⟨t, ht, rfl⟩ := List.mem_map.1 hp
  exact Zoe t (Zhk h t ht)
theorem Zhq {e : List Token} (h : ivE e = true) : Xp (exS e) = (e, true) := by
 refine Zcj ?_ h
 rw [Zlz h, List.take_of_length_le (by rw [List.length_map]; have := Zjo h; omega), Zel fun t ht => Zng t (Zhk h t ht)]
theorem Zoz {e : List Token} (h : ivE e = true) : exS e ≠ [] := fun q => by
 have h1 := Zhq h
 rw [q] at h1
 have : (Xp []).2 = false := by decide +kernel
 rw [h1] at this; cases this
theorem Zqf {s : List UInt8} {es : List Token} (h1 : (Xp s).2 = true) (he : es = (Xp s).1) : ivE es = true ∧ exS es = s ∧ es = (Zx s 32 []).map rdT := by
 subst he
 unfold Xp at *
 split at h1
 ·rename_i hv
  rw [if_pos hv]
  have hl := Zjo hv
  rw [List.length_map, List.length_take] at hl
  have ht : (Zx s 32 []).take 25 = Zx s 32 [] := List.take_of_length_le (by omega)
  rw [ht] at hv ⊢
  refine ⟨hv, ?_, rfl⟩
  have := Zis (32 : UInt8) s []
  unfold exS
  rw [Zel fun p hp => ?_]
  ·exact this
  obtain ⟨i, hi, rfl⟩ := List.mem_iff_getElem.1 hp
  exact Znk (Zhj hv (k := i) (by rw [List.getElem?_map, List.getElem?_eq_getElem hi]; rfl))
 cases h1
section
variable {s : List UInt8} {ts : List Token}
theorem pe_y (ht : ts = (Zx s 32 []).map tkR) (h : exR ts = s) (h0 : s ≠ []) : Xp s = (ts, true) := by
 have hv : ivE ts = true := by
  cases q : ivE ts with
  | true => rfl
  | false => rw [← Zmu q] at h; exact absurd h.symm h0
 rw [← Zio hv] at h
 rw [← h]; exact Zhq hv
theorem pe_n (ht : ts = (Zx s 32 []).map tkR) (h : s = [] ∨ exR ts ≠ s) : Xp s = ([], false) := by
 cases q : (Xp s).2 with
 | false =>
  unfold Xp at *
  split at q
  ·cases q
  rename_i hn; rw [if_neg hn]
 | true =>
  obtain ⟨hv, hs, he⟩ := Zqf q rfl
  rcases h with h | h
  ·subst h; exact absurd hs (Zoz hv)
  refine absurd ?_ h
  have : ts = (Xp s).1 := by
   have hc : Zx s 32 [] = (Xp s).1.map Qc := by rw [← Zlz hv, hs]
   rw [ht, hc]; exact Zel fun t h => Zmx t (Zhk hv t h)
  rw [this, ← Zio hv]; exact hs
end
section
variable {s p : List UInt8} {n : Int}
def aiN (s : List UInt8) : Int := (Lib.atoi s).getD 0
theorem Zaq (h : 10 < s.length) : ((0 : Int), false) = piR s := by unfold piR; rw [if_pos h]
theorem Zar (h : ¬ 10 < s.length) (ha : (Lib.atoi s).isNone = true) : ((0 : Int), false) = piR s := by
 unfold piR; rw [if_neg h, Option.isNone_iff_eq_none.1 ha]
theorem Zjg (ha : (Lib.atoi s).isNone = false) : Lib.atoi s = some (aiN s) := by
 unfold aiN
 cases q : Lib.atoi s with
 | none => rw [q] at ha; cases ha
 | some n => rfl
theorem Qa (h : ¬ 10 < s.length) (ha : (Lib.atoi s).isNone = false) (hb : ¬ (Lib.itoa (aiN s) = s ∧ -999999999 ≤ aiN s ∧ aiN s ≤ 999999999)) : ((0 : Int), false) = piR s := by
 unfold piR; rw [if_neg h, Zjg ha]; exact (if_neg hb).symm
theorem pi_y (h : ¬ 10 < s.length) (ha : (Lib.atoi s).isNone = false) (hb : Lib.itoa (aiN s) = s ∧ -999999999 ≤ aiN s ∧ aiN s ≤ 999999999) : (aiN s, true) = piR s := by
 unfold piR; rw [if_neg h, Zjg ha]; exact (if_pos hb).symm
theorem Zpd (h : ¬ 10 < s.length) : -1000000000000000000 < aiN s ∧ aiN s < 1000000000000000000 := by
 unfold aiN
 cases q : Lib.atoi s with
 | none => exact ⟨by decide, by decide⟩
 | some n => exact Lib.atoi_bound q (by omega)
theorem tk_1 (h : p = [33]) : ⟨1, 0, 0, 0⟩ = tkR p := by unfold tkR; rw [if_pos h]
theorem tk_2 (h1 : ¬ p = [33]) (h : p = [40, 41]) : ⟨2, 0, 0, 0⟩ = tkR p := by unfold tkR; rw [if_neg h1, if_pos h]
theorem tk_4 (h1 : ¬ p = [33]) (h2 : ¬ p = [40, 41]) (h : p = [46]) : ⟨4, 0, 0, 0⟩ = tkR p := by unfold tkR; rw [if_neg h1, if_neg h2, if_pos h]
theorem tk_5 (h1 : ¬ p = [33]) (h2 : ¬ p = [40, 41]) (h3 : ¬ p = [46]) (h : p = [124]) : ⟨5, 0, 0, 0⟩ = tkR p := by unfold tkR; rw [if_neg h1, if_neg h2, if_neg h3, if_pos h]
theorem tk_6 (h1 : ¬ p = [33]) (h2 : ¬ p = [40, 41]) (h3 : ¬ p = [46]) (h4 : ¬ p = [124]) (h : p = [42]) : ⟨6, 0, 0, 0⟩ = tkR p := by unfold tkR; rw [if_neg h1, if_neg h2, if_neg h3, if_neg h4, if_pos h]
theorem tk_3 (h1 : ¬ p = [33]) (h2 : ¬ p = [40, 41]) (h3 : ¬ p = [46]) (h4 : ¬ p = [124]) (h5 : ¬ p = [42]) (h : (plR p).2 = true) : ⟨3, (plR p).1, 0, 0⟩ = tkR p := by unfold tkR; rw [if_neg h1, if_neg h2, if_neg h3, if_neg h4, if_neg h5, if_pos h]
theorem tk_7 (h1 : ¬ p = [33]) (h2 : ¬ p = [40, 41]) (h3 : ¬ p = [46]) (h4 : ¬ p = [124]) (h5 : ¬ p = [42]) (h : (plR p).2 = false) : ⟨7, 0, (piR (Lib.cut (Lib.trimS p [123, 125]) [44]).1).1, (piR (Lib.cut (Lib.trimS p [123, 125]) [44]).2.1).1⟩ = tkR p := by
 unfold tkR; rw [if_neg h1, if_neg h2, if_neg h3, if_neg h4, if_neg h5, if_neg (by rw [h]; decide)]; rfl
theorem Ziu {α : Type} (q : α → Bool) : ∀ l : List α, (l.dropWhile q).length ≤ l.length
 | [] => Nat.le_refl _
 | a :: l => by
  rw [List.dropWhile_cons]
  split
  ·have := Ziu q l; simp; omega
  exact Nat.le_refl _
theorem Zkc (l cs : List UInt8) : (Lib.trimS l cs).length ≤ l.length := by
 unfold Lib.trimS Lib.trimLeftS Lib.trimRightS
 refine Nat.le_trans (Ziu _ _) ?_
 rw [List.length_reverse]
 refine Nat.le_trans (Ziu _ _) ?_
 rw [List.length_reverse]; exact Nat.le_refl _
theorem Zdd : ∀ (s : List UInt8) (sep : Int) (cur : List UInt8) (p : List UInt8), p ∈ Zx s sep cur → p.length ≤ cur.length + s.length
 | [], _, cur, p, h => by
  have : p = cur := by simpa [Zx] using h
  rw [this]; simp
 | c :: s, sep, cur, p, h => by
  rw [Zay] at h
  split at h
  ·rcases List.mem_cons.1 h with h | h
   ·rw [h]; simp
   have := Zdd s sep [] p h; simp at this ⊢; omega
  have := Zdd s sep (cur ++ [c]) p h; simp at this ⊢; omega
end
end Go.KLib

namespace Go.KLib
open Go.Sort Go.RowKit Go.Shelf Go.Proofs
structure GS (P : Program) (gM : Nat) (w : World) : Prop where
 m : ∃ m, w.cell? ⟨gM, 0, none⟩ = some (.int .i64 m)
 e : ∃ tp p, w.var? P "strconv.ErrSyntax" = some #[.iface tp p]
 t : Lib.TabIs P w "internal/strconv.uint64pow10" .u64 Lib.pow10Tab
theorem Zlx {P : Program} {w w' : World} {n : String} {cs : Array Value} (h : w.var? P n = some cs) (c : Ch [] w w') : w'.var? P n = some cs := by
 unfold World.var? at h ⊢
 cases hg : P.globalNamed n with
 | none => simp [hg] at h
 | some g =>
  simp only [hg, Option.bind_some] at h ⊢
  have hlt : g < w.heap.size := by
   rcases Nat.lt_or_ge g w.heap.size with h' | h'
   ·exact h'
   simp [Array.getElem?_eq_none h'] at h
  rw [c.block g hlt (by simp)]; exact h
theorem GS.ch {P : Program} {gM : Nat} {w w' : World} (h : GS P gM w) (c : Ch [] w w') : GS P gM w' := by
 obtain ⟨⟨m, hm⟩, ⟨tp, p, he⟩, ht⟩ := h
 exact ⟨⟨m, c.cell hm (by simp)⟩, ⟨tp, p, Zlx he c⟩, Zlx ht c⟩
section
variable {P : Program} {ρ : Ren} {w : World} {s sep : List UInt8} {n : Int}
theorem Znw (L : LaysM.n146 P ρ) (h : GS P (ρ.g 1) w) (hb : s.length ≤ 4194304) :
   Ctr P (ρ.f 146) #[bst s, bst [32]] w (fun v w' => Ol scs (ρ.t 9) 1 w' v (Zx s 32 []) ∧ Lo w.heap.size v ∧ Ch [] w w') :=
 let ⟨_, hm⟩ := h.m
 Zjz L (Zpf hm) hb
theorem Zpt (L : Lays.n145 P ρ) (h : GS P (ρ.g 1) w) (hb : s.length ≤ 4194304) :
   Ctr P (ρ.f 145) #[bst s, bst sep] w (fun v w' => v = .tuple #[bst (Lib.cut s sep).1, bst (Lib.cut s sep).2.1, .bool (Lib.cut s sep).2.2] ∧ Ch [] w w') := by
 obtain ⟨m, hm⟩ := h.m
 have e1 : (bys s).data.toList = s := by simp [bys]
 have e2 : (bys sep).data.toList = sep := by simp [bys]
 refine (Any.strings_Cut L (bys s) (bys sep) m w (by show s.length < _; omega) hm).mono ?_
 rintro e w' ⟨rfl, k, rfl⟩
 refine ⟨_, rfl, ?_, ⟨rfl, rfl, rfl, Nat.le_refl _, fun _ _ _ => rfl⟩⟩
 rw [e1, e2]; rfl
theorem Zpn (L : Lays.n160 P ρ) (h116 : (P.info? (ρ.t 116)).map (fun i => (i.zero, i.size)) = some (some (.agg (Array.replicate 256 (.bool false))), 256)) (hb : s.length ≤ 4194304) :
   Ctr P (ρ.f 160) #[bst s, bst [123, 125]] w (fun v w' => v = bst (Lib.trimS s [123, 125]) ∧ Ch [] w w') := by
 have e1 : (bys s).data.toList = s := by simp [bys]
 have e2 : (bys [123, 125]).data.toList = [123, 125] := by simp [bys]
 refine (Any.strings_Trim_laid L h116 (bys s) (bys [123, 125]) w (by show s.length ≤ _; omega) (by decide) (ascii_of_all (by decide))).mono ?_
 rintro e w' ⟨rfl, hb⟩
 refine ⟨_, rfl, ?_, Ch.of_below hb⟩
 rw [e1, e2]; rfl
def ErrB (e : Value) (b : Bool) : Prop := match b with
 | true => ∃ t p, e = .iface t p
 | false => e = .nilIface
theorem Zna (w : World) (e : TypeId) (s : ByteArray) : Ch [] w (Lib.bytesWorld w e s) := Ch.of_below (Lib.bytesWorld_below w e s)
theorem Zpg (L : LaysC.n172 P ρ) (L2 : Lays.n172 P ρ) {gM : Nat} (h : GS P gM w) (hb : s.length ≤ 18) :
   Ctr P (ρ.f 172) #[bst s] w (fun v w' => ∃ e, v = .tuple #[.int .i64 (aiN s), e] ∧ ErrB e (Lib.atoi s).isNone ∧ Ch [] w w') := by
 have e1 : (bys s).data.toList = s := by simp [bys]
 unfold aiN
 cases ha : Lib.atoi s with
 | some n =>
  refine (Any.strconv_Atoi L2 (bys s) n hb (by rw [e1]; exact ha) w).mono ?_
  rintro e w' ⟨rfl, t, rfl⟩
  exact ⟨_, rfl, _, rfl, rfl, Zna _ _ _⟩
 | none =>
  obtain ⟨tp, p, hv⟩ := h.e
  refine (Any.strconv_Atoi_err_var L (bys s) hb (by rw [e1]; exact ha) tp p w hv).mono ?_
  rintro e w' ⟨N, rfl, _, _, hc⟩
  exact ⟨_, rfl, _, rfl, ⟨_, _, rfl⟩, Ch.of_below hc⟩
theorem Zpc (L : LaysM.n171 P ρ) {gM : Nat} (h : GS P gM w) (hn : -9223372036854775808 ≤ n ∧ n ≤ 9223372036854775807) :
   Ctr P (ρ.f 171) #[.int .i64 n] w (fun v w' => v = bst (Lib.itoa n) ∧ Ch [] w w') := by
 refine (Any.strconv_Itoa L n hn.1 hn.2 w h.t).mono ?_
 rintro e w' ⟨rfl, k, os, rfl⟩
 exact ⟨_, rfl, rfl, Ch.of_below (Lib.below_grow _ w (Nat.le_refl _) k os)⟩
end
def ifB (P : Program) (t : TypeId) : Bool :=
 match P.underlying t with
 | some (.interface _) => true
 | _ => false
section
variable {P : Program} {w : World} {l : KL} {dst : Option Tmp} {ty : TypeId} {pos : String} {aft : Array Go.Edge} {gd : Option (Nat × Bool)} {x : Operand} {xt yt : TypeId} {e : Value} {b : Bool}
theorem Zgs (ht : ifB P xt = true) (he : ErrB e b) : (Op.equal xt e .nilIface).run P w = .ok (!b) w := by
 unfold ifB at ht
 split at ht
 ·rename_i ms hu
  have h : ∀ d, (Op.equalIn (d + 1) xt e .nilIface).run P w = .ok (!b) w := fun d => by
   cases b with
   | true => obtain ⟨t, p, rfl⟩ := he; simp [Op.equalIn, run_underlying hu]
   | false => obtain rfl : e = .nilIface := he; simp [Op.equalIn, run_underlying hu]
  exact h 9999
 cases ht
theorem Zqg (ht : ifB P xt = true) (he : ErrB e b) (hx : ev l x = some e) : Yx P l ⟨dst, .binOp .neq xt x (.const .nilIface) yt, ty, pos, aft, gd⟩ w (.bool b) w := fun ρ hρ => by
 have e1 : binOp .neq xt e .nilIface = (do pure (.bool (!(← Op.equal xt e .nilIface)))) := by
  cases b with
  | true => obtain ⟨t, p, rfl⟩ := he; rfl
  | false => obtain rfl : e = .nilIface := he; rfl
 have e2 : (eqGuard .neq xt x (.const .nilIface) e .nilIface).run P w = .ok () w := by
  cases b with
  | true => obtain ⟨t, p, rfl⟩ := he; simp [eqGuard]
  | false => obtain rfl : e = .nilIface := he; simp [eqGuard]
 simp [execOp, hρ _ _ hx, hρ (.const .nilIface) .nilIface rfl, e2, e1, Zgs ht he]
end
theorem Zqc {P : Program} {W : World} {gM g gt t e n : Nat} {ti tp te ts : TypeId} {ms : Array (String × TypeId)} {f : Field} {a b c d k : String × DataW Unit} {r : List (String × DataW Unit)} {text : List UInt8} {nm : String}
   (hm : ∃ m, W.cell? ⟨gM, 0, none⟩ = some (.int .i64 m)) (h : laidMet P (a :: b :: ("internal/strconv.uint64pow10", Lib.tabData .u64 Lib.pow10Tab) :: c :: d :: ("strconv.ErrSyntax", .iface nm (.ptr (.agg [.lit (.string text)]))) :: k :: r) W)
   (hgt : P.globalNamed "internal/strconv.uint64pow10" = some gt) (hty : (P.globals[gt]?).map (·.type) = some t) (ht : P.underlying t = some (.array n e)) (he : P.underlying e = some (.int .u64)) (hce : P.cellsOf e = 1) (hct : P.cellsOf t = n)
   (hg : P.globalNamed "strconv.ErrSyntax" = some g) (hgy : (P.globals[g]?).map (·.type) = some ti) (hi : P.underlying ti = some (.interface ms)) (hrow : ∀ u, P.typeName? 3 u = some nm → u = tp)
   (hp : P.underlying tp = some (.pointer te)) (hte : P.underlying te = some (.struct #[f])) (hft : f.type = ts) (hfo : f.offset = 0) (hs : P.underlying ts = some .string) (hc : P.cellsOf te = 1) (hcs : P.cellsOf ts = 1) : GS P gM W := by
 obtain ⟨_, _, hv, _⟩ := laid_sentinel (h.tail.tail.tail.tail.tail) hg hgy hi hrow hp hte hft hfo hs hc hcs
 exact ⟨hm, ⟨_, _, hv⟩, Lib.tabIs_of_head hgt hty ht he hce hct h.tail.tail⟩
end Go.KLib
namespace Go
theorem Zdf {H : Type} {enc : TypeId × Value → H} {a : Assume} {C : Checked} {os : Os} {f : FuncId} {fn : Func} {s : ChangeSpec} {conds : List PathCond} {apart fresh handsOn again : Bool} {X : World → Array Value → Prop}
   (hX : ∀ (w w' : World) (args : Array Value), w.heap = w'.heap → X w args → X w' args)
   (own : ownKnob C.prog.godebug = none) (started : os.Started) (noInit : C.prog.inits.idxOf? f = none) (hfn : C.prog.funcs[f]? = some fn)
   (witness : ∃ (w : World) (tape : Tape) (i : Input), w.os = os ∧ (w.forCall tape i).Shaped C.prog ∧ i.vars = [] ∧ Input.okWide C.prog (w.forCall tape i) .any w.heap.size f i ∧
     ((s.pre enc C.prog fn conds apart (w.forCall tape i).memory i.args ∧ X (w.forCall tape i).memory i.args) ∧ sizedMet enc C.prog fn (OpenSpec.ofChange s) apart (w.forCall tape i).memory i.args) ∧ a.holds C.prog (lone (Frame.enter C.prog f i.args .normal) [] (w.forCall tape i)))
   (contract : ∀ (W : World) (base : Nat) (args : Array Value) (ds gs : List (DataW H)) (before : List MemPlace),
     (∀ (j : Nat) t v, fn.params[j]? = some t → args[j]? = some v → Value.okWide C.prog W .any base t v) →
     DataW.Whole enc C.prog fn.params.toList s.vars apart W args.toList ds gs before →
     W.ShapedOpen C.prog → X W args → Calls C.prog f args W fun e W' => ∃ v, e = .returned v ∧ s.post enc C.prog fn apart fresh handsOn again W args v W') :
   ReturnsInHanded a C os f .any (fun w args => (s.pre enc C.prog fn conds apart w args ∧ X w args) ∧ sizedMet enc C.prog fn (OpenSpec.ofChange s) apart w args) (s.post enc C.prog fn apart fresh handsOn again) := by
 refine returnsInHanded_of_calls own started noInit witness ?_
 intro w tape i _ hsh _ hok hpre hholds
 obtain ⟨_, _, _, fn', hfn', _, _, _, _, hval⟩ := hok
 have e : fn' = fn := Option.some.inj (hfn'.symm.trans hfn)
 subst e
 obtain ⟨⟨⟨ds, gs, before, hw, hc⟩, hx⟩, hz⟩ := hpre
 have hw' := DataW.Whole.of_heap (w' := w.forCall tape i) (by rfl) hw
 refine (contract (w.forCall tape i) w.heap.size i.args ds gs before hval hw' hsh (hX _ _ _ (by rfl) hx)).mono fun e W' ⟨v, he, hp⟩ => ?_
 subst he
 exact ChangeSpec.post_blind hp
end Go

namespace Go.KLib
section
variable {e : List Token}
theorem Zmd (h : Xf e = none ∨ ∃ t, Xf e = some t) : (0 < (Xt e).1.length → isE (Xt e).1 = true) ∧ (0 < (Xt e).2.length → isE (Xt e).2 = true) := by
 have fl : ∀ t, Okd t → isE t.flat = true := fun t ht => by unfold isE; rw [Zdc ht]; rfl
 rcases h with h | ⟨t, h⟩
 ·rw [Qh h]; exact ⟨fun q => absurd q (Nat.lt_irrefl 0), fun q => absurd q (Nat.lt_irrefl 0)⟩
 rw [Yq h]
 have ho := (Zcm h).1
 cases t with
 | l0 k => exact ⟨fun q => absurd q (Nat.lt_irrefl 0), fun q => absurd q (Nat.lt_irrefl 0)⟩
 | l1 k a => exact ⟨fun _ => fl a ho.2, fun q => absurd q (Nat.lt_irrefl 0)⟩
 | l2 k a b => exact ⟨fun _ => fl a ho.2.1, fun _ => fl b ho.2.2⟩
theorem Zjq : Xf e = none ∨ ∃ t, Xf e = some t := by
 cases h : Xf e with
 | none => exact .inl rfl
 | some t => exact .inr ⟨t, rfl⟩
theorem Zns (h : (0 : Int) < (((Xt e).1.length : Nat) : Int)) : isE (Xt e).1 = true := (Zmd Zjq).1 (by omega)
theorem Zjh (h : (0 : Int) < (((Xt e).2.length : Nat) : Int)) : isE (Xt e).2 = true := (Zmd Zjq).2 (by omega)
theorem Zbi : (revE e).2 = isE e := by
 unfold isE
 cases h : Xf e with
 | none => rw [Zge h]; rfl
 | some t => rw [Zeb h]; rfl
theorem Znx {x : Int} (h : 0 ≤ x ∧ x ≤ 8) : invL (invL x) = x := by
 obtain ⟨n, rfl⟩ := Int.eq_ofNat_of_zero_le h.1
 have : n < 9 := by omega
 have key : ∀ n, n < 9 → invL (invL ((n : Nat) : Int)) = ((n : Nat) : Int) := by decide
 exact key n this
theorem Znb {x : Int} (h : 0 ≤ x ∧ x ≤ 8) : 0 ≤ invL x ∧ invL x ≤ 8 := by
 obtain ⟨n, rfl⟩ := Int.eq_ofNat_of_zero_le h.1
 have : n < 9 := by omega
 have key : ∀ n, n < 9 → 0 ≤ invL ((n : Nat) : Int) ∧ invL ((n : Nat) : Int) ≤ 8 := by decide
 exact key n this
theorem Zij {t : Token} (h : arT t = 0) (h3 : t.kind = 3) : (0 ≤ t.letter ∧ t.letter ≤ 8) ∧ t.low = 0 ∧ t.high = 0 := by
 unfold arT at h
 rw [if_neg (by omega), if_pos h3] at h
 split at h
 ·assumption
 omega
theorem Zld {t : Token} (h : arT t = 0) : revK (revK t) = t ∧ arT (revK t) = 0 := by
 by_cases h3 : t.kind = 3
 ·have h4 := Zij h h3
  obtain ⟨k, l, a, b⟩ := t
  dsimp only at h3 h4
  subst h3
  obtain ⟨h4, rfl, rfl⟩ := h4
  have e1 : revK ⟨3, l, 0, 0⟩ = ⟨3, invL l, 0, 0⟩ := rfl
  have e2 : revK ⟨3, invL l, 0, 0⟩ = ⟨3, invL (invL l), 0, 0⟩ := rfl
  have h5 := Znb h4
  rw [e1, e2, Znx h4]
  refine ⟨rfl, ?_⟩
  unfold arT
  dsimp only
  rw [if_neg (by omega), if_pos rfl, if_pos ⟨h5, rfl, rfl⟩]
 have e1 : revK t = t := by unfold revK; rw [if_neg h3]
 rw [e1, e1]; exact ⟨rfl, h⟩
theorem Zdz : ∀ t : Tr, Okd t → Xh (Xh t) = t ∧ Okd (Xh t)
 | .l0 t, h => by
  have := Zld h
  exact ⟨by show Tr.l0 (revK (revK t)) = _; rw [this.1], this.2⟩
 | .l1 t a, h => by
  have := Zdz a h.2
  exact ⟨by show Tr.l1 t (Xh (Xh a)) = _; rw [this.1], h.1, this.2⟩
 | .l2 t a b, h => by
  have ha := Zdz a h.2.1
  have hb := Zdz b h.2.2
  by_cases h4 : t.kind = 4
  ·have e1 : ∀ x y, Xh (.l2 t x y) = .l2 t (Xh y) (Xh x) := fun x y => by simp [Xh, h4]
   rw [e1, e1, ha.1, hb.1]; exact ⟨rfl, h.1, hb.2, ha.2⟩
  have e1 : ∀ x y, Xh (.l2 t x y) = .l2 t (Xh x) (Xh y) := fun x y => by simp [Xh, h4]
  rw [e1, e1, ha.1, hb.1]; exact ⟨rfl, h.1, ha.2, hb.2⟩
theorem Zmz (h : (revE e).2 = true) : (revE (revE e).1).1 = e := by
 rw [Zbi] at h
 obtain ⟨t, h1, h2, h3⟩ := Zmt h
 have hr := Zdz t h2
 rw [Zeb h1]
 show (revE (Xh t).flat).1 = e
 rw [Zeb (Zdc hr.2), hr.1, h3]
theorem Zix (e : List Token) : (exR e).length ≤ 46 * e.length := by
 unfold exR
 cases ivE e with
 | true => exact Zjb e
 | false => simp
theorem Znd : Xp [] = ([], false) := by decide +kernel
theorem Zbg : (Xp (exR e)).2 = ivE e := by
 cases h : ivE e with
 | true => rw [← Zio h, Zhq h]
 | false => rw [← Zmu h, Znd]
theorem Zhv (h : (Xp (exR e)).2 = true) : (Xp (exR e)).1 = e := by
 rw [Zbg] at h
 rw [← Zio h, Zhq h]
end
end Go.KLib

namespace Go.KLib
theorem om {P : Prop} (h : P := by omega) : P := h
theorem bd {P : Prop} (h : P := by first | omega | (simp only [List.length_append, List.length_nil, List.length_cons, List.length_replicate, List.length_set, List.length_reverse, List.length_map] at *; omega) | (simp at *; omega)) : P := h
section
variable {α : Type} {cs : α → List Value} {e k : Nat} {w : World} {v : Value} {xs : List α} {L B b c lo hi : Nat} {P : Nat → Prop}
theorem Ol.opn (h : Ol cs e k w v xs) : ∃ A C, v = .slice A xs.length C ∧ xs.length ≤ 9223372036854775807 ∧ ∀ g ∈ bl v, g < w.heap.size := by
 obtain ⟨A, C, e⟩ := h.val
 exact ⟨A, C, e, h.len, h.lt⟩
theorem nS (h : b ≠ c) : b ∉ [c] := fun q => h (List.mem_singleton.1 q)
theorem lS (h : lo ≤ b) : ∀ i ∈ [b], lo ≤ i ∨ P i := fun i q => .inl (by rw [List.mem_singleton.1 q]; exact h)
theorem oS (h : P b) : ∀ i ∈ [b], P i := fun i q => by rw [List.mem_singleton.1 q]; exact h
theorem dS (h1 : Lo lo v) (h2 : ∀ g ∈ bl v, g < hi) (h : b < lo ∨ hi ≤ b) : ∀ g ∈ bl v, g ∉ [b] := fun g hg hm => by
 have q := List.mem_singleton.1 hm
 have a := h1 g hg
 have z := h2 g hg
 omega
end
section
variable {P : Program} {N : Nat} {ops : Array Oper} {Q : Po} {l : KL} {w : World} {o : Oper} {S : World → Prop} {fuel : Nat} {listed : Array Bool} {v : Value}
theorem dT (i : Nat) (hi : ops[i]? = some o) (hd : dOk N o.dst = true) (hg : Zdq ops l o = some true) (h : Tk P S l o fun v => DR P N ops Q S fuel (listed.setIfInBounds i true) (pu l o.dst v) w) (hk : Zdk ops listed i = true := by kernel_rfl) : DR P N ops Q S (fuel + 1) listed l w := DR_s i hi hk hd hg h
theorem dV (i : Nat) (hi : ops[i]? = some o) (hd : dOk N o.dst = true) (hg : Zdq ops l o = some true) (hv : ∀ w, Yx P l o w v w) (h : DR P N ops Q S fuel (listed.setIfInBounds i true) (pu l o.dst v) w) (hk : Zdk ops listed i = true := by kernel_rfl) : DR P N ops Q S (fuel + 1) listed l w := DR_s i hi hk hd hg (t_v hv h)
theorem dK (i : Nat) (hi : ops[i]? = some o) (hd : dOk N o.dst = true) (hg : Zdq ops l o = some false) (h : DR P N ops Q S fuel (listed.setIfInBounds i true) (pu l o.dst undef) w) (hk : Zdk ops listed i = true := by kernel_rfl) : DR P N ops Q S (fuel + 1) listed l w := Zod i hi hk hd hg h
theorem dO (i : Nat) (h : DO P N ops Q S fuel listed i l w) (hr : Region.ready .any ops listed = [i] := by kernel_rfl) : DR P N ops Q S (fuel + 1) listed l w := Zpm i hr h
end
section
variable {l l9 : KL}
theorem sC1 {t0 : Nat} {v0 : Value} (h0 : look l9 t0 = some v0) (h : Sub l l9) : Sub ((t0, v0) :: l) l9 := (Sub.cons h0 h)
theorem sC2 {t0 t1 : Nat} {v0 v1 : Value} (h0 : look l9 t0 = some v0) (h1 : look l9 t1 = some v1) (h : Sub l l9) : Sub ((t0, v0) :: (t1, v1) :: l) l9 := (Sub.cons h0 (Sub.cons h1 h))
theorem sC4 {t0 t1 t2 t3 : Nat} {v0 v1 v2 v3 : Value} (h0 : look l9 t0 = some v0) (h1 : look l9 t1 = some v1) (h2 : look l9 t2 = some v2) (h3 : look l9 t3 = some v3) (h : Sub l l9) : Sub ((t0, v0) :: (t1, v1) :: (t2, v2) :: (t3, v3) :: l) l9 := (Sub.cons h0 (Sub.cons h1 (Sub.cons h2 (Sub.cons h3 h))))
end
end Go.KLib

